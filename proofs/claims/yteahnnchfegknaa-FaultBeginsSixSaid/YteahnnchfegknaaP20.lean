/- Plain laws of interpreterlaw15's functions: FaultBeginsSix returns true. -/
import Derived.Test.YteahnnchfegknaaP19
import Derived.Test.YteahnnchfegknaaL15v
set_option linter.unusedVariables false
set_option linter.unusedSimpArgs false
namespace Go.Rx.L15F
open Go.Rx

theorem tot_bind {α β : Type} {X : Option α} {f : α → Option β} (h : ∃ q, X = some q) (h' : ∀ q, ∃ w, f q = some w) : ∃ w, Option.bind X f = some w := by
  obtain ⟨q, rfl⟩ := h
  exact h' q
theorem tot_bif {α : Type} {b : Bool} {x y : Option α} (h : ∃ w, x = some w) (h' : ∃ w, y = some w) : ∃ w, (bif b then x else y) = some w := by
  cases b <;> assumption
theorem first59_tot (a : Ip6) : ∃ w, first59 a = some w := by
  unfold first59
  repeat first
    | exact ⟨_, rfl⟩
    | (refine tot_bind ?_ fun _ => ?_)
    | (refine tot_bif ?_ ?_)
theorem kinds59_tot : ∀ (es : List Ext1) (n : Int) (K : Int → Option Int), (∀ n, ∃ w, K n = some w) → ∃ w, kinds59 es n K = some w
  | [], n, K, h => h n
  | e :: l, n, K, h => by
    unfold kinds59
    refine tot_bind ?_ fun q => tot_bif ⟨_, rfl⟩ (kinds59_tot l _ K h)
    repeat first
      | exact ⟨_, rfl⟩
      | (refine tot_bif ?_ ?_)
theorem forms59_tot : ∀ (es : List Ext1) (i : Bool) (K : Option Int), (∃ w, K = some w) → ∃ w, forms59 es i K = some w
  | [], i, K, h => h
  | e :: l, i, K, h => by
    unfold forms59
    refine tot_bind ?_ fun q => tot_bif ⟨_, rfl⟩ (forms59_tot l _ K h)
    repeat first
      | exact ⟨_, rfl⟩
      | (refine tot_bif ?_ ?_)
theorem long59_tot (a : Ip6) (n : Int) (len : Nat) : ∃ w, long59 a n len = some w := by
  unfold long59
  repeat first
    | exact ⟨_, rfl⟩
    | (refine tot_bind ?_ fun _ => ?_)
    | (refine tot_bif ?_ ?_)
theorem why59_tot (a : Ip6) (es : List Ext1) : ∃ w, why59 a es = some w := by
  unfold why59
  refine tot_bind (first59_tot a) fun _ => tot_bif ⟨_, rfl⟩ (kinds59_tot _ _ _ fun n => ?_)
  refine tot_bind ?_ fun _ => tot_bif ⟨_, rfl⟩ (forms59_tot _ _ _ ?_)
  · repeat first
      | exact ⟨_, rfl⟩
      | (refine tot_bif ?_ ?_)
  refine tot_bind ?_ fun _ => tot_bif ⟨_, rfl⟩ (tot_bind ?_ fun _ => tot_bif ⟨_, rfl⟩ (tot_bif (long59_tot _ _ _) (long59_tot _ _ _)))
  · repeat first
      | exact ⟨_, rfl⟩
      | (refine tot_bif ?_ ?_)
  · repeat first
      | exact ⟨_, rfl⟩
      | (refine tot_bif ?_ ?_)

theorem fin6_range {a : Ip6} {es : List Ext1} (h : Right6 a es) : 0 ≤ fin6 a ∧ fin6 a ≤ 255 := by
  have := h.nums.proto
  unfold fin6
  split <;> omega
theorem fin6_stop {a : Ip6} {es : List Ext1} (h : Right6 a es) : ¬ (fin6 a = 0 ∨ fin6 a = 43 ∨ fin6 a = 60) := by
  unfold fin6
  split
  · omega
  · rename_i hf
    have := h.last (by simpa using hf)
    omega
theorem next_range {a : Ip6} {es : List Ext1} (h : Right6 a es) : 0 ≤ nextOf es (fin6 a) ∧ nextOf es (fin6 a) ≤ 255 := by
  cases es with
  | nil => exact fin6_range h
  | cons e l =>
    have he : e.1 = 0 ∨ e.1 = 43 ∨ e.1 = 60 := h.kinds e (by simp)
    show 0 ≤ e.1 ∧ e.1 ≤ 255
    omega

theorem tb_td {x : Int} (h : 0 ≤ x ∧ x ≤ 65535) : (((tb (td x)).toNat : Nat) : Int) * 256 + (((tb x).toNat : Nat) : Int) = x := by
  rw [td_eq (by omega), tb_byte (by omega), tb_eq h.1]
  unfold u8
  rw [byte_back (by omega)]
  omega

/-- A packet's bytes by the reference, cut behind m bytes of its data, as Inside6 reads them. -/
theorem in6_all {a : Ip6} {es : List Ext1} (hr : Right6 a es) (hd : a.Data.length ≤ 70000) :
    ∃ q : Ip6, q.Data = a.Data ∧ q.Exts = exts2 es ∧ q.Proto = a.Proto ∧ q.At = a.At ∧
      ∀ m, 8 ≤ m → m ≤ a.Data.length → in6 ((all6 a es).take (40 + (back6 a es).length + m)) = (cut6 q m, (a.Data.length : Int), none, ()) := by
  have hn := hr.nums
  have n1 := hn.cls
  have n2 := hn.flow
  have n5 := hn.at_
  have hall := hr.all
  have hB : ((back6 a es).length : Int) + a.Data.length ≤ 65535 := by
    have h1 := extsB_len es (fin6 a)
    unfold back6 fragB
    rw [List.length_append]
    split at hall
    · rename_i hf; rw [if_pos hf]; simp [p2, p4]; omega
    · rename_i hf; rw [if_neg hf]; simp; omega
  have hS : all6 a es = head23b a (nextOf es (fin6 a)) ((back6 a es ++ a.Data).length : Int) ++ (back6 a es ++ a.Data) := rfl
  have hx : IntKind.i64.wrap (IntKind.i64.wrap (1610612736 + IntKind.i64.wrap (a.Class * 1048576)) + a.Flow) = 1610612736 + a.Class * 1048576 + a.Flow := by
    rw [wrap_i64 (n := a.Class * 1048576) (by omega) (by omega), wrap_i64 (n := 1610612736 + a.Class * 1048576) (by omega) (by omega), wrap_i64 (by omega) (by omega)]
  have h6 : bt (all6 a es) 0 / 16 = 6 := by
    have : bt (all6 a es) 0 = (((tb (td (td (td (IntKind.i64.wrap (IntKind.i64.wrap (1610612736 + IntKind.i64.wrap (a.Class * 1048576)) + a.Flow)))))).toNat : Nat) : Int) := rfl
    rw [this, hx, td_eq (x := 1610612736 + a.Class * 1048576 + a.Flow) (by omega), td_eq (x := (1610612736 + a.Class * 1048576 + a.Flow) / 256) (by omega), td_eq (x := (1610612736 + a.Class * 1048576 + a.Flow) / 256 / 256) (by omega), tb_byte (by omega)]
    omega
  have hL : two (all6 a es) 4 = (back6 a es).length + a.Data.length := by
    have : two (all6 a es) 4 = (((tb (td ((back6 a es ++ a.Data).length : Int))).toNat : Nat) : Int) * 256 + (((tb ((back6 a es ++ a.Data).length : Int)).toNat : Nat) : Int) := rfl
    rw [this, tb_td (by rw [List.length_append]; omega), List.length_append]; omega
  have h7 : bt (all6 a es) 6 = nextOf es (fin6 a) := by
    have : bt (all6 a es) 6 = (((tb (nextOf es (fin6 a))).toNat : Nat) : Int) := rfl
    rw [this, tb_byte (next_range hr)]
  have hch : ∀ D', chain 9 [] (bt (all6 a es) 6) (back6 a es ++ D') = .ok es (fin6 a) (fragB a ++ D') := by
    intro D'
    rw [h7]
    unfold back6
    rw [List.append_assoc, chain_ext (fin6 a) (fin6_stop hr) (fin6_range hr) (fragB a ++ D') es [] 9 (by have := hr.few; omega) (by have := hr.few; simp; omega) hr.kinds hr.forms]
    rfl
  have hX : (fin6 a = 44 ∧ (fragB a).length = 8) ∨ (fin6 a ≠ 44 ∧ fragB a = []) := by
    unfold fin6 fragB
    by_cases hf : a.Frag = true
    · rw [if_pos hf, if_pos hf]; exact .inl ⟨rfl, rfl⟩
    · rw [if_neg hf, if_neg hf]; exact .inr ⟨(hr.last (by simpa using hf)).2.2.1, rfl⟩
  obtain ⟨q, q1, q2, q3, q4, q5⟩ := in6_cut hS (head23b_len _ _ _) h6 hL hch hX
  refine ⟨q, q1, q2, ?_, ?_, q5⟩
  · rw [q3]
    by_cases hf : a.Frag = true
    · have : fin6 a = 44 := by unfold fin6; rw [if_pos hf]
      rw [if_pos this]
      unfold fragB
      rw [if_pos hf]
      show (((tb a.Proto).toNat : Nat) : Int) = a.Proto
      exact tb_byte hn.proto
    · have : fin6 a = a.Proto := by unfold fin6; rw [if_neg hf]
      rw [this, if_neg (hr.last (by simpa using hf)).2.2.1]
  · rw [q4]
    have h8 := hn.at8
    rw [Int.tmod_eq_emod_of_nonneg n5.1] at h8
    by_cases hf : a.Frag = true
    · have : fin6 a = 44 := by unfold fin6; rw [if_pos hf]
      rw [if_pos this]
      unfold fragB
      rw [if_pos hf]
      have e : two ([tb a.Proto] ++ [tb 0] ++ p2 (if a.More = true then a.At + 1 else a.At) ++ p4 (IntKind.i64.wrap a.Id)) 2 = (((tb (td (if a.More = true then a.At + 1 else a.At))).toNat : Nat) : Int) * 256 + (((tb (if a.More = true then a.At + 1 else a.At)).toNat : Nat) : Int) := rfl
      rw [e, tb_td (by split <;> omega)]
      split <;> omega
    · have : fin6 a = a.Proto := by unfold fin6; rw [if_neg hf]
      rw [this, if_neg (hr.last (by simpa using hf)).2.2.1, hr.plain (by simpa using hf)]
end Go.Rx.L15F
