/- How many bytes a packet of IPv6 has: fault.size, told in Lean. -/
import Derived.Test.YteahnnchfegknaaL15h
import Derived.Test.YteahnnchfegknaaL15i
set_option linter.unusedVariables false
set_option linter.unusedSimpArgs false
set_option maxRecDepth 100000
set_option maxHeartbeats 0
namespace Go.Rx.L15F
open Go.Proofs Go.Rx

def keep66 : Keep := ⟨[3, 15, 16, 17], [3, 15, 16, 17]⟩
noncomputable def C66 : Cfg Try.prog := ⟨[], [], fun _ _ => keep66, []⟩
def st66 (n : Int) (nil : Bool) (l : List V) (len i : Int) : St := ⟨[(3, some (.int .i64 n)), (15, some (.isl nil 2 l)), (16, some (.int .i64 len)), (17, some (.int .i64 i))], []⟩
noncomputable def L66 {R : Type} : Nat → St → (Exit → St → Option R) → Option R := loopIt (evC Try.prog C66 (evF Try.prog C66 6) 66 true (tmpsIn Try.prog 66) (loopAt Try.prog 66 5)) (trimK true keep66)
def extK {R : Type} (v : V) (K : List UInt8 → Option R) : Option R := match v with
  | .agg [_, .str s] => K s
  | _ => none

theorem step66 {R : Type} (k : Nat) (n : Int) (nil : Bool) (l : List V) (len i : Int) (K : Exit → St → Option R) : L66 (k + 1) (st66 n nil l len i) K =
    bif ltI i len then gd (inB (i * 2) l.length) <| varK Try.prog 116 ((((l.drop (i.toNat * 2)).take 2)).drop 0) fun v => extK v fun s =>
      L66 k (st66 (IntKind.i64.wrap (n + IntKind.i64.wrap ((s.length : Int) + 2))) nil l len (IntKind.i64.wrap (i + 1))) K
    else K (.exit 0) (st66 n nil l len i) := by kernel_rfl

theorem var116 {R : Type} (a : Int) (s : List UInt8) (K : V → Option R) : varK Try.prog 116 [.int .i64 a, .str s] K = K (.agg [.int .i64 a, .str s]) := by kernel_rfl

def deExts : List V → Option (List Ext1)
  | [] => some []
  | .int .i64 n :: .str s :: l => (deExts l).map ((n, s) :: ·)
  | _ => none
theorem deExts_enc : ∀ l : List Ext1, deExts (encE l) = some l
  | [] => rfl
  | e :: l => by simp only [encE, deExts, deExts_enc l, Option.map_some]
theorem deExts_some : ∀ (l : List V) (es : List Ext1), deExts l = some es → l = encE es := by
  intro l
  induction l using deExts.induct with
  | case1 => intro es h; simp only [deExts] at h; cases h; rfl
  | case2 n s l ih =>
    intro es h
    simp only [deExts, Option.map_eq_some_iff] at h
    obtain ⟨w, h1, rfl⟩ := h
    rw [ih _ h1]; rfl
  | case3 l h1 h2 => intro es h; unfold deExts at h; split at h <;> first | (exact absurd rfl h1) | (exact absurd rfl (h2 _ _ _)) | cases h

/-- The bytes of extensions. -/
def sizeE : List Ext1 → Int
  | [] => 0
  | e :: l => ((e.2.length : Int) + 2) + sizeE l
def smallE : List Ext1 → Bool
  | [] => true
  | e :: l => Nat.ble e.2.length 1000000000 && smallE l
theorem smallE_all : ∀ {l : List Ext1}, smallE l = true → ∀ e ∈ l, e.2.length ≤ 1000000000
  | [], _, x, hx => by cases hx
  | y :: l, h, x, hx => by
    simp only [smallE, Bool.and_eq_true] at h
    rcases List.mem_cons.1 hx with rfl | hx
    · exact Nat.le_of_ble_eq_true h.1
    · exact smallE_all h.2 x hx

theorem sizeL {R : Type} (K : Exit → St → Option R) (nil : Bool) (n0 : Int) (h0 : 0 ≤ n0) (h1 : n0 ≤ 1000000000000) : ∀ (r pre : List Ext1) (n : Int) (fuel : Nat), r.length + 1 ≤ fuel → (∀ e ∈ r, e.2.length ≤ 1000000000) → pre.length + r.length ≤ 1000000 → 0 ≤ n → n ≤ 1000000000000 + 2000000000 * pre.length →
    L66 fuel (st66 n nil (encE (pre ++ r)) ((pre.length + r.length : Nat) : Int) pre.length) K = K (.exit 0) (st66 (n + sizeE r) nil (encE (pre ++ r)) ((pre.length + r.length : Nat) : Int) ((pre.length + r.length : Nat) : Int))
  | [], pre, n, fuel, hf, _, _, _, _ => by
    obtain ⟨fuel, rfl⟩ : ∃ f, fuel = f + 1 := ⟨fuel - 1, by omega⟩
    rw [step66, ltI_eq, decide_eq_false (by simp), cond_false]
    simp [sizeE]
  | x :: r, pre, n, fuel, hf, hx, hl, hn0, hn1 => by
    obtain ⟨fuel, rfl⟩ : ∃ f, fuel = f + 1 := ⟨fuel - 1, by omega⟩
    have hlen : (encE (pre ++ x :: r)).length = (pre.length + r.length + 1) * 2 := by rw [encE_len]; simp; omega
    have hpl : (encE pre).length = pre.length * 2 := encE_len pre
    have e : (((encE (pre ++ x :: r)).drop ((pre.length : Int).toNat * 2)).take 2).drop 0 = [.int .i64 x.1, .str x.2] := by
      rw [Int.toNat_natCast, encE_append]
      have : (encE pre ++ encE (x :: r)).drop (pre.length * 2) = encE (x :: r) := by
        rw [List.drop_append, List.drop_eq_nil_of_le (show (encE pre).length ≤ pre.length * 2 by omega), hpl, Nat.sub_self]; rfl
      rw [this]; rfl
    have hxr := hx x (by simp)
    simp only [List.length_cons] at hl hf ⊢
    rw [step66, e, var116, hlen, ltI_eq, decide_eq_true (by omega), cond_true, gd_true (inB_iff.2 ⟨by omega, by omega⟩)]
    rw [show ∀ K' : List UInt8 → Option R, extK (.agg [.int .i64 x.1, .str x.2]) K' = K' x.2 from fun _ => rfl, wrap_i64 (n := (x.2.length : Int) + 2) (by omega) (by omega), wrap_i64 (n := n + ((x.2.length : Int) + 2)) (by omega) (by omega), wrap_i64 (n := (pre.length : Int) + 1) (by omega) (by omega)]
    have := sizeL K nil n0 h0 h1 r (pre ++ [x]) (n + ((x.2.length : Int) + 2)) fuel (by omega) (fun y hy => hx y (by simp [hy])) (by simp; omega) (by omega) (by simp; omega)
    simp only [List.append_assoc, List.cons_append, List.nil_append, List.length_append, List.length_singleton] at this
    rw [show ((pre.length : Int) + 1) = ((pre.length + 1 : Nat) : Int) by omega, show pre.length + (r.length + 1) = pre.length + 1 + r.length by omega, this]
    simp only [sizeE]
    rw [show n + ((x.2.length : Int) + 2) + sizeE r = n + (((x.2.length : Int) + 2) + sizeE r) by omega]

noncomputable def loop66 : LoopCtr Try.prog := LoopCtr.of mix C66 6 66 5 (tmpsIn Try.prog 66) keep66 (loopAt Try.prog 66 5) (fun _ _ _ h => absurd h List.not_mem_nil)
  (fun vs m K => match vs, m with
    | [some (.int .i64 n), some (.isl nil 2 l), some (.int .i64 len), some (.int .i64 0)], [] => (deExts l).bind fun es => gd ((leI 0 n && leI n 1000000000000) && ((len == (es.length : Int)) && (smallE es && Nat.ble es.length 1000000))) (K (.exit 0) (st66 (n + sizeE es) nil l len len))
    | _, _ => none)
  (by
    intro R vs m K r h
    split at h
    · rename_i n nil l len
      rw [Option.bind_eq_some_iff] at h
      obtain ⟨es, h1, h⟩ := h
      obtain ⟨hd, h⟩ := gd_some h
      simp only [Bool.and_eq_true, leI_eq, decide_eq_true_eq, beq_iff_eq] at hd
      obtain ⟨⟨g1, g2⟩, g3, g4, g5⟩ := hd
      have hl := Nat.le_of_ble_eq_true g5
      have e := deExts_some _ _ h1
      subst e
      subst g3
      have := sizeL K nil n g1 g2 es [] n loopFuel (by unfold loopFuel; omega) (smallE_all g4) (by simp; omega) g1 (by simp; omega)
      simp only [List.nil_append, List.length_nil, Nat.zero_add] at this
      rw [← this] at h
      exact h
    · cases h)

def T66 (p : Ip6) (n : Int) : Option Int := (deExts p.Exts.2.2).bind fun es => gd ((leI 0 n && leI n 1000000000000) && ((((p.Exts.2.2.length / 2 : Nat) : Int) == (es.length : Int)) && (smallE es && Nat.ble es.length 1000000))) (some (n + sizeE es))
/-- fault.size -/
def F66 (p : Ip6) : Option Int := bif p.Frag then gd (p.Exts.2.1.beq 2 || p.Exts.1) (T66 p (IntKind.i64.wrap (IntKind.i64.wrap (40 + (p.Data.length : Int)) + 8))) else gd (p.Exts.2.1.beq 2 || p.Exts.1) <| T66 p (IntKind.i64.wrap (40 + (p.Data.length : Int)))

theorem F66_ev : ∀ a, evTop Try.prog ⟨[], [], fun _ _ => keep66, [loop66]⟩ 6 66 (CodL.val (CodL.cons (Cod.agg lIp6) CodL.nil) a) (fun v => Cod.dec (Cod.int .i64) v some) = (fun a => F66 a.1) a := by
  intro a; kernel_rfl

noncomputable def d66 : Ctr Try.prog := Ctr.ofF 66 (CodL.cons (Cod.agg lIp6) CodL.nil) (Cod.int .i64) (fun a => F66 a.1)
  (pcalls_of_ev (C := ⟨[], [], fun _ _ => keep66, [loop66]⟩) (d := 6) mix (loopsOk_of (by
    have h : loopsOf (bodyIn Try.prog 66) = [loopAt Try.prog 66 5] := by kernel_rfl
    intro b hb q hq _ _
    rw [h] at hb
    rw [List.mem_singleton.1 hb, List.mem_singleton.1 hq]
    rfl)) F66_ev)

theorem smallE_of : ∀ {l : List Ext1}, (∀ e ∈ l, e.2.length ≤ 1000000000) → smallE l = true
  | [], _ => rfl
  | y :: l, h => by
    simp only [smallE, smallE_of (l := l) (fun x hx => h x (by simp [hx])), Nat.ble_eq_true_of_le (h y (by simp)), Bool.and_self]
end Go.Rx.L15F
