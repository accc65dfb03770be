/- Plain laws of interpreterlaw15's functions: ip6.Parse (for FaultFits). -/
import Derived.Test.YteahnnchfegknaaP15t
set_option linter.unusedVariables false
set_option linter.unusedSimpArgs false
set_option maxHeartbeats 1000000
set_option maxRecDepth 100000
namespace Go.Rx.L15F
open Go.Rx

theorem sizeE_append : ∀ a b : List Ext1, sizeE (a ++ b) = sizeE a + sizeE b
  | [], b => by simp [sizeE]
  | x :: a, b => by simp only [List.cons_append, sizeE, sizeE_append a b]; omega

/-- The bytes of extensions and of what is left are those that were there. -/
theorem chain_size : ∀ (k : Nat) (es : List Ext1) (next : Int) (data : List UInt8) (es' : List Ext1) (n' : Int) (d' : List UInt8), chain k es next data = .ok es' n' d' →
    sizeE es' + d'.length = sizeE es + data.length ∧ (es.length ≤ 8 → es'.length ≤ 8) ∧ ((∀ e ∈ es, e.2.length ≤ 1000000000) → data.length ≤ 1000000 → ∀ e ∈ es', e.2.length ≤ 1000000000)
  | 0, es, next, data, es', n', d', h => by simp [chain] at h
  | k + 1, es, next, data, es', n', d', h => by
    unfold chain at h
    (repeat' split at h) <;> first
      | cases h; done
      | skip
    · rename_i h1 h2 h3 h4
      have hn : 8 ≤ nn data := by unfold nn; split <;> omega
      have hl : ((data.drop 2).take (nn data - 2)).length = nn data - 2 := by rw [List.length_take, List.length_drop]; omega
      obtain ⟨g1, g2, g3⟩ := chain_size k _ _ _ es' n' d' h
      refine ⟨?_, fun _ => g2 ?_, fun ha hd => g3 ?_ ?_⟩
      · rw [g1, sizeE_append]; simp only [sizeE]; rw [hl, List.length_drop]; omega
      · rw [List.length_append]; simp; omega
      · intro e he
        rcases List.mem_append.1 he with he | he
        · exact ha e he
        · rw [List.mem_singleton.1 he]; show ((data.drop 2).take (nn data - 2)).length ≤ _; omega
      · rw [List.length_drop]; omega
    · cases h; exact ⟨rfl, fun h => h, fun h _ => h⟩

/-- What stands behind the head. -/
def behind (s : List UInt8) : List UInt8 := (s.drop 40).take (two s 4).toNat
def ip6of (s : List UInt8) (es : List Ext1) (fr : Bool) (id at_ : Int) (mo : Bool) (proto : Int) (data : List UInt8) : Ip6 :=
  { Class := four s 0 / 1048576 % 256, Flow := four s 0 % 1048576, Hop := bt s 7, From := v6at s 8, To := v6at s 24, Exts := exts2 es, Frag := fr, Id := id, At := at_, More := mo, Proto := proto, Data := data }
def par27 (s : List UInt8) : Ip6 × Err × Unit :=
  if s.length < 40 then (none6, some (7, 0), ())
  else if bt s 0 / 16 ≠ 6 then (none6, some (8, 0), ())
  else if (s.length : Int) < 40 + two s 4 then (none6, some (7, 0), ())
  else match chain 9 [] (bt s 6) (behind s) with
    | .bad c _ _ => (none6, some (c, 0), ())
    | .ok es proto data =>
      if proto = 44 then
        if data.length < 8 then (none6, some (7, 0), ())
        else if two data 2 % 2 = 1 ∧ (data.drop 8 = [] ∨ (data.drop 8).length % 8 ≠ 0) ∨ 65535 - two data 2 / 8 * 8 < (data.drop 8).length then (none6, some (8, 0), ())
        else (ip6of s es true (four data 4) (two data 2 / 8 * 8) (decide (two data 2 % 2 = 1)) (bt data 0) (data.drop 8), none, ())
      else (ip6of s es false 0 0 false proto data, none, ())

theorem F70_spec (p : Ip6) (h : p.Data.length ≤ 1000000000) : F70 p = some (decide (¬ (p.More = true ∧ (p.Data = [] ∨ p.Data.length % 8 ≠ 0)))) := by
  unfold F70
  cases hm : p.More with
  | false => rw [Bool.not_false, cond_true, decide_eq_true]; simp
  | true =>
    rw [Bool.not_true, cond_false]
    by_cases k3 : p.Data = []
    · rw [show (p.Data == []) = true by rw [k3]; rfl, Bool.not_true, cond_false, decide_eq_false]; exact fun h => h ⟨rfl, .inl k3⟩
    · rw [show (p.Data == []) = false by rw [beq_eq_false_iff_ne]; exact k3, Bool.not_false, cond_true, Int.tmod_eq_emod_of_nonneg (by omega), beq_dec]
      congr 1; rw [Bool.eq_iff_iff, decide_eq_true_eq, decide_eq_true_eq]
      constructor
      · rintro h ⟨_, h2 | h2⟩
        · exact k3 h2
        · omega
      · intro h
        exact Classical.byContradiction fun k => h ⟨rfl, .inr (by omega)⟩

theorem F27_spec {s : List UInt8} (hs : s.length ≤ 1000000) : F27 s = some (par27 s) := by
  have b0 := bt_range s 0
  have b4 := bt_range s 4
  have b5 := bt_range s 5
  have b6 := bt_range s 6
  have b7 := bt_range s 7
  have h4 := two_range s 4
  have hall : ior IntKind.i64 (IntKind.i64.wrap (IntKind.i64.wrap (bt s 4) * 256)) (IntKind.i64.wrap (bt s 5)) = two s 4 := by
    rw [wrap_i64 (n := bt s 4) (by omega) (by omega), wrap_i64 (n := bt s 4 * 256) (by omega) (by omega), wrap_i64 (n := bt s 5) (by omega) (by omega), ior_256 (by omega) (by omega) (by omega) (by omega)]; rfl
  unfold F27 par27
  simp only [F69, errK, Option.bind_some, hall]
  rw [ltI_eq]
  by_cases c1 : s.length < 40
  · rw [decide_eq_true (by omega), cond_true, if_pos c1]; rfl
  rw [decide_eq_false (by omega), cond_false, if_neg c1, gd_in (by omega), Int.fdiv_eq_ediv_of_nonneg _ (by omega), beq_dec]
  by_cases c2 : bt s 0 / 16 ≠ 6
  · rw [decide_eq_false c2, if_pos c2]; rfl
  have c2' : bt s 0 / 16 = 6 := Classical.byContradiction c2
  rw [decide_eq_true c2', if_neg c2, Bool.not_true, cond_false, gd_in (by omega), gd_in (by omega), wrap_i64 (n := 40 + two s 4) (by omega) (by omega)]
  by_cases c3 : (s.length : Int) < 40 + two s 4
  · rw [ltI_t c3, cond_true, if_pos c3]; rfl
  rw [ltI_f c3, cond_false, if_neg c3, Int.sub_zero, wrap_i64 (n := (s.length : Int)) (by omega) (by omega), ltI_f (by omega), cond_false]
  rw [gd_ord (by omega), gd_in (by omega), gd_ord (by omega),
      gd_true (by rw [Bool.and_true, sub_sn]; exact Nat.ble_eq_true_of_le (by rw [List.length_drop]; omega)), gd_ord (by omega), gd_true (by rw [Bool.and_true, sub_sn]; exact Nat.ble_eq_true_of_le (by rw [List.length_drop]; omega)), gd_in (by omega), gd_ord (by omega)]
  have et : sub s (some (V.int IntKind.i64 40)) (some (V.int IntKind.i64 (40 + two s 4))) 40 (40 + two s 4).toNat = behind s := by
    rw [sub_ss (by omega)]; unfold behind; congr 1; omega
  rw [et, wrap_i64 (n := bt s 6) (by omega) (by omega)]
  have hth : (behind s).length = (two s 4).toNat := by unfold behind; rw [List.length_take, List.length_drop]; omega
  rw [F52_spec (by omega), Option.bind_some]
  have hcl := chain_len 9 [] (bt s 6) (behind s)
  generalize hch : chain 9 [] (bt s 6) (behind s) = ch at *
  cases ch with
  | bad c n d => rfl
  | ok es proto data =>
    have hd := hcl es proto data rfl
    have hg : ((slOf es).2.1.beq 2 || (slOf es).1) = true := by cases es <;> rfl
    simp only [res52]
    rw [gd_true hg]
    have hf : ior .i64 (IntKind.i64.wrap (ior .i64 (IntKind.i64.wrap (ior .i64 (IntKind.i64.wrap (ior .i64 0 (IntKind.i64.wrap (bt (sub s (some (V.int IntKind.i64 0)) (some (V.int IntKind.i64 4)) 0 4) 0)) * 256)) (IntKind.i64.wrap (bt (sub s (some (V.int IntKind.i64 0)) (some (V.int IntKind.i64 4)) 0 4) 1)) * 256)) (IntKind.i64.wrap (bt (sub s (some (V.int IntKind.i64 0)) (some (V.int IntKind.i64 4)) 0 4) 2)) * 256)) (IntKind.i64.wrap (bt (sub s (some (V.int IntKind.i64 0)) (some (V.int IntKind.i64 4)) 0 4) 3)) = four s 0 := by
      rw [four_ior (bt_range _ _) (bt_range _ _) (bt_range _ _) (bt_range _ _)]
      have e : ∀ (i : Nat) (z : Int), z = (i : Int) → i < 4 → bt (sub s (some (V.int IntKind.i64 0)) (some (V.int IntKind.i64 4)) 0 4) z = bt s i := by
        rintro i z rfl hi; exact cut_bt s (V.int IntKind.i64 0) (V.int IntKind.i64 4) 4 i (by omega) hi
      rw [e 0 0 rfl (by omega), e 1 1 rfl (by omega), e 2 2 rfl (by omega), e 3 3 rfl (by omega)]; rfl
    have h4' := four_range s 0
    have hcls : iand IntKind.i64 ((four s 0).fdiv 1048576) 255 = four s 0 / 1048576 % 256 := by
      rw [Int.fdiv_eq_ediv_of_nonneg _ (by omega)]
      have := iand_mask (n := four s 0 / 1048576) 8 (by omega) (by omega) (by omega)
      simpa using this
    have hflow : iand IntKind.i64 (four s 0) 1048575 = four s 0 % 1048576 := by
      have := iand_mask (n := four s 0) 20 (by omega) (by omega) (by omega)
      simpa using this
    simp only [hf, hcls, hflow, v6_sub]
    rw [wrap_i64 (n := bt s 7) (by omega) (by omega)]
    rw [beq_dec]
    by_cases c3 : proto = 44
    · rw [decide_eq_true c3, Bool.not_true, cond_false, if_pos c3, ltI_eq]
      by_cases c4 : data.length < 8
      · rw [decide_eq_true (by omega), cond_true, if_pos c4]; rfl
      rw [decide_eq_false (by omega), cond_false, if_neg c4, gd_in (by omega), gd_in (by omega), gd_ord (by omega)]
      rw [sub_sn, Int.sub_zero, List.length_drop, wrap_i64 (n := ((data.length - 4 : Nat) : Int)) (by omega) (by omega), ltI_f (by omega), cond_false]
      rw [gd_ord (by omega), gd_in (by omega), gd_ord (by omega), sub_sn]
      have h2 := two_range data 2
      have d0 := bt_range data 0
      have d2 := bt_range data 2
      have d3 := bt_range data 3
      have hat : ior IntKind.i64 (IntKind.i64.wrap (IntKind.i64.wrap (bt data 2) * 256)) (IntKind.i64.wrap (bt data 3)) = two data 2 := by
        rw [wrap_i64 (n := bt data 2) (by omega) (by omega), wrap_i64 (n := bt data 2 * 256) (by omega) (by omega), wrap_i64 (n := bt data 3) (by omega) (by omega), ior_256 (by omega) (by omega) (by omega) (by omega)]; rfl
      have hid := four_sub data (by omega)
      have hidr := four_range data 4
      simp only [hat, hid]
      rw [wrap_u32, show four data 4 % 4294967296 = four data 4 by omega, iandNot_7 h2.1 h2.2, iand_1 h2.1 h2.2, Bool.not_not, wrap_i64 (n := bt data 0) (by omega) (by omega)]
      have hdl : (data.drop 8).length = data.length - 8 := List.length_drop
      rw [show ({ Class := four s 0 / 1048576 % 256, Flow := four s 0 % 1048576, Hop := bt s 7, From := v6at s 8, To := v6at s 24, Exts := ((slOf es).fst, 2, (slOf es).snd.snd), Frag := true, Id := four data 4, At := two data 2 / 8 * 8, More := decide (two data 2 % 2 = 1), Proto := bt data 0, Data := data.drop 8 } : Ip6) =
        ip6of s es true (four data 4) (two data 2 / 8 * 8) (decide (two data 2 % 2 = 1)) (bt data 0) (data.drop 8) from rfl]
      rw [F70_spec _ (by show (data.drop 8).length ≤ _; omega), Option.bind_some, wrap_i64 (n := 65535 - two data 2 / 8 * 8) (by omega) (by omega)]
      have hb : (bif !decide (¬ ((ip6of s es true (four data 4) (two data 2 / 8 * 8) (decide (two data 2 % 2 = 1)) (bt data 0) (data.drop 8)).More = true ∧ ((ip6of s es true (four data 4) (two data 2 / 8 * 8) (decide (two data 2 % 2 = 1)) (bt data 0) (data.drop 8)).Data = [] ∨ (ip6of s es true (four data 4) (two data 2 / 8 * 8) (decide (two data 2 % 2 = 1)) (bt data 0) (data.drop 8)).Data.length % 8 ≠ 0)))
          then some true else some (ltI (65535 - two data 2 / 8 * 8) ((data.drop 8).length : Int))) = some (decide (two data 2 % 2 = 1 ∧ (data.drop 8 = [] ∨ (data.drop 8).length % 8 ≠ 0) ∨ 65535 - two data 2 / 8 * 8 < (data.drop 8).length)) := by
        simp only [ip6of, decide_eq_true_eq]
        by_cases k : two data 2 % 2 = 1 ∧ (data.drop 8 = [] ∨ (data.drop 8).length % 8 ≠ 0)
        · rw [decide_eq_false (not_not_intro k), Bool.not_false, cond_true, decide_eq_true (.inl k)]
        · rw [decide_eq_true k, Bool.not_true, cond_false, ltI_eq]
          congr 1; rw [Bool.eq_iff_iff, decide_eq_true_eq, decide_eq_true_eq]
          exact ⟨.inr, fun h => h.resolve_left k⟩
      rw [hb, Option.bind_some]
      by_cases c6 : two data 2 % 2 = 1 ∧ (data.drop 8 = [] ∨ (data.drop 8).length % 8 ≠ 0) ∨ 65535 - two data 2 / 8 * 8 < (data.drop 8).length
      · rw [decide_eq_true c6, cond_true, if_pos c6]; rfl
      · rw [decide_eq_false c6, cond_false, if_neg c6]
    · rw [decide_eq_false c3, Bool.not_false, cond_true, if_neg c3]; rfl

/-- What Parse reads is as long as it is. -/
theorem par27_size {s : List UInt8} {p : Ip6} (hs : s.length ≤ 1000000) (h : par27 s = (p, none, ())) : ∃ n : Nat, F66 p = some (n : Int) ∧ n ≤ s.length ∧ p.Exts.2.1 = 2 ∧ p.Data.length ≤ n ∧ n ≤ 70000 := by
  have h2 := two_range s 4
  unfold par27 at h
  split at h
  · cases h
  split at h
  · cases h
  split at h
  · cases h
  rename_i c1 c2 c3
  have hth : (behind s).length = (two s 4).toNat := by unfold behind; rw [List.length_take, List.length_drop]; omega
  split at h
  · cases h
  rename_i es proto data hch
  have hd := chain_len 9 [] (bt s 6) (behind s) _ _ _ hch
  obtain ⟨g1, g2, g3⟩ := chain_size 9 [] (bt s 6) (behind s) _ _ _ hch
  simp only [sizeE, Int.zero_add] at g1
  have g2 := g2 (by simp)
  have g3 := g3 (by simp) (by omega)
  have hE : deExts (exts2 es).2.2 = some es := by
    cases es with
    | nil => rfl
    | cons e es => exact deExts_enc (e :: es)
  have hEl : (exts2 es).2.2.length / 2 = es.length := by
    cases es with
    | nil => rfl
    | cons e es => show (encE (e :: es)).length / 2 = _; rw [encE_len]; omega
  have key : ∀ q : Ip6, q.Exts = exts2 es → ∀ n : Int, 0 ≤ n → n ≤ 1000000000 → T66 q n = some (n + sizeE es) := by
    intro q hq n hn hn2
    unfold T66
    rw [hq, hE, Option.bind_some, hEl, gd_true]
    rw [leI_eq, leI_eq, smallE_of g3, Nat.ble_eq_true_of_le (by omega)]
    simp only [Bool.and_eq_true, decide_eq_true_eq, beq_iff_eq]
    exact ⟨⟨hn, by omega⟩, trivial, trivial, trivial⟩
  split at h
  · split at h
    · cases h
    split at h
    · cases h
    · rename_i k1 k2 k3
      simp only [Prod.mk.injEq, and_true] at h
      subst h
      have hdl : (data.drop 8).length = data.length - 8 := List.length_drop
      refine ⟨40 + (two s 4).toNat, ?_, by omega, rfl, by show (data.drop 8).length ≤ _; omega, by omega⟩
      unfold F66
      simp only [ip6of, cond_true]
      rw [hdl, gd_true (show ((exts2 es).2.1.beq 2 || (exts2 es).1) = true from rfl), wrap_i64 (n := 40 + ((data.length - 8 : Nat) : Int)) (by omega) (by omega), wrap_i64 (by omega) (by omega), key _ rfl _ (by omega) (by omega)]
      congr 1; omega
  · simp only [Prod.mk.injEq, and_true] at h
    subst h
    refine ⟨40 + (two s 4).toNat, ?_, by omega, rfl, by show data.length ≤ _; omega, by omega⟩
    unfold F66
    simp only [ip6of, cond_false]
    rw [gd_true (show ((exts2 es).2.1.beq 2 || (exts2 es).1) = true from rfl), wrap_i64 (n := 40 + (data.length : Int)) (by omega) (by omega), key _ rfl _ (by omega) (by omega)]
    congr 1; omega
end Go.Rx.L15F
