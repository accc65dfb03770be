/- Plain laws of interpreterlaw15's functions: the reference's Inside6; FaultInside. -/
import Derived.Test.YteahnnchfegknaaP15m
set_option linter.unusedVariables false
set_option linter.unusedSimpArgs false
set_option maxHeartbeats 1000000
namespace Go.Rx.L15F
open Go.Rx

theorem num4 {s : List UInt8} {v1 u1 v2 u2 v3 u3 v4 u4 : V} {a b c d e : Int} {i j k l m : Nat} (ha : a = (i : Int)) (hb : b = (j : Int)) (hc : c = (k : Int)) (hd : d = (l : Int)) (he : e = (m : Int)) (hj : j = i + 1) (hk : k = i + 2) (hl : l = i + 3) (hm : m = i + 4) (h : i + 4 ≤ s.length) (hs : s.length ≤ 1000000) :
    ((bif ltI (s.length : Int) 4 then some true else some (ltI (IntKind.i64.wrap ((s.length : Int) - 4)) a)).bind fun q => bif q then some 0 else gd (ordB a b s.length) <| gd (ordB b c s.length) <| gd (ordB c d s.length) <| gd (ordB d e s.length) <|
      some (IntKind.i64.wrap (IntKind.i64.wrap (IntKind.i64.wrap (IntKind.i64.wrap (IntKind.i64.wrap (IntKind.i64.wrap (IntKind.i64.wrap (0 + IntKind.i64.wrap (bt ([] ++ sub s (some v1) (some u1) i j ++ sub s (some v2) (some u2) j k ++ sub s (some v3) (some u3) k l ++ sub s (some v4) (some u4) l m) 0)) * 256) +
        IntKind.i64.wrap (bt ([] ++ sub s (some v1) (some u1) i j ++ sub s (some v2) (some u2) j k ++ sub s (some v3) (some u3) k l ++ sub s (some v4) (some u4) l m) 1)) * 256) + IntKind.i64.wrap (bt ([] ++ sub s (some v1) (some u1) i j ++ sub s (some v2) (some u2) j k ++ sub s (some v3) (some u3) k l ++ sub s (some v4) (some u4) l m) 2)) * 256) +
        IntKind.i64.wrap (bt ([] ++ sub s (some v1) (some u1) i j ++ sub s (some v2) (some u2) j k ++ sub s (some v3) (some u3) k l ++ sub s (some v4) (some u4) l m) 3)))) = some (four s i) := by
  rw [ltI_f (by omega), cond_false, wrap_i64 (n := (s.length : Int) - 4) (by omega) (by omega), ltI_f (by omega), Option.bind_some, cond_false, gd_ord (by omega), gd_ord (by omega), gd_ord (by omega), gd_ord (by omega),
    one_at hj (by omega), one_at (show k = j + 1 by omega) (by omega), one_at (show l = k + 1 by omega) (by omega), one_at (show m = l + 1 by omega) (by omega)]
  have e0 : bt ([] ++ [s.getD i 0] ++ [s.getD j 0] ++ [s.getD k 0] ++ [s.getD l 0]) 0 = bt s i := bt_getD s i
  have e1 : bt ([] ++ [s.getD i 0] ++ [s.getD j 0] ++ [s.getD k 0] ++ [s.getD l 0]) 1 = bt s j := bt_getD s j
  have e2 : bt ([] ++ [s.getD i 0] ++ [s.getD j 0] ++ [s.getD k 0] ++ [s.getD l 0]) 2 = bt s k := bt_getD s k
  have e3 : bt ([] ++ [s.getD i 0] ++ [s.getD j 0] ++ [s.getD k 0] ++ [s.getD l 0]) 3 = bt s l := bt_getD s l
  have h1 := bt_range s i
  have h2 := bt_range s j
  have h3 := bt_range s k
  have h4 := bt_range s l
  rw [e0, e1, e2, e3, wrap_i64 (n := bt s i) (by omega) (by omega), wrap_i64 (n := 0 + bt s i) (by omega) (by omega), wrap_i64 (n := (0 + bt s i) * 256) (by omega) (by omega), wrap_i64 (n := bt s j) (by omega) (by omega), wrap_i64 (n := (0 + bt s i) * 256 + bt s j) (by omega) (by omega),
    wrap_i64 (n := ((0 + bt s i) * 256 + bt s j) * 256) (by omega) (by omega), wrap_i64 (n := bt s k) (by omega) (by omega), wrap_i64 (n := ((0 + bt s i) * 256 + bt s j) * 256 + bt s k) (by omega) (by omega), wrap_i64 (n := (((0 + bt s i) * 256 + bt s j) * 256 + bt s k) * 256) (by omega) (by omega),
    wrap_i64 (n := bt s l) (by omega) (by omega), wrap_i64 (by omega) (by omega), Int.zero_add]
  unfold four
  rw [hj, hk, hl]

theorem chain_bad : ∀ (k : Nat) (es : List Ext1) (next : Int) (data : List UInt8) (c n' : Int) (d' : List UInt8), es.length ≤ 8 → 9 ≤ es.length + k → chain k es next data = .bad c n' d' → c ≠ 0
  | 0, es, next, data, c, n', d', h8, h9, _ => by omega
  | k + 1, es, next, data, c, n', d', h8, h9, h => by
    unfold chain at h
    split at h
    · split at h
      · cases h; decide
      split at h
      · cases h; decide
      rename_i hn8
      split at h
      · cases h; decide
      · exact chain_bad k _ _ _ c n' d' (by simp; omega) (by simp; omega) h
    · cases h

theorem chain_exts : ∀ (k : Nat) (es : List Ext1) (next : Int) (data : List UInt8) (es' : List Ext1) (n' : Int) (d' : List UInt8), es.length ≤ 8 → chain k es next data = .ok es' n' d' → es'.length ≤ 8
  | 0, es, next, data, es', n', d', h8, h => by simp [chain] at h
  | k + 1, es, next, data, es', n', d', h8, h => by
    unfold chain at h
    split at h
    · split at h
      · cases h
      split at h
      · cases h
      rename_i hn8
      split at h
      · cases h
      · exact chain_exts k _ _ _ es' n' d' (by simp; omega) h
    · cases h; exact h8

theorem F19_spec {s : List UInt8} (hs : s.length ≤ 70000) : F19 s = some ((in6 s).1, (in6 s).2.1, codeOf (in6 s).2.2.1, ()) := by
  have b0 := bt_range s 0
  have b6 := bt_range s 6
  have b7 := bt_range s 7
  have h4 := two_range s 4
  unfold F19 in6
  by_cases c1 : s.length < 40
  · rw [ltI_t (by omega), cond_true, if_pos c1]; rfl
  rw [ltI_f (by omega), cond_false, if_neg c1, gd_in (by omega), Int.tdiv_eq_ediv_of_nonneg (by omega), wrap_u8, show bt s 0 / 16 % 256 = bt s 0 / 16 by omega, beq_dec]
  by_cases c2 : bt s 0 / 16 ≠ 6
  · rw [decide_eq_false c2, if_pos c2]; rfl
  have c2' : bt s 0 / 16 = 6 := Classical.byContradiction c2
  rw [decide_eq_true c2', if_neg c2, Bool.not_true, cond_false]
  have n4 := num2 (s := s) (v1 := .int .i64 4) (u1 := .int .i64 5) (v2 := .int .i64 5) (u2 := .int .i64 6) (a := 4) (y := 5) (z := 6) (i := 4) (j := 5) (k := 6) rfl rfl rfl rfl rfl (by omega) (by omega)
  have n0 := num4 (s := s) (v1 := .int .i64 0) (u1 := .int .i64 1) (v2 := .int .i64 1) (u2 := .int .i64 2) (v3 := .int .i64 2) (u3 := .int .i64 3) (v4 := .int .i64 3) (u4 := .int .i64 4) (a := 0) (b := 1) (c := 2) (d := 3) (e := 4) (i := 0) (j := 1) (k := 2) (l := 3) (m := 4) rfl rfl rfl rfl rfl rfl rfl rfl rfl (by omega) (by omega)
  have red : ∀ {A B : Type} {t : Option A} {z : A} (f : A → Option B), t = some z → t.bind f = f z := by rintro A B _ z f rfl; rfl
  rw [red _ n4, gd_ord (by omega), sub_sn, List.length_drop]
  have hth : (there s).length = min s.length (40 + (two s 4).toNat) - 40 := by unfold there; rw [List.length_take, List.length_drop]; omega
  have h0 := four_range s 0
  by_cases c7 : two s 4 < ((s.length - 40 : Nat) : Int)
  case' pos =>
    rw [ltI_t c7, cond_true, gd_ord (by omega), gd_in (by omega), wrap_i64 (n := bt s 6) (by omega) (by omega)]
    have et : sub (s.drop 40) none (some (V.int IntKind.i64 (two s 4))) 0 (two s 4).toNat = there s := by
      rw [sub_ns (by rw [List.length_drop]; omega)]; unfold there; congr 1; omega
    rw [et]
  case' neg =>
    rw [ltI_f c7, cond_false, gd_in (by omega), wrap_i64 (n := bt s 6) (by omega) (by omega)]
    have et : s.drop 40 = there s := by unfold there; rw [List.take_of_length_le]; rw [List.length_drop]; omega
    rw [et, show ((s.length - 40 : Nat) : Int) = ((there s).length : Int) by omega]
  all_goals
    have hcl := chain_len 9 [] (bt s 6) (there s)
    have hcb := fun c n d => chain_bad 9 [] (bt s 6) (there s) c n d (by simp) (by simp)
    rw [F55_spec (by omega), Option.bind_some]
    generalize chain 9 [] (bt s 6) (there s) = ch at *
    cases ch with
    | bad c n d =>
      have hc := hcb c n d rfl
      simp only [res55]
      rw [gd_true (show (Nat.beq 0 2 || true) = true from rfl), beq_dec, decide_eq_false hc]; rfl
    | ok es proto data =>
      have hd := hcl es proto data rfl
      have hg : ((slOf es).2.1.beq 2 || (slOf es).1) = true := by cases es <;> rfl
      simp only [res55]
      rw [gd_true hg, show ((0 : Int) == 0) = true from rfl, Bool.not_true, cond_false, red _ n0]
      have gi : ∀ {R : Type} (i : Nat) (k : Option R), i < 40 → gd (inB (i : Int) s.length) k = k := fun i k h => gd_in (by omega) k
      have gis : ∀ {R : Type} (i : Int) (k : Option R), 0 ≤ i ∧ i < 40 → gd (inB i s.length) k = k := fun i k h => gd_in (by omega) k
      rw [gis 7 _ (by decide), gis 8 _ (by decide), gis 24 _ (by decide), gis 9 _ (by decide), gis 25 _ (by decide), gis 10 _ (by decide), gis 26 _ (by decide), gis 11 _ (by decide), gis 27 _ (by decide), gis 12 _ (by decide), gis 28 _ (by decide),
        gis 13 _ (by decide), gis 29 _ (by decide), gis 14 _ (by decide), gis 30 _ (by decide), gis 15 _ (by decide), gis 31 _ (by decide), gis 16 _ (by decide), gis 32 _ (by decide), gis 17 _ (by decide), gis 33 _ (by decide), gis 18 _ (by decide), gis 34 _ (by decide),
        gis 19 _ (by decide), gis 35 _ (by decide), gis 20 _ (by decide), gis 36 _ (by decide), gis 21 _ (by decide), gis 37 _ (by decide), gis 22 _ (by decide), gis 38 _ (by decide), gis 23 _ (by decide), gis 39 _ (by decide)]
      rw [Int.tdiv_eq_ediv_of_nonneg (by omega), wrap_i64 (n := four s 0 / 1048576) (by omega) (by omega), Int.tmod_eq_emod_of_nonneg (by omega), Int.tmod_eq_emod_of_nonneg (by omega), wrap_i64 (n := bt s 7) (by omega) (by omega), beq_dec]
      by_cases c3 : proto = 44
      · rw [decide_eq_true c3, cond_true, if_pos c3]
        by_cases c4 : data.length < 8
        · rw [ltI_t (by omega), cond_true, if_pos c4]; rfl
        rw [ltI_f (by omega), cond_false, if_neg c4, gd_in (by omega)]
        have m2 := num2 (s := data) (v1 := .int .i64 2) (u1 := .int .i64 3) (v2 := .int .i64 3) (u2 := .int .i64 4) (a := 2) (y := 3) (z := 4) (i := 2) (j := 3) (k := 4) rfl rfl rfl rfl rfl (by omega) (by omega)
        have m4 := num4 (s := data) (v1 := .int .i64 4) (u1 := .int .i64 5) (v2 := .int .i64 5) (u2 := .int .i64 6) (v3 := .int .i64 6) (u3 := .int .i64 7) (v4 := .int .i64 7) (u4 := .int .i64 8) (a := 4) (b := 5) (c := 6) (d := 7) (e := 8) (i := 4) (j := 5) (k := 6) (l := 7) (m := 8) rfl rfl rfl rfl rfl rfl rfl rfl rfl (by omega) (by omega)
        rw [red _ m2, gd_in (by omega), red _ m4, gd_ord (by omega), sub_sn]
        have d0 := bt_range data 0
        have d3 := bt_range data 3
        have t2 := two_range data 2
        have f4 := four_range data 4
        have hdl : (data.drop 8).length = data.length - 8 := List.length_drop
        have ec : IntKind.i64.wrap (IntKind.i64.wrap (two s 4 - ((there s).length : Int)) + ((data.drop 8).length : Int)) = two s 4 - ((there s).length - ((data.drop 8).length : Int)) := by
          rw [wrap_i64 (n := two s 4 - ((there s).length : Int)) (by omega) (by omega), wrap_i64 (by omega) (by omega)]; omega
        have em : ((bt data 3).tmod 2 == 1) = decide (two data 2 % 2 = 1) := by
          rw [Int.tmod_eq_emod_of_nonneg (by omega), beq_dec]
          have : two data 2 = bt data 2 * 256 + bt data 3 := rfl
          rw [Bool.eq_iff_iff, decide_eq_true_eq, decide_eq_true_eq]; omega
        rw [ec, F51_spec, Option.bind_some, em, wrap_u32, show four data 4 % 4294967296 = four data 4 by omega, Int.tdiv_eq_ediv_of_nonneg (by omega), wrap_i64 (n := two data 2 / 8) (by omega) (by omega), wrap_i64 (n := two data 2 / 8 * 8) (by omega) (by omega), wrap_i64 (n := bt data 0) (by omega) (by omega)]
        by_cases c6 : ((data.drop 8).length : Int) < min 8 (two s 4 - ((there s).length - ((data.drop 8).length : Int)))
        · rw [decide_eq_true c6, cond_true, if_pos c6]; rfl
        · rw [decide_eq_false c6, cond_false, if_neg c6]; rfl
      · rw [decide_eq_false c3, cond_false, if_neg c3]
        have ec : IntKind.i64.wrap (IntKind.i64.wrap (two s 4 - ((there s).length : Int)) + (data.length : Int)) = two s 4 - ((there s).length - (data.length : Int)) := by
          rw [wrap_i64 (n := two s 4 - ((there s).length : Int)) (by omega) (by omega), wrap_i64 (by omega) (by omega)]; omega
        rw [ec, F51_spec, Option.bind_some]
        by_cases c6 : (data.length : Int) < min 8 (two s 4 - ((there s).length - (data.length : Int)))
        · rw [decide_eq_true c6, cond_true, if_pos c6]; rfl
        · rw [decide_eq_false c6, cond_false, if_neg c6]; rfl
end Go.Rx.L15F
