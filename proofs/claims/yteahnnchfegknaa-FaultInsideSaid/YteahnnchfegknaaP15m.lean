/- Plain laws of interpreterlaw15's functions: the reference's Inside4. -/
import Derived.Test.YteahnnchfegknaaP15g
import Derived.Test.YteahnnchfegknaaL15n
set_option linter.unusedVariables false
set_option linter.unusedSimpArgs false
namespace Go.Rx.L15F
open Go.Rx

theorem one_at {s : List UInt8} {v u : V} {a b : Nat} (hb : b = a + 1) (h : a < s.length) : sub s (some v) (some u) a b = [s.getD a 0] := by
  subst hb
  show cutL (a + 1 - a) (s.drop a) = _
  rw [show a + 1 - a = 1 by omega, List.drop_eq_getElem_cons h]
  simp [cutL, List.getD, h]

theorem bt_getD (s : List UInt8) (i : Nat) : ((s.getD i 0).toNat : Int) = bt s i := by unfold bt; rw [Int.toNat_natCast]

theorem num2 {s : List UInt8} {v1 u1 v2 u2 : V} {a y z : Int} {i j k : Nat} (hi : a = (i : Int)) (hy : y = (j : Int)) (hz : z = (k : Int)) (hj : j = i + 1) (hk : k = i + 2) (h : i + 2 ≤ s.length) (hs : s.length ≤ 1000000) :
    ((bif ltI (s.length : Int) 2 then some true else some (ltI (IntKind.i64.wrap ((s.length : Int) - 2)) a)).bind fun q => bif q then some 0 else gd (ordB a y s.length) <| gd (ordB y z s.length) <|
      some (IntKind.i64.wrap (IntKind.i64.wrap (IntKind.i64.wrap (0 + IntKind.i64.wrap (bt ([] ++ sub s (some v1) (some u1) i j ++ sub s (some v2) (some u2) j k) 0)) * 256) + IntKind.i64.wrap (bt ([] ++ sub s (some v1) (some u1) i j ++ sub s (some v2) (some u2) j k) 1)))) = some (two s i) := by
  rw [ltI_f (by omega), cond_false, wrap_i64 (n := (s.length : Int) - 2) (by omega) (by omega), ltI_f (by omega), Option.bind_some, cond_false, gd_ord (by omega), gd_ord (by omega), one_at hj (by omega), one_at (show k = j + 1 by omega) (by omega)]
  have e0 : bt ([] ++ [s.getD i 0] ++ [s.getD j 0]) 0 = bt s i := bt_getD s i
  have e1 : bt ([] ++ [s.getD i 0] ++ [s.getD j 0]) 1 = bt s j := bt_getD s j
  have h1 := bt_range s i
  have h2 := bt_range s j
  rw [e0, e1, wrap_i64 (n := bt s i) (by omega) (by omega), wrap_i64 (n := 0 + bt s i) (by omega) (by omega), wrap_i64 (n := (0 + bt s i) * 256) (by omega) (by omega), wrap_i64 (n := bt s j) (by omega) (by omega), wrap_i64 (by omega) (by omega), Int.zero_add]
  unfold two
  rw [hj]

theorem F36_spec {s : List UInt8} (h : s.length % 2 = 0) (hl : s.length ≤ 100000) (h0 : s ≠ []) : F36 s = some (65535 - fold1 (ws false false s)) := by
  unfold F36
  have hw := ws_range false s false
  have hf := fold1_range hw.1
  rw [F83_spec h (by omega), Option.bind_some]
  have e : (((slI (wordsL s)).2.1.beq 1) || (slI (wordsL s)).1) = true := by cases wordsL s <;> rfl
  rw [gd_true e]
  have e2 : ((slI (wordsL s)).1, 1, (slI (wordsL s)).2.2) = slI (wordsL s) := by
    have := F82_spec h (by omega) h0
    cases hq : wordsL s with
    | nil => rw [hq] at this; simp [F82, slI] at this
    | cons x l => rfl
  rw [e2, F82_spec h (by omega) h0, Option.bind_some, wrap_i64 (by omega) (by omega)]

/-- A code of an answer. -/
def codeOf (e : Err) : Int := match e with | none => 0 | some (c, _) => c

theorem F51_spec (d : List UInt8) (c : Int) : F51 d c = some (decide ((d.length : Int) < min 8 c)) := by
  unfold F51
  rw [ltI_eq, ltI_eq]
  by_cases h : (d.length : Int) < 8
  · rw [decide_eq_true h, cond_true]; congr 1; rw [Bool.eq_iff_iff, decide_eq_true_eq, decide_eq_true_eq]; omega
  · rw [decide_eq_false h, cond_false, decide_eq_false (by omega)]

theorem F17_spec {s : List UInt8} (hs : s.length ≤ 70000) : F17 s = some ((in4 s).1, (in4 s).2.1, codeOf (in4 s).2.2.1, ()) := by
  have b0 := bt_range s 0
  have hh := hl_le s
  have he := hl_eq s
  have h2 := two_range s 2
  have h6 := two_range s 6
  have hN : IntKind.i64.wrap (4 * IntKind.i64.wrap (IntKind.i64.wrap (bt s 0) - 64)) = 4 * (bt s 0 - 64) := by
    rw [wrap_i64 (n := bt s 0) (by omega) (by omega), wrap_i64 (n := bt s 0 - 64) (by omega) (by omega), wrap_i64 (by omega) (by omega)]
  unfold F17 in4
  simp only [hN]
  by_cases c1 : s.length < 20
  · rw [ltI_t (by omega), cond_true, if_pos c1]; rfl
  rw [ltI_f (by omega), cond_false, if_neg c1, gd_in (by omega)]
  have hb : (bif ltI (4 * (bt s 0 - 64)) 20 then some true else some (ltI 60 (4 * (bt s 0 - 64)))) = some (decide (bt s 0 / 16 ≠ 4 ∨ hl s < 20)) := by
    rw [ltI_eq, ltI_eq]
    by_cases k : 4 * (bt s 0 - 64) < 20
    · rw [decide_eq_true k, cond_true, decide_eq_true]; omega
    · rw [decide_eq_false k, cond_false]; congr 1; rw [Bool.eq_iff_iff, decide_eq_true_eq, decide_eq_true_eq]; omega
  rw [hb, Option.bind_some]
  by_cases c2 : bt s 0 / 16 ≠ 4 ∨ hl s < 20
  · rw [decide_eq_true c2, cond_true, if_pos c2]; rfl
  rw [decide_eq_false c2, cond_false, if_neg c2]
  have hN2 : 4 * (bt s 0 - 64) = (hl s : Int) := by omega
  have hl20 : 20 ≤ hl s := by omega
  rw [hN2]
  by_cases c3 : s.length < hl s
  · rw [ltI_t (by omega), cond_true, if_pos c3]; rfl
  rw [ltI_f (by omega), cond_false, if_neg c3, gd_ord (by omega), Int.toNat_natCast, sub_ns (by omega)]
  have hlen : (s.take (hl s)).length = hl s := by rw [List.length_take]; omega
  have hne : s.take (hl s) ≠ [] := by intro h; rw [h] at hlen; simp at hlen; omega
  have hf := fold1_range (ws_range false (s.take (hl s)) false).1
  rw [F36_spec (by rw [hlen]; omega) (by omega) hne, Option.bind_some, beq_dec]
  by_cases c4 : fold1 (ws false false (s.take (hl s))) ≠ 65535
  · rw [decide_eq_false (by omega), Bool.not_false, cond_true, if_pos c4]; rfl
  rw [decide_eq_true (by omega), Bool.not_true, cond_false, if_neg c4]
  have n2 := num2 (s := s) (v1 := .int .i64 2) (u1 := .int .i64 3) (v2 := .int .i64 3) (u2 := .int .i64 4) (a := 2) (y := 3) (z := 4) (i := 2) (j := 3) (k := 4) rfl rfl rfl rfl rfl (by omega) (by omega)
  have n6 := num2 (s := s) (v1 := .int .i64 6) (u1 := .int .i64 7) (v2 := .int .i64 7) (u2 := .int .i64 8) (a := 6) (y := 7) (z := 8) (i := 6) (j := 7) (k := 8) rfl rfl rfl rfl rfl (by omega) (by omega)
  have n4 := num2 (s := s) (v1 := .int .i64 4) (u1 := .int .i64 5) (v2 := .int .i64 5) (u2 := .int .i64 6) (a := 4) (y := 5) (z := 6) (i := 4) (j := 5) (k := 6) rfl rfl rfl rfl rfl (by omega) (by omega)
  have red : ∀ {A B : Type} {t : Option A} {z : A} (f : A → Option B), t = some z → t.bind f = f z := by rintro A B _ z f rfl; rfl
  rw [red _ n2, red _ n6]
  have hat : two s 6 < 32768 ∨ ¬ two s 6 < 32768 := by omega
  rw [Int.tmod_eq_emod_of_nonneg (by omega), wrap_i64 (n := two s 6 % 8192 * 8) (by omega) (by omega), wrap_i64 (n := two s 6 % 8192 * 8 + two s 2) (by omega) (by omega)]
  have hb5 : (bif ltI (two s 2) (hl s : Int) then some true else bif leI 32768 (two s 6) then some true else some (ltI 65535 (two s 6 % 8192 * 8 + two s 2))) = some (decide (two s 2 < hl s ∨ two s 6 ≥ 32768 ∨ two s 6 % 8192 * 8 + two s 2 > 65535)) := by
    rw [ltI_eq, leI_eq, ltI_eq]
    by_cases k : two s 2 < hl s
    · rw [decide_eq_true k, cond_true, decide_eq_true (.inl k)]
    · rw [decide_eq_false k, cond_false]
      by_cases k' : 32768 ≤ two s 6
      · rw [decide_eq_true k', cond_true, decide_eq_true (.inr (.inl k'))]
      · rw [decide_eq_false k', cond_false]; congr 1; rw [Bool.eq_iff_iff, decide_eq_true_eq, decide_eq_true_eq]; omega
  rw [hb5, Option.bind_some]
  by_cases c5 : two s 2 < hl s ∨ two s 6 ≥ 32768 ∨ two s 6 % 8192 * 8 + two s 2 > 65535
  · rw [decide_eq_true c5, cond_true, if_pos c5]; rfl
  rw [decide_eq_false c5, cond_false, if_neg c5, gd_ord (by omega), sub_sn, wrap_i64 (n := two s 2 - (hl s : Int)) (by omega) (by omega), List.length_drop, Int.tdiv_eq_ediv_of_nonneg (by omega), Int.tdiv_eq_ediv_of_nonneg (by omega),
    wrap_i64 (n := two s 6 / 16384) (by omega) (by omega), wrap_i64 (n := two s 6 / 8192) (by omega) (by omega), Int.tmod_eq_emod_of_nonneg (by omega)]
  have b1 := bt_range s 1
  have b8 := bt_range s 8
  have b9 := bt_range s 9
  have eDF : (two s 6 / 16384 == 1) = decide (two s 6 / 16384 % 2 = 1) := by rw [beq_dec, Bool.eq_iff_iff, decide_eq_true_eq, decide_eq_true_eq]; omega
  have eMF : (two s 6 / 8192 % 2 == 1) = decide (two s 6 / 8192 % 2 = 1) := beq_dec _ _
  have eo : sub s (some (V.int IntKind.i64 20)) (some (V.int IntKind.i64 (hl s))) 20 (hl s) = (s.drop 20).take (hl s - 20) := sub_ss (by omega)
  have fin : ∀ d : List UInt8, d = data4 s → ((F51 d (two s 2 - (hl s : Int))).bind fun q6 => bif q6 then some (none4, (0 : Int), (7 : Int), ()) else
      gd (inB 1 s.length) <| (some (two s 4)).bind fun q7 => gd (inB 8 s.length) <| gd (inB 9 s.length) <| gd (ordB 20 (hl s : Int) s.length) <| gd (inB 12 s.length) <| gd (inB 16 s.length) <| gd (inB 13 s.length) <| gd (inB 17 s.length) <|
        gd (inB 14 s.length) <| gd (inB 18 s.length) <| gd (inB 15 s.length) <| gd (inB 19 s.length) <|
      some (({ Tos := IntKind.i64.wrap (bt s 1), Id := q7, Ttl := IntKind.i64.wrap (bt s 8), Proto := IntKind.i64.wrap (bt s 9), At := two s 6 % 8192 * 8, DF := two s 6 / 16384 == 1, More := two s 6 / 8192 % 2 == 1, From := { b0 := bt s 12, b1 := bt s 13, b2 := bt s 14, b3 := bt s 15 }, To := { b0 := bt s 16, b1 := bt s 17, b2 := bt s 18, b3 := bt s 19 }, Options := sub s (some (V.int IntKind.i64 20)) (some (V.int IntKind.i64 (hl s))) 20 (hl s), Data := d } : Ip4), two s 2 - (hl s : Int), (0 : Int), ())) =
      some ((if ((data4 s).length : Int) < min 8 (two s 2 - hl s) then (none4, 0, some (7, 0), ()) else (ip4of s, two s 2 - hl s, none, ()) : Ip4 × Int × Err × Unit).1, (if ((data4 s).length : Int) < min 8 (two s 2 - hl s) then (none4, 0, some (7, 0), ()) else (ip4of s, two s 2 - hl s, none, ()) : Ip4 × Int × Err × Unit).2.1, codeOf (if ((data4 s).length : Int) < min 8 (two s 2 - hl s) then (none4, 0, some (7, 0), ()) else (ip4of s, two s 2 - hl s, none, ()) : Ip4 × Int × Err × Unit).2.2.1, ()) := by
    rintro d rfl
    rw [F51_spec, Option.bind_some]
    by_cases c6 : ((data4 s).length : Int) < min 8 (two s 2 - hl s)
    · rw [decide_eq_true c6, cond_true, if_pos c6]; rfl
    · rw [decide_eq_false c6, cond_false, if_neg c6]
      rw [gd_in (by omega), Option.bind_some, gd_in (by omega), gd_in (by omega), gd_ord (by omega), gd_in (by omega), gd_in (by omega), gd_in (by omega), gd_in (by omega), gd_in (by omega), gd_in (by omega), gd_in (by omega), gd_in (by omega),
        wrap_i64 (n := bt s 1) (by omega) (by omega), wrap_i64 (n := bt s 8) (by omega) (by omega), wrap_i64 (n := bt s 9) (by omega) (by omega), eDF, eMF, eo]
      rfl
  rw [n4]
  by_cases c7 : two s 2 - (hl s : Int) < ((s.length - hl s : Nat) : Int)
  · rw [ltI_t c7, cond_true, gd_ord (by omega), sub_ns (by rw [List.length_drop]; omega)]
    exact fin _ (by unfold data4; congr 1; omega)
  · rw [ltI_f c7, cond_false]
    exact fin _ (by unfold data4; rw [List.take_of_length_le]; rw [List.length_drop]; omega)
end Go.Rx.L15F
