/- Plain laws of interpreterlaw15's functions: the reference's bytes, whole or cut, are read by Inside6. -/
import Derived.Test.YteahnnchfegknaaP17
set_option linter.unusedVariables false
set_option linter.unusedSimpArgs false
namespace Go.Rx.L15F
open Go.Rx

theorem bt_left (a b : List UInt8) (i : Nat) (h : i < a.length) : bt (a ++ b) i = bt a i := by
  unfold bt
  rw [Int.toNat_natCast, List.getD_eq_getElem?_getD, List.getD_eq_getElem?_getD, List.getElem?_append_left h]
theorem two_left (a b : List UInt8) (i : Nat) (h : i + 1 < a.length) : two (a ++ b) i = two a i := by
  unfold two
  rw [bt_left a b i (by omega), bt_left a b (i + 1) h]
theorem four_left (a b : List UInt8) (i : Nat) (h : i + 3 < a.length) : four (a ++ b) i = four a i := by
  unfold four
  rw [bt_left a b i (by omega), bt_left a b (i + 1) (by omega), bt_left a b (i + 2) (by omega), bt_left a b (i + 3) h]
theorem four_take (s : List UInt8) (k i : Nat) (h : i + 3 < k) : four (s.take k) i = four s i := by
  unfold four
  rw [bt_take s k i (by omega), bt_take s k (i + 1) (by omega), bt_take s k (i + 2) (by omega), bt_take s k (i + 3) h]
theorem v6at_take (s : List UInt8) (k i : Nat) (h : i + 15 < k) : v6at (s.take k) i = v6at s i := by
  unfold v6at
  rw [bt_take s k i (by omega), bt_take s k (i + 1) (by omega), bt_take s k (i + 2) (by omega), bt_take s k (i + 3) (by omega), bt_take s k (i + 4) (by omega), bt_take s k (i + 5) (by omega), bt_take s k (i + 6) (by omega), bt_take s k (i + 7) (by omega), bt_take s k (i + 8) (by omega), bt_take s k (i + 9) (by omega), bt_take s k (i + 10) (by omega), bt_take s k (i + 11) (by omega), bt_take s k (i + 12) (by omega), bt_take s k (i + 13) (by omega), bt_take s k (i + 14) (by omega), bt_take s k (i + 15) h]

/-- What Inside6 makes of a packet that is there as far as m bytes of its data. -/
theorem in6_cut {S H B D X : List UInt8} {es : List Ext1} {proto : Int} (hS : S = H ++ (B ++ D)) (hH : H.length = 40) (h6 : bt S 0 / 16 = 6) (hL : two S 4 = B.length + D.length)
    (hch : ∀ D', chain 9 [] (bt S 6) (B ++ D') = .ok es proto (X ++ D')) (hX : (proto = 44 ∧ X.length = 8) ∨ (proto ≠ 44 ∧ X = [])) :
    ∃ q : Ip6, q.Data = D ∧ q.Exts = exts2 es ∧ (q.Proto = if proto = 44 then bt X 0 else proto) ∧ (q.At = if proto = 44 then two X 2 / 8 * 8 else 0) ∧
      ∀ m, 8 ≤ m → m ≤ D.length → in6 (S.take (40 + B.length + m)) = (cut6 q m, (D.length : Int), none, ()) := by
  have hlen : S.length = 40 + B.length + D.length := by rw [hS, List.length_append, List.length_append, hH]; omega
  refine ⟨if proto = 44 then { Class := four S 0 / 1048576 % 256, Flow := four S 0 % 1048576, Hop := bt S 7, From := v6at S 8, To := v6at S 24, Exts := exts2 es, Frag := true, Id := four X 4, At := two X 2 / 8 * 8, More := decide (two X 2 % 2 = 1), Proto := bt X 0, Data := D }
    else { Class := four S 0 / 1048576 % 256, Flow := four S 0 % 1048576, Hop := bt S 7, From := v6at S 8, To := v6at S 24, Exts := exts2 es, Frag := false, Id := 0, At := 0, More := false, Proto := proto, Data := D }, ?_, ?_, ?_, ?_, fun m h8 hm => ?_⟩
  · split <;> rfl
  · split <;> rfl
  · split <;> rfl
  · split <;> rfl
  have hn : (S.take (40 + B.length + m)).length = 40 + B.length + m := by rw [List.length_take]; omega
  have hdrop : (S.take (40 + B.length + m)).drop 40 = B ++ D.take m := by
    rw [hS, List.drop_take, List.drop_append, List.drop_of_length_le (l := H) (by omega), hH, Nat.sub_self, List.drop_zero, List.nil_append, List.take_append, List.take_of_length_le (l := B) (by omega)]
    congr 2; omega
  have e4 : two (S.take (40 + B.length + m)) 4 = two S 4 := two_take S _ 4 (by omega)
  have e0 : bt (S.take (40 + B.length + m)) 0 = bt S 0 := bt_take S _ 0 (by omega)
  have e6 : bt (S.take (40 + B.length + m)) 6 = bt S 6 := bt_take S _ 6 (by omega)
  have e7 : bt (S.take (40 + B.length + m)) 7 = bt S 7 := bt_take S _ 7 (by omega)
  have f0 : four (S.take (40 + B.length + m)) 0 = four S 0 := four_take S _ 0 (by omega)
  have v8 : v6at (S.take (40 + B.length + m)) 8 = v6at S 8 := v6at_take S _ 8 (by omega)
  have v24 : v6at (S.take (40 + B.length + m)) 24 = v6at S 24 := v6at_take S _ 24 (by omega)
  have hth : there (S.take (40 + B.length + m)) = B ++ D.take m := by
    unfold there
    rw [hdrop, hn, e4, hL, List.take_of_length_le]
    rw [List.length_append, List.length_take]; omega
  have htl : (there (S.take (40 + B.length + m))).length = B.length + m := by rw [hth, List.length_append, List.length_take]; omega
  unfold in6
  rw [hn, if_neg (by omega), e0, if_neg (by omega), e6, hth, hch]
  simp only
  have hdm : (D.take m).length = m := by rw [List.length_take]; omega
  rcases hX with ⟨hp, hx⟩ | ⟨hp, hx⟩
  · have ed : (X ++ D.take m).drop 8 = D.take m := by rw [List.drop_append, List.drop_of_length_le (l := X) (by omega), hx]; rfl
    have x4 : four (X ++ D.take m) 4 = four X 4 := four_left X _ 4 (by omega)
    have x2 : two (X ++ D.take m) 2 = two X 2 := two_left X _ 2 (by omega)
    have x0 : bt (X ++ D.take m) 0 = bt X 0 := bt_left X _ 0 (by omega)
    rw [if_pos hp, if_pos hp, if_neg (by rw [List.length_append, hx]; omega), ed, hdm, e4, hL, f0, e7, v8, v24, x4, x2, x0]
    rw [List.length_append, hdm, if_neg (by omega)]
    have : (B.length : Int) + (D.length : Int) - (((B.length + m : Nat) : Int) - (m : Int)) = D.length := by omega
    rw [this]; rfl
  · subst hx
    rw [if_neg hp, if_neg hp, List.nil_append, hdm, e4, hL, f0, e7, v8, v24]
    rw [List.length_append, hdm, if_neg (by omega)]
    have : (B.length : Int) + (D.length : Int) - (((B.length + m : Nat) : Int) - (m : Int)) = D.length := by omega
    rw [this]; rfl
end Go.Rx.L15F
