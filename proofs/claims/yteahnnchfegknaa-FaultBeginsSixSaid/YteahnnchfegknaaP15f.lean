/- Plain laws of interpreterlaw15's functions: Inside6. -/
import Derived.Test.YteahnnchfegknaaP15d
import Derived.Test.YteahnnchfegknaaL15i
set_option linter.unusedVariables false
set_option linter.unusedSimpArgs false
namespace Go.Rx.L15F
open Go.Rx

theorem iandNot_7 {n : Int} (h0 : 0 ≤ n) (h1 : n ≤ 65535) : iandNot .i64 n 7 = n / 8 * 8 := by
  obtain ⟨k, rfl⟩ := Int.eq_ofNat_of_zero_le h0
  unfold iandNot
  have e1 : (BitVec.ofInt IntKind.i64.bits (k : Int) &&& ~~~(BitVec.ofInt IntKind.i64.bits 7)) = (BitVec.ofInt IntKind.i64.bits (k : Int)) ^^^ ((BitVec.ofInt IntKind.i64.bits (k : Int)) &&& (BitVec.ofInt IntKind.i64.bits 7)) := by
    ext i hi
    simp only [BitVec.getElem_and, BitVec.getElem_not, BitVec.getElem_xor]
    cases (BitVec.ofInt IntKind.i64.bits (k : Int))[i] <;> cases (BitVec.ofInt IntKind.i64.bits 7)[i] <;> rfl
  rw [e1, BitVec.toNat_xor, BitVec.toNat_and, ofInt64_toNat k (by omega), show (BitVec.ofInt IntKind.i64.bits 7).toNat = 7 from rfl]
  have e2 : k &&& 7 = k % 8 := Nat.and_two_pow_sub_one_eq_mod k 3
  have e3 : k ^^^ (k % 8) = k / 8 * 8 := by
    apply Nat.eq_of_testBit_eq
    intro i
    rw [Nat.testBit_xor, show k % 8 = k % 2 ^ 3 from rfl, Nat.testBit_mod_two_pow, show k / 8 * 8 = (k / 2 ^ 3) * 2 ^ 3 from rfl, Nat.testBit_mul_two_pow, Nat.testBit_div_two_pow]
    by_cases hi : i < 3
    · rw [decide_eq_true hi, decide_eq_false (by omega)]; simp
    · rw [decide_eq_false hi, decide_eq_true (by omega)]; simp; congr 1; omega
  rw [e2, e3, wrap_i64 (by omega) (by omega)]
  omega

theorem iand_1 {n : Int} (h0 : 0 ≤ n) (h1 : n ≤ 65535) : (iand .i64 n 1 == 0) = !decide (n % 2 = 1) := by
  have := iand_mask (n := n) 1 (by omega) h0 (by omega)
  rw [show (((2 : Nat) ^ 1 - 1 : Nat) : Int) = 1 from rfl, show (((2 : Nat) ^ 1 : Nat) : Int) = 2 from rfl] at this
  rw [this]
  by_cases h : n % 2 = 1
  · rw [h, decide_eq_true rfl]; rfl
  · rw [decide_eq_false h, show n % 2 = 0 by omega]; rfl

/-- Four bytes of a text as a number. -/
def four (s : List UInt8) (i : Nat) : Int := ((bt s i * 256 + bt s (i + 1 : Nat)) * 256 + bt s (i + 2 : Nat)) * 256 + bt s (i + 3 : Nat)

theorem four_range (s : List UInt8) (i : Nat) : 0 ≤ four s i ∧ four s i ≤ 4294967295 := by
  unfold four
  have h1 := bt_range s i
  have h2 := bt_range s (i + 1 : Nat)
  have h3 := bt_range s (i + 2 : Nat)
  have h4 := bt_range s (i + 3 : Nat)
  omega

theorem four_ior {a b c d : Int} (ha : 0 ≤ a ∧ a ≤ 255) (hb : 0 ≤ b ∧ b ≤ 255) (hc : 0 ≤ c ∧ c ≤ 255) (hd : 0 ≤ d ∧ d ≤ 255) :
    ior .i64 (IntKind.i64.wrap (ior .i64 (IntKind.i64.wrap (ior .i64 (IntKind.i64.wrap (ior .i64 0 (IntKind.i64.wrap a) * 256)) (IntKind.i64.wrap b) * 256)) (IntKind.i64.wrap c) * 256)) (IntKind.i64.wrap d) = ((a * 256 + b) * 256 + c) * 256 + d := by
  have z : ior .i64 0 (IntKind.i64.wrap a) = a := by
    rw [wrap_i64 (by omega) (by omega)]
    have := ior_high (a := 0) (b := a) 8 (by omega) ha.1 (by omega) (by omega)
    simpa using this
  have st : ∀ {x y : Int}, 0 ≤ x → x ≤ 16777215 → 0 ≤ y → y ≤ 255 → ior .i64 (IntKind.i64.wrap (x * 256)) (IntKind.i64.wrap y) = x * 256 + y := by
    intro x y h1 h2 h3 h4
    rw [wrap_i64 (n := x * 256) (by omega) (by omega), wrap_i64 (n := y) (by omega) (by omega)]
    have := ior_high (a := x) (b := y) 8 h1 h3 (by omega) (by omega)
    simpa using this
  rw [z, st ha.1 (by omega) hb.1 hb.2, st (by omega) (by omega) hc.1 hc.2, st (by omega) (by omega) hd.1 hd.2]

theorem cut_bt (s : List UInt8) (v u : V) (k i : Nat) (hk : k ≤ s.length) (h : i < k) : bt (sub s (some v) (some u) 0 k) i = bt s i := by
  rw [sub_ss hk, List.drop_zero, Nat.sub_zero, bt_take s k i h]

def none6 : Ip6 := { Class := 0, Flow := 0, Hop := 0, From := { b0 := 0, b1 := 0, b2 := 0, b3 := 0, b4 := 0, b5 := 0, b6 := 0, b7 := 0, b8 := 0, b9 := 0, b10 := 0, b11 := 0, b12 := 0, b13 := 0, b14 := 0, b15 := 0 }, To := { b0 := 0, b1 := 0, b2 := 0, b3 := 0, b4 := 0, b5 := 0, b6 := 0, b7 := 0, b8 := 0, b9 := 0, b10 := 0, b11 := 0, b12 := 0, b13 := 0, b14 := 0, b15 := 0 }, Exts := (true, 2, []), Frag := false, Id := 0, At := 0, More := false, Proto := 0, Data := [] }
/-- An address in a text. -/
def v6at (s : List UInt8) (i : Nat) : V6 := ⟨bt s i, bt s (i + 1 : Nat), bt s (i + 2 : Nat), bt s (i + 3 : Nat), bt s (i + 4 : Nat), bt s (i + 5 : Nat), bt s (i + 6 : Nat), bt s (i + 7 : Nat), bt s (i + 8 : Nat), bt s (i + 9 : Nat), bt s (i + 10 : Nat), bt s (i + 11 : Nat), bt s (i + 12 : Nat), bt s (i + 13 : Nat), bt s (i + 14 : Nat), bt s (i + 15 : Nat)⟩
/-- What is there of what stands behind the head. -/
def there (s : List UInt8) : List UInt8 := (s.drop 40).take (min s.length (40 + (two s 4).toNat) - 40)
def exts2 (es : List Ext1) : Bool × Nat × List V := ((slOf es).1, 2, (slOf es).2.2)
def in6 (s : List UInt8) : Ip6 × Int × Err × Unit :=
  if s.length < 40 then (none6, 0, some (7, 0), ())
  else if bt s 0 / 16 ≠ 6 then (none6, 0, some (8, 0), ())
  else match chain 9 [] (bt s 6) (there s) with
    | .bad c _ _ => (none6, 0, some (c, 0), ())
    | .ok es proto data =>
      if proto = 44 then
        if data.length < 8 then (none6, 0, some (7, 0), ())
        else if ((data.drop 8).length : Int) < min 8 (two s 4 - ((there s).length - (data.drop 8).length)) then (none6, 0, some (7, 0), ())
        else ({ Class := four s 0 / 1048576 % 256, Flow := four s 0 % 1048576, Hop := bt s 7, From := v6at s 8, To := v6at s 24, Exts := exts2 es, Frag := true, Id := four data 4, At := two data 2 / 8 * 8, More := decide (two data 2 % 2 = 1), Proto := bt data 0, Data := data.drop 8 }, two s 4 - ((there s).length - (data.drop 8).length), none, ())
      else if (data.length : Int) < min 8 (two s 4 - ((there s).length - data.length)) then (none6, 0, some (7, 0), ())
      else ({ Class := four s 0 / 1048576 % 256, Flow := four s 0 % 1048576, Hop := bt s 7, From := v6at s 8, To := v6at s 24, Exts := exts2 es, Frag := false, Id := 0, At := 0, More := false, Proto := proto, Data := data }, two s 4 - ((there s).length - data.length), none, ())

/-- What is left is no longer than what was there. -/
theorem chain_len : ∀ (k : Nat) (es : List Ext1) (next : Int) (data : List UInt8) (es' : List Ext1) (n' : Int) (d' : List UInt8), chain k es next data = .ok es' n' d' → d'.length ≤ data.length
  | 0, es, next, data, es', n', d', h => by simp [chain] at h
  | k + 1, es, next, data, es', n', d', h => by
    unfold chain at h
    (repeat' split at h) <;> first
      | cases h; done
      | skip
    · have := chain_len k _ _ _ es' n' d' h
      rw [List.length_drop] at this; omega
    · cases h; exact Nat.le_refl _

theorem bt_drop_len (s : List UInt8) (v : V) (k l i : Nat) : bt (sub s (some v) none k l) i = bt s (k + i : Nat) := by
  rw [sub_sn, bt_drop]

theorem v6_sub (s : List UInt8) (v : V) (k l : Nat) : (⟨bt (sub s (some v) none k l) 0, bt (sub s (some v) none k l) 1, bt (sub s (some v) none k l) 2, bt (sub s (some v) none k l) 3, bt (sub s (some v) none k l) 4, bt (sub s (some v) none k l) 5, bt (sub s (some v) none k l) 6, bt (sub s (some v) none k l) 7, bt (sub s (some v) none k l) 8, bt (sub s (some v) none k l) 9, bt (sub s (some v) none k l) 10, bt (sub s (some v) none k l) 11, bt (sub s (some v) none k l) 12, bt (sub s (some v) none k l) 13, bt (sub s (some v) none k l) 14, bt (sub s (some v) none k l) 15⟩ : V6) = v6at s k := by
  have d : ∀ (i : Nat) (z : Int), z = (i : Int) → bt (sub s (some v) none k l) z = bt s (k + i : Nat) := by
    rintro i z rfl; exact bt_drop_len s v k l i
  unfold v6at
  rw [d 0 0 rfl, d 1 1 rfl, d 2 2 rfl, d 3 3 rfl, d 4 4 rfl, d 5 5 rfl, d 6 6 rfl, d 7 7 rfl, d 8 8 rfl, d 9 9 rfl, d 10 10 rfl, d 11 11 rfl, d 12 12 rfl, d 13 13 rfl, d 14 14 rfl, d 15 15 rfl, Nat.add_zero]

theorem F18_spec {s : List UInt8} (hs : s.length ≤ 1000000) : F18 s = some (in6 s) := by
  have b0 := bt_range s 0
  have b4 := bt_range s 4
  have b5 := bt_range s 5
  have b6 := bt_range s 6
  have b7 := bt_range s 7
  have h4 := two_range s 4
  have hall : ior IntKind.i64 (IntKind.i64.wrap (IntKind.i64.wrap (bt s 4) * 256)) (IntKind.i64.wrap (bt s 5)) = two s 4 := by
    rw [wrap_i64 (n := bt s 4) (by omega) (by omega), wrap_i64 (n := bt s 4 * 256) (by omega) (by omega), wrap_i64 (n := bt s 5) (by omega) (by omega), ior_256 (by omega) (by omega) (by omega) (by omega)]; rfl
  unfold F18 in6
  simp only [F41, errK, Option.bind_some, hall]
  rw [ltI_eq]
  by_cases c1 : s.length < 40
  · rw [decide_eq_true (by omega), cond_true, if_pos c1]; rfl
  rw [decide_eq_false (by omega), cond_false, if_neg c1, gd_in (by omega), Int.fdiv_eq_ediv_of_nonneg _ (by omega), beq_dec]
  by_cases c2 : bt s 0 / 16 ≠ 6
  · rw [decide_eq_false c2, if_pos c2]; rfl
  have c2' : bt s 0 / 16 = 6 := Classical.byContradiction c2
  rw [decide_eq_true c2', if_neg c2, Bool.not_true, cond_false, gd_in (by omega), gd_in (by omega), wrap_i64 (n := 40 + two s 4) (by omega) (by omega)]
  have em : imin (s.length : Int) (40 + two s 4) = ((min s.length (40 + (two s 4).toNat) : Nat) : Int) := by unfold imin; split <;> omega
  rw [em, gd_ord (by omega), gd_in (by omega)]
  have et : sub s (some (V.int IntKind.i64 40)) (some (V.int IntKind.i64 ((min s.length (40 + (two s 4).toNat) : Nat) : Int))) 40 ((min s.length (40 + (two s 4).toNat) : Nat) : Int).toNat = there s := by
    rw [Int.toNat_natCast, sub_ss (by omega)]; rfl
  rw [et, wrap_i64 (n := bt s 6) (by omega) (by omega)]
  have hth : (there s).length = min s.length (40 + (two s 4).toNat) - 40 := by unfold there; rw [List.length_take, List.length_drop]; omega
  rw [F52_spec (by omega), Option.bind_some]
  have hcl := chain_len 9 [] (bt s 6) (there s)
  generalize hch : chain 9 [] (bt s 6) (there s) = ch at *
  cases ch with
  | bad c n d => rfl
  | ok es proto data =>
    have hd := hcl es proto data rfl
    have hg : ((slOf es).2.1.beq 2 || (slOf es).1) = true := by cases es <;> rfl
    simp only [res52]
    rw [gd_true hg, Int.sub_zero, wrap_i64 (n := (s.length : Int)) (by omega) (by omega), ltI_f (by omega), cond_false, gd_ord (by omega), gd_in (by omega), gd_ord (by omega),
      gd_true (by rw [Bool.and_true, sub_sn]; exact Nat.ble_eq_true_of_le (by rw [List.length_drop]; omega)), gd_ord (by omega), gd_true (by rw [Bool.and_true, sub_sn]; exact Nat.ble_eq_true_of_le (by rw [List.length_drop]; omega))]
    have hf : ior .i64 (IntKind.i64.wrap (ior .i64 (IntKind.i64.wrap (ior .i64 (IntKind.i64.wrap (ior .i64 0 (IntKind.i64.wrap (bt (sub s (some (V.int IntKind.i64 0)) (some (V.int IntKind.i64 4)) 0 4) 0)) * 256)) (IntKind.i64.wrap (bt (sub s (some (V.int IntKind.i64 0)) (some (V.int IntKind.i64 4)) 0 4) 1)) * 256)) (IntKind.i64.wrap (bt (sub s (some (V.int IntKind.i64 0)) (some (V.int IntKind.i64 4)) 0 4) 2)) * 256)) (IntKind.i64.wrap (bt (sub s (some (V.int IntKind.i64 0)) (some (V.int IntKind.i64 4)) 0 4) 3)) = four s 0 := by
      rw [four_ior (bt_range _ _) (bt_range _ _) (bt_range _ _) (bt_range _ _)]
      have e : ∀ (i : Nat) (z : Int), z = (i : Int) → i < 4 → bt (sub s (some (V.int IntKind.i64 0)) (some (V.int IntKind.i64 4)) 0 4) z = bt s i := by
        rintro i z rfl hi; exact cut_bt s (V.int IntKind.i64 0) (V.int IntKind.i64 4) 4 i (by omega) hi
      rw [e 0 0 rfl (by omega), e 1 1 rfl (by omega), e 2 2 rfl (by omega), e 3 3 rfl (by omega)]; rfl
    have h4' := four_range s 0
    have hcls : iand IntKind.i64 ((four s 0).fdiv 1048576) 255 = four s 0 / 1048576 % 256 := by
      rw [Int.fdiv_eq_ediv_of_nonneg _ (by omega)]
      have := iand_mask (n := four s 0 / 1048576) 8 (by omega) (by omega) (by omega)
      simpa using this
    have hflow : iand IntKind.i64 (four s 0) 1048575 = four s 0 % 1048576 := by
      have := iand_mask (n := four s 0) 20 (by omega) (by omega) (by omega)
      simpa using this
    simp only [hf, hcls, hflow, v6_sub]
    rw [wrap_i64 (n := bt s 7) (by omega) (by omega)]
    rw [beq_dec]
    by_cases c3 : proto = 44
    · rw [decide_eq_true c3, cond_true, if_pos c3, ltI_eq]
      by_cases c4 : data.length < 8
      · rw [decide_eq_true (by omega), cond_true, if_pos c4]; rfl
      rw [decide_eq_false (by omega), cond_false, if_neg c4, gd_in (by omega), gd_in (by omega), gd_ord (by omega)]
      rw [sub_sn, Int.sub_zero, List.length_drop, wrap_i64 (n := ((data.length - 4 : Nat) : Int)) (by omega) (by omega), ltI_f (by omega), cond_false]
      rw [gd_ord (by omega), gd_in (by omega), gd_ord (by omega), sub_sn]
      have h2 := two_range data 2
      have d0 := bt_range data 0
      have d2 := bt_range data 2
      have d3 := bt_range data 3
      have hat : ior IntKind.i64 (IntKind.i64.wrap (IntKind.i64.wrap (bt data 2) * 256)) (IntKind.i64.wrap (bt data 3)) = two data 2 := by
        rw [wrap_i64 (n := bt data 2) (by omega) (by omega), wrap_i64 (n := bt data 2 * 256) (by omega) (by omega), wrap_i64 (n := bt data 3) (by omega) (by omega), ior_256 (by omega) (by omega) (by omega) (by omega)]; rfl
      have hid : ior .i64 (IntKind.i64.wrap (ior .i64 (IntKind.i64.wrap (ior .i64 (IntKind.i64.wrap (ior .i64 0 (IntKind.i64.wrap (bt (sub (data.drop 4) (some (V.int IntKind.i64 0)) (some (V.int IntKind.i64 4)) 0 4) 0)) * 256)) (IntKind.i64.wrap (bt (sub (data.drop 4) (some (V.int IntKind.i64 0)) (some (V.int IntKind.i64 4)) 0 4) 1)) * 256)) (IntKind.i64.wrap (bt (sub (data.drop 4) (some (V.int IntKind.i64 0)) (some (V.int IntKind.i64 4)) 0 4) 2)) * 256)) (IntKind.i64.wrap (bt (sub (data.drop 4) (some (V.int IntKind.i64 0)) (some (V.int IntKind.i64 4)) 0 4) 3)) = four data 4 := by
        rw [four_ior (bt_range _ _) (bt_range _ _) (bt_range _ _) (bt_range _ _)]
        have e : ∀ (i : Nat) (z : Int), z = (i : Int) → i < 4 → bt (sub (data.drop 4) (some (V.int IntKind.i64 0)) (some (V.int IntKind.i64 4)) 0 4) z = bt data (4 + i : Nat) := by
          rintro i z rfl hi; rw [cut_bt (data.drop 4) (V.int IntKind.i64 0) (V.int IntKind.i64 4) 4 i (by rw [List.length_drop]; omega) hi, bt_drop]
        rw [e 0 0 rfl (by omega), e 1 1 rfl (by omega), e 2 2 rfl (by omega), e 3 3 rfl (by omega)]; rfl
      have hidr := four_range data 4
      simp only [hat, hid]
      rw [wrap_u32, show four data 4 % 4294967296 = four data 4 by omega, iandNot_7 h2.1 h2.2, iand_1 h2.1 h2.2, Bool.not_not, wrap_i64 (n := bt data 0) (by omega) (by omega)]
      have hdl : (data.drop 8).length = data.length - 8 := List.length_drop
      rw [wrap_i64 (n := (there s).length - ((data.drop 8).length : Int)) (by omega) (by omega), wrap_i64 (n := two s 4 - ((there s).length - ((data.drop 8).length : Int))) (by omega) (by omega)]
      unfold F44
      rw [Option.bind_some, ltI_eq]
      have em2 : ∀ x : Int, imin 8 x = min 8 x := fun x => by unfold imin; split <;> omega
      rw [em2]
      by_cases c6 : ((data.drop 8).length : Int) < min 8 (two s 4 - ((there s).length - ((data.drop 8).length : Int)))
      · rw [decide_eq_true c6, cond_true, if_pos c6]; rfl
      · rw [decide_eq_false c6, cond_false, if_neg c6]; rfl
    · rw [decide_eq_false c3, cond_false, if_neg c3]
      rw [wrap_i64 (n := (there s).length - (data.length : Int)) (by omega) (by omega), wrap_i64 (n := two s 4 - ((there s).length - (data.length : Int))) (by omega) (by omega)]
      unfold F44
      rw [Option.bind_some, ltI_eq]
      have em2 : ∀ x : Int, imin 8 x = min 8 x := fun x => by unfold imin; split <;> omega
      rw [em2]
      by_cases c6 : (data.length : Int) < min 8 (two s 4 - ((there s).length - (data.length : Int)))
      · rw [decide_eq_true c6, cond_true, if_pos c6]; rfl
      · rw [decide_eq_false c6, cond_false, if_neg c6]; rfl
end Go.Rx.L15F
