/- Plain facts on the operations' answers. -/
import Derived.Test.YteahnnchfegknaaRxCod
namespace Go.Rx

theorem wrap_i64 {n : Int} (h0 : -9223372036854775808 ≤ n) (h1 : n ≤ 9223372036854775807) : IntKind.i64.wrap n = n := by
  rw [IntKind.wrap_i64]; omega

theorem wrap_u8 (n : Int) : IntKind.u8.wrap n = n % 256 := by
  simp [IntKind.wrap, IntKind.bits, IntKind.signed]

theorem wrap_u16 (n : Int) : IntKind.u16.wrap n = n % 65536 := by
  simp [IntKind.wrap, IntKind.bits, IntKind.signed]

theorem wrap_u32 (n : Int) : IntKind.u32.wrap n = n % 4294967296 := by
  simp [IntKind.wrap, IntKind.bits, IntKind.signed]

theorem ofInt64_toNat (k : Nat) (h : k < 18446744073709551616) : (BitVec.ofInt IntKind.i64.bits (k : Int)).toNat = k := by
  show (BitVec.ofInt 64 (k : Int)).toNat = k
  rw [BitVec.toNat_ofInt]; omega

theorem ofInt8_toNat (k : Nat) (h : k < 256) : (BitVec.ofInt IntKind.u8.bits (k : Int)).toNat = k := by
  show (BitVec.ofInt 8 (k : Int)).toNat = k
  rw [BitVec.toNat_ofInt]; omega

theorem iand_i64_nat (a b : Nat) (ha : a < 9223372036854775808) (hb : b < 9223372036854775808) : iand .i64 (a : Int) (b : Int) = ((a &&& b : Nat) : Int) := by
  unfold iand
  rw [BitVec.toNat_and, ofInt64_toNat a (by omega), ofInt64_toNat b (by omega)]
  have := Nat.and_le_left (n := a) (m := b)
  rw [wrap_i64 (by omega) (by omega)]

theorem ior_i64_nat (a b : Nat) (ha : a < 9223372036854775808) (hb : b < 9223372036854775808) : ior .i64 (a : Int) (b : Int) = ((a ||| b : Nat) : Int) := by
  unfold ior
  rw [BitVec.toNat_or, ofInt64_toNat a (by omega), ofInt64_toNat b (by omega)]
  have : a ||| b < 2 ^ 63 := Nat.or_lt_two_pow (by omega) (by omega)
  rw [wrap_i64 (by omega) (by omega)]

theorem iand_mask {n : Int} (m : Nat) (hm : m ≤ 62) (h0 : 0 ≤ n) (h1 : n ≤ 9223372036854775807) : iand .i64 n ((2 ^ m - 1 : Nat) : Int) = n % (2 ^ m : Nat) := by
  obtain ⟨k, rfl⟩ := Int.eq_ofNat_of_zero_le h0
  have hp : 2 ^ m ≤ 2 ^ 62 := Nat.pow_le_pow_right (by omega) hm
  have hp0 : 0 < 2 ^ m := Nat.two_pow_pos m
  rw [iand_i64_nat k (2 ^ m - 1) (by omega) (by omega), Nat.and_two_pow_sub_one_eq_mod]
  norm_cast

theorem iand_mask_u8 {n : Int} (m : Nat) (hm : m ≤ 8) (h0 : 0 ≤ n) (h1 : n ≤ 255) : iand .u8 n ((2 ^ m - 1 : Nat) : Int) = n % (2 ^ m : Nat) := by
  obtain ⟨k, rfl⟩ := Int.eq_ofNat_of_zero_le h0
  have hp : 2 ^ m ≤ 2 ^ 8 := Nat.pow_le_pow_right (by omega) hm
  have hp0 : 0 < 2 ^ m := Nat.two_pow_pos m
  unfold iand
  rw [BitVec.toNat_and, ofInt8_toNat k (by omega), ofInt8_toNat (2 ^ m - 1) (by omega), Nat.and_two_pow_sub_one_eq_mod]
  have : k % 2 ^ m ≤ k := Nat.mod_le _ _
  rw [wrap_u8]
  rw [show ((k : Int) % ((2 ^ m : Nat) : Int)) = ((k % 2 ^ m : Nat) : Int) by norm_cast]
  have : k % 2 ^ m < 256 := by omega
  generalize k % 2 ^ m = z at *
  omega

/-- One bit asked for. -/
theorem iand_bit {n : Int} (m : Nat) (hm : m ≤ 62) (h0 : 0 ≤ n) (h1 : n ≤ 9223372036854775807) : iand .i64 n ((2 ^ m : Nat) : Int) = if n / (2 ^ m : Nat) % 2 = 1 then ((2 ^ m : Nat) : Int) else 0 := by
  obtain ⟨k, rfl⟩ := Int.eq_ofNat_of_zero_le h0
  have hp : 2 ^ m ≤ 2 ^ 62 := Nat.pow_le_pow_right (by omega) hm
  have hp0 : 0 < 2 ^ m := Nat.two_pow_pos m
  have e0 : k &&& 2 ^ m = if k / 2 ^ m % 2 = 1 then 2 ^ m else 0 := by
    apply Nat.eq_of_testBit_eq
    intro i
    rw [Nat.testBit_and, Nat.testBit_two_pow]
    by_cases hi : m = i
    · subst hi
      by_cases h : k / 2 ^ m % 2 = 1
      · rw [if_pos h]; simp [Nat.testBit_eq_decide_div_mod_eq, h, Nat.div_self hp0]
      · rw [if_neg h]; simp [Nat.testBit_eq_decide_div_mod_eq, h]
    · by_cases h : k / 2 ^ m % 2 = 1
      · rw [if_pos h, Nat.testBit_two_pow]; simp [hi]
      · rw [if_neg h]; simp [hi]
  rw [iand_i64_nat k (2 ^ m) (by omega) (by omega), e0]
  have h : k / 2 ^ m % 2 = 0 ∨ k / 2 ^ m % 2 = 1 := by omega
  have e : ((k : Int) / (2 ^ m : Nat) % 2) = ((k / 2 ^ m % 2 : Nat) : Int) := by norm_cast
  rw [e]
  rcases h with h | h
  · rw [h]; simp
  · rw [h]; simp

/-- Bits above and bits below. -/
theorem ior_high {a b : Int} (m : Nat) (ha : 0 ≤ a) (hb : 0 ≤ b) (hb1 : b < (2 ^ m : Nat)) (h : a * (2 ^ m : Nat) + b ≤ 9223372036854775807) : ior .i64 (a * (2 ^ m : Nat)) b = a * (2 ^ m : Nat) + b := by
  obtain ⟨x, rfl⟩ := Int.eq_ofNat_of_zero_le ha
  obtain ⟨y, rfl⟩ := Int.eq_ofNat_of_zero_le hb
  have hb1' : y < 2 ^ m := by exact_mod_cast hb1
  have e : ((x : Int) * ((2 ^ m : Nat) : Int)) = ((x * 2 ^ m : Nat) : Int) := by push_cast; rfl
  rw [e] at h ⊢
  have h' : x * 2 ^ m + y ≤ 9223372036854775807 := by omega
  have l1 : x * 2 ^ m < 9223372036854775808 := by omega
  have l2 : y < 9223372036854775808 := by omega
  rw [ior_i64_nat _ _ l1 l2]
  have := Nat.shiftLeft_add_eq_or_of_lt hb1' x
  rw [Nat.shiftLeft_eq] at this
  rw [← this]
  push_cast; rfl

theorem bt_range (s : List UInt8) (i : Int) : 0 ≤ bt s i ∧ bt s i ≤ 255 := by
  unfold bt
  have := (s.getD i.toNat 0).toNat_lt
  omega

theorem gd_true {R : Type} {b : Bool} (h : b = true) (k : Option R) : gd b k = k := by subst h; rfl

/-- Two bytes of a text as a number. -/
def two (s : List UInt8) (i : Nat) : Int := bt s i * 256 + bt s (i + 1 : Nat)

theorem two_range (s : List UInt8) (i : Nat) : 0 ≤ two s i ∧ two s i ≤ 65535 := by
  unfold two
  have h1 := bt_range s i
  have h2 := bt_range s (i + 1 : Nat)
  omega

theorem ior_256 {a b : Int} (ha : 0 ≤ a) (ha1 : a ≤ 255) (hb : 0 ≤ b) (hb1 : b ≤ 255) : ior .i64 (a * 256) b = a * 256 + b := by
  have := ior_high (a := a) (b := b) 8 ha hb (by omega) (by omega)
  simpa using this

theorem bt_take (s : List UInt8) (k i : Nat) (h : i < k) : bt (s.take k) i = bt s i := by
  unfold bt
  simp [List.getD, h]

theorem bt_drop (s : List UInt8) (k i : Nat) : bt (s.drop k) i = bt s (k + i : Nat) := by
  unfold bt
  rw [Int.toNat_natCast, Int.toNat_natCast]
  simp [List.getD, List.getElem?_drop]

theorem two_take (s : List UInt8) (k i : Nat) (h : i + 1 < k) : two (s.take k) i = two s i := by
  unfold two
  rw [bt_take s k i (by omega), bt_take s k (i + 1) h]

/-- A number's bytes. -/
def u8 (x : Int) : UInt8 := UInt8.ofNat (x % 256).toNat
def be1 (x : Int) : List UInt8 := [u8 x]
def be2 (x : Int) : List UInt8 := [u8 (x / 256), u8 x]
def be4 (x : Int) : List UInt8 := [u8 (x / 16777216), u8 (x / 65536), u8 (x / 256), u8 x]

end Go.Rx
