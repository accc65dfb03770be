/- Plain laws of interpreterlaw15's functions: sums. -/
import Derived.Test.YteahnnchfegknaaRxBits
import Derived.Test.YteahnnchfegknaaL15f
set_option linter.unusedVariables false
set_option linter.unusedSimpArgs false
namespace Go.Rx.L15F
open Go.Rx

/-- What a byte adds: itself, or what is left to 255. -/
def bx (t : Bool) (b : UInt8) : Int := bif t then 255 - (b.toNat : Int) else (b.toNat : Int)
/-- The words of a text, added up, from an even or an odd ('o') place on. -/
def ws (t : Bool) : Bool → List UInt8 → Int
  | _, [] => 0
  | o, b :: l => (bif o then bx t b else 256 * bx t b) + ws t (!o) l
def turnOf (t : Bool) : Int := bif t then 255 else 0
def odd (n : Int) : Bool := decide (n % 2 = 1)
/-- A total below 65536. -/
def fold1 (n : Int) : Int := if n = 0 then 0 else (n - 1) % 65535 + 1

theorem fold_spec : ∀ (k : Nat) (n : Int), 0 ≤ n → n < k → k ≤ 9223372036854775807 → fold k n = some (fold1 n)
  | 0, n, h0, h1, _ => by omega
  | k + 1, n, h0, h1, h2 => by
    unfold fold
    rw [ltI_eq]
    by_cases h : 65535 < n
    · have e1 : iand .i64 n 65535 = n % 65536 := by
        have := iand_mask 16 (by omega) h0 (by omega)
        simpa using this
      have e2 : n.fdiv 65536 = n / 65536 := Int.fdiv_eq_ediv_of_nonneg _ (by omega)
      rw [e1, e2, wrap_i64 (by omega) (by omega), decide_eq_true h, cond_true, fold_spec k _ (by omega) (by omega) (by omega)]
      unfold fold1
      rw [if_neg (by omega), if_neg (by omega)]
      congr 1
      omega
    · rw [decide_eq_false h, cond_false]
      unfold fold1
      split
      · next h' => rw [h']
      · congr 1; omega

theorem bx_range (t : Bool) (b : UInt8) : 0 ≤ bx t b ∧ bx t b ≤ 255 := by
  have := b.toNat_lt
  cases t <;> simp [bx] <;> omega

theorem ws_range (t : Bool) : ∀ (l : List UInt8) (o : Bool), 0 ≤ ws t o l ∧ ws t o l ≤ 65280 * l.length
  | [], o => by simp [ws]
  | b :: l, o => by
    have h1 := ws_range t l (!o)
    have h2 := bx_range t b
    cases o <;> simp only [ws, cond_true, cond_false, List.length_cons] <;> push_cast <;> omega

theorem ixor_turn (t : Bool) (b : UInt8) : ixor .u8 (b.toNat : Int) (turnOf t) = bx t b := by
  have hb := b.toNat_lt
  unfold ixor
  rw [show IntKind.u8.bits = 8 from rfl]
  have e1 : (BitVec.ofInt 8 (b.toNat : Int)).toNat = b.toNat := by rw [BitVec.toNat_ofInt]; omega
  rw [wrap_u8]
  cases t with
  | false =>
    rw [show (BitVec.ofInt 8 (turnOf false)) = 0#8 from rfl, BitVec.xor_zero, e1]
    simp [bx]; omega
  | true =>
    rw [show (BitVec.ofInt 8 (turnOf true)) = BitVec.allOnes 8 from rfl, BitVec.xor_allOnes, BitVec.toNat_not, e1]
    simp [bx]; omega

theorem bt_mid (pre : List UInt8) (b : UInt8) (l : List UInt8) : bt (pre ++ b :: l) pre.length = (b.toNat : Int) := by
  unfold bt
  simp

theorem addL_spec (t : Bool) (at_ : Int) (h0 : 0 ≤ at_) : ∀ (l pre : List UInt8) (k : Nat) (n : Int), at_ + (pre.length + l.length : Nat) ≤ 4000000000000 → 0 ≤ n → n + 65280 * l.length ≤ 4000000000000000000 → l.length < k →
    addL k n at_ (pre ++ l) (turnOf t) (pre.length + l.length : Nat) pre.length = some (n + ws t (odd (at_ + pre.length)) l, ((pre.length + l.length : Nat) : Int))
  | [], pre, k, n, ha, h1, h2, h3 => by
    obtain ⟨k, rfl⟩ := Nat.exists_eq_succ_of_ne_zero (by simp at h3; omega : k ≠ 0)
    unfold addL
    rw [ltI_eq, decide_eq_false (by simp), cond_false]
    simp [ws]
  | b :: l, pre, k, n, ha, h1, h2, h3 => by
    obtain ⟨k, rfl⟩ := Nat.exists_eq_succ_of_ne_zero (by omega : k ≠ 0)
    simp only [List.length_cons] at *
    unfold addL
    have hr := bx_range t b
    have hin : inB (pre.length : Int) (pre ++ b :: l).length = true := inB_iff.2 ⟨by omega, by simp; omega⟩
    rw [ltI_eq, decide_eq_true (by push_cast; omega), cond_true, hin]
    unfold gd
    rw [cond_true, bt_mid, ixor_turn]
    push_cast at ha h2
    rw [wrap_i64 (n := bx t b) (by omega) (by omega), wrap_i64 (n := bx t b * 256) (by omega) (by omega), wrap_i64 (n := n + bx t b * 256) (by omega) (by omega),
        wrap_i64 (n := n + bx t b) (by omega) (by omega), wrap_i64 (n := (pre.length : Int) + 1) (by omega) (by omega), wrap_i64 (n := at_ + pre.length) (by omega) (by omega)]
    have e : pre ++ b :: l = (pre ++ [b]) ++ l := by simp
    have e1 : (pre.length : Int) + 1 = ((pre ++ [b]).length : Nat) := by simp
    have e2 : pre.length + (l.length + 1) = (pre ++ [b]).length + l.length := by simp; omega
    have ih := fun n h1 h2 => addL_spec t at_ h0 l (pre ++ [b]) k n (by simp; omega) h1 h2 (by omega)
    have e3 : odd (at_ + ((pre ++ [b]).length : Nat)) = !odd (at_ + pre.length) := by
      unfold odd
      rw [← e1]
      by_cases h : (at_ + pre.length) % 2 = 1
      · rw [decide_eq_true h, decide_eq_false (by omega)]; rfl
      · rw [decide_eq_false h, decide_eq_true (by omega)]; rfl
    rw [e, e1, e2]
    have hm : (at_ + (pre.length : Int)).tmod 2 = (at_ + pre.length) % 2 := Int.tmod_eq_emod_of_nonneg (by omega)
    rw [hm]
    cases ho : odd (at_ + pre.length) with
    | true =>
      have ho' : (at_ + (pre.length : Int)) % 2 = 1 := by simpa [odd] using ho
      rw [ho', show ((1 : Int) == 0) = false from rfl, cond_false, ih _ (by omega) (by omega), e3, ho]
      simp only [ws, cond_true, Bool.not_true]
      congr 2; omega
    | false =>
      have ho' : (at_ + (pre.length : Int)) % 2 = 0 := by have : ¬ (at_ + (pre.length : Int)) % 2 = 1 := by simpa [odd] using ho
                                                          omega
      rw [ho', show ((0 : Int) == 0) = true from rfl, cond_true, ih _ (by omega) (by omega), e3, ho]
      simp only [ws, cond_false, Bool.not_false]
      congr 2; omega

theorem F92_spec {n : Int} (h0 : 0 ≤ n) (h1 : n < 1000000000000000000) : F92 n = some (fold1 n) :=
  fold_spec loopFuel n h0 (by unfold loopFuel; omega) (by unfold loopFuel; omega)

theorem F93_spec (t : Bool) {n at_ : Int} {s : List UInt8} (h0 : 0 ≤ n) (h1 : n ≤ 1000000000000) (h2 : 0 ≤ at_) (h3 : at_ ≤ 1000000000) (hs : s.length ≤ 1000000000) :
    F93 n at_ s (turnOf t) = some (n + ws t (odd at_) s) := by
  unfold F93
  have := addL_spec t at_ h2 s [] loopFuel n (by simp; omega) h0 (by omega) (by unfold loopFuel; omega)
  simp only [List.nil_append, List.length_nil, Nat.zero_add] at this
  rw [show ((0 : Nat) : Int) = 0 from rfl] at this
  rw [this]
  simp

theorem fold1_range {n : Int} (h : 0 ≤ n) : 0 ≤ fold1 n ∧ fold1 n ≤ 65535 := by
  unfold fold1; split <;> omega

theorem ws_append (t : Bool) : ∀ (a b : List UInt8) (o : Bool), ws t o (a ++ b) = ws t o a + ws t (o ^^ decide (a.length % 2 = 1)) b
  | [], b, o => by simp [ws]
  | x :: a, b, o => by
    simp only [List.cons_append, ws, ws_append t a b (!o), List.length_cons]
    have : (o ^^ decide ((a.length + 1) % 2 = 1)) = (!o ^^ decide (a.length % 2 = 1)) := by
      by_cases h : a.length % 2 = 1
      · rw [decide_eq_true h, decide_eq_false (by omega)]; cases o <;> rfl
      · rw [decide_eq_false h, decide_eq_true (by omega)]; cases o <;> rfl
    rw [this]
    omega
end Go.Rx.L15F
