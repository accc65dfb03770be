/- Plain laws of interpreterlaw15's functions: Inside4. -/
import Derived.Test.YteahnnchfegknaaP15
import Derived.Test.YteahnnchfegknaaL15g
set_option linter.unusedVariables false
set_option linter.unusedSimpArgs false
namespace Go.Rx.L15F
open Go.Rx

def none4 : Ip4 := { Tos := 0, Id := 0, Ttl := 0, Proto := 0, At := 0, DF := false, More := false, From := { b0 := 0, b1 := 0, b2 := 0, b3 := 0 }, To := { b0 := 0, b1 := 0, b2 := 0, b3 := 0 }, Options := [], Data := [] }
/-- How long a head says that it is. -/
def hl (s : List UInt8) : Nat := (bt s 0 % 16 * 4).toNat
def data4 (s : List UInt8) : List UInt8 := (s.drop (hl s)).take (min s.length (two s 2).toNat - hl s)
def ip4of (s : List UInt8) : Ip4 :=
  { Tos := bt s 1, Id := two s 4, Ttl := bt s 8, Proto := bt s 9, At := two s 6 % 8192 * 8, DF := decide (two s 6 / 16384 % 2 = 1), More := decide (two s 6 / 8192 % 2 = 1)
    From := { b0 := bt s 12, b1 := bt s 13, b2 := bt s 14, b3 := bt s 15 }, To := { b0 := bt s 16, b1 := bt s 17, b2 := bt s 18, b3 := bt s 19 }
    Options := (s.drop 20).take (hl s - 20), Data := data4 s }
/-- What Inside4 answers. -/
def in4 (s : List UInt8) : Ip4 × Int × Err × Unit :=
  if s.length < 20 then (none4, 0, some (7, 0), ())
  else if bt s 0 / 16 ≠ 4 ∨ hl s < 20 then (none4, 0, some (8, 0), ())
  else if s.length < hl s then (none4, 0, some (7, 0), ())
  else if fold1 (ws false false (s.take (hl s))) ≠ 65535 then (none4, 0, some (9, 0), ())
  else if two s 2 < hl s ∨ two s 6 ≥ 32768 ∨ two s 6 % 8192 * 8 + two s 2 > 65535 then (none4, 0, some (8, 0), ())
  else if ((data4 s).length : Int) < min 8 (two s 2 - hl s) then (none4, 0, some (7, 0), ())
  else (ip4of s, two s 2 - hl s, none, ())

theorem hl_eq (s : List UInt8) : (hl s : Int) = bt s 0 % 16 * 4 := by
  have := bt_range s 0
  unfold hl; omega
theorem hl_le (s : List UInt8) : hl s ≤ 60 := by
  have := bt_range s 0
  have := hl_eq s
  omega

theorem F43_spec {s : List UInt8} {i : Nat} (h : i + 1 < s.length) (hs : s.length ≤ 1000000000) : F43 i s = some (two s i) := by
  have h1 := bt_range s i
  have h2 := bt_range s (i + 1 : Nat)
  unfold F43
  rw [gd_true (inB_iff.2 ⟨by omega, by omega⟩), wrap_i64 (n := (i : Int) + 1) (by omega) (by omega), gd_true (inB_iff.2 ⟨by omega, by omega⟩)]
  rw [show ((i : Int) + 1) = ((i + 1 : Nat) : Int) by omega]
  rw [wrap_i64 (n := bt s i) (by omega) (by omega), wrap_i64 (n := bt s i * 256) (by omega) (by omega), wrap_i64 (n := bt s (i + 1 : Nat)) (by omega) (by omega), ior_256 (by omega) (by omega) (by omega) (by omega)]
  rfl

theorem F93_0 {s : List UInt8} (hs : s.length ≤ 1000000000) : F93 0 0 s 0 = some (ws false false s) := by
  have := F93_spec false (n := 0) (at_ := 0) (s := s) (by omega) (by omega) (by omega) (by omega) hs
  rw [show turnOf false = 0 from rfl] at this
  rw [this, Int.zero_add]; rfl

theorem iand_13 {n : Int} (h0 : 0 ≤ n) (h1 : n ≤ 65535) : iand .i64 n 8191 = n % 8192 := by
  have := iand_mask (n := n) 13 (by omega) h0 (by omega)
  simpa using this
theorem iand_15 {n : Int} (h0 : 0 ≤ n) (h1 : n ≤ 65535) : (iand .i64 n 32768 == 0) = decide (n < 32768) := by
  have := iand_bit (n := n) 15 (by omega) h0 (by omega)
  rw [show (((2 : Nat) ^ 15 : Nat) : Int) = 32768 from rfl] at this
  rw [this]
  by_cases h : n < 32768
  · rw [if_neg (by omega), decide_eq_true h]; rfl
  · rw [if_pos (by omega), decide_eq_false h]; rfl
theorem iand_14 {n : Int} (h0 : 0 ≤ n) (h1 : n ≤ 65535) : (iand .i64 n 16384 == 0) = !decide (n / 16384 % 2 = 1) := by
  have := iand_bit (n := n) 14 (by omega) h0 (by omega)
  rw [show (((2 : Nat) ^ 14 : Nat) : Int) = 16384 from rfl] at this
  rw [this]
  by_cases h : n / 16384 % 2 = 1
  · rw [if_pos h, decide_eq_true h]; rfl
  · rw [if_neg h, decide_eq_false h]; rfl
theorem iand_13b {n : Int} (h0 : 0 ≤ n) (h1 : n ≤ 65535) : (iand .i64 n 8192 == 0) = !decide (n / 8192 % 2 = 1) := by
  have := iand_bit (n := n) 13 (by omega) h0 (by omega)
  rw [show (((2 : Nat) ^ 13 : Nat) : Int) = 8192 from rfl] at this
  rw [this]
  by_cases h : n / 8192 % 2 = 1
  · rw [if_pos h, decide_eq_true h]; rfl
  · rw [if_neg h, decide_eq_false h]; rfl

theorem F13_spec {s : List UInt8} (hs : s.length ≤ 1000000) : F13 s = some (in4 s) := by
  have b0 := bt_range s 0
  have hn : IntKind.i64.wrap (IntKind.i64.wrap (iand IntKind.u8 (bt s 0) 15) * 4) = (hl s : Int) := by
    have e := iand_mask_u8 (n := bt s 0) 4 (by omega) (by omega) (by omega)
    rw [show (((2 : Nat) ^ 4 - 1 : Nat) : Int) = 15 from rfl, show (((2 : Nat) ^ 4 : Nat) : Int) = 16 from rfl] at e
    rw [e, hl_eq, wrap_i64 (n := bt s 0 % 16) (by omega) (by omega), wrap_i64 (by omega) (by omega)]
  have hh := hl_le s
  have h2 := two_range s 2
  have h6 := two_range s 6
  unfold F13 in4
  simp only [hn, F41, errK, Option.bind_some]
  rw [ltI_eq]
  by_cases c1 : s.length < 20
  · rw [decide_eq_true (by omega), cond_true, if_pos c1]; rfl
  rw [decide_eq_false (by omega), cond_false, if_neg c1]
  have i0 : inB 0 s.length = true := inB_iff.2 ⟨by omega, by omega⟩
  rw [gd_true i0, gd_true i0, Int.fdiv_eq_ediv_of_nonneg _ (by omega), ltI_eq]
  by_cases c2 : bt s 0 / 16 ≠ 4 ∨ hl s < 20
  · rw [if_pos c2]
    have : (bif !bt s 0 / 16 == 4 then some true else some (decide ((hl s : Int) < 20))) = some true := by
      by_cases k : bt s 0 / 16 = 4
      · rw [k]; simp only [beq_self_eq_true, Bool.not_true, cond_false]
        rw [decide_eq_true (by rcases c2 with c | c <;> first | exact absurd k c | omega)]
      · have : (bt s 0 / 16 == 4) = false := by simpa using k
        rw [this]; rfl
    rw [this, Option.bind_some, cond_true]; rfl
  rw [if_neg c2]
  have c2' : bt s 0 / 16 = 4 ∧ ¬ hl s < 20 := by
    constructor
    · exact Classical.byContradiction fun k => c2 (.inl k)
    · exact fun k => c2 (.inr k)
  rw [c2'.1, decide_eq_false (by omega)]
  simp only [beq_self_eq_true, Bool.not_true, cond_false, Option.bind_some]
  rw [ltI_eq]
  by_cases c3 : s.length < hl s
  · rw [decide_eq_true (by omega), cond_true, if_pos c3]; rfl
  rw [decide_eq_false (by omega), cond_false, if_neg c3, gd_true (ordB_iff.2 ⟨by omega, by omega, by omega⟩)]
  have e3 : sub s none (some (V.int IntKind.i64 (hl s))) 0 (hl s : Int).toNat = s.take (hl s) := by
    unfold sub; rw [Int.toNat_natCast]; exact cutL_eq _ _ (by omega)
  have hw := ws_range false (s.take (hl s)) false
  have hlen : (s.take (hl s)).length ≤ 60 := by rw [List.length_take]; omega
  rw [e3, F93_0 (by omega), Option.bind_some, F92_spec (by omega) (by omega)]
  have hf := fold1_range hw.1
  simp only [Option.bind_some]
  rw [wrap_i64 (n := 65535 - _) (by omega) (by omega)]
  by_cases c4 : fold1 (ws false false (s.take (hl s))) ≠ 65535
  · rw [if_pos c4]
    have : (65535 - fold1 (ws false false (s.take (hl s))) == 0) = false := by
      rw [beq_eq_false_iff_ne]; omega
    rw [this]; rfl
  rw [if_neg c4]
  have c4' : fold1 (ws false false (s.take (hl s))) = 65535 := Classical.byContradiction c4
  rw [c4', show ((65535 : Int) - 65535 == 0) = true from rfl, Bool.not_true, cond_false]
  have g2 := F43_spec (s := s) (i := 2) (by omega) (by omega)
  have g6 := F43_spec (s := s) (i := 6) (by omega) (by omega)
  have g4 := F43_spec (s := s) (i := 4) (by omega) (by omega)
  rw [show ((2 : Nat) : Int) = 2 from rfl] at g2
  rw [show ((6 : Nat) : Int) = 6 from rfl] at g6
  rw [show ((4 : Nat) : Int) = 4 from rfl] at g4
  rw [g2, Option.bind_some, g6, Option.bind_some, ltI_eq, ltI_eq, iand_13 h6.1 h6.2, iand_15 h6.1 h6.2,
    wrap_i64 (n := two s 6 % 8192 * 8) (by omega) (by omega), wrap_i64 (n := two s 6 % 8192 * 8 + two s 2) (by omega) (by omega)]
  by_cases c5 : two s 2 < hl s ∨ two s 6 ≥ 32768 ∨ two s 6 % 8192 * 8 + two s 2 > 65535
  · rw [if_pos c5]
    have : (bif decide (two s 2 < (hl s : Int)) then some true else bif !decide (two s 6 < 32768) then some true else some (decide (65535 < two s 6 % 8192 * 8 + two s 2))) = some true := by
      by_cases k1 : two s 2 < hl s
      · rw [decide_eq_true k1]; rfl
      rw [decide_eq_false k1, cond_false]
      by_cases k2 : two s 6 < 32768
      · rw [decide_eq_true k2, Bool.not_true, cond_false, decide_eq_true (by omega)]
      · rw [decide_eq_false k2]; rfl
    rw [this, Option.bind_some, cond_true]; rfl
  rw [if_neg c5]
  rw [decide_eq_false (by omega), decide_eq_true (by omega), decide_eq_false (by omega)]
  simp only [Bool.not_true, cond_false, Option.bind_some]
  have em : imin (s.length : Int) (two s 2) = ((min s.length (two s 2).toNat : Nat) : Int) := by
    unfold imin; split <;> omega
  rw [em, gd_true (ordB_iff.2 ⟨by omega, by omega, by omega⟩)]
  have ed : sub s (some (V.int IntKind.i64 (hl s))) (some (V.int IntKind.i64 ((min s.length (two s 2).toNat : Nat) : Int))) (hl s : Int).toNat ((min s.length (two s 2).toNat : Nat) : Int).toNat = data4 s := by
    unfold sub data4; rw [Int.toNat_natCast, Int.toNat_natCast]; exact cutL_eq _ _ (by rw [List.length_drop]; omega)
  rw [ed, wrap_i64 (n := two s 2 - hl s) (by omega) (by omega)]
  unfold F44
  rw [Option.bind_some, ltI_eq]
  have em2 : imin 8 (two s 2 - hl s) = min 8 (two s 2 - hl s) := by unfold imin; split <;> omega
  rw [em2]
  by_cases c6 : ((data4 s).length : Int) < min 8 (two s 2 - hl s)
  · rw [decide_eq_true c6, cond_true, if_pos c6]; rfl
  rw [decide_eq_false c6, cond_false, if_neg c6]
  have b1 := bt_range s 1
  have b8 := bt_range s 8
  have b9 := bt_range s 9
  rw [gd_true (inB_iff.2 ⟨by omega, by omega⟩), g4, Option.bind_some, gd_true (inB_iff.2 ⟨by omega, by omega⟩), gd_true (inB_iff.2 ⟨by omega, by omega⟩), gd_true (ordB_iff.2 ⟨by omega, by omega, by omega⟩),
    gd_true (ordB_iff.2 ⟨by omega, by omega, by omega⟩)]
  have e12 : ∀ (k : Nat) (v : V), sub s (some v) none k (s.length : Int).toNat = s.drop k := fun k v => rfl
  rw [e12, e12, gd_true (by rw [Bool.and_true]; exact Nat.ble_eq_true_of_le (by rw [List.length_drop]; omega)), gd_true (ordB_iff.2 ⟨by omega, by omega, by omega⟩),
    gd_true (by rw [Bool.and_true]; exact Nat.ble_eq_true_of_le (by rw [List.length_drop]; omega))]
  rw [wrap_i64 (n := bt s 1) (by omega) (by omega), wrap_i64 (n := bt s 8) (by omega) (by omega), wrap_i64 (n := bt s 9) (by omega) (by omega), iand_14 h6.1 h6.2, iand_13b h6.1 h6.2, Bool.not_not, Bool.not_not]
  have d := fun k i => bt_drop s k i
  have eo : sub s (some (V.int IntKind.i64 20)) (some (V.int IntKind.i64 (hl s))) 20 (hl s : Int).toNat = (s.drop 20).take (hl s - 20) := by unfold sub; rw [Int.toNat_natCast]; exact cutL_eq _ _ (by rw [List.length_drop]; omega)
  rw [eo]
  have d0 := d 12 0; have d1 := d 12 1; have d2 := d 12 2; have d3 := d 12 3
  have d4 := d 16 0; have d5 := d 16 1; have d6 := d 16 2; have d7 := d 16 3
  simp only [Nat.reduceAdd] at d0 d1 d2 d3 d4 d5 d6 d7
  norm_cast at d0 d1 d2 d3 d4 d5 d6 d7
  unfold ip4of
  congr 1
  congr 1
  congr 1
  · congr 1
  · congr 1
end Go.Rx.L15F
