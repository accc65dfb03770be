/- Plain laws of interpreterlaw15's functions: icmp4.Parse, ip4.Parse (for FaultFits). -/
import Derived.Test.YteahnnchfegknaaP15p
import Derived.Test.YteahnnchfegknaaP15h
set_option linter.unusedVariables false
set_option linter.unusedSimpArgs false
set_option maxHeartbeats 1000000
namespace Go.Rx.L15F
open Go.Rx

/-- A message of ICMP over IPv4, read. -/
def par25 (s : List UInt8) : Msg × Err × Unit :=
  if s.length < 8 then (zeroMsg, some (7, 0), ())
  else if fold1 (ws false false s) ≠ 65535 then (zeroMsg, some (9, 0), ())
  else ({ Kind := bt s 0, Code := bt s 1, Rest := four s 4, Data := s.drop 8 }, none, ())

theorem four_sub (s : List UInt8) (h : 8 ≤ s.length) : ior .i64 (IntKind.i64.wrap (ior .i64 (IntKind.i64.wrap (ior .i64 (IntKind.i64.wrap (ior .i64 0 (IntKind.i64.wrap (bt (sub (s.drop 4) (some (V.int IntKind.i64 0)) (some (V.int IntKind.i64 4)) 0 4) 0)) * 256)) (IntKind.i64.wrap (bt (sub (s.drop 4) (some (V.int IntKind.i64 0)) (some (V.int IntKind.i64 4)) 0 4) 1)) * 256)) (IntKind.i64.wrap (bt (sub (s.drop 4) (some (V.int IntKind.i64 0)) (some (V.int IntKind.i64 4)) 0 4) 2)) * 256)) (IntKind.i64.wrap (bt (sub (s.drop 4) (some (V.int IntKind.i64 0)) (some (V.int IntKind.i64 4)) 0 4) 3)) = four s 4 := by
  rw [four_ior (bt_range _ _) (bt_range _ _) (bt_range _ _) (bt_range _ _)]
  have e : ∀ (i : Nat) (z : Int), z = (i : Int) → i < 4 → bt (sub (s.drop 4) (some (V.int IntKind.i64 0)) (some (V.int IntKind.i64 4)) 0 4) z = bt s (4 + i : Nat) := by
    rintro i z rfl hi; rw [cut_bt (s.drop 4) (V.int IntKind.i64 0) (V.int IntKind.i64 4) 4 i (by rw [List.length_drop]; omega) hi, bt_drop]
  rw [e 0 0 rfl (by omega), e 1 1 rfl (by omega), e 2 2 rfl (by omega), e 3 3 rfl (by omega)]; rfl

theorem F25_spec {s : List UInt8} (hs : s.length ≤ 1000000) : F25 s = some (par25 s) := by
  unfold F25 par25 F64
  simp only [errK, Option.bind_some]
  by_cases c1 : s.length < 8
  · rw [ltI_t (by omega), cond_true, if_pos c1]; rfl
  rw [ltI_f (by omega), cond_false, if_neg c1]
  have hw := ws_range false s false
  have hf := fold1_range hw.1
  rw [F93_0 (by omega), Option.bind_some, F92_spec (by omega) (by omega)]
  simp only [Option.bind_some]
  rw [wrap_i64 (n := 65535 - _) (by omega) (by omega), beq_dec]
  by_cases c2 : fold1 (ws false false s) ≠ 65535
  · rw [decide_eq_false (by omega), Bool.not_false, cond_true, if_pos c2]; rfl
  have b0 := bt_range s 0
  have b1 := bt_range s 1
  have h4 := four_range s 4
  rw [decide_eq_true (by omega), Bool.not_true, cond_false, if_neg c2, gd_ord (by omega), sub_sn, Int.sub_zero, List.length_drop, wrap_i64 (n := ((s.length - 4 : Nat) : Int)) (by omega) (by omega), ltI_f (by omega), cond_false, gd_ord (by omega), gd_in (by omega), gd_in (by omega), gd_ord (by omega), sub_sn,
    four_sub s (by omega), wrap_u32, show four s 4 % 4294967296 = four s 4 by omega, wrap_i64 (n := bt s 0) (by omega) (by omega), wrap_i64 (n := bt s 1) (by omega) (by omega)]

/-- What is written is read. -/
theorem par25_msg4 {m : Msg} (hk : 0 < m.Kind ∧ m.Kind < 256) (hc : 0 ≤ m.Code ∧ m.Code < 256) (hr : 0 ≤ m.Rest ∧ m.Rest < 4294967296) : par25 (msg4 m) = (m, none, ()) := by
  have hlen : (msg4 m).length = 8 + m.Data.length := by simp [msg4, be1_len, be2_len, be4_len]; omega
  have u := u8_toNat
  unfold par25
  rw [if_neg (by omega), if_neg (not_not_intro (msg4_right hk))]
  have e0 : bt (msg4 m) 0 = m.Kind := by
    have : bt (msg4 m) 0 = ((u8 m.Kind).toNat : Int) := rfl
    rw [this, u]; omega
  have e1 : bt (msg4 m) 1 = m.Code := by
    have : bt (msg4 m) 1 = ((u8 m.Code).toNat : Int) := rfl
    rw [this, u]; omega
  have e4 : four (msg4 m) 4 = m.Rest := by
    have : four (msg4 m) 4 = ((((u8 (m.Rest / 16777216)).toNat : Int) * 256 + ((u8 (m.Rest / 65536)).toNat : Int)) * 256 + ((u8 (m.Rest / 256)).toNat : Int)) * 256 + ((u8 m.Rest).toNat : Int) := rfl
    rw [this, u, u, u, u]; omega
  have e8 : (msg4 m).drop 8 = m.Data := rfl
  rw [e0, e1, e4, e8]
end Go.Rx.L15F
