/- Plain laws of interpreterlaw15's functions: messages of ICMP as bytes (for FaultFits). -/
import Derived.Test.YteahnnchfegknaaP15k
import Derived.Test.YteahnnchfegknaaL15p
set_option linter.unusedVariables false
set_option linter.unusedSimpArgs false
namespace Go.Rx.L15F
open Go.Rx

theorem F84_b1 {x : Int} (h : 0 ≤ x ∧ x < 256) : F84 x 1 = some (be1 x, none, ()) := by unfold F84; rw [if_pos rfl, if_pos h]
theorem F84_b1n {x : Int} (h : ¬ (0 ≤ x ∧ x < 256)) : F84 x 1 = some ([], some (13, 0), ()) := by unfold F84; rw [if_pos rfl, if_neg h]
theorem F84_b2 {x : Int} (h : 0 ≤ x ∧ x < 65536) : F84 x 2 = some (be2 x, none, ()) := by unfold F84; rw [if_neg (by decide), if_pos rfl, if_pos h]
theorem F84_b4 {x : Int} (h : 0 ≤ x ∧ x < 4294967296) : F84 x 4 = some (be4 x, none, ()) := by unfold F84; rw [if_neg (by decide), if_neg (by decide), if_pos rfl, if_pos h]

/-- The sum so far and a further piece: what is folded. -/
def more (n : Int) (o : Bool) (s : List UInt8) : Int := fold1 (n + ws false o s)

theorem more_range {n : Int} {o : Bool} {s : List UInt8} (h : 0 ≤ n) : 0 ≤ more n o s ∧ more n o s ≤ 65535 :=
  fold1_range (by have := ws_range false s o; omega)
theorem more_mod {n : Int} {o : Bool} {s : List UInt8} (h : 0 ≤ n) : ∃ z : Int, more n o s = n + ws false o s - 65535 * z :=
  fold1_mod (by have := ws_range false s o; omega)

theorem piece {R : Type} {n at_ : Int} {s : List UInt8} (K : Int → Option R) (h0 : 0 ≤ n ∧ n ≤ 65535) (h1 : 0 ≤ at_ ∧ at_ ≤ 1000000000) (hs : s.length ≤ 1000000) : (F93 n at_ s 0).bind (fun q => (F92 q).bind K) = K (more n (odd at_) s) := by
  have hw := ws_range false s (odd at_)
  have := F93_spec false (n := n) (at_ := at_) (s := s) h0.1 (by omega) h1.1 h1.2 (by omega)
  rw [show turnOf false = 0 from rfl] at this
  rw [this, Option.bind_some, F92_spec (by omega) (by omega), Option.bind_some]
  rfl

/-- The sum of a message of ICMP over IPv4. -/
def sumM4 (m : Msg) : Int := 65535 - more (more (more (more (more 0 false (be1 m.Kind)) true (be1 m.Code)) false [0, 0]) false (be4 m.Rest)) false m.Data
def msg4 (m : Msg) : List UInt8 := be1 m.Kind ++ be1 m.Code ++ be2 (sumM4 m) ++ be4 m.Rest ++ m.Data

theorem sumM4_range (m : Msg) : 0 ≤ sumM4 m ∧ sumM4 m ≤ 65535 := by
  unfold sumM4
  have r1 := more_range (n := 0) (o := false) (s := be1 m.Kind) (by omega)
  have r2 := more_range (o := true) (s := be1 m.Code) r1.1
  have r3 := more_range (o := false) (s := [0, 0]) r2.1
  have r4 := more_range (o := false) (s := be4 m.Rest) r3.1
  have r5 := more_range (o := false) (s := m.Data) r4.1
  omega

theorem F39_spec {m : Msg} (hk : 0 ≤ m.Kind ∧ m.Kind < 256) (hc : 0 ≤ m.Code ∧ m.Code < 256) (hr : 0 ≤ m.Rest ∧ m.Rest < 4294967296) (hd : m.Data.length ≤ 1000000) : F39 m = some (msg4 m, none, ()) := by
  have r1 := more_range (n := 0) (o := false) (s := be1 m.Kind) (by omega)
  have r2 := more_range (o := true) (s := be1 m.Code) r1.1
  have r3 := more_range (o := false) (s := [0, 0]) r2.1
  have r4 := more_range (o := false) (s := be4 m.Rest) r3.1
  have r5 := more_range (o := false) (s := m.Data) r4.1
  have hs := sumM4_range m
  have w1 : IntKind.i64.wrap (0 + ((be1 m.Kind).length : Int)) = 1 := by rw [be1_len]; decide
  have w2 : IntKind.i64.wrap (1 + ((be1 m.Code).length : Int)) = 2 := by rw [be1_len]; decide
  have w3 : IntKind.i64.wrap (2 + 2) = 4 := by decide
  have w4 : IntKind.i64.wrap (4 + ((be4 m.Rest).length : Int)) = 8 := by rw [be4_len]; decide
  unfold F39
  rw [F84_b1 hk, Option.bind_some]
  simp only [errK]
  rw [F84_b1 hc, Option.bind_some]
  simp only
  rw [wrap_i64 (n := m.Rest) (by omega) (by omega), F84_b4 hr, Option.bind_some]
  simp only [w1, w2, w3, w4]
  have o0 : odd 0 = false := rfl
  have o1 : odd 1 = true := rfl
  have o2 : odd 2 = false := rfl
  have o4 : odd 4 = false := rfl
  have o8 : odd 8 = false := rfl
  rw [piece _ (by omega) (by omega) (by simp [be1_len]), o0, piece _ r1 (by omega) (by simp [be1_len]), o1, piece _ r2 (by omega) (by simp), o2, piece _ r3 (by omega) (by simp [be4_len]), o4, piece _ r4 (by omega) hd, o8]
  rw [wrap_i64 (n := 65535 - _) (by omega) (by omega), Option.bind_some]
  rw [show 65535 - more (more (more (more (more 0 false (be1 m.Kind)) true (be1 m.Code)) false [0, 0]) false (be4 m.Rest)) false m.Data = sumM4 m from rfl]
  rw [F84_b2 (by omega), Option.bind_some]
  simp only
  rw [gd_cat (by simp [be1_len]), gd_cat (by simp [be1_len, be2_len]), gd_cat (by simp [be1_len, be2_len, be4_len]), gd_cat (by simp [be1_len, be2_len, be4_len]; omega)]
  rfl

theorem F39_none {m : Msg} (h : ¬ ((0 ≤ m.Kind ∧ m.Kind < 256) ∧ (0 ≤ m.Code ∧ m.Code < 256))) : F39 m = some ([], some (13, 0), ()) := by
  unfold F39
  by_cases hk : 0 ≤ m.Kind ∧ m.Kind < 256
  · rw [F84_b1 hk, Option.bind_some]
    simp only [errK]
    rw [F84_b1n (fun hc => h ⟨hk, hc⟩), Option.bind_some]
  · rw [F84_b1n hk, Option.bind_some]
    simp only [errK]

/-- A message's sum is right. -/
theorem msg4_right {m : Msg} (hk : 0 < m.Kind ∧ m.Kind < 256) : fold1 (ws false false (msg4 m)) = 65535 := by
  have r1 := more_range (n := 0) (o := false) (s := be1 m.Kind) (by omega)
  have r2 := more_range (o := true) (s := be1 m.Code) r1.1
  have r3 := more_range (o := false) (s := [0, 0]) r2.1
  have r4 := more_range (o := false) (s := be4 m.Rest) r3.1
  obtain ⟨z1, e1⟩ := more_mod (n := 0) (o := false) (s := be1 m.Kind) (by omega)
  obtain ⟨z2, e2⟩ := more_mod (o := true) (s := be1 m.Code) r1.1
  obtain ⟨z3, e3⟩ := more_mod (o := false) (s := [0, 0]) r2.1
  obtain ⟨z4, e4⟩ := more_mod (o := false) (s := be4 m.Rest) r3.1
  obtain ⟨z5, e5⟩ := more_mod (o := false) (s := m.Data) r4.1
  have hs := sumM4_range m
  have e : ws false false (msg4 m) = ws false false (be1 m.Kind) + ws false true (be1 m.Code) + sumM4 m + ws false false (be4 m.Rest) + ws false false m.Data := by
    unfold msg4
    rw [ws_append, ws_append, ws_append, ws_append]
    simp only [List.length_append, be1_len, be2_len, be4_len]
    rw [show (false ^^ decide ((1 + 1) % 2 = 1)) = false from rfl, ws_be2 hs]
    simp
  have hz : ws false false [0, 0] = 0 := rfl
  have hp : 0 < ws false false (be1 m.Kind) := by
    simp only [be1, ws, bx, cond_false]
    rw [u8_toNat]; omega
  have g2 := ws_range false (be1 m.Code) true
  have g3 := ws_range false (be4 m.Rest) false
  have g4 := ws_range false m.Data false
  rw [e]
  refine fold1_full (by omega) (z := z1 + z2 + z3 + z4 + z5 + 1) ?_
  unfold sumM4
  omega
end Go.Rx.L15F
