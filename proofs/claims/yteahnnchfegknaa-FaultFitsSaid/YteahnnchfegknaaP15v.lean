/- Plain laws of interpreterlaw15's functions: messages of ICMP over IPv6, packets of one's own (for FaultFits). -/
import Derived.Test.YteahnnchfegknaaP15u
set_option linter.unusedVariables false
set_option linter.unusedSimpArgs false
set_option maxHeartbeats 1000000
set_option maxRecDepth 100000
namespace Go.Rx.L15F
open Go.Rx

/-- The sum of a message of ICMP over IPv6. -/
def sumM6 (ps : List UInt8) (m : Msg) : Int := 65535 - more (more (more (more (more (more 0 false ps) false (be1 m.Kind)) true (be1 m.Code)) false [0, 0]) false (be4 m.Rest)) false m.Data
def msg6 (ps : List UInt8) (m : Msg) : List UInt8 := be1 m.Kind ++ be1 m.Code ++ be2 (sumM6 ps m) ++ be4 m.Rest ++ m.Data
theorem msg6_len (ps : List UInt8) (m : Msg) : (msg6 ps m).length = 8 + m.Data.length := by simp [msg6, be1_len, be2_len, be4_len]; omega

theorem sumM6_range (ps : List UInt8) (m : Msg) : 0 ≤ sumM6 ps m ∧ sumM6 ps m ≤ 65535 := by
  unfold sumM6
  have r0 := more_range (n := 0) (o := false) (s := ps) (by omega)
  have r1 := more_range (o := false) (s := be1 m.Kind) r0.1
  have r2 := more_range (o := true) (s := be1 m.Code) r1.1
  have r3 := more_range (o := false) (s := [0, 0]) r2.1
  have r4 := more_range (o := false) (s := be4 m.Rest) r3.1
  have r5 := more_range (o := false) (s := m.Data) r4.1
  omega

theorem F67_spec {ps : List UInt8} {m : Msg} (hp : ps.length = 40) (hk : 0 ≤ m.Kind ∧ m.Kind < 256) (hc : 0 ≤ m.Code ∧ m.Code < 256) (hr : 0 ≤ m.Rest ∧ m.Rest < 4294967296) (hd : m.Data.length ≤ 1000000) : F67 m ps = some (msg6 ps m, none, ()) := by
  have r0 := more_range (n := 0) (o := false) (s := ps) (by omega)
  have r1 := more_range (o := false) (s := be1 m.Kind) r0.1
  have r2 := more_range (o := true) (s := be1 m.Code) r1.1
  have r3 := more_range (o := false) (s := [0, 0]) r2.1
  have r4 := more_range (o := false) (s := be4 m.Rest) r3.1
  have r5 := more_range (o := false) (s := m.Data) r4.1
  have hs := sumM6_range ps m
  have w0 : IntKind.i64.wrap (0 + (ps.length : Int)) = 40 := by rw [hp]; decide
  have w1 : IntKind.i64.wrap (40 + ((be1 m.Kind).length : Int)) = 41 := by rw [be1_len]; decide
  have w2 : IntKind.i64.wrap (41 + ((be1 m.Code).length : Int)) = 42 := by rw [be1_len]; decide
  have w3 : IntKind.i64.wrap (42 + 2) = 44 := by decide
  have w4 : IntKind.i64.wrap (44 + ((be4 m.Rest).length : Int)) = 48 := by rw [be4_len]; decide
  unfold F67
  rw [F84_b1 hk, Option.bind_some]
  simp only [errK]
  rw [F84_b1 hc, Option.bind_some]
  simp only
  rw [wrap_i64 (n := m.Rest) (by omega) (by omega), F84_b4 hr, Option.bind_some]
  simp only [w0, w1, w2, w3, w4]
  have o0 : odd 0 = false := rfl
  have o1 : odd 40 = false := rfl
  have o2 : odd 41 = true := rfl
  have o3 : odd 42 = false := rfl
  have o4 : odd 44 = false := rfl
  have o8 : odd 48 = false := rfl
  rw [piece _ (by omega) (by omega) (by omega), o0, piece _ r0 (by omega) (by simp [be1_len]), o1, piece _ r1 (by omega) (by simp [be1_len]), o2, piece _ r2 (by omega) (by simp), o3, piece _ r3 (by omega) (by simp [be4_len]), o4, piece _ r4 (by omega) hd, o8]
  rw [wrap_i64 (n := 65535 - _) (by omega) (by omega), Option.bind_some]
  rw [show 65535 - more (more (more (more (more (more 0 false ps) false (be1 m.Kind)) true (be1 m.Code)) false [0, 0]) false (be4 m.Rest)) false m.Data = sumM6 ps m from rfl]
  rw [F84_b2 (by omega), Option.bind_some]
  simp only
  rw [gd_cat (by simp [be1_len]), gd_cat (by simp [be1_len, be2_len]), gd_cat (by simp [be1_len, be2_len, be4_len]), gd_cat (by simp [be1_len, be2_len, be4_len]; omega)]
  rfl

theorem F67_none {ps : List UInt8} {m : Msg} (h : ¬ ((0 ≤ m.Kind ∧ m.Kind < 256) ∧ (0 ≤ m.Code ∧ m.Code < 256))) : F67 m ps = some ([], some (13, 0), ()) := by
  unfold F67
  by_cases hk : 0 ≤ m.Kind ∧ m.Kind < 256
  · rw [F84_b1 hk, Option.bind_some]
    simp only [errK]
    rw [F84_b1n (fun hc => h ⟨hk, hc⟩), Option.bind_some]
  · rw [F84_b1n hk, Option.bind_some]
    simp only [errK]

/-- A message's sum is right. -/
theorem msg6_right {ps : List UInt8} {m : Msg} (hk : 0 < m.Kind ∧ m.Kind < 256) : more (more 0 false ps) false (msg6 ps m) = 65535 := by
  have r0 := more_range (n := 0) (o := false) (s := ps) (by omega)
  have r1 := more_range (o := false) (s := be1 m.Kind) r0.1
  have r2 := more_range (o := true) (s := be1 m.Code) r1.1
  have r3 := more_range (o := false) (s := [0, 0]) r2.1
  have r4 := more_range (o := false) (s := be4 m.Rest) r3.1
  obtain ⟨z1, e1⟩ := more_mod (o := false) (s := be1 m.Kind) r0.1
  obtain ⟨z2, e2⟩ := more_mod (o := true) (s := be1 m.Code) r1.1
  obtain ⟨z3, e3⟩ := more_mod (o := false) (s := [0, 0]) r2.1
  obtain ⟨z4, e4⟩ := more_mod (o := false) (s := be4 m.Rest) r3.1
  obtain ⟨z5, e5⟩ := more_mod (o := false) (s := m.Data) r4.1
  have hs := sumM6_range ps m
  have e : ws false false (msg6 ps m) = ws false false (be1 m.Kind) + ws false true (be1 m.Code) + sumM6 ps m + ws false false (be4 m.Rest) + ws false false m.Data := by
    unfold msg6
    rw [ws_append, ws_append, ws_append, ws_append]
    simp only [List.length_append, be1_len, be2_len, be4_len]
    rw [show (false ^^ decide ((1 + 1) % 2 = 1)) = false from rfl, ws_be2 hs]
    simp
  have hz : ws false false [0, 0] = 0 := rfl
  have hp : 0 < ws false false (be1 m.Kind) := by
    simp only [be1, ws, bx, cond_false]
    rw [u8_toNat]; omega
  have g2 := ws_range false (be1 m.Code) true
  have g3 := ws_range false (be4 m.Rest) false
  have g4 := ws_range false m.Data false
  rw [show more (more 0 false ps) false (msg6 ps m) = fold1 (more 0 false ps + ws false false (msg6 ps m)) from rfl, e]
  refine fold1_full (by omega) (z := z1 + z2 + z3 + z4 + z5 + 1) ?_
  unfold sumM6
  omega

/-- A message of ICMP over IPv6, read. -/
def par28 (s ps : List UInt8) : Msg × Err × Unit :=
  if s.length < 8 then (zeroMsg, some (7, 0), ())
  else if more (more 0 false ps) false s ≠ 65535 then (zeroMsg, some (9, 0), ())
  else ({ Kind := bt s 0, Code := bt s 1, Rest := four s 4, Data := s.drop 8 }, none, ())

theorem F28_spec {s ps : List UInt8} (hs : s.length ≤ 1000000) (hp : ps.length = 40) : F28 s ps = some (par28 s ps) := by
  unfold F28 par28 F71
  simp only [errK, Option.bind_some]
  by_cases c1 : s.length < 8
  · rw [ltI_t (by omega), cond_true, if_pos c1]; rfl
  rw [ltI_f (by omega), cond_false, if_neg c1]
  have r0 := more_range (n := 0) (o := false) (s := ps) (by omega)
  have r1 := more_range (o := false) (s := s) r0.1
  rw [piece _ (by omega) (by omega) (by omega), show odd 0 = false from rfl, show IntKind.i64.wrap (0 + (ps.length : Int)) = 40 by rw [hp]; decide, piece _ r0 (by omega) hs, show odd 40 = false from rfl]
  simp only [Option.bind_some]
  rw [wrap_i64 (n := 65535 - _) (by omega) (by omega), beq_dec]
  by_cases c2 : more (more 0 false ps) false s ≠ 65535
  · rw [decide_eq_false (by omega), Bool.not_false, cond_true, if_pos c2]; rfl
  have b0 := bt_range s 0
  have b1 := bt_range s 1
  have h4 := four_range s 4
  rw [decide_eq_true (by omega), Bool.not_true, cond_false, if_neg c2, gd_ord (by omega), sub_sn, Int.sub_zero, List.length_drop, wrap_i64 (n := ((s.length - 4 : Nat) : Int)) (by omega) (by omega), ltI_f (by omega), cond_false, gd_ord (by omega), gd_in (by omega), gd_in (by omega), gd_ord (by omega), sub_sn,
    four_sub s (by omega), wrap_u32, show four s 4 % 4294967296 = four s 4 by omega, wrap_i64 (n := bt s 0) (by omega) (by omega), wrap_i64 (n := bt s 1) (by omega) (by omega)]

theorem par28_msg6 {ps : List UInt8} {m : Msg} (hk : 0 < m.Kind ∧ m.Kind < 256) (hc : 0 ≤ m.Code ∧ m.Code < 256) (hr : 0 ≤ m.Rest ∧ m.Rest < 4294967296) : par28 (msg6 ps m) ps = (m, none, ()) := by
  have hlen := msg6_len ps m
  have u := u8_toNat
  unfold par28
  rw [if_neg (by omega), if_neg (not_not_intro (msg6_right hk))]
  have e0 : bt (msg6 ps m) 0 = m.Kind := by
    have : bt (msg6 ps m) 0 = ((u8 m.Kind).toNat : Int) := rfl
    rw [this, u]; omega
  have e1 : bt (msg6 ps m) 1 = m.Code := by
    have : bt (msg6 ps m) 1 = ((u8 m.Code).toNat : Int) := rfl
    rw [this, u]; omega
  have e4 : four (msg6 ps m) 4 = m.Rest := by
    have : four (msg6 ps m) 4 = ((((u8 (m.Rest / 16777216)).toNat : Int) * 256 + ((u8 (m.Rest / 65536)).toNat : Int)) * 256 + ((u8 (m.Rest / 256)).toNat : Int)) * 256 + ((u8 m.Rest).toNat : Int) := rfl
    rw [this, u, u, u, u]; omega
  have e8 : (msg6 ps m).drop 8 = m.Data := rfl
  rw [e0, e1, e4, e8]

theorem F99_b1 {x : Int} (h : 0 ≤ x ∧ x < 256) : F99 x 1 = some (be1 x) := by unfold F99; rw [F84_b1 h]; rfl
theorem F99_b2 {x : Int} (h : 0 ≤ x ∧ x < 65536) : F99 x 2 = some (be2 x) := by unfold F99; rw [F84_b2 h]; rfl
theorem F99_b4 {x : Int} (h : 0 ≤ x ∧ x < 4294967296) : F99 x 4 = some (be4 x) := by unfold F99; rw [F84_b4 h]; rfl

def front6 (a b : V6) (d : List UInt8) : List UInt8 := be4 1610612736 ++ be2 d.length ++ be1 58 ++ be1 64 ++ a.bytes ++ b.bytes
theorem front6_len (a b : V6) (d : List UInt8) : (front6 a b d).length = 40 := by simp [front6, be1_len, be2_len, be4_len, V6.len]
def err6 (a b : V6) (d : List UInt8) : Ip6 := { Class := 0, Flow := 0, Hop := 64, From := a, To := b, Exts := exts2 [], Frag := false, Id := 0, At := 0, More := false, Proto := 58, Data := d }

abbrev V6.fit (a : V6) : Prop := (0 ≤ a.b0 ∧ a.b0 ≤ 255) ∧ (0 ≤ a.b1 ∧ a.b1 ≤ 255) ∧ (0 ≤ a.b2 ∧ a.b2 ≤ 255) ∧ (0 ≤ a.b3 ∧ a.b3 ≤ 255) ∧ (0 ≤ a.b4 ∧ a.b4 ≤ 255) ∧ (0 ≤ a.b5 ∧ a.b5 ≤ 255) ∧ (0 ≤ a.b6 ∧ a.b6 ≤ 255) ∧ (0 ≤ a.b7 ∧ a.b7 ≤ 255) ∧
  (0 ≤ a.b8 ∧ a.b8 ≤ 255) ∧ (0 ≤ a.b9 ∧ a.b9 ≤ 255) ∧ (0 ≤ a.b10 ∧ a.b10 ≤ 255) ∧ (0 ≤ a.b11 ∧ a.b11 ≤ 255) ∧ (0 ≤ a.b12 ∧ a.b12 ≤ 255) ∧ (0 ≤ a.b13 ∧ a.b13 ≤ 255) ∧ (0 ≤ a.b14 ∧ a.b14 ≤ 255) ∧ (0 ≤ a.b15 ∧ a.b15 ≤ 255)

theorem v6_back {a : V6} (h : a.fit) : (⟨((UInt8.ofNat a.b0.toNat).toNat : Int), ((UInt8.ofNat a.b1.toNat).toNat : Int), ((UInt8.ofNat a.b2.toNat).toNat : Int), ((UInt8.ofNat a.b3.toNat).toNat : Int), ((UInt8.ofNat a.b4.toNat).toNat : Int), ((UInt8.ofNat a.b5.toNat).toNat : Int), ((UInt8.ofNat a.b6.toNat).toNat : Int), ((UInt8.ofNat a.b7.toNat).toNat : Int),
    ((UInt8.ofNat a.b8.toNat).toNat : Int), ((UInt8.ofNat a.b9.toNat).toNat : Int), ((UInt8.ofNat a.b10.toNat).toNat : Int), ((UInt8.ofNat a.b11.toNat).toNat : Int), ((UInt8.ofNat a.b12.toNat).toNat : Int), ((UInt8.ofNat a.b13.toNat).toNat : Int), ((UInt8.ofNat a.b14.toNat).toNat : Int), ((UInt8.ofNat a.b15.toNat).toNat : Int)⟩ : V6) = a := by
  obtain ⟨h0, h1, h2, h3, h4, h5, h6, h7, h8, h9, h10, h11, h12, h13, h14, h15⟩ := h
  rw [byte_back h0, byte_back h1, byte_back h2, byte_back h3, byte_back h4, byte_back h5, byte_back h6, byte_back h7, byte_back h8, byte_back h9, byte_back h10, byte_back h11, byte_back h12, byte_back h13, byte_back h14, byte_back h15]

theorem v6at_fit (s : List UInt8) (i : Nat) : (v6at s i).fit := by
  have b := bt_range s
  exact ⟨b _, b _, b _, b _, b _, b _, b _, b _, b _, b _, b _, b _, b _, b _, b _, b _⟩

/-- What is written is read. -/
theorem par27_err6 {a b : V6} {d : List UInt8} (ha : a.fit) (hb : b.fit) (hd : d.length ≤ 60000) : par27 (front6 a b d ++ d) = (err6 a b d, none, ()) := by
  have u := u8_toNat
  have hfl := front6_len a b d
  generalize ht : front6 a b d ++ d = t
  have hlen : t.length = 40 + d.length := by rw [← ht, List.length_append, hfl]
  have et : t = be4 1610612736 ++ be2 d.length ++ be1 58 ++ be1 64 ++ a.bytes ++ b.bytes ++ d := by rw [← ht]; rfl
  have b0 : bt t 0 = 96 := by rw [et]; rfl
  have b6 : bt t 6 = 58 := by rw [et]; rfl
  have b7 : bt t 7 = 64 := by rw [et]; rfl
  have f0 : four t 0 = 1610612736 := by
    have : four t 0 = ((((u8 (1610612736 / 16777216)).toNat : Int) * 256 + ((u8 (1610612736 / 65536)).toNat : Int)) * 256 + ((u8 (1610612736 / 256)).toNat : Int)) * 256 + ((u8 1610612736).toNat : Int) := by rw [et]; rfl
    rw [this, u, u, u, u]; omega
  have t4 : two t 4 = d.length := by
    have : two t 4 = ((u8 ((d.length : Int) / 256)).toNat : Int) * 256 + ((u8 (d.length : Int)).toNat : Int) := by rw [et]; rfl
    rw [this, u, u]; omega
  have s8 : v6at t 8 = a := by
    rw [et]
    exact Eq.trans rfl (v6_back ha)
  have s24 : v6at t 24 = b := by
    rw [et]
    exact Eq.trans rfl (v6_back hb)
  have hbe : behind t = d := by
    unfold behind
    rw [show t.drop 40 = d by rw [et]; rfl, t4, List.take_of_length_le (by omega)]
  unfold par27
  rw [if_neg (by omega), if_neg (by rw [b0]; decide), if_neg (by omega), b6, hbe, chain_stop (by decide)]
  simp only
  rw [if_neg (by decide)]
  unfold ip6of err6
  rw [b7, f0, s8, s24]
  rfl
end Go.Rx.L15F
