/- Plain laws of interpreterlaw15's functions: ip4.Bytes of an error of one's own, and what is read of it (for FaultFits). -/
import Derived.Test.YteahnnchfegknaaP15r
set_option linter.unusedVariables false
set_option linter.unusedSimpArgs false
set_option maxHeartbeats 1000000
set_option maxRecDepth 100000
namespace Go.Rx.L15F
open Go.Rx

theorem F85_b1 {x : Int} (h : 0 ≤ x ∧ x < 256) : F85 x 1 = some (be1 x) := by unfold F85; rw [F84_b1 h]; rfl
theorem F85_b2 {x : Int} (h : 0 ≤ x ∧ x < 65536) : F85 x 2 = some (be2 x) := by unfold F85; rw [F84_b2 h]; rfl

/-- An error of one's own, as a packet of IPv4. -/
def err4 (id : Int) (a b : V4) (d : List UInt8) : Ip4 :=
  { Tos := 0, Id := id, Ttl := 64, Proto := 1, At := 0, DF := false, More := false, From := a, To := b, Options := [], Data := d }
def lead4 (id : Int) (d : List UInt8) : List UInt8 := be1 69 ++ be1 0 ++ be2 (20 + d.length) ++ be2 id ++ be2 0 ++ be1 64 ++ be1 1
def front4 (id : Int) (a b : V4) (d : List UInt8) : List UInt8 := lead4 id d ++ be2 (sum4 (lead4 id d) (a.bytes ++ b.bytes)) ++ (a.bytes ++ b.bytes)

theorem lead4_len (id : Int) (d : List UInt8) : (lead4 id d).length = 10 := by simp [lead4, be1_len, be2_len]
theorem front4_len (id : Int) (a b : V4) (d : List UInt8) : (front4 id a b d).length = 20 := by simp [front4, lead4_len, be2_len, V4.len]

theorem why4_err4 {id : Int} {a b : V4} {d : List UInt8} (hid : 0 ≤ id ∧ id < 65536) (hd : d.length ≤ 60000) : why4 (err4 id a b d) = 0 := by
  unfold why4 err4
  simp only [List.length_nil]
  rw [if_neg (not_not_intro ⟨by omega, by omega, by omega, by omega, by omega, by decide⟩), if_neg (by simp), if_neg (by omega)]

theorem F40_err4 {id : Int} {a b : V4} {d : List UInt8} (hid : 0 ≤ id ∧ id < 65536) (hd : d.length ≤ 60000) :
    F40 (err4 id a b d) = some (front4 id a b d ++ d, none, ()) := by
  unfold F40
  have e0 : ({ Tos := (err4 id a b d).Tos, Id := (err4 id a b d).Id, Ttl := (err4 id a b d).Ttl, Proto := (err4 id a b d).Proto, At := (err4 id a b d).At, DF := (err4 id a b d).DF, More := (err4 id a b d).More, From := { b0 := (err4 id a b d).From.b0, b1 := (err4 id a b d).From.b1, b2 := (err4 id a b d).From.b2, b3 := (err4 id a b d).From.b3 }, To := { b0 := (err4 id a b d).To.b0, b1 := (err4 id a b d).To.b1, b2 := (err4 id a b d).To.b2, b3 := (err4 id a b d).To.b3 }, Options := (err4 id a b d).Options, Data := (err4 id a b d).Data } : Ip4) = err4 id a b d := rfl
  rw [e0, F63_spec (by simp [err4]) (by show d.length ≤ _; omega), why4_err4 hid hd, Option.bind_some]
  have hb : (a.bytes ++ b.bytes).length = 8 := rfl
  have hl := lead4_len id d
  have hs := sum4_range (lead4 id d) (a.bytes ++ b.bytes)
  have h1 := ws_range false (lead4 id d) false
  have h2 := fold1_range (n := ws false false (lead4 id d)) (by omega)
  have h3 := ws_range false (a.bytes ++ b.bytes) false
  have h4 := fold1_range (n := fold1 (ws false false (lead4 id d)) + ws false false (a.bytes ++ b.bytes)) (by omega)
  have f2' := F93_spec false (n := fold1 (ws false false (lead4 id d))) (at_ := 10) (s := a.bytes ++ b.bytes) (by omega) (by omega) (by omega) (by omega) (by omega)
  rw [show turnOf false = 0 from rfl, show odd 10 = false from rfl] at f2'
  rw [show (!((0 : Int) == 0)) = false from rfl, cond_false]
  simp only [err4, cond_false, List.length_nil]
  rw [show IntKind.i64.wrap (64 + IntKind.i64.wrap ((IntKind.i64.wrap (20 + ((0 : Nat) : Int))).tdiv 4)) = 69 from by decide,
    show IntKind.i64.wrap ((0 : Int).tdiv 8) = 0 from by decide, show IntKind.i64.wrap (20 + ((0 : Nat) : Int)) = 20 from by decide, wrap_i64 (n := 20 + (d.length : Int)) (by omega) (by omega)]
  rw [F85_b1 (x := 69) (by omega), Option.bind_some, F85_b1 (x := 0) (by omega), Option.bind_some, gd_cat (by simp [be1_len]), F85_b2 (x := 20 + (d.length : Int)) (by omega), Option.bind_some, gd_cat (by simp [be1_len, be2_len]),
    F85_b2 hid, Option.bind_some, gd_cat (by simp [be1_len, be2_len]), F85_b2 (x := 0) (by omega), Option.bind_some, gd_cat (by simp [be1_len, be2_len]), F85_b1 (x := 64) (by omega), Option.bind_some, gd_cat (by simp [be1_len, be2_len]),
    F85_b1 (x := 1) (by omega), Option.bind_some, gd_cat (by simp [be1_len, be2_len])]
  simp only [V4.bytes_def, List.append_nil]
  rw [show be1 69 ++ be1 0 ++ be2 (20 + (d.length : Int)) ++ be2 id ++ be2 0 ++ be1 64 ++ be1 1 = lead4 id d from rfl]
  rw [gd_cat (by simp [V4.len]), F93_0 (by omega), Option.bind_some, F92_spec (by omega) (by omega), Option.bind_some, hl, wrap_i64 (n := 0 + ((10 : Nat) : Int)) (by omega) (by omega), show (0 + ((10 : Nat) : Int)) = 10 from rfl, f2', Option.bind_some,
    F92_spec (by omega) (by omega), Option.bind_some, Option.bind_some, wrap_i64 (n := 65535 - _) (by omega) (by omega)]
  rw [show 65535 - fold1 (fold1 (ws false false (lead4 id d)) + ws false false (a.bytes ++ b.bytes)) = sum4 (lead4 id d) (a.bytes ++ b.bytes) from rfl]
  rw [F85_b2 (by omega), Option.bind_some, gd_cat (by rw [hl, be2_len]; omega), gd_cat (by rw [List.length_append, hl, be2_len, hb]; omega), gd_cat (by rw [List.length_append, List.length_append, hl, be2_len, hb]; omega)]
  rfl

theorem front4_right (id : Int) (a b : V4) (d : List UInt8) : fold1 (ws false false (front4 id a b d)) = 65535 := by
  have hs := sum4_range (lead4 id d) (a.bytes ++ b.bytes)
  have hl := lead4_len id d
  have e1 : ws false false (front4 id a b d) = ws false false (lead4 id d) + sum4 (lead4 id d) (a.bytes ++ b.bytes) + ws false false (a.bytes ++ b.bytes) := by
    unfold front4
    rw [ws_append, ws_append, List.length_append, hl, be2_len]
    rw [show (false ^^ decide (10 % 2 = 1)) = false from rfl, ws_be2 hs]
  have h1 := ws_range false (lead4 id d) false
  have hpos : 0 < ws false false (lead4 id d) := by
    have e2 : lead4 id d = 69 :: (be1 0 ++ be2 (20 + d.length) ++ be2 id ++ be2 0 ++ be1 64 ++ be1 1) := rfl
    rw [e2]
    simp only [ws, cond_false, bx]
    have := ws_range false (be1 0 ++ be2 (20 + d.length) ++ be2 id ++ be2 0 ++ be1 64 ++ be1 1) (!false)
    have h69 : ((69 : UInt8).toNat : Int) = 69 := rfl
    omega
  obtain ⟨z1, g1⟩ := fold1_mod (x := ws false false (lead4 id d)) (by omega)
  have h2 := fold1_range (n := ws false false (lead4 id d)) (by omega)
  have h3 := ws_range false (a.bytes ++ b.bytes) false
  obtain ⟨z2, g2⟩ := fold1_mod (x := fold1 (ws false false (lead4 id d)) + ws false false (a.bytes ++ b.bytes)) (by omega)
  rw [e1]
  refine fold1_full (by omega) (z := z1 + z2 + 1) ?_
  unfold sum4
  omega

abbrev V4.fit (a : V4) : Prop := (0 ≤ a.b0 ∧ a.b0 ≤ 255) ∧ (0 ≤ a.b1 ∧ a.b1 ≤ 255) ∧ (0 ≤ a.b2 ∧ a.b2 ≤ 255) ∧ (0 ≤ a.b3 ∧ a.b3 ≤ 255)

/-- What is written is read. -/
theorem par24_err4 {id : Int} {a b : V4} {d : List UInt8} (hid : 0 ≤ id ∧ id < 65536) (ha : a.fit) (hb : b.fit) (hd : d.length ≤ 60000) : par24 (front4 id a b d ++ d) = (err4 id a b d, none, ()) := by
  have u := u8_toNat
  have hright := front4_right id a b d
  have hfl := front4_len id a b d
  generalize hS : sum4 (lead4 id d) (a.bytes ++ b.bytes) = S
  generalize ht : front4 id a b d ++ d = t
  have hlen : t.length = 20 + d.length := by rw [← ht, List.length_append, hfl]
  have et : t = be1 69 ++ be1 0 ++ be2 (20 + d.length) ++ be2 id ++ be2 0 ++ be1 64 ++ be1 1 ++ be2 S ++ (a.bytes ++ b.bytes) ++ d := by
    rw [← ht, ← hS]; rfl
  have b0 : bt t 0 = 69 := by rw [et]; rfl
  have b1 : bt t 1 = 0 := by rw [et]; rfl
  have b8 : bt t 8 = 64 := by rw [et]; rfl
  have b9 : bt t 9 = 1 := by rw [et]; rfl
  have t2 : two t 2 = 20 + d.length := by
    have : two t 2 = ((u8 ((20 + (d.length : Int)) / 256)).toNat : Int) * 256 + ((u8 (20 + (d.length : Int))).toNat : Int) := by rw [et]; rfl
    rw [this, u, u]; omega
  have t4 : two t 4 = id := by
    have : two t 4 = ((u8 (id / 256)).toNat : Int) * 256 + ((u8 id).toNat : Int) := by rw [et]; rfl
    rw [this, u, u]; omega
  have t6 : two t 6 = 0 := by rw [et]; rfl
  have hhl2 : hl t = 20 := by unfold hl; rw [b0]; rfl
  have hda : data4 t = d := by
    unfold data4
    rw [hhl2, t2, show t.drop 20 = d by rw [et]; rfl, List.take_of_length_le]; omega
  have hfrom : (⟨bt t 12, bt t 13, bt t 14, bt t 15⟩ : V4) = a := by
    have e : (⟨bt t 12, bt t 13, bt t 14, bt t 15⟩ : V4) = ⟨((UInt8.ofNat a.b0.toNat).toNat : Int), ((UInt8.ofNat a.b1.toNat).toNat : Int), ((UInt8.ofNat a.b2.toNat).toNat : Int), ((UInt8.ofNat a.b3.toNat).toNat : Int)⟩ := by rw [et]; rfl
    rw [e, byte_back ha.1, byte_back ha.2.1, byte_back ha.2.2.1, byte_back ha.2.2.2]
  have hto : (⟨bt t 16, bt t 17, bt t 18, bt t 19⟩ : V4) = b := by
    have e : (⟨bt t 16, bt t 17, bt t 18, bt t 19⟩ : V4) = ⟨((UInt8.ofNat b.b0.toNat).toNat : Int), ((UInt8.ofNat b.b1.toNat).toNat : Int), ((UInt8.ofNat b.b2.toNat).toNat : Int), ((UInt8.ofNat b.b3.toNat).toNat : Int)⟩ := by rw [et]; rfl
    rw [e, byte_back hb.1, byte_back hb.2.1, byte_back hb.2.2.1, byte_back hb.2.2.2]
  have hp : ip4of t = err4 id a b d := by
    unfold ip4of err4
    rw [b1, b8, b9, t4, t6, hfrom, hto, hda, hhl2]
    rfl
  unfold par24
  rw [if_neg (by omega), if_neg (by rw [b0, hhl2]; decide), if_neg (by omega), if_neg, if_neg (by omega), if_neg (by omega), if_neg (by rw [hp, why4_err4 hid hd, t6]; simp), hp]
  rw [hhl2, ← ht, List.take_append_of_le_length (by omega), List.take_of_length_le (by omega)]
  exact not_not_intro hright
end Go.Rx.L15F
