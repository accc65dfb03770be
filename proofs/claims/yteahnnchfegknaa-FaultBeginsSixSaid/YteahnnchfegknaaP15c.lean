/- Plain laws of interpreterlaw15's functions: what is quoted over IPv6. -/
import Derived.Test.YteahnnchfegknaaP15b
set_option linter.unusedVariables false
set_option linter.unusedSimpArgs false
namespace Go.Rx.L15F
open Go.Rx

theorem V4.eta' (a : V4) : ({ b0 := a.b0, b1 := a.b1, b2 := a.b2, b3 := a.b3 } : V4) = a := rfl
theorem V6.eta' (a : V6) : ({ b0 := a.b0, b1 := a.b1, b2 := a.b2, b3 := a.b3, b4 := a.b4, b5 := a.b5, b6 := a.b6, b7 := a.b7, b8 := a.b8, b9 := a.b9, b10 := a.b10, b11 := a.b11, b12 := a.b12, b13 := a.b13, b14 := a.b14, b15 := a.b15 } : V6) = a := rfl
theorem T6.eta' (a : T6) : ({ Addr := a.Addr, Port := a.Port } : T6) = a := rfl
theorem Ip4.eta' (p : Ip4) : ({ Tos := p.Tos, Id := p.Id, Ttl := p.Ttl, Proto := p.Proto, At := p.At, DF := p.DF, More := p.More, From := p.From, To := p.To, Options := p.Options, Data := p.Data } : Ip4) = p := rfl
def V4.bytes (a : V4) : List UInt8 := [UInt8.ofNat a.b0.toNat, UInt8.ofNat a.b1.toNat, UInt8.ofNat a.b2.toNat, UInt8.ofNat a.b3.toNat]
def V6.bytes (a : V6) : List UInt8 := [UInt8.ofNat a.b0.toNat, UInt8.ofNat a.b1.toNat, UInt8.ofNat a.b2.toNat, UInt8.ofNat a.b3.toNat, UInt8.ofNat a.b4.toNat, UInt8.ofNat a.b5.toNat, UInt8.ofNat a.b6.toNat, UInt8.ofNat a.b7.toNat, UInt8.ofNat a.b8.toNat, UInt8.ofNat a.b9.toNat, UInt8.ofNat a.b10.toNat, UInt8.ofNat a.b11.toNat, UInt8.ofNat a.b12.toNat, UInt8.ofNat a.b13.toNat, UInt8.ofNat a.b14.toNat, UInt8.ofNat a.b15.toNat]
theorem V4.bytes_def (a : V4) : [UInt8.ofNat a.b0.toNat, UInt8.ofNat a.b1.toNat, UInt8.ofNat a.b2.toNat, UInt8.ofNat a.b3.toNat] = a.bytes := rfl
theorem V6.bytes_def (a : V6) : [UInt8.ofNat a.b0.toNat, UInt8.ofNat a.b1.toNat, UInt8.ofNat a.b2.toNat, UInt8.ofNat a.b3.toNat, UInt8.ofNat a.b4.toNat, UInt8.ofNat a.b5.toNat, UInt8.ofNat a.b6.toNat, UInt8.ofNat a.b7.toNat, UInt8.ofNat a.b8.toNat, UInt8.ofNat a.b9.toNat, UInt8.ofNat a.b10.toNat, UInt8.ofNat a.b11.toNat, UInt8.ofNat a.b12.toNat, UInt8.ofNat a.b13.toNat, UInt8.ofNat a.b14.toNat, UInt8.ofNat a.b15.toNat] = a.bytes := rfl
theorem V4.len (a : V4) : a.bytes.length = 4 := rfl
theorem V6.len (a : V6) : a.bytes.length = 16 := rfl
theorem be1_len (x : Int) : (be1 x).length = 1 := rfl
theorem be2_len (x : Int) : (be2 x).length = 2 := rfl
theorem be4_len (x : Int) : (be4 x).length = 4 := rfl

theorem gd_cat {R : Type} {a b : List UInt8} (h : a.length + b.length ≤ 9223372036854775807) (k : Option R) : gd (catOk a b) k = k :=
  gd_true (Nat.ble_eq_true_of_le h) k
theorem gd_in {R : Type} {i : Int} {n : Nat} (h : 0 ≤ i ∧ i < n) (k : Option R) : gd (inB i n) k = k := gd_true (inB_iff.2 h) k
theorem gd_ord {R : Type} {l h : Int} {n : Nat} (e : 0 ≤ l ∧ l ≤ h ∧ h ≤ n) (k : Option R) : gd (ordB l h n) k = k := gd_true (ordB_iff.2 e) k
theorem ltI_t {a b : Int} (h : a < b) : ltI a b = true := by rw [ltI_eq, decide_eq_true h]
theorem ltI_f {a b : Int} (h : ¬ a < b) : ltI a b = false := by rw [ltI_eq, decide_eq_false h]
theorem sub_nn (s : List UInt8) (l h : Nat) : sub s none none l h = s := rfl
theorem sub_ns {s : List UInt8} {v : V} {l h : Nat} (hh : h ≤ s.length) : sub s none (some v) l h = s.take h := cutL_eq _ _ hh
theorem sub_sn (s : List UInt8) (v : V) (l h : Nat) : sub s (some v) none l h = s.drop l := rfl
theorem sub_ss {s : List UInt8} {v u : V} {l h : Nat} (hh : h ≤ s.length) : sub s (some v) (some u) l h = (s.drop l).take (h - l) := cutL_eq _ _ (by rw [List.length_drop]; omega)

theorem F48_1 {x : Int} (h : 0 ≤ x ∧ x < 256) : F48 x 1 = some (be1 x) := by unfold F48 F84; rw [if_pos rfl, if_pos h]; rfl
theorem F48_2 {x : Int} (h : 0 ≤ x ∧ x < 65536) : F48 x 2 = some (be2 x) := by unfold F48 F84; rw [if_neg (by decide), if_pos rfl, if_pos h]; rfl
theorem F48_4 {x : Int} (h : 0 ≤ x ∧ x < 4294967296) : F48 x 4 = some (be4 x) := by unfold F48 F84; rw [if_neg (by decide), if_neg (by decide), if_pos rfl, if_pos h]; rfl

theorem F72_1 {x : Int} (h : 0 ≤ x ∧ x ≤ 4294967295) : F72 x 1 = some (be1 (x % 256)) := by
  unfold F72
  have e := iand_mask (n := x) 8 (by omega) h.1 (by omega)
  rw [show (((2 : Nat) ^ 8 - 1 : Nat) : Int) = 255 from rfl, show (((2 : Nat) ^ 8 : Nat) : Int) = 256 from rfl] at e
  rw [show IntKind.i64.wrap (IntKind.i64.wrap (1 * 2 ^ Min.min (IntKind.i64.wrap (8 * 1)).toNat 64) - 1) = 255 from by decide, show (decide ((0 : Int) ≤ IntKind.i64.wrap (8 * 1))) = true from by decide, gd_true rfl, e]
  unfold F84; rw [if_pos rfl, if_pos (by omega)]; rfl
theorem F72_2 {x : Int} (h : 0 ≤ x ∧ x ≤ 4294967295) : F72 x 2 = some (be2 (x % 65536)) := by
  unfold F72
  have e := iand_mask (n := x) 16 (by omega) h.1 (by omega)
  rw [show (((2 : Nat) ^ 16 - 1 : Nat) : Int) = 65535 from rfl, show (((2 : Nat) ^ 16 : Nat) : Int) = 65536 from rfl] at e
  rw [show IntKind.i64.wrap (IntKind.i64.wrap (1 * 2 ^ Min.min (IntKind.i64.wrap (8 * 2)).toNat 64) - 1) = 65535 from by decide, show (decide ((0 : Int) ≤ IntKind.i64.wrap (8 * 2))) = true from by decide, gd_true rfl, e]
  unfold F84; rw [if_neg (by decide), if_pos rfl, if_pos (by omega)]; rfl
theorem F72_4 {x : Int} (h : 0 ≤ x ∧ x ≤ 4294967295) : F72 x 4 = some (be4 x) := by
  unfold F72
  have e := iand_mask (n := x) 32 (by omega) h.1 (by omega)
  rw [show (((2 : Nat) ^ 32 - 1 : Nat) : Int) = 4294967295 from rfl, show (((2 : Nat) ^ 32 : Nat) : Int) = 4294967296 from rfl] at e
  rw [show IntKind.i64.wrap (IntKind.i64.wrap (1 * 2 ^ Min.min (IntKind.i64.wrap (8 * 4)).toNat 64) - 1) = 4294967295 from by decide, show (decide ((0 : Int) ≤ IntKind.i64.wrap (8 * 4))) = true from by decide, gd_true rfl, e]
  unfold F84; rw [if_neg (by decide), if_neg (by decide), if_pos rfl, if_pos (by omega), show x % 4294967296 = x by omega]; rfl

/-- IPv6's head that is summed and not sent. -/
def pseudo6 (a b : V6) (next length : Int) : List UInt8 := a.bytes ++ b.bytes ++ be4 length ++ [0, 0, 0] ++ be1 (next % 256)

theorem F29_spec {a b : V6} {next length : Int} (h1 : 0 ≤ next ∧ next ≤ 4294967295) (h2 : 0 ≤ length ∧ length ≤ 4294967295) : F29 a b next length = some (pseudo6 a b next length) := by
  unfold F29
  simp only [V6.bytes_def]
  rw [F72_4 h2, Option.bind_some, gd_cat (by simp [V6.len, be4_len]), gd_cat (by simp [V6.len, be4_len]), F72_1 h1, Option.bind_some, gd_cat (by simp [V6.len, be4_len, be1_len])]
  rfl

theorem pseudo6_len (a b : V6) (next length : Int) : (pseudo6 a b next length).length = 40 := by
  simp [pseudo6, V6.len, be4_len, be1_len]

def even (s : List UInt8) : List UInt8 := if s.length % 2 = 1 then s ++ [0] else s

theorem F125_spec {s : List UInt8} (h : s.length ≤ 1000000) : F125 s = some (even s) := by
  unfold F125 even
  rw [Int.tmod_eq_emod_of_nonneg (by omega)]
  by_cases k : s.length % 2 = 1
  · rw [show ((s.length : Int) % 2 == 1) = true by rw [beq_iff_eq]; omega, cond_true, gd_cat (by simp; omega), if_pos k]
  · rw [show ((s.length : Int) % 2 == 1) = false by rw [beq_eq_false_iff_ne]; omega, cond_false, if_neg k]

/-- A sum when a piece changes. -/
def updSum (n : Int) (old new : List UInt8) : Int := 65535 - fold1 (fold1 (65535 - n + ws true false (even old)) + ws false false new)

theorem even_len (s : List UInt8) : (even s).length ≤ s.length + 1 := by unfold even; split <;> simp

theorem updSum_range {n : Int} {old new : List UInt8} (h : 0 ≤ n ∧ n ≤ 65535) : 0 ≤ updSum n old new ∧ updSum n old new ≤ 65535 := by
  unfold updSum
  have h1 := ws_range true (even old) false
  have h2 := fold1_range (n := 65535 - n + ws true false (even old)) (by omega)
  have h3 := ws_range false new false
  have h4 := fold1_range (n := fold1 (65535 - n + ws true false (even old)) + ws false false new) (by omega)
  omega

theorem F123_spec {n : Int} {old new : List UInt8} (h : 0 ≤ n ∧ n ≤ 65535) (ho : old.length ≤ 100000) (hn : new.length ≤ 100000) : F123 n old new = some (updSum n old new) := by
  unfold F123
  have e := iand_mask (n := n) 16 (by omega) h.1 (by omega)
  rw [show (((2 : Nat) ^ 16 - 1 : Nat) : Int) = 65535 from rfl, show (((2 : Nat) ^ 16 : Nat) : Int) = 65536 from rfl] at e
  have hl := even_len old
  rw [F125_spec (by omega), Option.bind_some, e, show n % 65536 = n by omega, wrap_i64 (n := 65535 - n) (by omega) (by omega)]
  have f1 := F93_spec true (n := 65535 - n) (at_ := 0) (s := even old) (by omega) (by omega) (by omega) (by omega) (by omega)
  rw [show turnOf true = 255 from rfl, show odd 0 = false from rfl] at f1
  have h1 := ws_range true (even old) false
  have h2 := fold1_range (n := 65535 - n + ws true false (even old)) (by omega)
  have h3 := ws_range false new false
  have h4 := fold1_range (n := fold1 (65535 - n + ws true false (even old)) + ws false false new) (by omega)
  have f2 := F93_spec false (n := fold1 (65535 - n + ws true false (even old))) (at_ := 0) (s := new) (by omega) (by omega) (by omega) (by omega) (by omega)
  rw [show turnOf false = 0 from rfl, show odd 0 = false from rfl] at f2
  rw [f1, Option.bind_some, F92_spec (by omega) (by omega), Option.bind_some, f2, Option.bind_some, F92_spec (by omega) (by omega), Option.bind_some, wrap_i64 (by omega) (by omega)]
  rfl

/-- Data whose sum at a place, if it is there, was updated. -/
def update (data : List UInt8) (k : Nat) (old new : List UInt8) (none : Bool) : List UInt8 :=
  if data.length < k + 2 then data
  else if none = true ∧ two data k = 0 then data
  else data.take k ++ be2 (if none = true ∧ updSum (two data k) old new = 0 then 65535 else updSum (two data k) old new) ++ data.drop (k + 2)

theorem F111_spec {data old new : List UInt8} {k : Nat} {none : Bool} (hk : k ≤ 100) (hd : data.length ≤ 100000) (ho : old.length ≤ 100000) (hn : new.length ≤ 100000) :
    F111 data k old new none = some (update data k old new none) := by
  unfold F111 update
  rw [wrap_i64 (n := (k : Int) + 2) (by omega) (by omega), wrap_i64 (n := (k : Int) + 1) (by omega) (by omega)]
  by_cases c : data.length < k + 2
  · rw [ltI_t (by omega), cond_true, if_pos c]
  rw [ltI_f (by omega), cond_false, if_neg c, gd_in (by omega), gd_in (by omega)]
  have hb0 := bt_range data k
  have hb1 := bt_range data (k + 1 : Nat)
  rw [show ((k : Int) + 1) = ((k + 1 : Nat) : Int) by omega]
  rw [wrap_i64 (n := bt data k) (by omega) (by omega), wrap_i64 (n := bt data k * 256) (by omega) (by omega), wrap_i64 (n := bt data (k + 1 : Nat)) (by omega) (by omega), ior_256 (by omega) (by omega) (by omega) (by omega)]
  rw [show bt data k * 256 + bt data (k + 1 : Nat) = two data k from rfl]
  have h2 := two_range data k
  rw [F123_spec h2 ho hn]
  have hu := updSum_range (old := old) (new := new) h2
  have eb : (bif none then some (two data k == 0) else some false) = some (decide (none = true ∧ two data k = 0)) := by
    cases none
    · simp
    · simp [BEq.beq]
  rw [eb, Option.bind_some]
  by_cases c2 : none = true ∧ two data k = 0
  · rw [decide_eq_true c2, cond_true, if_pos c2]
  rw [decide_eq_false c2, cond_false, if_neg c2, Option.bind_some]
  have eb2 : (bif none then some (updSum (two data k) old new == 0) else some false) = some (decide (none = true ∧ updSum (two data k) old new = 0)) := by
    cases none
    · simp
    · simp [BEq.beq]
  rw [eb2, Option.bind_some]
  simp only [sub_sn, Int.toNat_natCast, show ((k : Int) + 2).toNat = k + 2 by omega]
  rw [sub_ns (show k ≤ data.length by omega)]
  by_cases c3 : none = true ∧ updSum (two data k) old new = 0
  · rw [decide_eq_true c3, cond_true, if_pos c3, gd_ord (by omega), F48_2 (by omega), Option.bind_some, gd_cat (by simp [be2_len]; omega), gd_ord (by omega), gd_cat (by simp [be2_len]; omega)]
  · rw [decide_eq_false c3, cond_false, if_neg c3, gd_ord (by omega), F48_2 (by omega), Option.bind_some, gd_cat (by simp [be2_len]; omega), gd_ord (by omega), gd_cat (by simp [be2_len]; omega)]

theorem update_len (data : List UInt8) (k : Nat) (old new : List UInt8) (none : Bool) : (update data k old new none).length = data.length := by
  unfold update
  split
  · rfl
  split
  · rfl
  · simp [be2_len]; omega

/-- Data with other ports, and the sum that goes with them. -/
def ported (proto : Int) (data old new : List UInt8) (from_ to_ : Int) : List UInt8 :=
  if data.length < 4 then data
  else if proto = 17 then update (be2 from_ ++ be2 to_ ++ data.drop 4) 6 (old ++ data.take 4) (new ++ (be2 from_ ++ be2 to_)) true
  else update (be2 from_ ++ be2 to_ ++ data.drop 4) 16 (old ++ data.take 4) (new ++ (be2 from_ ++ be2 to_)) false

theorem F87_spec {proto from_ to_ : Int} {data old new : List UInt8} (hd : data.length ≤ 90000) (ho : old.length ≤ 90000) (hn : new.length ≤ 90000) (hf : 0 ≤ from_ ∧ from_ ≤ 65535) (ht : 0 ≤ to_ ∧ to_ ≤ 65535) :
    F87 proto data old new from_ to_ = some (ported proto data old new from_ to_) := by
  unfold F87 ported
  by_cases c : data.length < 4
  · rw [ltI_t (by omega), cond_true, if_pos c]
  rw [ltI_f (by omega), cond_false, if_neg c, F48_2 (by omega), F48_2 (by omega)]
  simp only [Option.bind_some, sub_sn, Int.toNat_natCast]
  rw [sub_ns (show 4 ≤ data.length by omega)]
  rw [gd_cat (by simp [be2_len]), gd_ord (by omega), gd_ord (by omega), gd_cat (by simp [be2_len]; omega)]
  have hs : ∀ k : Nat, k ≤ 100 → ∀ none : Bool, F111 (be2 from_ ++ be2 to_ ++ data.drop 4) k (old ++ data.take 4) (new ++ (be2 from_ ++ be2 to_)) none = some (update (be2 from_ ++ be2 to_ ++ data.drop 4) k (old ++ data.take 4) (new ++ (be2 from_ ++ be2 to_)) none) :=
    fun k hk none => F111_spec hk (by simp [be2_len]; omega) (by simp; omega) (by simp [be2_len]; omega)
  have h6 := hs 6 (by omega) true
  have h16 := hs 16 (by omega) false
  rw [show ((6 : Nat) : Int) = 6 from rfl] at h6
  rw [show ((16 : Nat) : Int) = 16 from rfl] at h16
  by_cases cp : proto = 17
  · rw [if_pos cp, show (proto == 17) = true by rw [cp]; rfl, cond_true, gd_cat (by simp; omega), gd_cat (by simp [be2_len]; omega), h6]; rfl
  · rw [if_neg cp, show (proto == 17) = false by rw [beq_eq_false_iff_ne]; exact cp, cond_false, gd_cat (by simp; omega), gd_cat (by simp [be2_len]; omega), h16]; rfl

theorem ported_len {proto from_ to_ : Int} {data old new : List UInt8} : (ported proto data old new from_ to_).length = data.length := by
  unfold ported
  split
  · rfl
  split <;> rw [update_len] <;> simp [be2_len] <;> omega

/-- An echo's data with another kind and identifier, and the sum that goes with them. -/
def echoed (data old new : List UInt8) (kind id : Int) : List UInt8 :=
  update (be1 kind ++ [0] ++ (data.drop 2).take 2 ++ be2 id ++ data.drop 6) 2 (old ++ (data.take 2 ++ (data.drop 4).take 2)) (new ++ (be1 kind ++ [0]) ++ be2 id) false

theorem F88_spec {kind id : Int} {data old new : List UInt8} (h8 : 8 ≤ data.length) (hd : data.length ≤ 90000) (ho : old.length ≤ 90000) (hn : new.length ≤ 90000) (hk : 0 ≤ kind ∧ kind ≤ 255) (hi : 0 ≤ id ∧ id ≤ 65535) :
    F88 data old new kind id = some (echoed data old new kind id) := by
  unfold F88 echoed
  rw [F48_1 (by omega), F48_2 (by omega)]
  simp only [Option.bind_some, sub_sn, Int.toNat_natCast]
  rw [sub_ns (show 2 ≤ data.length by omega), sub_ss (show 6 ≤ data.length by omega), sub_ss (show 4 ≤ data.length by omega)]
  simp only [Nat.reduceSub]
  rw [gd_ord (by omega), gd_ord (by omega), gd_cat (by simp; omega), gd_cat (by simp [be1_len]), gd_ord (by omega), gd_cat (by simp [be1_len]; omega), gd_cat (by simp [be1_len, be2_len]; omega), gd_ord (by omega),
    gd_cat (by simp [be1_len, be2_len]; omega), gd_cat (by simp; omega), gd_cat (by simp [be1_len]; omega), gd_cat (by simp [be1_len, be2_len]; omega)]
  have := F111_spec (data := be1 kind ++ [0] ++ (data.drop 2).take 2 ++ be2 id ++ data.drop 6) (k := 2) (old := old ++ (data.take 2 ++ (data.drop 4).take 2)) (new := new ++ (be1 kind ++ [0]) ++ be2 id) (none := false) (by omega)
    (by simp [be1_len, be2_len]; omega) (by simp; omega) (by simp [be1_len, be2_len]; omega)
  rw [show ((2 : Nat) : Int) = 2 from rfl] at this
  rw [this]; rfl

theorem echoed_len {kind id : Int} {data old new : List UInt8} (h8 : 8 ≤ data.length) : (echoed data old new kind id).length = data.length := by
  unfold echoed
  rw [update_len]
  simp [be1_len, be2_len]; omega

/-- An IPv4 packet's data over IPv6. -/
def turn6 (p : Ip4) (claim : Int) (from_ to_ : T6) : List UInt8 :=
  if 0 < p.At then p.Data
  else if p.Proto = 6 ∨ p.Proto = 17 then ported p.Proto p.Data (p.From.bytes ++ p.To.bytes) (from_.Addr.bytes ++ to_.Addr.bytes) from_.Port to_.Port
  else if p.Proto = 1 ∧ 8 ≤ p.Data.length ∧ (bt p.Data 0 = 8 ∨ bt p.Data 0 = 0) ∧ bt p.Data 1 = 0 then
    echoed p.Data [] (pseudo6 from_.Addr to_.Addr 58 claim) (if bt p.Data 0 = 8 then 128 else 129) from_.Port
  else p.Data

theorem F49_spec {p : Ip4} {claim : Int} {from_ to_ : T6} (hd : p.Data.length ≤ 90000) (hc : 0 ≤ claim ∧ claim ≤ 4294967295) (hf : 0 ≤ from_.Port ∧ from_.Port ≤ 65535) (ht : 0 ≤ to_.Port ∧ to_.Port ≤ 65535) :
    F49 p claim from_ to_ = some (turn6 p claim from_ to_) := by
  unfold F49 turn6
  simp only [V4.bytes_def, V6.bytes_def]
  by_cases c1 : 0 < p.At
  · rw [ltI_t c1, cond_true, if_pos c1]
  rw [ltI_f c1, cond_false, if_neg c1]
  have e2 : (bif p.Proto == 6 then some true else some (p.Proto == 17)) = some (decide (p.Proto = 6 ∨ p.Proto = 17)) := by
    by_cases k : p.Proto = 6
    · rw [k]; rfl
    · rw [show (p.Proto == 6) = false by rw [beq_eq_false_iff_ne]; exact k, cond_false]
      congr 1
      rw [Bool.eq_iff_iff, beq_iff_eq, decide_eq_true_eq]
      constructor
      · exact .inr
      · exact fun h => h.resolve_left k
  rw [e2, Option.bind_some]
  by_cases c2 : p.Proto = 6 ∨ p.Proto = 17
  · rw [decide_eq_true c2, cond_true, if_pos c2]
    rw [F87_spec hd (by simp [V4.len]) (by simp [V6.len]) hf ht]; rfl
  rw [decide_eq_false c2, cond_false, if_neg c2]
  have e3 : (bif p.Proto == 1 then some (leI 8 (p.Data.length : Int)) else some false) = some (decide (p.Proto = 1 ∧ 8 ≤ p.Data.length)) := by
    by_cases k : p.Proto = 1
    · rw [k, leI_eq]; simp; omega
    · rw [show (p.Proto == 1) = false by rw [beq_eq_false_iff_ne]; exact k, cond_false, decide_eq_false (fun h => k h.1)]
  rw [e3, Option.bind_some]
  by_cases c3 : p.Proto = 1 ∧ 8 ≤ p.Data.length
  · rw [decide_eq_true c3, cond_true, gd_in (by omega)]
    rw [F29_spec (by omega) hc]
    have hp := pseudo6_len from_.Addr to_.Addr 58 claim
    have g1 : ∀ {R : Type} (k : Option R), gd (inB 1 p.Data.length) k = k := fun k => gd_in (by omega) k
    by_cases k8 : bt p.Data 0 = 8
    · rw [decide_eq_true k8, cond_true, g1, Option.bind_some]
      by_cases k1 : bt p.Data 1 = 0
      · rw [show (bt p.Data 1 == 0) = true by rw [k1]; rfl, cond_true, Option.bind_some, F88_spec c3.2 hd (by simp) (by omega) (by omega) hf, if_pos ⟨c3.1, c3.2, .inl k8, k1⟩, if_pos k8]; rfl
      · rw [show (bt p.Data 1 == 0) = false by rw [beq_eq_false_iff_ne]; exact k1, cond_false, if_neg (fun h => k1 h.2.2.2)]
    · rw [decide_eq_false k8, cond_false]
      by_cases k0 : bt p.Data 0 = 0
      · rw [decide_eq_true k0, cond_true, g1, Option.bind_some]
        by_cases k1 : bt p.Data 1 = 0
        · rw [show (bt p.Data 1 == 0) = true by rw [k1]; rfl, cond_true, Option.bind_some, F88_spec c3.2 hd (by simp) (by omega) (by omega) hf, if_pos ⟨c3.1, c3.2, .inr k0, k1⟩, if_neg k8]; rfl
        · rw [show (bt p.Data 1 == 0) = false by rw [beq_eq_false_iff_ne]; exact k1, cond_false, if_neg (fun h => k1 h.2.2.2)]
      · rw [decide_eq_false k0, cond_false, if_neg (fun h => h.2.2.1.elim k8 k0)]
  · rw [decide_eq_false c3, cond_false, if_neg (fun h => c3 ⟨h.1, h.2.1⟩)]

theorem turn6_len {p : Ip4} {claim : Int} {from_ to_ : T6} : (turn6 p claim from_ to_).length = p.Data.length := by
  unfold turn6
  split
  · rfl
  split
  · exact ported_len
  split
  · rename_i h; exact echoed_len h.2.1
  · rfl
end Go.Rx.L15F
