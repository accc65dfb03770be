/- Plain laws of interpreterlaw15's functions: Quote4. -/
import Derived.Test.YteahnnchfegknaaP15f
set_option linter.unusedVariables false
set_option linter.unusedSimpArgs false
namespace Go.Rx.L15F
open Go.Rx

/-- A protocol over IPv4, and whether it has one. -/
def proto4 (x : Int) : Int × Bool :=
  if x = 58 then (1, true)
  else if x = 0 ∨ x = 1 ∨ x = 2 ∨ x = 43 ∨ x = 44 ∨ x = 60 ∨ x < 0 ∨ 255 < x then (0, false)
  else (x, true)

theorem proto4_range (x : Int) : 0 ≤ (proto4 x).1 ∧ (proto4 x).1 ≤ 255 := by
  unfold proto4; split
  · simp
  split
  · simp
  · simp only; omega

theorem F56_spec (x : Int) : F56 x = some ((proto4 x).1, (proto4 x).2, ()) := by
  unfold F56 proto4
  simp only [beq_dec, bif_dec, ltI_eq]
  by_cases h1 : x = 58
  · rw [if_pos h1, if_pos h1]
  rw [if_neg h1, if_neg h1]
  by_cases h : x = 0 ∨ x = 1 ∨ x = 2 ∨ x = 43 ∨ x = 44 ∨ x = 60 ∨ x < 0 ∨ 255 < x
  · rw [if_pos h]
    by_cases h0 : x = 0
    · rw [if_pos h0]
    by_cases h2 : x = 1
    · rw [if_neg h0, if_pos h2]
    by_cases h3 : x = 2
    · rw [if_neg h0, if_neg h2, if_pos h3]
    by_cases h4 : x = 43
    · rw [if_neg h0, if_neg h2, if_neg h3, if_pos h4]
    by_cases h5 : x = 44
    · rw [if_neg h0, if_neg h2, if_neg h3, if_neg h4, if_pos h5]
    by_cases h6 : x = 60
    · rw [if_neg h0, if_neg h2, if_neg h3, if_neg h4, if_neg h5, if_pos h6]
    rw [if_neg h0, if_neg h2, if_neg h3, if_neg h4, if_neg h5, if_neg h6]
    by_cases h7 : x < 0
    · rw [if_pos h7, Option.bind_some, cond_true]
    · rw [if_neg h7, Option.bind_some, decide_eq_true (by omega), cond_true]
  · rw [if_neg h, if_neg (by omega), if_neg (by omega), if_neg (by omega), if_neg (by omega), if_neg (by omega), if_neg (by omega), if_neg (by omega), Option.bind_some, decide_eq_false (by omega), cond_false]

/-- An IPv6 packet's data over IPv4. -/
def turn4 (p : Ip6) (claim : Int) (from_ to_ : T4) : List UInt8 :=
  if 0 < p.At then p.Data
  else if p.Proto = 6 ∨ p.Proto = 17 then ported p.Proto p.Data (p.From.bytes ++ p.To.bytes) (from_.Addr.bytes ++ to_.Addr.bytes) from_.Port to_.Port
  else if p.Proto = 58 ∧ 8 ≤ p.Data.length ∧ (bt p.Data 0 = 128 ∨ bt p.Data 0 = 129) ∧ bt p.Data 1 = 0 then
    echoed p.Data (pseudo6 p.From p.To 58 claim) [] (if bt p.Data 0 = 128 then 8 else 0) from_.Port
  else p.Data

theorem F58_spec {p : Ip6} {claim : Int} {from_ to_ : T4} (hd : p.Data.length ≤ 90000) (hc : 0 ≤ claim ∧ claim ≤ 4294967295) (hf : 0 ≤ from_.Port ∧ from_.Port ≤ 65535) (ht : 0 ≤ to_.Port ∧ to_.Port ≤ 65535) :
    F58 p claim from_ to_ = some (turn4 p claim from_ to_) := by
  unfold F58 turn4
  simp only [V4.bytes_def, V6.bytes_def]
  by_cases c1 : 0 < p.At
  · rw [ltI_t c1, cond_true, if_pos c1]
  rw [ltI_f c1, cond_false, if_neg c1]
  have e2 : (bif p.Proto == 6 then some true else some (p.Proto == 17)) = some (decide (p.Proto = 6 ∨ p.Proto = 17)) := by
    by_cases k : p.Proto = 6
    · rw [k]; rfl
    · rw [show (p.Proto == 6) = false by rw [beq_eq_false_iff_ne]; exact k, cond_false]
      congr 1
      rw [Bool.eq_iff_iff, beq_iff_eq, decide_eq_true_eq]
      constructor
      · exact .inr
      · exact fun h => h.resolve_left k
  rw [e2, Option.bind_some]
  by_cases c2 : p.Proto = 6 ∨ p.Proto = 17
  · rw [decide_eq_true c2, cond_true, if_pos c2]
    rw [F87_spec hd (by simp [V6.len]) (by simp [V4.len]) hf ht]; rfl
  rw [decide_eq_false c2, cond_false, if_neg c2]
  have e3 : (bif p.Proto == 58 then some (leI 8 (p.Data.length : Int)) else some false) = some (decide (p.Proto = 58 ∧ 8 ≤ p.Data.length)) := by
    by_cases k : p.Proto = 58
    · rw [k, leI_eq]; simp; omega
    · rw [show (p.Proto == 58) = false by rw [beq_eq_false_iff_ne]; exact k, cond_false, decide_eq_false (fun h => k h.1)]
  rw [e3, Option.bind_some]
  by_cases c3 : p.Proto = 58 ∧ 8 ≤ p.Data.length
  · rw [decide_eq_true c3, cond_true, gd_in (by omega)]
    rw [F29_spec (by omega) hc]
    have hp := pseudo6_len p.From p.To 58 claim
    have g1 : ∀ {R : Type} (k : Option R), gd (inB 1 p.Data.length) k = k := fun k => gd_in (by omega) k
    by_cases k8 : bt p.Data 0 = 128
    · rw [decide_eq_true k8, cond_true, g1, Option.bind_some]
      by_cases k1 : bt p.Data 1 = 0
      · rw [show (bt p.Data 1 == 0) = true by rw [k1]; rfl, cond_true, Option.bind_some, F88_spec c3.2 hd (by omega) (by simp) (by omega) hf, if_pos ⟨c3.1, c3.2, .inl k8, k1⟩, if_pos k8]; rfl
      · rw [show (bt p.Data 1 == 0) = false by rw [beq_eq_false_iff_ne]; exact k1, cond_false, if_neg (fun h => k1 h.2.2.2)]
    · rw [decide_eq_false k8, cond_false]
      by_cases k0 : bt p.Data 0 = 129
      · rw [decide_eq_true k0, cond_true, g1, Option.bind_some]
        by_cases k1 : bt p.Data 1 = 0
        · rw [show (bt p.Data 1 == 0) = true by rw [k1]; rfl, cond_true, Option.bind_some, F88_spec c3.2 hd (by omega) (by simp) (by omega) hf, if_pos ⟨c3.1, c3.2, .inr k0, k1⟩, if_neg k8]; rfl
        · rw [show (bt p.Data 1 == 0) = false by rw [beq_eq_false_iff_ne]; exact k1, cond_false, if_neg (fun h => k1 h.2.2.2)]
      · rw [decide_eq_false k0, cond_false, if_neg (fun h => h.2.2.1.elim k8 k0)]
  · rw [decide_eq_false c3, cond_false, if_neg (fun h => c3 ⟨h.1, h.2.1⟩)]

theorem turn4_len {p : Ip6} {claim : Int} {from_ to_ : T4} : (turn4 p claim from_ to_).length = p.Data.length := by
  unfold turn4
  split
  · rfl
  split
  · exact ported_len
  split
  · rename_i h; exact echoed_len h.2.1
  · rfl

/-- Is what is handed in to Quote4 in its ranges? -/
def fit4 (p : Ip6) (claim : Int) (from_ to_ : T4) : Prop :=
  (0 ≤ p.Class ∧ p.Class ≤ 255) ∧ (0 ≤ p.Hop ∧ p.Hop ≤ 255) ∧ (0 ≤ from_.Port ∧ from_.Port ≤ 65535) ∧ (0 ≤ to_.Port ∧ to_.Port ≤ 65535) ∧ (0 ≤ p.At ∧ p.At ≤ 65528) ∧ p.At.tmod 8 = 0 ∧ (p.Data.length : Int) ≤ claim
instance (p : Ip6) (claim : Int) (from_ to_ : T4) : Decidable (fit4 p claim from_ to_) := by unfold fit4; infer_instance


theorem iand_u32 (n : Int) : iand .u32 n 65535 = n % 65536 := by
  unfold iand
  rw [BitVec.toNat_and, show (BitVec.ofInt IntKind.u32.bits 65535).toNat = 65535 from rfl]
  have e : (BitVec.ofInt IntKind.u32.bits n).toNat = (n % 4294967296).toNat := by
    show (BitVec.ofInt 32 n).toNat = _
    rw [BitVec.toNat_ofInt]
    rfl
  rw [e, show (n % 4294967296).toNat &&& 65535 = (n % 4294967296).toNat % 65536 from Nat.and_two_pow_sub_one_eq_mod _ 16, wrap_u32]
  omega

/-- The bits ahead of a place. -/
def flags4 (p : Ip6) (claim : Int) : Int := p.At / 8 + (if p.Frag = false ∧ 1240 < claim then 16384 else 0) + (if p.More = true then 8192 else 0)

theorem ior_14 {x : Int} (h : 0 ≤ x ∧ x ≤ 8191) : ior .i64 x 16384 = x + 16384 := by
  obtain ⟨k, rfl⟩ := Int.eq_ofNat_of_zero_le h.1
  have := ior_i64_nat k 16384 (by omega) (by omega)
  rw [show ((16384 : Nat) : Int) = 16384 from rfl] at this
  rw [this, Nat.or_comm]
  have := Nat.shiftLeft_add_eq_or_of_lt (b := k) (i := 14) (by omega) 1
  rw [show (1 <<< 14 : Nat) = 16384 from rfl] at this
  omega
theorem ior_13 {x : Int} (h : 0 ≤ x ∧ x ≤ 8191) : ior .i64 x 8192 = x + 8192 := by
  obtain ⟨k, rfl⟩ := Int.eq_ofNat_of_zero_le h.1
  have := ior_i64_nat k 8192 (by omega) (by omega)
  rw [show ((8192 : Nat) : Int) = 8192 from rfl] at this
  rw [this, Nat.or_comm]
  have := Nat.shiftLeft_add_eq_or_of_lt (b := k) (i := 13) (by omega) 1
  rw [show (1 <<< 13 : Nat) = 8192 from rfl] at this
  omega
theorem ior_1413 {x : Int} (h : 0 ≤ x ∧ x ≤ 8191) : ior .i64 (ior .i64 x 16384) 8192 = x + 16384 + 8192 := by
  rw [ior_14 h]
  obtain ⟨k, rfl⟩ := Int.eq_ofNat_of_zero_le h.1
  have := ior_i64_nat (k + 16384) 8192 (by omega) (by omega)
  rw [show ((8192 : Nat) : Int) = 8192 from rfl, show ((k + 16384 : Nat) : Int) = (k : Int) + 16384 by omega] at this
  rw [this]
  have e1 : k + 16384 = 16384 ||| k := by
    have := Nat.shiftLeft_add_eq_or_of_lt (b := k) (i := 14) (by omega) 1
    rw [show (1 <<< 14 : Nat) = 16384 from rfl] at this
    omega
  have e2 : (16384 ||| k) ||| 8192 = 24576 ||| k := by
    rw [Nat.or_assoc, Nat.or_comm k 8192, ← Nat.or_assoc, show (16384 ||| 8192 : Nat) = 24576 from rfl]
  have e3 : 24576 + k = 24576 ||| k := by
    have := Nat.shiftLeft_add_eq_or_of_lt (b := k) (i := 13) (by omega) 3
    rw [show (3 <<< 13 : Nat) = 24576 from rfl] at this
    exact this
  rw [e1, e2, ← e3]
  omega

def ahead4 (p : Ip6) (claim id at_ : Int) : List UInt8 := [69] ++ be1 p.Class ++ be2 (20 + claim) ++ be2 id ++ be2 at_ ++ be1 p.Hop ++ be1 (proto4 p.Proto).1
def sum4 (a b : List UInt8) : Int := 65535 - fold1 (fold1 (ws false false a) + ws false false b)
def head4 (p : Ip6) (claim id at_ : Int) (from_ to_ : T4) : List UInt8 :=
  ahead4 p claim id at_ ++ be2 (sum4 (ahead4 p claim id at_) (from_.Addr.bytes ++ to_.Addr.bytes)) ++ (from_.Addr.bytes ++ to_.Addr.bytes)

theorem ahead4_len (p : Ip6) (claim id at_ : Int) : (ahead4 p claim id at_).length = 10 := by simp [ahead4, be1_len, be2_len]
theorem head4_len (p : Ip6) (claim id at_ : Int) (from_ to_ : T4) : (head4 p claim id at_ from_ to_).length = 20 := by simp [head4, ahead4_len, be2_len, V4.len]
theorem sum4_range (a b : List UInt8) : 0 ≤ sum4 a b ∧ sum4 a b ≤ 65535 := by
  unfold sum4
  have h1 := ws_range false a false
  have h2 := fold1_range (n := ws false false a) (by omega)
  have h3 := ws_range false b false
  have h4 := fold1_range (n := fold1 (ws false false a) + ws false false b) (by omega)
  omega

theorem tail4 {p : Ip6} {fr mo : Bool} {claim id a : Int} {from_ to_ : T4} (hd : p.Data.length ≤ 80000) (hc : 0 ≤ claim ∧ claim ≤ 65515) (hid : 0 ≤ id ∧ id < 65536) (ha : 0 ≤ a ∧ a < 65536) (hf : fit4 p claim from_ to_) (he : p.Exts.2.1 = 2) :
    ((F48 p.Class 1).bind fun q8 =>
      gd (catOk [69] q8)
        ((F48 (IntKind.i64.wrap (20 + claim)) 2).bind fun q9 =>
          gd (catOk ([69] ++ q8) q9)
            ((F48 id 2).bind fun q10 =>
              gd (catOk ([69] ++ q8 ++ q9) q10)
                ((F48 a 2).bind fun q11 =>
                  gd (catOk ([69] ++ q8 ++ q9 ++ q10) q11)
                    ((F48 p.Hop 1).bind fun q12 =>
                      gd (catOk ([69] ++ q8 ++ q9 ++ q10 ++ q11) q12)
                        ((F48 (proto4 p.Proto).fst 1).bind fun q13 =>
                          gd (catOk ([69] ++ q8 ++ q9 ++ q10 ++ q11 ++ q12) q13)
                            (((F93 0 0 ([69] ++ q8 ++ q9 ++ q10 ++ q11 ++ q12 ++ q13) 0).bind fun q14 =>
                                  (F92 q14).bind fun q15 =>
                                    (F93 q15
                                          (IntKind.i64.wrap
                                            (0 + (([69] ++ q8 ++ q9 ++ q10 ++ q11 ++ q12 ++ q13).length : Int)))
                                          (from_.Addr.bytes ++ to_.Addr.bytes) 0).bind
                                      fun q16 =>
                                      (F92 q16).bind fun q17 => some (IntKind.i64.wrap (65535 - q17))).bind
                              fun q14 =>
                              (F48 q14 2).bind fun q15 =>
                                gd (catOk ([69] ++ q8 ++ q9 ++ q10 ++ q11 ++ q12 ++ q13) q15)
                                  (gd
                                    (catOk ([69] ++ q8 ++ q9 ++ q10 ++ q11 ++ q12 ++ q13 ++ q15)
                                      (from_.Addr.bytes ++ to_.Addr.bytes))
                                    (gd (p.Exts.snd.fst.beq 2 || p.Exts.fst)
                                      ((F58
                                            { Class := p.Class, Flow := p.Flow, Hop := p.Hop, From := p.From,
                                              To := p.To, Exts := (p.Exts.fst, 2, p.Exts.snd.snd),
                                              Frag := fr, Id := p.Id, At := p.At, More := mo,
                                              Proto := p.Proto, Data := p.Data }
                                            claim from_ to_).bind
                                        fun q16 =>
                                        gd
                                          (catOk
                                            ([69] ++ q8 ++ q9 ++ q10 ++ q11 ++ q12 ++ q13 ++ q15 ++
                                              (from_.Addr.bytes ++ to_.Addr.bytes))
                                            q16)
                                          (some
                                            ([69] ++ q8 ++ q9 ++ q10 ++ q11 ++ q12 ++ q13 ++ q15 ++
                                                  (from_.Addr.bytes ++ to_.Addr.bytes) ++
                                                q16,
                                              (none : Err), ()))))))))))))  =
    some (head4 p claim id a from_ to_ ++ turn4 p claim from_ to_, none, ()) := by
  have hpr := proto4_range p.Proto
  obtain ⟨f1, f2, f4, f5, f6, f7, f8⟩ := hf
  have ht := turn4_len (p := p) (claim := claim) (from_ := from_) (to_ := to_)
  have hl := ahead4_len p claim id a
  rw [F48_1 (x := p.Class) (by omega), Option.bind_some, gd_cat (by simp [be1_len]), wrap_i64 (n := 20 + claim) (by omega) (by omega), F48_2 (x := 20 + claim) (by omega), Option.bind_some, gd_cat (by simp [be1_len, be2_len]),
    F48_2 hid, Option.bind_some, gd_cat (by simp [be1_len, be2_len]), F48_2 ha, Option.bind_some, gd_cat (by simp [be1_len, be2_len]), F48_1 (x := p.Hop) (by omega), Option.bind_some, gd_cat (by simp [be1_len, be2_len]),
    F48_1 (x := (proto4 p.Proto).1) (by omega), Option.bind_some, gd_cat (by simp [be1_len, be2_len])]
  rw [show [69] ++ be1 p.Class ++ be2 (20 + claim) ++ be2 id ++ be2 a ++ be1 p.Hop ++ be1 (proto4 p.Proto).1 = ahead4 p claim id a from rfl]
  have h1 := ws_range false (ahead4 p claim id a) false
  have h2 := fold1_range (n := ws false false (ahead4 p claim id a)) (by omega)
  have hb : (from_.Addr.bytes ++ to_.Addr.bytes).length = 8 := rfl
  have h3 := ws_range false (from_.Addr.bytes ++ to_.Addr.bytes) false
  have h4 := fold1_range (n := fold1 (ws false false (ahead4 p claim id a)) + ws false false (from_.Addr.bytes ++ to_.Addr.bytes)) (by omega)
  have f2' := F93_spec false (n := fold1 (ws false false (ahead4 p claim id a))) (at_ := 10) (s := from_.Addr.bytes ++ to_.Addr.bytes) (by omega) (by omega) (by omega) (by omega) (by omega)
  rw [show turnOf false = 0 from rfl, show odd 10 = false from rfl] at f2'
  have hs := sum4_range (ahead4 p claim id a) (from_.Addr.bytes ++ to_.Addr.bytes)
  rw [F93_0 (by omega), Option.bind_some, F92_spec (by omega) (by omega), Option.bind_some, hl, wrap_i64 (n := 0 + ((10 : Nat) : Int)) (by omega) (by omega), show (0 + ((10 : Nat) : Int)) = 10 from rfl, f2', Option.bind_some,
    F92_spec (by omega) (by omega), Option.bind_some, Option.bind_some, wrap_i64 (n := 65535 - _) (by omega) (by omega)]
  rw [show 65535 - fold1 (fold1 (ws false false (ahead4 p claim id a)) + ws false false (from_.Addr.bytes ++ to_.Addr.bytes)) = sum4 (ahead4 p claim id a) (from_.Addr.bytes ++ to_.Addr.bytes) from rfl]
  rw [F48_2 (by omega), Option.bind_some, gd_cat (by rw [hl, be2_len]; omega), gd_cat (by rw [List.length_append, hl, be2_len, hb]; omega), gd_true (by rw [he]; rfl)]
  rw [F58_spec (p := { Class := p.Class, Flow := p.Flow, Hop := p.Hop, From := p.From, To := p.To, Exts := (p.Exts.fst, 2, p.Exts.snd.snd), Frag := fr, Id := p.Id, At := p.At, More := mo, Proto := p.Proto, Data := p.Data })
    (by show p.Data.length ≤ _; omega) (by omega) f4 f5, Option.bind_some]
  rw [show turn4 { Class := p.Class, Flow := p.Flow, Hop := p.Hop, From := p.From, To := p.To, Exts := (p.Exts.fst, 2, p.Exts.snd.snd), Frag := fr, Id := p.Id, At := p.At, More := mo, Proto := p.Proto, Data := p.Data } claim from_ to_ = turn4 p claim from_ to_ from rfl]
  rw [gd_cat (by rw [List.length_append, List.length_append, hl, be2_len, hb, ht]; omega)]
  rfl

def q4 (p : Ip6) (claim : Int) (from_ to_ : T4) : List UInt8 × Err × Unit :=
  if ¬ fit4 p claim from_ to_ then ([], some (13, 0), ())
  else if (proto4 p.Proto).2 = false then ([], some (10, 0), ())
  else if 65515 - p.At < claim then ([], some (3, 0), ())
  else (head4 p claim (if p.Frag = true then p.Id % 65536 else 0) (flags4 p claim) from_ to_ ++ turn4 p claim from_ to_, none, ())

theorem F21_spec {p : Ip6} {claim : Int} {from_ to_ : T4} (hd : p.Data.length ≤ 80000) (hc : -1000000000 ≤ claim ∧ claim ≤ 1000000000) (he : p.Exts.2.1 = 2) : F21 p claim from_ to_ = some (q4 p claim from_ to_) := by
  have hpr := proto4_range p.Proto
  unfold F21
  rw [F56_spec]
  simp only [within1, Option.bind_some, wand, F41, errK, cc, Bool.and_true, V4.bytes_def, V6.bytes_def]
  have hfit : ((!(decide (0 ≤ p.Class ∧ p.Class ≤ 255) && decide (0 ≤ p.Hop ∧ p.Hop ≤ 255)) ||
          (!(decide (0 ≤ from_.Port ∧ from_.Port ≤ 65535) && decide (0 ≤ to_.Port ∧ to_.Port ≤ 65535)) ||
            (!decide (0 ≤ p.At ∧ p.At ≤ 65528) || (!p.At.tmod 8 == 0 || ltI claim (p.Data.length : Int)))))) = decide (¬ fit4 p claim from_ to_) := by
    rw [Bool.eq_iff_iff, ltI_eq, beq_dec]
    unfold fit4
    simp only [Bool.or_eq_true, Bool.not_eq_true', Bool.and_eq_false_iff, decide_eq_true_eq, decide_eq_false_iff_not]
    omega
  rw [hfit]
  unfold q4
  by_cases hf : fit4 p claim from_ to_
  case neg => rw [if_pos hf, decide_eq_true hf]; rfl
  rw [decide_eq_false (not_not_intro hf), if_neg (not_not_intro hf), cond_false]
  have hf' := hf
  obtain ⟨f1, f2, f4, f5, f6, f7, f8⟩ := hf'
  cases hp : (proto4 p.Proto).2 with
  | false => rw [if_pos rfl]; rfl
  | true =>
    rw [if_neg (by decide), Bool.not_true, cond_false, wrap_i64 (n := 65515 - p.At) (by omega) (by omega), ltI_eq]
    by_cases hl : 65515 - p.At < claim
    · rw [decide_eq_true hl, cond_true, if_pos hl]
    rw [decide_eq_false hl, cond_false, if_neg hl, iand_u32, wrap_i64 (n := p.Id % 65536) (by omega) (by omega), Int.tdiv_eq_ediv_of_nonneg (by omega), wrap_i64 (n := p.At / 8) (by omega) (by omega),
      ior_1413 (by omega), ior_14 (by omega), ior_13 (by omega), ltI_eq]
    unfold flags4
    cases hF : p.Frag with
    | true =>
      rw [cond_true, if_pos rfl, if_neg (show ¬ (true = false ∧ 1240 < claim) by simp)]
      cases hM : p.More with
      | true => rw [cond_true, if_pos rfl, tail4 hd (by omega) (by omega) (by omega) hf he, Int.add_zero]
      | false => rw [cond_false, if_neg (by decide), tail4 hd (by omega) (by omega) (by omega) hf he, Int.add_zero, Int.add_zero]
    | false =>
      rw [cond_false, if_neg (by decide)]
      by_cases hk : 1240 < claim
      · rw [decide_eq_true hk, cond_true, if_pos ⟨rfl, hk⟩]
        cases hM : p.More with
        | true => rw [cond_true, if_pos rfl, tail4 hd (by omega) (by omega) (by omega) hf he]
        | false => rw [cond_false, if_neg (by decide), tail4 hd (by omega) (by omega) (by omega) hf he, Int.add_zero]
      · rw [decide_eq_false hk, cond_false, if_neg (fun h => hk h.2)]
        cases hM : p.More with
        | true => rw [cond_true, if_pos rfl, tail4 hd (by omega) (by omega) (by omega) hf he, Int.add_zero]
        | false => rw [cond_false, if_neg (by decide), tail4 hd (by omega) (by omega) (by omega) hf he, Int.add_zero, Int.add_zero]
end Go.Rx.L15F
