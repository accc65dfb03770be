/- Plain laws of interpreterlaw15's functions: Quote6. -/
import Derived.Test.YteahnnchfegknaaP15c
set_option linter.unusedVariables false
set_option linter.unusedSimpArgs false
namespace Go.Rx.L15F
open Go.Rx

/-- A protocol over IPv6, and whether it has one. -/
def proto6 (x : Int) : Int × Bool :=
  if x = 1 then (58, true)
  else if x = 0 ∨ x = 2 ∨ x = 43 ∨ x = 44 ∨ x = 58 ∨ x = 60 ∨ x < 0 ∨ 255 < x then (0, false)
  else (x, true)

theorem proto6_range (x : Int) : 0 ≤ (proto6 x).1 ∧ (proto6 x).1 ≤ 255 := by
  unfold proto6; split
  · simp
  split
  · simp
  · simp only; omega

theorem bif_dec {α : Type} {p : Prop} [Decidable p] (x y : α) : (bif decide p then x else y) = if p then x else y := by
  by_cases h : p
  · rw [decide_eq_true h, if_pos h]; rfl
  · rw [decide_eq_false h, if_neg h]; rfl
theorem beq_dec (a b : Int) : (a == b) = decide (a = b) := by
  by_cases h : a = b
  · rw [decide_eq_true h, h]; exact beq_self_eq_true b
  · rw [decide_eq_false h]; exact beq_eq_false_iff_ne.2 h

theorem F46_spec (x : Int) : F46 x = some ((proto6 x).1, (proto6 x).2, ()) := by
  unfold F46 proto6
  simp only [beq_dec, bif_dec, ltI_eq]
  by_cases h1 : x = 1
  · rw [if_pos h1, if_pos h1]
  rw [if_neg h1, if_neg h1]
  by_cases h : x = 0 ∨ x = 2 ∨ x = 43 ∨ x = 44 ∨ x = 58 ∨ x = 60 ∨ x < 0 ∨ 255 < x
  · rw [if_pos h]
    by_cases h0 : x = 0
    · rw [if_pos h0]
    by_cases h2 : x = 2
    · rw [if_neg h0, if_pos h2]
    by_cases h3 : x = 43
    · rw [if_neg h0, if_neg h2, if_pos h3]
    by_cases h4 : x = 44
    · rw [if_neg h0, if_neg h2, if_neg h3, if_pos h4]
    by_cases h5 : x = 58
    · rw [if_neg h0, if_neg h2, if_neg h3, if_neg h4, if_pos h5]
    by_cases h6 : x = 60
    · rw [if_neg h0, if_neg h2, if_neg h3, if_neg h4, if_neg h5, if_pos h6]
    rw [if_neg h0, if_neg h2, if_neg h3, if_neg h4, if_neg h5, if_neg h6]
    by_cases h7 : x < 0
    · rw [if_pos h7, Option.bind_some, cond_true]
    · rw [if_neg h7, Option.bind_some, decide_eq_true (by omega), cond_true]
  · rw [if_neg h, if_neg (by omega), if_neg (by omega), if_neg (by omega), if_neg (by omega), if_neg (by omega), if_neg (by omega), if_neg (by omega), Option.bind_some, decide_eq_false (by omega), cond_false]

theorem within1 (a m : Int) : (bif ltI a 0 then some true else some (ltI m a)) = some (!decide (0 ≤ a ∧ a ≤ m)) := by
  rw [ltI_eq, ltI_eq]
  by_cases h : a < 0
  · rw [decide_eq_true h, cond_true, decide_eq_false (by omega)]; rfl
  · rw [decide_eq_false h, cond_false]
    congr 1
    by_cases h' : m < a
    · rw [decide_eq_true h', decide_eq_false (by omega)]; rfl
    · rw [decide_eq_false h', decide_eq_true (by omega)]; rfl
theorem wand (b c : Bool) : (bif !b then some false else some c) = some (b && c) := by cases b <;> rfl
theorem cc {α : Type} (a b : Bool) (x y : α) : (bif a then x else bif b then x else y) = bif (a || b) then x else y := by cases a <;> rfl

/-- Is what is handed in to Quote6 in its ranges? -/
def fit6 (p : Ip4) (claim : Int) (from_ to_ : T6) : Prop :=
  (0 ≤ p.Tos ∧ p.Tos ≤ 255) ∧ (0 ≤ p.Ttl ∧ p.Ttl ≤ 255) ∧ (0 ≤ p.Id ∧ p.Id ≤ 65535) ∧ (0 ≤ from_.Port ∧ from_.Port ≤ 65535) ∧ (0 ≤ to_.Port ∧ to_.Port ≤ 65535) ∧ (0 ≤ p.At ∧ p.At ≤ 65528) ∧ p.At.tmod 8 = 0 ∧ (p.Data.length : Int) ≤ claim
instance (p : Ip4) (claim : Int) (from_ to_ : T6) : Decidable (fit6 p claim from_ to_) := by unfold fit6; infer_instance

/-- The head that is quoted, and what is ahead of the data. -/
def head6 (p : Ip4) (claim : Int) (from_ to_ : T6) : List UInt8 :=
  if p.More = true ∨ p.At ≠ 0 then
    be4 (1610612736 + p.Tos * 1048576) ++ be2 (claim + 8) ++ be1 44 ++ be1 p.Ttl ++ from_.Addr.bytes ++ to_.Addr.bytes ++ (be1 (proto6 p.Proto).1 ++ [0] ++ be2 (if p.More = true then p.At + 1 else p.At) ++ be4 p.Id)
  else be4 (1610612736 + p.Tos * 1048576) ++ be2 claim ++ be1 (proto6 p.Proto).1 ++ be1 p.Ttl ++ from_.Addr.bytes ++ to_.Addr.bytes ++ []

def q6 (p : Ip4) (claim : Int) (from_ to_ : T6) : List UInt8 × Err × Unit :=
  if ¬ fit6 p claim from_ to_ then ([], some (13, 0), ())
  else if (proto6 p.Proto).2 = false then ([], some (10, 0), ())
  else if 65535 < claim ∨ (p.More = true ∨ p.At ≠ 0) ∧ 65535 < claim + 8 then ([], some (3, 0), ())
  else (head6 p claim from_ to_ ++ turn6 p claim from_ to_, none, ())

theorem ior_6 {x : Int} (h : 0 ≤ x ∧ x ≤ 255) : ior .i64 1610612736 (IntKind.i64.wrap (x * 1048576)) = 1610612736 + x * 1048576 := by
  rw [wrap_i64 (by omega) (by omega)]
  have := ior_high (a := 6) (b := x * 1048576) 28 (by omega) (by omega) (by omega) (by omega)
  rw [show ((6 : Int) * (((2 : Nat) ^ 28 : Nat) : Int)) = 1610612736 from rfl] at this
  exact this

theorem tailF {p : Ip4} {claim a n : Int} {from_ to_ : T6} (hd : p.Data.length ≤ 80000) (hc : 0 ≤ claim ∧ claim ≤ 4294967295) (ha : 0 ≤ a ∧ a < 65536) (hn : 0 ≤ n ∧ n < 65536) (hf : fit6 p claim from_ to_) :
    ((F48 (proto6 p.Proto).fst 1).bind fun q9 =>
      gd (catOk q9 [0])
        ((F48 a 2).bind fun q10 =>
          gd (catOk (q9 ++ [0]) q10)
            ((F48 p.Id 4).bind fun q11 =>
              gd (catOk (q9 ++ [0] ++ q10) q11)
                ((F48 (ior IntKind.i64 1610612736 (IntKind.i64.wrap (p.Tos * 1048576))) 4).bind fun q12 =>
                  (F48 n 2).bind fun q13 =>
                    gd (catOk q12 q13)
                      ((F48 44 1).bind fun q14 =>
                        gd (catOk (q12 ++ q13) q14)
                          ((F48 p.Ttl 1).bind fun q15 =>
                            gd (catOk (q12 ++ q13 ++ q14) q15)
                              (gd (catOk (q12 ++ q13 ++ q14 ++ q15) from_.Addr.bytes)
                                (gd (catOk (q12 ++ q13 ++ q14 ++ q15 ++ from_.Addr.bytes) to_.Addr.bytes)
                                  (gd
                                    (catOk (q12 ++ q13 ++ q14 ++ q15 ++ from_.Addr.bytes ++ to_.Addr.bytes)
                                      (q9 ++ [0] ++ q10 ++ q11))
                                    ((F49 p claim from_ to_).bind fun q16 =>
                                      gd
                                        (catOk
                                          (q12 ++ q13 ++ q14 ++ q15 ++ from_.Addr.bytes ++ to_.Addr.bytes ++
                                            (q9 ++ [0] ++ q10 ++ q11))
                                          q16)
                                        (some
                                          (q12 ++ q13 ++ q14 ++ q15 ++ from_.Addr.bytes ++ to_.Addr.bytes ++
                                                (q9 ++ [0] ++ q10 ++ q11) ++
                                              q16,
                                            (none : Err), ()))))))))))))  =
    some (be4 (1610612736 + p.Tos * 1048576) ++ be2 n ++ be1 44 ++ be1 p.Ttl ++ from_.Addr.bytes ++ to_.Addr.bytes ++ (be1 (proto6 p.Proto).1 ++ [0] ++ be2 a ++ be4 p.Id) ++ turn6 p claim from_ to_, none, ()) := by
  have hpr := proto6_range p.Proto
  obtain ⟨f1, f2, f3, f4, f5, f6, f7, f8⟩ := hf
  have ht := turn6_len (p := p) (claim := claim) (from_ := from_) (to_ := to_)
  rw [F48_1 (x := (proto6 p.Proto).1) (by omega), Option.bind_some, gd_cat (by simp [be1_len]), F48_2 ha, Option.bind_some, gd_cat (by simp [be1_len, be2_len]), F48_4 (by omega), Option.bind_some,
    gd_cat (by simp [be1_len, be2_len, be4_len]), ior_6 f1, F48_4 (by omega), Option.bind_some, F48_2 hn, Option.bind_some, gd_cat (by simp [be2_len, be4_len]), F48_1 (by omega), Option.bind_some, gd_cat (by simp [be1_len, be2_len, be4_len]),
    F48_1 (by omega), Option.bind_some, gd_cat (by simp [be1_len, be2_len, be4_len]), gd_cat (by simp [be1_len, be2_len, be4_len, V6.len]), gd_cat (by simp [be1_len, be2_len, be4_len, V6.len]), gd_cat (by simp [be1_len, be2_len, be4_len, V6.len]),
    F49_spec (by omega) hc f4 f5, Option.bind_some, gd_cat (by simp [be1_len, be2_len, be4_len, V6.len, ht]; omega)]

theorem tailW {p : Ip4} {claim n : Int} {from_ to_ : T6} (hd : p.Data.length ≤ 80000) (hc : 0 ≤ claim ∧ claim ≤ 4294967295) (hn : 0 ≤ n ∧ n < 65536) (hf : fit6 p claim from_ to_) :
    ((F48 (ior IntKind.i64 1610612736 (IntKind.i64.wrap (p.Tos * 1048576))) 4).bind fun q9 =>
      (F48 n 2).bind fun q10 =>
        gd (catOk q9 q10)
          ((F48 (proto6 p.Proto).fst 1).bind fun q11 =>
            gd (catOk (q9 ++ q10) q11)
              ((F48 p.Ttl 1).bind fun q12 =>
                gd (catOk (q9 ++ q10 ++ q11) q12)
                  (gd (catOk (q9 ++ q10 ++ q11 ++ q12) from_.Addr.bytes)
                    (gd (catOk (q9 ++ q10 ++ q11 ++ q12 ++ from_.Addr.bytes) to_.Addr.bytes)
                      (gd (catOk (q9 ++ q10 ++ q11 ++ q12 ++ from_.Addr.bytes ++ to_.Addr.bytes) [])
                        ((F49 p claim from_ to_).bind fun q13 =>
                          gd (catOk (q9 ++ q10 ++ q11 ++ q12 ++ from_.Addr.bytes ++ to_.Addr.bytes ++ []) q13)
                            (some (q9 ++ q10 ++ q11 ++ q12 ++ from_.Addr.bytes ++ to_.Addr.bytes ++ [] ++ q13, (none : Err), ()))))))))) =
    some (be4 (1610612736 + p.Tos * 1048576) ++ be2 n ++ be1 (proto6 p.Proto).1 ++ be1 p.Ttl ++ from_.Addr.bytes ++ to_.Addr.bytes ++ [] ++ turn6 p claim from_ to_, none, ()) := by
  have hpr := proto6_range p.Proto
  obtain ⟨f1, f2, f3, f4, f5, f6, f7, f8⟩ := hf
  have ht := turn6_len (p := p) (claim := claim) (from_ := from_) (to_ := to_)
  rw [ior_6 f1, F48_4 (by omega), Option.bind_some, F48_2 hn, Option.bind_some, gd_cat (by simp [be2_len, be4_len]), F48_1 (x := (proto6 p.Proto).1) (by omega), Option.bind_some, gd_cat (by simp [be1_len, be2_len, be4_len]),
    F48_1 (by omega), Option.bind_some, gd_cat (by simp [be1_len, be2_len, be4_len]), gd_cat (by simp [be1_len, be2_len, be4_len, V6.len]), gd_cat (by simp [be1_len, be2_len, be4_len, V6.len]), gd_cat (by simp [be1_len, be2_len, be4_len, V6.len]),
    F49_spec (by omega) hc f4 f5, Option.bind_some, gd_cat (by simp [be1_len, be2_len, be4_len, V6.len, ht]; omega)]

theorem two_lt {m a b : Int} : (bif ltI m a then some true else some (ltI m b)) = some (decide (m < a ∨ m < b)) := by
  rw [ltI_eq, ltI_eq]
  by_cases h : m < a
  · rw [decide_eq_true h, decide_eq_true (p := m < a ∨ m < b) (Or.inl h)]; rfl
  · rw [decide_eq_false h, cond_false]; congr 1; rw [Bool.eq_iff_iff]; simp [h]

theorem F16_spec {p : Ip4} {claim : Int} {from_ to_ : T6} (hd : p.Data.length ≤ 80000) (hc : -1000000000 ≤ claim ∧ claim ≤ 1000000000) : F16 p claim from_ to_ = some (q6 p claim from_ to_) := by
  have hpr := proto6_range p.Proto
  unfold F16
  rw [F46_spec]
  simp only [within1, Option.bind_some, wand, F41, errK, cc, Bool.and_true, V4.bytes_def, V6.bytes_def]
  have hfit : (((!(decide (0 ≤ p.Tos ∧ p.Tos ≤ 255) && decide (0 ≤ p.Ttl ∧ p.Ttl ≤ 255)) || (!(decide (0 ≤ p.Id ∧ p.Id ≤ 65535) && (decide (0 ≤ from_.Port ∧ from_.Port ≤ 65535) && decide (0 ≤ to_.Port ∧ to_.Port ≤ 65535))) ||
      (!decide (0 ≤ p.At ∧ p.At ≤ 65528) || (!p.At.tmod 8 == 0 || ltI claim (p.Data.length : Int))))))) = decide (¬ fit6 p claim from_ to_) := by
    rw [Bool.eq_iff_iff, ltI_eq, beq_dec]
    unfold fit6
    simp only [Bool.or_eq_true, Bool.not_eq_true', Bool.and_eq_false_iff, decide_eq_true_eq, decide_eq_false_iff_not]
    omega
  rw [hfit, wrap_i64 (n := claim + 8) (by omega) (by omega)]
  simp only [two_lt, Option.bind_some]
  unfold q6
  by_cases hf : fit6 p claim from_ to_
  case neg =>
    rw [if_pos hf, decide_eq_true hf]
    cases p.More <;> cases !p.At == 0 <;> rfl
  rw [decide_eq_false (fun h => h hf), if_neg (fun h => h hf)]
  have hf' := hf
  obtain ⟨f1, f2, f3, f4, f5, f6, f7, f8⟩ := hf'
  simp only [cond_false]
  cases hp : (proto6 p.Proto).2 with
  | false =>
    rw [if_pos rfl]
    cases p.More <;> cases !p.At == 0 <;> rfl
  | true =>
    rw [if_neg (by decide), Bool.not_true]
    simp only [cond_false]
    have hAt : (!p.At == 0) = decide (p.At ≠ 0) := by rw [beq_dec]; by_cases h : p.At = 0 <;> simp [h]
    rw [hAt]
    unfold head6
    cases hM : p.More with
    | true =>
      simp only [cond_true]
      by_cases hl : 65535 < claim ∨ 65535 < claim + 8
      · rw [decide_eq_true hl, cond_true, if_pos (by rcases hl with h | h <;> first | exact .inl h | exact .inr ⟨Or.inl (by simp), h⟩)]
      · rw [decide_eq_false hl, cond_false, wrap_i64 (n := p.At + 1) (by omega) (by omega), tailF hd (by omega) (by omega) (by omega) hf, if_neg (by omega), if_pos (Or.inl (by simp)), if_pos (by simp)]
    | false =>
      simp only [cond_false]
      by_cases hA : p.At ≠ 0
      · rw [decide_eq_true hA]
        simp only [cond_true]
        by_cases hl : 65535 < claim ∨ 65535 < claim + 8
        · rw [decide_eq_true hl, cond_true, if_pos (by rcases hl with h | h <;> first | exact .inl h | exact .inr ⟨.inr hA, h⟩)]
        · rw [decide_eq_false hl, cond_false, tailF hd (by omega) (by omega) (by omega) hf, if_neg (by omega), if_pos (.inr hA), if_neg (by decide)]
      · rw [decide_eq_false hA]
        simp only [cond_false]
        by_cases hl : 65535 < claim ∨ 65535 < claim
        · rw [decide_eq_true hl, cond_true, if_pos (by rcases hl with h | h <;> exact .inl h)]
        · rw [decide_eq_false hl, cond_false, tailW hd (by omega) (by omega) hf, if_neg (by rintro (h | ⟨h, _⟩); exact hl (.inl h); exact h.elim (by decide) hA), if_neg (by rintro (h | h); exact absurd h (by decide); exact hA h)]
end Go.Rx.L15F
