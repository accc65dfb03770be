/- Plain laws of interpreterlaw15's functions: errors carried over (FaultCut). -/
import Derived.Test.YteahnnchfegknaaP15e
import Derived.Test.YteahnnchfegknaaP15g
set_option linter.unusedVariables false
set_option linter.unusedSimpArgs false
namespace Go.Rx.L15F
open Go.Rx

/-- It comes to a value of which something holds. -/
def Post {A : Type} (r : Option A) (Q : A → Prop) : Prop := ∃ a, r = some a ∧ Q a
theorem post_some {A : Type} {a : A} {Q : A → Prop} (h : Q a) : Post (some a) Q := ⟨a, rfl, h⟩
theorem post_bif {A : Type} {b : Bool} {x y : Option A} {Q : A → Prop} (h1 : b = true → Post x Q) (h2 : b = false → Post y Q) : Post (bif b then x else y) Q := by
  cases b
  · exact h2 rfl
  · exact h1 rfl
theorem post_bind {A B : Type} {r : Option A} {f : A → Option B} (R : A → Prop) {Q : B → Prop} (h : Post r R) (h2 : ∀ a, R a → Post (f a) Q) : Post (r.bind f) Q := by
  obtain ⟨a, rfl, ha⟩ := h
  exact h2 a ha
theorem post_gd {A : Type} {b : Bool} {k : Option A} {Q : A → Prop} (h : b = true) (h2 : Post k Q) : Post (gd b k) Q := by
  rw [gd_true h]; exact h2

/-- Is it an error's kind over IPv4? -/
abbrev isErr4 (k : Int) : Prop := k = 3 ∨ k = 4 ∨ k = 5 ∨ k = 11 ∨ k = 12
abbrev isErr6 (k : Int) : Prop := 1 ≤ k ∧ k ≤ 127

theorem F32_spec (m : Msg) : F32 m = some (decide (isErr4 m.Kind)) := by
  unfold F32 isErr4
  simp only [beq_dec, bif_dec]
  by_cases h1 : m.Kind = 3
  · rw [if_pos h1, decide_eq_true (by omega)]
  by_cases h2 : m.Kind = 4
  · rw [if_neg h1, if_pos h2, decide_eq_true (by omega)]
  by_cases h3 : m.Kind = 5
  · rw [if_neg h1, if_neg h2, if_pos h3, decide_eq_true (by omega)]
  by_cases h4 : m.Kind = 11
  · rw [if_neg h1, if_neg h2, if_neg h3, if_pos h4, decide_eq_true (by omega)]
  by_cases h5 : m.Kind = 12
  · rw [if_neg h1, if_neg h2, if_neg h3, if_neg h4, if_pos h5, decide_eq_true (by omega)]
  · rw [if_neg h1, if_neg h2, if_neg h3, if_neg h4, if_neg h5, decide_eq_false (by omega)]

theorem F31_spec (m : Msg) : F31 m = some (decide (isErr6 m.Kind)) := by
  unfold F31 isErr6
  rw [leI_eq, leI_eq]
  by_cases h1 : 1 ≤ m.Kind
  · rw [decide_eq_true h1, cond_true]; congr 1; rw [Bool.eq_iff_iff]; simp [h1]
  · rw [decide_eq_false h1, cond_false, decide_eq_false (fun h => h1 h.1)]

theorem F100_spec (a b : Int) : F100 a b = some (decide (68 ≤ a ∧ a ≤ 65535 ∧ 1280 ≤ b ∧ b ≤ 65575)) := by
  unfold F100
  simp only [leI_eq, bif_dec]
  by_cases h1 : 68 ≤ a
  · rw [if_pos h1]
    by_cases h2 : a ≤ 65535
    · rw [if_pos h2]
      by_cases h3 : 1280 ≤ b
      · rw [if_pos h3]; congr 1; rw [Bool.eq_iff_iff]; simp [h1, h2, h3]
      · rw [if_neg h3, decide_eq_false (fun h => h3 h.2.2.1)]
    · rw [if_neg h2, decide_eq_false (fun h => h2 h.2.1)]
  · rw [if_neg h1, decide_eq_false (fun h => h1 h.1)]

abbrev MR := Msg × Bool × Unit
def kind6 (r : MR) : Prop := r.2.1 = true → isErr6 r.1.Kind

theorem F102_post (m : Msg) (a b l : Int) : Post (F102 m a b l) kind6 := by
  unfold F102 F101
  simp only [Option.bind_some]
  repeat' refine post_bif (fun _ => ?_) (fun _ => ?_)
  any_goals (first | exact post_some (fun h => Bool.noConfusion h) | (refine post_some (fun _ => ?_); simp [isErr6]; done))
  refine post_bind (fun _ => True) ?_ fun q _ => post_some (fun _ => by simp [isErr6])
  unfold F120
  repeat' refine post_bif (fun _ => ?_) (fun _ => ?_)
  all_goals exact post_some trivial

theorem F103_post (n : Int) : Post (F103 n) (fun _ => True) := by
  unfold F103
  refine post_bind (fun _ => True) (post_bif (fun _ => post_some trivial) fun _ => post_some trivial) fun q _ => ?_
  refine post_bif (fun _ => post_some trivial) fun _ => ?_
  refine post_bind (fun _ => True) (post_bif (fun _ => post_some trivial) fun _ => post_some trivial) fun q _ => ?_
  refine post_bif (fun _ => post_some trivial) fun _ => ?_
  refine post_bif (fun _ => post_some trivial) fun _ => ?_
  refine post_bif (fun _ => post_some trivial) fun _ => ?_
  refine post_bind (fun _ => True) (post_bif (fun _ => post_some trivial) fun _ => post_some trivial) fun q _ => ?_
  refine post_bif (fun _ => post_some trivial) fun _ => ?_
  refine post_bind (fun _ => True) (post_bif (fun _ => post_some trivial) fun _ => post_some trivial) fun q _ => ?_
  exact post_bif (fun _ => post_some trivial) fun _ => post_some trivial

theorem F105_post (n : Int) : Post (F105 n) (fun _ => True) := by
  unfold F105
  refine post_bind (fun _ => True) (post_bif (fun _ => post_some trivial) fun _ => post_some trivial) fun q _ => ?_
  refine post_bif (fun _ => post_some trivial) fun _ => ?_
  refine post_bind (fun _ => True) (post_bif (fun _ => post_some trivial) fun _ => post_some trivial) fun q _ => ?_
  refine post_bif (fun _ => post_some trivial) fun _ => ?_
  refine post_bif (fun _ => post_some trivial) fun _ => ?_
  refine post_bif (fun _ => post_some trivial) fun _ => ?_
  refine post_bind (fun _ => True) (post_bif (fun _ => post_some trivial) fun _ => post_some trivial) fun q _ => ?_
  refine post_bif (fun _ => post_some trivial) fun _ => ?_
  refine post_bind (fun _ => True) (post_bif (fun _ => post_some trivial) fun _ => post_some trivial) fun q _ => ?_
  exact post_bif (fun _ => post_some trivial) fun _ => post_some trivial

/-- A test of a kind, and another one with it. -/
theorem post_kind {m : Msg} {k : Int} {b : Bool} : Post (bif m.Kind == k then some b else some false) (fun q => q = true → m.Kind = k) :=
  post_bif (fun h => post_some fun _ => by simpa using h) fun _ => post_some fun h => Bool.noConfusion h

theorem F73_post {m : Msg} (hm : isErr4 m.Kind) (a b l : Int) : Post (F73 m a b l) kind6 := by
  unfold F73 F101
  rw [F100_spec]
  simp only [Option.bind_some]
  unfold isErr4 at hm
  refine post_bif (fun _ => post_some fun h => Bool.noConfusion h) fun _ => ?_
  refine post_bind _ (post_kind (m := m) (k := 8)) fun q hq => post_bif (fun h => ?_) fun _ => ?_
  · have := hq h; omega
  refine post_bind _ (post_kind (m := m) (k := 0)) fun q hq => post_bif (fun h => ?_) fun _ => ?_
  · have := hq h; omega
  refine post_bif (fun _ => post_bind kind6 (F102_post m a b l) fun r hr => post_some hr) fun _ => ?_
  refine post_bind (fun _ => True) ?_ fun q _ => post_bif (fun _ => post_some fun _ => by simp [isErr6]) fun _ => ?_
  · refine post_bif (fun _ => post_bif (fun _ => post_some trivial) fun _ => post_some trivial) fun _ => post_some trivial
  refine post_bind (fun _ => True) ?_ fun q _ => post_bif (fun _ => ?_) fun _ => post_some fun h => Bool.noConfusion h
  · refine post_bif (fun _ => post_bif (fun _ => post_some trivial) fun _ => post_some trivial) fun _ => post_some trivial
  refine post_bind _ (F103_post _) fun q _ => post_bif (fun _ => post_some fun _ => by simp [isErr6]) fun _ => post_some fun h => Bool.noConfusion h

def kind4 (mtu4 : Int) (r : MR) : Prop := r.2.1 = true → isErr4 r.1.Kind ∧ 68 ≤ mtu4 ∧ mtu4 ≤ 65535

theorem F104_post (m : Msg) : Post (F104 m) (fun r => r.2.1 = true → isErr4 r.1.Kind) := by
  unfold F104 F101
  simp only [Option.bind_some]
  repeat' refine post_bif (fun _ => ?_) (fun _ => ?_)
  any_goals (first | exact post_some (fun h => Bool.noConfusion h) | (refine post_some (fun _ => ?_); simp [isErr4]; done))

theorem F74_post {m : Msg} (hm : isErr6 m.Kind) (a b : Int) : Post (F74 m a b) (kind4 a) := by
  unfold F74 F101
  rw [F100_spec]
  simp only [Option.bind_some]
  unfold isErr6 at hm
  by_cases hs : 68 ≤ a ∧ a ≤ 65535 ∧ 1280 ≤ b ∧ b ≤ 65575
  rotate_left
  · rw [decide_eq_false hs]; exact post_some fun h => Bool.noConfusion h
  rw [decide_eq_true hs, Bool.not_true, cond_false]
  have s1 := hs.1
  have s2 := hs.2.1
  refine post_bind _ (post_kind (m := m) (k := 128)) fun q hq => post_bif (fun h => ?_) fun _ => ?_
  · have := hq h; omega
  refine post_bind _ (post_kind (m := m) (k := 129)) fun q hq => post_bif (fun h => ?_) fun _ => ?_
  · have := hq h; omega
  refine post_bif (fun _ => post_bind _ (F104_post m) fun r hr => post_some fun h => ⟨hr h, s1, s2⟩) fun _ => ?_
  refine post_bind _ (post_kind (m := m) (k := 2)) fun q hq => post_bif (fun h => post_some fun _ => ⟨by simp [isErr4], s1, s2⟩) fun _ => ?_
  refine post_bind (fun _ => True) ?_ fun q _ => post_bif (fun _ => post_some fun _ => ⟨by simp [isErr4], s1, s2⟩) fun _ => ?_
  · refine post_bif (fun _ => post_bif (fun _ => post_some trivial) fun _ => post_some trivial) fun _ => post_some trivial
  refine post_bind _ (post_kind (m := m) (k := 4)) fun q hq => post_bif (fun h => ?_) fun _ => ?_
  · refine post_bind _ (F105_post _) fun q _ => post_bif (fun _ => post_some fun _ => ⟨by simp [isErr4], s1, s2⟩) fun _ => post_some fun h => Bool.noConfusion h
  refine post_bind _ (post_kind (m := m) (k := 4)) fun q hq => post_bif (fun h => post_some fun _ => ⟨by simp [isErr4], s1, s2⟩) fun _ => post_some fun h => Bool.noConfusion h

theorem head6_len (p : Ip4) (claim : Int) (from_ to_ : T6) : 40 ≤ (head6 p claim from_ to_).length := by
  unfold head6; split <;> simp [be1_len, be2_len, be4_len, V6.len]

def zeroMsg : Msg := { Kind := 0, Code := 0, Rest := 0, Data := [] }

/-- What Carry6's answer is like. -/
def car6 (m : Msg) (r : MR) : Prop := (r.2.1 = true → isErr6 r.1.Kind ∧ 40 ≤ r.1.Data.length ∧ r.1.Data.length ≤ 1232 ∧ isErr4 m.Kind) ∧ (r.2.1 = false → r.1 = zeroMsg)

theorem car6_none (m : Msg) : car6 m (zeroMsg, false, ()) := ⟨fun h => Bool.noConfusion h, fun _ => rfl⟩

theorem F30_post {m : Msg} (hd : m.Data.length ≤ 70000) (a b : Int) (x y : T6) : Post (F30 m a b x y) (car6 m) := by
  unfold F30
  rw [F13_spec (by omega), Option.bind_some]
  rcases in4_cases m.Data with hg | ⟨c, hg⟩
  rotate_left
  · rw [hg]; exact post_some (car6_none m)
  rw [in4_good hg]
  have hdl := data4_len m.Data
  have hr := two_range m.Data 2
  have hle := hl_le m.Data
  have hD : (ip4of m.Data).Data.length = (data4 m.Data).length := rfl
  simp only [errK, F32_spec, Option.bind_some]
  refine post_bif (fun _ => post_some (car6_none m)) fun he => ?_
  have he : isErr4 m.Kind := of_decide_eq_true (by cases hb : decide (isErr4 m.Kind) <;> rw [hb] at he <;> first | rfl | cases he)
  refine post_bind _ (F73_post he _ _ _) fun r hr6 => ?_
  rw [F16_spec (p := ip4of m.Data) (by rw [hD]; omega) (by omega)]
  simp only [Option.bind_some]
  have main : ∀ (s : List UInt8), 40 ≤ s.length → Post ((bif !r.2.1 then some true else some false).bind fun q9 =>
      bif q9 then some (({ Kind := 0, Code := 0, Rest := 0, Data := [] }, false, ()) : MR)
      else gd (ordB 0 (imin (s.length : Int) 1232) s.length) <| some (({ Kind := r.1.Kind, Code := r.1.Code, Rest := r.1.Rest, Data := sub s none (some (V.int IntKind.i64 (imin (s.length : Int) 1232))) 0 (imin (s.length : Int) 1232).toNat }, true, ()) : MR)) (car6 m) := by
    intro s hs
    cases hb : r.2.1 with
    | false => exact post_some (car6_none m)
    | true =>
      simp only [Bool.not_true, cond_false, Option.bind_some]
      have em : imin (s.length : Int) 1232 = ((min s.length 1232 : Nat) : Int) := by unfold imin; split <;> omega
      rw [em, gd_ord (by omega), Int.toNat_natCast, sub_ns (by omega)]
      refine post_some ⟨fun _ => ⟨hr6 hb, ?_, ?_, he⟩, fun h => Bool.noConfusion h⟩ <;> simp only [List.length_take] <;> omega
  unfold q6
  have none6 : ∀ (c : Int), Post ((bif !r.2.1 then some true else some true).bind fun q11 =>
      bif q11 then some (({ Kind := 0, Code := 0, Rest := 0, Data := [] }, false, ()) : MR)
      else gd (ordB 0 (imin (([] : List UInt8).length : Int) 1232) ([] : List UInt8).length) <| some (({ Kind := r.1.Kind, Code := r.1.Code, Rest := r.1.Rest, Data := sub ([] : List UInt8) none (some (V.int IntKind.i64 (imin (([] : List UInt8).length : Int) 1232))) 0 (imin (([] : List UInt8).length : Int) 1232).toNat }, true, ()) : MR)) (car6 m) := by
    intro c
    cases r.2.1 <;> exact post_some (car6_none m)
  by_cases g1 : ¬ fit6 (ip4of m.Data) (two m.Data 2 - hl m.Data) x y
  · rw [if_pos g1]; exact none6 13
  rw [if_neg g1]
  by_cases g2 : (proto6 (ip4of m.Data).Proto).2 = false
  · rw [if_pos g2]; exact none6 10
  rw [if_neg g2]
  by_cases g3 : 65535 < two m.Data 2 - hl m.Data ∨ ((ip4of m.Data).More = true ∨ (ip4of m.Data).At ≠ 0) ∧ 65535 < two m.Data 2 - hl m.Data + 8
  · rw [if_pos g3]; exact none6 3
  · rw [if_neg g3]
    exact main _ (by rw [List.length_append]; have := head6_len (ip4of m.Data) (two m.Data 2 - hl m.Data) x y; exact Nat.le_trans this (Nat.le_add_right _ _))

/-- What is known of Inside6's answer. -/
theorem in6_facts (s : List UInt8) : (in6 s).1.Exts.2.1 = 2 ∧ (in6 s).1.Data.length ≤ s.length ∧ 0 ≤ (in6 s).2.1 ∧ (in6 s).2.1 ≤ 65535 := by
  have h4 := two_range s 4
  have hth : (there s).length = min s.length (40 + (two s 4).toNat) - 40 := by unfold there; rw [List.length_take, List.length_drop]; omega
  have hcl := chain_len 9 [] (bt s 6) (there s)
  unfold in6
  by_cases c1 : s.length < 40
  · rw [if_pos c1]; simp [none6]
  rw [if_neg c1]
  by_cases c2 : bt s 0 / 16 ≠ 6
  · rw [if_pos c2]; simp [none6]
  rw [if_neg c2]
  generalize chain 9 [] (bt s 6) (there s) = ch at *
  cases ch with
  | bad c n d => simp [none6]
  | ok es proto data =>
    have hd := hcl es proto data rfl
    simp only
    by_cases c3 : proto = 44
    · rw [if_pos c3]
      by_cases c4 : data.length < 8
      · rw [if_pos c4]; simp [none6]
      rw [if_neg c4]
      have hdl : (data.drop 8).length = data.length - 8 := List.length_drop
      by_cases c5 : ((data.drop 8).length : Int) < min 8 (two s 4 - ((there s).length - (data.drop 8).length))
      · rw [if_pos c5]; simp [none6]
      · rw [if_neg c5]
        refine ⟨rfl, ?_, ?_, ?_⟩ <;> simp only [hdl] <;> omega
    · rw [if_neg c3]
      by_cases c5 : (data.length : Int) < min 8 (two s 4 - ((there s).length - data.length))
      · rw [if_pos c5]; simp [none6]
      · rw [if_neg c5]
        refine ⟨rfl, ?_, ?_, ?_⟩ <;> simp only <;> omega

/-- What Carry4's answer is like. -/
def car4 (n : Msg) (mtu4 : Int) (r : MR) : Prop := (r.2.1 = true → isErr4 r.1.Kind ∧ isErr6 n.Kind ∧ 20 ≤ r.1.Data.length ∧ r.1.Data.length ≤ 548 ∧ (r.1.Data.length : Int) ≤ mtu4 - 28 ∧ mtu4 ≤ 65535) ∧ (r.2.1 = false → r.1 = zeroMsg)

theorem car4_none (n : Msg) (a : Int) : car4 n a (zeroMsg, false, ()) := ⟨fun h => Bool.noConfusion h, fun _ => rfl⟩

theorem F33_post {m : Msg} (hd : m.Data.length ≤ 70000) (a b : Int) (x y : T4) : Post (F33 m a b x y) (car4 m a) := by
  unfold F33
  rw [F18_spec (by omega), Option.bind_some]
  obtain ⟨f1, f2, f3, f4⟩ := in6_facts m.Data
  generalize in6 m.Data = r0 at *
  obtain ⟨p, claim, e, u⟩ := r0
  simp only at f1 f2 f3 f4
  have hg : (p.Exts.2.1.beq 2 || p.Exts.1) = true := by rw [f1]; rfl
  cases e with
  | some cp => simp only [errK]; exact post_gd hg (post_some (car4_none m a))
  | none =>
    simp only [errK, F31_spec, Option.bind_some]
    refine post_gd hg (post_bif (fun _ => post_some (car4_none m a)) fun he => ?_)
    have he : isErr6 m.Kind := of_decide_eq_true (by cases hb : decide (isErr6 m.Kind) <;> rw [hb] at he <;> first | rfl | cases he)
    refine post_bind _ (F74_post he _ _) fun r hr4 => ?_
    have hp : ({ Class := p.Class, Flow := p.Flow, Hop := p.Hop, From := p.From, To := p.To, Exts := (p.Exts.fst, 2, p.Exts.snd.snd), Frag := p.Frag, Id := p.Id, At := p.At, More := p.More, Proto := p.Proto, Data := p.Data } : Ip6) = p := by
      rw [← f1]
    rw [hp, F21_spec (p := p) (by omega) (by omega) f1]
    simp only [Option.bind_some]
    have main : ∀ (s : List UInt8), 20 ≤ s.length → Post ((bif !r.2.1 then some true else some false).bind fun q9 =>
        bif q9 then some (({ Kind := 0, Code := 0, Rest := 0, Data := [] }, false, ()) : MR)
        else gd (ordB 0 (imin (s.length : Int) (IntKind.i64.wrap (IntKind.i64.wrap (imin 576 a - 20) - 8))) s.length) <| some (({ Kind := r.1.Kind, Code := r.1.Code, Rest := r.1.Rest, Data := sub s none (some (V.int IntKind.i64 (imin (s.length : Int) (IntKind.i64.wrap (IntKind.i64.wrap (imin 576 a - 20) - 8))))) 0 (imin (s.length : Int) (IntKind.i64.wrap (IntKind.i64.wrap (imin 576 a - 20) - 8))).toNat }, true, ()) : MR)) (car4 m a) := by
      intro s hs
      cases hb : r.2.1 with
      | false => exact post_some (car4_none m a)
      | true =>
        obtain ⟨k1, k2, k3⟩ := hr4 hb
        simp only [Bool.not_true, cond_false, Option.bind_some]
        have e1 : imin 576 a = min 576 a := by unfold imin; split <;> omega
        have em : imin (s.length : Int) (IntKind.i64.wrap (IntKind.i64.wrap (imin 576 a - 20) - 8)) = ((min s.length ((min 576 a).toNat - 28) : Nat) : Int) := by
          rw [e1, wrap_i64 (n := min 576 a - 20) (by omega) (by omega), wrap_i64 (by omega) (by omega)]
          unfold imin; split <;> omega
        rw [em, gd_ord (by omega), Int.toNat_natCast, sub_ns (by omega)]
        refine post_some ⟨fun _ => ⟨k1, he, ?_, ?_, ?_, k3⟩, fun h => Bool.noConfusion h⟩ <;> simp only [List.length_take] <;> omega
    unfold q4
    have none4 : ∀ (t : Bool → Option MR), t true = some (zeroMsg, false, ()) → Post ((bif !r.2.1 then some true else some true).bind t) (car4 m a) := by
      intro t ht
      have e : (bif !r.2.1 then some true else some true : Option Bool) = some true := by cases r.2.1 <;> rfl
      rw [e, Option.bind_some, ht]
      exact post_some (car4_none m a)
    by_cases g1 : ¬ fit4 p claim x y
    · rw [if_pos g1]; exact none4 _ rfl
    rw [if_neg g1]
    by_cases g2 : (proto4 p.Proto).2 = false
    · rw [if_pos g2]; exact none4 _ rfl
    rw [if_neg g2]
    by_cases g3 : 65515 - p.At < claim
    · rw [if_pos g3]; exact none4 _ rfl
    · rw [if_neg g3]
      exact main _ (by rw [List.length_append, head4_len]; exact Nat.le_add_right _ _)

theorem F9_true (m n : Msg) (a b : Int) (x y : T6) (c d : T4) : F9 m n a b x y c d = some true := by
  have key : Post (F9 m n a b x y c d) (fun r => r = true) := by
    unfold F9
    by_cases h1 : 70000 < m.Data.length
    · rw [ltI_t (by omega)]; exact post_some rfl
    rw [ltI_f (by omega), cond_false, Option.bind_some]
    by_cases h2 : 70000 < n.Data.length
    · rw [ltI_t (by omega)]; exact post_some rfl
    rw [ltI_f (by omega), cond_false]
    refine post_bind _ (F30_post (m := m) (by omega) a b x y) fun r hr => ?_
    have hq : (bif r.2.1 then
        Option.bind (F31 r.1) fun q10 =>
        bif !q10 then some true
        else bif ltI 1232 (r.1.Data.length : Int) then some true
          else bif ltI (r.1.Data.length : Int) 40 then some true
            else Option.bind (F32 m) fun q11 =>
              bif !q11 then some true
              else bif !r.2.1 then some (!(r.1.Kind == 0 && (r.1.Code == 0 && (r.1.Rest == 0 && (r.1.Data == [] && true))))) else some false
        else bif !r.2.1 then some (!(r.1.Kind == 0 && (r.1.Code == 0 && (r.1.Rest == 0 && (r.1.Data == [] && true))))) else some false) = some false := by
      cases hb : r.2.1 with
      | true =>
        obtain ⟨k1, k2, k3, k4⟩ := hr.1 hb
        rw [cond_true, F31_spec, Option.bind_some, decide_eq_true k1, Bool.not_true, cond_false, ltI_f (by omega), cond_false, ltI_f (by omega), cond_false, F32_spec, Option.bind_some, decide_eq_true k4]; rfl
      | false => rw [hr.2 hb]; rfl
    have e1 : ∀ (t : Option Bool), t = some false → ∀ (f : Bool → Option Bool), t.bind f = f false := by
      rintro _ rfl f; rfl
    rw [e1 _ hq, cond_false]
    refine post_bind _ (F33_post (m := n) (by omega) a b c d) fun r hr => ?_
    cases hb : r.2.1 with
    | false => rw [hr.2 hb]; exact post_some rfl
    | true =>
      obtain ⟨k1, k2, k3, k4, k5, k6⟩ := hr.1 hb
      rw [Bool.not_true, cond_false, F32_spec, Option.bind_some, decide_eq_true (p := isErr4 r.1.Kind) k1, cond_true, F31_spec, Option.bind_some, decide_eq_true (p := isErr6 n.Kind) k2, cond_true, leI_eq, leI_eq, leI_eq, decide_eq_true (by omega), cond_true, decide_eq_true (by omega), cond_true, wrap_i64 (by omega) (by omega), decide_eq_true k5]
      exact post_some rfl
  obtain ⟨r, h1, h2⟩ := key
  rw [h1, h2]
end Go.Rx.L15F
