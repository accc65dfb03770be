/- Plain laws of interpreterlaw15's functions: what the reference's bytes of a packet are read as. -/
import Derived.Test.YteahnnchfegknaaP16
import Derived.Test.YteahnnchfegknaaL15u
set_option linter.unusedVariables false
set_option linter.unusedSimpArgs false
namespace Go.Rx.L15F
open Go.Rx

theorem bindc {X : Option Bool} {c : Int} {R : Option Int} (h : (Option.bind X fun q => bif q then some c else R) = some 0) (hc : c ≠ 0) : X = some false ∧ R = some 0 := by
  cases X with
  | none => cases h
  | some q => cases q with
    | true => exact absurd (Option.some.inj h) hc
    | false => exact ⟨rfl, h⟩
theorem bindw {a m : Int} {R : Option Bool} (h : (Option.bind (bif leI 0 a then some (leI a m) else some false) fun q => bif !q then some true else R) = some false) : (0 ≤ a ∧ a ≤ m) ∧ R = some false := by
  rw [leI_eq, leI_eq] at h
  by_cases h0 : 0 ≤ a
  · rw [decide_eq_true h0, cond_true, Option.bind_some] at h
    by_cases h1 : a ≤ m
    · rw [decide_eq_true h1, Bool.not_true, cond_false] at h; exact ⟨⟨h0, h1⟩, h⟩
    · rw [decide_eq_false h1, Bool.not_false, cond_true] at h; cases h
  · rw [decide_eq_false h0, cond_false, Option.bind_some, Bool.not_false, cond_true] at h; cases h

/-- What the reference asks of a packet's numbers. -/
structure Nums (a : Ip6) : Prop where
  cls : 0 ≤ a.Class ∧ a.Class ≤ 255
  flow : 0 ≤ a.Flow ∧ a.Flow ≤ 1048575
  hop : 0 ≤ a.Hop ∧ a.Hop ≤ 255
  proto : 0 ≤ a.Proto ∧ a.Proto ≤ 255
  at_ : 0 ≤ a.At ∧ a.At ≤ 65528
  at8 : a.At.tmod 8 = 0

theorem first59_ok {a : Ip6} (h : first59 a = some false) : Nums a := by
  unfold first59 at h
  obtain ⟨h1, h⟩ := bindw h
  obtain ⟨h2, h⟩ := bindw h
  obtain ⟨h3, h⟩ := bindw h
  obtain ⟨h4, h⟩ := bindw h
  obtain ⟨h5, h⟩ := bindw h
  refine ⟨h1, h2, h3, h4, h5, ?_⟩
  have := Option.some.inj h
  simpa using this

def kindOk (e : Ext1) : Prop := e.1 = 0 ∨ e.1 = 43 ∨ e.1 = 60
theorem kinds59_ok : ∀ {es : List Ext1} {n : Int} {K : Int → Option Int}, kinds59 es n K = some 0 → (∀ e ∈ es, kindOk e) ∧ ∃ n', K n' = some 0
  | [], n, K, h => ⟨fun e he => (by cases he), n, h⟩
  | e :: l, n, K, h => by
    unfold kinds59 at h
    obtain ⟨h1, h⟩ := bindc h (by decide)
    obtain ⟨h2, h3⟩ := kinds59_ok h
    refine ⟨fun x hx => ?_, h3⟩
    rcases List.mem_cons.1 hx with rfl | hx
    · unfold kindOk
      by_cases k1 : x.1 = 0
      · exact .inl k1
      by_cases k2 : x.1 = 43
      · exact .inr (.inl k2)
      by_cases k3 : x.1 = 60
      · exact .inr (.inr k3)
      rw [beq_dec, beq_dec, beq_dec, decide_eq_false k1, decide_eq_false k2, decide_eq_false k3] at h1
      cases h1
    · exact h2 x hx
theorem kinds59_sum : ∀ {es : List Ext1} {n : Int} {K : Int → Option Int}, (∀ e ∈ es, e.2.length ≤ 2046) → 0 ≤ n → n + 3000 * es.length ≤ 1000000000 → kinds59 es n K = some 0 → K (n + sizeE es) = some 0
  | [], n, K, _, _, _, h => by
    rw [show n + sizeE [] = n by simp [sizeE]]; exact h
  | e :: l, n, K, hs, h0, h1, h => by
    unfold kinds59 at h
    obtain ⟨_, h⟩ := bindc h (by decide)
    have he := hs e (by simp)
    simp only [List.length_cons] at h1
    rw [wrap_i64 (n := n + 2) (by omega) (by omega), wrap_i64 (n := n + 2 + (e.2.length : Int)) (by omega) (by omega)] at h
    have := kinds59_sum (fun x hx => hs x (by simp [hx])) (by omega) (by omega) h
    rw [show n + sizeE (e :: l) = n + 2 + (e.2.length : Int) + sizeE l by simp only [sizeE]; omega]
    exact this

theorem wrap_two {n : Nat} (h : n ≤ 9223372036854775807) : IntKind.i64.wrap ((n : Int) + 2) = n + 2 ∨ IntKind.i64.wrap ((n : Int) + 2) < 8 ∧ 2046 < n := by
  by_cases h1 : n ≤ 9223372036854775805
  · exact .inl (wrap_i64 (by omega) (by omega))
  · right
    refine ⟨?_, by omega⟩
    rcases (by omega : n = 9223372036854775806 ∨ n = 9223372036854775807) with rfl | rfl
    · rw [show ((9223372036854775806 : Nat) : Int) + 2 = 9223372036854775808 from rfl]; decide
    · rw [show ((9223372036854775807 : Nat) : Int) + 2 = 9223372036854775809 from rfl]; decide

/-- An extension that may be. -/
structure FormOk (first : Bool) (e : Ext1) : Prop where
  least : 8 ≤ e.2.length + 2
  whole : (e.2.length + 2) % 8 = 0
  most : e.2.length + 2 ≤ 2048
  zero : e.1 = 0 → first = true

def formsOk : Bool → List Ext1 → Prop
  | _, [] => True
  | i, e :: l => FormOk i e ∧ formsOk false l

theorem forms59_ok : ∀ {es : List Ext1} {i : Bool} {K : Option Int}, (∀ e ∈ es, e.2.length ≤ 9223372036854775807) → forms59 es i K = some 0 → formsOk i es ∧ K = some 0
  | [], i, K, _, h => ⟨trivial, h⟩
  | e :: l, i, K, hs, h => by
    unfold forms59 at h
    obtain ⟨h1, h⟩ := bindc h (by decide)
    obtain ⟨h2, h3⟩ := forms59_ok (fun x hx => hs x (by simp [hx])) h
    have he := hs e (by simp)
    refine ⟨⟨?_, h2⟩, h3⟩
    rw [ltI_eq, ltI_eq] at h1
    rcases wrap_two he with hw | ⟨hw, _⟩
    rotate_left
    · rw [decide_eq_true hw] at h1; cases h1
    rw [hw] at h1
    by_cases k1 : ((e.2.length : Int) + 2) < 8
    · rw [decide_eq_true k1] at h1; cases h1
    rw [decide_eq_false k1, cond_false] at h1
    have ht : ((e.2.length : Int) + 2).tmod 8 = (((e.2.length + 2) % 8 : Nat) : Int) := by
      rw [Int.tmod_eq_emod_of_nonneg (by omega)]; omega
    rw [ht] at h1
    by_cases k2 : (e.2.length + 2) % 8 = 0
    · rw [k2] at h1
      rw [show ((((0 : Nat) : Int)) == 0) = true from rfl, Bool.not_true, cond_false] at h1
      by_cases k3 : (2048 : Int) < (e.2.length : Int) + 2
      · rw [decide_eq_true k3] at h1; cases h1
      rw [decide_eq_false k3, cond_false] at h1
      refine ⟨by omega, k2, by omega, fun k4 => ?_⟩
      rw [k4] at h1
      simp only [beq_self_eq_true, cond_true] at h1
      have := Option.some.inj h1
      simpa using this
    · have : (((((e.2.length + 2) % 8 : Nat) : Int)) == 0) = false := by
        rw [beq_dec, decide_eq_false (by omega)]
      rw [this] at h1; cases h1

/-- What the reference asks of a packet that has bytes. -/
structure Right6 (a : Ip6) (es : List Ext1) : Prop where
  nums : Nums a
  kinds : ∀ e ∈ es, kindOk e
  forms : formsOk true es
  last : a.Frag = false → a.Proto ≠ 0 ∧ a.Proto ≠ 43 ∧ a.Proto ≠ 44 ∧ a.Proto ≠ 60
  plain : a.Frag = false → a.At = 0
  few : es.length ≤ 8
  far : a.At + a.Data.length ≤ 65535
  all : (a.Data.length : Int) + sizeE es + (if a.Frag = true then 8 else 0) ≤ 65535

theorem forms_len : ∀ {es : List Ext1} {i : Bool}, formsOk i es → ∀ e ∈ es, e.2.length ≤ 2046
  | [], _, _, e, he => by cases he
  | x :: l, i, h, e, he => by
    rcases List.mem_cons.1 he with rfl | he
    · have := h.1.most; omega
    · exact forms_len h.2 e he

theorem why59_ok {a : Ip6} {es : List Ext1} (hd : a.Data.length ≤ 70000) (hn : es.length ≤ 20) (hs : ∀ e ∈ es, e.2.length ≤ 9223372036854775807) (h : why59 a es = some 0) : Right6 a es := by
  unfold why59 at h
  obtain ⟨h1, h⟩ := bindc h (by decide)
  have hall := h
  obtain ⟨h2, n, h⟩ := kinds59_ok h
  obtain ⟨h3, h⟩ := bindc h (by decide)
  obtain ⟨h4, h⟩ := forms59_ok hs h
  obtain ⟨h5, h⟩ := bindc h (by decide)
  obtain ⟨h6, h⟩ := bindc h (by decide)
  have hlen := forms_len h4
  have hse : ∀ l : List Ext1, (∀ e ∈ l, e.2.length ≤ 2046) → 0 ≤ sizeE l ∧ sizeE l ≤ 2048 * l.length := by
    intro l
    induction l with
    | nil => intro _; simp [sizeE]
    | cons x l ih =>
      intro k
      have h1 := ih fun e he => k e (by simp [he])
      have h2 := k x (by simp)
      simp only [sizeE, List.length_cons]; omega
  have hse := hse es hlen
  have h := kinds59_sum hlen (by omega) (by omega) hall
  obtain ⟨_, h⟩ := bindc h (by decide)
  obtain ⟨_, h⟩ := forms59_ok hs h
  obtain ⟨_, h⟩ := bindc h (by decide)
  obtain ⟨_, h⟩ := bindc h (by decide)
  have hat := (first59_ok h1).at_
  have key : ∀ n', long59 a n' es.length = some 0 → es.length ≤ 8 ∧ a.At + a.Data.length ≤ 65535 ∧ n' ≤ 65535 := by
    intro n' k
    unfold long59 at k
    obtain ⟨k1, _⟩ := bindc k (by decide)
    by_cases h8 : es.length ≤ 8
    · rw [show Nat.blt 8 es.length = false from by rw [Bool.eq_false_iff]; intro e; have := Nat.le_of_ble_eq_true e; omega, cond_false, ltI_eq, ltI_eq, wrap_i64 (n := a.At + (a.Data.length : Int)) (by omega) (by omega)] at k1
      by_cases q1 : 65535 < a.At + (a.Data.length : Int)
      · rw [decide_eq_true q1] at k1; cases k1
      · rw [decide_eq_false q1, cond_false] at k1
        have := Option.some.inj k1
        rw [decide_eq_false_iff_not] at this
        exact ⟨h8, by omega, by omega⟩
    · rw [show Nat.blt 8 es.length = true from Nat.ble_eq_true_of_le (by omega)] at k1; cases k1
  have fin : es.length ≤ 8 ∧ a.At + a.Data.length ≤ 65535 ∧ (a.Data.length : Int) + sizeE es + (if a.Frag = true then 8 else 0) ≤ 65535 := by
    cases hf : a.Frag with
    | true =>
      rw [hf, cond_true, wrap_i64 (n := (a.Data.length : Int) + sizeE es + 8) (by omega) (by omega)] at h
      have := key _ h
      rw [if_pos rfl]; exact this
    | false =>
      rw [hf, cond_false] at h
      have := key _ h
      rw [if_neg (by decide)]; omega
  refine ⟨first59_ok h1, h2, h4, fun hf => ?_, fun hf => ?_, fin.1, fin.2.1, fin.2.2⟩
  rotate_left
  · rw [hf] at h6
    simp only [Bool.not_false, cond_true, beq_dec] at h6
    by_cases k1 : a.Id = 0
    · rw [decide_eq_true k1, Bool.not_true, cond_false] at h6
      by_cases k2 : a.At = 0
      · exact k2
      · rw [decide_eq_false k2] at h6; cases h6
    · rw [decide_eq_false k1] at h6; cases h6
  rw [hf] at h3
  simp only [Bool.not_false, cond_true, beq_dec] at h3
  by_cases k1 : a.Proto = 0
  · rw [decide_eq_true k1] at h3; cases h3
  by_cases k2 : a.Proto = 43
  · rw [decide_eq_false k1, decide_eq_true k2] at h3; cases h3
  by_cases k3 : a.Proto = 44
  · rw [decide_eq_false k1, decide_eq_false k2, decide_eq_true k3] at h3; cases h3
  by_cases k4 : a.Proto = 60
  · rw [decide_eq_false k1, decide_eq_false k2, decide_eq_false k3, decide_eq_true k4] at h3; cases h3
  exact ⟨k1, k2, k3, k4⟩
end Go.Rx.L15F
