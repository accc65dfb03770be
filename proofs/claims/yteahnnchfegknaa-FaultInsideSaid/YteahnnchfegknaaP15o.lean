/- Plain laws of interpreterlaw15's functions: FaultInside. -/
import Derived.Test.YteahnnchfegknaaP15n
import Derived.Test.YteahnnchfegknaaP15h
set_option linter.unusedVariables false
set_option linter.unusedSimpArgs false
set_option maxHeartbeats 1000000
namespace Go.Rx.L15F
open Go.Rx

theorem in4_code (s : List UInt8) : (in4 s).2.2.1 = none ∨ ∃ c, c ≠ 0 ∧ (in4 s).2.2.1 = some (c, 0) := by
  unfold in4
  by_cases c1 : s.length < 20
  · rw [if_pos c1]; exact .inr ⟨7, by decide, rfl⟩
  rw [if_neg c1]
  by_cases c2 : bt s 0 / 16 ≠ 4 ∨ hl s < 20
  · rw [if_pos c2]; exact .inr ⟨8, by decide, rfl⟩
  rw [if_neg c2]
  by_cases c3 : s.length < hl s
  · rw [if_pos c3]; exact .inr ⟨7, by decide, rfl⟩
  rw [if_neg c3]
  by_cases c4 : fold1 (ws false false (s.take (hl s))) ≠ 65535
  · rw [if_pos c4]; exact .inr ⟨9, by decide, rfl⟩
  rw [if_neg c4]
  by_cases c5 : two s 2 < hl s ∨ two s 6 ≥ 32768 ∨ two s 6 % 8192 * 8 + two s 2 > 65535
  · rw [if_pos c5]; exact .inr ⟨8, by decide, rfl⟩
  rw [if_neg c5]
  by_cases c6 : ((data4 s).length : Int) < min 8 (two s 2 - hl s)
  · rw [if_pos c6]; exact .inr ⟨7, by decide, rfl⟩
  · rw [if_neg c6]; exact .inl rfl

theorem in6_code (s : List UInt8) : ((in6 s).2.2.1 = none ∨ ∃ c, c ≠ 0 ∧ (in6 s).2.2.1 = some (c, 0)) ∧ ∃ es, es.length ≤ 8 ∧ (in6 s).1.Exts = exts2 es := by
  have hn : ∃ es : List Ext1, es.length ≤ 8 ∧ none6.Exts = exts2 es := ⟨[], by simp, rfl⟩
  have hcb := fun c n d => chain_bad 9 [] (bt s 6) (there s) c n d (by simp) (by simp)
  have hce := fun e n d => chain_exts 9 [] (bt s 6) (there s) e n d (by simp)
  unfold in6
  by_cases c1 : s.length < 40
  · rw [if_pos c1]; exact ⟨.inr ⟨7, by decide, rfl⟩, hn⟩
  rw [if_neg c1]
  by_cases c2 : bt s 0 / 16 ≠ 6
  · rw [if_pos c2]; exact ⟨.inr ⟨8, by decide, rfl⟩, hn⟩
  rw [if_neg c2]
  generalize chain 9 [] (bt s 6) (there s) = ch at *
  cases ch with
  | bad c n d => exact ⟨.inr ⟨c, hcb c n d rfl, rfl⟩, hn⟩
  | ok es proto data =>
    have h8 := hce es proto data rfl
    simp only
    by_cases c3 : proto = 44
    · rw [if_pos c3]
      by_cases c4 : data.length < 8
      · rw [if_pos c4]; exact ⟨.inr ⟨7, by decide, rfl⟩, hn⟩
      rw [if_neg c4]
      by_cases c5 : ((data.drop 8).length : Int) < min 8 (two s 4 - ((there s).length - (data.drop 8).length))
      · rw [if_pos c5]; exact ⟨.inr ⟨7, by decide, rfl⟩, hn⟩
      · rw [if_neg c5]; exact ⟨.inl rfl, es, h8, rfl⟩
    · rw [if_neg c3]
      by_cases c5 : (data.length : Int) < min 8 (two s 4 - ((there s).length - data.length))
      · rw [if_pos c5]; exact ⟨.inr ⟨7, by decide, rfl⟩, hn⟩
      · rw [if_neg c5]; exact ⟨.inl rfl, es, h8, rfl⟩

theorem F5_true (s : List UInt8) : F5 s = some true := by
  unfold F5
  by_cases c0 : 70000 < s.length
  · rw [ltI_t (by omega), cond_true]
  rw [ltI_f (by omega), cond_false, F13_spec (by omega), F17_spec (by omega), F18_spec (by omega), F19_spec (by omega)]
  have k4 := in4_code s
  obtain ⟨k6, es, h8, hx⟩ := in6_code s
  obtain ⟨f1, _, _, _⟩ := in6_facts s
  generalize in4 s = r4 at *
  generalize in6 s = r6 at *
  obtain ⟨p, cl, e, _⟩ := r4
  obtain ⟨q, cm, f, _⟩ := r6
  simp only at k4 k6 hx f1
  have hq : ({ Class := q.Class, Flow := q.Flow, Hop := q.Hop, From := q.From, To := q.To, Exts := (q.Exts.fst, 2, q.Exts.snd.snd), Frag := q.Frag, Id := q.Id, At := q.At, More := q.More, Proto := q.Proto, Data := q.Data } : Ip6) = q := by rw [← f1]
  have hg : ∀ {R : Type} (k : Option R), gd (q.Exts.2.1.beq 2 || q.Exts.1) k = k := fun k => gd_true (by rw [f1]; rfl) k
  have hs := F20_same h8 hx
  have e1 : ∀ z : Int, (z == z) = true := fun z => beq_self_eq_true z
  have e2 : ∀ z : List UInt8, (z == z) = true := fun z => beq_self_eq_true z
  have e3 : ∀ z : Bool, (z == z) = true := fun z => beq_self_eq_true z
  rcases k4 with rfl | ⟨c, hc, rfl⟩ <;> rcases k6 with rfl | ⟨c', hc', rfl⟩
  · simp only [errK, codeOf, Option.bind_some, hg, e1, e2, e3, Bool.and_self, cond_true, hq, hs]
  · have n1 : (c' == 0) = false := beq_eq_false_iff_ne.2 hc'
    simp only [errK, codeOf, Option.bind_some, hg, e1, e2, e3, Bool.and_self, cond_true, cond_false, hq, hs, n1]
  · have n1 : (c == 0) = false := beq_eq_false_iff_ne.2 hc
    simp only [errK, codeOf, Option.bind_some, hg, e1, e2, e3, Bool.and_self, cond_true, cond_false, hq, hs, n1]
  · have n1 : (c == 0) = false := beq_eq_false_iff_ne.2 hc
    have n2 : (c' == 0) = false := beq_eq_false_iff_ne.2 hc'
    simp only [errK, codeOf, Option.bind_some, hg, e1, e2, e3, Bool.and_self, cond_true, cond_false, hq, hs, n1, n2]
end Go.Rx.L15F
