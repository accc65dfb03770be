/- FaultBack returns true whatever it is handed. No condition. -/
import Derived.Test.YteahnnchfegknaaP15l
import Derived.Test.YteahnnchfegknaaL15b
import Derived.Test.YteahnnchfegknaaRxRow
import Derived.Test.YteahnnchfegknaaRows
import Derived.WalkKit
import Derived.ProofKit
import Derived.OpenShut
import Derived.JoinedCond
set_option linter.unusedVariables false
set_option linter.unusedSimpArgs false
set_option maxRecDepth 1000000
namespace Go.Proofs.Yteahnnchfegknaa.faultBack
open Go.ChangeShapes Go.WideShapes Go.ChangeAt Go.RowKit

theorem own : ownKnob Try.prog.godebug = none := by kernel_rfl
theorem laidOut : laidOutB Try.prog = true := by kernel_rfl

theorem calls (s : List UInt8) (from_ to_ : Int) (a b : Rx.L15F.V6) : Rx.PCalls Try.prog 6 [.str s, .agg (Rx.L15F.lV6.val a), .agg (Rx.L15F.lV6.val b), .int .u16 from_, .int .u16 to_] (.bool true) :=
  Rx.pcalls_of_ev Rx.L15F.mix Rx.noLoops Rx.L15F.F6_ev (s, a, b, from_, to_, ()) true Rx.L15F.F6_true

theorem v6_of {W : World} {H : Type} {enc : TypeId × Value → H} {base : Nat} {sp : Nat → Bool} {held : Bool} {r : Reach} {b0 : Nat} {v : Value} {x : DataW H} {ps : List MemPlace} (hval : Value.okWide Try.prog W r b0 42 v) (h : DataW.Trod enc Try.prog W base sp held 42 v x ps) :
    ∃ a : Rx.L15F.V6, ∀ E, Rx.V.rel E (.agg (Rx.L15F.lV6.val a)) v := by
  obtain ⟨l, h1, h2⟩ := Rx.arg_agg (t := 42) 3 (by kernel_rfl) (by kernel_rfl) hval h
  obtain ⟨ns, g1, rfl, _⟩ := Rx.flat_ints Try.underlying42 Try.underlying5 h2
  match ns, g1 with
  | [a0, a1, a2, a3, a4, a5, a6, a7, a8, a9, a10, a11, a12, a13, a14, a15], _ => exact ⟨⟨a0, a1, a2, a3, a4, a5, a6, a7, a8, a9, a10, a11, a12, a13, a14, a15⟩, h1⟩

theorem lifted (os : Os) (started : os.Started) (H : Type) (enc : TypeId × Value → H) :
    ReturnsInHanded {} Try.checked os 6 .any (Rows.faultBackSpec.pre6 enc Try.prog Try.f6 Rows.faultBackRow.domain false) (Rows.faultBackSpec.post enc Try.prog Try.f6 false true false false) := by
  refine returnsInHanded_of_change (C := Try.checked) own started (by kernel_rfl) Try.func6
    (ChangeSpec.witness6 (enc := enc) (C := Try.checked) false ⟨#[], #[.string "".toUTF8, .agg (Array.replicate 16 (.int .u8 0)), .agg (Array.replicate 16 (.int .u8 0)), .int .u16 0, .int .u16 0], []⟩ 8 (by kernel_rfl) (by kernel_rfl) (by kernel_rfl) (by kernel_rfl)) ?_
  intro W base args ds gs before hval0 hW _ _
  have hval : ∀ (j : Nat) t v, Try.f6.params[j]? = some t → args[j]? = some v → Value.okWide Try.prog W .any base t v := hval0
  have hW' := hW
  obtain ⟨p, q, hA0, hV, rfl, hfz, hnd⟩ := hW
  have hA : DataW.TrodAll enc Try.prog W 0 (fun _ => true) true Try.f6.params.toList args.toList ds p := hA0
  rw [Try.params6] at hA hval
  obtain ⟨v0, l0, d0, e0, p0, q0, h0, rfl, rfl, t0, hA⟩ := trodAll_cons hA
  obtain ⟨v2, l2, d2, e2, p2, q2, rfl, rfl, rfl, t2, hA⟩ := trodAll_cons hA
  obtain ⟨v3, l3, d3, e3, p3, q3, rfl, rfl, rfl, t3, hA⟩ := trodAll_cons hA
  obtain ⟨v4, l4, d4, e4, p4, q4, rfl, rfl, rfl, t4, hA⟩ := trodAll_cons hA
  obtain ⟨v5, l5, d5, e5, p5, q5, rfl, rfl, rfl, t5, hA⟩ := trodAll_cons hA
  obtain ⟨rfl, rfl, rfl⟩ := trodAll_nil hA
  obtain rfl : args = #[v0, v2, v3, v4, v5] := by cases args; simp_all
  obtain ⟨s, rfl, rfl, rfl, _⟩ := Go.ChangeMaps.open_string Try.underlying9 (hval 0 9 v0 rfl rfl) t0
  obtain ⟨a, ha⟩ := v6_of (hval 1 42 v2 rfl rfl) t2
  obtain ⟨b, hb⟩ := v6_of (hval 2 42 v3 rfl rfl) t3
  obtain ⟨fr, rfl, rfl, rfl, _⟩ := open_int Try.underlying40 (hval 3 40 v4 rfl rfl) t4
  obtain ⟨to_, rfl, rfl, rfl, _⟩ := open_int Try.underlying40 (hval 4 40 v5 rfl rfl) t5
  have key : Calls Try.prog 6 #[.string s, v2, v3, .int .u16 fr, .int .u16 to_] W fun e W' => ∃ v, e = .returned v ∧ Rows.faultBackSpec.post enc Try.prog Try.f6 false true false false W #[.string s, v2, v3, .int .u16 fr, .int .u16 to_] v W' := ?_
  · exact key
  refine Rx.law_contract laidOut (fun t ht => ?_) rfl Try.underlying4 rfl (fun ds' hd => ?_) hW' ?_
  · rw [Try.params6] at ht
    simp only [List.mem_cons, List.not_mem_nil, or_false] at ht
    rcases ht with rfl | rfl | rfl | rfl | rfl <;> exact ⟨by kernel_rfl, of_decide_eq_true (by kernel_rfl)⟩
  · rw [show Try.f6.params.size = 5 from rfl] at hd
    match ds', hd with
    | [_, _, _, _, _], _ => rfl
  · have hm : Rx.MemRel ⟨fun _ => none, fun _ => none, fun _ => 0⟩ W.heap.size [] W := Rx.MemRel.start W
    refine (calls s.data.toList fr to_ a b _ W #[.string s, v2, v3, .int .u16 fr, .int .u16 to_] hm ?_).mono fun e W' he => ?_
    · simp only [Rx.V.relL, Rx.V.rel, and_true, true_and]
      exact ⟨by simpa only [Rx.V.rel] using ha _, by simpa only [Rx.V.rel] using hb _⟩
    · obtain ⟨x, E', rfl, hx, _, hg⟩ := he
      simp only [Rx.V.rel] at hx
      subst hx
      exact ⟨rfl, hg.below⟩

theorem proved : Rows.FaultBackSaid :=
  OpenClaim.holds_of_wide 6 Try.f6 rfl rfl rfl rfl rfl rfl rfl ⟨rfl, rfl, rfl, rfl, rfl⟩ rfl rfl rfl rfl rfl (by kernel_rfl) Try.func6 (by kernel_rfl)
    (of_decide_eq_true (by kernel_rfl)) (by unfold Func.isWrapper; first | (rw [if_pos (by decide +kernel)]; kernel_rfl) | (rw [if_neg (by decide +kernel)]; exact ⟨rfl, rfl⟩))
    (fun os started H enc _ => lifted os started H enc)
end Go.Proofs.Yteahnnchfegknaa.faultBack
