/- FaultInside returns true whatever it is handed. No condition. -/
import Derived.Test.YteahnnchfegknaaP15o
import Derived.Test.YteahnnchfegknaaL15b
import Derived.Test.YteahnnchfegknaaRxRow
import Derived.Test.YteahnnchfegknaaRows
import Derived.WalkKit
import Derived.ProofKit
import Derived.OpenShut
import Derived.JoinedCond
set_option linter.unusedVariables false
set_option linter.unusedSimpArgs false
set_option maxRecDepth 1000000
namespace Go.Proofs.Yteahnnchfegknaa.faultInside
open Go.ChangeShapes Go.WideShapes Go.ChangeAt Go.RowKit

theorem own : ownKnob Try.prog.godebug = none := by kernel_rfl
theorem laidOut : laidOutB Try.prog = true := by kernel_rfl

theorem calls (s : List UInt8) : Rx.PCalls Try.prog 5 [.str s] (.bool true) :=
  Rx.pcalls_of_ev Rx.L15F.mix Rx.noLoops Rx.L15F.F5_ev (s, ()) true (Rx.L15F.F5_true s)

theorem lifted (os : Os) (started : os.Started) (H : Type) (enc : TypeId × Value → H) :
    ReturnsInHanded {} Try.checked os 5 .any (Rows.faultInsideSpec.pre6 enc Try.prog Try.f5 Rows.faultInsideRow.domain false) (Rows.faultInsideSpec.post enc Try.prog Try.f5 false true false false) := by
  refine returnsInHanded_of_change (C := Try.checked) own started (by kernel_rfl) Try.func5
    (ChangeSpec.witness6 (enc := enc) (C := Try.checked) false ⟨#[], #[.string "".toUTF8], []⟩ 8 (by kernel_rfl) (by kernel_rfl) (by kernel_rfl) (by kernel_rfl)) ?_
  intro W base args ds gs before hval0 hW _ _
  have hval : ∀ (j : Nat) t v, Try.f5.params[j]? = some t → args[j]? = some v → Value.okWide Try.prog W .any base t v := hval0
  have hW' := hW
  obtain ⟨p, q, hA0, hV, rfl, hfz, hnd⟩ := hW
  have hA : DataW.TrodAll enc Try.prog W 0 (fun _ => true) true Try.f5.params.toList args.toList ds p := hA0
  rw [Try.params5] at hA hval
  obtain ⟨v0, l0, d0, e0, p0, q0, h0, rfl, rfl, t0, hA⟩ := trodAll_cons hA
  obtain ⟨rfl, rfl, rfl⟩ := trodAll_nil hA
  obtain rfl : args = #[v0] := by cases args; simp_all
  obtain ⟨s, rfl, rfl, rfl, _⟩ := Go.ChangeMaps.open_string Try.underlying9 (hval 0 9 v0 rfl rfl) t0
  have key : Calls Try.prog 5 #[.string s] W fun e W' => ∃ v, e = .returned v ∧ Rows.faultInsideSpec.post enc Try.prog Try.f5 false true false false W #[.string s] v W' := ?_
  · exact key
  refine Rx.law_contract laidOut (fun t ht => ?_) rfl Try.underlying4 rfl (fun ds' hd => ?_) hW' ?_
  · rw [Try.params5] at ht
    simp only [List.mem_cons, List.not_mem_nil, or_false] at ht
    rcases ht with rfl
    exact ⟨by kernel_rfl, of_decide_eq_true (by kernel_rfl)⟩
  · rw [show Try.f5.params.size = 1 from rfl] at hd
    match ds', hd with
    | [_], _ => rfl
  · have hm : Rx.MemRel ⟨fun _ => none, fun _ => none, fun _ => 0⟩ W.heap.size [] W := Rx.MemRel.start W
    refine (calls s.data.toList _ W #[.string s] hm ?_).mono fun e W' he => ?_
    · simp only [Rx.V.relL, Rx.V.rel, and_true]
    · obtain ⟨x, E', rfl, hx, _, hg⟩ := he
      simp only [Rx.V.rel] at hx
      subst hx
      exact ⟨rfl, hg.below⟩

theorem proved : Rows.FaultInsideSaid :=
  OpenClaim.holds_of_wide 5 Try.f5 rfl rfl rfl rfl rfl rfl rfl ⟨rfl, rfl, rfl, rfl, rfl⟩ rfl rfl rfl rfl rfl (by kernel_rfl) Try.func5 (by kernel_rfl)
    (of_decide_eq_true (by kernel_rfl)) (by unfold Func.isWrapper; first | (rw [if_pos (by decide +kernel)]; kernel_rfl) | (rw [if_neg (by decide +kernel)]; exact ⟨rfl, rfl⟩))
    (fun os started H enc _ => lifted os started H enc)
end Go.Proofs.Yteahnnchfegknaa.faultInside
