/- FaultKnown returns true. No condition. -/
import Derived.Test.YteahnnchfegknaaL15b
import Derived.Test.YteahnnchfegknaaRows
import Derived.WalkKit
import Derived.ProofKit
import Derived.OpenShut
import Derived.JoinedCond
set_option linter.unusedVariables false
set_option maxRecDepth 1000000
namespace Go.Proofs.Yteahnnchfegknaa.faultKnown
open Go.ChangeShapes Go.WideShapes Go.ChangeAt Go.RowKit

theorem own : ownKnob Try.prog.godebug = none := by kernel_rfl

theorem contract (hcall : Rx.PCalls Try.prog 3 [] (.bool true)) (H : Type) (enc : TypeId × Value → H) (W : World) (base : Nat) (args : Array Value) (ds gs : List (DataW H)) (before : List MemPlace)
    (hW : DataW.Whole enc Try.prog Try.f3.params.toList Rows.faultKnownSpec.vars false W args.toList ds gs before) :
    Calls Try.prog 3 args W fun e W' => ∃ v, e = .returned v ∧ Rows.faultKnownSpec.post enc Try.prog Try.f3 false true false false W args v W' := by
  have hW' := hW
  obtain ⟨p, q, hA0, hV, rfl, hfz, hnd⟩ := hW
  have hA : DataW.TrodAll enc Try.prog W 0 (fun _ => true) true Try.f3.params.toList args.toList ds p := hA0
  rw [Try.params3] at hA
  obtain ⟨hargs, rfl, rfl⟩ := trodAll_nil hA
  obtain rfl : args = #[] := by cases args; simp_all
  obtain ⟨rfl, rfl⟩ := trodVars_none hV
  have hm : Rx.MemRel ⟨fun _ => none, fun _ => none, fun _ => 0⟩ W.heap.size [] W := Rx.MemRel.start W
  refine (hcall _ W #[] hm (by simp [Rx.V.relL])).mono fun e W' he => ?_
  obtain ⟨x, E', rfl, hx, _, hg⟩ := he
  simp only [Rx.V.rel] at hx
  subst hx
  refine ⟨_, rfl, ?_⟩
  refine ⟨[], [], _, [], [], [], hW', trodAll_cons_mk (shut_bool Try.underlying4 _) trodAll_mk0, trodAll_mk0, rfl, hg.below.frame _, fun h => by cases h⟩


theorem known_ev : Rx.evTop Try.prog ⟨[Rx.L15.c10, Rx.L15.c11, Rx.L15.c12, Rx.L15.c13, Rx.L15.awake, Rx.L15.c15], Rx.L15.inl, Rx.L15.keepIn Rx.L15.keeps, []⟩ 6 3 [] some = some (.bool true) := by kernel_rfl
theorem known_calls : Rx.PCalls Try.prog 3 [] (.bool true) := by
  obtain ⟨v, h1, h2⟩ := Rx.evTop_ok Rx.L15.mix (fun _ _ _ _ _ _ _ hh => absurd hh (List.not_mem_nil)) known_ev
  cases h1; exact h2

theorem lifted (os : Os) (started : os.Started) (H : Type) (enc : TypeId × Value → H) :
    ReturnsInHanded {} Try.checked os 3 .any (Rows.faultKnownSpec.pre6 enc Try.prog Try.f3 Rows.faultKnownRow.domain false) (Rows.faultKnownSpec.post enc Try.prog Try.f3 false true false false) := by
  refine returnsInHanded_of_change (C := Try.checked) own started (by kernel_rfl) Try.func3
    (ChangeSpec.witness6 (enc := enc) (C := Try.checked) false ⟨#[], #[], []⟩ 8 (by kernel_rfl) (by kernel_rfl) (by kernel_rfl) (by kernel_rfl)) ?_
  intro W base args ds gs before hval hW _ _
  exact contract known_calls H enc W base args ds gs before hW

theorem proved : Rows.FaultKnownSaid :=
  OpenClaim.holds_of_wide 3 Try.f3 rfl rfl rfl rfl rfl rfl rfl ⟨rfl, rfl, rfl, rfl, rfl⟩ rfl rfl rfl rfl rfl (by kernel_rfl) Try.func3 (by kernel_rfl)
    (of_decide_eq_true (by kernel_rfl)) (by unfold Func.isWrapper; first | (rw [if_pos (by decide +kernel)]; kernel_rfl) | (rw [if_neg (by decide +kernel)]; exact ⟨rfl, rfl⟩))
    (fun os started H enc _ => lifted os started H enc)
end Go.Proofs.Yteahnnchfegknaa.faultKnown
