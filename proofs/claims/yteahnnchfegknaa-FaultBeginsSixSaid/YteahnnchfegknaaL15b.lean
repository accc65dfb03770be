/- The call awake() returns true: by evaluation. No condition. -/
import Derived.Test.YteahnnchfegknaaL15a
namespace Go.Rx.L15
open Go.Proofs Go.Rx
set_option maxRecDepth 1000000
theorem awake_ev : evTop Try.prog ⟨[c10, c11, c12, c13, c16, c45], inl, keepIn keeps, []⟩ 6 14 [] some = some (.bool true) := by kernel_rfl
theorem awake_calls : PCalls Try.prog 14 [] (.bool true) := by
  obtain ⟨v, h1, h2⟩ := evTop_ok mix (fun _ _ _ _ _ _ _ hh => absurd hh (List.not_mem_nil)) awake_ev
  cases h1; exact h2
/-- The call with nothing handed in: true. -/
noncomputable def awake : Ctr Try.prog where
  f := 14
  run args K := nilK args (K (.bool true))
  ok args K r h := by
    obtain ⟨h1, h2⟩ := nilK_some h
    subst h1
    exact ⟨_, h2, awake_calls⟩
  nat args K g := by simp only [nilK_nat]
end Go.Rx.L15
