/- A function walked in place, from the outside: its loops keep all memory. -/
import Derived.Test.YteahnnchfegknaaRxCod
set_option linter.unusedVariables false
namespace Go.Rx

/-- A function's answer, its loops walked round by round with nothing forgotten. -/
def evIn {R : Type} (P : Program) (C : Cfg P) (d : Nat) (f : FuncId) (args : List V) (K : V → Option R) : Option R := evF P C d f args [] fun v m => reifyK m v K

theorem evIn_ok {P : Program} {C : Cfg P} {f : FuncId} {R : Type} (hmix : P.follows .mixedOrders = true) {d : Nat} {args : List V} {K : V → Option R} {r : R} (h : evIn P C d f args K = some r) : ∃ v, K v = some r ∧ PCalls P f args v := by
  unfold evIn at h
  obtain ⟨u, m', h4, h5⟩ := evF_ok hmix d _ _ _ _ _ h
  obtain ⟨v, h6, h7⟩ := reifyK_some h4
  refine ⟨v, h6, ?_⟩
  intro E w xs hm hx
  refine Calls.mono (h5 E w.heap.size w xs hm hx) ?_
  rintro e w' ⟨x, E', rfl, h9, k2, k3⟩
  have hown : ∀ i, E.own i = none := fun i => hm.free i (by simp [Mem.at])
  have hsnap := k2.snap
  refine ⟨x, E'.snap w.heap.size w', rfl, h7 E' w.heap.size w' x k2 h9, ?_, ⟨⟨fun i p e => (by rw [hown i] at e; cases e), fun b cs e => snap_imm (k3.le.imm b cs e), fun i p e => (by rw [hown i] at e; cases e)⟩, k3.below, fun b cs e => ?_⟩⟩
  · exact ⟨k3.below.size, hsnap.cells, hsnap.maps, fun id b o e => by simp [Mem.at, Blk.live] at e, hsnap.lt, hsnap.apart, hsnap.free, hsnap.imm, hsnap.tot, hsnap.row⟩
  · simp only [Env.snap] at e
    split at e
    · rename_i cs' h10
      exact k3.fresh b cs' h10 |>.imp (fun k => by cases e; exact k) id
    · split at e
      · rename_i hB; exact .inr hB
      · cases e

theorem pcalls_of_in {P : Program} (hmix : P.follows .mixedOrders = true) {C : Cfg P} {f : FuncId} {d : Nat} {A B : Type} {ca : CodL A} {cb : Cod B} {F : A → Option B}
    (h : ∀ a b, F a = some b → evIn P C d f (ca.val a) (fun v => cb.dec v some) = some b) (a : A) (b : B) (e : F a = some b) : PCalls P f (ca.val a) (cb.val b) := by
  obtain ⟨v, h1, h2⟩ := evIn_ok hmix (h a b e)
  obtain ⟨b', h3, h4⟩ := cb.dec_some h1
  cases h4
  subst h3
  exact h2
end Go.Rx
