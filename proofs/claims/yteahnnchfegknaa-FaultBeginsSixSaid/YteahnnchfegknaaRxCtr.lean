/- Contracts by evaluation. -/
import Derived.Test.YteahnnchfegknaaRxCode
import Derived.Shelf.Strings.Repeat
set_option linter.unusedVariables false
namespace Go.Rx
open Go.RowKit (Below)

/-- The contract of a function is what its evaluation comes to. -/
def Ctr.ev {P : Program} (hmix : P.follows .mixedOrders = true) (cs : List (Ctr P)) (inl : List FuncId) (keep : FuncId → Nat → Keep) (d : Nat) (f : FuncId) : Ctr P where
  f := f
  run args K := (evTop P ⟨cs, inl, keep, []⟩ d f args some).bind K
  ok args K r h := by
    rw [Option.bind_eq_some_iff] at h
    obtain ⟨v, h1, h2⟩ := h
    obtain ⟨u, h3, h4⟩ := evTop_ok hmix (fun _ _ _ _ _ _ _ hh => absurd hh (List.not_mem_nil)) h1
    cases h3
    exact ⟨v, h2, h4⟩
  nat args K g := by rw [Option.bind_assoc]

/-- A call that hands nothing in. -/
theorem MemRel.start (W : World) : MemRel ⟨fun _ => none, fun _ => none, fun _ => 0⟩ W.heap.size [] W where
  size := Nat.le_refl _
  cells id l h := by simp [Mem.at] at h
  maps id l h := by simp [Mem.at] at h
  place id b o h := by simp [Mem.at, Blk.live] at h
  lt id p h := by cases h
  apart id id' b o o' h := by simp [Mem.at, Blk.live] at h
  free id h := rfl
  imm b cs h := by cases h
  tot id l b o h := by simp [Mem.at] at h
  row id l b o h := by simp [Mem.at] at h

/-- A contract from a law of the kit. -/
theorem PCalls.of_below {P : Program} {f : FuncId} {args : List V} {v : V}
    (h : ∀ E w (xs : Array Value), MemRel E w.heap.size [] w → V.relL E args xs.toList → Calls P f xs w fun e w' => ∃ x, e = .returned x ∧ (∀ E, V.rel E v x) ∧ Below w.heap.size w w') : PCalls P f args v := by
  intro E w xs hm hx
  refine (h E w xs hm hx).mono ?_
  rintro e w' ⟨x, rfl, h1, h2⟩
  exact ⟨x, E, rfl, h1 E, hm.stay h2.size h2.block, ⟨.refl E, h2, fun _ _ k => .inl k⟩⟩

def repeatCtr {P : Program} (f : FuncId) (h : ∀ (s : ByteArray) (c : Nat) (w : World), c ≤ 9223372036854775807 → s.size * c ≤ 140737488355328 →
    Calls P f #[.string s, .int .i64 c] w fun e w' => e = .returned (.string ⟨(Lib.repeatL s.data.toList c).toArray⟩) ∧ Below w.heap.size w w') : Ctr P where
  f := f
  run args K := consK args fun a l => strK a fun s => consK l fun b l => intK .i64 b fun n => nilK l (gd (decide (0 ≤ n ∧ n ≤ 9223372036854775807)) (gd (Nat.ble (s.length * n.toNat) 140737488355328) (K (.str (Lib.repeatL s n.toNat)))))
  ok args K r e := by
    obtain ⟨a, l, ha, e1⟩ := consK_some e
    obtain ⟨s, hs, e2⟩ := strK_some e1
    obtain ⟨b, l', hb, e3⟩ := consK_some e2
    obtain ⟨n, hn0, e4⟩ := intK_some e3
    obtain ⟨hl0, e5⟩ := nilK_some e4
    obtain ⟨h1, e6⟩ := gd_some e5
    obtain ⟨h2, e7⟩ := gd_some e6
    subst hl0; subst hn0; subst hb; subst hs; subst ha
    have h1 := of_decide_eq_true h1
    have h2 := Nat.le_of_ble_eq_true h2
    refine ⟨_, e7, PCalls.of_below fun E w xs hm hx => ?_⟩
    have hxs : xs = #[.string ⟨⟨s⟩⟩, .int .i64 n] := by
      cases xs with | mk q =>
      match q, hx with
      | [x, y], hx =>
        simp only [V.relL, V.rel] at hx
        rw [hx.1, hx.2.1]
    subst hxs
    have hn : n = (n.toNat : Int) := by omega
    have := h ⟨⟨s⟩⟩ n.toNat w (by omega) h2
    rw [← hn] at this
    refine this.mono ?_
    rintro e w' ⟨rfl, hw⟩
    exact ⟨_, rfl, fun E => by simp only [V.rel], hw⟩
  nat args K g := by
    simp only [consK_nat, strK_nat, intK_nat, nilK_nat, gd_nat]

end Go.Rx
