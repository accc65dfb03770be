/- A packet of IPv6 as an argument: its extensions lie in the caller's memory. -/
import Derived.Test.YteahnnchfegknaaRxRow
import Derived.Deep.Slices
set_option linter.unusedVariables false
set_option linter.unusedSimpArgs false
namespace Go.Rx
open Go.RowKit (Below)

section
variable {H : Type} {enc : TypeId × Value → H} {P : Program} {W : World} {base : Nat} {sp : Nat → Bool} {held : Bool}

/-- One block of the caller's as memory that nobody writes. -/
def envOf (b : Nat) (cs : List Value) : Env := ⟨fun _ => none, fun k => if k = b then some cs else none, fun _ => 0⟩

theorem memRel_of {b : Nat} {c : Array Value} {t : TypeId} {fz : Nat × Nat} (h : W.heap[b]? = some (.cells c t fz)) : MemRel (envOf b c.toList) W.heap.size [] W where
  size := Nat.le_refl _
  cells id l h := by simp [Mem.at] at h
  maps id l h := by simp [Mem.at] at h
  place id b o h := by simp [Mem.at, Blk.live] at h
  lt id p h := by cases h
  apart id id' b o o' h := by simp [Mem.at, Blk.live] at h
  free id h := rfl
  imm b' cs e := by
    simp only [envOf] at e
    split at e
    · rename_i hb
      subst hb
      cases e
      refine ⟨?_, fun i x hi => ?_⟩
      · rcases Nat.lt_or_ge b' W.heap.size with h2 | h2
        · exact h2
        · rw [Array.getElem?_eq_none h2] at h; cases h
      · rw [Array.getElem?_toList] at hi
        simp [World.cell?, h, hi]
    · cases e
  tot id l b o h := by simp [Mem.at] at h
  row id l b o h := by simp [Mem.at] at h

theorem cells_get {a : Addr} {n : Nat} {cs : List Value} (h : W.cells? base a n = some cs) : cs.length = n ∧ ∀ i, i < n → W.cell? (a.add i) = cs[i]? := by
  unfold World.cells? at h
  split at h
  · have key : ∀ (l : List Nat) (cs : List Value), (l.mapM fun i => W.cell? (a.add i)) = some cs → cs.length = l.length ∧ ∀ (i k : Nat), l[i]? = some k → W.cell? (a.add k) = cs[i]? := by
      intro l
      induction l with
      | nil => intro cs h; simp at h; subst h; exact ⟨rfl, fun i k e => by simp at e⟩
      | cons x l ih =>
        intro cs h
        rw [List.mapM_cons] at h
        cases h1 : W.cell? (a.add x) with
        | none => simp [h1] at h
        | some y =>
          cases h2 : l.mapM fun i => W.cell? (a.add i) with
          | none => simp [h1, h2] at h
          | some ys =>
            simp [h1, h2] at h
            subst h
            obtain ⟨g1, g2⟩ := ih ys h2
            refine ⟨by simp [g1], fun i k e => ?_⟩
            cases i with
            | zero => simp at e; subst e; simpa using h1
            | succ i => simp at e ⊢; exact g2 i k e
    obtain ⟨g1, g2⟩ := key _ _ h
    refine ⟨by simpa using g1, fun i hi => g2 i i ?_⟩
    rw [List.getElem?_range hi]
  · cases h

/-- A slice of structures of plain parts that lies in the caller's memory. 'n': the cells of an element. -/
theorem slice_cells {t e : TypeId} {fuel d n : Nat} {cs : List Value} {x : DataW H × List MemPlace} {r : Reach} {b0 : Nat} {v : Value} (ht : P.underlying t = some (.slice e)) (hn : P.cellsOf e = n) (h0 : 0 < n) (hl : layB P d e = true)
    (hcs : cs = [v]) (hok : Cell.okWide P W r b0 t v) (h : DataW.trod enc P W base sp held fuel t cs = some x) :
    (v = .slice none 0 0) ∨ ∃ (a : Nat) (o len cap : Nat) (c : Array Value) (tt : TypeId) (fz : Nat × Nat), v = .slice (some ⟨a, o, none⟩) len cap ∧ len ≤ cap ∧ W.heap[a]? = some (.cells c tt fz) ∧
      ∀ k, k < len → ∃ l, ((c.toList.drop (o + k * n)).take n).length = n ∧ (∀ E, V.relL E l ((c.toList.drop (o + k * n)).take n)) ∧ Flat P d e l := by
  rcases Go.Deep.open_slice ht h with ⟨h1, _⟩ | ⟨a, len, cap, m, f', D, Pl, h1, hb, hlc, hm, hmm, _, hx⟩
  · left
    rw [hcs] at h1
    cases h1; rfl
  right
  rw [hcs] at h1
  cases h1
  unfold Cell.okWide at hok
  rw [ht] at hok
  simp only at hok
  unfold Cell.ok at hok
  rw [ht] at hok
  simp only at hok
  obtain ⟨_, _, _, hsp, row, cells, hsh, _⟩ := hok
  unfold World.shape? at hsh
  split at hsh
  · rename_i c tt fz hc
    obtain ⟨ab, ao, asp⟩ := a
    simp only at hsp hc hb
    subst hsp
    refine ⟨ab, ao, len, cap, c, tt, fz, rfl, hlc, hc, fun k hk => ?_⟩
    obtain ⟨cs', g1, g2⟩ := hx k (by rw [hmm]; split <;> omega)
    rw [hn] at g1
    obtain ⟨k1, k2⟩ := cells_get g1
    obtain ⟨q1, l, q2, q3⟩ := flat_ok d f' e cs' _ hl g2
    have hcell : ∀ i, i < n → cs'[i]? = c.toList[ao + k * n + i]? := by
      intro i hi
      rw [← k2 i hi]
      have e1 : ((⟨ab, ao, none⟩ : Addr).add (k * n)).add i = ⟨ab, ao + k * n + i, none⟩ := by
        unfold Addr.add
        by_cases z1 : k * n = 0 <;> by_cases z2 : i = 0 <;> simp [z1, z2, Nat.add_assoc]
      rw [e1]
      unfold World.cell?
      simp [hc]
    have hlen : ao + k * n + n ≤ c.toList.length := by
      have := hcell (n - 1) (by omega)
      rw [List.getElem?_eq_getElem (show n - 1 < cs'.length by omega)] at this
      have h2 := List.getElem?_eq_some_iff.1 this.symm
      obtain ⟨h3, _⟩ := h2
      omega
    have hsame : (c.toList.drop (ao + k * n)).take n = cs' := by
      apply List.ext_getElem?
      intro i
      rw [List.getElem?_take]
      split
      · rename_i hi
        rw [List.getElem?_drop, hcell i hi]
      · rename_i hi
        rw [List.getElem?_eq_none (by omega)]
    rw [hsame]
    exact ⟨l, k1, q2, q3⟩
  · cases hsh
end
end Go.Rx
