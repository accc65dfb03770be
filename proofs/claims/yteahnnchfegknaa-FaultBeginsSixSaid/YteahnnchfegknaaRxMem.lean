/- The memory of the reflective interpreter: the call's own blocks by name. -/
import Derived.Test.YteahnnchfegknaaRxVal
import Derived.Laws.IdiomCopy
namespace Go.Rx
open Go.RowKit (Below)

/-- A block of the call's own: not made yet, no longer to be touched, a row of cells, a map. -/
inductive Blk where
  | free
  | dead
  | cells (l : List V)
  | map (es : List (V × V))
  deriving Inhabited

def Blk.live : Blk → Bool
  | .cells _ | .map _ => true
  | _ => false

abbrev Mem := List Blk

def Mem.at (m : Mem) (id : Nat) : Blk := m.getD id .free

/-- The cells of a row from place o on. -/
def CellsAt (E : Env) (w : World) (b o : Nat) (l : List V) : Prop :=
  (∀ i v, l[i]? = some v → ∃ x, w.cell? ⟨b, o + i, none⟩ = some x ∧ V.rel E v x) ∧ ∀ i, i < l.length → w.frozen? ⟨b, o + i, none⟩ = false

def EntRel (E : Env) : List (V × V) → List MapEntry → Prop
  | [], [] => True
  | p :: l, e :: es => V.rel E p.1 e.key ∧ V.rel E p.2 e.val ∧ EntRel E l es
  | _, _ => False

def MapAt (E : Env) (w : World) (b : Nat) (l : List (V × V)) : Prop :=
  ∃ es clock, w.heap[b]? = some (.map es clock) ∧ EntRel E l es.toList

structure MemRel (E : Env) (B : Nat) (m : Mem) (w : World) : Prop where
  size : B ≤ w.heap.size
  cells : ∀ id l, m.at id = .cells l → ∃ b o, E.own id = some (b, o) ∧ CellsAt E w b o l
  maps : ∀ id es, m.at id = .map es → ∃ b, E.own id = some (b, 0) ∧ MapAt E w b es
  place : ∀ id b o, (m.at id).live = true → E.own id = some (b, o) → B ≤ b ∧ b < w.heap.size ∧ E.imm b = none
  lt : ∀ id p, E.own id = some p → p.1 < w.heap.size
  apart : ∀ id id' b o o', (m.at id).live = true → (m.at id').live = true → E.own id = some (b, o) → E.own id' = some (b, o') → id = id'
  free : ∀ id, m.at id = .free → E.own id = none
  imm : ∀ b cs, E.imm b = some cs → b < w.heap.size ∧ ∀ i x, cs[i]? = some x → w.cell? ⟨b, i, none⟩ = some x
  tot : ∀ id l b o, m.at id = .cells l → E.own id = some (b, o) → o + l.length ≤ E.tot b ∧ ∀ i, i < E.tot b → (w.cell? ⟨b, i, none⟩).isSome = true ∧ w.frozen? ⟨b, i, none⟩ = false
  row : ∀ id l b o, m.at id = .cells l → E.own id = some (b, o) → ∃ c t fz, w.heap[b]? = some (.cells c t fz)

/-- What a step leaves alone. -/
structure Good (B : Nat) (E : Env) (w : World) (E' : Env) (w' : World) : Prop where
  le : E.Le E'
  below : Below B w w'
  fresh : ∀ b cs, E'.imm b = some cs → E.imm b = some cs ∨ B ≤ b

theorem Good.refl (B : Nat) (E : Env) (w : World) : Good B E w E w := ⟨.refl E, .refl B w, fun _ _ h => .inl h⟩
theorem Good.trans {B : Nat} {E E' E'' : Env} {w w' w'' : World} (h : Good B E w E' w') (h' : Good B E' w' E'' w'') : Good B E w E'' w'' :=
  ⟨h.le.trans h'.le, h.below.trans h'.below, fun b cs k => (h'.fresh b cs k).elim (fun k => h.fresh b cs k) .inr⟩

theorem Mem.at_lt {m : Mem} {id : Nat} (h : m.at id ≠ .free) : id < m.length := by
  rcases Nat.lt_or_ge id m.length with k | k
  · exact k
  · exact absurd (by simp [Mem.at, List.getD, List.getElem?_eq_none k]) h

theorem Mem.at_set {m : Mem} {id id' : Nat} {k : Blk} : Mem.at (m.set id k) id' = if id = id' ∧ id < m.length then k else m.at id' := by
  unfold Mem.at List.getD
  rw [List.getElem?_set]
  by_cases h : id = id'
  · subst h
    by_cases h2 : id < m.length
    · simp [h2]
    · simp [h2]
  · simp [h]

theorem Mem.at_append {m : Mem} {k : Blk} {id : Nat} : Mem.at (m ++ [k]) id = if id = m.length then k else m.at id := by
  unfold Mem.at List.getD
  rw [List.getElem?_append]
  rcases Nat.lt_trichotomy id m.length with h | h | h
  · simp [h, Nat.ne_of_lt h]
  · simp [h]
  · have h1 : ¬ id < m.length := by omega
    have h2 : id - m.length ≠ 0 := by omega
    simp [h1, Nat.ne_of_gt h]
    rw [List.getElem?_eq_none (by simp; omega)]
    simp

/-- A block gets its contents: in a place that was kept for it, or as the next one. -/
def Mem.put (m : Mem) (id : Nat) (k : Blk) : Mem := bif Nat.blt id m.length then m.set id k else m ++ [k]

/-- Is it a place for a new block? -/
def Mem.room (m : Mem) (id : Nat) : Bool := Nat.beq id m.length || match m.at id with | .free => Nat.blt id m.length | _ => false

theorem Mem.room_free {m : Mem} {id : Nat} (h : m.room id = true) : m.at id = .free ∧ id ≤ m.length := by
  unfold Mem.room at h
  rw [Bool.or_eq_true] at h
  rcases h with h | h
  · have := Nat.eq_of_beq_eq_true h
    subst this
    exact ⟨by simp [Mem.at, List.getD], Nat.le_refl _⟩
  · split at h
    · rename_i e; exact ⟨e, by simp [Nat.blt_eq] at h; omega⟩
    · cases h

theorem Mem.at_put {m : Mem} {id id' : Nat} {k : Blk} (h : id ≤ m.length) : Mem.at (m.put id k) id' = if id = id' then k else m.at id' := by
  unfold Mem.put
  by_cases h1 : id < m.length
  · have : Nat.blt id m.length = true := by simpa [Nat.blt_eq] using h1
    rw [this, cond_true, Mem.at_set]
    simp [h1]
  · have : Nat.blt id m.length = false := by rw [Bool.eq_false_iff]; simpa [Nat.blt_eq] using h1
    rw [this, cond_false, Mem.at_append]
    have e : id = m.length := by omega
    subst e
    by_cases h2 : m.length = id'
    · subst h2; simp
    · rw [if_neg h2, if_neg (Ne.symm h2)]

def Env.putOwn (E : Env) (id : Nat) (p : Nat × Nat) (n : Nat) : Env := { E with own := fun i => if i = id then some p else E.own i, tot := fun b => if b = p.1 then n else E.tot b }

theorem Env.putOwn_le {E : Env} {id : Nat} {p : Nat × Nat} {n : Nat} (h : E.own id = none) (hp : ∀ i q, E.own i = some q → q.1 ≠ p.1) : E.Le (E.putOwn id p n) :=
  ⟨fun i q k => by
    by_cases e : i = id
    · subst e; rw [h] at k; cases k
    · simp [Env.putOwn, e, k], fun _ _ k => k, fun i q k => by simp [Env.putOwn, hp i q k]⟩

theorem CellsAt.mono {E E' : Env} (h : E.Le E') {w : World} {b o : Nat} {l : List V} (k : CellsAt E w b o l) : CellsAt E' w b o l :=
  ⟨fun i v hv => let ⟨x, h1, h2⟩ := k.1 i v hv; ⟨x, h1, V.rel_mono h _ _ h2⟩, k.2⟩

theorem EntRel.mono {E E' : Env} (h : E.Le E') : ∀ {l : List (V × V)} {es : List MapEntry}, EntRel E l es → EntRel E' l es
  | [], [], _ => trivial
  | [], _ :: _, k => k.elim
  | _ :: _, [], k => k.elim
  | _ :: _, _ :: _, ⟨h1, h2, h3⟩ => ⟨V.rel_mono h _ _ h1, V.rel_mono h _ _ h2, EntRel.mono h h3⟩

theorem MapAt.mono {E E' : Env} (h : E.Le E') {w : World} {b : Nat} {l : List (V × V)} (k : MapAt E w b l) : MapAt E' w b l :=
  let ⟨es, c, h1, h2⟩ := k; ⟨es, c, h1, h2.mono h⟩

/-- The world has turned in blocks that are none of the named ones, and in none that nobody writes. -/
theorem MemRel.stay {E : Env} {B : Nat} {m : Mem} {w w' : World} (h : MemRel E B m w) (hs : w.heap.size ≤ w'.heap.size)
    (hb : ∀ b, b < w.heap.size → w'.heap[b]? = w.heap[b]?) : MemRel E B m w' where
  size := Nat.le_trans h.size hs
  cells id l e := by
    obtain ⟨b, o, h1, h2⟩ := h.cells id l e
    have hlt := (h.place id b o (by rw [e]; rfl) h1).2.1
    refine ⟨b, o, h1, fun i v hv => ?_, fun i hi => ?_⟩
    · obtain ⟨x, h3, h4⟩ := h2.1 i v hv
      exact ⟨x, by rw [World.cell?_of_block (w := w) (hb b hlt)]; exact h3, h4⟩
    · rw [World.frozen?_of_block (w := w) (hb b hlt)]; exact h2.2 i hi
  maps id es e := by
    obtain ⟨b, h1, es', c, h2, h3⟩ := h.maps id es e
    have hlt := (h.place id b 0 (by rw [e]; rfl) h1).2.1
    exact ⟨b, h1, es', c, by rw [hb b hlt]; exact h2, h3⟩
  place id b o hl e := let ⟨h1, h2, h3⟩ := h.place id b o hl e; ⟨h1, Nat.lt_of_lt_of_le h2 hs, h3⟩
  lt id p e := Nat.lt_of_lt_of_le (h.lt id p e) hs
  apart := h.apart
  free := h.free
  imm b cs e := by
    obtain ⟨h1, h2⟩ := h.imm b cs e
    exact ⟨Nat.lt_of_lt_of_le h1 hs, fun i x k => by rw [World.cell?_of_block (w := w) (hb b h1)]; exact h2 i x k⟩
  tot id l b o e e' := by
    obtain ⟨h1, h2⟩ := h.tot id l b o e e'
    have hlt := h.lt id _ e'
    exact ⟨h1, fun i hi => by rw [World.cell?_of_block (w := w) (hb b hlt), World.frozen?_of_block (w := w) (hb b hlt)]; exact h2 i hi⟩
  row id l b o e e' := by
    rw [hb b (h.lt id _ e')]; exact h.row id l b o e e'

/-- A new row of cells. -/
theorem MemRel.newCells {E : Env} {B : Nat} {m : Mem} {w : World} (h : MemRel E B m w) {id : Nat} (hr : m.room id = true) {l : List V} {xs : List Value} (hl : V.relL E l xs) (t : TypeId) :
    MemRel (E.putOwn id (w.heap.size, 0) xs.length) B (m.put id (.cells l)) (w.alloc (.cells ⟨xs⟩ t)) ∧ Good B E w (E.putOwn id (w.heap.size, 0) xs.length) (w.alloc (.cells ⟨xs⟩ t)) := by
  obtain ⟨hf, hle⟩ := Mem.room_free hr
  have hn := h.free id hf
  have hE : E.Le (E.putOwn id (w.heap.size, 0) xs.length) := Env.putOwn_le hn fun i q k => by have := h.lt i q k; simp only; omega
  have hold : ∀ b, b < w.heap.size → (w.alloc (.cells ⟨xs⟩ t)).heap[b]? = w.heap[b]? := fun b hb => Go.RowKit.Below.heap_alloc w _ b hb
  have hs : w.heap.size ≤ (w.alloc (.cells ⟨xs⟩ t)).heap.size := by simp
  have h' := h.stay hs hold
  have hown : (E.putOwn id (w.heap.size, 0) xs.length).own id = some (w.heap.size, 0) := by simp [Env.putOwn]
  have hoth : ∀ i, i ≠ id → (E.putOwn id (w.heap.size, 0) xs.length).own i = E.own i := fun i hi => by simp [Env.putOwn, hi]
  refine ⟨⟨h'.size, ?_, ?_, ?_, ?lt, ?_, ?_, ?_, ?tot, ?row⟩, hE, (Below.refl B w).alloc h.size _, fun b cs k => .inl k⟩
  case lt =>
    intro i p e
    by_cases hi : i = id
    · subst hi; rw [hown] at e; cases e; simp
    · rw [hoth i hi] at e; exact h'.lt i p e
  case row =>
    intro i l' b o e e'
    rw [Mem.at_put hle] at e
    by_cases hi : id = i
    · subst hi
      rw [if_pos rfl] at e
      rw [hown] at e'; cases e'
      exact ⟨⟨xs⟩, t, (0, 0), by show (w.heap.push _)[w.heap.size]? = _; simp⟩
    · rw [if_neg hi] at e; rw [hoth i (Ne.symm hi)] at e'
      exact h'.row i l' b o e e'
  case tot =>
    intro i l' b o e e'
    rw [Mem.at_put hle] at e
    by_cases hi : id = i
    · subst hi
      rw [if_pos rfl] at e
      rw [hown] at e'; cases e'
      cases e
      have ht : (Env.putOwn E id (w.heap.size, 0) xs.length).tot w.heap.size = xs.length := by simp [Env.putOwn]
      rw [ht, Nat.zero_add, relL_length hl]
      exact ⟨Nat.le_refl _, fun i hi => ⟨by simp [hi], by simp⟩⟩
    · rw [if_neg hi] at e; rw [hoth i (Ne.symm hi)] at e'
      obtain ⟨h1, h2⟩ := h'.tot i l' b o e e'
      have hlt := h.lt i _ e'
      simp only at hlt
      have ht : (Env.putOwn E id (w.heap.size, 0) xs.length).tot b = E.tot b := by simp [Env.putOwn, Nat.ne_of_lt hlt]
      rw [ht]; exact ⟨h1, h2⟩
  · intro i l' e
    rw [Mem.at_put hle] at e
    by_cases hi : id = i
    · subst hi
      rw [if_pos rfl] at e; cases e
      refine ⟨_, _, hown, fun j v hv => ?_, fun j _ => by simp⟩
      obtain ⟨x, h1, h2⟩ := relL_get hl j v hv
      exact ⟨x, by simpa using h1, V.rel_mono hE _ _ h2⟩
    · rw [if_neg hi] at e
      obtain ⟨b, o, h1, h2⟩ := h'.cells i l' e
      exact ⟨b, o, by rw [hoth i (Ne.symm hi)]; exact h1, h2.mono hE⟩
  · intro i l' e
    rw [Mem.at_put hle] at e
    by_cases hi : id = i
    · subst hi; rw [if_pos rfl] at e; cases e
    · rw [if_neg hi] at e
      obtain ⟨b, h1, h2⟩ := h'.maps i l' e
      exact ⟨b, by rw [hoth i (Ne.symm hi)]; exact h1, h2.mono hE⟩
  · intro i b o hlv e
    rw [Mem.at_put hle] at hlv
    by_cases hi : id = i
    · subst hi
      rw [hown] at e; cases e
      refine ⟨h.size, by simp, ?_⟩
      cases hq : E.imm w.heap.size with
      | none => exact hq
      | some cs => exact absurd (h.imm _ _ hq).1 (by omega)
    · rw [if_neg hi] at hlv
      rw [hoth i (Ne.symm hi)] at e
      exact h'.place i b o hlv e
  · intro i i' b o o' h1 h2 e1 e2
    rw [Mem.at_put hle] at h1 h2
    by_cases hi : id = i
    · subst hi
      rw [hown] at e1; cases e1
      by_cases hi' : id = i'
      · exact hi'
      · rw [if_neg hi'] at h2; rw [hoth i' (Ne.symm hi')] at e2
        have := (h.place i' _ _ h2 e2).2.1
        omega
    · rw [if_neg hi] at h1; rw [hoth i (Ne.symm hi)] at e1
      by_cases hi' : id = i'
      · subst hi'
        rw [hown] at e2; cases e2
        have := (h.place i _ _ h1 e1).2.1
        omega
      · rw [if_neg hi'] at h2; rw [hoth i' (Ne.symm hi')] at e2
        exact h.apart i i' b o o' h1 h2 e1 e2
  · intro i e
    rw [Mem.at_put hle] at e
    by_cases hi : id = i
    · subst hi; rw [if_pos rfl] at e; cases e
    · rw [if_neg hi] at e; rw [hoth i (Ne.symm hi)]; exact h.free i e
  · exact h'.imm

/-- A new map. -/
theorem MemRel.newMap {E : Env} {B : Nat} {m : Mem} {w : World} (h : MemRel E B m w) {id : Nat} (hr : m.room id = true) :
    MemRel (E.putOwn id (w.heap.size, 0) 0) B (m.put id (.map [])) (w.alloc (.map #[] 0)) ∧ Good B E w (E.putOwn id (w.heap.size, 0) 0) (w.alloc (.map #[] 0)) := by
  obtain ⟨hf, hle⟩ := Mem.room_free hr
  have hn := h.free id hf
  have hE : E.Le (E.putOwn id (w.heap.size, 0) 0) := Env.putOwn_le hn fun i q k => by have := h.lt i q k; simp only; omega
  have hold : ∀ b, b < w.heap.size → (w.alloc (.map #[] 0)).heap[b]? = w.heap[b]? := fun b hb => Go.RowKit.Below.heap_alloc w _ b hb
  have hs : w.heap.size ≤ (w.alloc (.map #[] 0)).heap.size := by simp
  have h' := h.stay hs hold
  have hown : (E.putOwn id (w.heap.size, 0) 0).own id = some (w.heap.size, 0) := by simp [Env.putOwn]
  have hoth : ∀ i, i ≠ id → (E.putOwn id (w.heap.size, 0) 0).own i = E.own i := fun i hi => by simp [Env.putOwn, hi]
  refine ⟨⟨h'.size, ?_, ?_, ?_, ?lt, ?_, ?_, ?_, ?tot, ?row⟩, hE, (Below.refl B w).alloc h.size _, fun b cs k => .inl k⟩
  case lt =>
    intro i p e
    by_cases hi : i = id
    · subst hi; rw [hown] at e; cases e; simp
    · rw [hoth i hi] at e; exact h'.lt i p e
  case row =>
    intro i l' b o e e'
    rw [Mem.at_put hle] at e
    by_cases hi : id = i
    · subst hi
      rw [if_pos rfl] at e
      rw [hown] at e'; cases e'
      cases e
    · rw [if_neg hi] at e; rw [hoth i (Ne.symm hi)] at e'
      exact h'.row i l' b o e e'
  case tot =>
    intro i l' b o e e'
    rw [Mem.at_put hle] at e
    by_cases hi : id = i
    · subst hi
      rw [if_pos rfl] at e
      rw [hown] at e'; cases e'
      cases e
    · rw [if_neg hi] at e; rw [hoth i (Ne.symm hi)] at e'
      obtain ⟨h1, h2⟩ := h'.tot i l' b o e e'
      have hlt := h.lt i _ e'
      simp only at hlt
      have ht : (Env.putOwn E id (w.heap.size, 0) 0).tot b = E.tot b := by simp [Env.putOwn, Nat.ne_of_lt hlt]
      rw [ht]; exact ⟨h1, h2⟩
  · intro i l' e
    rw [Mem.at_put hle] at e
    by_cases hi : id = i
    · subst hi; rw [if_pos rfl] at e; cases e
    · rw [if_neg hi] at e
      obtain ⟨b, o, h1, h2⟩ := h'.cells i l' e
      exact ⟨b, o, by rw [hoth i (Ne.symm hi)]; exact h1, h2.mono hE⟩
  · intro i l' e
    rw [Mem.at_put hle] at e
    by_cases hi : id = i
    · subst hi; rw [if_pos rfl] at e; cases e
      exact ⟨_, hown, #[], 0, by show (w.heap.push _)[w.heap.size]? = _; simp, trivial⟩
    · rw [if_neg hi] at e
      obtain ⟨b, h1, h2⟩ := h'.maps i l' e
      exact ⟨b, by rw [hoth i (Ne.symm hi)]; exact h1, h2.mono hE⟩
  · intro i b o hlv e
    rw [Mem.at_put hle] at hlv
    by_cases hi : id = i
    · subst hi
      rw [hown] at e; cases e
      refine ⟨h.size, by simp, ?_⟩
      cases hq : E.imm w.heap.size with
      | none => exact hq
      | some cs => exact absurd (h.imm _ _ hq).1 (by omega)
    · rw [if_neg hi] at hlv
      rw [hoth i (Ne.symm hi)] at e
      exact h'.place i b o hlv e
  · intro i i' b o o' h1 h2 e1 e2
    rw [Mem.at_put hle] at h1 h2
    by_cases hi : id = i
    · subst hi
      rw [hown] at e1; cases e1
      by_cases hi' : id = i'
      · exact hi'
      · rw [if_neg hi'] at h2; rw [hoth i' (Ne.symm hi')] at e2
        have := (h.place i' _ _ h2 e2).2.1
        omega
    · rw [if_neg hi] at h1; rw [hoth i (Ne.symm hi)] at e1
      by_cases hi' : id = i'
      · subst hi'
        rw [hown] at e2; cases e2
        have := (h.place i _ _ h1 e1).2.1
        omega
      · rw [if_neg hi'] at h2; rw [hoth i' (Ne.symm hi')] at e2
        exact h.apart i i' b o o' h1 h2 e1 e2
  · intro i e
    rw [Mem.at_put hle] at e
    by_cases hi : id = i
    · subst hi; rw [if_pos rfl] at e; cases e
    · rw [if_neg hi] at e; rw [hoth i (Ne.symm hi)]; exact h.free i e
  · exact h'.imm

/-- A part of a row with other cells. -/
def splice (l : List V) (off : Nat) (vs : List V) : List V := l.take off ++ (vs ++ l.drop (off + vs.length))

theorem size_setCells (b : Nat) : ∀ (vs : List Value) (o : Nat) (w : World), (w.setCells b o vs).heap.size = w.heap.size
  | [], _, _ => rfl
  | v :: r, o, w => by rw [World.setCells, size_setCells b r, World.size_setCell]

theorem below_setCells {B b : Nat} (hb : B ≤ b) : ∀ (vs : List Value) (o : Nat) (w : World), Below B w (w.setCells b o vs)
  | [], _, w => .refl B w
  | v :: r, o, w => by
    rw [World.setCells]
    exact ((Below.refl B w).setCell (p := ⟨b, o, none⟩) hb v).trans (below_setCells hb r (o + 1) _)

theorem row_setCells {b : Nat} : ∀ (vs : List Value) (o : Nat) (w : World), (∃ c t fz, w.heap[b]? = some (.cells c t fz)) → ∃ c t fz, (w.setCells b o vs).heap[b]? = some (.cells c t fz)
  | [], _, _, h => h
  | v :: r, o, w, h => by
    rw [World.setCells]
    refine row_setCells r (o + 1) _ ?_
    obtain ⟨c, t, fz, h⟩ := h
    exact ⟨_, t, fz, by simp only [World.setCell, Array.getElem?_modify, if_true, h, Option.map_some]; rfl⟩

theorem block_setCells {b c : Nat} (hc : c ≠ b) : ∀ (vs : List Value) (o : Nat) (w : World), (w.setCells b o vs).heap[c]? = w.heap[c]?
  | [], _, _ => rfl
  | v :: r, o, w => by rw [World.setCells, block_setCells hc r, Go.RowKit.Below.heap_setCell _ _ _ _ hc]

/-- A store of some cells into a row of the call's own. -/
theorem MemRel.store {E : Env} {B : Nat} {m : Mem} {w : World} (h : MemRel E B m w) {id off : Nat} {l vs : List V} {xs : List Value} (hm : m.at id = .cells l) (hoff : off + vs.length ≤ l.length) (hv : V.relL E vs xs) {b o : Nat} (ho : E.own id = some (b, o)) :
    MemRel E B (m.set id (.cells (splice l off vs))) (w.setCells b (o + off) xs) ∧ Good B E w E (w.setCells b (o + off) xs) := by
  have hid : id < m.length := Mem.at_lt (by rw [hm]; simp)
  obtain ⟨b', o', ho', hc⟩ := h.cells id l hm
  rw [ho] at ho'; cases ho'
  have hlive : (m.at id).live = true := by rw [hm]; rfl
  obtain ⟨hB, hlt, himm⟩ := h.place id b o hlive ho
  have hlen := relL_length hv
  have hsome : ∀ j, j < xs.length → (w.cell? ⟨b, o + off + j, none⟩).isSome = true := by
    intro j hj
    obtain ⟨x, h1, _⟩ := hc.1 (off + j) (l[off + j]'(by omega)) (by simp)
    rw [show o + off + j = o + (off + j) by omega, h1]; rfl
  have hother : ∀ i, i ≠ id → ∀ c p, (m.at i).live = true → E.own i = some (c, p) → c ≠ b := by
    intro i hi c p hl e hcb
    subst hcb
    exact hi (h.apart i id c p o hl hlive e ho)
  have hat : ∀ i, i ≠ id → Mem.at (m.set id (.cells (splice l off vs))) i = m.at i := fun i hi => by rw [Mem.at_set, if_neg (by simp [Ne.symm hi])]
  have hat0 : Mem.at (m.set id (.cells (splice l off vs))) id = .cells (splice l off vs) := by rw [Mem.at_set, if_pos ⟨rfl, hid⟩]
  have hsp : (splice l off vs).length = l.length := by
    unfold splice; simp only [List.length_append, List.length_take, List.length_drop]; omega
  refine ⟨⟨?_, ?_, ?_, ?_, ?lt, ?_, ?_, ?_, ?tot, ?row⟩, .refl E, below_setCells hB _ _ _, fun _ _ k => .inl k⟩
  case lt => intro i p e; rw [size_setCells]; exact h.lt i p e
  case row =>
    intro i l' c p e e'
    have h0 : ∃ d t fz, w.heap[c]? = some (.cells d t fz) := by
      by_cases hi : i = id
      · subst hi; exact h.row i l c p hm e'
      · rw [hat i hi] at e; exact h.row i l' c p e e'
    by_cases hcb : c = b
    · subst hcb; exact row_setCells _ _ _ h0
    · rw [block_setCells hcb]; exact h0
  case tot =>
    intro i l' c p e e'
    have key : ∀ j, (w.cell? ⟨c, j, none⟩).isSome = true → ((w.setCells b (o + off) xs).cell? ⟨c, j, none⟩).isSome = true := by
      intro j hj
      by_cases hcb : c = b
      · subst hcb
        by_cases hin : o + off ≤ j ∧ j < o + off + xs.length
        · obtain ⟨q, rfl⟩ : ∃ q, j = o + off + q := ⟨j - (o + off), by omega⟩
          rw [World.cell?_setCells_in c xs (o + off) w hsome q (by omega)]; rfl
        · rw [World.cell?_setCells_out _ _ _ _ _ (fun _ _ => by simp only; omega)]; exact hj
      · rw [World.cell?_of_block (w := w) (block_setCells hcb _ _ _)]; exact hj
    by_cases hi : i = id
    · subst hi
      rw [hat0] at e; cases e
      obtain ⟨h1, h2⟩ := h.tot i l c p hm e'
      exact ⟨by rw [hsp]; exact h1, fun j hj => ⟨key j (h2 j hj).1, by rw [World.frozen?_setCells]; exact (h2 j hj).2⟩⟩
    · rw [hat i hi] at e
      obtain ⟨h1, h2⟩ := h.tot i l' c p e e'
      exact ⟨h1, fun j hj => ⟨key j (h2 j hj).1, by rw [World.frozen?_setCells]; exact (h2 j hj).2⟩⟩
  · rw [size_setCells]; exact h.size
  · intro i l' e
    by_cases hi : i = id
    · subst hi
      rw [hat0] at e; cases e
      refine ⟨b, o, ho, fun j v hj => ?_, fun j hj => ?_⟩
      · unfold splice at hj
        rw [List.getElem?_append] at hj
        by_cases h1 : j < (l.take off).length
        · rw [if_pos h1] at hj
          rw [List.length_take] at h1
          rw [List.getElem?_take, if_pos (by omega)] at hj
          obtain ⟨x, h2, h3⟩ := hc.1 j v hj
          exact ⟨x, by rw [World.cell?_setCells_out _ _ _ _ _ (fun _ _ => .inl (by show o + j < o + off; omega))]; exact h2, h3⟩
        · rw [if_neg h1] at hj
          rw [List.length_take] at h1 hj
          rw [List.getElem?_append] at hj
          by_cases h2 : j - min off l.length < vs.length
          · rw [if_pos h2] at hj
            obtain ⟨x, h3, h4⟩ := relL_get hv _ v hj
            have h5 : j - min off l.length < xs.length := by omega
            refine ⟨x, ?_, h4⟩
            have h6 := World.cell?_setCells_in b xs (o + off) w hsome (j - min off l.length) h5
            rw [show o + off + (j - min off l.length) = o + j by omega] at h6
            rw [h6]
            rw [List.getElem?_eq_getElem h5] at h3
            exact h3
          · rw [if_neg h2, List.getElem?_drop] at hj
            obtain ⟨x, h3, h4⟩ := hc.1 _ v hj
            refine ⟨x, ?_, h4⟩
            rw [World.cell?_setCells_out _ _ _ _ _ (fun _ _ => .inr (by show o + off + xs.length ≤ o + j; omega))]
            rw [show o + (off + vs.length + (j - min off l.length - vs.length)) = o + j by omega] at h3
            exact h3
      · rw [World.frozen?_setCells]
        refine hc.2 j ?_
        unfold splice at hj
        simp only [List.length_append, List.length_take, List.length_drop] at hj
        omega
    · rw [hat i hi] at e
      obtain ⟨c, p, h1, h2⟩ := h.cells i l' e
      have hne := hother i hi c p (by rw [e]; rfl) h1
      refine ⟨c, p, h1, fun j v hj => ?_, fun j hj => ?_⟩
      · obtain ⟨x, h3, h4⟩ := h2.1 j v hj
        exact ⟨x, by rw [World.cell?_of_block (w := w) (block_setCells hne _ _ _)]; exact h3, h4⟩
      · rw [World.frozen?_setCells]; exact h2.2 j hj
  · intro i es e
    by_cases hi : i = id
    · subst hi; rw [hat0] at e; cases e
    · rw [hat i hi] at e
      obtain ⟨c, h1, es', k, h2, h3⟩ := h.maps i es e
      have hne := hother i hi c 0 (by rw [e]; rfl) h1
      exact ⟨c, h1, es', k, by rw [block_setCells hne]; exact h2, h3⟩
  · intro i c p hl e
    rw [size_setCells]
    by_cases hi : i = id
    · subst hi; exact h.place i c p hlive e
    · rw [hat i hi] at hl; exact h.place i c p hl e
  · intro i i' c p p' h1 h2 e1 e2
    refine h.apart i i' c p p' ?_ ?_ e1 e2
    · by_cases hi : i = id
      · subst hi; exact hlive
      · rwa [hat i hi] at h1
    · by_cases hi : i' = id
      · subst hi; exact hlive
      · rwa [hat i' hi] at h2
  · intro i e
    by_cases hi : i = id
    · subst hi; rw [hat0] at e; cases e
    · rw [hat i hi] at e; exact h.free i e
  · intro c cs e
    obtain ⟨h1, h2⟩ := h.imm c cs e
    have hne : c ≠ b := by intro hcb; subst hcb; rw [himm] at e; cases e
    refine ⟨by rw [size_setCells]; exact h1, fun j x hj => ?_⟩
    rw [World.cell?_of_block (w := w) (block_setCells hne _ _ _)]
    exact h2 j x hj

end Go.Rx
