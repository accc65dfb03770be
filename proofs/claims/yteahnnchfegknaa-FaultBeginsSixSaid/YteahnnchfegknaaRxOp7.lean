/- append and make. -/
import Derived.Test.YteahnnchfegknaaRxOp6
import Derived.Deep.Upon
import Derived.Laws.MakeOwn
import Derived.MapKept
set_option linter.unusedVariables false
set_option linter.unusedSimpArgs false
namespace Go.Rx
open Go.RowKit (Below)
open Go.MapKept

/-- A block is no longer to be touched. -/
theorem MemRel.kill {E : Env} {B : Nat} {m : Mem} {w : World} (h : MemRel E B m w) {id : Nat} (hid : m.at id ≠ .free) : MemRel E B (m.set id .dead) w := by
  have hlt := Mem.at_lt hid
  have hat : ∀ i, Mem.at (m.set id .dead) i = if id = i then .dead else m.at i := fun i => by
    rw [Mem.at_set]; by_cases e : id = i <;> simp [e]
    intro hh; omega
  refine ⟨h.size, ?_, ?_, ?_, h.lt, ?_, ?_, h.imm, ?_, ?_⟩
  · intro i l e; rw [hat] at e; split at e
    · cases e
    · exact h.cells i l e
  · intro i l e; rw [hat] at e; split at e
    · cases e
    · exact h.maps i l e
  · intro i b o hl e; rw [hat] at hl; split at hl
    · cases hl
    · exact h.place i b o hl e
  · intro i j b o o' h1 h2; rw [hat] at h1 h2; split at h1
    · cases h1
    · split at h2
      · cases h2
      · exact h.apart i j b o o' h1 h2
  · intro i e; rw [hat] at e; split at e
    · cases e
    · exact h.free i e
  · intro i l b o e; rw [hat] at e; split at e
    · cases e
    · exact h.tot i l b o e
  · intro i l b o e; rw [hat] at e; split at e
    · cases e
    · exact h.row i l b o e

/-- A store into a row in which no named block lives. -/
theorem MemRel.behindCells {E : Env} {B : Nat} {m : Mem} {w : World} (h : MemRel E B m w) {b : Nat} (hne : ∀ i c p, (m.at i).live = true → E.own i = some (c, p) → c ≠ b) (himm : E.imm b = none) (o : Nat) (xs : List Value) :
    MemRel E B m (w.setCells b o xs) := by
  refine ⟨by rw [size_setCells]; exact h.size, ?_, ?_, ?_, ?_, h.apart, h.free, ?_, ?_, ?_⟩
  · intro i l e
    obtain ⟨c, p, h1, h2⟩ := h.cells i l e
    have hn := hne i c p (by rw [e]; rfl) h1
    refine ⟨c, p, h1, fun j v hj => ?_, fun j hj => ?_⟩
    · obtain ⟨x, h3, h4⟩ := h2.1 j v hj
      exact ⟨x, by rw [World.cell?_of_block (w := w) (block_setCells hn _ _ _)]; exact h3, h4⟩
    · rw [World.frozen?_setCells]; exact h2.2 j hj
  · intro i es e
    obtain ⟨c, h1, es', k, h2, h3⟩ := h.maps i es e
    exact ⟨c, h1, es', k, by rw [block_setCells (hne i c 0 (by rw [e]; rfl) h1)]; exact h2, h3⟩
  · intro i c p hl e; rw [size_setCells]; exact h.place i c p hl e
  · intro i p e; rw [size_setCells]; exact h.lt i p e
  · intro c cs e
    obtain ⟨h1, h2⟩ := h.imm c cs e
    have hn : c ≠ b := by intro hcb; subst hcb; rw [himm] at e; cases e
    refine ⟨by rw [size_setCells]; exact h1, fun j x hj => ?_⟩
    rw [World.cell?_of_block (w := w) (block_setCells hn _ _ _)]
    exact h2 j x hj
  · intro i l c p e e'
    obtain ⟨h1, h2⟩ := h.tot i l c p e e'
    have hn := hne i c p (by rw [e]; rfl) e'
    exact ⟨h1, fun j hj => ⟨by rw [World.cell?_of_block (w := w) (block_setCells hn _ _ _)]; exact (h2 j hj).1, by rw [World.frozen?_setCells]; exact (h2 j hj).2⟩⟩
  · intro i l c p e e'
    rw [block_setCells (hne i c p (by rw [e]; rfl) e')]
    exact h.row i l c p e e'

/-- A row in which no named block lives gets a name. -/
theorem MemRel.named {E : Env} {B : Nat} {m : Mem} {w : World} (h : MemRel E B m w) {id : Nat} (hr : m.room id = true) {b o : Nat} {l : List V}
    (hne : ∀ i c p, (m.at i).live = true → E.own i = some (c, p) → c ≠ b) (himm : E.imm b = none) (hB : B ≤ b) (hlt : b < w.heap.size)
    (hc : CellsAt E w b o l) (htot : o + l.length ≤ E.tot b ∧ ∀ i, i < E.tot b → (w.cell? ⟨b, i, none⟩).isSome = true ∧ w.frozen? ⟨b, i, none⟩ = false)
    (hrow : ∃ c t fz, w.heap[b]? = some (.cells c t fz)) :
    MemRel (E.putOwn id (b, o) (E.tot b)) B (m.put id (.cells l)) w ∧ E.Le (E.putOwn id (b, o) (E.tot b)) := by
  obtain ⟨hf, hle⟩ := Mem.room_free hr
  have hn := h.free id hf
  have htt : ∀ c, (E.putOwn id (b, o) (E.tot b)).tot c = E.tot c := fun c => by simp only [Env.putOwn]; split <;> simp_all
  have hown : (E.putOwn id (b, o) (E.tot b)).own id = some (b, o) := by simp [Env.putOwn]
  have hoth : ∀ i, i ≠ id → (E.putOwn id (b, o) (E.tot b)).own i = E.own i := fun i hi => by simp [Env.putOwn, hi]
  have hE : E.Le (E.putOwn id (b, o) (E.tot b)) := ⟨fun i q k => by
    by_cases e : i = id
    · subst e; rw [hn] at k; cases k
    · rw [hoth i e]; exact k, fun _ _ k => k, fun i q k => htt _⟩
  have hat : ∀ i, Mem.at (m.put id (.cells l)) i = if id = i then .cells l else m.at i := fun i => Mem.at_put hle
  refine ⟨⟨h.size, ?_, ?_, ?_, ?_, ?_, ?_, h.imm, ?_, ?_⟩, hE⟩
  · intro i l' e; rw [hat] at e
    by_cases hi : id = i
    · subst hi; rw [if_pos rfl] at e; cases e
      exact ⟨b, o, hown, hc.mono hE⟩
    · rw [if_neg hi] at e
      obtain ⟨c, p, h1, h2⟩ := h.cells i l' e
      exact ⟨c, p, by rw [hoth i (Ne.symm hi)]; exact h1, h2.mono hE⟩
  · intro i es e; rw [hat] at e
    by_cases hi : id = i
    · rw [if_pos hi] at e; cases e
    · rw [if_neg hi] at e
      obtain ⟨c, h1, h2⟩ := h.maps i es e
      exact ⟨c, by rw [hoth i (Ne.symm hi)]; exact h1, h2.mono hE⟩
  · intro i c p hl e; rw [hat] at hl
    by_cases hi : id = i
    · subst hi; rw [hown] at e; cases e; exact ⟨hB, hlt, himm⟩
    · rw [if_neg hi] at hl; rw [hoth i (Ne.symm hi)] at e; exact h.place i c p hl e
  · intro i p e
    by_cases hi : id = i
    · subst hi; rw [hown] at e; cases e; exact hlt
    · rw [hoth i (Ne.symm hi)] at e; exact h.lt i p e
  · intro i j c p p' h1 h2 e1 e2
    rw [hat] at h1 h2
    by_cases hi : id = i
    · subst hi
      rw [hown] at e1; cases e1
      by_cases hj : id = j
      · exact hj
      · rw [if_neg hj] at h2; rw [hoth j (Ne.symm hj)] at e2
        exact absurd rfl (hne j _ _ h2 e2)
    · rw [if_neg hi] at h1; rw [hoth i (Ne.symm hi)] at e1
      by_cases hj : id = j
      · subst hj
        rw [hown] at e2; cases e2
        exact absurd rfl (hne i _ _ h1 e1)
      · rw [if_neg hj] at h2; rw [hoth j (Ne.symm hj)] at e2
        exact h.apart i j c p p' h1 h2 e1 e2
  · intro i e; rw [hat] at e
    by_cases hi : id = i
    · rw [if_pos hi] at e; cases e
    · rw [if_neg hi] at e; rw [hoth i (Ne.symm hi)]; exact h.free i e
  · intro i l' c p e e'; rw [hat] at e; rw [htt]
    by_cases hi : id = i
    · subst hi; rw [if_pos rfl] at e; cases e; rw [hown] at e'; cases e'; exact htot
    · rw [if_neg hi] at e; rw [hoth i (Ne.symm hi)] at e'; exact h.tot i l' c p e e'
  · intro i l' c p e e'; rw [hat] at e
    by_cases hi : id = i
    · subst hi; rw [hown] at e'; cases e'; exact hrow
    · rw [if_neg hi] at e; rw [hoth i (Ne.symm hi)] at e'; exact h.row i l' c p e e'

/-- A new row, of which the name holds the first cells alone. -/
theorem MemRel.newFirst {E : Env} {B : Nat} {m : Mem} {w : World} (h : MemRel E B m w) {id : Nat} (hr : m.room id = true) {l : List V} {xs ys : List Value} (hl : V.relL E l xs) (t : TypeId) :
    MemRel (E.putOwn id (w.heap.size, 0) (xs ++ ys).length) B (m.put id (.cells l)) (w.alloc (.cells ⟨xs ++ ys⟩ t)) ∧ Good B E w (E.putOwn id (w.heap.size, 0) (xs ++ ys).length) (w.alloc (.cells ⟨xs ++ ys⟩ t)) := by
  obtain ⟨hf, hle⟩ := Mem.room_free hr
  have hold : ∀ b, b < w.heap.size → (w.alloc (.cells ⟨xs ++ ys⟩ t)).heap[b]? = w.heap[b]? := fun b hb => Go.RowKit.Below.heap_alloc w _ b hb
  have hs : w.heap.size ≤ (w.alloc (.cells ⟨xs ++ ys⟩ t)).heap.size := by simp
  have h' := h.stay hs hold
  -- the number of cells of the new row is written down first
  have hE1 : E.Le { E with tot := fun b => if b = w.heap.size then (xs ++ ys).length else E.tot b } :=
    ⟨fun _ _ k => k, fun _ _ k => k, fun i q k => by have := h.lt i q k; simp only; rw [if_neg (by omega)]⟩
  have h1 : MemRel { E with tot := fun b => if b = w.heap.size then (xs ++ ys).length else E.tot b } B m (w.alloc (.cells ⟨xs ++ ys⟩ t)) :=
    ⟨h'.size, fun i l e => by obtain ⟨b, o, k1, k2⟩ := h'.cells i l e; exact ⟨b, o, k1, k2.mono hE1⟩, fun i l e => by obtain ⟨b, k1, k2⟩ := h'.maps i l e; exact ⟨b, k1, k2.mono hE1⟩, h'.place, h'.lt, h'.apart, h'.free, h'.imm,
      fun i l b o e e' => by
        have := h.lt i _ e'
        simp only at this
        simp only [Nat.ne_of_lt this, if_false]
        exact h'.tot i l b o e e', h'.row⟩
  have himm : E.imm w.heap.size = none := by
    cases hq : E.imm w.heap.size with
    | none => rfl
    | some cs => exact absurd (h.imm _ _ hq).1 (by omega)
  have h2 := h1.named hr (b := w.heap.size) (o := 0) (l := l) (fun i c p hl e => by have := (h.place i c p hl e).2.1; omega) himm h.size (by simp)
    ⟨fun i v hv => by
      obtain ⟨x, k1, k2⟩ := relL_get hl i v hv
      have hi : i < xs.length := by
        rcases Nat.lt_or_ge i xs.length with k | k
        · exact k
        · rw [List.getElem?_eq_none k] at k1; cases k1
      exact ⟨x, by simp [List.getElem?_append_left hi, k1], V.rel_mono hE1 _ _ k2⟩, fun i hi => by simp⟩
    ⟨by simp only [if_true, Nat.zero_add, List.length_append, relL_length hl]; omega, fun i hi => by
      simp only [if_true] at hi
      exact ⟨by simp only [Nat.zero_add, World.cell?_alloc_new]; simp at hi ⊢; omega, by simp⟩⟩
    ⟨⟨xs ++ ys⟩, t, (0, 0), by show (w.heap.push _)[w.heap.size]? = _; simp⟩
  have hEq : ({ E with tot := fun b => if b = w.heap.size then (xs ++ ys).length else E.tot b } : Env).putOwn id (w.heap.size, 0) (xs ++ ys).length = E.putOwn id (w.heap.size, 0) (xs ++ ys).length := by
    simp only [Env.putOwn]
    congr 1
    funext b; split <;> rfl
  simp only [if_true] at h2
  rw [hEq] at h2
  exact ⟨h2.1, hE1.trans h2.2, (Below.refl B w).alloc h.size _, fun b cs k => .inl k⟩

section
variable {R : Type}

/-- What is appended: so many elements, the cells. -/
def srcK (P : Program) (t : TypeId) (size : Nat) (x : V) (m : Mem) (K : Nat → List V → Option R) : Option R :=
  match P.underlying t with
  | some .string => match x with
    | .str s => gd (Nat.beq size 1) (K s.length (byteCells s s.length))
    | _ => none
  | some (.slice _) => match x with
    | .sl id _ off len _ => match m.at id with
      | .cells l => gd (Nat.ble (off + len * size) l.length && ((l.drop off).take (len * size)).all V.leaf) (K len ((l.drop off).take (len * size)))
      | _ => none
    | .isl nil sz l => gd ((Nat.beq sz size || nil) && (Nat.blt 0 size && l.all V.leaf)) (K (l.length / size) l)
    | _ => none
  | _ => none

theorem srcK_some {P : Program} {t : TypeId} {size : Nat} {v : V} {m : Mem} {K : Nat → List V → Option R} {r : R} (h : srcK P t size v m K = some r) :
    ∃ n c, K n c = some r ∧ ∀ E B w x, MemRel E B m w → V.rel E v x → ∃ xs, Src P size t x n xs w ∧ V.relL E c xs := by
  unfold srcK at h
  split at h
  · rename_i hu
    split at h
    · rename_i s
      obtain ⟨hs, h⟩ := gd_some h
      have hs := Nat.eq_of_beq_eq_true hs
      subst hs
      refine ⟨_, _, h, fun E B w x hm hx => ?_⟩
      simp only [V.rel] at hx; subst hx
      refine ⟨_, Src.ofString w hu ⟨⟨s⟩⟩, ?_⟩
      have := byteCells_rel (E := E) (s := s) (Nat.le_refl _)
      rw [List.take_length] at this
      exact this
    · cases h
  · rename_i e' hu
    split at h
    · rename_i id sz off len cap
      split at h
      · rename_i l hl
        obtain ⟨h0, h⟩ := gd_some h
        rw [Bool.and_eq_true] at h0
        have h1 := Nat.le_of_ble_eq_true h0.1
        refine ⟨_, _, h, fun E B w x hm hx => ?_⟩
        simp only [V.rel] at hx
        obtain ⟨b, o, c, ho, rfl, _⟩ := hx
        obtain ⟨b', o', ho', hc⟩ := hm.cells id l hl
        rw [ho] at ho'; cases ho'
        have hr : ReadsAs E w b o l := hc.1
        obtain ⟨xs, k1, k2, k3⟩ := ((hr.drop off).take (len * size)).list
        refine ⟨xs, Src.ofSlice w hu _ len c xs ?_ (fun j u hj => by rw [addr_add]; exact k3 j u hj) (leaf_all k2 h0.2), k2⟩
        rw [k1, List.length_take, List.length_drop]; omega
      · cases h
    · rename_i nil sz l
      obtain ⟨h0, h⟩ := gd_some h
      simp only [Bool.and_eq_true] at h0
      have h2 : 0 < size := by simpa [Nat.blt_eq] using h0.2.1
      refine ⟨_, _, h, fun E B w x hm hx => ?_⟩
      have hx := rel_isl_size h0.1 hx
      simp only [V.rel] at hx
      rcases hx with ⟨_, rfl, rfl⟩ | ⟨_, _, b, o, cs, c, len, ho, rfl, hle, hlen, _, hl⟩
      · refine ⟨[], ?_, by simp [V.relL]⟩
        simp only [List.length_nil, Nat.zero_div]
        exact Src.ofNil w hu 0
      · obtain ⟨xs, k1, k2, k3⟩ := (ibox_reads hm ho hl).list
        refine ⟨xs, ?_, k2⟩
        rw [hlen, Nat.mul_div_cancel _ h2]
        exact Src.ofSlice w hu _ len c xs (by rw [k1, hlen]) (fun j u hj => by rw [addr_add]; exact k3 j u hj) (leaf_all k2 h0.2.2)
    · cases h
  · cases h

def appendK (P : Program) (t tx : TypeId) (v x : V) (m : Mem) (id : Nat) (K : V → Mem → Option R) : Option R :=
  match P.underlying t with
  | some (.slice e) => match P.info? e with
    | some i => match i.zero with
      | some z0 => gd ((Nat.blt 0 i.size && Nat.blt 0 i.bytes) && Nat.beq z0.cells.size i.size) (srcK P tx i.size x m fun n c => match v with
        | .isl true _ _ => bif Nat.beq n 0 then K v m else gd (Nat.ble (n * i.bytes) 140737488355328 && m.room id) (K (.sl id i.size 0 n none) (m.put id (.cells c)))
        | .sl old sz off len _ => match m.at old with
          | .cells l => gd (Nat.beq sz i.size && (Nat.ble (off + len * i.size) l.length && (Nat.ble ((len + n) * i.bytes) 140737488355328 && Mem.room (m.set old .dead) id)))
            (K (.sl id i.size 0 (len + n) none) (Mem.put (m.set old .dead) id (.cells ((l.drop off).take (len * i.size) ++ c))))
          | _ => none
        | _ => none)
      | none => none
    | none => none
  | _ => none

theorem appendK_some {P : Program} {t tx ty : TypeId} {v x : V} {m : Mem} {id : Nat} {K : V → Mem → Option R} {r : R} (h : appendK P t tx v x m id K = some r) :
    ∃ u m', K u m' = some r ∧ ∀ y z : Value, Does P m (Builtin.append_ #[t, tx] ty #[y, z]) u m' fun E => V.rel E v y ∧ V.rel E x z := by
  unfold appendK at h
  split at h
  · rename_i e hu
    split at h
    · rename_i i hi
      split at h
      · rename_i zv hz
        obtain ⟨h0, h⟩ := gd_some h
        simp only [Bool.and_eq_true] at h0
        have hsz : 0 < i.size := by simpa [Nat.blt_eq] using h0.1.1
        have hby : 0 < i.bytes := by simpa [Nat.blt_eq] using h0.1.2
        have hzs := Nat.eq_of_beq_eq_true h0.2
        have tot : ∀ (k g : Nat) (xs : List Value), k ≤ g → xs.length = k * i.size → (xs ++ (Builtin.zeroCells zv.cells (g - k)).toList).length = g * i.size := by
          intro k g xs hkg hxs
          have h3 : (Builtin.zeroCells zv.cells (g - k)).toList.length = (g - k) * zv.cells.size := by rw [Array.length_toList]; exact size_zeroCells _ _
          rw [List.length_append, h3, hzs, hxs, ← Nat.add_mul]
          congr 1; omega
        obtain ⟨n, c, h, hsrc⟩ := srcK_some h
        split at h
        · -- nil
          rename_i sz0 l0
          cases hn : Nat.beq n 0 with
          | true =>
            have hn := Nat.eq_of_beq_eq_true hn
            subst hn
            rw [show Nat.beq 0 0 = true from rfl, cond_true] at h
            refine ⟨_, _, h, fun y z E B w hm ⟨hy, hz'⟩ => ?_⟩
            obtain ⟨xs, hs, hx⟩ := hsrc E B w z hm hz'
            have hnil : xs = [] := List.eq_nil_of_length_eq_zero (by simpa using hs.newsLen)
            subst hnil
            have hy0 : y = .slice none 0 0 := by
              simp only [V.rel] at hy
              rcases hy with ⟨_, _, h⟩ | ⟨h, _⟩
              · exact h
              · cases h
            subst hy0
            refine ⟨.slice none 0 0, w, E, ?_, hy, hm, .refl _ _ _⟩
            exact run_append_nothing w t tx ty e i hu hi none 0 0 (Nat.le_refl _) z hs
          | false =>
            rw [hn, cond_false] at h
            have hn0 : n ≠ 0 := fun h => by subst h; cases hn
            obtain ⟨h1, h⟩ := gd_some h
            rw [Bool.and_eq_true] at h1
            have h2 := Nat.le_of_ble_eq_true h1.1
            refine ⟨_, _, h, fun y z E B w hm ⟨hy, hz'⟩ => ?_⟩
            obtain ⟨xs, hs, hx⟩ := hsrc E B w z hm hz'
            have hy0 : y = .slice none 0 0 := by
              simp only [V.rel] at hy
              rcases hy with ⟨_, _, h⟩ | ⟨h, _⟩
              · exact h
              · cases h
            subst hy0
            have hnb : n ≤ n * i.bytes := Nat.le_mul_of_pos_right _ hby
            have hr := run_append_grow_src (P := P) w t tx ty e i zv hu hi hz none 0 0 [] (run_firstCells_none w.drew i.size 0 0 0) z n xs hs (by omega) (by omega) (by
              rw [Nat.zero_add, nextslicecap_zero (by omega)]; omega)
            have hmd : MemRel E B m w.drew := hm.stay (Nat.le_refl _) fun _ _ => rfl
            obtain ⟨k1, k2⟩ := hmd.newFirst h1.2 hx (ys := (Builtin.zeroCells zv.cells (grownCap w (0 + n) 0 e - (0 + n))).toList) e
            have harr : (⟨xs ++ (Builtin.zeroCells zv.cells (grownCap w (0 + n) 0 e - (0 + n))).toList⟩ : Array Value) = ([] ++ xs).toArray ++ Builtin.zeroCells zv.cells (grownCap w (0 + n) 0 e - (0 + n)) := by
              apply Array.ext'; simp
            refine ⟨.slice (some ⟨w.heap.size, 0, none⟩) (0 + n) (grownCap w (0 + n) 0 e), _, _, hr, ?_, by rw [← harr]; exact k1, ⟨k2.le, ?_, k2.fresh⟩⟩
            · simp only [V.rel]
              refine ⟨w.heap.size, 0, grownCap w (0 + n) 0 e, ?_, by simp, ?_, ?_, fun k hk => by cases hk⟩
              · show (Env.putOwn E id (w.heap.size, 0) _).own id = _
                simp [Env.putOwn]
              · have := grownCap_ge w (0 + n) 0 e; omega
              · have htt : (Env.putOwn E id (w.drew.heap.size, 0) (xs ++ (Builtin.zeroCells zv.cells (grownCap w (0 + n) 0 e - (0 + n))).toList).length).tot w.heap.size = (xs ++ (Builtin.zeroCells zv.cells (grownCap w (0 + n) 0 e - (0 + n))).toList).length := by simp [Env.putOwn]
                rw [htt, tot _ _ _ (grownCap_ge w (0 + n) 0 e) (by rw [hs.newsLen, Nat.zero_add])]
                omega
            · rw [← harr]; exact (Below.refl B w).drew.trans k2.below
        · rename_i old sz off len cap _ _
          split at h
          · rename_i l hl
            obtain ⟨h1, h9⟩ := gd_some h
            simp only [Bool.and_eq_true] at h1
            obtain ⟨h2, h3, h4, h5⟩ := h1
            have h2 := Nat.eq_of_beq_eq_true h2
            subst h2
            have h3 := Nat.le_of_ble_eq_true h3
            have h4 := Nat.le_of_ble_eq_true h4
            refine ⟨_, _, h9, fun y z E B w hm ⟨hy, hz'⟩ => ?_⟩
            obtain ⟨xs, hs, hx⟩ := hsrc E B w z hm hz'
            simp only [V.rel] at hy
            obtain ⟨b, o, k, ho, rfl, hle, htot, _⟩ := hy
            obtain ⟨b', o', ho', hc⟩ := hm.cells old l hl
            rw [ho] at ho'; cases ho'
            have hlive : (m.at old).live = true := by rw [hl]; rfl
            obtain ⟨hB, hlt, himm⟩ := hm.place old b o hlive ho
            obtain ⟨ht1, ht2⟩ := hm.tot old l b o hl ho
            have hr : ReadsAs E w b o l := hc.1
            obtain ⟨os, q1, q2, q3⟩ := ((hr.drop off).take (len * i.size)).list
            have q1 : os.length = len * i.size := by rw [q1, List.length_take, List.length_drop]; omega
            have hkill := hm.kill (id := old) (by rw [hl]; simp)
            have hcl := relL_length hx
            by_cases hroom : len + n ≤ k
            · -- there is room
              have hsp : (len + n) * i.size ≤ k * i.size := Nat.mul_le_mul_right _ hroom
              rw [Nat.add_mul] at hsp
              have hxl := hs.newsLen
              have hrun := run_append_room_src (P := P) w t tx ty e i hu hi b (o + off) len k z n xs hs hroom
                (fun j hj => (ht2 _ (by omega)).1) (fun j hj => (ht2 _ (by omega)).2)
              have hne : ∀ j c' p, (Mem.at (m.set old .dead) j).live = true → E.own j = some (c', p) → c' ≠ b := by
                intro j c' p hlj hj hcb
                subst hcb
                rw [Mem.at_set] at hlj
                by_cases hjo : old = j
                · subst hjo
                  rw [if_pos ⟨rfl, Mem.at_lt (by rw [hl]; simp)⟩] at hlj; cases hlj
                · rw [if_neg (by simp [hjo])] at hlj
                  exact hjo (hm.apart old j _ _ _ hlive hlj ho hj)
              have hb2 := hkill.behindCells hne himm (o + off + len * i.size) xs
              have hsome : ∀ j, j < xs.length → (w.cell? ⟨b, o + off + len * i.size + j, none⟩).isSome = true := fun j hj => (ht2 _ (by omega)).1
              have hnm := hb2.named h5 (b := b) (o := o + off) (l := (l.drop off).take (len * i.size) ++ c) hne himm hB (by rw [size_setCells]; exact hlt) ?_ ?_ (row_setCells _ _ _ (hm.row old l b o hl ho))
              · refine ⟨_, _, _, hrun, ?_, hnm.1, hnm.2, below_setCells hB _ _ _, fun _ _ k => .inl k⟩
                simp only [V.rel]
                refine ⟨b, o + off, k, by simp [Env.putOwn], by simp, hroom, ?_, fun k hk => by cases hk⟩
                have : (E.putOwn id (b, o + off) (E.tot b)).tot b = E.tot b := by simp [Env.putOwn]
                rw [this]; omega
              · refine ⟨fun j v hj => ?_, fun j hj => ?_⟩
                · rw [List.getElem?_append] at hj
                  have hol : ((l.drop off).take (len * i.size)).length = len * i.size := by rw [← relL_length q2] at q1; exact q1
                  rw [hol] at hj
                  split at hj
                  · rename_i hj1
                    obtain ⟨x, k1, k2⟩ := relL_get q2 j v hj
                    exact ⟨x, by rw [World.cell?_setCells_out _ _ _ _ _ (fun _ _ => .inl (by show o + off + j < o + off + len * i.size; omega))]; exact q3 j x k1, k2⟩
                  · rename_i hj1
                    obtain ⟨x, k1, k2⟩ := relL_get hx _ v hj
                    have hjx : j - len * i.size < xs.length := by
                      rcases Nat.lt_or_ge (j - len * i.size) xs.length with g | g
                      · exact g
                      · rw [List.getElem?_eq_none g] at k1; cases k1
                    have := World.cell?_setCells_in b xs (o + off + len * i.size) w hsome _ hjx
                    rw [show o + off + len * i.size + (j - len * i.size) = o + off + j by omega] at this
                    rw [List.getElem?_eq_getElem hjx] at k1
                    exact ⟨x, by rw [this]; exact k1, k2⟩
                · rw [World.frozen?_setCells]
                  refine (ht2 _ ?_).2
                  rw [List.length_append, List.length_take, List.length_drop] at hj
                  omega
              · refine ⟨?_, fun j hj => ⟨?_, by rw [World.frozen?_setCells]; exact (ht2 j hj).2⟩⟩
                · rw [List.length_append, List.length_take, List.length_drop]; omega
                · by_cases hin : o + off + len * i.size ≤ j ∧ j < o + off + len * i.size + xs.length
                  · obtain ⟨q, rfl⟩ : ∃ q, j = o + off + len * i.size + q := ⟨j - (o + off + len * i.size), by omega⟩
                    rw [World.cell?_setCells_in b xs _ w hsome q (by omega)]; rfl
                  · rw [World.cell?_setCells_out _ _ _ _ _ (fun _ _ => by simp only; omega)]; exact (ht2 j hj).1
            · -- there is none
              have hg : k < len + n := by omega
              have hnb : len + n ≤ (len + n) * i.bytes := Nat.le_mul_of_pos_right _ hby
              have hrun := run_append_grow_src (P := P) w t tx ty e i zv hu hi hz (some ⟨b, o + off, none⟩) len k os
                (run_firstCells_some w.drew i.size len _ len k os q1 (fun j v hj => by rw [addr_add]; simpa using q3 j v hj)) z n xs hs hg (by omega) (growslice_fits hg h4)
              have hmd : MemRel E B (m.set old .dead) w.drew := hkill.stay (Nat.le_refl _) fun _ _ => rfl
              obtain ⟨k1, k2⟩ := hmd.newFirst h5 (relL_append q2 hx) (ys := (Builtin.zeroCells zv.cells (grownCap w (len + n) k e - (len + n))).toList) e
              have harr : (⟨(os ++ xs) ++ (Builtin.zeroCells zv.cells (grownCap w (len + n) k e - (len + n))).toList⟩ : Array Value) = (os ++ xs).toArray ++ Builtin.zeroCells zv.cells (grownCap w (len + n) k e - (len + n)) := by
                apply Array.ext'; simp
              refine ⟨.slice (some ⟨w.heap.size, 0, none⟩) (len + n) (grownCap w (len + n) k e), _, _, hrun, ?_, by rw [← harr]; exact k1, ⟨k2.le, ?_, k2.fresh⟩⟩
              · simp only [V.rel]
                refine ⟨w.heap.size, 0, grownCap w (len + n) k e, ?_, by simp, grownCap_ge w (len + n) k e, ?_, fun k hk => by cases hk⟩
                · show (Env.putOwn E id (w.heap.size, 0) _).own id = _
                  simp [Env.putOwn]
                · have htt : (Env.putOwn E id (w.drew.heap.size, 0) ((os ++ xs) ++ (Builtin.zeroCells zv.cells (grownCap w (len + n) k e - (len + n))).toList).length).tot w.heap.size = ((os ++ xs) ++ (Builtin.zeroCells zv.cells (grownCap w (len + n) k e - (len + n))).toList).length := by simp [Env.putOwn]
                  rw [htt, tot _ _ _ (grownCap_ge w (len + n) k e) (by rw [List.length_append, q1, hs.newsLen, Nat.add_mul])]
                  omega
              · rw [← harr]; exact (Below.refl B w).drew.trans k2.below
          · cases h
        · cases h
      · cases h
    · cases h
  · cases h

/-- make of a slice with as much room as it is long. -/
def makeSliceK (P : Program) (t : TypeId) (v u : V) (m : Mem) (id : Nat) (K : V → Mem → Option R) : Option R :=
  match P.underlying t with
  | some (.slice e) => match P.info? e, zeroV P e with
    | some i, some z => match v, u with
      | .int _ l, .int _ c => gd (decide (0 ≤ l) && (decide (l = c) && (decide (i.bytes * c ≤ 281474976710656) && decide (c ≤ 9223372036854775807)))) (gd (Nat.beq z.cells.length i.size && (Nat.blt 0 i.size && m.room id))
          (K (.sl id i.size 0 l.toNat (some l.toNat)) (m.put id (.cells (rep l.toNat z.cells)))))
      | _, _ => none
    | _, _ => none
  | _ => none

theorem makeSliceK_some {P : Program} {t : TypeId} {v u : V} {m : Mem} {id : Nat} {K : V → Mem → Option R} {r : R} (h : makeSliceK P t v u m id K = some r) :
    ∃ z m', K z m' = some r ∧ ∀ x y : Value, Does P m (Instr.makeSlice t x y) z m' fun E => V.rel E v x ∧ V.rel E u y := by
  unfold makeSliceK at h
  split at h
  · rename_i e hu
    split at h
    · rename_i i z hi hz
      split at h
      · rename_i k1 l k2 c
        obtain ⟨h1, h⟩ := gd_some h
        obtain ⟨h2, h10⟩ := gd_some h
        simp only [Bool.and_eq_true, decide_eq_true_eq] at h1 h2
        obtain ⟨h3, rfl, h5, h6⟩ := h1
        obtain ⟨h7, h8, h9⟩ := h2
        have h7 := Nat.eq_of_beq_eq_true h7
        have h8 : 0 < i.size := by simpa [Nat.blt_eq] using h8
        refine ⟨_, _, h10, fun x y E B w hm ⟨hx, hy⟩ => ?_⟩
        simp only [V.rel] at hx hy
        subst hx; subst hy
        obtain ⟨zv, hz1, hz2⟩ := zeroV_run hz
        have hzc := V.cells_rel (hz2 E)
        have hzl := relL_length hzc
        simp only [Array.length_toList] at hzl
        have hi0 : i.zero = some zv := by
          have := hz1 w
          simp only [zeroValue, Sem.run_bind] at this
          cases hq : i.zero with
          | none => simp [typeInfo, hi, hq] at this
          | some z' => simp [typeInfo, hi, hq] at this; rw [this]
        have hrun := run_make (P := P) w t e i zv hu hi hi0 k1 k2 l l h3 (Int.le_refl _) h5 h6
        have hcells : (madeCells zv.cells (l.toNat * i.size)).toList = rep l.toNat zv.cells.toList := range_rep (by omega) h8
        obtain ⟨g1, g2⟩ := hm.newCells h9 (l := rep l.toNat z.cells) (xs := rep l.toNat zv.cells.toList) (relL_rep hzc _) e
        have harr : (⟨rep l.toNat zv.cells.toList⟩ : Array Value) = madeCells zv.cells (l.toNat * i.size) := by rw [← hcells]
        rw [harr] at g1 g2
        refine ⟨_, _, _, hrun, ?_, g1, g2⟩
        simp only [V.rel]
        refine ⟨w.heap.size, 0, l.toNat, by simp [Env.putOwn], rfl, Nat.le_refl _, ?_, fun k hk => by cases hk; rfl⟩
        simp only [Env.putOwn, if_true, Nat.zero_add, ← hcells, Array.length_toList, size_madeCells]
        exact Nat.le_refl _
      · cases h
    · cases h
  · cases h

/-- The cell of a map by an integer key. -/
def mapFindK (k : IntKind) (n : Int) : List (V × V) → (Option V → Option R) → Option R
  | [], K => K none
  | (key, v) :: es, K => intK k key fun a => bif decide (n = a) then K (some v) else mapFindK k n es K

theorem mapFindK_some {k : IntKind} {n : Int} : ∀ {es : List (V × V)} {K : Option V → Option R} {r : R}, mapFindK k n es K = some r →
    ∃ o, K o = some r ∧ ∀ (E : Env) (l : List MapEntry) (i : Nat), EntRel E es l → ∃ f, Instr.findNow (.int k) (.int k n) l i = some f ∧ OptRel E o (f.map (·.2))
  | [], K, r, h => ⟨none, h, fun E l i hl => by
      cases l with
      | nil => exact ⟨none, rfl, trivial⟩
      | cons => exact hl.elim⟩
  | (key, v) :: es, K, r, h => by
    unfold mapFindK at h
    obtain ⟨a, ha, h5⟩ := intK_some h
    subst ha
    by_cases hn : n = a
    · subst hn
      simp only [decide_true, cond_true] at h5
      refine ⟨_, h5, fun E l i hl => ?_⟩
      cases l with
      | nil => exact hl.elim
      | cons e l =>
        obtain ⟨h1, h2, _⟩ := hl
        simp only [V.rel] at h1
        exact ⟨some (i, e.val), by simp [Instr.findNow, Instr.sameNow, h1], h2⟩
    · rw [decide_eq_false hn, cond_false] at h5
      obtain ⟨o, h1, h2⟩ := mapFindK_some h5
      refine ⟨o, h1, fun E l i hl => ?_⟩
      cases l with
      | nil => exact hl.elim
      | cons e l =>
        obtain ⟨g1, _, g3⟩ := hl
        simp only [V.rel] at g1
        obtain ⟨f, f1, f2⟩ := h2 E l (i + 1) g3
        refine ⟨f, ?_, f2⟩
        simp only [Instr.findNow, Instr.sameNow, g1, if_true]
        have : (n == a) = false := by simpa using hn
        rw [this]; exact f1

def lookupK (P : Program) (t : TypeId) (v u : V) (ok : Bool) (m : Mem) (K : V → Option R) : Option R :=
  match P.underlying t with
  | some (.map kt et) => match P.underlying kt, v with
    | some (.int k), .map id => match m.at id with
      | .map es => intK k u fun n => mapFindK k n es fun
        | some v => K (bif ok then .tup [v, .bool true] else v)
        | none => match zeroV P et with
          | some z => K (bif ok then .tup [z, .bool false] else z)
          | none => none
      | _ => none
    | _, _ => none
  | _ => none

theorem getObj_map {P : Program} {E : Env} {B : Nat} {m : Mem} {w : World} (hm : MemRel E B m w) {id : Nat} {es : List (V × V)} (he : m.at id = .map es) {x : Value} (hx : V.rel E (.map id) x) :
    ∃ b l clock, x = .map (some b) ∧ E.own id = some (b, 0) ∧ w.heap[b]? = some (.map l clock) ∧ EntRel E es l.toList ∧ (getObj b).run P w = .ok (.map l clock) w := by
  simp only [V.rel] at hx
  obtain ⟨b, ho, rfl⟩ := hx
  obtain ⟨b', ho', l, clock, hh, hr⟩ := hm.maps id es he
  rw [ho] at ho'; cases ho'
  exact ⟨b, l, clock, rfl, ho, hh, hr, by simp [getObj, Sem.run, hh]⟩

theorem lookupK_some {P : Program} {t : TypeId} {v u : V} {ok : Bool} {m : Mem} {K : V → Option R} {r : R} (h : lookupK P t v u ok m K = some r) :
    ∃ z, K z = some r ∧ ∀ E B w x y, MemRel E B m w → V.rel E v x → V.rel E u y → ∃ a, (Instr.lookup t x y ok).run P w = .ok a w ∧ V.rel E z a := by
  unfold lookupK at h
  split at h
  · rename_i kt et hu
    split at h
    · rename_i k id hk
      split at h
      · rename_i es hes
        obtain ⟨n, hn, h1⟩ := intK_some h
        subst hn
        obtain ⟨o, h2, hfind⟩ := mapFindK_some h1
        have base : ∀ E B w x y, MemRel E B m w → V.rel E (.map id) x → V.rel E (.int k n) y → ∃ b l clock f, x = .map (some b) ∧ y = .int k n ∧
            (getObj b).run P w = .ok (.map l clock) w ∧ (∀ e, (Instr.checkKey e 10000 kt (.int k n)).run P w = .ok () w) ∧ (Instr.findKey kt (.int k n) l.toList).run P w = .ok f w ∧ OptRel E o (f.map (·.2)) := by
          intro E B w x y hm hx hy
          obtain ⟨b, l, clock, rfl, ho, hh, hr, hg⟩ := getObj_map (P := P) hm hes hx
          simp only [V.rel] at hy; subst hy
          obtain ⟨f, f1, f2⟩ := hfind E l.toList 0 hr
          exact ⟨b, l, clock, f, rfl, rfl, hg, fun e => run_checkKey hk (by simp [IsKey]) e 9999, run_findKey hk f1, f2⟩
        cases o with
        | some v =>
          simp only at h2
          refine ⟨_, h2, fun E B w x y hm hx hy => ?_⟩
          obtain ⟨b, l, clock, f, rfl, rfl, g1, g2, g3, g4⟩ := base E B w x y hm hx hy
          cases f with
          | none => exact g4.elim
          | some f =>
            obtain ⟨i, z⟩ := f
            have g4 : V.rel E v z := g4
            refine ⟨if ok then .tuple #[z, .bool true] else z, ?_, ?_⟩
            · simp only [Instr.lookup, Sem.run_bind, run_underlying hu, Result.andThen_ok, g1, Sem.run_pure, g2, g3]
              try (cases ok <;> rfl)
            · cases ok
              · exact g4
              · simp only [cond_true, if_true, V.rel]
                exact ⟨_, rfl, by simp only [V.relL]; exact ⟨g4, by simp [V.rel], trivial⟩⟩
        | none =>
          simp only at h2
          split at h2
          · rename_i z hz
            refine ⟨_, h2, fun E B w x y hm hx hy => ?_⟩
            obtain ⟨b, l, clock, f, rfl, rfl, g1, g2, g3, g4⟩ := base E B w x y hm hx hy
            cases f with
            | some f => exact g4.elim
            | none =>
              obtain ⟨zv, z1, z2⟩ := zeroV_run hz
              refine ⟨if ok then .tuple #[zv, .bool false] else zv, ?_, ?_⟩
              · simp only [Instr.lookup, Sem.run_bind, run_underlying hu, Result.andThen_ok, g1, Sem.run_pure, g2, g3, z1 w]
                try (cases ok <;> rfl)
              · cases ok
                · exact z2 E
                · simp only [cond_true, if_true, V.rel]
                  exact ⟨_, rfl, by simp only [V.relL]; exact ⟨z2 E, by simp [V.rel], trivial⟩⟩
          · cases h2
      · cases h
    · cases h
  · cases h

/-- A new entry of a map. -/
theorem MemRel.mapPush {E : Env} {B : Nat} {m : Mem} {w : World} (h : MemRel E B m w) {id b : Nat} {es : List (V × V)} {l : Array MapEntry} {clock : Nat} (he : m.at id = .map es) (ho : E.own id = some (b, 0))
    (hh : w.heap[b]? = some (.map l clock)) (hr : EntRel E es l.toList) {k v : V} {e : MapEntry} (hk : V.rel E k e.key) (hv : V.rel E v e.val) :
    MemRel E B (m.set id (.map (es ++ [(k, v)]))) { w with heap := w.heap.setIfInBounds b (.map (l.push e) (clock + 1)) } ∧ Good B E w E { w with heap := w.heap.setIfInBounds b (.map (l.push e) (clock + 1)) } := by
  have hid : id < m.length := Mem.at_lt (by rw [he]; simp)
  have hlive : (m.at id).live = true := by rw [he]; rfl
  obtain ⟨hB, hlt, himm⟩ := h.place id b 0 hlive ho
  have hb : ∀ c, c ≠ b → ({ w with heap := w.heap.setIfInBounds b (.map (l.push e) (clock + 1)) } : World).heap[c]? = w.heap[c]? := by
    intro c hc
    show (w.heap.setIfInBounds b _)[c]? = _
    rw [Array.getElem?_setIfInBounds]; simp [Ne.symm hc]
  have hother : ∀ i, i ≠ id → ∀ c p, (m.at i).live = true → E.own i = some (c, p) → c ≠ b := by
    intro i hi c p hl e hcb
    subst hcb
    exact hi (h.apart i id c p 0 hl hlive e ho)
  have hat : ∀ i, i ≠ id → Mem.at (m.set id (.map (es ++ [(k, v)]))) i = m.at i := fun i hi => by rw [Mem.at_set, if_neg (by simp [Ne.symm hi])]
  have hat0 : Mem.at (m.set id (.map (es ++ [(k, v)]))) id = .map (es ++ [(k, v)]) := by rw [Mem.at_set, if_pos ⟨rfl, hid⟩]
  have hpush : ∀ (es : List (V × V)) (l : List MapEntry), EntRel E es l → EntRel E (es ++ [(k, v)]) (l ++ [e]) := by
    intro es
    induction es with
    | nil => intro l hl; cases l with
      | nil => exact ⟨hk, hv, trivial⟩
      | cons => exact hl.elim
    | cons q es ih => intro l hl; cases l with
      | nil => exact hl.elim
      | cons x l => exact ⟨hl.1, hl.2.1, ih l hl.2.2⟩
  refine ⟨⟨by simpa using h.size, ?_, ?_, ?_, ?_, ?_, ?_, ?_, ?_, ?_⟩, .refl E, ⟨rfl, rfl, rfl, by simp, fun c hc => hb c (by omega)⟩, fun _ _ k => .inl k⟩
  · intro i l' e'
    by_cases hi : i = id
    · subst hi; rw [hat0] at e'; cases e'
    · rw [hat i hi] at e'
      obtain ⟨c, p, h1, h2⟩ := h.cells i l' e'
      have hne := hother i hi c p (by rw [e']; rfl) h1
      refine ⟨c, p, h1, fun j v hj => ?_, fun j hj => ?_⟩
      · obtain ⟨x, h3, h4⟩ := h2.1 j v hj
        exact ⟨x, by rw [World.cell?_of_block (w := w) (hb c hne)]; exact h3, h4⟩
      · rw [World.frozen?_of_block (w := w) (hb c hne)]; exact h2.2 j hj
  · intro i es' e'
    by_cases hi : i = id
    · subst hi; rw [hat0] at e'; cases e'
      refine ⟨b, ho, l.push e, clock + 1, ?_, by rw [Array.toList_push]; exact hpush _ _ hr⟩
      show (w.heap.setIfInBounds b _)[b]? = _
      rw [Array.getElem?_setIfInBounds]; simp [hlt]
    · rw [hat i hi] at e'
      obtain ⟨c, h1, es', k, h2, h3⟩ := h.maps i es' e'
      exact ⟨c, h1, es', k, by rw [hb c (hother i hi c 0 (by rw [e']; rfl) h1)]; exact h2, h3⟩
  · intro i c p hl e'
    have hs : ({ w with heap := w.heap.setIfInBounds b (.map (l.push e) (clock + 1)) } : World).heap.size = w.heap.size := by simp
    rw [hs]
    by_cases hi : i = id
    · subst hi; exact h.place i c p hlive e'
    · rw [hat i hi] at hl; exact h.place i c p hl e'
  · intro i p e'; simpa using h.lt i p e'
  · intro i i' c p p' h1 h2 e1 e2
    refine h.apart i i' c p p' ?_ ?_ e1 e2
    · by_cases hi : i = id
      · subst hi; exact hlive
      · rwa [hat i hi] at h1
    · by_cases hi : i' = id
      · subst hi; exact hlive
      · rwa [hat i' hi] at h2
  · intro i e'
    by_cases hi : i = id
    · subst hi; rw [hat0] at e'; cases e'
    · rw [hat i hi] at e'; exact h.free i e'
  · intro c cs e'
    obtain ⟨h1, h2⟩ := h.imm c cs e'
    have hne : c ≠ b := by intro hcb; subst hcb; rw [himm] at e'; cases e'
    refine ⟨by simpa using h1, fun j x hj => ?_⟩
    rw [World.cell?_of_block (w := w) (hb c hne)]
    exact h2 j x hj
  · intro i l' c p e' e''
    by_cases hi : i = id
    · subst hi; rw [hat0] at e'; cases e'
    · rw [hat i hi] at e'
      obtain ⟨h1, h2⟩ := h.tot i l' c p e' e''
      have hne := hother i hi c p (by rw [e']; rfl) e''
      exact ⟨h1, fun j hj => ⟨by rw [World.cell?_of_block (w := w) (hb c hne)]; exact (h2 j hj).1, by rw [World.frozen?_of_block (w := w) (hb c hne)]; exact (h2 j hj).2⟩⟩
  · intro i l' c p e' e''
    by_cases hi : i = id
    · subst hi; rw [hat0] at e'; cases e'
    · rw [hat i hi] at e'
      rw [hb c (hother i hi c p (by rw [e']; rfl) e'')]
      exact h.row i l' c p e' e''

/-- A new entry of a map of the call's own. -/
def insertK (P : Program) (t : TypeId) (v u z : V) (m : Mem) (K : Mem → Option R) : Option R :=
  match P.underlying t with
  | some (.map kt et) => match P.underlying kt, v with
    | some (.int k), .map id => match m.at id with
      | .map es => intK k u fun n => mapFindK k n es fun
        | some _ => none
        | none => K (m.set id (.map (es ++ [(.int k n, z)])))
      | _ => none
    | _, _ => none
  | _ => none

theorem insertK_some {P : Program} {t : TypeId} {v u z : V} {m : Mem} {K : Mem → Option R} {r : R} (h : insertK P t v u z m K = some r) :
    ∃ m', K m' = some r ∧ ∀ E B w x y q, MemRel E B m w → V.rel E v x → V.rel E u y → V.rel E z q → ∃ w', (Instr.mapUpdate t x y q).run P w = .ok () w' ∧ MemRel E B m' w' ∧ Good B E w E w' := by
  unfold insertK at h
  split at h
  · rename_i kt et hu
    split at h
    · rename_i k id hk
      split at h
      · rename_i es hes
        obtain ⟨n, hn, h1⟩ := intK_some h
        subst hn
        obtain ⟨o, h2, hfind⟩ := mapFindK_some h1
        cases o with
        | some _ => cases h2
        | none =>
          simp only at h2
          refine ⟨_, h2, fun E B w x y q hm hx hy hq => ?_⟩
          obtain ⟨b, l, clock, rfl, ho, hh, hr, hg⟩ := getObj_map (P := P) hm hes hx
          have hy' := hy
          simp only [V.rel] at hy; subst hy
          obtain ⟨f, f1, f2⟩ := hfind E l.toList 0 hr
          cases f with
          | some f => exact f2.elim
          | none =>
            obtain ⟨k1, k2⟩ := hm.mapPush (e := { key := .int k n, val := q, born := clock }) hes ho hh hr hy' hq
            refine ⟨_, ?_, k1, k2⟩
            have h3 : (Instr.findKey kt (.int k n) l.toList).run P w = .ok none w := run_findKey hk f1
            have h4 : (Instr.checkKey false 10000 kt (.int k n)).run P w = .ok () w := run_checkKey hk (by simp [IsKey]) false 9999
            simp only [Instr.mapUpdate, Sem.run_bind, run_underlying hu, Result.andThen_ok, hg, h4, h3]
            exact run_setObj_map _ hh
      · cases h
    · cases h
  · cases h

/-- The bytes of a text as a slice of the call's own. -/
def strBytesK (P : Program) (src dst : TypeId) (v : V) (m : Mem) (id : Nat) (K : V → Mem → Option R) : Option R := none

end

end Go.Rx
