/- More operations: what makes values and memory. -/
import Derived.Test.YteahnnchfegknaaRxOp
set_option linter.unusedVariables false
set_option linter.unusedSimpArgs false
namespace Go.Rx
open Go.RowKit (Below)

/-- What an operation that yields a value does: 'u' and 'm'' for its value and the memory behind it. -/
def Does (P : Program) (m : Mem) (s : Sem Value) (u : V) (m' : Mem) (pre : Env → Prop) : Prop :=
  ∀ E B w, MemRel E B m w → pre E → ∃ y w' E', s.run P w = .ok y w' ∧ V.rel E' u y ∧ MemRel E' B m' w' ∧ Good B E w E' w'

theorem Does.same {P : Program} {m : Mem} {s : Sem Value} {u : V} {pre : Env → Prop}
    (h : ∀ E B w, MemRel E B m w → pre E → ∃ y, s.run P w = .ok y w ∧ V.rel E u y) : Does P m s u m pre := by
  intro E B w hm hp
  obtain ⟨y, h1, h2⟩ := h E B w hm hp
  exact ⟨y, w, E, h1, h2, hm, .refl B E w⟩

def zeroV (P : Program) (t : TypeId) : Option V :=
  match P.info? t with
  | some i => match i.zero with
    | some z => absZ z
    | none => none
  | none => none

theorem zeroV_run {P : Program} {t : TypeId} {v : V} (h : zeroV P t = some v) : ∃ z, (∀ w, (zeroValue t).run P w = .ok z w) ∧ ∀ E, V.rel E v z := by
  unfold zeroV at h
  split at h
  · rename_i i hi
    split at h
    · rename_i z hz
      exact ⟨z, fun w => by simp [zeroValue, typeInfo, hi, hz], fun E => absZ_rel h⟩
    · cases h
  · cases h

section
variable {R : Type}

def allocK (P : Program) (t : TypeId) (m : Mem) (id : Nat) (K : V → Mem → Option R) : Option R :=
  match zeroV P t with
  | some v => gd (m.room id) (K (.ptr id 0) (m.put id (.cells v.cells)))
  | none => none

theorem allocK_some {P : Program} {t : TypeId} {m : Mem} {id : Nat} {K : V → Mem → Option R} {r : R} (h : allocK P t m id K = some r) :
    ∃ u m', K u m' = some r ∧ Does P m (Instr.alloc t true (.tuple #[])) u m' fun _ => True := by
  unfold allocK at h
  split at h
  · rename_i v hv
    obtain ⟨hr, h⟩ := gd_some h
    obtain ⟨z, hz, hrel⟩ := zeroV_run hv
    refine ⟨_, _, h, fun E B w hm _ => ?_⟩
    have hc := V.cells_rel (hrel E)
    obtain ⟨k1, k2⟩ := hm.newCells hr hc t
    refine ⟨.pointer (some ⟨w.heap.size, 0, none⟩), _, _, ?_, ?_, k1, k2⟩
    · simp [Instr.alloc, hz, newVar, newRow]
    · simp only [V.rel]; exact ⟨w.heap.size, 0, by simp [Env.putOwn], rfl⟩
  · cases h

def boxK (v : V) (m : Mem) (id : Nat) (K : V → Mem → Option R) : Option R :=
  gd (m.room id) (K (.ptr id 0) (m.put id (.cells v.cells)))

theorem boxK_some {P : Program} {t : TypeId} {v : V} {m : Mem} {id : Nat} {K : V → Mem → Option R} {r : R} (h : boxK v m id K = some r) :
    ∃ u m', K u m' = some r ∧ ∀ x : Value, Does P m (Instr.box t x) u m' fun E => V.rel E v x := by
  obtain ⟨hr, h⟩ := gd_some h
  refine ⟨_, _, h, fun x E B w hm hv => ?_⟩
  have hc := V.cells_rel hv
  obtain ⟨k1, k2⟩ := hm.newCells hr hc t
  refine ⟨.pointer (some ⟨w.heap.size, 0, none⟩), _, _, ?_, ?_, k1, k2⟩
  · simp [Instr.box, newVar, newRow]
  · simp only [V.rel]; exact ⟨w.heap.size, 0, by simp [Env.putOwn], rfl⟩

end

/-- Parts of a composite value, related. -/
def PartsRel (E : Env) : List (Nat × V) → List (Nat × Value) → Prop
  | [], [] => True
  | p :: l, q :: k => p.1 = q.1 ∧ V.rel E p.2 q.2 ∧ PartsRel E l k
  | _, _ => False

def fillV (place : Nat → Option (Nat × Nat)) : List V → List (Nat × V) → Option (List V)
  | l, [] => some l
  | l, (i, v) :: rest =>
    match place i with
    | none => none
    | some (off, size) => bif Nat.beq v.cells.length size && Nat.ble (off + v.cells.length) l.length then fillV place (splice l off v.cells) rest else none

theorem take_drop_set {l : List Value} {p n : Nat} {x : Value} {xs : List Value} (h : p < l.length) :
    (l.set p x).take (p + 1) ++ (xs ++ (l.set p x).drop (p + 1 + n)) = l.take p ++ (x :: xs ++ l.drop (p + 1 + n)) := by
  have h1 : (l.set p x).take (p + 1) = l.take p ++ [x] := by
    apply List.ext_getElem?
    intro i
    rw [List.getElem?_take, List.getElem?_set, List.getElem?_append, List.length_take, List.getElem?_take, Nat.min_eq_left (Nat.le_of_lt h)]
    rcases Nat.lt_trichotomy i p with h2 | h2 | h2
    · simp [h2, Nat.ne_of_gt h2]; omega
    · subst h2; simp [h]
    · have : ¬ i < p := by omega
      have h3 : ¬ i < p + 1 := by omega
      simp [this, h3, List.getElem?_eq_none (show [x].length ≤ i - p by simp; omega)]
  have h2 : (l.set p x).drop (p + 1 + n) = l.drop (p + 1 + n) := by
    rw [List.drop_set_of_lt (by omega)]
  rw [h1, h2]
  simp

theorem foldl_set (xs : List Value) : ∀ (k off : Nat) (cs : Array Value), off + k + xs.length ≤ cs.size →
    ((xs.zipIdx k).foldl (fun (cs : Array Value) (p : Value × Nat) => cs.setIfInBounds (off + p.2) p.1) cs).toList = cs.toList.take (off + k) ++ (xs ++ cs.toList.drop (off + k + xs.length)) := by
  induction xs with
  | nil => intro k off cs h; simp [List.take_append_drop]
  | cons x xs ih =>
    intro k off cs h
    simp only [List.length_cons] at h
    rw [List.zipIdx_cons, List.foldl_cons]
    have ih' := ih (k + 1) off (cs.setIfInBounds (off + k) x) (by simp; omega)
    refine ih'.trans ?_
    have h1 : off + k < cs.toList.length := by simp; omega
    rw [Array.toList_setIfInBounds, show off + (k + 1) = off + k + 1 by omega, take_drop_set h1, List.length_cons, show off + k + 1 + xs.length = off + k + (xs.length + 1) by omega]

theorem fillV_rel {E : Env} {place : Nat → Option (Nat × Nat)} : ∀ {ps : List (Nat × V)} {qs : List (Nat × Value)} {l l' : List V} {cs : Array Value}, fillV place l ps = some l' → PartsRel E ps qs → V.relL E l cs.toList →
    ∃ cs', Instr.fill place cs qs = some cs' ∧ V.relL E l' cs'.toList
  | [], [], l, l', cs, h, _, hr => by simp only [fillV, Option.some.injEq] at h; subst h; exact ⟨cs, rfl, hr⟩
  | [], _ :: _, _, _, _, _, h, _ => h.elim
  | _ :: _, [], _, _, _, _, h, _ => h.elim
  | (i, v) :: ps, (j, x) :: qs, l, l', cs, h, hp, hr => by
    obtain ⟨rfl, hv, hp⟩ := hp
    simp only [fillV] at h
    simp only [Instr.fill]
    split at h
    · cases h
    · rename_i off size hpl
      simp only [hpl]
      cases hb : (Nat.beq v.cells.length size && Nat.ble (off + v.cells.length) l.length) with
      | false => rw [hb] at h; cases h
      | true =>
        rw [hb, cond_true] at h
        rw [Bool.and_eq_true] at hb
        have h1 := Nat.eq_of_beq_eq_true hb.1
        have h2 := Nat.le_of_ble_eq_true hb.2
        have hc := V.cells_rel hv
        have hlen := relL_length hc
        have hlen2 := relL_length hr
        simp only [Array.length_toList] at hlen hlen2
        simp only at hv hlen hc ⊢
        rw [if_neg (by simp only [Bool.or_eq_true, decide_eq_true_eq, ne_eq]; omega)]
        refine fillV_rel h hp ?_
        rw [← Array.foldl_toList, Array.toList_zipIdx, foldl_set _ 0 off cs (by simp; omega)]
        simp only [Nat.add_zero, Array.length_toList, splice]
        rw [← hlen]
        exact relL_append (relL_take hr _) (relL_append hc (relL_drop hr _))

theorem splice_length {l vs : List V} {off : Nat} (h : off + vs.length ≤ l.length) : (splice l off vs).length = l.length := by
  unfold splice; simp only [List.length_append, List.length_take, List.length_drop]; omega

theorem fillV_length {place : Nat → Option (Nat × Nat)} : ∀ {ps : List (Nat × V)} {l l' : List V}, fillV place l ps = some l' → l'.length = l.length
  | [], l, l', h => by simp only [fillV, Option.some.injEq] at h; rw [h]
  | (i, v) :: ps, l, l', h => by
    simp only [fillV] at h
    split at h
    · cases h
    · rename_i off size hpl
      cases hb : (Nat.beq v.cells.length size && Nat.ble (off + v.cells.length) l.length) with
      | false => rw [hb] at h; cases h
      | true =>
        rw [hb, cond_true] at h
        rw [Bool.and_eq_true] at hb
        rw [fillV_length h, splice_length (Nat.le_of_ble_eq_true hb.2)]

theorem rep_length {α : Type} (l : List α) : ∀ n, (rep n l).length = n * l.length
  | 0 => by simp [rep]
  | n + 1 => by simp only [rep, List.length_append, rep_length l n, Nat.succ_mul]; omega

def placesV (P : Program) : List Field → Option (List (Nat × Nat))
  | [] => some []
  | f :: fs => match szOf P f.type, placesV P fs with | some n, some l => some ((f.offset, n) :: l) | _, _ => none

theorem placesV_run {P : Program} (w : World) : ∀ {fs : List Field} {l : List (Nat × Nat)}, placesV P fs = some l →
    (fs.mapM (m := Sem) fun f => do pure (f.offset, ← sizeOf f.type)).run P w = .ok l w
  | [], l, h => by simp only [placesV, Option.some.injEq] at h; subst h; rfl
  | f :: fs, l, h => by
    simp only [placesV] at h
    split at h <;> cases h
    rename_i n l' h1 h2
    have ih := placesV_run w h2
    simp only [List.mapM_cons, Sem.run_bind, run_sizeOf' h1, Result.andThen_ok, Sem.run_pure, ih]

theorem run_mapM_toArray {P : Program} {w : World} {α β : Type} {f : α → Sem β} {xs : Array α} {l : List β} (h : (xs.toList.mapM f).run P w = .ok l w) : (xs.mapM f).run P w = .ok l.toArray w := by
  rw [Array.mapM_eq_mapM_toList, Sem.run_map, h]; rfl

section
variable {R : Type}

def buildK (P : Program) (t : TypeId) (parts : List (Nat × V)) (K : V → Option R) : Option R :=
  match zeroV P t, P.underlying t with
  | some z, some (.struct fs) => match placesV P fs.toList with
    | some pl => match fillV (fun i => pl[i]?) z.cells parts with
      | some l => K (.agg l)
      | none => none
    | none => none
  | some z, some (.array _ e) => match szOf P e with
    | some n => match fillV (fun i => some (i * n, n)) z.cells parts with
      | some l => K (.agg l)
      | none => none
    | none => none
  | _, _ => none

theorem buildK_some {P : Program} {t : TypeId} {parts : List (Nat × V)} {K : V → Option R} {r : R} (h : buildK P t parts K = some r) :
    ∃ u, K u = some r ∧ ∀ E w (qs : Array (Nat × Value)), PartsRel E parts qs.toList → ∃ y, (Instr.build t qs).run P w = .ok y w ∧ V.rel E u y := by
  unfold buildK at h
  split at h
  · rename_i z fs hz hu
    split at h
    · rename_i pl hpl
      split at h
      · rename_i l hl
        refine ⟨_, h, fun E w qs hq => ?_⟩
        obtain ⟨zv, hz1, hz2⟩ := zeroV_run hz
        obtain ⟨cs, h1, h2⟩ := fillV_rel hl hq (V.cells_rel (hz2 E))
        refine ⟨.agg cs, ?_, by simp only [V.rel]; exact ⟨cs, rfl, h2⟩⟩
        have h3 := run_mapM_toArray (placesV_run (P := P) w hpl)
        have h4 : (fun i : Nat => (pl.toArray)[i]?) = fun i => pl[i]? := by funext i; simp
        simp only [Instr.build, Sem.run_bind, hz1, run_underlying hu, Result.andThen_ok, h3, h4, h1, Sem.run_pure]
      · cases h
    · cases h
  · rename_i z n e hz hu
    split at h
    · rename_i n hn
      split at h
      · rename_i l hl
        refine ⟨_, h, fun E w qs hq => ?_⟩
        obtain ⟨zv, hz1, hz2⟩ := zeroV_run hz
        obtain ⟨cs, h1, h2⟩ := fillV_rel hl hq (V.cells_rel (hz2 E))
        refine ⟨.agg cs, ?_, by simp only [V.rel]; exact ⟨cs, rfl, h2⟩⟩
        simp only [Instr.build, Sem.run_bind, hz1, run_underlying hu, Result.andThen_ok, run_sizeOf' hn, h1, Sem.run_pure]
      · cases h
    · cases h
  · cases h

end

theorem rep_get {l : List Value} {n : Nat} (hn : l.length = n) (h0 : 0 < n) : ∀ (k i : Nat), (rep k l)[i]? = if i < k * n then l[i % n]? else none
  | 0, i => by simp [rep]
  | k + 1, i => by
    simp only [rep, List.getElem?_append, rep_get hn h0 k, hn]
    by_cases h1 : i < n
    · rw [if_pos h1, Nat.mod_eq_of_lt h1, if_pos (by rw [Nat.succ_mul]; omega)]
    · rw [if_neg h1]
      by_cases h2 : i - n < k * n
      · rw [if_pos h2, if_pos (by rw [Nat.succ_mul]; omega), Nat.mod_eq_sub_mod (by omega : n ≤ i)]
      · rw [if_neg h2, if_neg (by rw [Nat.succ_mul]; omega)]

theorem range_rep {z : Array Value} {n len : Nat} (hn : z.size = n) (h0 : 0 < n) : ((Array.range (len * n)).map (z[· % z.size]!)).toList = rep len z.toList := by
  apply List.ext_getElem?
  intro i
  rw [rep_get (by simpa using hn) h0]
  simp only [Array.toList_map, Array.toList_range, List.getElem?_map]
  by_cases h : i < len * n
  · have h1 : i % n < z.size := by rw [hn]; exact Nat.mod_lt _ h0
    subst hn
    simp [h, h1]
  · simp [h]

theorem relL_rep {E : Env} {l : List V} {xs : List Value} (h : V.relL E l xs) : ∀ n, V.relL E (rep n l) (rep n xs)
  | 0 => by simp [rep, V.relL]
  | n + 1 => relL_append h (relL_rep h n)

section
variable {R : Type}

def buildSliceK (P : Program) (t : TypeId) (len : Nat) (parts : List (Nat × V)) (m : Mem) (id : Nat) (K : V → Mem → Option R) : Option R :=
  match P.underlying t with
  | some (.slice e) => match szOf P e, zeroV P e with
    | some n, some z => match fillV (fun i => some (i * n, n)) (rep len z.cells) parts with
      | some l => gd (Nat.beq z.cells.length n && (Nat.blt 0 n && (Nat.ble (len * n) 16777216 && m.room id))) (K (.sl id n 0 len (some len)) (m.put id (.cells l)))
      | none => none
    | _, _ => none
  | _ => none

theorem buildSliceK_some {P : Program} {t : TypeId} {len : Nat} {parts : List (Nat × V)} {m : Mem} {id : Nat} {K : V → Mem → Option R} {r : R} (h : buildSliceK P t len parts m id K = some r) :
    ∃ u m', K u m' = some r ∧ ∀ qs : Array (Nat × Value), Does P m (Instr.buildSlice t len qs) u m' fun E => PartsRel E parts qs.toList := by
  unfold buildSliceK at h
  split at h
  · rename_i e hu
    split at h
    · rename_i n z hn hz
      split at h
      · rename_i l hl
        obtain ⟨hg, h⟩ := gd_some h
        simp only [Bool.and_eq_true] at hg
        obtain ⟨h1, h2, h3, h4⟩ := hg
        have h1 := Nat.eq_of_beq_eq_true h1
        have h2 : 0 < n := by simpa [Nat.blt_eq] using h2
        have h3 := Nat.le_of_ble_eq_true h3
        refine ⟨_, _, h, fun qs E B w hm hq => ?_⟩
        obtain ⟨zv, hz1, hz2⟩ := zeroV_run hz
        have hzc := V.cells_rel (hz2 E)
        have hzl := relL_length hzc
        simp only [Array.length_toList] at hzl
        have hbase : ∃ zs : Array Value, (len * n = 0 ∧ zs = #[] ∨ len * n ≠ 0 ∧ zs = zv.cells) ∧ ((Array.range (len * n)).map (zs[· % zs.size]!)).toList = rep len zv.cells.toList := by
          by_cases h0 : len * n = 0
          · refine ⟨#[], .inl ⟨h0, rfl⟩, ?_⟩
            have : len = 0 := by rcases Nat.mul_eq_zero.1 h0 with h | h <;> omega
            subst this; simp [rep]
          · exact ⟨zv.cells, .inr ⟨h0, rfl⟩, range_rep (by omega) h2⟩
        obtain ⟨zs, hb1, hb2⟩ := hbase
        obtain ⟨cs, g1, g2⟩ := fillV_rel (cs := (Array.range (len * n)).map (zs[· % zs.size]!)) hl hq (by rw [hb2]; exact relL_rep hzc len)
        obtain ⟨k1, k2⟩ := hm.newCells h4 g2 e
        refine ⟨.slice (some ⟨w.heap.size, 0, none⟩) len len, _, _, ?_, ?_, k1, k2⟩
        · have hnot : ¬ len * n > 2 ^ 24 := by omega
          rcases hb1 with ⟨h0, rfl⟩ | ⟨h0, rfl⟩
          · simp only [Instr.buildSlice, Sem.run_bind, run_underlying hu, Result.andThen_ok, run_sizeOf' hn, hnot, if_false]
            rw [if_pos h0]
            simp only [newRow, Sem.run_bind, Result.andThen_ok, Sem.run_pure, g1, run_newObj]
            rfl
          · simp only [Instr.buildSlice, Sem.run_bind, run_underlying hu, Result.andThen_ok, run_sizeOf' hn, hnot, if_false, h0, hz1, newRow, run_newObj, Sem.run_pure]
            simp only [g1, Sem.run_bind, run_newObj, Result.andThen_ok, Sem.run_pure]
            rfl
        · simp only [V.rel]
          refine ⟨w.heap.size, 0, len, by simp [Env.putOwn], rfl, Nat.le_refl _, ?_, fun k hk => by cases hk; rfl⟩
          have h6 := fillV_length hl
          rw [rep_length, h1] at h6
          simp only [Env.putOwn, if_true, Nat.zero_add, ← relL_length g2, h6]
          exact Nat.le_refl _
      · cases h
    · cases h
  · cases h

end

end Go.Rx
