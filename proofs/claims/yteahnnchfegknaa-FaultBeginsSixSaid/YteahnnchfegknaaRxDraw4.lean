/- Regions whose order is open: soundness. -/
import Derived.Test.YteahnnchfegknaaRxDraw3
set_option linter.unusedVariables false
set_option linter.unusedSimpArgs false
namespace Go.Rx
open Go.RowKit (Below)

section
variable {P : Program} {cs : List (Ctr P)} {n base : Nat} {ops : Array Oper}

theorem put_length (m : Mem) (id : Nat) (b : Blk) : m.length ≤ (m.put id b).length := by
  unfold Mem.put; cases Nat.blt id m.length <;> simp

theorem storeK_len {t : TypeId} {v u : V} {m : Mem} {p : Option V × Mem} (h : (storeK P t v u m fun m' => some ((none : Option V), m')) = some p) : m.length ≤ p.2.length := by
  unfold storeK at h
  split at h
  · split at h
    · obtain ⟨_, h⟩ := gd_some h; cases h; simp
    · cases h
  · cases h

theorem copyK_len {t : TypeId} {v u : V} {m : Mem} {p : Option V × Mem} (h : (copyK P t v u m fun z m' => some (some z, m')) = some p) : m.length ≤ p.2.length := by
  unfold copyK at h
  (repeat' split at h) <;> first
    | cases h; done
    | (obtain ⟨_, h⟩ := gd_some h; cases h; simp)

theorem set_put_length (m : Mem) (i : Nat) (b : Blk) (id : Nat) (k : Blk) : m.length ≤ (Mem.put (m.set i b) id k).length := by
  have := put_length (m.set i b) id k
  rw [List.length_set] at this; exact this

theorem appendK_len {t t' : TypeId} {v u : V} {m : Mem} {id : Nat} {p : Option V × Mem} (h : (appendK P t t' v u m id fun z m' => some (some z, m')) = some p) : m.length ≤ p.2.length := by
  unfold appendK at h
  (repeat' split at h) <;> first
    | cases h; done
    | skip
  all_goals
    obtain ⟨_, h⟩ := gd_some h
    obtain ⟨n, c, h, _⟩ := srcK_some h
    first
      | cases h; done
      | (obtain ⟨_, h⟩ := gd_some h; cases h; exact set_put_length _ _ _ _ _)
      | (rw [cond_eq_ite] at h
         split at h
         · cases h; exact Nat.le_refl _
         · obtain ⟨_, h⟩ := gd_some h; cases h; exact put_length _ _ _)

theorem makeSliceK_len {t : TypeId} {v u : V} {m : Mem} {id : Nat} {p : Option V × Mem} (h : (makeSliceK P t v u m id fun z m' => some (some z, m')) = some p) : m.length ≤ p.2.length := by
  unfold makeSliceK at h
  (repeat' split at h) <;> first
    | cases h; done
    | skip
  obtain ⟨_, h⟩ := gd_some h
  obtain ⟨_, h⟩ := gd_some h
  cases h; exact put_length _ _ _

theorem insertK_len {t : TypeId} {v u z : V} {m : Mem} {p : Option V × Mem} (h : (insertK P t v u z m fun m' => some (none, m')) = some p) : m.length ≤ p.2.length := by
  unfold insertK at h
  (repeat' split at h) <;> first
    | cases h; done
    | skip
  obtain ⟨n, _, h⟩ := intK_some h
  obtain ⟨o, h, _⟩ := mapFindK_some h
  split at h
  · cases h
  · cases h; simp

theorem lookupK_len {t : TypeId} {v u : V} {ok : Bool} {m : Mem} {p : Option V × Mem} (h : (lookupK P t v u ok m fun z => some (some z, m)) = some p) : m.length ≤ p.2.length := by
  obtain ⟨z, h, _⟩ := lookupK_some h
  cases h; exact Nat.le_refl _

theorem doF_len {k : Nat} {pre : List Oper} {o : Oper} {σ : Nat → Option V} {m m' : Mem} {v : Option V} (h : doF P cs n base k pre o σ m = some (v, m')) : m.length ≤ m'.length := by
  by_cases h0 : memClass P o = 0
  · have := doF_free (P := P) (cs := cs) (n := n) (base := base) (k := k) (pre := pre) h0 σ m m
    rw [h] at this
    have e : m' = m := by simpa using this
    rw [e]; exact Nat.le_refl _
  by_cases h1 : memClass P o = 1
  · rw [(doF_quiet h1 h).1]; exact Nat.le_refl _
  by_cases h2 : memClass P o = 2
  · obtain ⟨_, b, rfl, _⟩ := doF_makes h2 h
    exact put_length _ _ _
  unfold doF at h
  obtain ⟨hd, h⟩ := gd_some h
  have hb : Nat.beq (memClass P o) 1 = false := by
    cases hq : Nat.beq (memClass P o) 1 with
    | false => rfl
    | true => exact absurd (Nat.eq_of_beq_eq_true hq) h1
  rw [hb, cond_false] at h
  unfold opK at h
  split at h <;> first
    | cases h; done
    | (rename_i ho; simp [memClass, ho] at h0 h1 h2; done)
    | skip
  · obtain ⟨x, hx, h⟩ := valK_some h
    obtain ⟨y, hy, h⟩ := valK_some h
    exact storeK_len h
  · rename_i s0 d0 x0 ho
    exfalso
    cases hb2 : bareConv P s0 d0 <;> simp [memClass, ho, hb2] at h0 h1
  · rename_i t0 x0 lo0 hi0 mx0 ho
    exfalso
    cases hb2 : bareSlice P t0 <;> simp [memClass, ho, hb2] at h0 h1
  · obtain ⟨x, hx, h⟩ := valK_some h
    obtain ⟨y, hy, h⟩ := valK_some h
    exact makeSliceK_len h
  · obtain ⟨_, h⟩ := gd_some h
    cases h; exact put_length _ _ _
  · obtain ⟨x, hx, h⟩ := valK_some h
    obtain ⟨y, hy, h⟩ := valK_some h
    obtain ⟨z, hz, h⟩ := valK_some h
    exact insertK_len h
  · obtain ⟨x, hx, h⟩ := valK_some h
    obtain ⟨y, hy, h⟩ := valK_some h
    exact lookupK_len h
  · rename_i c ho
    split at h
    · rename_i b hb2
      unfold builtinK at h
      split at h <;> first
        | cases h; done
        | (simp [memClass, ho, hb2] at h0; done)
        | skip
      split at h
      · obtain ⟨x, hx, h⟩ := valK_some h
        obtain ⟨y, hy, h⟩ := valK_some h
        exact copyK_len h
      · cases h
      split at h
      · obtain ⟨x, hx, h⟩ := valK_some h
        obtain ⟨y, hy, h⟩ := valK_some h
        exact appendK_len h
      · cases h
    · rename_i f hf
      simp [memClass, ho, hf] at h1
    · cases h

theorem opF_len {k : Nat} {pre : List Oper} {o : Oper} {σ : Nat → Option V} {m m' : Mem} {v : Option V} (h : opF P cs n base k ops pre o σ m = some (v, m')) : m.length ≤ m'.length := by
  unfold opF at h
  (repeat' split at h) <;> first
    | exact doF_len h
    | cases h; done
    | (obtain ⟨_, h⟩ := gd_some h
       cases h; exact Nat.le_refl _)
    | skip
  rw [cond_eq_ite] at h
  split at h
  · exact doF_len h
  · obtain ⟨_, h⟩ := gd_some h
    cases h; exact Nat.le_refl _

theorem stepF_len {k : Nat} {pre : List Oper} {o : Oper} {x x' : X} (h : stepF P cs n base k ops pre o x = some x') : x.2.length ≤ x'.2.length := by
  unfold stepF at h
  rw [Option.map_eq_some_iff] at h
  obtain ⟨⟨v, m'⟩, h1, rfl⟩ := h
  exact opF_len h1

/-- The i-th operation of the region. -/
def stepI (P : Program) (cs : List (Ctr P)) (n base : Nat) (ops : Array Oper) (i : Nat) (x : X) : Option X :=
  match ops.toList[i]? with
  | some o => stepF P cs n base i ops (preOf P ops i o (ops.toList.take i)) o x
  | none => none

theorem runF_cons (i : Nat) (l : List Nat) (x : X) : runF P cs n base ops (i :: l) x = (stepI P cs n base ops i x).bind (runF P cs n base ops l) := by
  conv => lhs; unfold runF
  unfold stepI
  cases ops.toList[i]? <;> rfl

theorem runF_append : ∀ (l l' : List Nat) (x : X), runF P cs n base ops (l ++ l') x = (runF P cs n base ops l x).bind (runF P cs n base ops l')
  | [], l', x => rfl
  | i :: l, l', x => by
    rw [List.cons_append, runF_cons, runF_cons, Option.bind_assoc]
    congr 1; funext y
    exact runF_append l l' y

theorem stepI_len {i : Nat} {x x' : X} (h : stepI P cs n base ops i x = some x') : x.2.length ≤ x'.2.length := by
  unfold stepI at h
  split at h
  · exact stepF_len h
  · cases h

/-- Memory has the room that was kept. -/
def Kept (P : Program) (base : Nat) (ops : Array Oper) (x : X) : Prop := makesAny P ops = true → base + ops.size ≤ x.2.length

theorem makesAny_of {i : Nat} {o : Oper} (h : ops.toList[i]? = some o) (hc : memClass P o = 2) : makesAny P ops = true := by
  unfold makesAny
  rw [List.any_eq_true]
  exact ⟨o, List.mem_of_getElem? h, by rw [hc]; rfl⟩

theorem apart_looks {a b : Oper} (h : a.apart ops b = true) : (∀ d, a.dst = some d → d ∉ b.looksAt ops) ∧ (∀ d, a.dst = some d → b.dst ≠ some d) ∧ (∀ d, b.dst = some d → d ∉ a.looksAt ops) := Oper.apart_spec h

theorem step_swap {j i : Nat} (hji : j < i) {oj oi : Oper} (hj : ops.toList[j]? = some oj) (hi : ops.toList[i]? = some oi) (hno : hasEdge oi j = false) (hc : commAt P ops j oj i oi = true)
    {x xj z : X} (hk : Kept P base ops x) (h1 : stepI P cs n base ops j x = some xj) (h2 : stepI P cs n base ops i xj = some z) :
    ∃ x1, stepI P cs n base ops i x = some x1 ∧ stepI P cs n base ops j x1 = some z := by
  unfold stepI at h1 h2 ⊢
  rw [hj] at h1 ⊢
  rw [hi] at h2 ⊢
  simp only at h1 h2 ⊢
  unfold stepF at h1 h2 ⊢
  rw [Option.map_eq_some_iff] at h1 h2
  obtain ⟨⟨vj, mj⟩, g1, rfl⟩ := h1
  obtain ⟨⟨vi, mi⟩, g2, rfl⟩ := h2
  have hap : oj.apart ops oi = true := by
    unfold commAt commOk commOk2 at hc
    rw [Bool.or_eq_true, Bool.and_eq_true, Bool.and_eq_true] at hc
    exact hc.elim (·.1) (·.1)
  obtain ⟨ap1, ap2, ap3⟩ := apart_looks hap
  simp only at g2
  rw [opF_congr (σ' := x.1) (fun t ht => upd_other (fun e => ap1 t e ht))] at g2
  have hlt : ∀ {q : Nat} {o : Oper}, ops.toList[q]? = some o → q < ops.size := by
    intro q o h
    rcases Nat.lt_or_ge q ops.size with h' | h'
    · exact h'
    · rw [List.getElem?_eq_none (by simpa using h')] at h; cases h
  have hsw : ∃ m1, opF P cs n base i ops (preOf P ops i oi (ops.toList.take i)) oi x.1 x.2 = some (vi, m1) ∧ opF P cs n base j ops (preOf P ops j oj (ops.toList.take j)) oj x.1 m1 = some (vj, mi) := by
    unfold commAt at hc
    rw [Bool.or_eq_true] at hc
    rcases hc with hc | hc
    · unfold commOk at hc
      rw [Bool.and_eq_true] at hc
      have hcl : memClass P oj = 0 ∨ memClass P oi = 0 ∨ (memClass P oj ≤ 2 ∧ memClass P oi ≤ 2) := by
        have := hc.2
        rw [Bool.or_eq_true, Bool.or_eq_true, Bool.and_eq_true] at this
        rcases this with h | h | h
        · exact .inl (Nat.eq_of_beq_eq_true h)
        · exact .inr (.inl (Nat.eq_of_beq_eq_true h))
        · exact .inr (.inr ⟨Nat.le_of_ble_eq_true h.1, Nat.le_of_ble_eq_true h.2⟩)
      exact mem_swap (base := base) (Nat.ne_of_lt hji) (preOf_get (by rw [List.getElem?_take, if_pos hji]; exact hj)) hno hcl
        (fun k1 k2 => by have := hk (makesAny_of hj k1); have := hlt hj; have := hlt hi; omega) g1 g2
    · unfold commOk2 at hc
      rw [Bool.and_eq_true, Bool.or_eq_true, Bool.and_eq_true, Bool.and_eq_true] at hc
      have hlj := hlt hj
      have hli := hlt hi
      refine mem_swap2 (base := base) ?_ g1 g2
      rcases hc.2 with ⟨h1, h2⟩ | ⟨h1, h2⟩
      · exact .inl ⟨(noView_class h1).1, noView_sees h1 (by rw [List.length_take]; simp; omega), h2⟩
      · exact .inr ⟨h1, (noView_class h2).1, noView_sees h2 (by rw [List.length_take]; simp; omega)⟩
  obtain ⟨m1, g3, g4⟩ := hsw
  refine ⟨_, by rw [g3]; rfl, ?_⟩
  simp only
  rw [opF_congr (σ' := x.1) (fun t ht => upd_other (fun e => ap3 t e ht)), g4, Option.map_some]
  rw [upd_comm (fun t e => ap2 t e)]

/-- An operation that is ready is carried out first. -/
theorem run_move {i : Nat} {oi : Oper} (hi : ops.toList[i]? = some oi) : ∀ (pre : List Nat) (x y : X), (∀ j ∈ pre, j < i ∧ hasEdge oi j = false ∧ ∀ oj, ops.toList[j]? = some oj → commAt P ops j oj i oi = true) → Kept P base ops x →
    runF P cs n base ops (pre ++ [i]) x = some y → ∃ x1, stepI P cs n base ops i x = some x1 ∧ runF P cs n base ops pre x1 = some y
  | [], x, y, _, _, h => by
    rw [List.nil_append, runF_cons, Option.bind_eq_some_iff] at h
    obtain ⟨x1, h1, h2⟩ := h
    exact ⟨x1, h1, h2⟩
  | j :: pre, x, y, hp, hk, h => by
    rw [List.cons_append, runF_cons, Option.bind_eq_some_iff] at h
    obtain ⟨xj, h1, h2⟩ := h
    obtain ⟨z, h3, h4⟩ := run_move hi pre xj y (fun q hq => hp q (by simp [hq])) (fun hm => Nat.le_trans (hk hm) (stepI_len h1)) h2
    obtain ⟨hlt, hno, hc⟩ := hp j (by simp)
    have hj : ∃ oj, ops.toList[j]? = some oj := by
      unfold stepI at h1
      cases hq : ops.toList[j]? with
      | none => rw [hq] at h1; cases h1
      | some oj => exact ⟨oj, rfl⟩
    obtain ⟨oj, hj⟩ := hj
    obtain ⟨x1, h5, h6⟩ := step_swap hlt hj hi hno (hc oj hj) hk h1 h3
    exact ⟨x1, h5, by rw [runF_cons, h6]; exact h4⟩

/-- What is known of a frame holds. -/
structure XRel (E : Env) (n B : Nat) (x : X) (a : Act) (w : World) : Prop where
  size : a.tmps.size = n
  defers : a.defers = []
  get : ∀ t v, x.1 t = some v → ∃ y, a.tmps[t]? = some y ∧ V.rel E v y
  mem : MemRel E B x.2 w

theorem XRel.vals {E : Env} {n B : Nat} {x : X} {a : Act} {w : World} (h : XRel E n B x a w) : Vals E (valsF x.1) a := by
  intro y v hv
  cases y with
  | tmp t =>
    obtain ⟨z, h1, h2⟩ := h.get t v hv
    have : a.eval (.tmp t) = z := by simp [Act.eval, Array.getD_eq_getD_getElem?, h1]
    rw [this]; exact h2
  | const c => exact absC_rel hv
  | global g => cases hv
  | func f =>
    cases hv
    simp only [V.rel]
    exact ⟨#[], rfl, by simp [V.relL]⟩

theorem XRel.put {E E' : Env} {n B : Nat} {x : X} {a : Act} {w w' : World} (h : XRel E n B x a w) (hE : E.Le E') {m' : Mem} (hm : MemRel E' B m' w') {d : Option Nat} (hd : dstOk d n = true) {v : Option V} {y : Value} (hv : ∀ u, v = some u → V.rel E' u y) :
    XRel E' n B (upd x.1 d v, m') (a.put d y) w' := by
  cases d with
  | none => exact ⟨h.size, h.defers, fun t u e => let ⟨z, h1, h2⟩ := h.get t u e; ⟨z, h1, V.rel_mono hE u z h2⟩, hm⟩
  | some d =>
    have hd : d < n := by simpa [dstOk, Nat.blt_eq] using hd
    refine ⟨by simp [Act.put, h.size], h.defers, fun t u e => ?_, hm⟩
    simp only [upd] at e
    simp only [Act.put]
    cases hb : Nat.beq d t with
    | true =>
      rw [hb, cond_true] at e
      have := Nat.eq_of_beq_eq_true hb
      subst this
      exact ⟨y, by simp [h.size, hd], hv u e⟩
    | false =>
      rw [hb, cond_false] at e
      have hne : d ≠ t := fun h => by subst h; simp at hb
      obtain ⟨z, h1, h2⟩ := h.get t u e
      exact ⟨z, by rw [Array.getElem?_setIfInBounds_ne hne]; exact h1, V.rel_mono hE u z h2⟩

theorem viewF_sub (pre : List Oper) (o : Oper) (m : Mem) : (viewF P base pre o m).Sub m := by
  unfold viewF
  cases seesAll P o pre 0 with
  | true => exact fun _ _ => rfl
  | false =>
    simp only [cond_false]
    intro id h
    unfold Mem.at List.getD at h ⊢
    rw [List.getElem?_take] at h ⊢
    split at h
    · rename_i hlt; rw [if_pos hlt]
    · exact absurd rfl h

theorem doF_eff {k : Nat} {pre : List Oper} {o : Oper} {σ : Nat → Option V} {m m' : Mem} {v : Option V} (h : doF P cs n base k pre o σ m = some (v, m')) : dstOk o.dst n = true ∧ Eff P o (valsF σ) m v m' := by
  have hq := h
  unfold doF at h
  obtain ⟨hd, h⟩ := gd_some h
  refine ⟨(Bool.and_eq_true_iff.1 hd).1, ?_⟩
  cases hb : Nat.beq (memClass P o) 1 with
  | false =>
    rw [hb, cond_false] at h
    obtain ⟨u, m2, h1, h2⟩ := opK_some h
    cases h1; exact h2
  | true =>
    have hc := Nat.eq_of_beq_eq_true hb
    rw [hb, cond_true] at h
    have hm := (doF_quiet hc hq).1
    subst hm
    have key := opK_nat (P := P) cs o (valsF σ) (bif seesAll P o pre 0 then m' else m'.take base) (base + k) (fun v _ => some v) (fun v => some (v, m'))
    simp only [Option.bind_some] at key
    rw [← key, Option.bind_eq_some_iff] at h
    obtain ⟨u, g1, g2⟩ := h
    cases g2
    have g3 := opK_ext (m' := m') hc (viewF_sub (base := base) pre o m') g1
    rw [opK_quiet hc (valsF σ) m' (base + k) (base + k)] at g3
    obtain ⟨u, m2, h1, h2⟩ := opK_some g3
    cases h1
    -- what an operation that only reads leaves is the memory that it found
    have g4 : (opK P cs o (valsF σ) m' (base + k) fun v m => some (v, m)) = some (v, m') := by
      rw [opK_quiet hc (valsF σ) m' (base + k) (base + k)]
      have key2 := opK_nat (P := P) cs o (valsF σ) m' (base + k) (fun v _ => some v) (fun v => some (v, m'))
      simp only [Option.bind_some] at key2
      rw [← key2]
      have g5 := opK_ext (m' := m') hc (viewF_sub (base := base) pre o m') g1
      rw [g5]; rfl
    obtain ⟨u, m3, h3, h4⟩ := opK_some g4
    cases h3
    exact h4

theorem stepF_ok {i : Nat} {o : Oper} (ho : ops[i]? = some o) {pre : List Oper} {x x' : X} (h : stepF P cs n base i ops pre o x = some x') {E : Env} {B : Nat} {a : Act} {w : World} {Q : Exit → Act → World → Prop} {K : Act → World → Prop}
    (hx : XRel E n B x a w) (hk : ∀ E' w' a', XRel E' n B x' a' w' → Good B E w E' w' → K a' w') : wpOp P ops Q i K a w := by
  unfold stepF at h
  rw [Option.map_eq_some_iff] at h
  obtain ⟨⟨v, m'⟩, h1, rfl⟩ := h
  have run : Region.wanted o (yielded ops a.tmps) = true → doF P cs n base i pre o x.1 x.2 = some (v, m') → wpOp P ops Q i K a w := by
    intro hw hd
    obtain ⟨hdst, heff⟩ := doF_eff hd
    unfold wpOp
    rw [ho]
    simp only [hw, if_true]
    exact .inl (heff E B w a K Q hx.vals hx.mem fun y w' E' hv hm hg => hk E' w' _ (hx.put hg.le hm hdst hv) hg)
  have skip : Region.wanted o (yielded ops a.tmps) = false → gd (dstOk o.dst n) (some (some (V.tup []), x.2)) = some (v, m') → wpOp P ops Q i K a w := by
    intro hw hd
    obtain ⟨hdst, hd⟩ := gd_some hd
    cases hd
    unfold wpOp
    rw [ho]
    simp only [hw, Bool.false_eq_true, if_false]
    exact hk E w _ (hx.put (.refl E) hx.mem hdst (fun u e => by cases e; exact undef_rel)) (.refl B E w)
  unfold opF at h1
  cases hg : o.guard with
  | none =>
    rw [hg] at h1
    exact run (by simp [Region.wanted, hg]) h1
  | some jw =>
    obtain ⟨j, want⟩ := jw
    rw [hg] at h1
    simp only at h1
    cases ht : guardTmp ops j with
    | none => rw [ht] at h1; cases h1
    | some t =>
      rw [ht] at h1
      simp only at h1
      cases hs : x.1 t with
      | none => rw [hs] at h1; cases h1
      | some u =>
        rw [hs] at h1
        cases u with
        | bool b =>
          simp only at h1
          obtain ⟨y, k1, k2⟩ := hx.get t _ hs
          simp only [V.rel] at k2
          subst k2
          have hy : yielded ops a.tmps j = some b := by
            unfold guardTmp at ht
            simp [yielded, ht, k1]
          have hw : Region.wanted o (yielded ops a.tmps) = (b == want) := by
            simp only [Region.wanted, hg, hy]
            cases b <;> cases want <;> rfl
          cases hb : b == want
          · rw [hb, cond_false] at h1
            exact skip (by rw [hw, hb]) h1
          · rw [hb, cond_true] at h1
            exact run (by rw [hw, hb]) h1
        | tup l => cases l with
          | nil =>
            simp only at h1
            obtain ⟨y, k1, k2⟩ := hx.get t _ hs
            have k2 := rel_undef k2
            subst k2
            have hy : yielded ops a.tmps j = none := by
              unfold guardTmp at ht
              simp [yielded, ht, k1, undef]
            exact skip (by simp [Region.wanted, hg, hy]) h1
          | cons => cases h1
        | _ => cases h1

/-- The places that are not listed yet. -/
def rem (ops : Array Oper) (listed : Array Bool) : List Nat := (List.range ops.size).filter fun i => !listed.getD i true

theorem rem_lt (ops : Array Oper) (listed : Array Bool) : (rem ops listed).Pairwise (· < ·) := List.Pairwise.filter _ List.pairwise_lt_range

theorem drawOkRow_get {i : Nat} : ∀ {l : List Oper} {o : Oper} {s : Nat}, drawOkRow P ops i o l s = true → ∀ q p, l[q]? = some p → hasEdge o (s + q) = true ∨ commAt P ops (s + q) p i o = true ∨ hasPath ops 8 o (s + q) = true
  | [], o, s, _, q, p, h => by simp at h
  | p' :: l, o, s, hr, q, p, h => by
    unfold drawOkRow at hr
    rw [Bool.and_eq_true, Bool.or_eq_true, Bool.or_eq_true] at hr
    cases q with
    | zero => simp at h; subst h; simpa using hr.1
    | succ q =>
      simp at h
      have := drawOkRow_get hr.2 q p h
      rwa [show s + 1 + q = s + (q + 1) by omega] at this

theorem drawOkAll_get : ∀ {l pre : List Oper} {k : Nat}, ops.toList = pre ++ l → pre.length = k → drawOkAll P ops pre l k = true →
    ∀ i o, k ≤ i → ops.toList[i]? = some o → (∀ e ∈ o.after.toList, Region.binds .any e = true → e.on < i) ∧ ∀ j p, j < i → ops.toList[j]? = some p → hasEdge o j = true ∨ commAt P ops j p i o = true ∨ hasPath ops 8 o j = true
  | [], pre, k, ho, hk, _, i, o, hi, h => by
    rw [ho, List.append_nil, List.getElem?_eq_none (by omega)] at h; cases h
  | q :: l, pre, k, ho, hk, hd, i, o, hi, h => by
    unfold drawOkAll at hd
    rw [Bool.and_eq_true, Bool.and_eq_true] at hd
    obtain ⟨h1, h2, h3⟩ := hd
    by_cases e : i = k
    · subst e
      have : q = o := by
        rw [ho, ← hk, List.getElem?_append_right (Nat.le_refl _)] at h
        simpa using h
      subst this
      refine ⟨fun e he hb => ?_, fun j p hj hp => ?_⟩
      · rw [List.all_eq_true] at h1
        have := h1 e he
        rw [hb] at this
        simpa [Nat.blt_eq] using this
      · have hp' : pre[j]? = some p := by
          rw [ho, List.getElem?_append_left (by omega)] at hp; exact hp
        have := drawOkRow_get h2 j p hp'
        rwa [Nat.zero_add] at this
    · exact drawOkAll_get (l := l) (pre := pre ++ [q]) (by simp [ho]) (by simp [hk]) h3 i o (by omega) h

theorem drawOk_get (h : drawOk P ops = true) {i : Nat} {o : Oper} (ho : ops.toList[i]? = some o) :
    (∀ e ∈ o.after.toList, Region.binds .any e = true → e.on < i) ∧ ∀ j p, j < i → ops.toList[j]? = some p → hasEdge o j = true ∨ commAt P ops j p i o = true ∨ hasPath ops 8 o j = true :=
  drawOkAll_get (l := ops.toList) (pre := []) rfl rfl h i o (Nat.zero_le _) ho

theorem ready_iff {listed : Array Bool} {i : Nat} : i ∈ Region.ready .any ops listed ↔ i ∈ rem ops listed ∧ ((ops[i]?).map (·.after.all fun e => !Region.binds .any e || listed.getD e.on false)).getD false = true := by
  unfold Region.ready rem
  simp only [List.mem_filter, Bool.and_eq_true]
  constructor
  · rintro ⟨h1, h2, h3⟩; exact ⟨⟨h1, h2⟩, h3⟩
  · rintro ⟨⟨h1, h2⟩, h3⟩; exact ⟨h1, h2, h3⟩

theorem path_listed {listed : Array Bool} (hcl : ∀ k o, ops[k]? = some o → listed.getD k false = true → ∀ e ∈ o.after.toList, Region.binds .any e = true → listed.getD e.on false = true) {j : Nat}
    (d : Nat) (o : Oper) (ho : ∀ e ∈ o.after.toList, Region.binds .any e = true → listed.getD e.on false = true) (h : hasPath ops d o j = true) : listed.getD j false = true := by
  -- what is told of each operation ahead
  let Inv : List Nat → Prop := fun acc => ∀ k m, acc[k]? = some m → listed.getD k false = true → ∀ q, m.testBit q = true → listed.getD q false = true
  have mask : ∀ (acc : List Nat) (l : List Edge), Inv acc → (∀ e ∈ l, Region.binds .any e = true → listed.getD e.on false = true) → ∀ q, (edgesMask acc l).testBit q = true → listed.getD q false = true := by
    intro acc l hacc
    induction l with
    | nil => intro _ q hq; simp [edgesMask] at hq
    | cons e l ih =>
      intro hl q hq
      unfold edgesMask at hq
      cases hb : Region.binds .any e with
      | false =>
        rw [hb, cond_false] at hq
        exact ih (fun e' he' => hl e' (by simp [he'])) q hq
      | true =>
        rw [hb, cond_true] at hq
        have hq' : (((1 <<< e.on) ||| acc.getD e.on 0) ||| edgesMask acc l).testBit q = true := hq
        rw [Nat.testBit_or, Nat.testBit_or, Bool.or_eq_true, Bool.or_eq_true] at hq'
        have he := hl e (by simp) hb
        rcases hq' with (h1 | h1) | h1
        · rw [Nat.testBit_shiftLeft, Bool.and_eq_true, decide_eq_true_eq] at h1
          have : q = e.on := by
            have h2 := h1.2
            rw [Nat.testBit_one_eq_true_iff_self_eq_zero] at h2
            have := h1.1
            omega
          rw [this]; exact he
        · rw [List.getD_eq_getElem?_getD] at h1
          cases hk : acc[e.on]? with
          | none => rw [hk] at h1; simp at h1
          | some m => rw [hk] at h1; exact hacc _ m hk he q h1
        · exact ih (fun e' he' => hl e' (by simp [he'])) q h1
  have build : ∀ (l : List Oper) (acc : List Nat), (∀ i o, l[i]? = some o → ops[acc.length + i]? = some o) → Inv acc → Inv (aheadL l acc) := by
    intro l
    induction l with
    | nil => intro acc _ hacc; exact hacc
    | cons p l ih =>
      intro acc hops hacc
      unfold aheadL
      refine ih _ (fun i o hi => ?_) ?_
      · have := hops (i + 1) o (by simpa using hi)
        rw [List.length_append, List.length_singleton]
        rwa [show acc.length + (i + 1) = acc.length + 1 + i by omega] at this
      · intro k m hk hlist q hq
        rcases Nat.lt_or_ge k acc.length with h1 | h1
        · rw [List.getElem?_append_left h1] at hk
          exact hacc k m hk hlist q hq
        · rw [List.getElem?_append_right h1] at hk
          have hk0 : k - acc.length = 0 := by
            rcases Nat.eq_zero_or_pos (k - acc.length) with h2 | h2
            · exact h2
            · rw [List.getElem?_eq_none (by simp; omega)] at hk; cases hk
          rw [hk0] at hk
          simp at hk
          subst hk
          have hp := hops 0 p (by simp)
          rw [Nat.add_zero] at hp
          have hkk : k = acc.length := by omega
          subst hkk
          exact mask acc p.after.toList hacc (hcl _ p hp hlist) q hq
  unfold hasPath at h
  rw [bitB_eq] at h
  exact mask _ o.after.toList (build ops.toList [] (fun i o hi => by simpa using hi) (fun k m hk => by simp at hk)) ho j h

theorem any_sound (hd : drawOk P ops = true) {Q : Exit → Act → World → Prop} {xf : X} {B : Nat} : ∀ (fuel : Nat) (listed : Array Bool) (x : X) (E : Env) (a : Act) (w : World),
    listed.size = ops.size → (∀ k o, ops[k]? = some o → listed.getD k false = true → ∀ e ∈ o.after.toList, Region.binds .any e = true → listed.getD e.on false = true) → (rem ops listed).length ≤ fuel → Kept P base ops x → runF P cs n base ops (rem ops listed) x = some xf → XRel E n B x a w →
    (∀ E' w' a', XRel E' n B xf a' w' → Good B E w E' w' → Q .normal a' w') → wpAny P .any ops Q fuel listed a w := by
  have none_left : ∀ (listed : Array Bool), rem ops listed = [] → Region.ready .any ops listed = [] := by
    intro listed h
    rw [List.eq_nil_iff_forall_not_mem]
    intro i hi
    rw [ready_iff, h] at hi
    cases hi.1
  have some_ready : ∀ (listed : Array Bool), listed.size = ops.size → Region.ready .any ops listed = [] → rem ops listed = [] := by
    intro listed hsz h
    cases hr : rem ops listed with
    | nil => rfl
    | cons i rest =>
      exfalso
      have hi : i ∈ rem ops listed := by rw [hr]; simp
      have hrange : i < ops.size := by unfold rem at hi; rw [List.mem_filter] at hi; simpa using hi.1
      have hready : i ∈ Region.ready .any ops listed := by
        rw [ready_iff]
        refine ⟨hi, ?_⟩
        have ho : ops[i]? = some ops[i] := by simp [hrange]
        rw [ho, Option.map_some, Option.getD_some, Array.all_eq_true_iff_forall_mem]
        intro e he
        cases hb : Region.binds .any e with
        | false => rfl
        | true =>
          have hlt := (drawOk_get hd (i := i) (o := ops[i]) (by simp [hrange])).1 e (by simpa using he) hb
          have hnot : e.on ∉ rem ops listed := by
            intro hm
            have hp := rem_lt ops listed
            rw [hr] at hm hp
            rw [List.pairwise_cons] at hp
            rcases List.mem_cons.1 hm with h1 | h1
            · omega
            · have := hp.1 _ h1; omega
          have hl : listed.getD e.on true = true := by
            unfold rem at hnot
            rw [List.mem_filter, not_and] at hnot
            have := hnot (by simp; omega)
            simpa using this
          have h2 : e.on < listed.size := by omega
          simp only [Array.getD_eq_getD_getElem?, Array.getElem?_eq_getElem h2, Option.getD_some] at hl ⊢
          rw [hl]; rfl
      rw [h] at hready
      cases hready
  intro fuel
  induction fuel with
  | zero =>
    intro listed x E a w hsz hcl hlen hk hrun hx hQ
    have hr : rem ops listed = [] := List.length_eq_zero_iff.1 (Nat.le_zero.1 hlen)
    rw [hr] at hrun
    cases hrun
    exact ⟨none_left _ hr, hQ E w a hx (.refl B E w)⟩
  | succ fuel ih =>
    intro listed x E a w hsz hcl hlen hk hrun hx hQ
    refine ⟨fun h => ?_, fun i hi => ?_⟩
    · have hr := some_ready listed hsz h
      rw [hr] at hrun
      cases hrun
      exact hQ E w a hx (.refl B E w)
    · rw [ready_iff] at hi
      obtain ⟨hi, hedges⟩ := hi
      have hrange : i < ops.size := by unfold rem at hi; rw [List.mem_filter] at hi; simpa using hi.1
      have hoi : ops.toList[i]? = some ops[i] := by simp [hrange]
      obtain ⟨pre, post, hsplit⟩ := List.append_of_mem hi
      have hpw := rem_lt ops listed
      rw [hsplit] at hpw hrun
      rw [List.pairwise_append] at hpw
      obtain ⟨_, hpw2, hpw3⟩ := hpw
      rw [List.pairwise_cons] at hpw2
      have hpre : ∀ j ∈ pre, j < i := fun j hj => hpw3 j hj i (by simp)
      have hpost : ∀ j ∈ post, i < j := hpw2.1
      have hcond : ∀ j ∈ pre, j < i ∧ hasEdge ops[i] j = false ∧ ∀ oj, ops.toList[j]? = some oj → commAt P ops j oj i ops[i] = true := by
        intro j hj
        have hlt := hpre j hj
        have hun : listed.getD j true = false := by
          have : j ∈ rem ops listed := by rw [hsplit]; simp [hj]
          unfold rem at this
          rw [List.mem_filter] at this
          simpa using this.2
        have hno : hasEdge ops[i] j = false := by
          cases he : hasEdge ops[i] j with
          | false => rfl
          | true =>
            exfalso
            unfold hasEdge at he
            rw [List.any_eq_true] at he
            obtain ⟨e, he1, he2⟩ := he
            rw [Bool.and_eq_true] at he2
            have hon := Nat.eq_of_beq_eq_true he2.2
            have ho : ops[i]? = some ops[i] := by simp [hrange]
            rw [ho, Option.map_some, Option.getD_some, Array.all_eq_true_iff_forall_mem] at hedges
            have := hedges e (by simpa using he1)
            rw [he2.1, hon] at this
            have h2 : j < listed.size := by omega
            simp only [Array.getD_eq_getD_getElem?, Array.getElem?_eq_getElem h2, Option.getD_some] at hun this
            rw [hun] at this
            cases this
        refine ⟨hlt, hno, fun oj hoj => ?_⟩
        rcases (drawOk_get hd hoi).2 j oj hlt hoj with h | h | h
        · rw [hno] at h; cases h
        · exact h
        · exfalso
          have ho : ops[i]? = some ops[i] := by simp [hrange]
          have hedges' := hedges
          rw [ho, Option.map_some, Option.getD_some, Array.all_eq_true_iff_forall_mem] at hedges'
          have := path_listed hcl 8 ops[i] (fun e he hb => by
            have := hedges' e (by simpa using he)
            rw [hb] at this
            simpa using this) h
          have h2 : j < listed.size := by omega
          simp only [Array.getD_eq_getD_getElem?, Array.getElem?_eq_getElem h2, Option.getD_some] at hun this
          rw [hun] at this
          cases this
      rw [show pre ++ i :: post = (pre ++ [i]) ++ post by simp, runF_append, Option.bind_eq_some_iff] at hrun
      obtain ⟨y, h1, h2⟩ := hrun
      obtain ⟨x1, h3, h4⟩ := run_move hoi pre x y hcond hk h1
      have hrest : runF P cs n base ops (pre ++ post) x1 = some xf := by rw [runF_append, h4]; exact h2
      have hrem : rem ops (listed.setIfInBounds i true) = pre ++ post := by
        have e1 : rem ops (listed.setIfInBounds i true) = (rem ops listed).filter fun j => decide (j ≠ i) := by
          unfold rem
          rw [List.filter_filter]
          apply List.filter_congr
          intro j hj
          have hjs : j < listed.size := by rw [hsz]; simpa using hj
          by_cases e : j = i
          · subst e
            simp [Array.getD_eq_getD_getElem?, hjs]
          · have hne : i ≠ j := fun h => e h.symm
            simp only [Array.getD_eq_getD_getElem?, Array.getElem?_setIfInBounds_ne hne, ne_eq, e, not_false_eq_true, decide_true, Bool.true_and]
        rw [e1, hsplit, List.filter_append, List.filter_cons]
        have f1 : pre.filter (fun j => decide (j ≠ i)) = pre := by
          rw [List.filter_eq_self]; intro j hj; have := hpre j hj; simp; omega
        have f2 : post.filter (fun j => decide (j ≠ i)) = post := by
          rw [List.filter_eq_self]; intro j hj; have := hpost j hj; simp; omega
        rw [f1, f2]
        simp
      unfold stepI at h3
      rw [hoi] at h3
      simp only at h3
      refine stepF_ok (by simp [hrange]) h3 hx fun E' w' a' hx' hg => ?_
      refine ih _ x1 E' a' w' (by simp [hsz]) ?cl ?_ (fun hm => Nat.le_trans (hk hm) (stepF_len h3)) (by rw [hrem]; exact hrest) hx' fun E'' w'' a'' k1 k2 => hQ E'' w'' a'' k1 (hg.trans k2)
      case cl =>
        have ho : ops[i]? = some ops[i] := by simp [hrange]
        have hedges' := hedges
        rw [ho, Option.map_some, Option.getD_some, Array.all_eq_true_iff_forall_mem] at hedges'
        have up : ∀ k, listed.getD k false = true → (listed.setIfInBounds i true).getD k false = true := by
          intro k hk
          simp only [Array.getD_eq_getD_getElem?, Array.getElem?_setIfInBounds] at hk ⊢
          split
          · split
            · rfl
            · rename_i h1 h2; subst h1; rw [Array.getElem?_eq_none (by omega)] at hk; cases hk
          · exact hk
        intro k o hko hl e he hb
        apply up
        by_cases hki : i = k
        · subst hki
          rw [ho] at hko; cases hko
          have := hedges' e (by simpa using he)
          rw [hb] at this
          simpa using this
        · refine hcl k o hko ?_ e he hb
          simp only [Array.getD_eq_getD_getElem?, Array.getElem?_setIfInBounds, hki, if_false] at hl ⊢
          exact hl
      rw [hrem]
      rw [hsplit] at hlen
      simp only [List.length_append, List.length_cons] at hlen ⊢
      omega

end

theorem at_frees (m : Mem) (q : Nat) : ∀ id, Mem.at (m ++ List.replicate q .free) id = m.at id := by
  intro id
  unfold Mem.at List.getD
  rw [List.getElem?_append]
  split
  · rfl
  · rename_i h
    rw [List.getElem?_eq_none (Nat.le_of_not_lt h), Option.getD_none, List.getElem?_replicate]
    split <;> rfl

theorem MemRel.of_at {E : Env} {B : Nat} {m m' : Mem} {w : World} (h : MemRel E B m w) (he : ∀ id, m'.at id = m.at id) : MemRel E B m' w where
  size := h.size
  cells id l e := h.cells id l (by rw [← he]; exact e)
  maps id es e := h.maps id es (by rw [← he]; exact e)
  place id b o hl e := h.place id b o (by rw [← he]; exact hl) e
  lt := h.lt
  apart id id' b o o' h1 h2 e1 e2 := h.apart id id' b o o' (by rw [← he]; exact h1) (by rw [← he]; exact h2) e1 e2
  free id e := h.free id (by rw [← he]; exact e)
  imm := h.imm
  tot id l b o e e' := h.tot id l b o (by rw [← he]; exact e) e'
  row id l b o e e' := h.row id l b o (by rw [← he]; exact e) e'

section
variable {R : Type} {P : Program} {cs : List (Ctr P)} {n : Nat} {ops : Array Oper}

theorem evDraw_some (hmix : P.follows .mixedOrders = true) {st : St} {K : St → Option R} {r : R} (h : evDraw P cs n ops st K = some r) :
    ∃ st', K st' = some r ∧ ∀ (id : Nat) E B w a Q, TRel E n st.tm a → MemRel E B st.m w →
      (∀ E' w' a', TRel E' n st'.tm a' → MemRel E' B st'.m w' → Good B E w E' w' → Q .normal a' w') → (Code.region id ops true).wp P Q a w := by
  obtain ⟨hd, h⟩ := gd_some h
  obtain ⟨st', h1, h2⟩ := evDrawL_some (ops := ops) (l := ops.toList) (pre := []) rfl rfl h
  refine ⟨st', h2, fun id E B w a Q ht hm hQ => wp_region_any hmix ?_⟩
  have hm' : MemRel E B (bif makesAny P ops then st.m ++ List.replicate ops.size .free else st.m) w := by
    cases makesAny P ops with
    | true => exact hm.of_at (at_frees _ _)
    | false => exact hm
  have hrem : rem ops (Array.replicate ops.size false) = List.range ops.size := by
    unfold rem
    rw [List.filter_eq_self]
    intro i hi
    have : i < ops.size := by simpa using hi
    simp [Array.getD_eq_getD_getElem?, this]
  have hdrew : MemRel E B (bif makesAny P ops then st.m ++ List.replicate ops.size .free else st.m) { w with drawn := w.drawn + 1 } := hm'.stay (Nat.le_refl _) fun _ _ => rfl
  refine any_sound hd (base := st.m.length) (cs := cs) (n := n) (xf := st'.abs) (B := B) ops.size (Array.replicate ops.size false) ((St.mk st.tm (bif makesAny P ops then st.m ++ List.replicate ops.size Blk.free else st.m)).abs) E a _ (by simp) (fun k o _ hl => by simp only [Array.getD_eq_getD_getElem?, Array.getElem?_replicate] at hl; split at hl <;> cases hl) (by rw [hrem]; simp) ?_ ?_ ⟨ht.size, ht.defers, ht.get, hdrew⟩ ?_
  · intro hk
    simp only [St.abs, hk, cond_true, List.length_append, List.length_replicate]
    exact Nat.le_refl _
  · rw [hrem, List.range_eq_range']
    simpa using h1
  · intro E' w' a' hx hg
    refine hQ E' w' a' ⟨hx.size, hx.defers, hx.get⟩ hx.mem ⟨hg.le, ?_, hg.fresh⟩
    have : Below B w { w with drawn := w.drawn + 1 } := (Below.refl B w).drew
    exact this.trans hg.below

end
end Go.Rx
