/- Regions whose order is open: the theorem. -/
import Derived.Test.YteahnnchfegknaaRxDraw2
set_option linter.unusedVariables false
set_option linter.unusedSimpArgs false
namespace Go.Rx
open Go.RowKit (Below)

section
variable {P : Program} {cs : List (Ctr P)} {n base : Nat} {ops : Array Oper}

def viewF (P : Program) (base : Nat) (pre : List Oper) (o : Oper) (m : Mem) : Mem := bif seesAll P o pre 0 then m else m.take base

theorem doF_quiet {k : Nat} {pre : List Oper} {o : Oper} (hc : memClass P o = 1) {σ : Nat → Option V} {m m' : Mem} {v : Option V} (h : doF P cs n base k pre o σ m = some (v, m')) :
    m' = m ∧ ∀ m2, (viewF P base pre o m).Sub (viewF P base pre o m2) → doF P cs n base k pre o σ m2 = some (v, m2) := by
  unfold doF at h
  obtain ⟨hd, h⟩ := gd_some h
  have h1 : Nat.beq (memClass P o) 1 = true := by rw [hc]; rfl
  rw [h1, cond_true] at h
  have key : ∀ m0 m1 : Mem, (opK P cs o (valsF σ) m1 (base + k) fun v _ => some (v, m0)) = (opK P cs o (valsF σ) m1 (base + k) fun v _ => some v).bind fun v => some (v, m0) := by
    intro m0 m1
    have := opK_nat (P := P) cs o (valsF σ) m1 (base + k) (fun v _ => some v) (fun v => some (v, m0))
    simp only [Option.bind_some] at this
    exact this.symm
  rw [key, Option.bind_eq_some_iff] at h
  obtain ⟨u, g1, g2⟩ := h
  cases g2
  refine ⟨rfl, fun m2 hs => ?_⟩
  unfold doF gd
  rw [hd, h1, cond_true, cond_true, key, Option.bind_eq_some_iff]
  exact ⟨_, opK_ext hc hs g1, rfl⟩

/-- An operation that makes a block, whatever memory is there. -/
theorem opK_makes {o : Oper} (hc : memClass P o = 2) (ρ : Operand → Option V) (id : Nat) :
    ∃ res : Option (V × Blk), ∀ {R : Type} (m : Mem) (K : Option V → Mem → Option R), opK P cs o ρ m id K = match res with | some (v, b) => gd (m.room id) (K (some v) (m.put id b)) | none => none := by
  unfold memClass at hc
  split at hc <;> first
    | cases hc; done
    | skip
  · rename_i s0 d0 x0 ho
    cases hb : bareConv P s0 d0 <;> rw [hb] at hc <;> cases hc
  · rename_i t0 x0 lo0 hi0 mx0 ho
    cases hb : bareSlice P t0 <;> rw [hb] at hc <;> cases hc
  · rename_i t ho
    cases hz : zeroV P t with
    | none => exact ⟨none, fun m K => by simp [opK, ho, allocK, hz]⟩
    | some v => exact ⟨some (.ptr id 0, .cells v.cells), fun m K => by simp [opK, ho, allocK, hz]⟩
  · rename_i t x ho
    cases hx : ρ x with
    | none => exact ⟨none, fun m K => by simp [opK, ho, hx, valK]⟩
    | some v => exact ⟨some (.ptr id 0, .cells v.cells), fun m K => by simp [opK, ho, hx, valK, boxK]⟩
  · rename_i t len ps ho
    cases hp : partsK ρ ps.toList fun l => some l with
    | none =>
      refine ⟨none, fun {R} m K => ?_⟩
      have := partsK_nat (R := List (Nat × V)) (S := R) ρ ps.toList (fun l => some l) (fun l => buildSliceK P t len l m id fun v m' => K (some v) m')
      rw [hp] at this
      simp only [Option.bind_some, Option.bind_none] at this
      simp only [opK, ho]
      exact this.symm
    | some l =>
      have hk : ∀ {R : Type} (m : Mem) (K : Option V → Mem → Option R), opK P cs o ρ m id K = buildSliceK P t len l m id fun v m' => K (some v) m' := by
        intro R m K
        have := partsK_nat (R := List (Nat × V)) (S := R) ρ ps.toList (fun l => some l) (fun l => buildSliceK P t len l m id fun v m' => K (some v) m')
        rw [hp] at this
        simp only [Option.bind_some] at this
        simp only [opK, ho]
        exact this.symm
      cases hu : P.underlying t with
      | none => exact ⟨none, fun m K => by rw [hk]; simp [buildSliceK, hu]⟩
      | some d =>
        by_cases hsl : ∃ e, d = .slice e
        case neg =>
          refine ⟨none, fun m K => ?_⟩
          rw [hk]
          unfold buildSliceK
          rw [hu]
          cases d <;> first | rfl | exact absurd ⟨_, rfl⟩ hsl
        obtain ⟨e, rfl⟩ := hsl
        cases hs : szOf P e with
        | none => exact ⟨none, fun m K => by rw [hk]; simp [buildSliceK, hu, hs]⟩
        | some q =>
          cases hz : zeroV P e with
          | none => exact ⟨none, fun m K => by rw [hk]; simp [buildSliceK, hu, hs, hz]⟩
          | some z =>
            cases hf : fillV (fun i => some (i * q, q)) (rep len z.cells) l with
            | none => exact ⟨none, fun m K => by rw [hk]; simp [buildSliceK, hu, hs, hz, hf]⟩
            | some l' =>
              cases hb : (Nat.beq z.cells.length q && (Nat.blt 0 q && Nat.ble (len * q) 16777216)) with
              | false =>
                refine ⟨none, fun m K => ?_⟩
                rw [hk]
                simp only [buildSliceK, hu, hs, hz, hf]
                have : (Nat.beq z.cells.length q && (Nat.blt 0 q && (Nat.ble (len * q) 16777216 && m.room id))) = false := by
                  revert hb
                  cases Nat.beq z.cells.length q <;> cases Nat.blt 0 q <;> cases Nat.ble (len * q) 16777216 <;> simp
                rw [this]; rfl
              | true =>
                refine ⟨some (.sl id q 0 len (some len), .cells l'), fun m K => ?_⟩
                rw [hk]
                simp only [buildSliceK, hu, hs, hz, hf]
                have : (Nat.beq z.cells.length q && (Nat.blt 0 q && (Nat.ble (len * q) 16777216 && m.room id))) = m.room id := by
                  revert hb
                  cases Nat.beq z.cells.length q <;> cases Nat.blt 0 q <;> cases Nat.ble (len * q) 16777216 <;> simp
                rw [this]
  · rename_i c ho
    split at hc
    · split at hc <;> cases hc
    · cases hc
    · cases hc

theorem opF_quiet {k : Nat} {pre : List Oper} {o : Oper} (hc : memClass P o = 1) {σ : Nat → Option V} {m m' : Mem} {v : Option V} (h : opF P cs n base k ops pre o σ m = some (v, m')) :
    m' = m ∧ ∀ m2, (viewF P base pre o m).Sub (viewF P base pre o m2) → opF P cs n base k ops pre o σ m2 = some (v, m2) := by
  unfold opF at h ⊢
  cases hg : o.guard with
  | none => rw [hg] at h; exact doF_quiet hc h
  | some jw =>
    obtain ⟨j, want⟩ := jw
    rw [hg] at h
    simp only at h ⊢
    cases ht : guardTmp ops j with
    | none => rw [ht] at h; cases h
    | some t =>
      rw [ht] at h
      simp only at h ⊢
      cases hs : σ t with
      | none => rw [hs] at h; cases h
      | some u =>
        rw [hs] at h
        cases u with
        | bool b =>
          simp only at h ⊢
          cases hb : b == want
          · rw [hb, cond_false] at h
            obtain ⟨hd, h⟩ := gd_some h
            cases h
            simp only [cond_false]
            exact ⟨trivial, fun m2 _ => by unfold gd; rw [hd]; rfl⟩
          · rw [hb, cond_true] at h
            simp only [cond_true]
            exact doF_quiet hc h
        | tup l => cases l with
          | nil =>
            simp only at h ⊢
            obtain ⟨hd, h⟩ := gd_some h
            cases h
            exact ⟨rfl, fun m2 _ => by unfold gd; rw [hd]; rfl⟩
          | cons => cases h
        | _ => cases h

theorem doF_makes {k : Nat} {pre : List Oper} {o : Oper} (hc : memClass P o = 2) {σ : Nat → Option V} {m m' : Mem} {v : Option V} (h : doF P cs n base k pre o σ m = some (v, m')) :
    m.room (base + k) = true ∧ ∃ b, m' = m.put (base + k) b ∧ ∀ m2 : Mem, m2.room (base + k) = true → doF P cs n base k pre o σ m2 = some (v, m2.put (base + k) b) := by
  unfold doF at h
  obtain ⟨hd, h⟩ := gd_some h
  have h1 : Nat.beq (memClass P o) 1 = false := by rw [hc]; rfl
  obtain ⟨res, hres⟩ := opK_makes (P := P) (cs := cs) hc (valsF σ) (base + k)
  rw [h1, cond_false, hres] at h
  cases res with
  | none => cases h
  | some vb =>
    obtain ⟨u, b⟩ := vb
    obtain ⟨hr, h⟩ := gd_some h
    cases h
    refine ⟨hr, b, rfl, fun m2 hr2 => ?_⟩
    unfold doF gd
    rw [hd, h1, cond_true, cond_false, hres]
    simp only [gd, hr2, cond_true]

theorem opF_makes {k : Nat} {pre : List Oper} {o : Oper} (hc : memClass P o = 2) {σ : Nat → Option V} {m m' : Mem} {v : Option V} (h : opF P cs n base k ops pre o σ m = some (v, m')) :
    (m' = m ∧ ∀ m2, opF P cs n base k ops pre o σ m2 = some (v, m2)) ∨
    (m.room (base + k) = true ∧ ∃ b, m' = m.put (base + k) b ∧ ∀ m2 : Mem, m2.room (base + k) = true → opF P cs n base k ops pre o σ m2 = some (v, m2.put (base + k) b)) := by
  unfold opF at h ⊢
  cases hg : o.guard with
  | none => rw [hg] at h; exact .inr (doF_makes hc h)
  | some jw =>
    obtain ⟨j, want⟩ := jw
    rw [hg] at h
    simp only at h ⊢
    cases ht : guardTmp ops j with
    | none => rw [ht] at h; cases h
    | some t =>
      rw [ht] at h
      simp only at h ⊢
      cases hs : σ t with
      | none => rw [hs] at h; cases h
      | some u =>
        rw [hs] at h
        cases u with
        | bool b =>
          simp only at h ⊢
          cases hb : b == want
          · rw [hb, cond_false] at h
            obtain ⟨hd, h⟩ := gd_some h
            cases h
            simp only [cond_false]
            exact .inl ⟨trivial, fun m2 => by unfold gd; rw [hd]; rfl⟩
          · rw [hb, cond_true] at h
            simp only [cond_true]
            exact .inr (doF_makes hc h)
        | tup l => cases l with
          | nil =>
            simp only at h ⊢
            obtain ⟨hd, h⟩ := gd_some h
            cases h
            exact .inl ⟨rfl, fun m2 => by unfold gd; rw [hd]; rfl⟩
          | cons => cases h
        | _ => cases h

theorem take_put {m : Mem} {base i : Nat} {b : Blk} (hr : m.room (base + i) = true) : (m.put (base + i) b).take base = m.take base := by
  obtain ⟨_, hle⟩ := Mem.room_free hr
  unfold Mem.put
  cases h : Nat.blt (base + i) m.length with
  | true => rw [cond_true, List.take_set_of_le (by omega)]
  | false =>
    rw [cond_false]
    rw [List.take_append_of_le_length (by omega)]

theorem sub_put {m : Mem} {id : Nat} {b : Blk} (hr : m.room id = true) : m.Sub (m.put id b) := by
  obtain ⟨hf, hle⟩ := Mem.room_free hr
  intro id' h
  rw [Mem.at_put hle]
  by_cases e : id = id'
  · subst e; exact absurd hf h
  · rw [if_neg e]

theorem put_lt {m : Mem} {id : Nat} {b : Blk} (h : id < m.length) : m.put id b = m.set id b := by
  unfold Mem.put
  have : Nat.blt id m.length = true := by simpa [Nat.blt_eq] using h
  rw [this, cond_true]

theorem room_set {m : Mem} {id id' : Nat} {b : Blk} (h : id ≠ id') (hlt : id' < m.length) : Mem.room (m.set id b) id' = m.room id' := by
  unfold Mem.room
  rw [List.length_set, Mem.at_set, if_neg (by simp [h])]

/-- Two operations that may change places do, as far as memory goes. -/
theorem seesAll_false {o p : Oper} (hp : memClass P p = 2) : ∀ (l : List Oper) (s q : Nat), l[q]? = some p → hasEdge o (s + q) = false → seesAll P o l s = false
  | [], s, q, h, _ => by simp at h
  | p' :: l, s, q, h, hn => by
    unfold seesAll
    cases q with
    | zero =>
      simp at h; subst h
      rw [hp]
      simp only [Nat.add_zero] at hn
      rw [hn]; rfl
    | succ q =>
      simp at h
      rw [seesAll_false hp l (s + 1) q h (by rw [show s + 1 + q = s + (q + 1) by omega]; exact hn), Bool.and_false]

theorem noView_class {i : Nat} {o : Oper} (h : noView P ops i o = true) : memClass P o = 1 ∧ hasEdge o i = false := by
  unfold noView at h
  rw [Bool.and_eq_true, Bool.and_eq_true] at h
  exact ⟨Nat.eq_of_beq_eq_true h.1, by simpa using h.2.1⟩

theorem noView_sees {i : Nat} {o : Oper} {pre : List Oper} (h : noView P ops i o = true) (hl : pre.length = i) : seesAll P o (preOf P ops i o pre) 0 = false := by
  unfold preOf
  rw [h, cond_true]
  refine seesAll_false (p := bumpOp) rfl _ 0 i (by rw [← hl, List.getElem?_append_right (Nat.le_refl _)]; simp) (by rw [Nat.zero_add]; exact (noView_class h).2)

theorem preOf_get {i q : Nat} {o p : Oper} {pre : List Oper} (h : pre[q]? = some p) : (preOf P ops i o pre)[q]? = some p := by
  unfold preOf
  cases noView P ops i o with
  | false => exact h
  | true =>
    rw [cond_true, List.getElem?_append_left]
    · exact h
    · exact (List.getElem?_eq_some_iff.1 h).1

theorem doF_fresh {k : Nat} {pre : List Oper} {o : Oper} (hf : isFresh P pre o = true) {σ : Nat → Option V} {m m' : Mem} {v : Option V} (h : doF P cs n base k pre o σ m = some (v, m')) : m'.take base = m.take base := by
  unfold doF at h
  obtain ⟨hd, h⟩ := gd_some h
  rw [Bool.and_eq_true] at hd
  have hd2 := hd.2
  unfold freshOk at hd2
  rw [hf, cond_true] at hd2
  unfold isFresh at hf
  split at hf
  · rename_i t a y ho
    rw [ho] at hd2
    have hc : Nat.beq (memClass P o) 1 = false := by unfold memClass; rw [ho]; rfl
    rw [hc, cond_false] at h
    unfold opK at h
    rw [ho] at h
    simp only at h hd2
    obtain ⟨x, hx, h⟩ := valK_some h
    obtain ⟨u, hu, h⟩ := valK_some h
    rw [hx] at hd2
    unfold storeK at h
    split at h
    · rename_i id off q hq
      simp only at hd2
      have hb := Nat.le_of_ble_eq_true hd2
      split at h
      · obtain ⟨_, h⟩ := gd_some h
        cases h
        apply List.ext_getElem?
        intro z
        rw [List.getElem?_take, List.getElem?_take]
        split
        · rw [List.getElem?_set_ne (by omega)]
        · rfl
      · cases h
    · cases h
  · cases hf

theorem opF_fresh {k : Nat} {pre : List Oper} {o : Oper} (hf : isFresh P pre o = true) {σ : Nat → Option V} {m m' : Mem} {v : Option V} (h : opF P cs n base k ops pre o σ m = some (v, m')) : m'.take base = m.take base := by
  unfold opF at h
  (repeat' split at h) <;> first
    | exact doF_fresh hf h
    | cases h; done
    | (obtain ⟨_, h⟩ := gd_some h
       cases h; rfl)
    | skip
  rw [cond_eq_ite] at h
  split at h
  · exact doF_fresh hf h
  · obtain ⟨_, h⟩ := gd_some h
    cases h; rfl

theorem mem_swap2 {j i : Nat} {prej prei : List Oper} {oj oi : Oper} {σ : Nat → Option V} {m mj mi : Mem} {vj vi : Option V}
    (hc : (memClass P oj = 1 ∧ seesAll P oj prej 0 = false ∧ isFresh P prei oi = true) ∨ (isFresh P prej oj = true ∧ memClass P oi = 1 ∧ seesAll P oi prei 0 = false))
    (h1 : opF P cs n base j ops prej oj σ m = some (vj, mj)) (h2 : opF P cs n base i ops prei oi σ mj = some (vi, mi)) :
    ∃ m1, opF P cs n base i ops prei oi σ m = some (vi, m1) ∧ opF P cs n base j ops prej oj σ m1 = some (vj, mi) := by
  rcases hc with ⟨k, hv, hf⟩ | ⟨hf, k, hv⟩
  · obtain ⟨rfl, g1⟩ := opF_quiet k h1
    refine ⟨mi, h2, g1 _ ?_⟩
    unfold viewF
    rw [hv, cond_false, cond_false, opF_fresh hf h2]
    exact fun _ _ => rfl
  · obtain ⟨rfl, g2⟩ := opF_quiet k h2
    refine ⟨m, g2 _ ?_, h1⟩
    unfold viewF
    rw [hv, cond_false, cond_false, opF_fresh hf h1]
    exact fun _ _ => rfl

theorem mem_swap {j i : Nat} {prej prei : List Oper} {oj oi : Oper} {σ : Nat → Option V} {m mj mi : Mem} {vj vi : Option V}
    (hji : j ≠ i) (hedge : prei[j]? = some oj) (hno : hasEdge oi j = false)
    (hc : memClass P oj = 0 ∨ memClass P oi = 0 ∨ (memClass P oj ≤ 2 ∧ memClass P oi ≤ 2))
    (hlen : memClass P oj = 2 → memClass P oi = 2 → base + j < m.length ∧ base + i < m.length)
    (h1 : opF P cs n base j ops prej oj σ m = some (vj, mj)) (h2 : opF P cs n base i ops prei oi σ mj = some (vi, mi)) :
    ∃ m1, opF P cs n base i ops prei oi σ m = some (vi, m1) ∧ opF P cs n base j ops prej oj σ m1 = some (vj, mi) := by
  have free_j : memClass P oj = 0 → ∃ m1, opF P cs n base i ops prei oi σ m = some (vi, m1) ∧ opF P cs n base j ops prej oj σ m1 = some (vj, mi) := by
    intro h0
    have e1 : mj = m := by
      have := opF_free (P := P) (cs := cs) (n := n) (base := base) (ops := ops) (k := j) (pre := prej) h0 σ m m
      rw [h1] at this
      simpa using this
    subst e1
    refine ⟨mi, h2, ?_⟩
    rw [opF_free h0 σ mi mj, h1]; rfl
  have free_i : memClass P oi = 0 → ∃ m1, opF P cs n base i ops prei oi σ m = some (vi, m1) ∧ opF P cs n base j ops prej oj σ m1 = some (vj, mi) := by
    intro h0
    have e1 : mi = mj := by
      have := opF_free (P := P) (cs := cs) (n := n) (base := base) (ops := ops) (k := i) (pre := prei) h0 σ mj mj
      rw [h2] at this
      simpa using this
    subst e1
    refine ⟨m, ?_, h1⟩
    rw [opF_free h0 σ m mi, h2]; rfl
  by_cases h0 : memClass P oj = 0
  · exact free_j h0
  by_cases h0' : memClass P oi = 0
  · exact free_i h0'
  obtain ⟨hcj, hci⟩ : memClass P oj ≤ 2 ∧ memClass P oi ≤ 2 := by rcases hc with h | h | h <;> first | exact absurd h h0 | exact absurd h h0' | exact h
  rcases (by omega : memClass P oj = 1 ∨ memClass P oj = 2) with kj | kj <;> rcases (by omega : memClass P oi = 1 ∨ memClass P oi = 2) with ki | ki
  · obtain ⟨rfl, g1⟩ := opF_quiet kj h1
    obtain ⟨rfl, g2⟩ := opF_quiet ki h2
    exact ⟨_, h2, h1⟩
  · obtain ⟨rfl, g1⟩ := opF_quiet kj h1
    refine ⟨mi, h2, ?_⟩
    rcases opF_makes ki h2 with ⟨rfl, _⟩ | ⟨hr, b, rfl, _⟩
    · exact h1
    · refine g1 _ ?_
      unfold viewF
      cases seesAll P oj prej 0 with
      | true => simp only [cond_true]; exact sub_put hr
      | false => simp only [cond_false, take_put hr]; exact fun _ _ => rfl
  · obtain ⟨rfl, g2⟩ := opF_quiet ki h2
    have hview : seesAll P oi prei 0 = false := seesAll_false kj prei 0 j hedge (by simpa using hno)
    rcases opF_makes kj h1 with ⟨rfl, g1⟩ | ⟨hr, b, rfl, g1⟩
    · exact ⟨mi, h2, h1⟩
    · refine ⟨m, g2 m ?_, h1⟩
      unfold viewF
      rw [hview, cond_false, cond_false, take_put hr]
      exact fun _ _ => rfl
  · obtain ⟨l1, l2⟩ := hlen kj ki
    rcases opF_makes kj h1 with ⟨rfl, g1⟩ | ⟨hr, b, rfl, g1⟩
    · exact ⟨mi, h2, g1 mi⟩
    · rcases opF_makes ki h2 with ⟨rfl, g2⟩ | ⟨hr2, b2, rfl, g2⟩
      · exact ⟨m, g2 m, h1⟩
      · have hne : base + j ≠ base + i := by omega
        rw [put_lt l1] at hr2 ⊢
        rw [room_set hne l2] at hr2
        refine ⟨m.put (base + i) b2, g2 m hr2, ?_⟩
        rw [g1 _ (by rw [put_lt l2, room_set (Ne.symm hne) l1]; exact hr)]
        rw [put_lt l2, put_lt (by rw [List.length_set]; exact l1), put_lt (by rw [List.length_set]; exact l2), List.set_comm _ _ hne]

end
end Go.Rx
