/- The operations of the reflective interpreter, in the style of continuations, each with what it says of the model's operation. -/
import Derived.Test.YteahnnchfegknaaRxMem
namespace Go.Rx
open Go.RowKit (Below)

section
variable {R : Type}

/-- Go on if .. -/
def gd (b : Bool) (k : Option R) : Option R := bif b then k else none

theorem gd_some {b : Bool} {k : Option R} {r : R} (h : gd b k = some r) : b = true ∧ k = some r := by
  cases b <;> simp [gd] at h ⊢; exact h

def intK (k : IntKind) (v : V) (K : Int → Option R) : Option R :=
  match v with
  | .int k' n => bif decide (k' = k) then K n else none
  | _ => none
def boolK (v : V) (K : Bool → Option R) : Option R :=
  match v with
  | .bool b => K b
  | _ => none
def strK (v : V) (K : List UInt8 → Option R) : Option R :=
  match v with
  | .str s => K s
  | _ => none
def islK (size : Nat) (v : V) (K : Bool → List V → Option R) : Option R :=
  match v with
  | .isl nil size' l => bif Nat.beq size' size || nil then K nil l else none
  | _ => none
def aggK (v : V) (K : List V → Option R) : Option R :=
  match v with
  | .agg l => K l
  | _ => none
def tupK (v : V) (K : List V → Option R) : Option R :=
  match v with
  | .tup l => K l
  | _ => none
def consK (l : List V) (K : V → List V → Option R) : Option R :=
  match l with
  | v :: l => K v l
  | [] => none
def nilK (l : List V) (K : Option R) : Option R :=
  match l with
  | [] => K
  | _ => none

theorem intK_some {k : IntKind} {v : V} {K : Int → Option R} {r : R} (h : intK k v K = some r) : ∃ n, v = .int k n ∧ K n = some r := by
  unfold intK at h
  split at h
  · rename_i k' n
    by_cases e : k' = k
    · subst e; simp at h; exact ⟨n, rfl, h⟩
    · simp [e] at h
  · cases h
theorem boolK_some {v : V} {K : Bool → Option R} {r : R} (h : boolK v K = some r) : ∃ n, v = .bool n ∧ K n = some r := by
  unfold boolK at h; split at h <;> first | exact ⟨_, rfl, h⟩ | cases h
theorem strK_some {v : V} {K : List UInt8 → Option R} {r : R} (h : strK v K = some r) : ∃ n, v = .str n ∧ K n = some r := by
  unfold strK at h; split at h <;> first | exact ⟨_, rfl, h⟩ | cases h
theorem aggK_some {v : V} {K : List V → Option R} {r : R} (h : aggK v K = some r) : ∃ n, v = .agg n ∧ K n = some r := by
  unfold aggK at h; split at h <;> first | exact ⟨_, rfl, h⟩ | cases h
theorem tupK_some {v : V} {K : List V → Option R} {r : R} (h : tupK v K = some r) : ∃ n, v = .tup n ∧ K n = some r := by
  unfold tupK at h; split at h <;> first | exact ⟨_, rfl, h⟩ | cases h
theorem consK_some {l : List V} {K : V → List V → Option R} {r : R} (h : consK l K = some r) : ∃ v l', l = v :: l' ∧ K v l' = some r := by
  unfold consK at h; split at h <;> first | exact ⟨_, _, rfl, h⟩ | cases h
theorem nilK_some {l : List V} {K : Option R} {r : R} (h : nilK l K = some r) : l = [] ∧ K = some r := by
  unfold nilK at h; split at h <;> first | exact ⟨rfl, h⟩ | cases h

/-- The kinds of a variable's cells. -/
inductive LK where
  | int (k : IntKind)
  | bool
  | str
  | sl (size : Nat)
  | any

def shape1 (k : LK) (v : V) (K : V → Option R) : Option R :=
  match k with
  | .int k => intK k v fun n => K (.int k n)
  | .bool => boolK v fun b => K (.bool b)
  | .str => strK v fun s => K (.str s)
  | .sl size => match v with
    | .sl .. => K v
    | _ => islK size v fun nil l => K (.isl nil size l)
  | .any => K v

end

/-- A nil slice's size says nothing. -/
theorem rel_isl_size {E : Env} {size size' : Nat} {nil : Bool} {l : List V} {x : Value} (hs : (Nat.beq size' size || nil) = true) (h : V.rel E (.isl nil size' l) x) : V.rel E (.isl nil size l) x := by
  simp only [V.rel] at *
  rcases h with h | h
  · exact .inl h
  · rw [h.1, Bool.or_false] at hs
    have := Nat.eq_of_beq_eq_true hs
    subst this
    exact .inr h

section
variable {R : Type}

theorem shape1_some {k : LK} {v : V} {K : V → Option R} {r : R} (h : shape1 k v K = some r) : ∃ v', K v' = some r ∧ (∀ E x, V.rel E v x → V.rel E v' x) ∧ v'.leaf = v.leaf := by
  unfold shape1 at h
  split at h
  · obtain ⟨n, rfl, h1⟩ := intK_some h; exact ⟨_, h1, fun _ _ k => k, rfl⟩
  · obtain ⟨n, rfl, h1⟩ := boolK_some h; exact ⟨_, h1, fun _ _ k => k, rfl⟩
  · obtain ⟨n, rfl, h1⟩ := strK_some h; exact ⟨_, h1, fun _ _ k => k, rfl⟩
  · split at h
    · exact ⟨_, h, fun _ _ k => k, rfl⟩
    · unfold islK at h
      split at h
      · obtain ⟨hb, h1⟩ := gd_some (R := R) h
        exact ⟨_, h1, fun _ _ k => rel_isl_size hb k, rfl⟩
      · cases h
  · exact ⟨v, h, fun _ _ k => k, rfl⟩

/-- The first cells of a list, each of its kind. -/
def takeK : List LK → List V → (List V → Option R) → Option R
  | [], _, K => K []
  | k :: ks, l, K => consK l fun v l' => shape1 k v fun v' => takeK ks l' fun c => K (v' :: c)

/-- Better: 'l'' stands for all that 'l' stands for. -/
def RelBetter (l l' : List V) : Prop := ∀ E xs, V.relL E l xs → V.relL E l' xs

theorem takeK_some : ∀ {ks : List LK} {l : List V} {K : List V → Option R} {r : R}, takeK ks l K = some r → ∃ c, K c = some r ∧ c.length = ks.length ∧ ks.length ≤ l.length ∧ RelBetter (l.take ks.length) c
  | [], l, K, r, h => ⟨[], h, rfl, Nat.zero_le _, fun E xs k => by simpa using k⟩
  | k :: ks, l, K, r, h => by
    simp only [takeK] at h
    obtain ⟨v, l', rfl, g1⟩ := consK_some h
    obtain ⟨v', g2, hr, _⟩ := shape1_some g1
    obtain ⟨c, g3, h1, h2, h3⟩ := takeK_some g2
    refine ⟨v' :: c, g3, by simp [h1], by simp; omega, fun E xs k => ?_⟩
    cases xs with
    | nil => simp [V.relL] at k
    | cons x xs => simp only [List.length_cons, List.take_succ_cons, V.relL] at k ⊢; exact ⟨hr _ _ k.1, h3 _ _ k.2⟩

end

def rep {α : Type} : Nat → List α → List α
  | 0, _ => []
  | n + 1, l => l ++ rep n l

mutual
/-- The kinds of the cells of a variable of a type. -/
def kinds (P : Program) : Nat → TypeId → Option (List LK)
  | 0, _ => none
  | d + 1, t =>
    match P.underlying t with
    | some (.struct fs) => kindsF P d fs.toList
    | some (.array n e) => (kinds P d e).map (rep n)
    | some (.int k) => some [.int k]
    | some .bool => some [.bool]
    | some .string => some [.str]
    | some (.slice e) => some [.sl (P.cellsOf e)]
    | some _ => some [.any]
    | none => none
def kindsF (P : Program) : Nat → List Field → Option (List LK)
  | 0, _ => none
  | _ + 1, [] => some []
  | d + 1, f :: fs => match kinds P d f.type, kindsF P d fs with | some a, some b => some (a ++ b) | _, _ => none
end

def isAggB (P : Program) (t : TypeId) : Bool := match P.underlying t with | some (.struct _) | some (.array _ _) => true | _ => false

def szOf (P : Program) (t : TypeId) : Option Nat := match P.info? t with | some i => some i.size | none => none

theorem run_sizeOf' {P : Program} {t : TypeId} {n : Nat} (h : szOf P t = some n) (w : World) : (sizeOf t).run P w = .ok n w := by
  unfold szOf at h
  split at h
  · rename_i i hi; cases h; simp [sizeOf, typeInfo, hi]
  · cases h

theorem run_isAgg' {P : Program} {t : TypeId} {d : TypeDesc} (h : P.underlying t = some d) (w : World) : (isAgg t).run P w = .ok (isAggB P t) w := by
  unfold isAgg isAggB
  simp only [Sem.run_bind, run_underlying h, Result.andThen_ok, h]
  cases d <;> rfl

/-- A variable's cells as its value: 'fuel' is the depth of types. -/
def varK {R : Type} (P : Program) (t : TypeId) (l : List V) (K : V → Option R) : Option R :=
  match P.underlying t, kinds P 100 t, szOf P t with
  | some _, some ks, some n => gd (Nat.beq ks.length n) (takeK ks l fun c => bif isAggB P t then K (.agg c) else consK c fun v c' => nilK c' (K v))
  | _, _, _ => none

/-- Cells that lie in a row of the heap read as they are. -/
def ReadsAs (E : Env) (w : World) (b o : Nat) (l : List V) : Prop := ∀ i v, l[i]? = some v → ∃ x, w.cell? ⟨b, o + i, none⟩ = some x ∧ V.rel E v x

theorem ReadsAs.drop {E : Env} {w : World} {b o : Nat} {l : List V} (h : ReadsAs E w b o l) (n : Nat) : ReadsAs E w b (o + n) (l.drop n) := by
  intro i v hv
  rw [List.getElem?_drop] at hv
  obtain ⟨x, h1, h2⟩ := h _ v hv
  exact ⟨x, by rw [show o + n + i = o + (n + i) by omega]; exact h1, h2⟩

theorem ReadsAs.take {E : Env} {w : World} {b o : Nat} {l : List V} (h : ReadsAs E w b o l) (n : Nat) : ReadsAs E w b o (l.take n) := by
  intro i v hv
  rw [List.getElem?_take] at hv
  split at hv
  · exact h i v hv
  · cases hv

theorem ReadsAs.list {E : Env} {w : World} {b o : Nat} : ∀ {l : List V}, ReadsAs E w b o l → ∃ xs, xs.length = l.length ∧ V.relL E l xs ∧ ∀ (j : Nat) (x : Value), xs[j]? = some x → w.cell? ⟨b, o + j, none⟩ = some x
  | [], _ => ⟨[], rfl, by simp only [V.relL], fun j x h => by simp at h⟩
  | v :: l, h => by
    obtain ⟨x, h1, h2⟩ := h 0 v rfl
    have h' : ReadsAs E w b (o + 1) l := by
      have := h.drop 1
      simpa using this
    obtain ⟨xs, h3, h4, h5⟩ := h'.list
    refine ⟨x :: xs, by simp [h3], by simp only [V.relL]; exact ⟨h2, h4⟩, fun j y hj => ?_⟩
    cases j with
    | zero => simp at hj; subst hj; simpa using h1
    | succ j => simp at hj; have := h5 j y hj; rwa [show o + 1 + j = o + (j + 1) by omega] at this

theorem addr_add (b o j : Nat) : (⟨b, o, none⟩ : Addr).add j = ⟨b, o + j, none⟩ := by
  unfold Addr.add; split <;> simp_all

/-- What 'varK' hands on. -/
def VarIs (P : Program) (t : TypeId) (l : List V) (v : V) : Prop :=
  ∃ d n, P.underlying t = some d ∧ szOf P t = some n ∧
    ((isAggB P t = true ∧ n ≤ l.length ∧ ∃ c, v = .agg c ∧ c.length = n ∧ RelBetter (l.take n) c) ∨
     (isAggB P t = false ∧ ∃ u rest, l = u :: rest ∧ ∀ E x, V.rel E u x → V.rel E v x))

theorem varK_core {R : Type} {P : Program} {t : TypeId} {l : List V} {K : V → Option R} {r : R} (h : varK P t l K = some r) :
    ∃ v, K v = some r ∧ VarIs P t l v := by
  unfold varK at h
  split at h
  · rename_i d ks n hd hk hn
    obtain ⟨hb, h⟩ := gd_some h
    have hb := Nat.eq_of_beq_eq_true hb
    obtain ⟨c, h, h1, h2, h3⟩ := takeK_some h
    cases ha : isAggB P t with
    | true =>
      rw [ha, cond_true] at h
      exact ⟨_, h, d, n, hd, hn, .inl ⟨ha, by omega, c, rfl, by omega, by rw [← hb]; exact h3⟩⟩
    | false =>
      rw [ha, cond_false] at h
      obtain ⟨v, c', rfl, h⟩ := consK_some h
      obtain ⟨rfl, h⟩ := nilK_some h
      refine ⟨v, h, d, n, hd, hn, .inr ⟨ha, ?_⟩⟩
      simp only [List.length_cons, List.length_nil] at h1
      cases l with
      | nil => simp only [List.length_nil] at h2; omega
      | cons u rest =>
        refine ⟨u, rest, rfl, fun E x hx => ?_⟩
        rw [← h1] at h3
        have := h3 E [x] (by simp only [Nat.zero_add, List.take_succ_cons, List.take_zero, V.relL]; exact ⟨hx, trivial⟩)
        simp only [V.relL] at this
        exact this.1
  · cases h

theorem VarIs.load {P : Program} {t : TypeId} {l : List V} {v : V} (h : VarIs P t l v) {E : Env} {w : World} {b o : Nat} (hr : ReadsAs E w b o l) :
    ∃ x, (loadVar t ⟨b, o, none⟩).run P w = .ok x w ∧ V.rel E v x := by
  obtain ⟨d, n, hd, hn, ⟨ha, hle, c, rfl, hc, hb⟩ | ⟨ha, u, rest, rfl, hb⟩⟩ := h
  · obtain ⟨xs, k1, k2, k3⟩ := (hr.take n).list
    have k1 : xs.length = n := by rw [k1, List.length_take]; omega
    refine ⟨.agg xs.toArray, ?_, by simp only [V.rel]; exact ⟨_, rfl, hb _ _ k2⟩⟩
    have := run_loadCells_list (P := P) w ⟨b, o, none⟩ xs (fun j v hj => by rw [addr_add]; exact k3 j v hj)
    rw [k1] at this
    simp only [loadVar, Sem.run_bind, run_isAgg' hd, ha, Result.andThen_ok, if_true, run_sizeOf' hn, this, Sem.run_pure]
  · obtain ⟨x, h1, h2⟩ := hr 0 u rfl
    refine ⟨x, ?_, hb _ _ h2⟩
    simp only [Nat.add_zero] at h1
    simp only [loadVar, Sem.run_bind, run_isAgg' hd, ha, Result.andThen_ok, Bool.false_eq_true, if_false, run_load, h1]

theorem VarIs.part {P : Program} {t : TypeId} {l : List V} {v : V} {off : Nat} (h : VarIs P t (l.drop off) v) {E : Env} {w : World} {cs : Array Value} (hr : V.relL E l cs.toList) :
    ∃ x, (Go.part t cs off).run P w = .ok x w ∧ V.rel E v x := by
  obtain ⟨d, n, hd, hn, ⟨ha, hle, c, rfl, hc, hb⟩ | ⟨ha, u, rest, he, hb⟩⟩ := h
  · refine ⟨.agg (cs.extract off (off + n)), ?_, ?_⟩
    · simp only [Go.part, Sem.run_bind, run_isAgg' hd, ha, Result.andThen_ok, if_true, run_sizeOf' hn, Sem.run_pure]
    · simp only [V.rel]
      refine ⟨_, rfl, hb _ _ ?_⟩
      have := relL_take (relL_drop hr off) n
      rw [Array.toList_extract, List.extract_eq_take_drop, Nat.add_sub_cancel_left]
      exact this
  · have h1 : l[off]? = some u := by rw [← List.head?_drop, he]; rfl
    obtain ⟨x, h2, h3⟩ := relL_get hr off u h1
    rw [Array.getElem?_toList] at h2
    refine ⟨x, ?_, hb _ _ h3⟩
    simp only [Go.part, Sem.run_bind, run_isAgg' hd, ha, Result.andThen_ok, Bool.false_eq_true, if_false, h2, Sem.run_pure]

theorem varK_some {R : Type} {P : Program} {t : TypeId} {l : List V} {K : V → Option R} {r : R} (h : varK P t l K = some r) :
    ∃ v, K v = some r ∧ ∀ E w b o, ReadsAs E w b o l → ∃ x, (loadVar t ⟨b, o, none⟩).run P w = .ok x w ∧ V.rel E v x := by
  obtain ⟨v, h1, h2⟩ := varK_core h
  exact ⟨v, h1, fun E w b o hr => h2.load hr⟩

/-- A load. -/
def loadK {R : Type} (P : Program) (t : TypeId) (v : V) (m : Mem) (K : V → Option R) : Option R :=
  match v with
  | .ptr id off => match m.at id with
    | .cells l => varK P t (l.drop off) K
    | _ => none
  | .ibox l off => varK P t (l.drop off) K
  | _ => none

theorem ibox_reads {E : Env} {B : Nat} {m : Mem} {w : World} (hm : MemRel E B m w) {b o : Nat} {cs : List Value} {l : List V} (hb : E.imm b = some cs) (hl : V.relL E l ((cs.drop o).take l.length)) : ReadsAs E w b o l := by
  intro i v hv
  obtain ⟨x, h1, h2⟩ := relL_get hl i v hv
  rw [List.getElem?_take] at h1
  split at h1
  · rw [List.getElem?_drop] at h1
    exact ⟨x, (hm.imm b cs hb).2 _ _ h1, h2⟩
  · cases h1

theorem loadK_some {R : Type} {P : Program} {t : TypeId} {v : V} {m : Mem} {K : V → Option R} {r : R} (h : loadK P t v m K = some r) :
    ∃ u, K u = some r ∧ ∀ E B w x, MemRel E B m w → V.rel E v x → ∃ y, (Instr.loadAt t x).run P w = .ok y w ∧ V.rel E u y := by
  unfold loadK at h
  split at h
  · rename_i id off
    split at h
    · rename_i l hl
      obtain ⟨u, h1, h2⟩ := varK_some h
      refine ⟨u, h1, fun E B w x hm hv => ?_⟩
      simp only [V.rel] at hv
      obtain ⟨b, o, ho, rfl⟩ := hv
      obtain ⟨b', o', ho', hc⟩ := hm.cells id l hl
      rw [ho] at ho'; cases ho'
      have hr : ReadsAs E w b o l := hc.1
      obtain ⟨y, h3, h4⟩ := h2 E w b (o + off) (hr.drop off)
      exact ⟨y, by simpa [Instr.loadAt, Instr.sureAddr] using h3, h4⟩
    · cases h
  · rename_i l off
    obtain ⟨u, h1, h2⟩ := varK_some h
    refine ⟨u, h1, fun E B w x hm hv => ?_⟩
    simp only [V.rel] at hv
    obtain ⟨b, o, cs, hb, rfl, _, hl⟩ := hv
    obtain ⟨y, h3, h4⟩ := h2 E w b (o + off) ((ibox_reads hm hb hl).drop off)
    exact ⟨y, by simpa [Instr.loadAt, Instr.sureAddr] using h3, h4⟩
  · cases h

/-- A store. -/
def storeK {R : Type} (P : Program) (t : TypeId) (v u : V) (m : Mem) (K : Mem → Option R) : Option R :=
  match v, szOf P t with
  | .ptr id off, some n => match m.at id with
    | .cells l => gd (Nat.beq u.cells.length n && u.cells.all V.leaf && Nat.ble (off + n) l.length) (K (m.set id (.cells (splice l off u.cells))))
    | _ => none
  | _, _ => none

theorem leaf_all {E : Env} : ∀ {l : List V} {xs : List Value}, V.relL E l xs → l.all V.leaf = true → ∀ x ∈ xs, x.oneCell' = true
  | [], [], _, _ => fun x hx => by cases hx
  | [], _ :: _, h, _ => by simp only [V.relL] at h
  | _ :: _, [], h, _ => by simp only [V.relL] at h
  | v :: l, x :: xs, h, ha => by
    simp only [V.relL] at h
    simp only [List.all_cons, Bool.and_eq_true] at ha
    intro y hy
    rcases List.mem_cons.1 hy with rfl | hy
    · exact V.leaf_one h.1 ha.1
    · exact leaf_all h.2 ha.2 y hy

theorem storeK_some {R : Type} {P : Program} {t : TypeId} {v u : V} {m : Mem} {K : Mem → Option R} {r : R} (h : storeK P t v u m K = some r) :
    ∃ m', K m' = some r ∧ ∀ E B w x y, MemRel E B m w → V.rel E v x → V.rel E u y → ∃ w', (Instr.storeAt t x y).run P w = .ok () w' ∧ MemRel E B m' w' ∧ Good B E w E w' := by
  unfold storeK at h
  split at h
  · rename_i id off n hn
    split at h
    · rename_i l hl
      obtain ⟨hg, h⟩ := gd_some h
      simp only [Bool.and_eq_true] at hg
      obtain ⟨⟨h1, h2⟩, h3⟩ := hg
      have h1 := Nat.eq_of_beq_eq_true h1
      have h3 := Nat.le_of_ble_eq_true h3
      refine ⟨_, h, fun E B w x y hm hv hu => ?_⟩
      simp only [V.rel] at hv
      obtain ⟨b, o, ho, rfl⟩ := hv
      have hc := V.cells_rel hu
      have hlen := relL_length hc
      obtain ⟨b', o', ho', hca⟩ := hm.cells id l hl
      rw [ho] at ho'; cases ho'
      have hst := run_storeCells_cells (P := P) b (o + off) y.cells.toList 0 w (fun j hj => by
          obtain ⟨z, hz, _⟩ := hca.1 (off + j) (l[off + j]'(by omega)) (by simp)
          rw [show o + off + 0 + j = o + (off + j) by omega, hz]; rfl)
        (fun j hj => by
          rw [show o + off + 0 + j = o + (off + j) by omega]
          exact hca.2 _ (by omega)) (leaf_all hc h2)
      obtain ⟨k1, k2⟩ := hm.store hl (by omega : off + u.cells.length ≤ l.length) hc ho
      refine ⟨w.setCells b (o + off) y.cells.toList, ?_, k1, k2⟩
      have hsz : y.cells.size = n := by rw [← h1, hlen]; simp
      simp only [Instr.storeAt, Instr.sureAddr, storeVar, Sem.run_bind, Sem.run_pure, Result.andThen_ok, run_sizeOf' hn, hsz, ne_eq, not_true, if_false, hst, Nat.add_zero]
    · cases h
  · cases h

end Go.Rx
