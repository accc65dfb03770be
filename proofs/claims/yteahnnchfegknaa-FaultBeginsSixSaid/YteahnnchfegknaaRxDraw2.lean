/- Regions whose order is open: the proof. -/
import Derived.Test.YteahnnchfegknaaRxDraw
set_option linter.unusedVariables false
set_option linter.unusedSimpArgs false
namespace Go.Rx
open Go.RowKit (Below)

def hasEdge (o : Oper) (j : Nat) : Bool := o.after.toList.any fun e => Region.binds .any e && Nat.beq e.on j

/-- Does an operation see all memory? (Else: what was there when the region began.) -/
def seesAll (P : Program) (o : Oper) : List Oper → Nat → Bool
  | [], _ => true
  | p :: l, j => (!Nat.beq (memClass P p) 2 || hasEdge o j) && seesAll P o l (j + 1)

/-- May two operations without an edge between them change places? (the first: the earlier one) -/
def commOk (P : Program) (ops : Array Oper) (a b : Oper) : Bool :=
  a.apart ops b && (Nat.beq (memClass P a) 0 || (Nat.beq (memClass P b) 0 || (Nat.ble (memClass P a) 2 && Nat.ble (memClass P b) 2)))

/-- What is ahead of an operation with such edges, as bits. -/
def edgesMask (acc : List Nat) : List Edge → Nat
  | [] => 0
  | e :: l => bif Region.binds .any e then Nat.lor (Nat.lor (Nat.shiftLeft 1 e.on) (acc.getD e.on 0)) (edgesMask acc l) else edgesMask acc l

/-- What is ahead of each operation. -/
def aheadL : List Oper → List Nat → List Nat
  | [], acc => acc
  | o :: l, acc => aheadL l (acc ++ [edgesMask acc o.after.toList])

def bitB (m j : Nat) : Bool := Nat.beq (Nat.land (Nat.shiftRight m j) 1) 1

theorem bitB_eq (m j : Nat) : bitB m j = m.testBit j := by
  unfold bitB
  rw [Nat.testBit_eq_decide_div_mod_eq]
  rw [show Nat.land (Nat.shiftRight m j) 1 = (m >>> j) &&& 1 from rfl, Nat.and_one_is_mod, Nat.shiftRight_eq_div_pow]
  rw [Bool.eq_iff_iff, Nat.beq_eq, decide_eq_true_eq]

/-- Is an operation behind another one, by way of others? -/
def hasPath (ops : Array Oper) (_ : Nat) (o : Oper) (j : Nat) : Bool := bitB (edgesMask (aheadL ops.toList []) o.after.toList) j

/-- Does it store behind a pointer that an operation of the region made? -/
def isFresh (P : Program) (pre : List Oper) (o : Oper) : Bool :=
  match o.op with
  | .store _ (.tmp a) _ => pre.any fun p => Nat.beq (memClass P p) 2 && match p.dst with | some d => Nat.beq d a | none => false
  | _ => false

/-- (It does.) -/
def freshOk (P : Program) (pre : List Oper) (base : Nat) (o : Oper) (ρ : Operand → Option V) : Bool :=
  bif isFresh P pre o then (match o.op with
    | .store _ x _ => (match ρ x with
      | some (.ptr id _) => Nat.ble base id
      | _ => false)
    | _ => true) else true

def anyFresh (P : Program) (ops : Array Oper) (i : Nat) (o : Oper) : List Oper → List Oper → Nat → Bool
  | _, [], _ => false
  | pre, p :: l, j => (isFresh P pre p && (!hasPath ops 8 o j && !hasPath ops 8 p i)) || anyFresh P ops i o (pre ++ [p]) l (j + 1)

/-- An operation that reads, in no order with a store behind a pointer that the region made: it sees what was there when the region began. -/
def noView (P : Program) (ops : Array Oper) (i : Nat) (o : Oper) : Bool :=
  Nat.beq (memClass P o) 1 && (!hasEdge o i && anyFresh P ops i o [] ops.toList 0)

def bumpOp : Oper := { dst := none, op := .alloc 0, type := 0, pos := "", after := #[], guard := none }

def preOf (P : Program) (ops : Array Oper) (i : Nat) (o : Oper) (pre : List Oper) : List Oper := bif noView P ops i o then pre ++ [bumpOp] else pre

def commOk2 (P : Program) (ops : Array Oper) (j : Nat) (a : Oper) (i : Nat) (b : Oper) : Bool :=
  a.apart ops b && ((noView P ops j a && isFresh P (preOf P ops i b (ops.toList.take i)) b) || (isFresh P (preOf P ops j a (ops.toList.take j)) a && noView P ops i b))

def commAt (P : Program) (ops : Array Oper) (j : Nat) (a : Oper) (i : Nat) (b : Oper) : Bool := commOk P ops a b || commOk2 P ops j a i b

def drawOkRow (P : Program) (ops : Array Oper) (i : Nat) (o : Oper) : List Oper → Nat → Bool
  | [], _ => true
  | p :: l, j => (hasEdge o j || (commAt P ops j p i o || hasPath ops 8 o j)) && drawOkRow P ops i o l (j + 1)

/-- Each operation, held against those ahead of it ('pre'). -/
def drawOkAll (P : Program) (ops : Array Oper) : List Oper → List Oper → Nat → Bool
  | _, [], _ => true
  | pre, o :: l, k => (o.after.toList.all fun e => !Region.binds .any e || Nat.blt e.on k) && (drawOkRow P ops k o pre 0 && drawOkAll P ops (pre ++ [o]) l (k + 1))

def drawOk (P : Program) (ops : Array Oper) : Bool := drawOkAll P ops [] ops.toList 0

section
variable {R : Type}

def drawExecK (P : Program) (cs : List (Ctr P)) (n base k : Nat) (pre : List Oper) (o : Oper) (st : St) (K : St → Option R) : Option R :=
  gd (dstOk o.dst n && freshOk P pre base o (vals st.tm)) (bif Nat.beq (memClass P o) 1 then opK P cs o (vals st.tm) (bif seesAll P o pre 0 then st.m else st.m.take base) (base + k) fun v _ => K (st.put o.dst v st.m)
    else opK P cs o (vals st.tm) st.m (base + k) fun v m => K (st.put o.dst v m))

def drawStepK (P : Program) (cs : List (Ctr P)) (n base k : Nat) (ops : Array Oper) (pre : List Oper) (o : Oper) (st : St) (K : St → Option R) : Option R :=
  match o.guard with
  | none => drawExecK P cs n base k pre o st K
  | some (j, want) => match guardTmp ops j with
    | some t => valK (tget t st.tm) fun v => guardK v (fun b =>
      bif b then (bif want then drawExecK P cs n base k pre o ⟨(t, some (.bool true)) :: st.tm, st.m⟩ K else gd (dstOk o.dst n) (K ((St.mk ((t, some (.bool true)) :: st.tm) st.m).put o.dst (some (.tup [])) st.m)))
      else (bif want then gd (dstOk o.dst n) (K ((St.mk ((t, some (.bool false)) :: st.tm) st.m).put o.dst (some (.tup [])) st.m)) else drawExecK P cs n base k pre o ⟨(t, some (.bool false)) :: st.tm, st.m⟩ K))
      (gd (dstOk o.dst n) (K (st.put o.dst (some (.tup [])) st.m)))
    | none => none

def evDrawL (P : Program) (cs : List (Ctr P)) (n base : Nat) (ops : Array Oper) : List Oper → List Oper → Nat → St → (St → Option R) → Option R
  | _, [], _, st, K => K st
  | pre, o :: l, k, st, K => drawStepK P cs n base k ops (preOf P ops k o pre) o st fun st => evDrawL P cs n base ops (pre ++ [o]) l (k + 1) st K

def isMaker (o : Oper) : Bool :=
  match o.op with
  | .makeSlice .. | .makeMap .. => true
  | .call c => match c.callee with
    | .builtin .append => true
    | _ => false
  | _ => false

theorem isMaker_class {P : Program} {o : Oper} (h : isMaker o = true) : memClass P o = 3 := by
  unfold isMaker at h
  unfold memClass
  split at h <;> first
    | cases h; done
    | (rename_i ho; simp only [ho]; done)
    | (rename_i ho
       split at h
       · rename_i hc; simp only [ho, hc]
       · cases h)

def makesAny (P : Program) (ops : Array Oper) : Bool := ops.toList.any fun o => Nat.beq (memClass P o) 2 || isMaker o

def evDraw (P : Program) (cs : List (Ctr P)) (n : Nat) (ops : Array Oper) (st : St) (K : St → Option R) : Option R :=
  gd (drawOk P ops) (evDrawL P cs n st.m.length ops [] ops.toList 0 ⟨st.tm, bif makesAny P ops then st.m ++ List.replicate ops.size .free else st.m⟩ K)

end

abbrev X := (Nat → Option V) × Mem

def upd (σ : Nat → Option V) (d : Option Nat) (v : Option V) : Nat → Option V :=
  match d with
  | none => σ
  | some d => fun t => bif Nat.beq d t then v else σ t

def valsF (σ : Nat → Option V) : Operand → Option V
  | .tmp t => σ t
  | .const v => absC v
  | .func f => some (.fn f [])
  | .global _ => none

theorem vals_valsF (tm : Tm) : vals tm = valsF fun t => tget t tm := by funext x; cases x <;> rfl

/-- What an operation does to memory, and its temporary's value. -/
def doF (P : Program) (cs : List (Ctr P)) (n base k : Nat) (pre : List Oper) (o : Oper) (σ : Nat → Option V) (m : Mem) : Option (Option V × Mem) :=
  gd (dstOk o.dst n && freshOk P pre base o (valsF σ)) (bif Nat.beq (memClass P o) 1 then opK P cs o (valsF σ) (bif seesAll P o pre 0 then m else m.take base) (base + k) fun v _ => some (v, m)
    else opK P cs o (valsF σ) m (base + k) fun v m => some (v, m))

def opF (P : Program) (cs : List (Ctr P)) (n base k : Nat) (ops : Array Oper) (pre : List Oper) (o : Oper) (σ : Nat → Option V) (m : Mem) : Option (Option V × Mem) :=
  match o.guard with
  | none => doF P cs n base k pre o σ m
  | some (j, want) => match guardTmp ops j with
    | some t => match σ t with
      | some (.bool b) => bif b == want then doF P cs n base k pre o σ m else gd (dstOk o.dst n) (some (some (.tup []), m))
      | some (.tup []) => gd (dstOk o.dst n) (some (some (.tup []), m))
      | _ => none
    | none => none

def stepF (P : Program) (cs : List (Ctr P)) (n base k : Nat) (ops : Array Oper) (pre : List Oper) (o : Oper) (x : X) : Option X :=
  (opF P cs n base k ops pre o x.1 x.2).map fun p => (upd x.1 o.dst p.1, p.2)

def St.abs (st : St) : X := (fun t => tget t st.tm, st.m)

theorem abs_put (st : St) (d : Option Nat) (v : Option V) (m : Mem) : (st.put d v m).abs = (upd st.abs.1 d v, m) := by cases d <;> rfl
theorem abs_know {st : St} {t : Nat} {v : V} (h : tget t st.tm = some v) : (St.mk ((t, some v) :: st.tm) st.m).abs = st.abs := by
  unfold St.abs
  congr 1; funext t'
  simp only [tget]
  cases hb : Nat.beq t t' with
  | false => rfl
  | true => have := Nat.eq_of_beq_eq_true hb; subst this; rw [cond_true, h]

section
variable {R : Type} {P : Program} {cs : List (Ctr P)} {n base : Nat} {ops : Array Oper}

theorem drawExecK_some {k : Nat} {pre : List Oper} {o : Oper} {st : St} {K : St → Option R} {r : R} (h : drawExecK P cs n base k pre o st K = some r) :
    ∃ v m', doF P cs n base k pre o st.abs.1 st.m = some (v, m') ∧ K (st.put o.dst v m') = some r := by
  obtain ⟨hd, h⟩ := gd_some h
  have hv : vals st.tm = valsF st.abs.1 := vals_valsF _
  rw [hv] at hd
  unfold doF gd
  rw [hd, cond_true]
  cases hc : Nat.beq (memClass P o) 1 with
  | true =>
    rw [hc, cond_true] at h
    simp only [cond_true]
    have h1 := opK_nat (P := P) (R := Option V × Mem) (S := R) cs o (vals st.tm) (bif seesAll P o pre 0 then st.m else st.m.take base) (base + k) (fun v _ => some (v, st.m)) (fun p => K (st.put o.dst p.1 p.2))
    simp only [Option.bind_some] at h1
    rw [← h1, Option.bind_eq_some_iff] at h
    obtain ⟨⟨v, m'⟩, g1, g2⟩ := h
    rw [hv] at g1
    exact ⟨v, m', g1, g2⟩
  | false =>
    rw [hc, cond_false] at h
    simp only [cond_false]
    have h1 := opK_nat (P := P) (R := Option V × Mem) (S := R) cs o (vals st.tm) st.m (base + k) (fun v m => some (v, m)) (fun p => K (st.put o.dst p.1 p.2))
    simp only [Option.bind_some] at h1
    rw [← h1, Option.bind_eq_some_iff] at h
    obtain ⟨⟨v, m'⟩, g1, g2⟩ := h
    rw [hv] at g1
    exact ⟨v, m', g1, g2⟩

theorem drawStepK_some {k : Nat} {pre : List Oper} {o : Oper} {st : St} {K : St → Option R} {r : R} (h : drawStepK P cs n base k ops pre o st K = some r) :
    ∃ st', stepF P cs n base k ops pre o st.abs = some st'.abs ∧ K st' = some r := by
  unfold drawStepK at h
  unfold stepF opF
  split at h
  · rename_i hg
    obtain ⟨v, m', h1, h2⟩ := drawExecK_some h
    refine ⟨_, ?_, h2⟩
    rw [show st.abs.2 = st.m from rfl, h1]
    simp only [Option.map_some, abs_put]
  · rename_i j want hg
    split at h
    · rename_i t ht
      obtain ⟨v, hv, h1⟩ := valK_some h
      rcases guardK_some h1 with ⟨b, hvb, h2⟩ | ⟨hvb, h2⟩
      rotate_left
      · subst hvb
        have hs : st.abs.1 t = some (.tup []) := hv
        obtain ⟨hd, h3⟩ := gd_some h2
        simp only [hs]
        exact ⟨_, by unfold gd; rw [hd, cond_true, Option.map_some, abs_put]; rfl, h3⟩
      subst hvb
      have hs : st.abs.1 t = some (.bool b) := hv
      have run : drawExecK P cs n base k pre o ⟨(t, some (.bool b)) :: st.tm, st.m⟩ K = some r → ∃ st', (doF P cs n base k pre o st.abs.1 st.abs.2).map (fun p => (upd st.abs.1 o.dst p.1, p.2)) = some st'.abs ∧ K st' = some r := by
        intro h3
        obtain ⟨v, m', g1, g2⟩ := drawExecK_some h3
        rw [abs_know hv] at g1
        exact ⟨_, by rw [show st.abs.2 = st.m from rfl, g1, Option.map_some, abs_put, abs_know hv], g2⟩
      have skip : gd (dstOk o.dst n) (K ((St.mk ((t, some (.bool b)) :: st.tm) st.m).put o.dst (some (.tup [])) st.m)) = some r → ∃ st', (gd (dstOk o.dst n) (some (some (V.tup []), st.abs.2))).map (fun p => (upd st.abs.1 o.dst p.1, p.2)) = some st'.abs ∧ K st' = some r := by
        intro h3
        obtain ⟨hd, h3⟩ := gd_some h3
        exact ⟨_, by unfold gd; rw [hd, cond_true, Option.map_some, abs_put, abs_know hv]; rfl, h3⟩
      simp only [hs]
      cases b <;> cases want <;> simp only [cond_true, cond_false] at h2
      · exact run h2
      · exact skip h2
      · exact skip h2
      · exact run h2
    · cases h

/-- The operations of a list, one behind the other: each with its place and those ahead of it. -/
def runF (P : Program) (cs : List (Ctr P)) (n base : Nat) (ops : Array Oper) : List Nat → X → Option X
  | [], x => some x
  | i :: l, x => match ops.toList[i]? with
    | some o => (stepF P cs n base i ops (preOf P ops i o (ops.toList.take i)) o x).bind (runF P cs n base ops l)
    | none => none

theorem evDrawL_some : ∀ {l pre : List Oper} {k : Nat} {st : St} {K : St → Option R} {r : R}, ops.toList = pre ++ l → pre.length = k → evDrawL P cs n base ops pre l k st K = some r →
    ∃ st', runF P cs n base ops (List.range' k l.length) st.abs = some st'.abs ∧ K st' = some r
  | [], pre, k, st, K, r, _, _, h => ⟨st, rfl, h⟩
  | o :: l, pre, k, st, K, r, ho, hk, h => by
    obtain ⟨st1, h1, h2⟩ := drawStepK_some h
    obtain ⟨st2, h3, h4⟩ := evDrawL_some (l := l) (pre := pre ++ [o]) (by simp [ho]) (by simp [hk]) h2
    refine ⟨st2, ?_, h4⟩
    rw [List.length_cons, List.range'_succ]
    unfold runF
    have e1 : ops.toList[k]? = some o := by rw [ho, ← hk, List.getElem?_append_right (Nat.le_refl _)]; simp
    have e2 : ops.toList.take k = pre := by rw [ho, ← hk]; simp
    simp only [e1, e2, h1, Option.bind_some]
    exact h3

end

section
variable {P : Program} {cs : List (Ctr P)} {n base : Nat} {ops : Array Oper}

theorem upd_other {σ : Nat → Option V} {d : Option Nat} {v : Option V} {t : Nat} (h : d ≠ some t) : upd σ d v t = σ t := by
  cases d with
  | none => rfl
  | some d =>
    simp only [upd]
    cases hb : Nat.beq d t with
    | false => rfl
    | true => exact absurd (by rw [Nat.eq_of_beq_eq_true hb]) h

theorem upd_comm {σ : Nat → Option V} {d e : Option Nat} {v u : Option V} (h : ∀ t, d = some t → e ≠ some t) : upd (upd σ d v) e u = upd (upd σ e u) d v := by
  funext t
  by_cases h1 : d = some t
  · have h2 := h t h1
    rw [upd_other h2]
    subst h1
    simp [upd]
  · rw [upd_other (σ := upd σ e u) h1]
    by_cases h2 : e = some t
    · subst h2; simp [upd]
    · rw [upd_other h2, upd_other h1, upd_other h2]

/-- An operation looks at what it looks at. -/
theorem opF_congr {k : Nat} {pre : List Oper} {o : Oper} {σ σ' : Nat → Option V} (h : ∀ t ∈ o.looksAt ops, σ t = σ' t) (m : Mem) : opF P cs n base k ops pre o σ m = opF P cs n base k ops pre o σ' m := by
  have hops : ∀ x ∈ o.op.operands, valsF σ x = valsF σ' x := by
    intro x hx
    cases x with
    | tmp t => exact h t (List.mem_append_left _ (List.mem_filterMap.2 ⟨.tmp t, by simpa using hx, rfl⟩))
    | _ => rfl
  have hdo : doF P cs n base k pre o σ m = doF P cs n base k pre o σ' m := by
    unfold doF
    have hf : freshOk P pre base o (valsF σ) = freshOk P pre base o (valsF σ') := by
      unfold freshOk
      cases isFresh P pre o with
      | false => rfl
      | true =>
        rw [cond_true, cond_true]
        split
        · rename_i t x y ho
          rw [hops x (by rw [ho]; simp [Op.operands])]
        · rfl
    rw [hf, opK_congr hops, opK_congr hops]
  unfold opF
  cases hg : o.guard with
  | none => exact hdo
  | some jw =>
    obtain ⟨j, want⟩ := jw
    simp only
    cases ht : guardTmp ops j with
    | none => rfl
    | some t =>
      simp only
      have : σ t = σ' t := h t (by
        unfold Oper.looksAt
        rw [hg]
        simp only
        unfold guardTmp at ht
        rw [ht]
        simp)
      rw [this, hdo]

theorem doF_free {k : Nat} {pre : List Oper} {o : Oper} (h : memClass P o = 0) (σ : Nat → Option V) (m m' : Mem) : doF P cs n base k pre o σ m = (doF P cs n base k pre o σ m').map fun p => (p.1, m) := by
  unfold doF
  have h1 : Nat.beq (memClass P o) 1 = false := by rw [h]; rfl
  rw [h1, cond_false, cond_false]
  cases hd : (dstOk o.dst n && freshOk P pre base o (valsF σ)) with
  | false => rfl
  | true =>
    unfold gd
    simp only [cond_true]
    rw [opK_free h (valsF σ) m m' (base + k) (base + k)]
    have := opK_nat (P := P) cs o (valsF σ) m' (base + k) (fun v m => some (v, m)) (fun p => some (p.1, m))
    simp only [Option.bind_some] at this
    rw [← this]
    cases opK P cs o (valsF σ) m' (base + k) fun v m => some (v, m) <;> rfl

theorem opF_free {k : Nat} {pre : List Oper} {o : Oper} (h : memClass P o = 0) (σ : Nat → Option V) (m m' : Mem) : opF P cs n base k ops pre o σ m = (opF P cs n base k ops pre o σ m').map fun p => (p.1, m) := by
  unfold opF
  cases hg : o.guard with
  | none => exact doF_free h σ m m'
  | some jw =>
    obtain ⟨j, want⟩ := jw
    simp only
    cases ht : guardTmp ops j with
    | none => rfl
    | some t =>
      simp only
      cases hs : σ t with
      | none => rfl
      | some v =>
        cases v with
        | bool b =>
          simp only
          cases b == want
          · simp only [cond_false]
            cases dstOk o.dst n <;> rfl
          · simp only [cond_true]; exact doF_free h σ m m'
        | tup l => cases l with
          | nil => simp only; cases dstOk o.dst n <;> rfl
          | cons => rfl
        | _ => rfl

end
end Go.Rx
