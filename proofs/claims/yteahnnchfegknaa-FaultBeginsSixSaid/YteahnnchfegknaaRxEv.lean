/- Regions in their list's order. -/
import Derived.Test.YteahnnchfegknaaRxOpK
set_option linter.unusedVariables false
set_option linter.unusedSimpArgs false
namespace Go.Rx
open Go.RowKit (Below)

abbrev Tm := List (Nat × Option V)

/-- What is known of a temporary. -/
def tget (t : Nat) : Tm → Option V
  | [] => none
  | (k, v) :: l => bif Nat.beq k t then v else tget t l

structure St where
  tm : Tm
  m : Mem

/-- What is known of an operand. -/
def vals (tm : Tm) : Operand → Option V
  | .tmp t => tget t tm
  | .const v => absC v
  | .func f => some (.fn f [])
  | .global _ => none

/-- What is known of the temporaries holds in a frame of n. -/
structure TRel (E : Env) (n : Nat) (tm : Tm) (a : Act) : Prop where
  size : a.tmps.size = n
  defers : a.defers = []
  get : ∀ t v, tget t tm = some v → ∃ x, a.tmps[t]? = some x ∧ V.rel E v x

theorem TRel.vals {E : Env} {n : Nat} {tm : Tm} {a : Act} (h : TRel E n tm a) : Vals E (vals tm) a := by
  intro x v hv
  cases x with
  | tmp t =>
    obtain ⟨y, h1, h2⟩ := h.get t v hv
    have : a.eval (.tmp t) = y := by simp [Act.eval, Array.getD_eq_getD_getElem?, h1]
    rw [this]; exact h2
  | const c => exact absC_rel hv
  | global g => cases hv
  | func f =>
    cases hv
    simp only [V.rel]
    exact ⟨#[], rfl, by simp [V.relL]⟩

theorem TRel.mono {E E' : Env} (h : E.Le E') {n : Nat} {tm : Tm} {a : Act} (k : TRel E n tm a) : TRel E' n tm a :=
  ⟨k.size, k.defers, fun t v e => let ⟨x, h1, h2⟩ := k.get t v e; ⟨x, h1, V.rel_mono h v x h2⟩⟩

/-- A temporary gets a value, or nothing is known of it any more. -/
def St.put (st : St) (d : Option Nat) (v : Option V) (m : Mem) : St :=
  match d with
  | some d => ⟨(d, v) :: st.tm, m⟩
  | none => ⟨st.tm, m⟩

def dstOk (d : Option Nat) (n : Nat) : Bool := match d with | some d => Nat.blt d n | none => true

theorem TRel.put {E : Env} {n : Nat} {tm : Tm} {a : Act} (h : TRel E n tm a) {d : Option Nat} (hd : dstOk d n = true) {v : Option V} {x : Value} (hv : ∀ u, v = some u → V.rel E u x) (m m' : Mem) :
    TRel E n ((St.mk tm m).put d v m').tm (a.put d x) := by
  cases d with
  | none => exact h
  | some d =>
    have hd : d < n := by simpa [dstOk, Nat.blt_eq] using hd
    refine ⟨by simp [Act.put, h.size], h.defers, fun t u e => ?_⟩
    simp only [St.put, tget] at e
    simp only [Act.put]
    cases hb : Nat.beq d t with
    | true =>
      rw [hb, cond_true] at e
      have := Nat.eq_of_beq_eq_true hb
      subst this
      exact ⟨x, by simp [h.size, hd], hv u e⟩
    | false =>
      rw [hb, cond_false] at e
      have hne : d ≠ t := fun h => by subst h; simp at hb
      obtain ⟨y, h1, h2⟩ := h.get t u e
      exact ⟨y, by rw [Array.getElem?_setIfInBounds_ne hne]; exact h1, h2⟩

/-- The temporary that a guard looks at. -/
def guardTmp (ops : Array Oper) (j : Nat) : Option Nat := (ops[j]?).bind (·.dst)

theorem yielded_eq {E : Env} {n : Nat} {tm : Tm} {a : Act} (h : TRel E n tm a) {ops : Array Oper} {j t : Nat} (ht : guardTmp ops j = some t) {b : Bool} (hb : tget t tm = some (.bool b)) : yielded ops a.tmps j = some b := by
  obtain ⟨x, h1, h2⟩ := h.get t _ hb
  simp only [V.rel] at h2
  subst h2
  unfold guardTmp at ht
  simp [yielded, ht, h1]

theorem rel_undef {E : Env} {x : Value} (h : V.rel E (.tup []) x) : x = undef := by
  simp only [V.rel] at h
  obtain ⟨cs, rfl, h⟩ := h
  have := relL_length h
  have h2 : cs = #[] := by
    apply Array.ext'
    exact List.eq_nil_of_length_eq_zero (by simpa using this.symm)
  rw [h2]; rfl
theorem undef_rel {E : Env} : V.rel E (.tup []) undef := by
  simp only [V.rel, undef]
  exact ⟨_, rfl, by simp [V.relL]⟩

theorem yielded_undef {E : Env} {n : Nat} {tm : Tm} {a : Act} (h : TRel E n tm a) {ops : Array Oper} {j t : Nat} (ht : guardTmp ops j = some t) (hb : tget t tm = some (.tup [])) : yielded ops a.tmps j = none := by
  obtain ⟨x, h1, h2⟩ := h.get t _ hb
  have h2 := rel_undef h2
  subst h2
  unfold guardTmp at ht
  simp [yielded, ht, h1, undef]

theorem TRel.know {E : Env} {n : Nat} {tm : Tm} {a : Act} (h : TRel E n tm a) {t : Nat} {v : V} (hb : tget t tm = some v) : TRel E n ((t, some v) :: tm) a := by
  refine ⟨h.size, h.defers, fun t' u e => ?_⟩
  simp only [tget] at e
  cases hq : Nat.beq t t' with
  | true =>
    rw [hq, cond_true] at e; cases e
    have := Nat.eq_of_beq_eq_true hq
    subst this
    exact h.get t _ hb
  | false => rw [hq, cond_false] at e; exact h.get t' u e

/-- The call of a function whose body is walked in the caller's memory. -/
abbrev Inline (R : Type) := FuncId → List V → Mem → (V → Mem → Option R) → Option R

section
variable {R : Type}

def isInl (inl : List FuncId) : V → Bool
  | .fn g _ => inl.any (Nat.beq g)
  | _ => false

/-- An operation that is carried out. -/
def execK (P : Program) (cs : List (Ctr P)) (inl : List FuncId) (call : Inline R) (n : Nat) (o : Oper) (st : St) (id : Nat) (K : St → Option R) : Option R :=
  gd (dstOk o.dst n) (match o.op with
    | .call c => match c.callee with
      | .value f => valK (vals st.tm f) fun fv => bif isInl inl fv then
          (match fv with
            | .fn g cap => valsK (vals st.tm) c.args.toList fun l => gd (callable P g) (call g (l ++ cap) st.m fun v m => K (st.put o.dst (some v) m))
            | _ => none)
        else opK P cs o (vals st.tm) st.m id fun v m => K (st.put o.dst v m)
      | _ => opK P cs o (vals st.tm) st.m id fun v m => K (st.put o.dst v m)
    | _ => opK P cs o (vals st.tm) st.m id fun v m => K (st.put o.dst v m))

/-- What a guard says; z: what it looks at was itself not wanted. -/
def guardK (v : V) (K : Bool → Option R) (z : Option R) : Option R :=
  match v with
  | .bool b => K b
  | .tup [] => z
  | _ => none

theorem guardK_some {v : V} {K : Bool → Option R} {z : Option R} {r : R} (h : guardK v K z = some r) : (∃ b, v = .bool b ∧ K b = some r) ∨ (v = .tup [] ∧ z = some r) := by
  unfold guardK at h
  split at h
  · exact .inl ⟨_, rfl, h⟩
  · exact .inr ⟨rfl, h⟩
  · cases h

/-- One operation of a region, if it is wanted. -/
def stepK (P : Program) (cs : List (Ctr P)) (inl : List FuncId) (call : Inline R) (n : Nat) (ops : Array Oper) (o : Oper) (st : St) (id : Nat) (K : St → Option R) : Option R :=
  match o.guard with
  | none => execK P cs inl call n o st id K
  | some (j, want) => match guardTmp ops j with
    | some t => valK (tget t st.tm) fun v => guardK v (fun b =>
      bif b then (bif want then execK P cs inl call n o ⟨(t, some (.bool true)) :: st.tm, st.m⟩ id K else gd (dstOk o.dst n) (K ((St.mk ((t, some (.bool true)) :: st.tm) st.m).put o.dst (some (.tup [])) st.m)))
      else (bif want then gd (dstOk o.dst n) (K ((St.mk ((t, some (.bool false)) :: st.tm) st.m).put o.dst (some (.tup [])) st.m)) else execK P cs inl call n o ⟨(t, some (.bool false)) :: st.tm, st.m⟩ id K))
      (gd (dstOk o.dst n) (K (st.put o.dst (some (.tup [])) st.m)))
    | none => none

def evOps (P : Program) (cs : List (Ctr P)) (inl : List FuncId) (call : Inline R) (n : Nat) (ops : Array Oper) : List Oper → St → (St → Option R) → Option R
  | [], st, K => K st
  | o :: l, st, K => stepK P cs inl call n ops o st st.m.length fun st => evOps P cs inl call n ops l st K

end

/-- What a function whose body is walked in place does. -/
def InlineOk {R : Type} (P : Program) (call : Inline R) : Prop :=
  ∀ g args m K r, call g args m K = some r → ∃ v m', K v m' = some r ∧
    ∀ E B w (xs : Array Value), MemRel E B m w → V.relL E args xs.toList → Calls P g xs w fun e w' => ∃ x E', e = .returned x ∧ V.rel E' v x ∧ MemRel E' B m' w' ∧ Good B E w E' w'

section
variable {R : Type} {P : Program} {cs : List (Ctr P)} {inl : List FuncId} {call : Inline R} {n : Nat}

theorem execK_some (hc : InlineOk P call) {o : Oper} {st : St} {id : Nat} {K : St → Option R} {r : R} (h : execK P cs inl call n o st id K = some r) :
    ∃ v m', K (st.put o.dst v m') = some r ∧ dstOk o.dst n = true ∧ Eff P o (vals st.tm) st.m v m' := by
  obtain ⟨hd, h⟩ := gd_some h
  split at h
  · rename_i c ho
    split at h
    · rename_i f hf
      obtain ⟨fv, hfv, h⟩ := valK_some h
      cases hi : isInl inl fv with
      | false =>
        rw [hi, cond_false] at h
        obtain ⟨v, m', h1, h2⟩ := opK_some h
        exact ⟨v, m', h1, hd, h2⟩
      | true =>
        rw [hi, cond_true] at h
        split at h
        · rename_i g cap
          obtain ⟨l, h, hl⟩ := valsK_some h
          obtain ⟨hcall, h⟩ := gd_some h
          obtain ⟨v, m', h1, h2⟩ := hc _ _ _ _ _ h
          refine ⟨some v, m', h1, hd, fun E B w a K Q ha hm hk => ?_⟩
          have hfa := ha f _ hfv
          simp only [V.rel] at hfa
          obtain ⟨cp, he, hcp⟩ := hfa
          unfold Oper.wp
          simp only [execOp, ho, resolve, hf, he, Deferred.ofValue, Sem.run_bind, Sem.run_pure, Result.andThen_ok, invoke, run_callFunc hcall, Oper.upon_enter]
          have hargs : V.relL E (l ++ cap) (((#[] : Array Value) ++ c.args.map a.eval) ++ cp).toList := by
            rw [Array.toList_append]
            refine relL_append ?_ hcp
            have := hl E a ha
            simpa using this
          refine Calls.mono (h2 E B w _ hm hargs) ?_
          rintro e w' ⟨x, E', rfl, k1, k2, k3⟩
          exact hk x w' E' (fun u' e => by cases e; exact k1) k2 k3
        · cases h
    · obtain ⟨v, m', h1, h2⟩ := opK_some h
      exact ⟨v, m', h1, hd, h2⟩
  · obtain ⟨v, m', h1, h2⟩ := opK_some h
    exact ⟨v, m', h1, hd, h2⟩

theorem put_tm (tm : Tm) (m m' m'' : Mem) (d : Option Nat) (v : Option V) : ((St.mk tm m).put d v m').tm = ((St.mk tm m'').put d v m').tm := by cases d <;> rfl
theorem put_m (st : St) (d : Option Nat) (v : Option V) (m : Mem) : (st.put d v m).m = m := by cases d <;> rfl

/-- What carrying out a step does to frame and memory, for whatever follows. -/
def StepOk (P : Program) (n : Nat) (ops : Array Oper) (o : Oper) (st st' : St) : Prop :=
  ∀ E B w a Q (K : Act → World → Prop), TRel E n st.tm a → MemRel E B st.m w →
    (∀ E' w' a', TRel E' n st'.tm a' → MemRel E' B st'.m w' → Good B E w E' w' → K a' w') →
    if Region.wanted o (yielded ops a.tmps) = true then o.wp P a w K Q else K (a.put o.dst undef) w

theorem stepK_some (hc : InlineOk P call) {ops : Array Oper} {o : Oper} {st : St} {id : Nat} {K : St → Option R} {r : R} (h : stepK P cs inl call n ops o st id K = some r) :
    ∃ st', K st' = some r ∧ StepOk P n ops o st st' := by
  have run : ∀ (st0 : St), (∀ E a, TRel E n st.tm a → TRel E n st0.tm a) → st0.m = st.m → (∀ E a, TRel E n st.tm a → Region.wanted o (yielded ops a.tmps) = true) →
      execK P cs inl call n o st0 id K = some r → ∃ st', K st' = some r ∧ StepOk P n ops o st st' := by
    intro st0 ht hm0 hw h
    obtain ⟨v, m', h1, hd, h2⟩ := execK_some hc h
    refine ⟨_, h1, fun E B w a Q K' hta hm hk => ?_⟩
    rw [if_pos (hw E a hta)]
    refine h2 E B w a K' Q (ht E a hta).vals (hm0 ▸ hm) fun x w' E' hx hm' hg => ?_
    refine hk E' w' _ ?_ (by rw [put_m]; exact hm') hg
    have := ((ht E a hta).mono hg.le).put hd hx st0.m m'
    exact this
  have skip : ∀ (st0 : St), (∀ E a, TRel E n st.tm a → TRel E n st0.tm a) → st0.m = st.m → (∀ E a, TRel E n st.tm a → Region.wanted o (yielded ops a.tmps) = false) →
      gd (dstOk o.dst n) (K (st0.put o.dst (some (.tup [])) st.m)) = some r → ∃ st', K st' = some r ∧ StepOk P n ops o st st' := by
    intro st0 ht hm0 hw h
    obtain ⟨hd, h⟩ := gd_some h
    refine ⟨_, h, fun E B w a Q K' hta hm hk => ?_⟩
    rw [if_neg (by rw [hw E a hta]; simp)]
    exact hk E w _ ((ht E a hta).put hd (fun u e => by cases e; exact undef_rel) st0.m st.m) (by rw [put_m]; exact hm) (.refl B E w)
  unfold stepK at h
  split at h
  · rename_i hg
    exact run st (fun _ _ k => k) rfl (fun E a _ => by simp [Region.wanted, hg]) h
  · rename_i j want hg
    split at h
    · rename_i t ht
      obtain ⟨v, hv, h1⟩ := valK_some h
      rcases guardK_some h1 with ⟨b, hvb, h2⟩ | ⟨hvb, h2⟩
      rotate_left
      · subst hvb
        exact skip st (fun E a k => k) rfl (fun E a k => by simp [Region.wanted, hg, yielded_undef k ht hv]) h2
      subst hvb
      have hwant : ∀ E a, TRel E n st.tm a → Region.wanted o (yielded ops a.tmps) = (some b == some want) := fun E a hta => by
        simp [Region.wanted, hg, yielded_eq hta ht hv]
      cases b <;> cases want <;> simp only [cond_true, cond_false] at h2
      · exact run ⟨(t, some (.bool false)) :: st.tm, st.m⟩ (fun E a k => k.know hv) rfl (fun E a k => by rw [hwant E a k]; rfl) h2
      · exact skip ⟨(t, some (.bool false)) :: st.tm, st.m⟩ (fun E a k => k.know hv) rfl (fun E a k => by rw [hwant E a k]; rfl) h2
      · exact skip ⟨(t, some (.bool true)) :: st.tm, st.m⟩ (fun E a k => k.know hv) rfl (fun E a k => by rw [hwant E a k]; rfl) h2
      · exact run ⟨(t, some (.bool true)) :: st.tm, st.m⟩ (fun E a k => k.know hv) rfl (fun E a k => by rw [hwant E a k]; rfl) h2
    · cases h

theorem evOps_some (hc : InlineOk P call) {ops : Array Oper} : ∀ {l : List Oper} {st : St} {K : St → Option R} {r : R}, evOps P cs inl call n ops l st K = some r →
    ∃ st', K st' = some r ∧ ∀ E B w a Q, TRel E n st.tm a → MemRel E B st.m w →
      (∀ E' w' a', TRel E' n st'.tm a' → MemRel E' B st'.m w' → Good B E w E' w' → Q .normal a' w') → wpList P ops Q l a w
  | [], st, K, r, h => ⟨st, h, fun E B w a Q ht hm hk => hk E w a ht hm (.refl B E w)⟩
  | o :: l, st, K, r, h => by
    obtain ⟨st1, h1, h2⟩ := stepK_some hc h
    obtain ⟨st2, h3, h4⟩ := evOps_some hc h1
    refine ⟨st2, h3, fun E B w a Q ht hm hk => ?_⟩
    have := h2 E B w a Q (wpList P ops Q l) ht hm fun E' w' a' ht' hm' hg =>
      h4 E' B w' a' Q ht' hm' fun E'' w'' a'' k1 k2 k3 => hk E'' w'' a'' k1 k2 (hg.trans k3)
    unfold wpList
    split
    · rename_i hw; rw [if_pos hw] at this; exact .inl this
    · rename_i hw; rw [if_neg hw] at this; exact this

end
end Go.Rx
