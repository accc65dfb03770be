/- One operation of a region, but for the calls that are entered. -/
import Derived.Test.YteahnnchfegknaaRxCall
import Derived.Test.YteahnnchfegknaaRxOp7
set_option linter.unusedVariables false
set_option linter.unusedSimpArgs false
namespace Go.Rx
open Go.RowKit (Below)

def findCtr {P : Program} : List (Ctr P) → FuncId → Option (Ctr P)
  | [], _ => none
  | c :: cs, f => bif Nat.beq c.f f then some c else findCtr cs f

theorem findCtr_f {P : Program} : ∀ {cs : List (Ctr P)} {f : FuncId} {c : Ctr P}, findCtr cs f = some c → c.f = f
  | c :: cs, f, d, h => by
    unfold findCtr at h
    cases hb : Nat.beq c.f f with
    | true => rw [hb, cond_true] at h; cases h; exact Nat.eq_of_beq_eq_true hb
    | false => rw [hb, cond_false] at h; exact findCtr_f h

/-- May a function be entered? -/
def callable (P : Program) (f : FuncId) : Bool :=
  match P.funcs[f]? with
  | some fn => fn.body.isSome && !(fn.name == "runtime.NumGoroutine")
  | none => false

theorem run_callFunc {P : Program} {f : FuncId} {args : Array Value} (h : callable P f = true) (w : World) : (callFunc f args).run P w = .ok (.enter f args) w := by
  unfold callable at h
  split at h
  · rename_i fn hf
    rw [Bool.and_eq_true] at h
    have h1 : (fn.name == "runtime.NumGoroutine") = false := by simpa using h.2
    have h2 : fn.body.isNone = false := by
      cases hb : fn.body with
      | none => rw [hb] at h; simp at h
      | some => rfl
    simp only [callFunc, Sem.run_bind, run_program, Result.andThen_ok, hf, h1, h2, Bool.false_eq_true, if_false, Sem.run_pure]
  · cases h

section
variable {R : Type}

def valK (v : Option V) (K : V → Option R) : Option R := match v with | some v => K v | none => none

theorem valK_some {v : Option V} {K : V → Option R} {r : R} (h : valK v K = some r) : ∃ u, v = some u ∧ K u = some r := by
  unfold valK at h; split at h <;> first | exact ⟨_, rfl, h⟩ | cases h

def valsK (ρ : Operand → Option V) : List Operand → (List V → Option R) → Option R
  | [], K => K []
  | x :: xs, K => valK (ρ x) fun v => valsK ρ xs fun l => K (v :: l)

def partsK (ρ : Operand → Option V) : List (Nat × Operand) → (List (Nat × V) → Option R) → Option R
  | [], K => K []
  | x :: xs, K => valK (ρ x.2) fun v => partsK ρ xs fun l => K ((x.1, v) :: l)

/-- An optional operand. -/
def optK (ρ : Operand → Option V) (x : Option Operand) (K : Option V → Option R) : Option R :=
  match x with
  | none => K none
  | some x => valK (ρ x) fun v => K (some v)

end

/-- The operands' values stand for what the frame holds. -/
def Vals (E : Env) (ρ : Operand → Option V) (a : Act) : Prop := ∀ x v, ρ x = some v → V.rel E v (a.eval x)

theorem valsK_some {R : Type} {ρ : Operand → Option V} : ∀ {xs : List Operand} {K : List V → Option R} {r : R}, valsK ρ xs K = some r → ∃ l, K l = some r ∧ ∀ E a, Vals E ρ a → V.relL E l (xs.map a.eval)
  | [], K, r, h => ⟨[], h, fun E a _ => by simp [V.relL]⟩
  | x :: xs, K, r, h => by
    unfold valsK at h
    obtain ⟨v, hv, h⟩ := valK_some h
    obtain ⟨l, h, hl⟩ := valsK_some h
    exact ⟨_, h, fun E a ha => by simp only [List.map_cons, V.relL]; exact ⟨ha x v hv, hl E a ha⟩⟩

theorem partsK_some {R : Type} {ρ : Operand → Option V} : ∀ {xs : List (Nat × Operand)} {K : List (Nat × V) → Option R} {r : R}, partsK ρ xs K = some r → ∃ l, K l = some r ∧ ∀ E a, Vals E ρ a → PartsRel E l (xs.map fun p => (p.1, a.eval p.2))
  | [], K, r, h => ⟨[], h, fun E a _ => trivial⟩
  | x :: xs, K, r, h => by
    unfold partsK at h
    obtain ⟨v, hv, h⟩ := valK_some h
    obtain ⟨l, h, hl⟩ := partsK_some h
    exact ⟨_, h, fun E a ha => ⟨rfl, ha x.2 v hv, hl E a ha⟩⟩

theorem optK_some {R : Type} {ρ : Operand → Option V} {x : Option Operand} {K : Option V → Option R} {r : R} (h : optK ρ x K = some r) : ∃ v, K v = some r ∧ ∀ E a, Vals E ρ a → OptRel E v (x.map a.eval) := by
  unfold optK at h
  split at h
  · exact ⟨none, h, fun E a _ => trivial⟩
  · obtain ⟨v, hv, h⟩ := valK_some h
    exact ⟨some v, h, fun E a ha => ha _ v hv⟩

/-- What an operation does: 'v': the value for its temporary (none: nothing is known of it). -/
def Eff (P : Program) (o : Oper) (ρ : Operand → Option V) (m : Mem) (v : Option V) (m' : Mem) : Prop :=
  ∀ E B w (a : Act) (K : Act → World → Prop) (Q : Exit → Act → World → Prop), Vals E ρ a → MemRel E B m w →
    (∀ x w' E', (∀ u, v = some u → V.rel E' u x) → MemRel E' B m' w' → Good B E w E' w' → K (a.put o.dst x) w') → o.wp P a w K Q

theorem wp_value {P : Program} {o : Oper} {a : Act} {w w' : World} {K : Act → World → Prop} {Q : Exit → Act → World → Prop} {s : Sem Value} {y : Value}
    (he : execOp a.eval o = (do pure (.value (← s)))) (hr : s.run P w = .ok y w') (h : K (a.put o.dst y) w') : o.wp P a w K Q := by
  unfold Oper.wp
  rw [he]
  simp only [Sem.run_bind, hr, Result.andThen_ok, Sem.run_pure]
  exact h

theorem Eff.gives {P : Program} {o : Oper} {ρ : Operand → Option V} {m : Mem} {u : V} (f : Act → Sem Value) (he : ∀ a, execOp a.eval o = (do pure (.value (← f a))))
    (h : ∀ E a, Vals E ρ a → Gives P (f a) u E) : Eff P o ρ m (some u) m := by
  intro E B w a K Q hv hm hk
  obtain ⟨y, h1, h2⟩ := h E a hv w
  exact wp_value (he a) h1 (hk y w E (fun u' e => by cases e; exact h2) hm (.refl B E w))

theorem Eff.reads {P : Program} {o : Oper} {ρ : Operand → Option V} {m : Mem} {u : V} (f : Act → Sem Value) (he : ∀ a, execOp a.eval o = (do pure (.value (← f a))))
    (h : ∀ E B w a, Vals E ρ a → MemRel E B m w → ∃ y, (f a).run P w = .ok y w ∧ V.rel E u y) : Eff P o ρ m (some u) m := by
  intro E B w a K Q hv hm hk
  obtain ⟨y, h1, h2⟩ := h E B w a hv hm
  exact wp_value (he a) h1 (hk y w E (fun u' e => by cases e; exact h2) hm (.refl B E w))

theorem Eff.does {P : Program} {o : Oper} {ρ : Operand → Option V} {m m' : Mem} {u : V} (f : Act → Sem Value) (he : ∀ a, execOp a.eval o = (do pure (.value (← f a))))
    {pre : Act → Env → Prop} (h : ∀ a, Does P m (f a) u m' (pre a)) (hp : ∀ E a, Vals E ρ a → pre a E) : Eff P o ρ m (some u) m' := by
  intro E B w a K Q hv hm hk
  obtain ⟨y, w', E', h1, h2, h3, h4⟩ := h a E B w hm (hp E a hv)
  exact wp_value (he a) h1 (hk y w' E' (fun u' e => by cases e; exact h2) h3 h4)

section
variable {R : Type}

def builtinK (P : Program) (c : Call) (b : Builtin) (ρ : Operand → Option V) (m : Mem) (id : Nat) (K : Option V → Mem → Option R) : Option R :=
  match b with
  | .len => match c.args.toList, c.argTypes.toList with
    | [x], [t] => valK (ρ x) fun v => lenK P t v fun u => K (some u) m
    | _, _ => none
  | .min => match c.args.toList with
    | x :: xs => valK (ρ x) fun v => valsK ρ xs fun l => minK false v l fun u => K (some u) m
    | [] => none
  | .max => match c.args.toList with
    | x :: xs => valK (ρ x) fun v => valsK ρ xs fun l => minK true v l fun u => K (some u) m
    | [] => none
  | .copy => match c.args.toList, c.argTypes.toList with
    | [x, y], [t, _] => valK (ρ x) fun v => valK (ρ y) fun u => copyK P t v u m fun z m' => K (some z) m'
    | _, _ => none
  | .append => match c.args.toList, c.argTypes.toList with
    | [x, y], [t, t'] => valK (ρ x) fun v => valK (ρ y) fun u => appendK P t t' v u m id fun z m' => K (some z) m'
    | _, _ => none
  | _ => none

/-- A call of a function that has a contract. -/
def ctrK (P : Program) (cs : List (Ctr P)) (f : V) (args : List V) (m : Mem) (K : V → Option R) : Option R :=
  match f with
  | .fn g cap => match findCtr cs g, P.funcs[g]? with
    | some c, some fn => gd (callable P g) (argsK P m fn.params.toList (args ++ cap) fun s l => c.run l fun v => resK P fn.resultTypes.toList v fun v => bif s then gd (V.flat v) (K v) else K v)
    | _, _ => none
  | _ => none

/-- One operation; 'id': the name of what it makes. -/
def opK (P : Program) (cs : List (Ctr P)) (o : Oper) (ρ : Operand → Option V) (m : Mem) (id : Nat) (K : Option V → Mem → Option R) : Option R :=
  match o.op with
  | .move x | .assign x => valK (ρ x) fun v => K (some v) m
  | .pick c a b => valK (ρ c) fun q => boolK q fun q => bif q then valK (ρ a) fun v => K (some v) m else valK (ρ b) fun v => K (some v) m
  | .alloc t => allocK P t m id fun v m' => K (some v) m'
  | .box _ x => valK (ρ x) fun v => boxK v m id fun u m' => K (some u) m'
  | .build t ps => partsK ρ ps.toList fun l => buildK P t l fun v => K (some v) m
  | .buildSlice t len ps => partsK ρ ps.toList fun l => buildSliceK P t len l m id fun v m' => K (some v) m'
  | .load t x => valK (ρ x) fun v => loadK P t v m fun u => K (some u) m
  | .store t x y => valK (ρ x) fun v => valK (ρ y) fun u => storeK P t v u m fun m' => K none m'
  | .nilCheck x => valK (ρ x) fun v => match v with
    | .ptr _ _ | .ibox _ _ | .fn _ _ => K (some v) m
    | _ => none
  | .binOp op t x y _ => valK (ρ x) fun v => valK (ρ y) fun u => binK P op t (Region.isConst x) (Region.isConst y) v u fun z => K (some z) m
  | .unOp op _ x => valK (ρ x) fun v => unK op v fun z => K (some z) m
  | .convert s d x => valK (ρ x) fun v => convK P s d v m fun z => K (some z) m
  | .makeInterface t x => valK (ρ x) fun v => mkIfaceK P t v fun z => K (some z) m
  | .makeFunc fn first cap => match fn, first.toList with
    | .func f, [] => valsK ρ cap.toList fun l => K (some (.fn f l)) m
    | _, _ => none
  | .slice t x lo hi mx => valK (ρ x) fun v => optK ρ lo fun lo => optK ρ hi fun hi => optK ρ mx fun mx => sliceK P t v lo hi mx m fun z => K (some z) m
  | .fieldAddr t x f => valK (ρ x) fun v => fieldAddrK P t v f fun z => K (some z) m
  | .field t x f => valK (ρ x) fun v => fieldK P t v f fun z => K (some z) m
  | .indexAddr t x i => valK (ρ x) fun v => valK (ρ i) fun u => indexAddrK P t v u fun z => K (some z) m
  | .index t x i => valK (ρ x) fun v => valK (ρ i) fun u => indexK P t v u fun z => K (some z) m
  | .extract x i => valK (ρ x) fun v => extractK v i fun z => K (some z) m
  | .typeAssert x _ t ok => valK (ρ x) fun v => assertK P v t ok fun z => K (some z) m
  | .makeSlice t x y => valK (ρ x) fun v => valK (ρ y) fun u => makeSliceK P t v u m id fun z m' => K (some z) m'
  | .makeMap _ none => gd (m.room id) (K (some (.map id)) (m.put id (.map [])))
  | .insert t x k y => valK (ρ x) fun v => valK (ρ k) fun u => valK (ρ y) fun z => insertK P t v u z m fun m' => K none m'
  | .lookup t x i ok => valK (ρ x) fun v => valK (ρ i) fun u => lookupK P t v u ok m fun z => K (some z) m
  | .call c => match c.callee with
    | .builtin b => builtinK P c b ρ m id K
    | .value f => valK (ρ f) fun fv => valsK ρ c.args.toList fun l => ctrK P cs fv l m fun v => K (some v) m
    | _ => none
  | _ => none

end

theorem array_one {α β : Type} {xs : Array α} {x : α} (h : xs.toList = [x]) (f : α → β) : xs.map f = #[f x] := by
  cases xs with | mk l => simp only at h; subst h; simp
theorem array_two {α β : Type} {xs : Array α} {x y : α} (h : xs.toList = [x, y]) (f : α → β) : xs.map f = #[f x, f y] := by
  cases xs with | mk l => simp only at h; subst h; simp
theorem array_eq {α : Type} {xs : Array α} {l : List α} (h : xs.toList = l) : xs = l.toArray := by
  cases xs with | mk l' => simp only at h; subst h; rfl

section
variable {R : Type} {P : Program}

theorem ctrK_some {cs : List (Ctr P)} {f : V} {args : List V} {m : Mem} {K : V → Option R} {r : R} (h : ctrK P cs f args m K = some r) :
    ∃ u, K u = some r ∧ ∀ {E : Env} {B : Nat} {w : World} {fv : Value} {xs : List Value}, MemRel E B m w → V.rel E f fv → V.relL E args xs →
      ∃ g cap, fv = .func (.func g) #[] cap ∧ callable P g = true ∧ Calls P g (xs.toArray ++ cap) w fun e w' => ∃ x E', e = .returned x ∧ V.rel E' u x ∧ MemRel E' B m w' ∧ Good B E w E' w' := by
  unfold ctrK at h
  split at h
  · rename_i g cap
    split at h
    · rename_i c fn hc hfn
      obtain ⟨hcall, h⟩ := gd_some h
      obtain ⟨s, l, h, hs, hl⟩ := argsK_some h
      obtain ⟨v, h, hok⟩ := c.ok l _ _ h
      obtain ⟨v', h, hv⟩ := resK_some h
      rw [findCtr_f hc] at hok
      have hkv : K v' = some r ∧ (s = true → V.flat v' = true) := by
        cases s with
        | false => exact ⟨h, fun e => (by cases e)⟩
        | true =>
          rw [cond_true] at h
          obtain ⟨h1, h2⟩ := gd_some h
          exact ⟨h2, fun _ => h1⟩
      refine ⟨v', hkv.1, fun {E B w fv xs} hm hf hx => ?_⟩
      simp only [V.rel] at hf
      obtain ⟨cp, rfl, hcp⟩ := hf
      refine ⟨g, cp, rfl, hcall, ?_⟩
      have hx' : V.relL E (args ++ cap) (xs.toArray ++ cp).toList := by
        rw [Array.toList_append]; exact relL_append hx hcp
      have hok' : PCalls P g l v' := fun E w xs h1 h2 => Calls.mono (hok E w xs h1 h2) (by rintro e w' ⟨x, E', rfl, k1, k2⟩; exact ⟨x, E', rfl, hv _ _ k1, k2⟩)
      exact hok'.use s hs hl hkv.2 hm hx'
    · cases h
  · cases h

theorem builtinK_some {c : Call} {b : Builtin} {o : Oper} (ho : o.op = .call c) (hcal : c.callee = .builtin b) {ρ : Operand → Option V} {m : Mem} {id : Nat} {K : Option V → Mem → Option R} {r : R} (h : builtinK P c b ρ m id K = some r) :
    ∃ v m', K v m' = some r ∧ Eff P o ρ m v m' := by
  have hex : ∀ (a : Act), execOp a.eval o = builtin b c.argTypes o.type (c.args.map fun | .const _ => true | _ => false) (c.args.map a.eval) := by
    intro a
    simp only [execOp, ho, resolve, hcal]
    rfl
  unfold builtinK at h
  split at h
  · split at h
    · rename_i x t hx ht
      obtain ⟨v, hv, h⟩ := valK_some h
      obtain ⟨u, h, hu⟩ := lenK_some (P := P) (ty := o.type) h
      exact ⟨_, _, h, Eff.gives (fun a => Builtin.len_ #[t] o.type #[a.eval x]) (fun a => by rw [hex]; simp only [builtin, array_one hx, array_eq ht]) fun E a ha => hu E _ (ha x v hv)⟩
    · cases h
  · split at h
    · rename_i x xs hx
      obtain ⟨v, hv, h⟩ := valK_some h
      obtain ⟨l, h, hl⟩ := valsK_some h
      obtain ⟨u, h, hu⟩ := minK_some (P := P) h
      refine ⟨_, _, h, Eff.gives (fun a => (xs.map a.eval).foldlM Builtin.min2 (a.eval x)) (fun a => ?_) fun E a ha => hu E _ _ (ha x v hv) (hl E a ha)⟩
      rw [hex]
      simp only [builtin, Builtin.min_, Array.toList_map, hx, List.map_cons]
    · cases h
  · split at h
    · rename_i x xs hx
      obtain ⟨v, hv, h⟩ := valK_some h
      obtain ⟨l, h, hl⟩ := valsK_some h
      obtain ⟨u, h, hu⟩ := minK_some (P := P) h
      refine ⟨_, _, h, Eff.gives (fun a => (xs.map a.eval).foldlM Builtin.max2 (a.eval x)) (fun a => ?_) fun E a ha => hu E _ _ (ha x v hv) (hl E a ha)⟩
      rw [hex]
      simp only [builtin, Builtin.max_, Array.toList_map, hx, List.map_cons]
    · cases h
  · split at h
    · rename_i x y t t' hx ht
      obtain ⟨v, hv, h⟩ := valK_some h
      obtain ⟨u, hu, h⟩ := valK_some h
      obtain ⟨z, m', h, hz⟩ := copyK_some (P := P) (t' := t') (ty := o.type) h
      exact ⟨_, _, h, Eff.does (fun a => Builtin.copy_ #[t, t'] o.type #[a.eval x, a.eval y]) (fun a => by rw [hex]; simp only [builtin, array_two hx, array_eq ht]) (fun a => hz _ _) fun E a ha => ⟨ha x v hv, ha y u hu⟩⟩
    · cases h
  · split at h
    · rename_i x y t t' hx ht
      obtain ⟨v, hv, h⟩ := valK_some h
      obtain ⟨u, hu, h⟩ := valK_some h
      obtain ⟨z, m', h, hz⟩ := appendK_some (P := P) (ty := o.type) h
      exact ⟨_, _, h, Eff.does (fun a => Builtin.append_ #[t, t'] o.type #[a.eval x, a.eval y]) (fun a => by rw [hex]; simp only [builtin, array_two hx, array_eq ht]) (fun a => hz _ _) fun E a ha => ⟨ha x v hv, ha y u hu⟩⟩
    · cases h
  · cases h

theorem pairs_map (ps : Array (Nat × Operand)) (f : Operand → Value) : (ps.map fun (i, x) => (i, f x)).toList = ps.toList.map fun p => (p.1, f p.2) := by
  rw [Array.toList_map]

theorem opK_some {cs : List (Ctr P)} {o : Oper} {ρ : Operand → Option V} {m : Mem} {id : Nat} {K : Option V → Mem → Option R} {r : R} (h : opK P cs o ρ m id K = some r) :
    ∃ v m', K v m' = some r ∧ Eff P o ρ m v m' := by
  unfold opK at h
  split at h
  · rename_i x ho
    obtain ⟨v, hv, h⟩ := valK_some h
    refine ⟨_, _, h, fun E B w a K Q ha hm hk => ?_⟩
    unfold Oper.wp
    simp only [execOp, ho, Sem.run_pure]
    exact hk _ w E (fun u e => by cases e; exact ha x v hv) hm (.refl B E w)
  · rename_i x ho
    obtain ⟨v, hv, h⟩ := valK_some h
    refine ⟨_, _, h, fun E B w a K Q ha hm hk => ?_⟩
    unfold Oper.wp
    simp only [execOp, ho, Sem.run_pure]
    exact hk _ w E (fun u e => by cases e; exact ha x v hv) hm (.refl B E w)
  · rename_i c x y ho
    obtain ⟨q, hq, h⟩ := valK_some h
    obtain ⟨q, rfl, h⟩ := boolK_some h
    cases q with
    | true =>
      obtain ⟨v, hv, h⟩ := valK_some h
      refine ⟨_, _, h, fun E B w a K Q ha hm hk => ?_⟩
      have hc := ha c _ hq
      simp only [V.rel] at hc
      unfold Oper.wp
      simp only [execOp, ho, hc, asBool, Sem.run_bind, Sem.run_pure, Result.andThen_ok, if_true]
      exact hk _ w E (fun u e => by cases e; exact ha x v hv) hm (.refl B E w)
    | false =>
      obtain ⟨v, hv, h⟩ := valK_some h
      refine ⟨_, _, h, fun E B w a K Q ha hm hk => ?_⟩
      have hc := ha c _ hq
      simp only [V.rel] at hc
      unfold Oper.wp
      simp only [execOp, ho, hc, asBool, Sem.run_bind, Sem.run_pure, Result.andThen_ok, Bool.false_eq_true, if_false]
      exact hk _ w E (fun u e => by cases e; exact ha y v hv) hm (.refl B E w)
  · rename_i t ho
    obtain ⟨u, m', h, hd⟩ := allocK_some (P := P) h
    exact ⟨_, _, h, Eff.does (fun a => Instr.alloc t true (.tuple #[])) (fun a => by simp only [execOp, ho]) (fun a => hd) fun E a ha => trivial⟩
  · rename_i t x ho
    obtain ⟨v, hv, h⟩ := valK_some h
    obtain ⟨u, m', h, hd⟩ := boxK_some (P := P) (t := t) h
    exact ⟨_, _, h, Eff.does (fun a => Instr.box t (a.eval x)) (fun a => by simp only [execOp, ho]) (fun a => hd _) fun E a ha => ha x v hv⟩
  · rename_i t ps ho
    obtain ⟨l, h, hl⟩ := partsK_some h
    obtain ⟨u, h, hd⟩ := buildK_some h
    exact ⟨_, _, h, Eff.gives (fun a => Instr.build t (ps.map fun (i, x) => (i, a.eval x))) (fun a => by simp only [execOp, ho]) fun E a ha w => hd E w _ (by rw [pairs_map]; exact hl E a ha)⟩
  · rename_i t len ps ho
    obtain ⟨l, h, hl⟩ := partsK_some h
    obtain ⟨u, m', h, hd⟩ := buildSliceK_some h
    exact ⟨_, _, h, Eff.does (fun a => Instr.buildSlice t len (ps.map fun (i, x) => (i, a.eval x))) (fun a => by simp only [execOp, ho]) (fun a => hd _) fun E a ha => by rw [pairs_map]; exact hl E a ha⟩
  · rename_i t x ho
    obtain ⟨v, hv, h⟩ := valK_some h
    obtain ⟨u, h, hd⟩ := loadK_some h
    exact ⟨_, _, h, Eff.reads (fun a => Instr.loadAt t (a.eval x)) (fun a => by simp only [execOp, ho]) fun E B w a ha hm => hd E B w _ hm (ha x v hv)⟩
  · rename_i t x y ho
    obtain ⟨v, hv, h⟩ := valK_some h
    obtain ⟨u, hu, h⟩ := valK_some h
    obtain ⟨m', h, hd⟩ := storeK_some h
    refine ⟨_, _, h, fun E B w a K Q ha hm hk => ?_⟩
    obtain ⟨w', h1, h2, h3⟩ := hd E B w _ _ hm (ha x v hv) (ha y u hu)
    unfold Oper.wp
    simp only [execOp, ho, Sem.run_bind, h1, Result.andThen_ok, Sem.run_pure]
    exact hk undef w' E (fun u e => by cases e) h2 h3
  · rename_i x ho
    obtain ⟨v, hv, h⟩ := valK_some h
    split at h <;> first
      | cases h; done
      | (refine ⟨_, _, h, fun E B w a K Q ha hm hk => ?_⟩
         have hx := ha x _ hv
         have hx' := hx
         simp only [V.rel] at hx'
         first
           | (obtain ⟨b, o', _, he⟩ := hx'
              unfold Oper.wp
              simp only [execOp, ho, he, Sem.run_pure]
              exact hk _ w E (fun u e => by cases e; rw [← he]; exact hx) hm (.refl B E w))
           | (obtain ⟨b, o', cs', _, he, _⟩ := hx'
              unfold Oper.wp
              simp only [execOp, ho, he, Sem.run_pure]
              exact hk _ w E (fun u e => by cases e; rw [← he]; exact hx) hm (.refl B E w))
           | (obtain ⟨cs', he, _⟩ := hx'
              unfold Oper.wp
              simp only [execOp, ho, he, Sem.run_pure]
              exact hk _ w E (fun u e => by cases e; rw [← he]; exact hx) hm (.refl B E w)))
  · rename_i op t x y t' ho
    obtain ⟨v, hv, h⟩ := valK_some h
    obtain ⟨u, hu, h⟩ := valK_some h
    obtain ⟨z, h, hd⟩ := binK_some h
    exact ⟨_, _, h, Eff.gives (fun a => do eqGuard op t x y (a.eval x) (a.eval y); binOp op t (a.eval x) (a.eval y)) (fun a => by simp only [execOp, ho]) fun E a ha => hd E _ _ (ha x v hv) (ha y u hu)⟩
  · rename_i op t x ho
    obtain ⟨v, hv, h⟩ := valK_some h
    obtain ⟨z, h, hd⟩ := unK_some (P := P) h
    exact ⟨_, _, h, Eff.gives (fun a => Op.unary op (a.eval x)) (fun a => by simp only [execOp, ho]) fun E a ha => hd E _ (ha x v hv)⟩
  · rename_i s d x ho
    obtain ⟨v, hv, h⟩ := valK_some h
    obtain ⟨z, h, hd⟩ := convK_some h
    exact ⟨_, _, h, Eff.reads (fun a => convert s d (a.eval x)) (fun a => by simp only [execOp, ho]) fun E B w a ha hm => hd E B w _ hm (ha x v hv)⟩
  · rename_i t x ho
    obtain ⟨v, hv, h⟩ := valK_some h
    obtain ⟨z, h, hd⟩ := mkIfaceK_some h
    exact ⟨_, _, h, Eff.gives (fun a => Instr.makeInterface t (a.eval x)) (fun a => by simp only [execOp, ho]) fun E a ha => hd E _ (ha x v hv)⟩
  · rename_i fn first cap ho
    split at h
    · rename_i f hf
      obtain ⟨l, h, hl⟩ := valsK_some h
      refine ⟨_, _, h, Eff.gives (fun a => Instr.makeFunc (.func f) (first.map a.eval) (cap.map a.eval)) (fun a => by simp only [execOp, ho]) fun E a ha w => ?_⟩
      refine ⟨.func (.func f) #[] (cap.map a.eval), ?_, ?_⟩
      · have : first = #[] := array_eq hf
        subst this
        simp [Instr.makeFunc]
      · simp only [V.rel]
        exact ⟨_, rfl, by rw [Array.toList_map]; exact hl E a ha⟩
    · cases h
  · rename_i t x lo hi mx ho
    obtain ⟨v, hv, h⟩ := valK_some h
    obtain ⟨lo', h, h1⟩ := optK_some h
    obtain ⟨hi', h, h2⟩ := optK_some h
    obtain ⟨mx', h, h3⟩ := optK_some h
    obtain ⟨z, h, hd⟩ := sliceK_some h
    exact ⟨_, _, h, Eff.reads (fun a => Instr.sliceAt t (a.eval x) (lo.map a.eval) (hi.map a.eval) (mx.map a.eval)) (fun a => by simp only [execOp, ho]) fun E B w a ha hm => hd E B w _ _ _ _ hm (ha x v hv) (h1 E a ha) (h2 E a ha) (h3 E a ha) w⟩
  · rename_i t x f ho
    obtain ⟨v, hv, h⟩ := valK_some h
    obtain ⟨z, h, hd⟩ := fieldAddrK_some h
    exact ⟨_, _, h, Eff.gives (fun a => Instr.fieldAt t (a.eval x) f) (fun a => by simp only [execOp, ho]) fun E a ha => hd E _ (ha x v hv)⟩
  · rename_i t x f ho
    obtain ⟨v, hv, h⟩ := valK_some h
    obtain ⟨z, h, hd⟩ := fieldK_some h
    exact ⟨_, _, h, Eff.gives (fun a => Instr.field t (a.eval x) f) (fun a => by simp only [execOp, ho]) fun E a ha => hd E _ (ha x v hv)⟩
  · rename_i t x i ho
    obtain ⟨v, hv, h⟩ := valK_some h
    obtain ⟨u, hu, h⟩ := valK_some h
    obtain ⟨z, h, hd⟩ := indexAddrK_some h
    exact ⟨_, _, h, Eff.gives (fun a => Instr.indexAt t (a.eval x) (a.eval i)) (fun a => by simp only [execOp, ho]) fun E a ha => hd E _ _ (ha x v hv) (ha i u hu)⟩
  · rename_i t x i ho
    obtain ⟨v, hv, h⟩ := valK_some h
    obtain ⟨u, hu, h⟩ := valK_some h
    obtain ⟨z, h, hd⟩ := indexK_some h
    exact ⟨_, _, h, Eff.gives (fun a => Instr.index t (a.eval x) (a.eval i)) (fun a => by simp only [execOp, ho]) fun E a ha => hd E _ _ (ha x v hv) (ha i u hu)⟩
  · rename_i x i ho
    obtain ⟨v, hv, h⟩ := valK_some h
    obtain ⟨z, h, hd⟩ := extractK_some (P := P) h
    exact ⟨_, _, h, Eff.gives (fun a => Instr.extract (a.eval x) i) (fun a => by simp only [execOp, ho]) fun E a ha => hd E _ (ha x v hv)⟩
  · rename_i x xt t ok ho
    obtain ⟨v, hv, h⟩ := valK_some h
    obtain ⟨z, h, hd⟩ := assertK_some (xt := xt) h
    exact ⟨_, _, h, Eff.gives (fun a => Instr.typeAssert (a.eval x) xt t ok) (fun a => by simp only [execOp, ho]) fun E a ha => hd E _ (ha x v hv)⟩
  · rename_i t x y ho
    obtain ⟨v, hv, h⟩ := valK_some h
    obtain ⟨u, hu, h⟩ := valK_some h
    obtain ⟨z, m', h, hd⟩ := makeSliceK_some (P := P) h
    exact ⟨_, _, h, Eff.does (fun a => Instr.makeSlice t (a.eval x) (a.eval y)) (fun a => by simp only [execOp, ho]) (fun a => hd _ _) fun E a ha => ⟨ha x v hv, ha y u hu⟩⟩
  · rename_i t ho
    obtain ⟨hr, h⟩ := gd_some h
    refine ⟨_, _, h, Eff.does (fun a => Instr.makeMap t none) (fun a => by simp only [execOp, ho, Option.map_none]) (pre := fun _ _ => True) (fun a E B w hm _ => ?_) fun E a ha => trivial⟩
    obtain ⟨k1, k2⟩ := hm.newMap hr
    exact ⟨_, _, _, rfl, by simp only [V.rel]; exact ⟨w.heap.size, by simp [Env.putOwn], rfl⟩, k1, k2⟩
  · rename_i t x k y ho
    obtain ⟨v, hv, h⟩ := valK_some h
    obtain ⟨u, hu, h⟩ := valK_some h
    obtain ⟨z, hz, h⟩ := valK_some h
    obtain ⟨m', h, hd⟩ := insertK_some h
    refine ⟨_, _, h, fun E B w a K Q ha hm hk => ?_⟩
    obtain ⟨w', h1, h2, h3⟩ := hd E B w _ _ _ hm (ha x v hv) (ha k u hu) (ha y z hz)
    unfold Oper.wp
    simp only [execOp, ho, Sem.run_bind, h1, Result.andThen_ok, Sem.run_pure]
    exact hk undef w' E (fun u e => by cases e) h2 h3
  · rename_i t x i ok ho
    obtain ⟨v, hv, h⟩ := valK_some h
    obtain ⟨u, hu, h⟩ := valK_some h
    obtain ⟨z, h, hd⟩ := lookupK_some h
    exact ⟨_, _, h, Eff.reads (fun a => Instr.lookup t (a.eval x) (a.eval i) ok) (fun a => by simp only [execOp, ho]) fun E B w a ha hm => hd E B w _ _ hm (ha x v hv) (ha i u hu)⟩
  · rename_i c ho
    split at h
    · rename_i b hb
      exact builtinK_some ho hb h
    · rename_i f hf
      obtain ⟨fv, hfv, h⟩ := valK_some h
      obtain ⟨l, h, hl⟩ := valsK_some h
      obtain ⟨u, h, hd⟩ := ctrK_some h
      refine ⟨_, _, h, fun E B w a K Q ha hm hk => ?_⟩
      obtain ⟨g, cap, he, hcall, hc⟩ := hd hm (ha f fv hfv) (hl E a ha)
      unfold Oper.wp
      simp only [execOp, ho, resolve, hf, he, Deferred.ofValue, Sem.run_bind, Sem.run_pure, Result.andThen_ok, invoke, run_callFunc hcall, Oper.upon_enter]
      have hargs : (#[] ++ c.args.map a.eval) ++ cap = (c.args.toList.map a.eval).toArray ++ cap := by
        congr 1
        apply Array.ext'
        simp
      rw [hargs]
      refine Calls.mono hc ?_
      rintro e w' ⟨x, E', rfl, k1, k2, k3⟩
      exact hk x w' E' (fun u' e => by cases e; exact k1) k2 k3
    · cases h
  · cases h

end
end Go.Rx
