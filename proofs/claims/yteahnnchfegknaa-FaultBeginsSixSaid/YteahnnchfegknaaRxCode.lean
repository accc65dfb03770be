/- Code: sequences, conditions, loops; functions walked in place; from an evaluation to a contract. -/
import Derived.Test.YteahnnchfegknaaRxDraw4
import Derived.LoopN
set_option linter.unusedVariables false
set_option linter.unusedSimpArgs false
namespace Go.Rx
open Go.RowKit (Below)

/-- The first region's number: the name of a loop. -/
def firstRegion : Code → Nat
  | .region id _ _ => id
  | .seq a _ => firstRegion a
  | .block _ b => firstRegion b
  | .loop b => firstRegion b
  | .cond _ x _ => firstRegion x
  | _ => 0

def loopFuel : Nat := 1000000000000000000

/-- What is kept at the head of a loop: temporaries, and those of them that lead to rows of the call's own. -/
structure Keep where
  tmps : List Nat
  roots : List Nat

/-- What a piece of code leaves alone; at the top of a call its own blocks may have been named anew. -/
structure Good1 (top : Bool) (B : Nat) (E : Env) (w : World) (E' : Env) (w' : World) : Prop where
  imm : ∀ b cs, E.imm b = some cs → E'.imm b = some cs
  below : Below B w w'
  fresh : ∀ b cs, E'.imm b = some cs → E.imm b = some cs ∨ B ≤ b
  own : top = false → E.Le E'

theorem Good.one {top : Bool} {B : Nat} {E E' : Env} {w w' : World} (h : Good B E w E' w') : Good1 top B E w E' w' := ⟨h.le.imm, h.below, h.fresh, fun _ => h.le⟩
theorem Good1.refl (top : Bool) (B : Nat) (E : Env) (w : World) : Good1 top B E w E w := (Good.refl B E w).one
theorem Good1.trans {top : Bool} {B : Nat} {E E' E'' : Env} {w w' w'' : World} (h : Good1 top B E w E' w') (h' : Good1 top B E' w' E'' w'') : Good1 top B E w E'' w'' :=
  ⟨fun b cs k => h'.imm b cs (h.imm b cs k), h.below.trans h'.below, fun b cs k => (h'.fresh b cs k).elim (fun k => h.fresh b cs k) .inr, fun e => (h.own e).trans (h'.own e)⟩

/-- A piece of code comes from a state to a state, by an exit. -/
def Sim (P : Program) (top : Bool) (n : Nat) (c : Code) (st : St) (e : Exit) (st' : St) : Prop :=
  ∀ E B w a Q, TRel E n st.tm a → MemRel E B st.m w → (∀ E' w' a', TRel E' n st'.tm a' → MemRel E' B st'.m w' → Good1 top B E w E' w' → Q e a' w') → c.wp P Q a w

/-- A loop at the top of a function, taken as a whole: 'run' is what its rounds come to. -/
structure LoopCtr (P : Program) where
  f : FuncId
  key : Nat
  n : Nat
  body : Code
  run : {R : Type} → St → (Exit → St → Option R) → Option R
  ok : ∀ {R : Type} (st : St) (K : Exit → St → Option R) (r : R), run st K = some r → ∃ e st', K e st' = some r ∧ Sim P true n (.loop body) st e st'

structure Cfg (P : Program) where
  ctr : List (Ctr P)
  inl : List FuncId
  keep : FuncId → Nat → Keep
  loops : List (LoopCtr P)

def findLoop {P : Program} (f : FuncId) (key n : Nat) : List (LoopCtr P) → Option (LoopCtr P)
  | [] => none
  | h :: l => bif Nat.beq h.f f && (Nat.beq h.key key && Nat.beq h.n n) then some h else findLoop f key n l

theorem findLoop_some {P : Program} {f : FuncId} {key n : Nat} : ∀ {l : List (LoopCtr P)} {h : LoopCtr P}, findLoop f key n l = some h → h ∈ l ∧ h.f = f ∧ h.key = key ∧ h.n = n
  | [], h, e => by cases e
  | q :: l, h, e => by
    unfold findLoop at e
    cases hb : Nat.beq q.f f && (Nat.beq q.key key && Nat.beq q.n n) with
    | true =>
      rw [hb, cond_true] at e; cases e
      rw [Bool.and_eq_true, Bool.and_eq_true] at hb
      exact ⟨by simp, Nat.eq_of_beq_eq_true hb.1, Nat.eq_of_beq_eq_true hb.2.1, Nat.eq_of_beq_eq_true hb.2.2⟩
    | false =>
      rw [hb, cond_false] at e
      obtain ⟨h1, h2⟩ := findLoop_some e
      exact ⟨by simp [h1], h2⟩

/-- The bodies of the loops of a piece of code. -/
def loopsOf : Code → List Code
  | .seq a b => loopsOf a ++ loopsOf b
  | .cond _ x y => loopsOf x ++ loopsOf y
  | .block _ b => loopsOf b
  | .loop b => b :: loopsOf b
  | _ => []

/-- The loops that are taken as a whole are the code's own. -/
def LoopsOk {P : Program} (C : Cfg P) (f : FuncId) (c : Code) : Prop := ∀ b ∈ loopsOf c, ∀ h ∈ C.loops, h.f = f → h.key = firstRegion b → h.body = b

def condTmp : Code → Option Nat
  | .cond (.tmp d) _ _ => some d
  | .seq (.cond (.tmp d) _ _) _ => some d
  | _ => none

def lastDst (ops : List Oper) : Option Nat := match ops.getLast? with | some o => o.dst | none => none

def isReg : Code → Option (Array Oper × Bool)
  | .region _ ops draw => some (ops, draw)
  | _ => none

/-- A condition with parts that may not be looked at, of which the outcome alone is used. -/
def joinOf (P : Program) (a b : Code) : Option (Array Oper × Bool × Nat) :=
  match isReg a with
  | some (ops, draw) => match condTmp b, lastDst ops.toList with
    | some d, some d' => bif Nat.beq d d' && (ops.toList.any (fun o => o.guard.isSome) && ops.toList.all fun o => Nat.ble (memClass P o) 1) then some (ops, draw, d) else none
    | _, _ => none
  | none => none

def forget (ops : List Oper) (tm : Tm) : Tm :=
  match ops with
  | [] => tm
  | o :: l => match o.dst with
    | some d => (d, none) :: forget l tm
    | none => forget l tm

def getB (d : Nat) (st : St) : Option Bool := match tget d st.tm with | some (.bool b) => some b | _ => none

/-- Where a row's name stands in a list. -/
def idx (id : Nat) : List Nat → Nat → Option Nat
  | [], _ => none
  | i :: l, k => bif Nat.beq i id then some k else idx id l (k + 1)

def rootIds (tm : Tm) : List Nat → List Nat → Option (List Nat)
  | [], acc => some acc
  | t :: ts, acc => match tget t tm with
    | some (.ptr id _) => bif acc.any (Nat.beq id) then rootIds tm ts acc else rootIds tm ts (acc ++ [id])
    | some (.sl id _ _ _ _) => bif acc.any (Nat.beq id) then rootIds tm ts acc else rootIds tm ts (acc ++ [id])
    | some (.map id) => bif acc.any (Nat.beq id) then rootIds tm ts acc else rootIds tm ts (acc ++ [id])
    | _ => rootIds tm ts acc

def nodupB : List Nat → Bool
  | [] => true
  | i :: l => !l.any (Nat.beq i) && nodupB l

section
variable {R : Type}

def renK (ids : List Nat) (v : V) (K : V → Option R) : Option R :=
  match v with
  | .ptr id off => match idx id ids 0 with | some i => K (.ptr i off) | none => none
  | .sl id size off len cap => match idx id ids 0 with | some i => K (.sl i size off len cap) | none => none
  | .map id => match idx id ids 0 with | some i => K (.map i) | none => none
  | v => gd (V.pure v) (K v)

def keepK (ids : List Nat) (tm : Tm) : List Nat → (List (Option V) → Option R) → Option R
  | [], K => K []
  | t :: ts, K => match tget t tm with
    | none => keepK ids tm ts fun l => K (none :: l)
    | some v => renK ids v fun v => keepK ids tm ts fun l => K (some v :: l)

def zipTm : List Nat → List (Option V) → Tm
  | t :: ts, v :: vs => (t, v) :: zipTm ts vs
  | _, _ => []

def blocksK (m : Mem) : List Nat → (Mem → Option R) → Option R
  | [], K => K []
  | id :: ids, K => match m.at id with
    | .cells l => gd (V.pureL l) (blocksK m ids fun m => K (.cells l :: m))
    | .map es => gd (es.all fun p => V.pure p.1 && V.pure p.2) (blocksK m ids fun m => K (.map es :: m))
    | _ => none

def keepTm (tm : Tm) : List Nat → Tm
  | [] => []
  | t :: ts => (t, tget t tm) :: keepTm tm ts

/-- At the head of a loop: what is not kept is forgotten. -/
def trimV (k : Keep) (st : St) (K : List (Option V) → Mem → Option R) : Option R :=
  match rootIds st.tm k.roots [] with
  | some ids => gd (nodupB ids) (keepK ids st.tm k.tmps fun vs => blocksK st.m ids fun m => K vs m)
  | none => none

def trimK (top : Bool) (k : Keep) (st : St) (K : St → Option R) : Option R :=
  bif top then trimV k st fun vs m => K ⟨zipTm k.tmps vs, m⟩ else K ⟨keepTm st.tm k.tmps, st.m⟩

def loopIt (step : St → (Exit → St → Option R) → Option R) (trim : St → (St → Option R) → Option R) : Nat → St → (Exit → St → Option R) → Option R
  | 0, _, _ => none
  | k + 1, st, K => step st fun e st => trim st fun st => match e with
    | .normal => loopIt step trim k st K
    | e => K e st

def know (x : Operand) (b : Bool) (st : St) : St :=
  match x with
  | .tmp t => ⟨(t, some (.bool b)) :: st.tm, st.m⟩
  | _ => st

/-- The evaluation of code. -/
def evC (P : Program) (C : Cfg P) (call : Inline R) (f : FuncId) (top : Bool) (n : Nat) : Code → St → (Exit → St → Option R) → Option R
  | .skip, st, K => K .normal st
  | .label _, st, K => K .normal st
  | .ret, st, K => K .ret st
  | .exit i, st, K => K (.exit i) st
  | .region _ ops draw, st, K => bif draw then evDraw P C.ctr n ops st fun st => K .normal st else evOps P C.ctr C.inl call n ops ops.toList st fun st => K .normal st
  | .seq a b, st, K => match joinOf P a b with
    | some (ops, draw, d) => (gd (!draw || drawOk P ops) (evDrawL P C.ctr n st.m.length ops [] ops.toList 0 st (getB d))).bind fun q => evC P C call f top n b ⟨(d, some (.bool q)) :: forget ops.toList st.tm, st.m⟩ K
    | none => evC P C call f top n a st fun e st => match e with
      | .normal => evC P C call f top n b st K
      | e => K e st
  | .cond c x y, st, K => valK (vals st.tm c) fun v => boolK v fun q => bif q then evC P C call f top n x (know c true st) K else evC P C call f top n y (know c false st) K
  | .block i b, st, K => evC P C call f top n b st fun e st => match e with
    | .exit j => bif Nat.beq j i then K .normal st else K (.exit j) st
    | e => K e st
  | .loop b, st, K => match bif top then findLoop f (firstRegion b) n C.loops else none with
    | some h => h.run st K
    | none => trimK top (C.keep f (firstRegion b)) st fun st => loopIt (evC P C call f top n b) (trimK top (C.keep f (firstRegion b))) loopFuel st K
  | _, _, _ => none

/-- Results. -/
def resOfK (P : Program) (st : St) : List ResultVar → (List V → Option R) → Option R
  | [], K => K []
  | .tmp t :: l, K => valK (tget t st.tm) fun v => resOfK P st l fun vs => K (v :: vs)
  | .cell a t :: l, K => valK (tget a st.tm) fun v => loadK P t v st.m fun v => resOfK P st l fun vs => K (v :: vs)

def resultK (P : Program) (st : St) (rs : List ResultVar) (K : V → Option R) : Option R :=
  resOfK P st rs fun vs => match vs with
    | [v] => K v
    | vs => K (.tup vs)

def idxTm : Nat → List V → Tm
  | _, [] => []
  | k, v :: l => (k, some v) :: idxTm (k + 1) l

/-- A function walked in place. -/
def evF (P : Program) (C : Cfg P) : Nat → Inline R
  | 0, _, _, _, _ => none
  | d + 1, g, args, m, K => match P.funcs[g]? with
    | some fn => match fn.body with
      | some c => gd (Nat.ble args.length fn.ntmps) (evC P C (evF P C d) g false fn.ntmps c ⟨idxTm 0 args, m⟩ fun e st => match e with
        | .normal | .ret => resultK P st fn.results.toList fun v => K v st.m
        | _ => none)
      | none => none
    | none => none

end

/-- A function's answer, handed on. -/
def evTop {R : Type} (P : Program) (C : Cfg P) (d : Nat) (f : FuncId) (args : List V) (K : V → Option R) : Option R :=
  match P.funcs[f]? with
  | some fn => match fn.body with
    | some c => gd (Nat.ble args.length fn.ntmps) (evC P C (evF P C d) f true fn.ntmps c ⟨idxTm 0 args, []⟩ fun e st => match e with
      | .normal | .ret => resultK P st fn.results.toList fun v => reifyK st.m v K
      | _ => none)
    | none => none
  | none => none

section
variable {P : Program} {C : Cfg P} {f : FuncId} {top : Bool} {n : Nat}

theorem TRel.of_get {E : Env} {tm tm' : Tm} {a : Act} (h : TRel E n tm a) (hg : ∀ t v, tget t tm' = some v → tget t tm = some v) : TRel E n tm' a :=
  ⟨h.size, h.defers, fun t v e => h.get t v (hg t v e)⟩

theorem know_rel {E : Env} {x : Operand} {b : Bool} {st : St} {a : Act} (h : TRel E n st.tm a) (hv : vals st.tm x = some (.bool b)) : TRel E n (know x b st).tm a := by
  cases x with
  | tmp t => exact h.know hv
  | _ => exact h

theorem know_m (x : Operand) (b : Bool) (st : St) : (know x b st).m = st.m := by cases x <;> rfl

/-- Regions whose operations only read, one behind the other. -/
theorem runF_quiet {cs : List (Ctr P)} {base : Nat} {ops : Array Oper} (hq : ∀ o ∈ ops.toList, memClass P o ≤ 1) : ∀ {l : List Nat} {x x' : X}, runF P cs n base ops l x = some x' →
    x'.2 = x.2 ∧ ∀ t, (∀ o ∈ ops.toList, o.dst ≠ some t) → x'.1 t = x.1 t
  | [], x, x', h => by cases h; exact ⟨rfl, fun _ _ => rfl⟩
  | i :: l, x, x', h => by
    rw [runF_cons, Option.bind_eq_some_iff] at h
    obtain ⟨x1, h1, h2⟩ := h
    obtain ⟨e1, e2⟩ := runF_quiet hq h2
    unfold stepI at h1
    split at h1
    · rename_i o ho
      have hmem := List.mem_of_getElem? ho
      unfold stepF at h1
      rw [Option.map_eq_some_iff] at h1
      obtain ⟨⟨v, m'⟩, g1, rfl⟩ := h1
      have hm : m' = x.2 := by
        rcases Nat.le_one_iff_eq_zero_or_eq_one.1 (hq o hmem) with h0 | h0
        · have := opF_free (P := P) (cs := cs) (n := n) (base := base) (ops := ops) (k := i) (pre := preOf P ops i o (ops.toList.take i)) h0 x.1 x.2 x.2
          rw [g1] at this
          simpa using this
        · exact (opF_quiet h0 g1).1
      subst hm
      refine ⟨e1, fun t ht => ?_⟩
      rw [e2 t ht]
      exact upd_other (ht o hmem)
    · cases h1

theorem runF_ops {cs : List (Ctr P)} {base : Nat} {ops : Array Oper} : ∀ {l : List Nat} {x x' : X}, runF P cs n base ops l x = some x' →
    ∀ {E : Env} {B : Nat} {a : Act} {w : World} {Q : Exit → Act → World → Prop}, XRel E n B x a w → (∀ E' w' a', XRel E' n B x' a' w' → Good B E w E' w' → Q .normal a' w') → wpOps P ops Q l a w
  | [], x, x', h, E, B, a, w, Q, hx, hQ => by cases h; exact hQ E w a hx (.refl B E w)
  | i :: l, x, x', h, E, B, a, w, Q, hx, hQ => by
    rw [runF_cons, Option.bind_eq_some_iff] at h
    obtain ⟨x1, h1, h2⟩ := h
    rw [wpOps_cons]
    unfold stepI at h1
    split at h1
    · rename_i o ho
      exact stepF_ok (by simpa using ho) h1 hx fun E' w' a' k1 k2 => runF_ops h2 k1 fun E'' w'' a'' k3 k4 => hQ E'' w'' a'' k3 (k2.trans k4)
    · cases h1

theorem tget_forget : ∀ (ops : List Oper) (tm : Tm) (t : Nat) (v : V), tget t (forget ops tm) = some v → (∀ o ∈ ops, o.dst ≠ some t) ∧ tget t tm = some v
  | [], tm, t, v, h => ⟨fun o ho => (by cases ho), h⟩
  | o :: l, tm, t, v, h => by
    unfold forget at h
    split at h
    · rename_i d hd
      simp only [tget] at h
      cases hb : Nat.beq d t with
      | true => rw [hb] at h; cases h
      | false =>
        rw [hb, cond_false] at h
        obtain ⟨h1, h2⟩ := tget_forget l tm t v h
        refine ⟨fun p hp => ?_, h2⟩
        rcases List.mem_cons.1 hp with rfl | hp
        · rw [hd]; intro e; cases e; simp at hb
        · exact h1 p hp
    · rename_i hd
      obtain ⟨h1, h2⟩ := tget_forget l tm t v h
      refine ⟨fun p hp => ?_, h2⟩
      rcases List.mem_cons.1 hp with rfl | hp
      · rw [hd]; simp
      · exact h1 p hp

theorem join_some (hmix : P.follows .mixedOrders = true) {cs : List (Ctr P)} {a b : Code} {ops : Array Oper} {draw : Bool} {d : Nat} (hj : joinOf P a b = some (ops, draw, d)) {st : St} {q : Bool}
    (h : gd (!draw || drawOk P ops) (evDrawL P cs n st.m.length ops [] ops.toList 0 st (getB d)) = some q) :
    Sim P top n a st .normal ⟨(d, some (.bool q)) :: forget ops.toList st.tm, st.m⟩ := by
  obtain ⟨hd, h⟩ := gd_some h
  obtain ⟨st', h1, h2⟩ := evDrawL_some (ops := ops) (l := ops.toList) (pre := []) rfl rfl h
  unfold joinOf at hj
  have hreg : ∃ id, a = .region id ops draw ∧ ∀ o ∈ ops.toList, memClass P o ≤ 1 := by
    cases a <;> simp only [isReg] at hj <;> try cases hj
    rename_i id ops' draw'
    split at hj
    · rename_i d1 d2 _ _
      cases hcond : (Nat.beq d1 d2 && (ops'.toList.any (fun o => o.guard.isSome) && ops'.toList.all fun o => Nat.ble (memClass P o) 1)) with
      | false => rw [hcond] at hj; cases hj
      | true =>
        rw [hcond, cond_true] at hj
        cases hj
        rw [Bool.and_eq_true, Bool.and_eq_true, List.all_eq_true] at hcond
        exact ⟨id, rfl, fun o ho => Nat.le_of_ble_eq_true (hcond.2.2 o ho)⟩
    · cases hj
  obtain ⟨id, rfl, hq⟩ := hreg
  obtain ⟨e1, e2⟩ := runF_quiet hq h1
  intro E B w a Q ht hm hQ
  have hx : XRel E n B st.abs a w := ⟨ht.size, ht.defers, ht.get, hm⟩
  have fin : ∀ E' w' a', XRel E' n B st'.abs a' w' → Good B E w E' w' → Q .normal a' w' := by
    intro E' w' a' hx' hg
    refine hQ E' w' a' ⟨hx'.size, hx'.defers, fun t v e => ?_⟩ (by have := hx'.mem; rw [e1] at this; exact this) hg.one
    refine hx'.get t v ?_
    simp only [tget] at e
    cases hb : Nat.beq d t with
    | true =>
      rw [hb, cond_true] at e; cases e
      have := Nat.eq_of_beq_eq_true hb
      subst this
      unfold getB at h2
      split at h2
      · rename_i b' hb'; cases h2; exact hb'
      · cases h2
    | false =>
      rw [hb, cond_false] at e
      obtain ⟨k1, k2⟩ := tget_forget _ _ _ _ e
      rw [e2 t k1]; exact k2
  cases draw with
  | false =>
    refine wp_region (runF_ops (l := List.range ops.size) (x := st.abs) (x' := st'.abs) (by rw [List.range_eq_range']; simpa using h1) hx fin)
  | true =>
    have hdok : drawOk P ops = true := by simpa using hd
    refine wp_region_any hmix ?_
    have hrem : rem ops (Array.replicate ops.size false) = List.range ops.size := by
      unfold rem
      rw [List.filter_eq_self]
      intro i hi
      have : i < ops.size := by simpa using hi
      simp [Array.getD_eq_getD_getElem?, this]
    have hdrew : MemRel E B st.m { w with drawn := w.drawn + 1 } := hm.stay (Nat.le_refl _) fun _ _ => rfl
    refine any_sound hdok (base := st.m.length) (cs := cs) (n := n) (xf := st'.abs) (B := B) ops.size (Array.replicate ops.size false) st.abs E a _ (by simp) (fun k o _ hl => by simp only [Array.getD_eq_getD_getElem?, Array.getElem?_replicate] at hl; split at hl <;> cases hl) (by rw [hrem]; simp) ?_ ?_ ⟨ht.size, ht.defers, ht.get, hdrew⟩ ?_
    · intro hk
      exfalso
      unfold makesAny at hk
      rw [List.any_eq_true] at hk
      obtain ⟨o, ho, hc⟩ := hk
      have := hq o ho
      rw [Bool.or_eq_true] at hc
      rcases hc with hc | hc
      · have := Nat.eq_of_beq_eq_true hc; omega
      · have := isMaker_class (P := P) hc; omega
    · rw [hrem, List.range_eq_range']; simpa using h1
    · intro E' w' a' hx' hg
      refine fin E' w' a' hx' ⟨hg.le, ?_, hg.fresh⟩
      have : Below B w { w with drawn := w.drawn + 1 } := (Below.refl B w).drew
      exact this.trans hg.below

theorem keepTm_get : ∀ (ts : List Nat) (tm : Tm) (t : Nat) (v : V), tget t (keepTm tm ts) = some v → tget t tm = some v
  | [], tm, t, v, h => by cases h
  | k :: ts, tm, t, v, h => by
    simp only [keepTm, tget] at h
    cases hb : Nat.beq k t with
    | true => rw [hb, cond_true] at h; have := Nat.eq_of_beq_eq_true hb; subst this; exact h
    | false => rw [hb, cond_false] at h; exact keepTm_get ts tm t v h

theorem idx_some : ∀ {l : List Nat} {id k i : Nat}, idx id l k = some i → k ≤ i ∧ l[i - k]? = some id
  | [], id, k, i, h => by cases h
  | j :: l, id, k, i, h => by
    unfold idx at h
    cases hb : Nat.beq j id with
    | true =>
      rw [hb, cond_true] at h; cases h
      exact ⟨Nat.le_refl _, by simp [Nat.eq_of_beq_eq_true hb]⟩
    | false =>
      rw [hb, cond_false] at h
      obtain ⟨h1, h2⟩ := idx_some h
      refine ⟨by omega, ?_⟩
      rw [show i - k = (i - (k + 1)) + 1 by omega]
      simpa using h2

/-- Named anew: the i-th is what 'ids' has at i. -/
def Env.ren (E : Env) (ids : List Nat) : Env := { own := fun i => (ids[i]?).bind E.own, imm := E.imm, tot := E.tot }

theorem renK_some {R : Type} {ids : List Nat} {v : V} {K : V → Option R} {r : R} (h : renK ids v K = some r) : ∃ v', K v' = some r ∧ ∀ E x, V.rel E v x → V.rel (E.ren ids) v' x := by
  have own : ∀ {E : Env} {id i : Nat} {p : Nat × Nat}, idx id ids 0 = some i → E.own id = some p → (E.ren ids).own i = some p := by
    intro E id i p hi ho
    obtain ⟨_, h2⟩ := idx_some hi
    simp only [Env.ren]
    simp only [Nat.sub_zero] at h2
    rw [h2]; exact ho
  unfold renK at h
  split at h
  · split at h
    · rename_i i hi
      refine ⟨_, h, fun E x hx => ?_⟩
      simp only [V.rel] at hx ⊢
      obtain ⟨b, o, ho, rfl⟩ := hx
      exact ⟨b, o, own hi ho, rfl⟩
    · cases h
  · split at h
    · rename_i i hi
      refine ⟨_, h, fun E x hx => ?_⟩
      simp only [V.rel] at hx ⊢
      obtain ⟨b, o, c, ho, h1⟩ := hx
      exact ⟨b, o, c, own hi ho, h1⟩
    · cases h
  · split at h
    · rename_i i hi
      refine ⟨_, h, fun E x hx => ?_⟩
      simp only [V.rel] at hx ⊢
      obtain ⟨b, ho, rfl⟩ := hx
      exact ⟨b, own hi ho, rfl⟩
    · cases h
  · obtain ⟨hp, h⟩ := gd_some h
    exact ⟨_, h, fun E x hx => rel_bare (E := E) (E' := E.ren ids) (fun _ _ k => k) _ _ hp hx⟩

theorem keepK_some {R : Type} {ids : List Nat} {tm : Tm} : ∀ {ts : List Nat} {K : List (Option V) → Option R} {r : R}, keepK ids tm ts K = some r →
    ∃ vs, K vs = some r ∧ ∀ t v, tget t (zipTm ts vs) = some v → ∃ u, tget t tm = some u ∧ ∀ E x, V.rel E u x → V.rel (E.ren ids) v x
  | [], K, r, h => ⟨[], h, fun t v e => by cases e⟩
  | k :: ts, K, r, h => by
    unfold keepK at h
    split at h
    · rename_i hn
      obtain ⟨tm', h1, h2⟩ := keepK_some h
      refine ⟨_, h1, fun t v e => ?_⟩
      simp only [zipTm, tget] at e
      cases hb : Nat.beq k t with
      | true => rw [hb] at e; cases e
      | false => rw [hb, cond_false] at e; exact h2 t v e
    · rename_i u hu
      obtain ⟨v', h, hv⟩ := renK_some h
      obtain ⟨tm', h1, h2⟩ := keepK_some h
      refine ⟨_, h1, fun t v e => ?_⟩
      simp only [zipTm, tget] at e
      cases hb : Nat.beq k t with
      | true =>
        rw [hb, cond_true] at e; cases e
        have := Nat.eq_of_beq_eq_true hb
        subst this
        exact ⟨u, hu, hv⟩
      | false => rw [hb, cond_false] at e; exact h2 t v e

theorem blocksK_some {R : Type} {m : Mem} : ∀ {ids : List Nat} {K : Mem → Option R} {r : R}, blocksK m ids K = some r →
    ∃ m', K m' = some r ∧ m'.length = ids.length ∧ ∀ i id, ids[i]? = some id → Mem.at m' i = m.at id ∧ (m.at id).live = true ∧
      (∀ l, m.at id = .cells l → V.pureL l = true) ∧ ∀ es, m.at id = .map es → ∀ p ∈ es, V.pure p.1 = true ∧ V.pure p.2 = true
  | [], K, r, h => ⟨[], h, rfl, fun i id e => by simp at e⟩
  | id :: ids, K, r, h => by
    unfold blocksK at h
    split at h
    · rename_i l hl
      obtain ⟨hp, h⟩ := gd_some h
      obtain ⟨m', h1, h2, h3⟩ := blocksK_some h
      refine ⟨_, h1, by simp [h2], fun i q e => ?_⟩
      cases i with
      | zero =>
        simp at e; subst e
        exact ⟨by rw [hl]; rfl, by rw [hl]; rfl, fun l' e => by rw [hl] at e; cases e; exact hp, fun es e => by rw [hl] at e; cases e⟩
      | succ i => simp at e; exact h3 i q e
    · rename_i es hl
      obtain ⟨hp, h⟩ := gd_some h
      obtain ⟨m', h1, h2, h3⟩ := blocksK_some h
      refine ⟨_, h1, by simp [h2], fun i q e => ?_⟩
      cases i with
      | zero =>
        simp at e; subst e
        refine ⟨by rw [hl]; rfl, by rw [hl]; rfl, fun l' e => by (rw [hl] at e; cases e), fun es' e p hpm => ?_⟩
        rw [hl] at e; cases e
        rw [List.all_eq_true] at hp
        have := hp p hpm
        rwa [Bool.and_eq_true] at this
      | succ i => simp at e; exact h3 i q e
    · cases h

theorem nodupB_inj : ∀ {l : List Nat}, nodupB l = true → ∀ {i j q : Nat}, l[i]? = some q → l[j]? = some q → i = j
  | [], _, i, j, q, h, _ => by simp at h
  | a :: l, hn, i, j, q, h1, h2 => by
    unfold nodupB at hn
    rw [Bool.and_eq_true] at hn
    have hnot : ∀ k : Nat, l[k]? = some a → False := by
      intro k hk
      have : l.any (Nat.beq a) = true := by
        rw [List.any_eq_true]; exact ⟨a, List.mem_of_getElem? hk, by simp⟩
      rw [this] at hn
      cases hn.1
    cases i with
    | zero => cases j with
      | zero => rfl
      | succ j => simp at h1 h2; subst h1; exact (hnot j h2).elim
    | succ i => cases j with
      | zero => simp at h1 h2; subst h2; exact (hnot i h1).elim
      | succ j => simp at h1 h2; rw [nodupB_inj hn.2 h1 h2]

theorem EntRel.ren {E : Env} {ids : List Nat} : ∀ {l : List (V × V)} {es : List MapEntry}, (∀ p ∈ l, V.pure p.1 = true ∧ V.pure p.2 = true) → EntRel E l es → EntRel (E.ren ids) l es
  | [], [], _, _ => trivial
  | [], _ :: _, _, k => k.elim
  | _ :: _, [], _, k => k.elim
  | p :: l, e :: es, hp, ⟨h1, h2, h3⟩ =>
    ⟨rel_bare (E := E) (E' := E.ren ids) (fun _ _ k => k) _ _ (hp p (by simp)).1 h1, rel_bare (E := E) (E' := E.ren ids) (fun _ _ k => k) _ _ (hp p (by simp)).2 h2, EntRel.ren (fun q hq => hp q (by simp [hq])) h3⟩

theorem pureL_get : ∀ {l : List V}, V.pureL l = true → ∀ (i : Nat) (v : V), l[i]? = some v → V.pure v = true
  | [], _, i, v, h => by simp at h
  | u :: l, hp, i, v, h => by
    simp only [V.pureL, Bool.and_eq_true] at hp
    cases i with
    | zero => simp at h; subst h; exact hp.1
    | succ i => simp at h; exact pureL_get hp.2 i v h

theorem trimK_some {R : Type} {k : Keep} {st : St} {K : St → Option R} {r : R} (h : trimK top k st K = some r) :
    ∃ st', K st' = some r ∧ ∀ E B w a, TRel E n st.tm a → MemRel E B st.m w → ∃ E', TRel E' n st'.tm a ∧ MemRel E' B st'.m w ∧ Good1 top B E w E' w := by
  unfold trimK at h
  cases top with
  | false =>
    rw [cond_false] at h
    exact ⟨_, h, fun E B w a ht hm => ⟨E, ht.of_get (keepTm_get _ _), hm, .refl _ _ _ _⟩⟩
  | true =>
    rw [cond_true] at h
    unfold trimV at h
    split at h
    · rename_i ids hids
      obtain ⟨hn, h⟩ := gd_some h
      obtain ⟨tm', h, htm⟩ := keepK_some h
      obtain ⟨m', h, hlen, hm'⟩ := blocksK_some h
      refine ⟨_, h, fun E B w a ht hm => ⟨E.ren ids, ⟨ht.size, ht.defers, fun t v e => ?_⟩, ?_, ⟨fun _ _ k => k, .refl B w, fun _ _ k => .inl k, fun e => (by cases e)⟩⟩⟩
      · obtain ⟨u, h1, h2⟩ := htm t v e
        obtain ⟨x, h3, h4⟩ := ht.get t u h1
        exact ⟨x, h3, h2 E x h4⟩
      · have hget : ∀ i, i < m'.length → ∃ id, ids[i]? = some id := by
          intro i hi
          rw [hlen] at hi
          exact ⟨ids[i], by simp [hi]⟩
        have hown : ∀ {i id : Nat}, ids[i]? = some id → (E.ren ids).own i = E.own id := fun h => by simp [Env.ren, h]
        have hlt : ∀ {i : Nat}, Mem.at m' i ≠ .free → ∃ id, ids[i]? = some id := fun h => hget _ (Mem.at_lt h)
        refine ⟨hm.size, fun i l e => ?_, fun i es e => ?_, fun i b o hl e => ?_, fun i p e => ?_, fun i j b o o' h1 h2 e1 e2 => ?_, fun i e => ?_, hm.imm, fun i l b o e e' => ?_, fun i l b o e e' => ?_⟩
        · obtain ⟨id, hid⟩ := hlt (i := i) (by rw [e]; simp)
          obtain ⟨h1, _, h3, _⟩ := hm' i id hid
          rw [e] at h1
          obtain ⟨b, o, ho, hc⟩ := hm.cells id l h1.symm
          refine ⟨b, o, by rw [hown hid]; exact ho, fun q v hv => ?_, hc.2⟩
          obtain ⟨x, k1, k2⟩ := hc.1 q v hv
          exact ⟨x, k1, rel_bare (E := E) (E' := E.ren ids) (fun _ _ k => k) _ _ (pureL_get (h3 l h1.symm) q v hv) k2⟩
        · obtain ⟨id, hid⟩ := hlt (i := i) (by rw [e]; simp)
          obtain ⟨h1, _, _, h4⟩ := hm' i id hid
          rw [e] at h1
          obtain ⟨b, ho, es', c, k1, k2⟩ := hm.maps id es h1.symm
          exact ⟨b, by rw [hown hid]; exact ho, es', c, k1, k2.ren (h4 es h1.symm)⟩
        · obtain ⟨id, hid⟩ := hlt (i := i) (by intro e0; rw [e0] at hl; cases hl)
          obtain ⟨h1, h2, _⟩ := hm' i id hid
          rw [hown hid] at e
          exact hm.place id b o h2 e
        · simp only [Env.ren] at e
          rw [Option.bind_eq_some_iff] at e
          obtain ⟨id, _, e⟩ := e
          exact hm.lt id p e
        · obtain ⟨id, hid⟩ := hlt (i := i) (by intro e0; rw [e0] at h1; cases h1)
          obtain ⟨jd, hjd⟩ := hlt (i := j) (by intro e0; rw [e0] at h2; cases h2)
          rw [hown hid] at e1
          rw [hown hjd] at e2
          have := hm.apart id jd b o o' (hm' i id hid).2.1 (hm' j jd hjd).2.1 e1 e2
          subst this
          exact nodupB_inj hn hid hjd
        · rcases Nat.lt_or_ge i m'.length with hi | hi
          · obtain ⟨id, hid⟩ := hget i hi
            obtain ⟨h1, h2, _⟩ := hm' i id hid
            rw [e] at h1
            rw [← h1] at h2
            cases h2
          · simp only [Env.ren]
            rw [List.getElem?_eq_none (by omega)]; rfl
        · obtain ⟨id, hid⟩ := hlt (i := i) (by rw [e]; simp)
          have h1 := (hm' i id hid).1
          rw [e] at h1
          rw [hown hid] at e'
          exact hm.tot id l b o h1.symm e'
        · obtain ⟨id, hid⟩ := hlt (i := i) (by rw [e]; simp)
          have h1 := (hm' i id hid).1
          rw [e] at h1
          rw [hown hid] at e'
          exact hm.row id l b o h1.symm e'
    · cases h

theorem Sim.seq {a b : Code} {st st1 st2 : St} {e : Exit} (h : Sim P top n a st .normal st1) (h' : Sim P top n b st1 e st2) : Sim P top n (.seq a b) st e st2 := by
  intro E B w x Q ht hm hQ
  refine wp_seq (h E B w x _ ht hm fun E' w' a' k1 k2 k3 => ?_)
  exact h' E' B w' a' Q k1 k2 fun E'' w'' a'' k4 k5 k6 => hQ E'' w'' a'' k4 k5 (k3.trans k6)

/-- The rounds of a loop. -/
theorem loopIt_some {R : Type} {step : St → (Exit → St → Option R) → Option R} {k : Keep} {b : Code}
    (hstep : ∀ {st : St} {K : Exit → St → Option R} {r : R}, step st K = some r → ∃ e st', K e st' = some r ∧ Sim P top n b st e st') :
    ∀ (fuel : Nat) {st : St} {K : Exit → St → Option R} {r : R}, loopIt step (trimK top k) fuel st K = some r → ∃ e st', K e st' = some r ∧ Sim P top n (.loop b) st e st' := by
  have key : ∀ (fuel : Nat) {st : St} {K : Exit → St → Option R} {r : R}, loopIt step (trimK top k) fuel st K = some r →
      ∃ e st', K e st' = some r ∧ ∀ E B w a Q, TRel E n st.tm a → MemRel E B st.m w → (∀ E' w' a', TRel E' n st'.tm a' → MemRel E' B st'.m w' → Good1 top B E w E' w' → Q e a' w') → Code.rounds P b Q fuel a w := by
    intro fuel
    induction fuel with
    | zero => intro st K r h; cases h
    | succ fuel ih =>
      intro st K r h
      simp only [loopIt] at h
      obtain ⟨e, st2, h, hsim⟩ := hstep h
      obtain ⟨st1, h, htrim⟩ := trimK_some (n := n) h
      cases e with
      | normal =>
        simp only at h
        obtain ⟨e, st3, h, hrest⟩ := ih h
        refine ⟨e, st3, h, fun E B w a Q ht hm hQ => ?_⟩
        rw [rounds_succ]
        refine hsim E B w a _ ht hm fun E2 w2 a2 ht2 hm2 hg2 => ?_
        obtain ⟨E1, ht1, hm1, hg1⟩ := htrim E2 B w2 a2 ht2 hm2
        exact hrest E1 B w2 a2 Q ht1 hm1 fun E3 w3 a3 k1 k2 k3 => hQ E3 w3 a3 k1 k2 ((hg2.trans hg1).trans k3)
      | _ =>
        simp only at h
        refine ⟨_, st1, h, fun E B w a Q ht hm hQ => ?_⟩
        rw [rounds_succ]
        refine hsim E B w a _ ht hm fun E2 w2 a2 ht2 hm2 hg2 => ?_
        obtain ⟨E1, ht1, hm1, hg1⟩ := htrim E2 B w2 a2 ht2 hm2
        exact hQ E1 w2 a2 ht1 hm1 (hg2.trans hg1)
  intro fuel st K r h
  obtain ⟨e, st', h1, h2⟩ := key fuel h
  exact ⟨e, st', h1, fun E B w a Q ht hm hQ => wp_loop_rounds fuel (h2 E B w a Q ht hm hQ)⟩

theorem trim_loop {R : Type} {step : St → (Exit → St → Option R) → Option R} {k : Keep} {b : Code}
    (hstep : ∀ {st : St} {K : Exit → St → Option R} {r : R}, step st K = some r → ∃ e st', K e st' = some r ∧ Sim P top n b st e st') (fuel : Nat) {st : St} {K : Exit → St → Option R} {r : R}
    (h : (trimK top k st fun st => loopIt step (trimK top k) fuel st K) = some r) : ∃ e st', K e st' = some r ∧ Sim P top n (.loop b) st e st' := by
  obtain ⟨st1, h, htrim⟩ := trimK_some (n := n) h
  obtain ⟨e, st', h, hsim⟩ := loopIt_some hstep fuel h
  refine ⟨e, st', h, fun E B w a Q ht hm hQ => ?_⟩
  obtain ⟨E1, ht1, hm1, hg1⟩ := htrim E B w a ht hm
  exact hsim E1 B w a Q ht1 hm1 fun E2 w2 a2 k1 k2 k3 => hQ E2 w2 a2 k1 k2 (hg1.trans k3)

theorem LoopsOk.seq {a b : Code} (h : LoopsOk C f (.seq a b)) : LoopsOk C f a ∧ LoopsOk C f b :=
  ⟨fun x hx => h x (by simp [loopsOf, hx]), fun x hx => h x (by simp [loopsOf, hx])⟩
theorem LoopsOk.cond {c : Operand} {a b : Code} (h : LoopsOk C f (.cond c a b)) : LoopsOk C f a ∧ LoopsOk C f b :=
  ⟨fun x hx => h x (by simp [loopsOf, hx]), fun x hx => h x (by simp [loopsOf, hx])⟩
theorem LoopsOk.block {i : Nat} {b : Code} (h : LoopsOk C f (.block i b)) : LoopsOk C f b := fun x hx => h x (by simp [loopsOf, hx])
theorem LoopsOk.loop {b : Code} (h : LoopsOk C f (.loop b)) : LoopsOk C f b := fun x hx => h x (by simp [loopsOf, hx])

theorem cond_cases.{u} {α : Type u} {b : Bool} {x y : Option α} {r : α} (h : cond b x y = some r) : (b = true ∧ x = some r) ∨ (b = false ∧ y = some r) := by
  cases b with
  | true => exact .inl ⟨rfl, h⟩
  | false => exact .inr ⟨rfl, h⟩

theorem evC_some {R : Type} (hmix : P.follows .mixedOrders = true) {call : Inline R} (hc : InlineOk P call) : ∀ {c : Code} (hl : top = true → LoopsOk C f c) {st : St} {K : Exit → St → Option R} {r : R}, evC P C call f top n c st K = some r →
    ∃ e st', K e st' = some r ∧ Sim P top n c st e st'
  | .skip, hl, st, K, r, h => ⟨.normal, st, h, fun E B w a Q ht hm hQ => wp_skip (hQ E w a ht hm (.refl _ _ _ _))⟩
  | .label l, hl, st, K, r, h => ⟨.normal, st, h, fun E B w a Q ht hm hQ => wp_label (hQ E w a ht hm (.refl _ _ _ _))⟩
  | .ret, hl, st, K, r, h => ⟨.ret, st, h, fun E B w a Q ht hm hQ => wp_ret (hQ E w a ht hm (.refl _ _ _ _))⟩
  | .exit i, hl, st, K, r, h => ⟨.exit i, st, h, fun E B w a Q ht hm hQ => wp_exit (hQ E w a ht hm (.refl _ _ _ _))⟩
  | .region id ops draw, hl, st, K, r, h => by
    unfold evC at h
    cases draw with
    | true =>
      rw [cond_true] at h
      obtain ⟨st', h1, h2⟩ := evDraw_some hmix h
      exact ⟨.normal, st', h1, fun E B w a Q ht hm hQ => h2 id E B w a Q ht hm fun E' w' a' k1 k2 k3 => hQ E' w' a' k1 k2 k3.one⟩
    | false =>
      rw [cond_false] at h
      obtain ⟨st', h1, h2⟩ := evOps_some hc h
      exact ⟨.normal, st', h1, fun E B w a Q ht hm hQ => wp_region_list (h2 E B w a Q ht hm fun E' w' a' k1 k2 k3 => hQ E' w' a' k1 k2 k3.one)⟩
  | .seq a b, hl, st, K, r, h => by
    unfold evC at h
    split at h
    · rename_i ops draw d hj
      rw [Option.bind_eq_some_iff] at h
      obtain ⟨q, h1, h2⟩ := h
      obtain ⟨e, st', h3, h4⟩ := evC_some hmix hc (fun t => (hl t).seq.2) h2
      exact ⟨e, st', h3, (join_some hmix hj h1).seq h4⟩
    · obtain ⟨e, st1, h1, h2⟩ := evC_some hmix hc (fun t => (hl t).seq.1) h
      cases e with
      | normal =>
        simp only at h1
        obtain ⟨e, st2, h3, h4⟩ := evC_some hmix hc (fun t => (hl t).seq.2) h1
        exact ⟨e, st2, h3, h2.seq h4⟩
      | _ =>
        simp only at h1
        exact ⟨_, st1, h1, fun E B w x Q ht hm hQ => wp_seq (h2 E B w x _ ht hm fun E' w' a' k1 k2 k3 => hQ E' w' a' k1 k2 k3)⟩
  | .cond c x y, hl, st, K, r, h => by
    unfold evC at h
    obtain ⟨v, hv, h1⟩ := valK_some h
    obtain ⟨q, rfl, h2⟩ := boolK_some h1
    have heval : ∀ {E : Env} {a : Act}, TRel E n st.tm a → a.eval c = .bool q := by
      intro E a ht
      have := ht.vals c _ hv
      simpa only [V.rel] using this
    cases q with
    | true =>
      rw [cond_true] at h2
      obtain ⟨e, st', h3, h4⟩ := evC_some hmix hc (fun t => (hl t).cond.1) h2
      refine ⟨e, st', h3, fun E B w a Q ht hm hQ => wp_cond_true (heval ht) (h4 E B w a Q (know_rel ht hv) (by rw [know_m]; exact hm) hQ)⟩
    | false =>
      rw [cond_false] at h2
      obtain ⟨e, st', h3, h4⟩ := evC_some hmix hc (fun t => (hl t).cond.2) h2
      refine ⟨e, st', h3, fun E B w a Q ht hm hQ => wp_cond_false (heval ht) (h4 E B w a Q (know_rel ht hv) (by rw [know_m]; exact hm) hQ)⟩
  | .block i b, hl, st, K, r, h => by
    unfold evC at h
    obtain ⟨e, st', h1, h2⟩ := evC_some hmix hc (fun t => (hl t).block) h
    cases e with
    | exit j =>
      simp only at h1
      by_cases e : j = i
      · subst e
        simp only [Nat.beq_refl, cond_true] at h1
        exact ⟨.normal, st', h1, fun E B w a Q ht hm hQ => wp_block (h2 E B w a _ ht hm fun E' w' a' k1 k2 k3 => by simp only [Exit.inBlock, if_true]; exact hQ E' w' a' k1 k2 k3)⟩
      · have hb : Nat.beq j i = false := by
          cases hq : Nat.beq j i with
          | false => rfl
          | true => exact absurd (Nat.eq_of_beq_eq_true hq) e
        rw [hb, cond_false] at h1
        exact ⟨.exit j, st', h1, fun E B w a Q ht hm hQ => wp_block (h2 E B w a _ ht hm fun E' w' a' k1 k2 k3 => by simp only [Exit.inBlock, e, if_false]; exact hQ E' w' a' k1 k2 k3)⟩
    | _ =>
      simp only at h1
      exact ⟨_, st', h1, fun E B w a Q ht hm hQ => wp_block (h2 E B w a _ ht hm fun E' w' a' k1 k2 k3 => hQ E' w' a' k1 k2 k3)⟩
  | .loop b, hl, st, K, r, h => by
    unfold evC at h
    split at h
    · rename_i q hq
      rcases cond_cases hq with ⟨hT, hq⟩ | ⟨_, hq⟩
      · obtain ⟨h1, h2, h3, h4⟩ := findLoop_some hq
        have hb := hl hT b (by simp [loopsOf]) q h1 h2 h3
        obtain ⟨e, st', k1, k2⟩ := q.ok _ _ _ h
        rw [hb, h4] at k2
        exact ⟨e, st', k1, hT ▸ k2⟩
      · cases hq
    · exact trim_loop (fun h => evC_some hmix hc (fun t => (hl t).loop) h) loopFuel h
  | .rangeFunc .., hl, st, K, r, h => by cases h
  | .scope _, hl, st, K, r, h => by cases h
  | .goto _, hl, st, K, r, h => by cases h
  | .refuse _, hl, st, K, r, h => by cases h

theorem resOfK_some {R : Type} {st : St} : ∀ {rs : List ResultVar} {K : List V → Option R} {r : R}, resOfK P st rs K = some r →
    ∃ vs, K vs = some r ∧ ∀ E B w a, TRel E n st.tm a → MemRel E B st.m w →
      ∃ xs, (rs.mapM (m := Sem) fun | .tmp t => pure (a.tmps.getD t undef) | .cell q t => do loadVar t (← asAddr (a.tmps.getD q undef))).run P w = .ok xs w ∧ V.relL E vs xs
  | [], K, r, h => ⟨[], h, fun E B w a _ _ => ⟨[], rfl, by simp [V.relL]⟩⟩
  | .tmp t :: rs, K, r, h => by
    unfold resOfK at h
    obtain ⟨v, hv, h⟩ := valK_some h
    obtain ⟨vs, h, hvs⟩ := resOfK_some h
    refine ⟨_, h, fun E B w a ht hm => ?_⟩
    obtain ⟨xs, h1, h2⟩ := hvs E B w a ht hm
    obtain ⟨x, h3, h4⟩ := ht.get t v hv
    refine ⟨x :: xs, ?_, by simp only [V.relL]; exact ⟨h4, h2⟩⟩
    have : a.tmps.getD t undef = x := by simp [Array.getD_eq_getD_getElem?, h3]
    simp only [List.mapM_cons, Sem.run_bind, Sem.run_pure, Result.andThen_ok, h1, this]
  | .cell q t :: rs, K, r, h => by
    unfold resOfK at h
    obtain ⟨v, hv, h⟩ := valK_some h
    obtain ⟨u, h, hu⟩ := loadK_some h
    obtain ⟨vs, h, hvs⟩ := resOfK_some h
    refine ⟨_, h, fun E B w a ht hm => ?_⟩
    obtain ⟨xs, h1, h2⟩ := hvs E B w a ht hm
    obtain ⟨x, h3, h4⟩ := ht.get q v hv
    obtain ⟨y, h5, h6⟩ := hu E B w x hm h4
    refine ⟨y :: xs, ?_, by simp only [V.relL]; exact ⟨h6, h2⟩⟩
    have : a.tmps.getD q undef = x := by simp [Array.getD_eq_getD_getElem?, h3]
    have h7 : (do loadVar t (← asAddr x) : Sem Value).run P w = .ok y w := by
      rw [← h5]
      unfold Instr.loadAt
      simp only [Sem.run_bind]
      cases x with
      | pointer p =>
        cases p with
        | some p => rfl
        | none => simp [Instr.loadAt, Instr.sureAddr] at h5
      | _ => simp [Instr.loadAt, Instr.sureAddr] at h5
    simp only [List.mapM_cons, Sem.run_bind, Sem.run_pure, Result.andThen_ok, this] at h7 ⊢
    rw [h7]
    simp only [Result.andThen_ok, h1]

theorem resultK_some {R : Type} {st : St} {fn : Func} {K : V → Option R} {r : R} (h : resultK P st fn.results.toList K = some r) :
    ∃ v, K v = some r ∧ ∀ E B w a, TRel E n st.tm a → MemRel E B st.m w → ∃ x, (results fn a.tmps).run P w = .ok x w ∧ V.rel E v x := by
  obtain ⟨vs, h, hvs⟩ := resOfK_some (n := n) h
  have run : ∀ E B w a, TRel E n st.tm a → MemRel E B st.m w → ∃ xs : List Value, V.relL E vs xs ∧ (results fn a.tmps).run P w = .ok (if h : xs.length = 1 then xs[0] else .tuple xs.toArray) w := by
    intro E B w a ht hm
    obtain ⟨xs, h1, h2⟩ := hvs E B w a ht hm
    refine ⟨xs, h2, ?_⟩
    have := run_mapM_toArray (xs := fn.results) h1
    unfold results
    rw [Sem.run_bind]
    refine (congrArg (fun r => Result.andThen r _) this).trans ?_
    simp
  split at h
  · rename_i v
    refine ⟨v, h, fun E B w a ht hm => ?_⟩
    obtain ⟨xs, h1, h2⟩ := run E B w a ht hm
    cases xs with
    | nil => simp [V.relL] at h1
    | cons x xs => cases xs with
      | nil => simp only [V.relL] at h1; exact ⟨x, by simpa using h2, h1.1⟩
      | cons => simp [V.relL] at h1
  · rename_i hne
    refine ⟨_, h, fun E B w a ht hm => ?_⟩
    obtain ⟨xs, h1, h2⟩ := run E B w a ht hm
    have hl : xs.length ≠ 1 := by
      rw [← relL_length h1]
      intro hl
      match vs, hl, hne with
      | [v], _, hne => exact hne v rfl
    refine ⟨.tuple xs.toArray, by rw [dif_neg hl] at h2; exact h2, by simp only [V.rel]; exact ⟨_, rfl, h1⟩⟩

theorem idxTm_get : ∀ (l : List V) (k t : Nat) (v : V), tget t (idxTm k l) = some v → k ≤ t ∧ l[t - k]? = some v
  | [], k, t, v, h => by cases h
  | u :: l, k, t, v, h => by
    simp only [idxTm, tget] at h
    cases hb : Nat.beq k t with
    | true =>
      rw [hb, cond_true] at h; cases h
      have := Nat.eq_of_beq_eq_true hb
      subst this
      exact ⟨Nat.le_refl _, by simp⟩
    | false =>
      rw [hb, cond_false] at h
      obtain ⟨h1, h2⟩ := idxTm_get l (k + 1) t v h
      refine ⟨by omega, ?_⟩
      rw [show t - k = (t - (k + 1)) + 1 by omega]
      simpa using h2

theorem enter_rel {E : Env} {args : List V} {xs : Array Value} (h : V.relL E args xs.toList) (hn : args.length ≤ n) :
    TRel E n (idxTm 0 args) { tmps := xs ++ Array.replicate (n - xs.size) undef, defers := [] } := by
  have hl := relL_length h
  simp only [Array.length_toList] at hl
  refine ⟨by simp; omega, rfl, fun t v e => ?_⟩
  obtain ⟨_, h1⟩ := idxTm_get _ _ _ _ e
  simp only [Nat.sub_zero] at h1
  obtain ⟨x, h2, h3⟩ := relL_get h t v h1
  rw [Array.getElem?_toList] at h2
  refine ⟨x, ?_, h3⟩
  simp only
  rw [Array.getElem?_append_left]
  · exact h2
  · rcases Nat.lt_or_ge t xs.size with h4 | h4
    · exact h4
    · rw [Array.getElem?_eq_none h4] at h2; cases h2

theorem evF_ok {R : Type} (hmix : P.follows .mixedOrders = true) : ∀ (d : Nat), InlineOk P (evF (R := R) P C d)
  | 0 => fun g args m K r h => by cases h
  | d + 1 => by
    intro g args m K r h
    unfold evF at h
    split at h
    · rename_i fn hfn
      split at h
      · rename_i c hbody
        obtain ⟨hn, h⟩ := gd_some h
        have hn := Nat.le_of_ble_eq_true hn
        obtain ⟨e, st', h1, h2⟩ := evC_some hmix (evF_ok hmix d) (fun t => by cases t) h
        have key : (e = .normal ∨ e = .ret) ∧ resultK P st' fn.results.toList (fun v => K v st'.m) = some r := by
          cases e <;> simp only at h1 <;> first | exact ⟨.inl rfl, h1⟩ | exact ⟨.inr rfl, h1⟩ | cases h1
        obtain ⟨he, h3⟩ := key
        obtain ⟨v, h4, h5⟩ := resultK_some (n := fn.ntmps) h3
        refine ⟨v, st'.m, h4, fun E B w xs hm hx => ?_⟩
        have hent := enter_rel (n := fn.ntmps) hx hn
        refine calls_of_wp hfn hbody (h2 E B w _ _ hent hm fun E' w' a' k1 k2 k3 => ?_)
        obtain ⟨x, h6, h7⟩ := h5 E' B w' a' k1 k2
        have fin : a'.defers = [] ∧ ∃ y, (results fn a'.tmps).run P w' = .ok y w' ∧ ∃ x E'', Ending.returned y = .returned x ∧ V.rel E'' v x ∧ MemRel E'' B st'.m w' ∧ Good B E w E'' w' :=
          ⟨k1.defers, x, h6, x, E', rfl, h7, k2, ⟨k3.own rfl, k3.below, k3.fresh⟩⟩
        rcases he with rfl | rfl <;> exact fin
      · cases h
    · cases h

theorem evTop_ok {R : Type} (hmix : P.follows .mixedOrders = true) (hl : ∀ fn c, P.funcs[f]? = some fn → fn.body = some c → LoopsOk C f c) {d : Nat} {args : List V} {K : V → Option R} {r : R} (h : evTop P C d f args K = some r) : ∃ v, K v = some r ∧ PCalls P f args v := by
  unfold evTop at h
  split at h
  · rename_i fn hfn
    split at h
    · rename_i c hbody
      obtain ⟨hn, h⟩ := gd_some h
      have hn := Nat.le_of_ble_eq_true hn
      obtain ⟨e, st', h1, h2⟩ := evC_some hmix (evF_ok hmix d) (fun _ => hl fn c hfn hbody) h
      have key : (e = .normal ∨ e = .ret) ∧ resultK P st' fn.results.toList (fun v => reifyK st'.m v K) = some r := by
        cases e <;> simp only at h1 <;> first | exact ⟨.inl rfl, h1⟩ | exact ⟨.inr rfl, h1⟩ | cases h1
      obtain ⟨he, h3⟩ := key
      obtain ⟨u, h4, h5⟩ := resultK_some (n := fn.ntmps) h3
      obtain ⟨v, h6, h7⟩ := reifyK_some h4
      refine ⟨v, h6, ?_⟩
      intro E w xs hm hx
      have hent := enter_rel (n := fn.ntmps) hx hn
      refine calls_of_wp hfn hbody (h2 E w.heap.size w _ _ hent hm fun E' w' a' k1 k2 k3 => ?_)
      obtain ⟨x, h8, h9⟩ := h5 E' w.heap.size w' a' k1 k2
      have hown : ∀ i, E.own i = none := fun i => hm.free i (by simp [Mem.at])
      have hsnap := k2.snap
      have fin : a'.defers = [] ∧ ∃ y, (results fn a'.tmps).run P w' = .ok y w' ∧ ∃ x E'', Ending.returned y = .returned x ∧ V.rel E'' v x ∧ MemRel E'' w.heap.size [] w' ∧ Good w.heap.size E w E'' w' := by
        refine ⟨k1.defers, x, h8, x, E'.snap w.heap.size w', rfl, h7 E' w.heap.size w' x k2 h9, ?_, ⟨⟨fun i p e => (by rw [hown i] at e; cases e), fun b cs e => snap_imm (k3.imm b cs e), fun i p e => (by rw [hown i] at e; cases e)⟩, k3.below, fun b cs e => ?_⟩⟩
        · exact ⟨k3.below.size, hsnap.cells, hsnap.maps, fun id b o e => by simp [Mem.at, Blk.live] at e, hsnap.lt, hsnap.apart, hsnap.free, hsnap.imm, hsnap.tot, hsnap.row⟩
        · simp only [Env.snap] at e
          split at e
          · rename_i cs' h10
            exact k3.fresh b cs' h10 |>.imp (fun k => by cases e; exact k) id
          · split at e
            · rename_i hB; exact .inr hB
            · cases e
      rcases he with rfl | rfl <;> exact fin
    · cases h
  · cases h

end

/-- A contract by evaluation: 'run' is what the evaluation of the function's body comes to. -/
def Ctr.of {P : Program} (hmix : P.follows .mixedOrders = true) (C : Cfg P) (d : Nat) (f : FuncId) (hl : ∀ fn c, P.funcs[f]? = some fn → fn.body = some c → LoopsOk C f c) (run : {R : Type} → List V → (V → Option R) → Option R)
    (h : ∀ {R : Type} (args : List V) (K : V → Option R) (r : R), run args K = some r → evTop P C d f args K = some r)
    (nat : ∀ {R S : Type} (args : List V) (K : V → Option R) (g : R → Option S), (run args K).bind g = run args fun v => (K v).bind g) : Ctr P :=
  ⟨f, run, fun args K r e => evTop_ok hmix hl (h args K r e), nat⟩

/-- A loop, taken as a whole, by evaluation of its body. -/
def LoopCtr.of {P : Program} (hmix : P.follows .mixedOrders = true) (C : Cfg P) (d : Nat) (f : FuncId) (key n : Nat) (k : Keep) (body : Code) (hl : LoopsOk C f body)
    (run : {R : Type} → List (Option V) → Mem → (Exit → St → Option R) → Option R)
    (h : ∀ {R : Type} (vs : List (Option V)) (m : Mem) (K : Exit → St → Option R) (r : R), run vs m K = some r → loopIt (evC P C (evF P C d) f true n body) (trimK true k) loopFuel ⟨zipTm k.tmps vs, m⟩ K = some r) : LoopCtr P where
  f := f
  key := key
  n := n
  body := body
  run st K := trimV k st fun vs m => run vs m K
  ok := by
    intro R st K r e
    have h2 : (trimK true k st fun st => loopIt (evC P C (evF P C d) f true n body) (trimK true k) loopFuel st K) = some r := by
      unfold trimK
      rw [cond_true]
      unfold trimV at e ⊢
      split at e
      · rename_i ids hids
        obtain ⟨hn, e⟩ := gd_some e
        unfold gd
        rw [hn, cond_true]
        -- the values that are kept are the same ones: only what stands behind them differs
        have mono : ∀ (ts : List Nat) (K1 K2 : List (Option V) → Option R), (∀ vs, K1 vs = some r → K2 vs = some r) → keepK ids st.tm ts K1 = some r → keepK ids st.tm ts K2 = some r := by
          intro ts
          induction ts with
          | nil => intro K1 K2 hk h; exact hk _ h
          | cons t ts ih =>
            intro K1 K2 hk h
            unfold keepK at h ⊢
            split at h
            · exact ih _ _ (fun vs h => hk _ h) h
            · rename_i v hv
              unfold renK at h ⊢
              (repeat' split at h) <;> first
                | cases h; done
                | exact ih _ _ (fun vs h => hk _ h) h
                | (obtain ⟨hp, h⟩ := gd_some h
                   unfold gd; rw [hp, cond_true]
                   exact ih _ _ (fun vs h => hk _ h) h)
        have mono2 : ∀ (is : List Nat) (K1 K2 : Mem → Option R), (∀ m, K1 m = some r → K2 m = some r) → blocksK st.m is K1 = some r → blocksK st.m is K2 = some r := by
          intro is
          induction is with
          | nil => intro K1 K2 hk h; exact hk _ h
          | cons i is ih =>
            intro K1 K2 hk h
            unfold blocksK at h ⊢
            split at h
            · obtain ⟨hp, h⟩ := gd_some h
              unfold gd; rw [hp, cond_true]
              exact ih _ _ (fun vs h => hk _ h) h
            · obtain ⟨hp, h⟩ := gd_some h
              unfold gd; rw [hp, cond_true]
              exact ih _ _ (fun vs h => hk _ h) h
            · cases h
        exact mono _ _ _ (fun vs e => mono2 _ _ _ (fun m e => h vs m K r e) e) e
      · cases e
    exact trim_loop (fun h => evC_some hmix (evF_ok hmix d) (fun _ => hl) h) loopFuel h2

end Go.Rx
