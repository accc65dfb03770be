/- Contracts in Lean's own types. -/
import Derived.Test.YteahnnchfegknaaRxCtr
set_option linter.unusedVariables false
namespace Go.Rx

/-- How values of a Go type are told in Lean. -/
structure Cod (A : Type) where
  dec : {R : Type} → V → (A → Option R) → Option R
  enc : {R : Type} → A → (V → Option R) → Option R
  val : A → V
  dec_some : ∀ {R : Type} {v : V} {K : A → Option R} {r : R}, dec v K = some r → ∃ a, v = val a ∧ K a = some r
  enc_val : ∀ {R : Type} (a : A) (K : V → Option R), enc a K = K (val a)
  dec_val : ∀ {R : Type} (a : A) (K : A → Option R), dec (val a) K = K a
  dec_nat : ∀ {R S : Type} (v : V) (K : A → Option R) (g : R → Option S), (dec v K).bind g = dec v fun a => (K a).bind g

def Cod.int (k : IntKind) : Cod Int where
  dec v K := intK k v K
  enc a K := K (.int k a)
  val a := .int k a
  dec_some h := intK_some h
  enc_val a K := rfl
  dec_val a K := by simp [intK]
  dec_nat v K g := by rw [intK_nat]

def Cod.bool : Cod Bool where
  dec v K := boolK v K
  enc a K := K (.bool a)
  val a := .bool a
  dec_some h := boolK_some h
  enc_val a K := rfl
  dec_val a K := rfl
  dec_nat v K g := by rw [boolK_nat]

def Cod.str : Cod (List UInt8) where
  dec v K := strK v K
  enc a K := K (.str a)
  val a := .str a
  dec_some h := strK_some h
  enc_val a K := rfl
  dec_val a K := rfl
  dec_nat v K g := by rw [strK_nat]

/-- An error of the program: none, or a fault with its code and place ('t': the type of a pointer to it). -/
abbrev Err := Option (Int × Int)

def errK {R : Type} (e : Err) (a : Option R) (b : Int → Int → Option R) : Option R :=
  match e with
  | none => a
  | some (c, p) => b c p

def errDec (t : TypeId) {R : Type} (v : V) (K : Err → Option R) : Option R :=
  match v with
  | .nilI => K none
  | .iface t' (.ibox l 0) => gd (Nat.beq t' t) (consK l fun a l => intK .i64 a fun c => consK l fun b l => intK .i64 b fun p => nilK l (K (some (c, p))))
  | _ => none

def errVal (t : TypeId) : Err → V
  | none => .nilI
  | some (c, p) => .iface t (.ibox [.int .i64 c, .int .i64 p] 0)

def Cod.err (t : TypeId) : Cod Err where
  dec v K := errDec t v K
  enc e K := errK e (K .nilI) fun c p => K (.iface t (.ibox [.int .i64 c, .int .i64 p] 0))
  val := errVal t
  dec_some {R v K r} h := by
    unfold errDec at h
    split at h
    · exact ⟨none, rfl, h⟩
    · obtain ⟨ht0, e0⟩ := gd_some h
      obtain ⟨a, l1, h1, e1⟩ := consK_some e0
      obtain ⟨c, h2, e2⟩ := intK_some e1
      obtain ⟨b, l2, h3, e3⟩ := consK_some e2
      obtain ⟨p, h4, e4⟩ := intK_some e3
      obtain ⟨h5, e5⟩ := nilK_some e4
      have ht := Nat.eq_of_beq_eq_true ht0
      subst h5; subst h4; subst h3; subst h2; subst h1; subst ht
      exact ⟨some (c, p), rfl, e5⟩
    · cases h
  enc_val e K := by cases e <;> rfl
  dec_val e K := by
    cases e with
    | none => rfl
    | some p => simp [errVal, errDec, consK, intK, nilK, gd]
  dec_nat v K g := by
    unfold errDec
    split
    · rfl
    · simp only [gd_nat, consK_nat, intK_nat, nilK_nat]
    · rfl

/-- Lists of values, one behind the other. -/
structure CodL (A : Type) where
  dec : {R : Type} → List V → (A → List V → Option R) → Option R
  enc : {R : Type} → A → (List V → Option R) → Option R
  val : A → List V
  dec_some : ∀ {R : Type} {l : List V} {K : A → List V → Option R} {r : R}, dec l K = some r → ∃ a l', l = val a ++ l' ∧ K a l' = some r
  enc_val : ∀ {R : Type} (a : A) (K : List V → Option R), enc a K = K (val a)
  dec_val : ∀ {R : Type} (a : A) (l : List V) (K : A → List V → Option R), dec (val a ++ l) K = K a l
  dec_nat : ∀ {R S : Type} (l : List V) (K : A → List V → Option R) (g : R → Option S), (dec l K).bind g = dec l fun a l => (K a l).bind g

def CodL.nil : CodL Unit where
  dec l K := K () l
  enc _ K := K []
  val _ := []
  dec_some h := ⟨(), _, rfl, h⟩
  enc_val _ _ := rfl
  dec_val _ _ _ := rfl
  dec_nat _ _ _ := rfl

def CodL.one {A : Type} (c : Cod A) : CodL A where
  dec l K := consK l fun v l => c.dec v fun a => K a l
  enc a K := c.enc a fun v => K [v]
  val a := [c.val a]
  dec_some h := by
    obtain ⟨v, l, h1, e1⟩ := consK_some h
    obtain ⟨a, h2, e2⟩ := c.dec_some e1
    subst h2; subst h1
    exact ⟨a, l, rfl, e2⟩
  enc_val a K := by rw [c.enc_val]
  dec_val a l K := by simp only [List.cons_append, List.nil_append, consK, c.dec_val]
  dec_nat l K g := by simp only [consK_nat, c.dec_nat]

def CodL.cons {A B : Type} (c : Cod A) (d : CodL B) : CodL (A × B) where
  dec l K := consK l fun v l => c.dec v fun a => d.dec l fun b l => K (a, b) l
  enc p K := c.enc p.1 fun v => d.enc p.2 fun l => K (v :: l)
  val p := c.val p.1 :: d.val p.2
  dec_some h := by
    obtain ⟨v, l, h1, e1⟩ := consK_some h
    obtain ⟨a, h2, e2⟩ := c.dec_some e1
    obtain ⟨b, l', h3, e3⟩ := d.dec_some e2
    subst h3; subst h2; subst h1
    exact ⟨(a, b), l', rfl, e3⟩
  enc_val p K := by rw [c.enc_val, d.enc_val]
  dec_val p l K := by simp only [List.cons_append, consK, c.dec_val, d.dec_val]
  dec_nat l K g := by simp only [consK_nat, c.dec_nat, d.dec_nat]

def CodL.app {A B : Type} (c : CodL A) (d : CodL B) : CodL (A × B) where
  dec l K := c.dec l fun a l => d.dec l fun b l => K (a, b) l
  enc p K := c.enc p.1 fun v => d.enc p.2 fun l => K (v ++ l)
  val p := c.val p.1 ++ d.val p.2
  dec_some h := by
    obtain ⟨a, l1, h1, e1⟩ := c.dec_some h
    obtain ⟨b, l2, h2, e2⟩ := d.dec_some e1
    subst h2; subst h1
    exact ⟨(a, b), l2, by simp, e2⟩
  enc_val p K := by rw [c.enc_val, d.enc_val]
  dec_val p l K := by rw [List.append_assoc, c.dec_val, d.dec_val]
  dec_nat l K g := by simp only [c.dec_nat, d.dec_nat]

def CodL.iso {A B : Type} (c : CodL A) (f : A → B) (g : B → A) (h : ∀ b, f (g b) = b) (h' : ∀ a, g (f a) = a) : CodL B where
  dec l K := c.dec l fun a l => K (f a) l
  enc b K := c.enc (g b) K
  val b := c.val (g b)
  dec_some e := by
    obtain ⟨a, l', h1, e⟩ := c.dec_some e
    exact ⟨f a, l', by rw [h']; exact h1, e⟩
  enc_val b K := c.enc_val _ K
  dec_val b l K := by rw [c.dec_val, h]
  dec_nat l K q := by rw [c.dec_nat]

def Cod.agg {A : Type} (c : CodL A) : Cod A where
  dec v K := aggK v fun l => c.dec l fun a l => nilK l (K a)
  enc a K := c.enc a fun l => K (.agg l)
  val a := .agg (c.val a)
  dec_some h := by
    obtain ⟨l, h1, e1⟩ := aggK_some h
    obtain ⟨a, l', h2, e2⟩ := c.dec_some e1
    obtain ⟨h3, e3⟩ := nilK_some e2
    subst h3; subst h2; subst h1
    exact ⟨a, by simp, e3⟩
  enc_val a K := c.enc_val _ _
  dec_val a K := by
    have := c.dec_val a [] (fun a l => nilK l (K a))
    rw [List.append_nil] at this
    exact this
  dec_nat v K g := by simp only [aggK_nat, c.dec_nat, nilK_nat]

def Cod.tup {A : Type} (c : CodL A) : Cod A where
  dec v K := tupK v fun l => c.dec l fun a l => nilK l (K a)
  enc a K := c.enc a fun l => K (.tup l)
  val a := .tup (c.val a)
  dec_some h := by
    obtain ⟨l, h1, e1⟩ := tupK_some h
    obtain ⟨a, l', h2, e2⟩ := c.dec_some e1
    obtain ⟨h3, e3⟩ := nilK_some e2
    subst h3; subst h2; subst h1
    exact ⟨a, by simp, e3⟩
  enc_val a K := c.enc_val _ _
  dec_val a K := by
    have := c.dec_val a [] (fun a l => nilK l (K a))
    rw [List.append_nil] at this
    exact this
  dec_nat v K g := by simp only [tupK_nat, c.dec_nat, nilK_nat]

/-- A pointer that is captured: what stands behind it when the call begins. -/
def Cod.box {A : Type} (c : CodL A) : Cod A where
  dec v K := match v with
    | .ibox l 0 => c.dec l fun a l => nilK l (K a)
    | _ => none
  enc a K := c.enc a fun l => K (.ibox l 0)
  val a := .ibox (c.val a) 0
  dec_some h := by
    split at h
    · obtain ⟨a, l', h2, e2⟩ := c.dec_some h
      obtain ⟨h3, e3⟩ := nilK_some e2
      subst h3; subst h2
      exact ⟨a, by simp, e3⟩
    · cases h
  enc_val a K := c.enc_val _ _
  dec_val a K := by
    have := c.dec_val a [] (fun a l => nilK l (K a))
    rw [List.append_nil] at this
    exact this
  dec_nat v K g := by split <;> simp only [c.dec_nat, nilK_nat, Option.bind_none]

/-- A slice that nobody writes: is it nil; an element's cells; the cells. -/
def Cod.isl : Cod (Bool × Nat × List V) where
  dec v K := match v with
    | .isl nil size cells => K (nil, size, cells)
    | _ => none
  enc a K := K (.isl a.1 a.2.1 a.2.2)
  val a := .isl a.1 a.2.1 a.2.2
  dec_some h := by
    split at h
    · exact ⟨_, rfl, h⟩
    · cases h
  enc_val a K := rfl
  dec_val a K := rfl
  dec_nat v K g := by split <;> rfl

/-- The contract of a function that is told in Lean. -/
def Ctr.ofF {P : Program} (f : FuncId) {A B : Type} (ca : CodL A) (cb : Cod B) (F : A → Option B) (h : ∀ a b, F a = some b → PCalls P f (ca.val a) (cb.val b)) : Ctr P where
  f := f
  run args K := ca.dec args fun a l => nilK l ((F a).bind fun b => cb.enc b K)
  ok args K r e := by
    obtain ⟨a, l, h1, e1⟩ := ca.dec_some e
    obtain ⟨h2, e2⟩ := nilK_some e1
    subst h2; subst h1
    rw [Option.bind_eq_some_iff] at e2
    obtain ⟨b, h3, h4⟩ := e2
    rw [cb.enc_val] at h4
    exact ⟨_, h4, by rw [List.append_nil]; exact h a b h3⟩
  nat args K g := by simp only [ca.dec_nat, nilK_nat, Option.bind_assoc, cb.enc_val]

/-- The contract of a function is what its evaluation comes to; the result is told in Lean. -/
def Ctr.evT {P : Program} (hmix : P.follows .mixedOrders = true) (cs : List (Ctr P)) (inl : List FuncId) (keep : FuncId → Nat → Keep) (d : Nat) (f : FuncId) {B : Type} (cb : Cod B) : Ctr P where
  f := f
  run args K := (evTop P ⟨cs, inl, keep, []⟩ d f args (fun v => cb.dec v some)).bind fun b => cb.enc b K
  ok args K r h := by
    rw [Option.bind_eq_some_iff] at h
    obtain ⟨b, h1, h2⟩ := h
    obtain ⟨u, h3, h4⟩ := evTop_ok hmix (fun _ _ _ _ _ _ _ hh => absurd hh (List.not_mem_nil)) h1
    obtain ⟨b', h5, h6⟩ := cb.dec_some h3
    cases h6
    subst h5
    rw [cb.enc_val] at h2
    exact ⟨_, h2, h4⟩
  nat args K g := by simp only [Option.bind_assoc, cb.enc_val]

/-- From an evaluation. -/
theorem pcalls_of_ev {P : Program} (hmix : P.follows .mixedOrders = true) {C : Cfg P} {f : FuncId} (hl : ∀ fn c, P.funcs[f]? = some fn → fn.body = some c → LoopsOk C f c) {d : Nat} {A B : Type} {ca : CodL A} {cb : Cod B} {F : A → Option B}
    (h : ∀ a, evTop P C d f (ca.val a) (fun v => cb.dec v some) = F a) (a : A) (b : B) (e : F a = some b) : PCalls P f (ca.val a) (cb.val b) := by
  rw [← h] at e
  obtain ⟨v, h1, h2⟩ := evTop_ok hmix hl e
  obtain ⟨b', h3, h4⟩ := cb.dec_some h1
  cases h4
  subst h3
  exact h2

/-- From an evaluation of which nothing but some answers are told. -/
theorem pcalls_of_imp {P : Program} (hmix : P.follows .mixedOrders = true) {C : Cfg P} {f : FuncId} (hl : ∀ fn c, P.funcs[f]? = some fn → fn.body = some c → LoopsOk C f c) {d : Nat} {A B : Type} {ca : CodL A} {cb : Cod B} {F : A → Option B}
    (h : ∀ a b, F a = some b → evTop P C d f (ca.val a) (fun v => cb.dec v some) = some b) (a : A) (b : B) (e : F a = some b) : PCalls P f (ca.val a) (cb.val b) := by
  obtain ⟨v, h1, h2⟩ := evTop_ok hmix hl (h a b e)
  obtain ⟨b', h3, h4⟩ := cb.dec_some h1
  cases h4
  subst h3
  exact h2

theorem noLoops {P : Program} {cs : List (Ctr P)} {inl : List FuncId} {keep : FuncId → Nat → Keep} {f : FuncId} : ∀ (fn : Func) (c : Code), P.funcs[f]? = some fn → fn.body = some c → LoopsOk (P := P) ⟨cs, inl, keep, []⟩ f c :=
  fun _ _ _ _ _ _ _ hh => absurd hh List.not_mem_nil

/-- A function's body; the body of a loop of it. -/
def bodyIn (P : Program) (f : FuncId) : Code := match P.funcs[f]? with | some fn => (match fn.body with | some c => c | none => .skip) | none => .skip
def pickLoop (k : Nat) : List Code → Code
  | [] => .skip
  | b :: l => bif Nat.beq (firstRegion b) k then b else pickLoop k l
def loopAt (P : Program) (f : FuncId) (k : Nat) : Code := pickLoop k (loopsOf (bodyIn P f))
def tmpsIn (P : Program) (f : FuncId) : Nat := match P.funcs[f]? with | some fn => fn.ntmps | none => 0

theorem loopsOk_of {P : Program} {C : Cfg P} {f : FuncId} (h : ∀ b ∈ loopsOf (bodyIn P f), ∀ q ∈ C.loops, q.f = f → q.key = firstRegion b → q.body = b) :
    ∀ fn c, P.funcs[f]? = some fn → fn.body = some c → LoopsOk C f c := by
  intro fn c h1 h2
  have : bodyIn P f = c := by simp [bodyIn, h1, h2]
  rw [← this]
  exact h

end Go.Rx
