/- The values of the reflective interpreter, and what they stand for in memory. -/
import Derived.ProofKit
namespace Go.Rx

/-- '<' and '≤' of integers, told so that the kernel stands still where one of them is not known. -/
def ltI (a b : Int) : Bool :=
  match a, b with
  | .ofNat m, .ofNat n => Nat.blt m n
  | .ofNat _, .negSucc _ => false
  | .negSucc _, .ofNat _ => true
  | .negSucc m, .negSucc n => Nat.blt n m
def leI (a b : Int) : Bool := !ltI b a

theorem ltI_iff {a b : Int} : ltI a b = true ↔ a < b := by
  cases a with
  | ofNat m => cases b with
    | ofNat n => simp only [ltI, Nat.blt_eq, Int.ofNat_eq_natCast]; omega
    | negSucc n =>
      have h1 := Int.negSucc_lt_zero n
      refine ⟨fun h => (by cases h), fun h => ?_⟩
      have h2 : (Int.ofNat m) ≥ 0 := Int.natCast_nonneg m
      exact absurd (Int.lt_of_le_of_lt h2 h) (by omega)
  | negSucc m => cases b with
    | ofNat n =>
      have h1 := Int.negSucc_lt_zero m
      have h2 : (Int.ofNat n) ≥ 0 := Int.natCast_nonneg n
      exact ⟨fun _ => Int.lt_of_lt_of_le h1 h2, fun _ => rfl⟩
    | negSucc n =>
      show Nat.blt n m = true ↔ _
      rw [Int.negSucc_eq, Int.negSucc_eq, Nat.blt_eq]; omega
theorem ltI_eq (a b : Int) : ltI a b = decide (a < b) := by
  rw [Bool.eq_iff_iff, ltI_iff, decide_eq_true_eq]
theorem leI_eq (a b : Int) : leI a b = decide (a ≤ b) := by
  unfold leI
  rw [ltI_eq]
  by_cases h : a ≤ b
  · simp [h]
  · simp [h]; omega

/-- Values. 'ptr', 'sl', 'map': into memory of the call's own, by the block's name; 'ibox', 'isl': into memory that nobody writes: the cells are part of the value ('isl true': the nil slice). 'size': an element's cells; 'off' of 'sl': in cells. -/
inductive V where
  | bool (b : Bool)
  | int (k : IntKind) (n : Int)
  | str (s : List UInt8)
  | nilp
  | ptr (id off : Nat)
  | ibox (cells : List V) (off : Nat)
  | sl (id size off len : Nat) (cap : Option Nat)
  | isl (nil : Bool) (size : Nat) (cells : List V)
  | nilm
  | map (id : Nat)
  | fn (f : FuncId) (cap : List V)
  | nilf
  | nilI
  | iface (t : TypeId) (v : V)
  | agg (l : List V)
  | tup (l : List V)
  deriving Inhabited

/-- Where the named blocks lie, and which blocks nobody writes. -/
structure Env where
  own : Nat → Option (Nat × Nat)
  imm : Nat → Option (List Value)
  /-- how many cells a block of the call's own has -/
  tot : Nat → Nat

structure Env.Le (E E' : Env) : Prop where
  own : ∀ i p, E.own i = some p → E'.own i = some p
  imm : ∀ b cs, E.imm b = some cs → E'.imm b = some cs
  tot : ∀ i p, E.own i = some p → E'.tot p.1 = E.tot p.1

theorem Env.Le.refl (E : Env) : E.Le E := ⟨fun _ _ h => h, fun _ _ h => h, fun _ _ _ => rfl⟩
theorem Env.Le.trans {E E' E'' : Env} (h : E.Le E') (h' : E'.Le E'') : E.Le E'' :=
  ⟨fun i p k => h'.own i p (h.own i p k), fun b cs k => h'.imm b cs (h.imm b cs k), fun i p k => (h'.tot i p (h.own i p k)).trans (h.tot i p k)⟩

mutual
/-- Does it name no block of the call's own? -/
def V.pure : V → Bool
  | .ptr .. | .sl .. | .map _ => false
  | .fn _ cap => V.pureL cap
  | .iface _ v => V.pure v
  | .agg l => V.pureL l
  | .tup l => V.pureL l
  | _ => true
def V.pureL : List V → Bool
  | [] => true
  | v :: l => V.pure v && V.pureL l
end

mutual
/-- What a value stands for. -/
def V.rel (E : Env) : V → Value → Prop
  | .bool b, x => x = .bool b
  | .int k n, x => x = .int k n
  | .str s, x => x = .string ⟨⟨s⟩⟩
  | .nilp, x => x = .pointer none
  | .ptr id off, x => ∃ b o, E.own id = some (b, o) ∧ x = .pointer (some ⟨b, o + off, none⟩)
  | .ibox cells off, x => ∃ b o cs, E.imm b = some cs ∧ x = .pointer (some ⟨b, o + off, none⟩) ∧ V.pureL cells = true ∧ V.relL E cells ((cs.drop o).take cells.length)
  | .sl id size off len cap, x => ∃ b o c, E.own id = some (b, o) ∧ x = .slice (some ⟨b, o + off, none⟩) len c ∧ len ≤ c ∧ o + off + c * size ≤ E.tot b ∧ ∀ k, cap = some k → c = k
  | .isl nil size cells, x => (nil = true ∧ cells = [] ∧ x = .slice none 0 0) ∨ (nil = false ∧ 0 < size ∧ ∃ b o cs c len, E.imm b = some cs ∧ x = .slice (some ⟨b, o, none⟩) len c ∧ len ≤ c ∧ cells.length = len * size ∧ V.pureL cells = true ∧ V.relL E cells ((cs.drop o).take cells.length))
  | .nilm, x => x = .map none
  | .map id, x => ∃ b, E.own id = some (b, 0) ∧ x = .map (some b)
  | .fn f cap, x => ∃ cs, x = .func (.func f) #[] cs ∧ V.relL E cap cs.toList
  | .nilf, x => x = .nilFunc
  | .nilI, x => x = .nilIface
  | .iface t v, x => ∃ y, x = .iface t y ∧ V.rel E v y
  | .agg l, x => ∃ cs, x = .agg cs ∧ V.relL E l cs.toList
  | .tup l, x => ∃ cs, x = .tuple cs ∧ V.relL E l cs.toList
def V.relL (E : Env) : List V → List Value → Prop
  | [], [] => True
  | v :: l, x :: xs => V.rel E v x ∧ V.relL E l xs
  | _, _ => False
end

mutual
theorem V.rel_mono {E E' : Env} (h : E.Le E') : ∀ (v : V) (x : Value), V.rel E v x → V.rel E' v x
  | .bool b, x, k => by simpa only [V.rel] using k
  | .int _ n, x, k => by simpa only [V.rel] using k
  | .str s, x, k => by simpa only [V.rel] using k
  | .nilp, x, k => by simpa only [V.rel] using k
  | .ptr id off, x, k => by
    simp only [V.rel] at *
    obtain ⟨b, o, h1, h2⟩ := k
    exact ⟨b, o, h.own _ _ h1, h2⟩
  | .ibox cells off, x, k => by
    simp only [V.rel] at *
    obtain ⟨b, o, cs, h1, h2, h3, h4⟩ := k
    exact ⟨b, o, cs, h.imm _ _ h1, h2, h3, V.relL_mono h cells _ h4⟩
  | .sl id size off len cap, x, k => by
    simp only [V.rel] at *
    obtain ⟨b, o, c, h1, h2, h3, h4, h5⟩ := k
    exact ⟨b, o, c, h.own _ _ h1, h2, h3, by rw [h.tot _ _ h1]; exact h4, h5⟩
  | .isl nil size cells, x, k => by
    simp only [V.rel] at *
    rcases k with k | ⟨h0, hs, b, o, cs, c, len, h1, h2, h3, h4, h6, h5⟩
    · exact .inl k
    · exact .inr ⟨h0, hs, b, o, cs, c, len, h.imm _ _ h1, h2, h3, h4, h6, V.relL_mono h cells _ h5⟩
  | .nilm, x, k => by simpa only [V.rel] using k
  | .map id, x, k => by
    simp only [V.rel] at *
    obtain ⟨b, h1, h2⟩ := k
    exact ⟨b, h.own _ _ h1, h2⟩
  | .fn f cap, x, k => by
    simp only [V.rel] at *
    obtain ⟨cs, h1, h2⟩ := k
    exact ⟨cs, h1, V.relL_mono h cap _ h2⟩
  | .nilf, x, k => by simpa only [V.rel] using k
  | .nilI, x, k => by simpa only [V.rel] using k
  | .iface t v, x, k => by
    simp only [V.rel] at *
    obtain ⟨y, h1, h2⟩ := k
    exact ⟨y, h1, V.rel_mono h v y h2⟩
  | .agg l, x, k => by
    simp only [V.rel] at *
    obtain ⟨cs, h1, h2⟩ := k
    exact ⟨cs, h1, V.relL_mono h l _ h2⟩
  | .tup l, x, k => by
    simp only [V.rel] at *
    obtain ⟨cs, h1, h2⟩ := k
    exact ⟨cs, h1, V.relL_mono h l _ h2⟩
theorem V.relL_mono {E E' : Env} (h : E.Le E') : ∀ (l : List V) (xs : List Value), V.relL E l xs → V.relL E' l xs
  | [], [], _ => by simp only [V.relL]
  | [], _ :: _, k => by simp only [V.relL] at k
  | _ :: _, [], k => by simp only [V.relL] at k
  | v :: l, x :: xs, k => by
    simp only [V.relL] at *
    exact ⟨V.rel_mono h v x k.1, V.relL_mono h l xs k.2⟩
end

theorem relL_length {E : Env} : ∀ {l : List V} {xs : List Value}, V.relL E l xs → l.length = xs.length
  | [], [], _ => rfl
  | [], _ :: _, k => by simp only [V.relL] at k
  | _ :: _, [], k => by simp only [V.relL] at k
  | v :: l, x :: xs, k => by simp only [V.relL] at k; simp [relL_length k.2]

theorem relL_get {E : Env} : ∀ {l : List V} {xs : List Value}, V.relL E l xs → ∀ (i : Nat) (v : V), l[i]? = some v → ∃ x, xs[i]? = some x ∧ V.rel E v x
  | [], _, _, i, v, h => by simp at h
  | _ :: _, [], k, _, _, _ => by simp only [V.relL] at k
  | w :: l, x :: xs, k, i, v, h => by
    simp only [V.relL] at k
    cases i with
    | zero => simp at h; subst h; exact ⟨x, rfl, k.1⟩
    | succ i => simp at h; obtain ⟨y, h1, h2⟩ := relL_get k.2 i v h; exact ⟨y, by simpa using h1, h2⟩

theorem relL_of_get {E : Env} : ∀ {l : List V} {xs : List Value}, l.length = xs.length → (∀ (i : Nat) (v : V) (x : Value), l[i]? = some v → xs[i]? = some x → V.rel E v x) → V.relL E l xs
  | [], [], _, _ => by simp only [V.relL]
  | [], _ :: _, k, _ => by simp at k
  | _ :: _, [], k, _ => by simp at k
  | w :: l, x :: xs, k, h => by
    simp only [V.relL]
    refine ⟨h 0 w x rfl rfl, relL_of_get (by simpa using k) fun i v y h1 h2 => h (i + 1) v y (by simpa using h1) (by simpa using h2)⟩

theorem relL_append {E : Env} {l l' : List V} {xs xs' : List Value} (h : V.relL E l xs) (h' : V.relL E l' xs') : V.relL E (l ++ l') (xs ++ xs') := by
  induction l generalizing xs with
  | nil => cases xs with
    | nil => simpa using h'
    | cons => simp only [V.relL] at h
  | cons v l ih => cases xs with
    | nil => simp only [V.relL] at h
    | cons x xs => simp only [V.relL, List.cons_append] at *; exact ⟨h.1, ih h.2⟩

theorem relL_take {E : Env} {l : List V} {xs : List Value} (h : V.relL E l xs) (n : Nat) : V.relL E (l.take n) (xs.take n) := by
  induction l generalizing xs n with
  | nil => cases xs with
    | nil => simp [V.relL]
    | cons => simp only [V.relL] at h
  | cons v l ih => cases xs with
    | nil => simp only [V.relL] at h
    | cons x xs => cases n with
      | zero => simp [V.relL]
      | succ n => simp only [V.relL, List.take_succ_cons] at *; exact ⟨h.1, ih h.2 n⟩

theorem relL_drop {E : Env} {l : List V} {xs : List Value} (h : V.relL E l xs) (n : Nat) : V.relL E (l.drop n) (xs.drop n) := by
  induction l generalizing xs n with
  | nil => cases xs with
    | nil => simp [V.relL]
    | cons => simp only [V.relL] at h
  | cons v l ih => cases xs with
    | nil => simp only [V.relL] at h
    | cons x xs => cases n with
      | zero => simpa using h
      | succ n => simp only [V.relL, List.drop_succ_cons] at *; exact ih h.2 n

theorem relL_set {E : Env} {l : List V} {xs : List Value} (h : V.relL E l xs) (n : Nat) {v : V} {x : Value} (hv : V.rel E v x) : V.relL E (l.set n v) (xs.set n x) := by
  induction l generalizing xs n with
  | nil => cases xs with
    | nil => simp [V.relL]
    | cons => simp only [V.relL] at h
  | cons w l ih => cases xs with
    | nil => simp only [V.relL] at h
    | cons y xs => cases n with
      | zero => simp only [V.relL, List.set_cons_zero] at *; exact ⟨hv, h.2⟩
      | succ n => simp only [V.relL, List.set_cons_succ] at *; exact ⟨h.1, ih h.2 n⟩

theorem relL_replicate {E : Env} {v : V} {x : Value} (h : V.rel E v x) (n : Nat) : V.relL E (List.replicate n v) (List.replicate n x) := by
  induction n with
  | zero => simp [V.relL]
  | succ n ih => simp only [List.replicate_succ, V.relL]; exact ⟨h, ih⟩

/-- The values of constants of one cell. -/
def absC : Value → Option V
  | .bool b => some (.bool b)
  | .int k n => some (.int k n)
  | .string s => some (.str s.data.toList)
  | .pointer none => some .nilp
  | .slice none 0 0 => some (.isl true 0 [])
  | .map none => some .nilm
  | .nilFunc => some .nilf
  | .nilIface => some .nilI
  | _ => none

theorem absC_rel {E : Env} {x : Value} {v : V} (h : absC x = some v) : V.rel E v x := by
  unfold absC at h
  split at h <;> first | (cases h; simp only [V.rel]) | cases h
  exact .inl ⟨trivial, trivial, trivial⟩

def absL : List Value → Option (List V)
  | [] => some []
  | x :: xs => match absC x, absL xs with | some v, some l => some (v :: l) | _, _ => none

theorem absL_rel {E : Env} : ∀ {xs : List Value} {l : List V}, absL xs = some l → V.relL E l xs
  | [], l, h => by simp only [absL, Option.some.injEq] at h; subst h; simp only [V.relL]
  | x :: xs, l, h => by
    simp only [absL] at h
    split at h <;> cases h
    rename_i v l' h1 h2
    simp only [V.relL]
    exact ⟨absC_rel h1, absL_rel h2⟩

/-- Constants and zero values, structs and arrays too. -/
def absZ : Value → Option V
  | .agg cs => (absL cs.toList).map .agg
  | v => absC v

theorem absZ_rel {E : Env} {x : Value} {v : V} (h : absZ x = some v) : V.rel E v x := by
  unfold absZ at h
  split at h
  · rename_i cs
    cases h1 : absL cs.toList with
    | none => rw [h1] at h; cases h
    | some l => rw [h1] at h; cases h; simp only [V.rel]; exact ⟨cs, rfl, absL_rel h1⟩
  · exact absC_rel h

/-- A value's cells. -/
def V.cells : V → List V
  | .agg l => l
  | v => [v]

/-- Is it the value of one cell? -/
def V.leaf : V → Bool
  | .agg _ | .tup _ => false
  | _ => true

theorem V.leaf_one {E : Env} {v : V} {x : Value} (h : V.rel E v x) (hl : v.leaf = true) : x.oneCell' = true := by
  cases v <;> simp only [V.rel, V.leaf] at h hl <;> first
    | (subst h; rfl)
    | (cases hl; done)
    | (rcases h with ⟨_, _, rfl⟩ | ⟨_, _, _, _, _, _, _, _, rfl, _⟩ <;> rfl)
    | (obtain ⟨_, _, _, rfl⟩ := h; rfl)
    | (obtain ⟨_, _, _, _, rfl, _⟩ := h; rfl)
    | (obtain ⟨_, _, rfl⟩ := h; rfl)
    | (obtain ⟨_, rfl, _⟩ := h; rfl)

theorem V.cells_rel {E : Env} {v : V} {x : Value} (h : V.rel E v x) : V.relL E v.cells x.cells.toList := by
  cases v <;> first
    | (simp only [V.rel] at h; obtain ⟨cs, rfl, h⟩ := h; exact h)
    | (have h1 := V.leaf_one h rfl
       have e : x.cells = #[x] := by cases x <;> first | rfl | (simp [Value.oneCell'] at h1)
       rw [e]; simp only [V.cells, V.relL]; exact ⟨h, trivial⟩)
    | (have h' := h; simp only [V.rel] at h'; obtain ⟨cs, rfl, _⟩ := h'
       show V.relL E [_] [_]; simp only [V.relL]; exact ⟨h, trivial⟩)

theorem pureL_take : ∀ {l : List V} {n : Nat}, V.pureL l = true → V.pureL (l.take n) = true
  | [], n, _ => by simp [V.pureL]
  | v :: l, 0, _ => by simp [V.pureL]
  | v :: l, n + 1, h => by simp only [V.pureL, Bool.and_eq_true, List.take_succ_cons] at *; exact ⟨h.1, pureL_take h.2⟩
theorem pureL_drop : ∀ {l : List V} {n : Nat}, V.pureL l = true → V.pureL (l.drop n) = true
  | [], n, _ => by simp [V.pureL]
  | v :: l, 0, h => h
  | v :: l, n + 1, h => by simp only [V.pureL, Bool.and_eq_true, List.drop_succ_cons] at *; exact pureL_drop h.2

/-- Without the call's own blocks. -/
def Env.bare (E : Env) : Env := { own := fun _ => none, imm := E.imm, tot := E.tot }

mutual
theorem rel_bare {E E' : Env} (hi : ∀ b cs, E.imm b = some cs → E'.imm b = some cs) : ∀ (v : V) (x : Value), V.pure v = true → V.rel E v x → V.rel E' v x
  | .bool b, x, _, k => by simpa only [V.rel] using k
  | .int _ n, x, _, k => by simpa only [V.rel] using k
  | .str s, x, _, k => by simpa only [V.rel] using k
  | .nilp, x, _, k => by simpa only [V.rel] using k
  | .ptr id off, x, p, k => by simp [V.pure] at p
  | .ibox cells off, x, _, k => by
    simp only [V.rel] at *
    obtain ⟨b, o, cs, h1, h2, h3, h4⟩ := k
    exact ⟨b, o, cs, hi _ _ h1, h2, h3, relL_bare hi cells _ h3 h4⟩
  | .sl id size off len cap, x, p, k => by simp [V.pure] at p
  | .isl nil size cells, x, _, k => by
    simp only [V.rel] at *
    rcases k with k | ⟨h0, hs, b, o, cs, c, len, h1, h2, h3, h4, h6, h5⟩
    · exact .inl k
    · exact .inr ⟨h0, hs, b, o, cs, c, len, hi _ _ h1, h2, h3, h4, h6, relL_bare hi cells _ h6 h5⟩
  | .nilm, x, _, k => by simpa only [V.rel] using k
  | .map id, x, p, k => by simp [V.pure] at p
  | .fn f cap, x, p, k => by
    simp only [V.rel, V.pure] at *
    obtain ⟨cs, h1, h2⟩ := k
    exact ⟨cs, h1, relL_bare hi cap _ p h2⟩
  | .nilf, x, _, k => by simpa only [V.rel] using k
  | .nilI, x, _, k => by simpa only [V.rel] using k
  | .iface t v, x, p, k => by
    simp only [V.rel, V.pure] at *
    obtain ⟨y, h1, h2⟩ := k
    exact ⟨y, h1, rel_bare hi v y p h2⟩
  | .agg l, x, p, k => by
    simp only [V.rel, V.pure] at *
    obtain ⟨cs, h1, h2⟩ := k
    exact ⟨cs, h1, relL_bare hi l _ p h2⟩
  | .tup l, x, p, k => by
    simp only [V.rel, V.pure] at *
    obtain ⟨cs, h1, h2⟩ := k
    exact ⟨cs, h1, relL_bare hi l _ p h2⟩
/-- What names no own block stands for the same wherever nobody writes what nobody wrote before. -/
theorem relL_bare {E E' : Env} (hi : ∀ b cs, E.imm b = some cs → E'.imm b = some cs) : ∀ (l : List V) (xs : List Value), V.pureL l = true → V.relL E l xs → V.relL E' l xs
  | [], [], _, _ => by simp only [V.relL]
  | [], _ :: _, _, k => by simp only [V.relL] at k
  | _ :: _, [], _, k => by simp only [V.relL] at k
  | v :: l, x :: xs, p, k => by
    simp only [V.relL, V.pureL, Bool.and_eq_true] at *
    exact ⟨rel_bare hi v x p.1 k.1, relL_bare hi l xs p.2 k.2⟩
end

end Go.Rx
