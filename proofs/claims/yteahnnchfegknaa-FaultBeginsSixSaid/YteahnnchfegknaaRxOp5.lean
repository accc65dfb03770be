/- Operators, conversions, small builtins. -/
import Derived.Test.YteahnnchfegknaaRxOp4
set_option linter.unusedVariables false
set_option linter.unusedSimpArgs false
namespace Go.Rx
open Go.RowKit (Below)

/-- The lesser and the greater of two numbers, as Go's min and max take them. -/
def imin (x y : Int) : Int := if y < x then y else x
def imax (x y : Int) : Int := if y > x then y else x

section
variable {R : Type} {P : Program}

def intBinK (op : BinOp) (k : IntKind) (a b : Int) (K : V → Option R) : Option R :=
  match op with
  | .add => K (.int k (k.wrap (a + b)))
  | .sub => K (.int k (k.wrap (a - b)))
  | .mul => K (.int k (k.wrap (a * b)))
  | .quo => gd (!decide (b = 0)) (K (.int k (k.wrap (a.tdiv b))))
  | .rem => gd (!decide (b = 0)) (K (.int k (a.tmod b)))
  | .and => K (.int k (iand k a b))
  | .or => K (.int k (ior k a b))
  | .xor => K (.int k (ixor k a b))
  | .andNot => K (.int k (iandNot k a b))
  | .eql => K (.bool (a == b))
  | .neq => K (.bool (a != b))
  | .lss => K (.bool (ltI a b))
  | .leq => K (.bool (leI a b))
  | .gtr => K (.bool (ltI b a))
  | .geq => K (.bool (leI b a))
  | _ => none

theorem intBinK_some {op : BinOp} {k : IntKind} {a b : Int} {t : TypeId} {K : V → Option R} {r : R} (h : intBinK op k a b K = some r) :
    ∃ u, K u = some r ∧ ∀ E, Gives P (binOp op t (.int k a) (.int k b)) u E := by
  cases op <;> simp only [intBinK, ltI_eq, leI_eq] at h <;> first
    | cases h; done
    | exact ⟨_, h, fun E w => ⟨_, by simp only [binOp, ne_eq, not_true_eq_false, if_false, Op.intArith, Op.intBits, Op.intCmp]; rfl, by simp only [V.rel, iand, ior, ixor, iandNot]⟩⟩
    | (obtain ⟨h0, h⟩ := gd_some h
       have h0 : b ≠ 0 := by simpa using h0
       exact ⟨_, h, fun E w => ⟨_, by simp [binOp, Op.intDiv, h0]; rfl, by simp only [V.rel]⟩⟩)

def shiftK (op : BinOp) (k : IntKind) (a b : Int) (K : V → Option R) : Option R :=
  gd (decide (0 ≤ b)) (match op with
    | .shl => K (.int k (k.wrap (a * 2 ^ (min b.toNat k.bits))))
    | .shr => K (.int k (a.fdiv (2 ^ (min b.toNat k.bits))))
    | _ => none)

theorem shiftK_some {op : BinOp} {k k' : IntKind} {a b : Int} {t : TypeId} {K : V → Option R} {r : R} (h : shiftK op k a b K = some r) :
    ∃ u, K u = some r ∧ ∀ E, Gives P (binOp op t (.int k a) (.int k' b)) u E := by
  obtain ⟨h0, h⟩ := gd_some h
  have h0 : ¬ b < 0 := by simpa using h0
  split at h
  · exact ⟨_, h, fun E w => ⟨_, by simp [binOp, Op.shift, h0]; rfl, by simp only [V.rel]⟩⟩
  · exact ⟨_, h, fun E w => ⟨_, by simp [binOp, Op.shift, h0]; rfl, by simp only [V.rel]⟩⟩
  · cases h

def strBinK (op : BinOp) (a b : List UInt8) (K : V → Option R) : Option R :=
  match op with
  | .add => gd (catOk a b) (K (.str (a ++ b)))
  | .eql => K (.bool (a == b))
  | .neq => K (.bool (!(a == b)))
  | .lss => K (.bool (Op.bytesLess a b))
  | .leq => K (.bool (Op.bytesLess a b || a == b))
  | .gtr => K (.bool (!(Op.bytesLess a b || a == b)))
  | .geq => K (.bool (!Op.bytesLess a b))
  | _ => none

theorem strBinK_some {op : BinOp} {a b : List UInt8} {t : TypeId} {K : V → Option R} {r : R} (h : strBinK op a b K = some r) :
    ∃ u, K u = some r ∧ ∀ E, Gives P (binOp op t (.string ⟨⟨a⟩⟩) (.string ⟨⟨b⟩⟩)) u E := by
  cases op <;> simp only [strBinK] at h <;> first
    | cases h; done
    | (obtain ⟨h0, h⟩ := gd_some h
       refine ⟨_, h, fun E w => ⟨.string ⟨⟨a ++ b⟩⟩, ?_, by simp only [V.rel]⟩⟩
       have h1 : ¬ (((⟨⟨a⟩⟩ : ByteArray).size + (⟨⟨b⟩⟩ : ByteArray).size : Nat) : Int) > IntKind.i64.max := by
         have : IntKind.i64.max = 9223372036854775807 := by decide
         rw [this]
         show ¬ ((a.length + b.length : Nat) : Int) > _
         unfold catOk at h0
         have h0 := Nat.le_of_ble_eq_true h0
         omega
       have h2 : (⟨⟨a⟩⟩ : ByteArray) ++ ⟨⟨b⟩⟩ = ⟨⟨a ++ b⟩⟩ := by
         apply ByteArray.ext; rw [ByteArray.data_append]; apply Array.ext'; simp
       simp only [binOp, Op.stringOp, h1, if_false, h2, Sem.run_pure])
    | exact ⟨_, h, fun E w => ⟨_, by simp only [binOp, Op.stringOp, Sem.run_pure, rel_str_toList]; rfl, by simp only [V.rel]⟩⟩

def binK (P : Program) (op : BinOp) (t : TypeId) (constX constY : Bool) (x y : V) (K : V → Option R) : Option R :=
  match x, y with
  | .int k a, .int k' b => match op with
    | .shl | .shr => shiftK op k a b K
    | _ => bif decide (k = k') then intBinK op k a b K else none
  | .str a, .str b => strBinK op a b K
  | .agg a, .agg b => bif P.eqGuardType P.depth t then none else (match op with
    | .eql => match eqV P 300 t (.agg a) (.agg b) with | some r => K (.bool r) | none => none
    | .neq => match eqV P 300 t (.agg a) (.agg b) with | some r => K (.bool (!r)) | none => none
    | _ => none)
  | .nilI, .nilI => bif constX || constY then (match op with
    | .eql => match eqV P 300 t .nilI .nilI with | some r => K (.bool r) | none => none
    | .neq => match eqV P 300 t .nilI .nilI with | some r => K (.bool (!r)) | none => none
    | _ => none) else none
  | .int .., _ | .str _, _ => none
  | x, y => match op with
    | .eql => match eqV P 300 t x y with | some r => K (.bool r) | none => none
    | .neq => match eqV P 300 t x y with | some r => K (.bool (!r)) | none => none
    | _ => none

/-- What stands behind the guard of '=='. -/
theorem eqGuard_free {t : TypeId} {x y : Operand} {op : BinOp} {a b : Value} (h : (¬ ∃ xs ys, a = .agg xs ∧ b = .agg ys) ∧ (¬ (a = .nilIface ∧ b = .nilIface))) (w : World) : (eqGuard op t x y a b).run P w = .ok () w := by
  have key : (eqGuard .eql t x y a b).run P w = .ok () w := by
    cases a <;> first
      | rfl
      | (cases b <;> first | rfl | exact absurd ⟨rfl, rfl⟩ h.2 | exact absurd ⟨_, _, rfl, rfl⟩ h.1)
  cases op <;> first | rfl | exact key

theorem eqGuard_agg {t : TypeId} {x y : Operand} {op : BinOp} {xs ys : Array Value} (h : P.eqGuardType P.depth t = false) (w : World) : (eqGuard op t x y (.agg xs) (.agg ys)).run P w = .ok () w := by
  cases op <;> simp [eqGuard, h]

theorem eqGuard_nil {t : TypeId} {x y : Operand} {op : BinOp} (h : Region.isConst x = true ∨ Region.isConst y = true) (w : World) : (eqGuard op t x y .nilIface .nilIface).run P w = .ok () w := by
  cases op <;> rcases h with h | h <;> cases x <;> cases y <;> first | (simp [eqGuard]; done) | (simp [Region.isConst] at h; done)

/-- '==' and '!=' where the operands are no numbers and no texts. -/
theorem binOp_eql {t : TypeId} {a b : Value} (ha : ∀ k n, a ≠ .int k n) (ha' : ∀ s, a ≠ .string s) (hf : ∀ k n, a ≠ .float k n) (hc : ∀ k n m, a ≠ .complex k n m) : binOp .eql t a b = (do pure (.bool (← Op.equal t a b))) := by
  cases a <;> cases b <;> first | rfl | (exact absurd rfl (ha _ _)) | (exact absurd rfl (ha' _)) | (exact absurd rfl (hf _ _)) | (exact absurd rfl (hc _ _ _))
theorem binOp_neq {t : TypeId} {a b : Value} (ha : ∀ k n, a ≠ .int k n) (ha' : ∀ s, a ≠ .string s) (hf : ∀ k n, a ≠ .float k n) (hc : ∀ k n m, a ≠ .complex k n m) : binOp .neq t a b = (do pure (.bool (!(← Op.equal t a b)))) := by
  cases a <;> cases b <;> first | rfl | (exact absurd rfl (ha _ _)) | (exact absurd rfl (ha' _)) | (exact absurd rfl (hf _ _)) | (exact absurd rfl (hc _ _ _))

/-- Is a value neither a number nor a text? -/
def V.odd : V → Bool
  | .int .. | .str _ => false
  | _ => true

theorem V.odd_ne {E : Env} {v : V} {a : Value} (h : V.rel E v a) (ho : v.odd = true) : (∀ k n, a ≠ .int k n) ∧ (∀ s, a ≠ .string s) ∧ (∀ k n, a ≠ .float k n) ∧ (∀ k n m, a ≠ .complex k n m) := by
  cases v <;> simp only [V.rel, V.odd] at h ho <;> first
    | cases ho; done
    | (subst h; simp; done)
    | (rcases h with ⟨_, _, rfl⟩ | ⟨_, _, _, _, _, _, _, _, rfl, _⟩ <;> simp; done)
    | (obtain ⟨_, _, _, rfl⟩ := h; simp; done)
    | (obtain ⟨_, _, _, _, rfl, _⟩ := h; simp; done)
    | (obtain ⟨_, _, rfl⟩ := h; simp; done)
    | (obtain ⟨_, rfl, _⟩ := h; simp; done)

def eqlK (P : Program) (op : BinOp) (t : TypeId) (x y : V) (K : V → Option R) : Option R :=
  match op with
  | .eql => match eqV P 300 t x y with | some r => K (.bool r) | none => none
  | .neq => match eqV P 300 t x y with | some r => K (.bool (!r)) | none => none
  | _ => none

theorem eqlK_some {op : BinOp} {t : TypeId} {x y : V} {K : V → Option R} {r : R} (hx : x.odd = true) (h : eqlK P op t x y K = some r) :
    ∃ u, K u = some r ∧ ∀ E a b, V.rel E x a → V.rel E y b → Gives P (binOp op t a b) u E := by
  unfold eqlK at h
  split at h
  · split at h
    · rename_i q hq
      refine ⟨_, h, fun E a b ha hb w => ⟨.bool q, ?_, by simp only [V.rel]⟩⟩
      obtain ⟨h1, h2, h3, h4⟩ := V.odd_ne ha hx
      rw [binOp_eql h1 h2 h3 h4]
      simp only [Op.equal, Op.maxDepth, Sem.run_bind, eqV_run 300 10000 (by omega) hq _ _ ha hb w, Result.andThen_ok, Sem.run_pure]
    · cases h
  · split at h
    · rename_i q hq
      refine ⟨_, h, fun E a b ha hb w => ⟨.bool (!q), ?_, by simp only [V.rel]⟩⟩
      obtain ⟨h1, h2, h3, h4⟩ := V.odd_ne ha hx
      rw [binOp_neq h1 h2 h3 h4]
      simp only [Op.equal, Op.maxDepth, Sem.run_bind, eqV_run 300 10000 (by omega) hq _ _ ha hb w, Result.andThen_ok, Sem.run_pure]
    · cases h
  · cases h

theorem rel_agg_inv {E : Env} {v : V} {xs : Array Value} (h : V.rel E v (.agg xs)) : ∃ l, v = .agg l := by
  cases v <;> simp [V.rel] at h ⊢
theorem rel_nilI_inv {E : Env} {v : V} (h : V.rel E v .nilIface) : v = .nilI := by
  cases v <;> simp [V.rel] at h ⊢

theorem binK_some {op : BinOp} {t : TypeId} {ox oy : Operand} {x y : V} {K : V → Option R} {r : R} (h : binK P op t (Region.isConst ox) (Region.isConst oy) x y K = some r) :
    ∃ u, K u = some r ∧ ∀ E a b, V.rel E x a → V.rel E y b → Gives P (do eqGuard op t ox oy a b; binOp op t a b) u E := by
  have free : ∀ {s : Sem Value} {u : V} {E : Env} {a b : Value}, (∀ w, (eqGuard op t ox oy a b).run P w = .ok () w) → Gives P s u E → Gives P (do eqGuard op t ox oy a b; s) u E := by
    intro s u E a b hg hs w
    obtain ⟨y, h1, h2⟩ := hs w
    exact ⟨y, by simp only [Sem.run_bind, hg w, Result.andThen_ok, h1], h2⟩
  unfold binK at h
  split at h
  · rename_i k a k' b
    have key : ∃ u, K u = some r ∧ ∀ E, Gives P (binOp op t (.int k a) (.int k' b)) u E := by
      split at h
      · exact shiftK_some h
      · exact shiftK_some h
      · by_cases e : k = k'
        · subst e; simp only [decide_true, cond_true] at h; exact intBinK_some h
        · simp [e] at h
    obtain ⟨u, h1, h2⟩ := key
    refine ⟨u, h1, fun E x y hx hy => ?_⟩
    simp only [V.rel] at hx hy; subst hx; subst hy
    exact free (eqGuard_free ⟨by simp, by simp⟩) (h2 E)
  · rename_i a b
    obtain ⟨u, h1, h2⟩ := strBinK_some (P := P) (t := t) h
    refine ⟨u, h1, fun E x y hx hy => ?_⟩
    simp only [V.rel] at hx hy; subst hx; subst hy
    exact free (eqGuard_free ⟨by simp, by simp⟩) (h2 E)
  · rename_i a b
    cases hg : P.eqGuardType P.depth t with
    | true => rw [hg] at h; cases h
    | false =>
      rw [hg, cond_false] at h
      obtain ⟨u, h1, h2⟩ := eqlK_some (P := P) (op := op) (t := t) (x := .agg a) (y := .agg b) rfl h
      refine ⟨u, h1, fun E x y hx hy => ?_⟩
      have hx' := hx; have hy' := hy
      simp only [V.rel] at hx' hy'
      obtain ⟨xs, rfl, _⟩ := hx'
      obtain ⟨ys, rfl, _⟩ := hy'
      exact free (eqGuard_agg hg) (h2 E _ _ hx hy)
  · cases hc : (Region.isConst ox || Region.isConst oy) with
    | false => rw [hc] at h; cases h
    | true =>
      rw [hc, cond_true] at h
      obtain ⟨u, h1, h2⟩ := eqlK_some (P := P) (op := op) (t := t) (x := .nilI) (y := .nilI) rfl h
      refine ⟨u, h1, fun E x y hx hy => ?_⟩
      have hx' := hx; have hy' := hy
      simp only [V.rel] at hx' hy'
      subst hx'; subst hy'
      exact free (eqGuard_nil ((Bool.or_eq_true _ _).mp hc)) (h2 E _ _ hx hy)
  · cases h
  · cases h
  · rename_i n1 n2 n3 n4 n5 n6
    have hodd : x.odd = true := by
      cases x <;> first | rfl | exact (n1 _ _ rfl).elim | exact (n2 _ rfl).elim
    obtain ⟨u, h1, h2⟩ := eqlK_some (P := P) (op := op) (t := t) hodd h
    refine ⟨u, h1, fun E a b hx hy => free (eqGuard_free ⟨?_, ?_⟩) (h2 E _ _ hx hy)⟩
    · rintro ⟨xs, ys, rfl, rfl⟩
      obtain ⟨l, rfl⟩ := rel_agg_inv hx
      obtain ⟨l', rfl⟩ := rel_agg_inv hy
      exact n5 _ _ rfl rfl
    · rintro ⟨rfl, rfl⟩
      exact n6 (rel_nilI_inv hx) (rel_nilI_inv hy)

end
end Go.Rx
