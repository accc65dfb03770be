/- Operations on numbers, texts, equality; conversions; small builtins. -/
import Derived.Test.YteahnnchfegknaaRxOp3
set_option linter.unusedVariables false
set_option linter.unusedSimpArgs false
namespace Go.Rx
open Go.RowKit (Below)

def iand (k : IntKind) (a b : Int) : Int := k.wrap (BitVec.ofInt k.bits a &&& BitVec.ofInt k.bits b).toNat
def ior (k : IntKind) (a b : Int) : Int := k.wrap (BitVec.ofInt k.bits a ||| BitVec.ofInt k.bits b).toNat
def ixor (k : IntKind) (a b : Int) : Int := k.wrap (BitVec.ofInt k.bits a ^^^ BitVec.ofInt k.bits b).toNat
def iandNot (k : IntKind) (a b : Int) : Int := k.wrap (BitVec.ofInt k.bits a &&& ~~~(BitVec.ofInt k.bits b)).toNat

/-- Two texts joined: their lengths have a sum. -/
def catOk (a b : List UInt8) : Bool := Nat.ble (a.length + b.length) 9223372036854775807

/-- Part of a value, as the model's 'part'. -/
def partV (P : Program) (t : TypeId) (l : List V) (off : Nat) : Option V :=
  match P.underlying t, szOf P t with
  | some _, some n => bif isAggB P t then (bif Nat.ble (off + n) l.length then some (.agg ((l.drop off).take n)) else none) else l[off]?
  | _, _ => none

theorem partV_rel {P : Program} {t : TypeId} {l : List V} {off : Nat} {v : V} (h : partV P t l off = some v) {E : Env} {cs : Array Value} (hr : V.relL E l cs.toList) (w : World) :
    ∃ x, (Go.part t cs off).run P w = .ok x w ∧ V.rel E v x := by
  unfold partV at h
  split at h
  · rename_i d n hd hn
    cases ha : isAggB P t with
    | true =>
      rw [ha, cond_true] at h
      cases hb : Nat.ble (off + n) l.length with
      | false => rw [hb] at h; cases h
      | true =>
        rw [hb, cond_true] at h
        cases h
        refine ⟨.agg (cs.extract off (off + n)), ?_, ?_⟩
        · simp only [Go.part, Sem.run_bind, run_isAgg' hd, ha, Result.andThen_ok, if_true, run_sizeOf' hn, Sem.run_pure]
        · simp only [V.rel]
          refine ⟨_, rfl, ?_⟩
          rw [Array.toList_extract, List.extract_eq_take_drop, Nat.add_sub_cancel_left]
          exact relL_take (relL_drop hr off) n
    | false =>
      rw [ha, cond_false] at h
      obtain ⟨x, h2, h3⟩ := relL_get hr off v h
      rw [Array.getElem?_toList] at h2
      exact ⟨x, by simp only [Go.part, Sem.run_bind, run_isAgg' hd, ha, Result.andThen_ok, Bool.false_eq_true, if_false, h2, Sem.run_pure], h3⟩
  · cases h

def andO : Option Bool → Option Bool → Option Bool
  | some a, some b => some (a && b)
  | _, _ => none

mutual
/-- '==' between two values of a type. -/
def eqV (P : Program) : Nat → TypeId → V → V → Option Bool
  | 0, _, _, _ => none
  | d + 1, t, x, y =>
    match P.underlying t with
    | some .bool => match x, y with | .bool a, .bool b => some (a == b) | _, _ => none
    | some (.int _) => match x, y with | .int k a, .int k' b => bif decide (k = k') then some (a == b) else none | _, _ => none
    | some .string => match x, y with | .str a, .str b => some (a == b) | _, _ => none
    | some (.pointer _) => match x, y with
      | .nilp, .nilp => some true
      | .nilp, .ptr _ _ | .nilp, .ibox _ _ | .ptr _ _, .nilp | .ibox _ _, .nilp => some false
      | _, _ => none
    | some (.interface _) => match x, y with
      | .nilI, .nilI => some true
      | .nilI, .iface _ _ | .iface _ _, .nilI => some false
      | _, _ => none
    | some (.slice _) => match x, y with
      | .isl n _ _, .isl true _ _ => some n
      | .sl .., .isl true _ _ => some false
      | _, _ => none
    | some (.map _ _) => match x, y with
      | .nilm, .nilm => some true
      | .map _, .nilm => some false
      | _, _ => none
    | some (.func ..) => match x, y with
      | .nilf, .nilf => some true
      | .fn .., .nilf => some false
      | _, _ => none
    | some (.struct fs) => match x, y with
      | .agg xs, .agg ys => bif P.stoodInHeld t then none else eqF P d fs.toList xs ys
      | _, _ => none
    | some (.array len e) => match x, y, szOf P e with
      | .agg xs, .agg ys, some n => eqA P d e n xs ys 0 len
      | _, _, _ => none
    | _ => none
def eqF (P : Program) : Nat → List Field → List V → List V → Option Bool
  | 0, _, _, _ => none
  | _ + 1, [], _, _ => some true
  | d + 1, f :: fs, xs, ys =>
    bif decide (f.name ≠ "_") then
      match partV P f.type xs f.offset, partV P f.type ys f.offset with
      | some a, some b => andO (eqV P d f.type a b) (eqF P d fs xs ys)
      | _, _ => none
    else eqF P d fs xs ys
def eqA (P : Program) : Nat → TypeId → Nat → List V → List V → Nat → Nat → Option Bool
  | 0, _, _, _, _, _, _ => none
  | _ + 1, _, _, _, _, _, 0 => some true
  | d + 1, e, n, xs, ys, i, k + 1 =>
      match partV P e xs (i * n), partV P e ys (i * n) with
      | some a, some b => andO (eqV P d e a b) (eqA P d e n xs ys (i + 1) k)
      | _, _ => none
end

theorem andO_some {a b : Option Bool} {c : Bool} (h : andO a b = some c) : ∃ x y, a = some x ∧ b = some y ∧ c = (x && y) := by
  cases a <;> cases b <;> simp [andO] at h
  exact ⟨_, _, rfl, rfl, h.symm⟩

theorem rel_str_toList (s : List UInt8) : (⟨⟨s⟩⟩ : ByteArray).toList = s := ByteArray.toList_mk s

/-- The comparison of two arrays' elements, as the model's loop. -/
def eqElems (d : Nat) (e : TypeId) (n : Nat) (xs ys : Array Value) : List Nat → Sem Bool
  | [] => pure true
  | i :: is => do
    let a ← Go.part e xs (i * n)
    let b ← Go.part e ys (i * n)
    let r ← Op.equalIn d e a b
    if (!r) = true then pure false else eqElems d e n xs ys is

theorem run_equalIn_array {P : Program} (w : World) (d : Nat) (t e : TypeId) (len n : Nat) (xs ys : Array Value) (ht : P.underlying t = some (.array len e)) (hn : szOf P e = some n) :
    (Op.equalIn (d + 1) t (.agg xs) (.agg ys)).run P w = (eqElems d e n xs ys (List.range' 0 len)).run P w := by
  simp only [Op.equalIn, Sem.run_bind, run_underlying ht, Result.andThen_ok, run_sizeOf' hn]
  rw [Std.Legacy.Range.forIn_eq_forIn_range']
  simp only [Std.Legacy.Range.size, Nat.sub_zero, Nat.add_sub_cancel, Nat.div_one]
  generalize List.range' 0 len = is
  clear ht
  induction is generalizing w with
  | nil => simp [eqElems]
  | cons i is ih =>
    simp only [List.forIn_cons, eqElems, Sem.run_bind]
    generalize (Go.part e xs (i * n)).run P w = r1
    cases r1 with
    | ok a w1 =>
      simp only [Result.andThen_ok]
      generalize (Go.part e ys (i * n)).run P w1 = r2
      cases r2 with
      | ok b w2 =>
        simp only [Result.andThen_ok]
        generalize (Op.equalIn d e a b).run P w2 = r3
        cases r3 with
        | ok r w3 =>
          cases r
          · simp only [Result.andThen_ok, Bool.not_false, if_true, Sem.run_pure]
          · simp only [Result.andThen_ok, Bool.not_true, Bool.false_eq_true, if_false, Sem.run_pure]
            exact ih w3
        | halt x w3 => simp [Result.andThen]
      | halt x w2 => simp [Result.andThen]
    | halt x w1 => simp [Result.andThen]

section
variable {P : Program} {E : Env}

mutual
theorem eqV_run : ∀ (d D : Nat), d ≤ D → ∀ {t : TypeId} {x y : V} {r : Bool}, eqV P d t x y = some r → ∀ (a b : Value), V.rel E x a → V.rel E y b → ∀ w, (Op.equalIn D t a b).run P w = .ok r w
  | 0, _, _, _, _, _, _, h => by simp [eqV] at h
  | d + 1, 0, hd, _, _, _, _, _ => by omega
  | d + 1, D + 1, hd, t, x, y, r, h => by
    intro a b hx hy w
    unfold eqV at h
    split at h
    · rename_i hu
      split at h <;> cases h
      simp only [V.rel] at hx hy; subst hx; subst hy
      simp [Op.equalIn, run_underlying hu]
    · rename_i k0 hu
      split at h
      · rename_i k n k' n' 
        by_cases e : k = k'
        · subst e
          simp at h; subst h
          simp only [V.rel] at hx hy; subst hx; subst hy
          simp [Op.equalIn, run_underlying hu]
        · simp [e] at h
      · cases h
    · rename_i hu
      split at h <;> cases h
      simp only [V.rel] at hx hy; subst hx; subst hy
      simp only [Op.equalIn, Sem.run_bind, run_underlying hu, Result.andThen_ok, Sem.run_pure, beq_toListBytes, rel_str_toList]
    · rename_i p hu
      split at h <;> cases h
      · simp only [V.rel] at hx hy; subst hx; subst hy
        simp [Op.equalIn, run_underlying hu]
      · simp only [V.rel] at hx hy; obtain ⟨_, _, _, rfl⟩ := hy; subst hx
        simp [Op.equalIn, run_underlying hu]
      · simp only [V.rel] at hx hy; obtain ⟨_, _, _, _, rfl, _⟩ := hy; subst hx
        simp [Op.equalIn, run_underlying hu]
      · simp only [V.rel] at hx hy; obtain ⟨_, _, _, rfl⟩ := hx; subst hy
        simp [Op.equalIn, run_underlying hu]
      · simp only [V.rel] at hx hy; obtain ⟨_, _, _, _, rfl, _⟩ := hx; subst hy
        simp [Op.equalIn, run_underlying hu]
    · rename_i ms hu
      split at h <;> cases h
      · simp only [V.rel] at hx hy; subst hx; subst hy
        simp [Op.equalIn, run_underlying hu]
      · simp only [V.rel] at hx hy; obtain ⟨_, rfl, _⟩ := hy; subst hx
        simp [Op.equalIn, run_underlying hu]
      · simp only [V.rel] at hx hy; obtain ⟨_, rfl, _⟩ := hx; subst hy
        simp [Op.equalIn, run_underlying hu]
    · rename_i e hu
      split at h <;> cases h
      · simp only [V.rel] at hx hy
        obtain ⟨_, _, rfl⟩ | ⟨h0, _⟩ := hy
        · obtain ⟨rfl, _, rfl⟩ | ⟨rfl, _, _, _, _, _, _, _, rfl, _⟩ := hx
          · simp [Op.equalIn, run_underlying hu]
          · simp [Op.equalIn, run_underlying hu]
        · cases h0
      · simp only [V.rel] at hx hy
        obtain ⟨_, _, rfl⟩ | ⟨h0, _⟩ := hy
        · obtain ⟨_, _, _, _, rfl, _⟩ := hx
          simp [Op.equalIn, run_underlying hu]
        · cases h0
    · rename_i k e hu
      split at h <;> cases h
      · simp only [V.rel] at hx hy; subst hx; subst hy
        simp [Op.equalIn, run_underlying hu]
      · simp only [V.rel] at hx hy; obtain ⟨_, _, rfl⟩ := hx; subst hy
        simp [Op.equalIn, run_underlying hu]
    · rename_i hu
      split at h <;> cases h
      · simp only [V.rel] at hx hy; subst hx; subst hy
        simp [Op.equalIn, run_underlying hu]
      · simp only [V.rel] at hx hy; obtain ⟨_, rfl, _⟩ := hx; subst hy
        simp [Op.equalIn, run_underlying hu]
    · rename_i fs hu
      split at h
      · rename_i xs ys
        simp only [V.rel] at hx hy
        obtain ⟨ca, rfl, hxs⟩ := hx
        obtain ⟨cb, rfl, hys⟩ := hy
        cases hp : P.stoodInHeld t with
        | true => rw [hp] at h; cases h
        | false =>
          rw [hp, cond_false] at h
          have hf : P.fieldsOf t = fs := by simp [Program.fieldsOf, hu]
          rw [run_equalIn_struct w D t ca cb (by rw [hf]; exact hu) hp, hf]
          exact eqF_run d D (by omega) h _ _ hxs hys w
      · cases h
    · rename_i len e hu
      split at h
      · rename_i xs ys n hn
        simp only [V.rel] at hx hy
        obtain ⟨ca, rfl, hxs⟩ := hx
        obtain ⟨cb, rfl, hys⟩ := hy
        rw [run_equalIn_array w D t e len n ca cb hu hn]
        exact eqA_run d D (by omega) h _ _ hxs hys w
      · cases h
    · cases h
theorem eqF_run : ∀ (d D : Nat), d ≤ D → ∀ {fs : List Field} {xs ys : List V} {r : Bool}, eqF P d fs xs ys = some r → ∀ (ca cb : Array Value), V.relL E xs ca.toList → V.relL E ys cb.toList → ∀ w, (Op.eqFields D ca cb fs).run P w = .ok r w
  | 0, _, _, _, _, _, _, h => by simp [eqF] at h
  | d + 1, D, hd, [], xs, ys, r, h => by
    intro ca cb hx hy w
    simp [eqF] at h; subst h; simp [Op.eqFields]
  | d + 1, D, hd, f :: fs, xs, ys, r, h => by
    intro ca cb hx hy w
    unfold eqF at h
    by_cases hn : f.name ≠ "_"
    · simp only [hn, decide_true, cond_true, ne_eq, not_false_eq_true] at h
      split at h
      · rename_i a b ha hb
        obtain ⟨u, v, h1, h2, rfl⟩ := andO_some h
        obtain ⟨xa, p1, p2⟩ := partV_rel ha hx w
        obtain ⟨xb, p3, p4⟩ := partV_rel hb hy w
        have e1 := eqV_run d D (by omega) h1 _ _ p2 p4 w
        have e2 := eqF_run d D (by omega) h2 _ _ hx hy w
        simp only [Op.eqFields, hn, ne_eq, not_false_eq_true, if_true, Sem.run_bind, p1, p3, e1, Result.andThen_ok]
        cases u
        · simp
        · simp [e2]
      · cases h
    · simp only [hn, decide_false, cond_false] at h
      simp only [Op.eqFields, hn, if_false]
      exact eqF_run d D (by omega) h _ _ hx hy w
theorem eqA_run : ∀ (d D : Nat), d ≤ D → ∀ {e : TypeId} {n : Nat} {xs ys : List V} {i k : Nat} {r : Bool}, eqA P d e n xs ys i k = some r → ∀ (ca cb : Array Value), V.relL E xs ca.toList → V.relL E ys cb.toList → ∀ w, (eqElems D e n ca cb (List.range' i k)).run P w = .ok r w
  | 0, _, _, _, _, _, _, _, _, _, h => by simp [eqA] at h
  | d + 1, D, hd, e, n, xs, ys, i, 0, r, h => by
    intro ca cb hx hy w
    simp [eqA] at h; subst h; simp [eqElems]
  | d + 1, D, hd, e, n, xs, ys, i, k + 1, r, h => by
    intro ca cb hx hy w
    unfold eqA at h
    split at h
    · rename_i a b ha hb
      obtain ⟨u, v, h1, h2, rfl⟩ := andO_some h
      obtain ⟨xa, p1, p2⟩ := partV_rel ha hx w
      obtain ⟨xb, p3, p4⟩ := partV_rel hb hy w
      have e1 := eqV_run d D (by omega) h1 _ _ p2 p4 w
      have e2 := eqA_run d D (by omega) h2 _ _ hx hy w
      simp only [List.range'_succ, eqElems, Sem.run_bind, p1, p3, e1, Result.andThen_ok]
      cases u
      · simp
      · simp [e2]
    · cases h
end

end
end Go.Rx
