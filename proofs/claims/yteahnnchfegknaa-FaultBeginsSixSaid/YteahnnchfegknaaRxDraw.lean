/- Regions whose order is open: whatever order is drawn comes to what the list's order comes to. -/
import Derived.Test.YteahnnchfegknaaRxNat
import Derived.Orders
set_option linter.unusedVariables false
set_option linter.unusedSimpArgs false
namespace Go.Rx
open Go.RowKit (Below)

/-- A conversion that reads no memory. -/
def bareConv (P : Program) (s d : TypeId) : Bool :=
  match P.underlying s, P.underlying d with
  | some (.int _), some (.int _) => true
  | some .string, some .string => true
  | _, _ => false

theorem convK_bare {R : Type} {P : Program} {s d : TypeId} (h : bareConv P s d = true) (v : V) (m m' : Mem) (K : V → Option R) : convK P s d v m K = convK P s d v m' K := by
  unfold bareConv at h
  unfold convK
  split at h
  · rename_i h1 h2; simp only [h1, h2]
  · rename_i h1 h2; simp only [h1, h2]
  · cases h

/-- A part of a text reads no memory. -/
def bareSlice (P : Program) (t : TypeId) : Bool :=
  match P.underlying t with
  | some .string => true
  | _ => false

theorem sliceK_bare {R : Type} {P : Program} {t : TypeId} (h : bareSlice P t = true) (v : V) (lo hi mx : Option V) (m m' : Mem) (K : V → Option R) : sliceK P t v lo hi mx m K = sliceK P t v lo hi mx m' K := by
  unfold bareSlice at h
  unfold sliceK
  split at h
  · rename_i h1; simp only [h1]
  · cases h

/-- How an operation stands to memory: 0: not at all, 1: it reads, 2: it makes a block, 3: it writes. -/
def memClass (P : Program) (o : Oper) : Nat :=
  match o.op with
  | .move _ | .assign _ | .pick .. | .build .. | .nilCheck _ | .binOp .. | .unOp .. | .makeInterface .. | .makeFunc .. | .fieldAddr .. | .field .. | .indexAddr .. | .index .. | .extract .. | .typeAssert .. => 0
  | .convert s d _ => bif bareConv P s d then 0 else 1
  | .load .. => 1
  | .slice t _ _ _ _ => bif bareSlice P t then 0 else 1
  | .alloc _ | .box .. | .buildSlice .. => 2
  | .call c => match c.callee with
    | .builtin b => match b with
      | .len | .min | .max => 0
      | _ => 3
    | .value _ => 1
    | _ => 3
  | _ => 3

section
variable {R : Type} {P : Program}

theorem opK_free {cs : List (Ctr P)} {o : Oper} (h : memClass P o = 0) (ρ : Operand → Option V) (m m' : Mem) (id id' : Nat) (K : Option V → Mem → Option R) :
    opK P cs o ρ m id K = opK P cs o ρ m' id' fun v _ => K v m := by
  unfold opK
  unfold memClass at h
  split at h <;> first
    | cases h; done
    | (rename_i ho; simp only [ho]; done)
    | skip
  · rename_i s0 d0 x0 ho
    cases hb : bareConv P s0 d0 with
    | false => rw [hb] at h; cases h
    | true =>
      simp only [ho]
      congr 1; funext v
      exact convK_bare hb v m m' _
  · rename_i t0 x0 lo0 hi0 mx0 ho
    cases hb : bareSlice P t0 with
    | false => rw [hb] at h; cases h
    | true =>
      simp only [ho]
      congr 1; funext v
      congr 1; funext lo
      congr 1; funext hi
      congr 1; funext mx
      exact sliceK_bare hb v lo hi mx m m' _
  rename_i c ho
  split at h
  · rename_i b hb
    split at h <;> first
      | cases h; done
      | (simp only [ho, hb, builtinK]; done)
  · cases h
  · cases h

theorem opK_quiet {cs : List (Ctr P)} {o : Oper} (h : memClass P o = 1) (ρ : Operand → Option V) (m : Mem) (id id' : Nat) (K : Option V → Mem → Option R) :
    opK P cs o ρ m id K = opK P cs o ρ m id' fun v _ => K v m := by
  unfold opK
  unfold memClass at h
  split at h <;> first
    | cases h; done
    | (rename_i ho; simp only [ho]; done)
    | skip
  rename_i c ho
  split at h
  · rename_i b hb
    split at h <;> cases h
  · rename_i f hf
    simp only [ho, hf]
  · cases h

/-- Memory of which less is known. -/
def Mem.Sub (m m' : Mem) : Prop := ∀ id, m.at id ≠ .free → m'.at id = m.at id

theorem loadK_ext {t : TypeId} {v : V} {m m' : Mem} (hs : m.Sub m') {K : V → Option R} {r : R} (h : loadK P t v m K = some r) : loadK P t v m' K = some r := by
  unfold loadK at h ⊢
  split at h
  · split at h
    · rename_i l hl
      rw [hs _ (by rw [hl]; simp), hl]; exact h
    · cases h
  · exact h
  · cases h

theorem convK_ext {s d : TypeId} {v : V} {m m' : Mem} (hs : m.Sub m') {K : V → Option R} {r : R} (h : convK P s d v m K = some r) : convK P s d v m' K = some r := by
  unfold convK at h ⊢
  split at h
  · exact h
  · exact h
  · split at h
    · split at h
      · split at h
        · rename_i l hl
          rw [hs _ (by rw [hl]; simp), hl]; exact h
        · cases h
      · exact h
      · cases h
    · cases h
  · cases h

theorem holds_ext {m m' : Mem} (hs : m.Sub m') {id n : Nat} (h : m.holds id n = true) : m'.holds id n = true := by
  unfold Mem.holds at h ⊢
  split at h
  · rename_i l hl
    rw [hs _ (by rw [hl]; simp), hl]; exact h
  · cases h

theorem bndK_mono {v : Option V} {d : Int} {K K' : Int → Option R} (hk : ∀ i r, K i = some r → K' i = some r) {r : R} (h : bndK v d K = some r) : bndK v d K' = some r := by
  unfold bndK at h ⊢
  split at h
  · exact hk _ _ h
  · exact hk _ _ h
  · cases h

theorem sliceK_ext {t : TypeId} {v : V} {lo hi mx : Option V} {m m' : Mem} (hs : m.Sub m') {K : V → Option R} {r : R} (h : sliceK P t v lo hi mx m K = some r) : sliceK P t v lo hi mx m' K = some r := by
  unfold sliceK at h ⊢
  split at h
  · exact h
  · split at h
    · rename_i sz id off hsz
      refine bndK_mono ?_ h
      intro l r h
      refine bndK_mono ?_ h
      intro hh r h
      obtain ⟨h0, h⟩ := gd_some h
      rw [Bool.and_eq_true] at h0
      unfold gd
      rw [h0.1, holds_ext hs h0.2]; exact h
    · exact h
    · cases h
  · exact h
  · cases h

mutual
theorem reifyK_ext {m m' : Mem} (hs : m.Sub m') : ∀ {v : V} {R : Type} {K : V → Option R} {r : R}, reifyK m v K = some r → reifyK m' v K = some r
  | .ptr id off, _, K, r, h => by
    unfold reifyK at h ⊢
    split at h
    · rename_i l hl; rw [hs _ (by rw [hl]; simp), hl]; exact h
    · cases h
  | .sl id size off len cap, _, K, r, h => by
    unfold reifyK at h ⊢
    split at h
    · rename_i l hl; rw [hs _ (by rw [hl]; simp), hl]; exact h
    · cases h
  | .map _, _, K, r, h => h
  | .fn g cap, _, K, r, h => by unfold reifyK at h ⊢; exact reifyLK_ext hs h
  | .iface t v, _, K, r, h => by unfold reifyK at h ⊢; exact reifyK_ext hs h
  | .agg l, _, K, r, h => by unfold reifyK at h ⊢; exact reifyLK_ext hs h
  | .tup l, _, K, r, h => by unfold reifyK at h ⊢; exact reifyLK_ext hs h
  | .bool _, _, K, r, h => h
  | .int _ _, _, K, r, h => h
  | .str _, _, K, r, h => h
  | .nilp, _, K, r, h => h
  | .ibox _ _, _, K, r, h => h
  | .isl _ _ _, _, K, r, h => h
  | .nilm, _, K, r, h => h
  | .nilf, _, K, r, h => h
  | .nilI, _, K, r, h => h
theorem reifyLK_ext {m m' : Mem} (hs : m.Sub m') : ∀ {l : List V} {R : Type} {K : List V → Option R} {r : R}, reifyLK m l K = some r → reifyLK m' l K = some r
  | [], _, K, r, h => h
  | v :: l, _, K, r, h => by
    unfold reifyLK at h ⊢
    have h1 : (reifyK m v (fun v => some v)).bind (fun v => reifyLK m l fun l => K (v :: l)) = some r := by
      rw [reifyK_nat]; exact h
    have h2 : (reifyK m' v (fun v => some v)).bind (fun v => reifyLK m' l fun l => K (v :: l)) = some r := by
      rw [Option.bind_eq_some_iff] at h1 ⊢
      obtain ⟨v', g1, g2⟩ := h1
      exact ⟨v', reifyK_ext hs g1, reifyLK_ext hs g2⟩
    rw [reifyK_nat] at h2
    exact h2
end

theorem argsK_ext {m m' : Mem} (hs : m.Sub m') : ∀ {ts : List TypeId} {vs : List V} {K : Bool → List V → Option R} {r : R}, argsK P m ts vs K = some r → argsK P m' ts vs K = some r
  | ts, [], K, r, h => by cases ts <;> exact h
  | ts, v :: vs, K, r, h => by
    have keep : ∀ {ts : List TypeId}, (argsK P m ts vs fun s l => K s (v :: l)) = some r → (argsK P m' ts vs fun s l => K s (v :: l)) = some r := fun h => argsK_ext hs h
    have turn : ∀ {ts : List TypeId}, (reifyK m v fun v' => argsK P m ts vs fun _ l => K true (v' :: l)) = some r → (reifyK m' v fun v' => argsK P m' ts vs fun _ l => K true (v' :: l)) = some r := by
      intro ts h
      have h1 : (reifyK m v (fun v => some v)).bind (fun v' => argsK P m ts vs fun _ l => K true (v' :: l)) = some r := by
        rw [reifyK_nat]; exact h
      have h2 : (reifyK m' v (fun v => some v)).bind (fun v' => argsK P m' ts vs fun _ l => K true (v' :: l)) = some r := by
        rw [Option.bind_eq_some_iff] at h1 ⊢
        obtain ⟨v', g1, g2⟩ := h1
        exact ⟨v', reifyK_ext hs g1, argsK_ext hs g2⟩
      rw [reifyK_nat] at h2
      exact h2
    cases ts with
    | nil =>
      unfold argsK at h ⊢
      cases hp : V.pure v with
      | true => simp only [hp, cond_true] at h ⊢; exact keep h
      | false => simp only [hp, cond_false] at h ⊢; exact turn h
    | cons t ts =>
      unfold argsK at h ⊢
      cases hi : isIface P t with
      | true =>
        simp only [hi, cond_true] at h ⊢
        obtain ⟨hp, h⟩ := gd_some h
        unfold gd; rw [hp, cond_true]; exact keep h
      | false =>
        simp only [hi, cond_false] at h ⊢
        cases hp : V.pure v with
        | true => simp only [hp, cond_true] at h ⊢; exact keep h
        | false => simp only [hp, cond_false] at h ⊢; exact turn h

theorem ctrK_ext {cs : List (Ctr P)} {g : V} {args : List V} {m m' : Mem} (hs : m.Sub m') {K : V → Option R} {r : R} (h : ctrK P cs g args m K = some r) : ctrK P cs g args m' K = some r := by
  unfold ctrK at h ⊢
  split at h
  · split at h
    · obtain ⟨h0, h⟩ := gd_some h
      unfold gd; rw [h0, cond_true]
      exact argsK_ext hs h
    · cases h
  · cases h

/-- What reads in less memory reads the same in more. -/
theorem opK_ext {cs : List (Ctr P)} {o : Oper} (h : memClass P o = 1) {ρ : Operand → Option V} {m m' : Mem} (hs : m.Sub m') {id : Nat} {K : Option V → Option R} {r : R}
    (hr : opK P cs o ρ m id (fun v _ => K v) = some r) : opK P cs o ρ m' id (fun v _ => K v) = some r := by
  unfold opK at hr ⊢
  unfold memClass at h
  split at h <;> first
    | cases h; done
    | skip
  · rename_i s d x ho
    simp only [ho] at hr ⊢
    obtain ⟨v, hv, h1⟩ := valK_some hr
    rw [hv]; exact convK_ext hs h1
  · rename_i t x ho
    simp only [ho] at hr ⊢
    obtain ⟨v, hv, h1⟩ := valK_some hr
    rw [hv]; exact loadK_ext hs h1
  · rename_i t x lo hi mx ho
    simp only [ho] at hr ⊢
    obtain ⟨v, hv, h1⟩ := valK_some hr
    rw [hv]
    simp only [valK]
    have key : ∀ (lo' hi' mx' : Option V), (sliceK P t v lo' hi' mx' m fun z => K (some z)) = some r → (sliceK P t v lo' hi' mx' m' fun z => K (some z)) = some r := fun _ _ _ => sliceK_ext hs
    have h2 : (optK ρ lo fun l => some l).bind (fun lo => (optK ρ hi fun l => some l).bind fun hi => (optK ρ mx fun l => some l).bind fun mx => sliceK P t v lo hi mx m fun z => K (some z)) = some r := by
      simp only [optK_nat, Option.bind_some]; exact h1
    have h3 : (optK ρ lo fun l => some l).bind (fun lo => (optK ρ hi fun l => some l).bind fun hi => (optK ρ mx fun l => some l).bind fun mx => sliceK P t v lo hi mx m' fun z => K (some z)) = some r := by
      rw [Option.bind_eq_some_iff] at h2 ⊢
      obtain ⟨a, g1, h2⟩ := h2
      refine ⟨a, g1, ?_⟩
      rw [Option.bind_eq_some_iff] at h2 ⊢
      obtain ⟨b, g2, h2⟩ := h2
      refine ⟨b, g2, ?_⟩
      rw [Option.bind_eq_some_iff] at h2 ⊢
      obtain ⟨c, g3, h2⟩ := h2
      exact ⟨c, g3, key _ _ _ h2⟩
    simp only [optK_nat, Option.bind_some] at h3
    exact h3
  · rename_i c ho
    split at h
    · rename_i b hb
      split at h <;> cases h
    · rename_i f hf
      simp only [ho, hf] at hr ⊢
      obtain ⟨v, hv, h1⟩ := valK_some hr
      rw [hv]
      simp only [valK]
      have h2 : (valsK ρ c.args.toList fun l => some l).bind (fun l => ctrK P cs v l m fun v => K (some v)) = some r := by
        simp only [valsK_nat, Option.bind_some]; exact h1
      have h3 : (valsK ρ c.args.toList fun l => some l).bind (fun l => ctrK P cs v l m' fun v => K (some v)) = some r := by
        rw [Option.bind_eq_some_iff] at h2 ⊢
        obtain ⟨a, g1, h2⟩ := h2
        exact ⟨a, g1, ctrK_ext hs h2⟩
      simp only [valsK_nat, Option.bind_some] at h3
      exact h3
    · cases h

theorem valsK_congr {ρ ρ' : Operand → Option V} : ∀ (xs : List Operand) (K : List V → Option R), (∀ x ∈ xs, ρ x = ρ' x) → valsK ρ xs K = valsK ρ' xs K
  | [], K, _ => rfl
  | x :: xs, K, h => by
    unfold valsK
    rw [h x (by simp)]
    congr 1; funext v
    exact valsK_congr xs _ fun y hy => h y (by simp [hy])
theorem partsK_congr {ρ ρ' : Operand → Option V} : ∀ (xs : List (Nat × Operand)) (K : List (Nat × V) → Option R), (∀ x ∈ xs.map (·.2), ρ x = ρ' x) → partsK ρ xs K = partsK ρ' xs K
  | [], K, _ => rfl
  | x :: xs, K, h => by
    unfold partsK
    rw [h x.2 (by simp)]
    congr 1; funext v
    exact partsK_congr xs _ fun y hy => h y (by simp only [List.map_cons, List.mem_cons]; exact .inr hy)
theorem optK_congr {ρ ρ' : Operand → Option V} (x : Option Operand) (K : Option V → Option R) (h : ∀ y, x = some y → ρ y = ρ' y) : optK ρ x K = optK ρ' x K := by
  cases x with
  | none => rfl
  | some x => show valK (ρ x) _ = valK (ρ' x) _; rw [h x rfl]

/-- An operation looks at its operands alone. -/
theorem opK_congr {cs : List (Ctr P)} {o : Oper} {ρ ρ' : Operand → Option V} (h : ∀ x ∈ o.op.operands, ρ x = ρ' x) (m : Mem) (id : Nat) (K : Option V → Mem → Option R) :
    opK P cs o ρ m id K = opK P cs o ρ' m id K := by
  unfold opK
  cases ho : o.op <;> rw [ho] at h <;> simp only [Op.operands] at h <;> try simp only
  case makeMap t r => cases r <;> rfl
  case call c =>
    simp only [Call.operands] at h
    cases hc : c.callee with
    | builtin b =>
      simp only
      unfold builtinK
      have ha : ∀ x ∈ c.args.toList, ρ x = ρ' x := fun x hx => h x (by rw [hc]; simp; simpa using hx)
      cases b <;> simp only
      all_goals
        split <;> first
          | rfl
          | (rename_i hx _; rw [hx] at ha; simp only [List.mem_cons, List.not_mem_nil, or_false, forall_eq_or_imp, forall_eq] at ha; simp only [ha]; done)
          | (rename_i hx; rw [hx] at ha; rw [ha _ (by simp)]; congr 1; funext v; exact valsK_congr _ _ fun x hx => ha x (by simp [hx]))
    | value f =>
      simp only
      rw [hc] at h
      rw [h f (by simp)]
      congr 1; funext v
      exact valsK_congr _ _ fun x hx => h x (by simp; exact .inr (by simpa using hx))
    | invoke => rfl
  case build t ps => exact partsK_congr _ _ fun x hx => h x (by simpa using hx)
  case buildSlice t n ps => exact partsK_congr _ _ fun x hx => h x (by simpa using hx)
  case makeFunc fn first cap =>
    split
    · exact valsK_congr _ _ fun x hx => h x (by simp; exact .inr (by simpa using hx))
    · rfl
  case slice t x lo hi mx =>
    rw [h x (by simp)]
    congr 1; funext v
    rw [optK_congr lo _ (fun y hy => h y (by simp [hy]))]
    congr 1; funext lo'
    rw [optK_congr hi _ (fun y hy => h y (by simp [hy]))]
    congr 1; funext hi'
    rw [optK_congr mx _ (fun y hy => h y (by simp [hy]))]
  all_goals first
    | rfl
    | (simp only [List.mem_toArray, List.mem_cons, List.not_mem_nil, or_false, forall_eq_or_imp, forall_eq] at h; simp only [h]; done)

end
end Go.Rx
