/- Calls of functions that only compute: contracts; what is handed to them and what they hand back. -/
import Derived.Test.YteahnnchfegknaaRxOp6
set_option linter.unusedVariables false
set_option linter.unusedSimpArgs false
namespace Go.Rx
open Go.RowKit (Below)

/-- A call that only computes: from arguments that name no block of the caller's it returns such a value, and leaves alone what was there. -/
def PCalls (P : Program) (f : FuncId) (args : List V) (v : V) : Prop :=
  ∀ E w (xs : Array Value), MemRel E w.heap.size [] w → V.relL E args xs.toList →
    Calls P f xs w fun e w' => ∃ x E', e = .returned x ∧ V.rel E' v x ∧ MemRel E' w.heap.size [] w' ∧ Good w.heap.size E w E' w'

/-- A contract: a function of the program by number, and a Lean function with the same answers. -/
structure Ctr (P : Program) where
  f : FuncId
  run : {R : Type} → List V → (V → Option R) → Option R
  ok : ∀ {R : Type} (args : List V) (K : V → Option R) (r : R), run args K = some r → ∃ v, K v = some r ∧ PCalls P f args v
  nat : ∀ {R S : Type} (args : List V) (K : V → Option R) (g : R → Option S), (run args K).bind g = run args fun v => (K v).bind g

mutual
/-- Does it hang on no memory at all? -/
def V.flat : V → Bool
  | .ptr .. | .sl .. | .map _ | .ibox .. => false
  | .isl nil _ _ => nil
  | .fn _ cap => V.flatL cap
  | .iface _ v => V.flat v
  | .agg l => V.flatL l
  | .tup l => V.flatL l
  | _ => true
def V.flatL : List V → Bool
  | [] => true
  | v :: l => V.flat v && V.flatL l
end

mutual
theorem rel_flat {E E' : Env} : ∀ (v : V) (x : Value), V.flat v = true → V.rel E v x → V.rel E' v x
  | .bool b, x, _, k => by simpa only [V.rel] using k
  | .int _ n, x, _, k => by simpa only [V.rel] using k
  | .str s, x, _, k => by simpa only [V.rel] using k
  | .nilp, x, _, k => by simpa only [V.rel] using k
  | .ptr id off, x, p, k => by simp [V.flat] at p
  | .ibox cells off, x, p, k => by simp [V.flat] at p
  | .sl id size off len cap, x, p, k => by simp [V.flat] at p
  | .isl nil size cells, x, p, k => by
    simp only [V.rel, V.flat] at *
    subst p
    rcases k with k | ⟨h0, _⟩
    · exact .inl k
    · cases h0
  | .nilm, x, _, k => by simpa only [V.rel] using k
  | .map id, x, p, k => by simp [V.flat] at p
  | .fn f cap, x, p, k => by
    simp only [V.rel, V.flat] at *
    obtain ⟨cs, h1, h2⟩ := k
    exact ⟨cs, h1, relL_flat cap _ p h2⟩
  | .nilf, x, _, k => by simpa only [V.rel] using k
  | .nilI, x, _, k => by simpa only [V.rel] using k
  | .iface t v, x, p, k => by
    simp only [V.rel, V.flat] at *
    obtain ⟨y, h1, h2⟩ := k
    exact ⟨y, h1, rel_flat v y p h2⟩
  | .agg l, x, p, k => by
    simp only [V.rel, V.flat] at *
    obtain ⟨cs, h1, h2⟩ := k
    exact ⟨cs, h1, relL_flat l _ p h2⟩
  | .tup l, x, p, k => by
    simp only [V.rel, V.flat] at *
    obtain ⟨cs, h1, h2⟩ := k
    exact ⟨cs, h1, relL_flat l _ p h2⟩
theorem relL_flat {E E' : Env} : ∀ (l : List V) (xs : List Value), V.flatL l = true → V.relL E l xs → V.relL E' l xs
  | [], [], _, _ => by simp only [V.relL]
  | [], _ :: _, _, k => by simp only [V.relL] at k
  | _ :: _, [], _, k => by simp only [V.relL] at k
  | v :: l, x :: xs, p, k => by
    simp only [V.relL, V.flatL, Bool.and_eq_true] at *
    exact ⟨rel_flat v x p.1 k.1, relL_flat l xs p.2 k.2⟩
end

/-- All memory as it stands, as memory that nobody writes. -/
def Env.snap (E : Env) (B : Nat) (w : World) : Env :=
  { own := fun _ => none, imm := fun b => match E.imm b with | some cs => some cs | none => if B ≤ b then (match w.heap[b]? with | some (.cells c _ _) => some c.toList | _ => none) else none, tot := E.tot }

theorem snap_imm {E : Env} {B : Nat} {w : World} {b : Nat} {cs : List Value} (h : E.imm b = some cs) : (E.snap B w).imm b = some cs := by simp [Env.snap, h]

theorem MemRel.bare {E : Env} {B : Nat} {m : Mem} {w : World} (h : MemRel E B m w) : MemRel E.bare w.heap.size [] w where
  size := Nat.le_refl _
  cells id l e := by simp [Mem.at] at e
  maps id es e := by simp [Mem.at] at e
  place id b o e := by simp [Mem.at, Blk.live] at e
  lt id p e := by simp [Env.bare] at e
  apart id id' b o o' e := by simp [Mem.at, Blk.live] at e
  free id _ := rfl
  imm := h.imm
  tot id l b o e := by simp [Mem.at] at e
  row id l b o e := by simp [Mem.at] at e

theorem MemRel.snap {E : Env} {B : Nat} {m : Mem} {w : World} (h : MemRel E B m w) : MemRel (E.snap B w) w.heap.size [] w where
  size := Nat.le_refl _
  cells id l e := by simp [Mem.at] at e
  maps id es e := by simp [Mem.at] at e
  place id b o e := by simp [Mem.at, Blk.live] at e
  lt id p e := by simp [Env.snap] at e
  apart id id' b o o' e := by simp [Mem.at, Blk.live] at e
  free id _ := rfl
  imm b cs e := by
    simp only [Env.snap] at e
    split at e
    · rename_i cs' h1; cases e; exact h.imm b _ h1
    · split at e <;> try cases e
      split at e
      · rename_i c t fz hc
        cases e
        refine ⟨?_, fun i x hi => ?_⟩
        · rcases Nat.lt_or_ge b w.heap.size with h2 | h2
          · exact h2
          · rw [Array.getElem?_eq_none h2] at hc; cases hc
        · rw [Array.getElem?_toList] at hi
          simp [World.cell?, hc, hi]
      · cases e
  tot id l b o e := by simp [Mem.at] at e
  row id l b o e := by simp [Mem.at] at e

/-- A row of the call's own whose cells are pure, seen as memory that nobody writes. -/
theorem snap_cells {E : Env} {B : Nat} {m : Mem} {w : World} (hm : MemRel E B m w) {id b o : Nat} {l : List V} (hl : m.at id = .cells l) (ho : E.own id = some (b, o)) :
    ∃ cs, (E.snap B w).imm b = some cs ∧ ∀ off n, V.pureL ((l.drop off).take n) = true → V.relL (E.snap B w) ((l.drop off).take n) ((cs.drop (o + off)).take ((l.drop off).take n).length) := by
  obtain ⟨c, t, fz, hc⟩ := hm.row id l b o hl ho
  obtain ⟨hB, _, hnone⟩ := hm.place id b o (by rw [hl]; rfl) ho
  refine ⟨c.toList, by simp [Env.snap, hnone, hc, hB], fun off n hp => ?_⟩
  obtain ⟨b', o', ho', hca⟩ := hm.cells id l hl
  rw [ho] at ho'; cases ho'
  have hr : ReadsAs E w b (o + off) ((l.drop off).take n) := (show ReadsAs E w b o l from hca.1).drop off |>.take n
  obtain ⟨xs, k1, k2, k3⟩ := hr.list
  have hxs : (c.toList.drop (o + off)).take ((l.drop off).take n).length = xs := by
    rw [← k1]
    apply List.ext_getElem?
    intro i
    rw [List.getElem?_take]
    split
    · rename_i hi
      rw [List.getElem?_drop]
      have h1 := k3 i xs[i] (by simp [hi])
      simp only [World.cell?, hc] at h1
      simp at h1
      rw [Array.getElem?_toList, h1, List.getElem?_eq_getElem hi]
    · rename_i hi
      rw [List.getElem?_eq_none (by omega)]
  rw [hxs]
  exact relL_bare (fun _ _ => snap_imm) _ _ hp k2

section
variable {R : Type}

mutual
/-- A value that names no block of the call's own, in place of one that may: rows that are named are taken as they stand. -/
def reifyK (m : Mem) : V → (V → Option R) → Option R
  | .ptr id off, K => match m.at id with
    | .cells l => gd (V.pureL l) (K (.ibox l off))
    | _ => none
  | .sl id size off len _, K => match m.at id with
    | .cells l => gd (Nat.blt 0 size && Nat.ble (off + len * size) l.length && V.pureL ((l.drop off).take (len * size))) (K (.isl false size ((l.drop off).take (len * size))))
    | _ => none
  | .map _, _ => none
  | .fn f cap, K => reifyLK m cap fun cap => K (.fn f cap)
  | .iface t v, K => reifyK m v fun v => K (.iface t v)
  | .agg l, K => reifyLK m l fun l => K (.agg l)
  | .tup l, K => reifyLK m l fun l => K (.tup l)
  | v, K => K v
def reifyLK (m : Mem) : List V → (List V → Option R) → Option R
  | [], K => K []
  | v :: l, K => reifyK m v fun v => reifyLK m l fun l => K (v :: l)
end

/-- What 'reifyK' hands on, under an environment that has all rows for such memory. -/
def Reified (m : Mem) (v v' : V) : Prop := ∀ E B w x, MemRel E B m w → V.rel E v x → V.rel (E.snap B w) v' x
def ReifiedL (m : Mem) (l l' : List V) : Prop := ∀ E B w xs, MemRel E B m w → V.relL E l xs → V.relL (E.snap B w) l' xs

theorem reified_pure {m : Mem} {v : V} (h : V.pure v = true) : Reified m v v := fun E B w x _ hx => rel_bare (fun _ _ => snap_imm) v x h hx

mutual
theorem reifyK_some {m : Mem} : ∀ {v : V} {K : V → Option R} {r : R}, reifyK m v K = some r → ∃ v', K v' = some r ∧ Reified m v v'
  | .ptr id off, K, r, h => by
    unfold reifyK at h
    split at h
    · rename_i l hl
      obtain ⟨hp, h⟩ := gd_some h
      refine ⟨_, h, fun E B w x hm hx => ?_⟩
      simp only [V.rel] at hx
      obtain ⟨b, o, ho, rfl⟩ := hx
      obtain ⟨cs, h1, h2⟩ := snap_cells hm hl ho
      have h3 := h2 0 l.length (by simpa using hp)
      simp only [V.rel]
      exact ⟨b, o, cs, h1, rfl, hp, by simpa using h3⟩
    · cases h
  | .sl id size off len cap, K, r, h => by
    unfold reifyK at h
    split at h
    · rename_i l hl
      obtain ⟨hp, h⟩ := gd_some h
      rw [Bool.and_eq_true, Bool.and_eq_true] at hp
      obtain ⟨⟨h0, h1⟩, hp⟩ := hp
      have h0 : 0 < size := by simpa [Nat.blt_eq] using h0
      have h1 := Nat.le_of_ble_eq_true h1
      refine ⟨_, h, fun E B w x hm hx => ?_⟩
      simp only [V.rel] at hx
      obtain ⟨b, o, c, ho, rfl, hle, _⟩ := hx
      obtain ⟨cs, h2, h3⟩ := snap_cells hm hl ho
      have h4 := h3 off (len * size) hp
      simp only [V.rel]
      exact .inr ⟨trivial, h0, b, o + off, cs, c, len, h2, rfl, hle, by rw [List.length_take, List.length_drop]; omega, hp, h4⟩
    · cases h
  | .map _, K, r, h => by unfold reifyK at h; cases h
  | .fn f cap, K, r, h => by
    unfold reifyK at h
    obtain ⟨l, h, hr⟩ := reifyLK_some h
    refine ⟨_, h, fun E B w x hm hx => ?_⟩
    simp only [V.rel] at hx ⊢
    obtain ⟨cs, rfl, hl⟩ := hx
    exact ⟨cs, rfl, hr E B w _ hm hl⟩
  | .iface t v, K, r, h => by
    unfold reifyK at h
    obtain ⟨u, h, hr⟩ := reifyK_some h
    refine ⟨_, h, fun E B w x hm hx => ?_⟩
    simp only [V.rel] at hx ⊢
    obtain ⟨y, rfl, hl⟩ := hx
    exact ⟨y, rfl, hr E B w _ hm hl⟩
  | .agg l, K, r, h => by
    unfold reifyK at h
    obtain ⟨l', h, hr⟩ := reifyLK_some h
    refine ⟨_, h, fun E B w x hm hx => ?_⟩
    simp only [V.rel] at hx ⊢
    obtain ⟨cs, rfl, hl⟩ := hx
    exact ⟨cs, rfl, hr E B w _ hm hl⟩
  | .tup l, K, r, h => by
    unfold reifyK at h
    obtain ⟨l', h, hr⟩ := reifyLK_some h
    refine ⟨_, h, fun E B w x hm hx => ?_⟩
    simp only [V.rel] at hx ⊢
    obtain ⟨cs, rfl, hl⟩ := hx
    exact ⟨cs, rfl, hr E B w _ hm hl⟩
  | .bool b, K, r, h => by unfold reifyK at h; exact ⟨_, h, reified_pure rfl⟩
  | .int k n, K, r, h => by unfold reifyK at h; exact ⟨_, h, reified_pure rfl⟩
  | .str s, K, r, h => by unfold reifyK at h; exact ⟨_, h, reified_pure rfl⟩
  | .nilp, K, r, h => by unfold reifyK at h; exact ⟨_, h, reified_pure rfl⟩
  | .ibox l off, K, r, h => by unfold reifyK at h; exact ⟨_, h, reified_pure rfl⟩
  | .isl a b c, K, r, h => by unfold reifyK at h; exact ⟨_, h, reified_pure rfl⟩
  | .nilm, K, r, h => by unfold reifyK at h; exact ⟨_, h, reified_pure rfl⟩
  | .nilf, K, r, h => by unfold reifyK at h; exact ⟨_, h, reified_pure rfl⟩
  | .nilI, K, r, h => by unfold reifyK at h; exact ⟨_, h, reified_pure rfl⟩
theorem reifyLK_some {m : Mem} : ∀ {l : List V} {K : List V → Option R} {r : R}, reifyLK m l K = some r → ∃ l', K l' = some r ∧ ReifiedL m l l'
  | [], K, r, h => by
    unfold reifyLK at h
    exact ⟨[], h, fun E B w xs _ hx => by cases xs <;> simp [V.relL] at hx ⊢⟩
  | v :: l, K, r, h => by
    unfold reifyLK at h
    obtain ⟨v', h, h1⟩ := reifyK_some h
    obtain ⟨l', h, h2⟩ := reifyLK_some h
    refine ⟨_, h, fun E B w xs hm hx => ?_⟩
    cases xs with
    | nil => simp [V.relL] at hx
    | cons x xs => simp only [V.relL] at hx ⊢; exact ⟨h1 E B w x hm hx.1, h2 E B w xs hm hx.2⟩
end

def isIface (P : Program) (t : TypeId) : Bool := match P.underlying t with | some (.interface _) => true | _ => false

/-- The arguments of a call that only computes; the Bool: was a row of the caller's handed on? -/
def argsK (P : Program) (m : Mem) : List TypeId → List V → (Bool → List V → Option R) → Option R
  | _, [], K => K false []
  | [], v :: vs, K => bif V.pure v then argsK P m [] vs fun s l => K s (v :: l) else reifyK m v fun v' => argsK P m [] vs fun _ l => K true (v' :: l)
  | t :: ts, v :: vs, K =>
    bif isIface P t then gd (V.pure v) (argsK P m ts vs fun s l => K s (v :: l))
    else bif V.pure v then argsK P m ts vs fun s l => K s (v :: l) else reifyK m v fun v' => argsK P m ts vs fun _ l => K true (v' :: l)

theorem argsK_some {P : Program} {m : Mem} : ∀ {ts : List TypeId} {vs : List V} {K : Bool → List V → Option R} {r : R}, argsK P m ts vs K = some r →
    ∃ s l, K s l = some r ∧ (s = false → l = vs ∧ V.pureL vs = true) ∧ ReifiedL m vs l
  | ts, [], K, r, h => by
    unfold argsK at h
    exact ⟨false, [], h, fun _ => ⟨rfl, rfl⟩, fun E B w xs _ hx => by cases xs <;> simp [V.relL] at hx ⊢⟩
  | ts, v :: vs, K, r, h => by
    have keep : ∀ {ts : List TypeId}, V.pure v = true → (argsK P m ts vs fun s l => K s (v :: l)) = some r → ∃ s l, K s l = some r ∧ (s = false → l = v :: vs ∧ V.pureL (v :: vs) = true) ∧ ReifiedL m (v :: vs) l := by
      intro ts hp h
      obtain ⟨s, l, h, h1, h2⟩ := argsK_some h
      refine ⟨s, _, h, fun e => ⟨by rw [(h1 e).1], by simp [V.pureL, hp, (h1 e).2]⟩, fun E B w xs hm hx => ?_⟩
      cases xs with
      | nil => simp [V.relL] at hx
      | cons x xs => simp only [V.relL] at hx ⊢; exact ⟨reified_pure hp E B w x hm hx.1, h2 E B w xs hm hx.2⟩
    have turn : ∀ {ts : List TypeId}, (reifyK m v fun v' => argsK P m ts vs fun _ l => K true (v' :: l)) = some r → ∃ s l, K s l = some r ∧ (s = false → l = v :: vs ∧ V.pureL (v :: vs) = true) ∧ ReifiedL m (v :: vs) l := by
      intro ts h
      obtain ⟨v', h, hv⟩ := reifyK_some h
      obtain ⟨s, l, h, h1, h2⟩ := argsK_some h
      refine ⟨true, _, h, fun e => (by cases e), fun E B w xs hm hx => ?_⟩
      cases xs with
      | nil => simp [V.relL] at hx
      | cons x xs => simp only [V.relL] at hx ⊢; exact ⟨hv E B w x hm hx.1, h2 E B w xs hm hx.2⟩
    cases ts with
    | nil =>
      unfold argsK at h
      cases hp : V.pure v with
      | true => rw [hp, cond_true] at h; exact keep hp h
      | false => rw [hp, cond_false] at h; exact turn h
    | cons t ts =>
      unfold argsK at h
      cases hi : isIface P t with
      | true =>
        rw [hi, cond_true] at h
        obtain ⟨hp, h⟩ := gd_some h
        exact keep hp h
      | false =>
        rw [hi, cond_false] at h
        cases hp : V.pure v with
        | true => rw [hp, cond_true] at h; exact keep hp h
        | false => rw [hp, cond_false] at h; exact turn h

/-- A value of a type, in its form. -/
def shapeK (P : Program) (t : TypeId) (v : V) (K : V → Option R) : Option R :=
  match P.underlying t, kinds P 100 t with
  | some (.struct _), some ks => aggK v fun l => takeK ks l fun c => gd (Nat.beq ks.length l.length) (K (.agg c))
  | some (.array _ _), some ks => aggK v fun l => takeK ks l fun c => gd (Nat.beq ks.length l.length) (K (.agg c))
  | some _, some [k] => shape1 k v K
  | _, _ => none

theorem shapeK_some {P : Program} {t : TypeId} {v : V} {K : V → Option R} {r : R} (h : shapeK P t v K = some r) :
    ∃ v', K v' = some r ∧ ∀ E x, V.rel E v x → V.rel E v' x := by
  have agg : ∀ {ks : List LK}, (aggK v fun l => takeK ks l fun c => gd (Nat.beq ks.length l.length) (K (.agg c))) = some r → ∃ v', K v' = some r ∧ ∀ E x, V.rel E v x → V.rel E v' x := by
    intro ks h
    obtain ⟨l, rfl, h1⟩ := aggK_some h
    obtain ⟨c, h1, h2, h3, h4⟩ := takeK_some h1
    obtain ⟨h5, h1⟩ := gd_some h1
    have h5 := Nat.eq_of_beq_eq_true h5
    refine ⟨_, h1, fun E x hx => ?_⟩
    simp only [V.rel] at hx ⊢
    obtain ⟨cs, rfl, hl⟩ := hx
    exact ⟨cs, rfl, h4 _ _ (by rw [h5, List.take_of_length_le (Nat.le_refl _)]; exact hl)⟩
  unfold shapeK at h
  split at h
  · exact agg h
  · exact agg h
  · obtain ⟨v', h, h1, _⟩ := shape1_some h; exact ⟨v', h, h1⟩
  · cases h

def shapesK (P : Program) : List TypeId → List V → (List V → Option R) → Option R
  | [], l, K => nilK l (K [])
  | t :: ts, l, K => consK l fun v l => shapeK P t v fun v => shapesK P ts l fun l => K (v :: l)

theorem shapesK_some {P : Program} : ∀ {ts : List TypeId} {l : List V} {K : List V → Option R} {r : R}, shapesK P ts l K = some r → ∃ l', K l' = some r ∧ RelBetter l l'
  | [], l, K, r, h => by
    obtain ⟨rfl, h1⟩ := nilK_some h
    exact ⟨[], h1, fun _ _ k => k⟩
  | t :: ts, l, K, r, h => by
    obtain ⟨v, l', rfl, h1⟩ := consK_some h
    obtain ⟨v', h1, h2⟩ := shapeK_some h1
    obtain ⟨l'', h1, h3⟩ := shapesK_some h1
    refine ⟨_, h1, fun E xs hx => ?_⟩
    cases xs with
    | nil => simp [V.relL] at hx
    | cons x xs => simp only [V.relL] at hx ⊢; exact ⟨h2 E x hx.1, h3 E xs hx.2⟩

/-- A call's result, in the form of its types. -/
def resK (P : Program) (ts : List TypeId) (v : V) (K : V → Option R) : Option R :=
  match ts with
  | [t] => shapeK P t v K
  | ts => tupK v fun l => shapesK P ts l fun l => K (.tup l)

theorem resK_some {P : Program} {ts : List TypeId} {v : V} {K : V → Option R} {r : R} (h : resK P ts v K = some r) :
    ∃ v', K v' = some r ∧ ∀ E x, V.rel E v x → V.rel E v' x := by
  unfold resK at h
  split at h
  · exact shapeK_some h
  · obtain ⟨l, rfl, h1⟩ := tupK_some h
    obtain ⟨l', h1, h2⟩ := shapesK_some h1
    refine ⟨_, h1, fun E x hx => ?_⟩
    simp only [V.rel] at hx ⊢
    obtain ⟨cs, rfl, hl⟩ := hx
    exact ⟨cs, rfl, h2 _ _ hl⟩

end

/-- Behind a call that only computes the caller's memory is as it was. -/
theorem MemRel.behind {E E' : Env} {B : Nat} {m : Mem} {w w' : World} (h : MemRel E B m w) (h' : MemRel E' w.heap.size [] w') (hb : Below w.heap.size w w') :
    MemRel { own := E.own, imm := fun b => if b < w.heap.size then E.imm b else E'.imm b, tot := E.tot } B m w' ∧
    Good B E w { own := E.own, imm := fun b => if b < w.heap.size then E.imm b else E'.imm b, tot := E.tot } w' := by
  have hs := h.stay hb.size hb.block
  have hE : E.Le { own := E.own, imm := fun b => if b < w.heap.size then E.imm b else E'.imm b, tot := E.tot } :=
    ⟨fun _ _ k => k, fun b cs k => by simp [(h.imm b cs k).1, k], fun _ _ _ => rfl⟩
  refine ⟨⟨hs.size, fun id l e => ?_, fun id es e => ?_, fun id b o e e' => ?_, hs.lt, hs.apart, hs.free, fun b cs e => ?_, hs.tot, hs.row⟩, hE, hb.mono h.size, fun b cs k => ?_⟩
  · obtain ⟨b, o, h1, h2⟩ := hs.cells id l e
    exact ⟨b, o, h1, h2.mono hE⟩
  · obtain ⟨b, h1, h2⟩ := hs.maps id es e
    exact ⟨b, h1, h2.mono hE⟩
  · obtain ⟨h1, h2, h3⟩ := hs.place id b o e e'
    have h4 := (h.place id b o e e').2.1
    exact ⟨h1, h2, by simp only [h4, if_true]; exact h3⟩
  · simp only at e
    split at e
    · exact hs.imm b cs e
    · exact h'.imm b cs e
  · simp only at k
    split at k
    · exact .inl k
    · have := h.size; exact .inr (by omega)

/-- A contract, used by a caller: 's': a row of the caller's was handed on (then what comes back hangs on no memory). -/
theorem PCalls.use {P : Program} {f : FuncId} {args args' : List V} {v : V} (h : PCalls P f args' v) {m : Mem} (s : Bool) (hs : s = false → args' = args ∧ V.pureL args = true) (hr : ReifiedL m args args') (hf : s = true → V.flat v = true)
    {E : Env} {B : Nat} {w : World} {xs : Array Value} (hm : MemRel E B m w) (hx : V.relL E args xs.toList) :
    Calls P f xs w fun e w' => ∃ x E', e = .returned x ∧ V.rel E' v x ∧ MemRel E' B m w' ∧ Good B E w E' w' := by
  cases s with
  | false =>
    obtain ⟨rfl, hp⟩ := hs rfl
    refine Calls.mono (h E.bare w xs hm.bare (relL_bare (E := E) (E' := E.bare) (fun _ _ k => k) _ _ hp hx)) ?_
    rintro e w' ⟨x, E', rfl, hv, hm', hg⟩
    obtain ⟨k1, k2⟩ := hm.behind hm' hg.below
    refine ⟨x, _, rfl, ?_, k1, k2⟩
    refine V.rel_mono ⟨fun i p k => ?_, fun b cs k => ?_, fun i p k => ?_⟩ v x hv
    · rw [hm'.free i (by simp [Mem.at])] at k; cases k
    · rcases hg.fresh b cs k with k' | k'
      · have := (hm.imm b cs k').1
        simp only [this, if_true]; exact k'
      · have : ¬ b < w.heap.size := by omega
        simp only [this, if_false]; exact k
    · rw [hm'.free i (by simp [Mem.at])] at k; cases k
  | true =>
    refine Calls.mono (h (E.snap B w) w xs hm.snap (hr E B w _ hm hx)) ?_
    rintro e w' ⟨x, E', rfl, hv, hm', hg⟩
    obtain ⟨k1, k2⟩ := hm.behind hm' hg.below
    exact ⟨x, _, rfl, rel_flat v x (hf rfl) hv, k1, k2⟩

end Go.Rx
