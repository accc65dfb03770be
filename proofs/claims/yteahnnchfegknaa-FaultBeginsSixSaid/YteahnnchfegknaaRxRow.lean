/- From a row's arguments, as they are read, to values. -/
import Derived.Test.YteahnnchfegknaaRxCod
import Derived.WalkKit
import Derived.ProofKit
import Derived.OpenShut
import Derived.JoinedCond
set_option linter.unusedVariables false
namespace Go.Rx

mutual
/-- Is it a type of bools, integers, texts, and of structures and rows of such, that lie one behind the other? -/
def layB (P : Program) : Nat → TypeId → Bool
  | 0, _ => false
  | d + 1, t => match P.underlying t with
    | some .bool | some (.int _) | some .string => Nat.beq (P.cellsOf t) 1
    | some (.struct fs) => layF P d fs.toList 0 (P.cellsOf t)
    | some (.array n e) => layB P d e && Nat.beq (n * P.cellsOf e) (P.cellsOf t)
    | _ => false
def layF (P : Program) : Nat → List Field → Nat → Nat → Bool
  | 0, _, _, _ => false
  | _ + 1, [], o, n => Nat.beq o n
  | d + 1, f :: fs, o, n => Nat.beq f.offset o && (layB P d f.type && layF P d fs (o + P.cellsOf f.type) n)
end

mutual
/-- The values of a variable of such a type. -/
def Flat (P : Program) : Nat → TypeId → List V → Prop
  | 0, _, _ => False
  | d + 1, t, l => match P.underlying t with
    | some .bool => ∃ b, l = [.bool b]
    | some (.int k) => ∃ n, l = [.int k n] ∧ (Lit.int k n).wf = true
    | some .string => ∃ s : List UInt8, l = [.str s] ∧ s.length ≤ maxLen
    | some (.struct fs) => FlatF P d fs.toList l
    | some (.array n e) => FlatN P d n e l
    | _ => False
def FlatF (P : Program) : Nat → List Field → List V → Prop
  | 0, _, _ => False
  | _ + 1, [], l => l = []
  | d + 1, f :: fs, l => ∃ a b, l = a ++ b ∧ Flat P d f.type a ∧ FlatF P d fs b
def FlatN (P : Program) : Nat → Nat → TypeId → List V → Prop
  | d, 0, _, l => l = []
  | d, n + 1, e, l => ∃ a b, l = a ++ b ∧ Flat P d e a ∧ FlatN P d n e b
end

section
variable {H : Type} {enc : TypeId × Value → H} {P : Program} {w : World} {base : Nat} {sp : Nat → Bool} {held : Bool}

theorem mapM_cons_some {α β : Type} {f : α → Option β} {a : α} {l : List α} {ys : List β} (h : (a :: l).mapM f = some ys) : ∃ y ys', f a = some y ∧ l.mapM f = some ys' := by
  rw [List.mapM_cons] at h
  cases h1 : f a with
  | none => simp [h1] at h
  | some y => cases h2 : l.mapM f with
    | none => simp [h1, h2] at h
    | some ys' => exact ⟨y, ys', rfl, rfl⟩

def FlatOk (enc : TypeId × Value → H) (P : Program) (w : World) (base : Nat) (sp : Nat → Bool) (held : Bool) (d : Nat) : Prop :=
  ∀ (fuel : Nat) (t : TypeId) (cs : List Value) (x : DataW H × List MemPlace), layB P d t = true → DataW.trod enc P w base sp held fuel t cs = some x → cs.length = P.cellsOf t ∧ ∃ l, (∀ E, V.relL E l cs) ∧ Flat P d t l

theorem flat_fields {cs : List Value} {fuel : Nat} : ∀ (d : Nat), (∀ d', d' < d → FlatOk enc P w base sp held d') → ∀ (fs : List Field) (o : Nat) (ys : List (DataW H × List MemPlace)), layF P d fs o cs.length = true →
    (fs.mapM fun f => DataW.trod enc P w base sp held fuel f.type ((cs.drop f.offset).take (P.cellsOf f.type))) = some ys → o ≤ cs.length ∧ ∃ l, (∀ E, V.relL E l (cs.drop o)) ∧ FlatF P d fs l
  | 0, ih, fs, o, ys, h, _ => by simp [layF] at h
  | d + 1, ih, [], o, ys, h, _ => by
    simp only [layF] at h
    have := Nat.eq_of_beq_eq_true h
    exact ⟨by omega, [], fun E => by rw [this, List.drop_length]; simp [V.relL], by simp [FlatF]⟩
  | d + 1, ih, f :: fs, o, ys, h, hm => by
    simp only [layF, Bool.and_eq_true] at h
    obtain ⟨h1, h2, h3⟩ := h
    have h1 := Nat.eq_of_beq_eq_true h1
    obtain ⟨y, ys', e1, e2⟩ := mapM_cons_some hm
    obtain ⟨k1, a, k2, k3⟩ := ih d (Nat.lt_succ_self d) fuel f.type _ y h2 e1
    obtain ⟨g1, b, g2, g3⟩ := flat_fields d (fun d' hd => ih d' (by omega)) fs (o + P.cellsOf f.type) ys' h3 e2
    refine ⟨by omega, a ++ b, fun E => ?_, by simp only [FlatF]; exact ⟨a, b, rfl, k3, g3⟩⟩
    have := relL_append (k2 E) (g2 E)
    rw [h1, ← List.drop_drop, List.take_append_drop] at this
    exact this

theorem flat_elems {cs : List Value} {fuel : Nat} {e : TypeId} {d : Nat} (ih : FlatOk enc P w base sp held d) (hl : layB P d e = true) : ∀ (n i : Nat) (ys : List (DataW H × List MemPlace)), cs.length = (i + n) * P.cellsOf e →
    ((List.range' i n).mapM fun i => DataW.trod enc P w base sp held fuel e ((cs.drop (i * P.cellsOf e)).take (P.cellsOf e))) = some ys → ∃ l, (∀ E, V.relL E l (cs.drop (i * P.cellsOf e))) ∧ FlatN P d n e l
  | 0, i, ys, hn, _ => ⟨[], fun E => by rw [List.drop_eq_nil_of_le (by rw [hn]; simp)]; simp [V.relL], by simp [FlatN]⟩
  | n + 1, i, ys, hn, hm => by
    rw [List.range'_succ] at hm
    obtain ⟨y, ys', e1, e2⟩ := mapM_cons_some hm
    obtain ⟨k1, a, k2, k3⟩ := ih fuel e _ y hl e1
    obtain ⟨b, g2, g3⟩ := flat_elems ih hl n (i + 1) ys' (by rw [hn]; congr 1; omega) e2
    refine ⟨a ++ b, fun E => ?_, by simp only [FlatN]; exact ⟨a, b, rfl, k3, g3⟩⟩
    have := relL_append (k2 E) (g2 E)
    rw [show (i + 1) * P.cellsOf e = i * P.cellsOf e + P.cellsOf e by rw [Nat.add_mul, Nat.one_mul], ← List.drop_drop, List.take_append_drop] at this
    exact this

theorem flat_ok : ∀ (d : Nat), FlatOk enc P w base sp held d := by
  intro d
  induction d using Nat.strongRecOn with
  | _ d ih =>
    cases d with
    | zero => intro fuel t cs x h; simp [layB] at h
    | succ d =>
      intro fuel t cs x h ht
      cases fuel with
      | zero => simp [DataW.trod] at ht
      | succ fuel =>
        unfold layB at h
        unfold DataW.trod at ht
        split at h
        · rename_i hu
          have h := Nat.eq_of_beq_eq_true h
          rw [hu] at ht
          split at ht <;> first
            | cases ht; done
            | (rename_i e1; cases e1; done)
            | (exfalso; simp_all; done)
            | skip
          rename_i b _
          refine ⟨by simp [h], [.bool b], fun E => by simp [V.relL, V.rel], by unfold Flat; rw [hu]; exact ⟨b, rfl⟩⟩
        · rename_i k hu
          have h := Nat.eq_of_beq_eq_true h
          rw [hu] at ht
          split at ht <;> first
            | cases ht; done
            | (rename_i e1; cases e1; done)
            | (exfalso; simp_all; done)
            | skip
          rename_i k1 k2 n e1
          cases e1
          split at ht
          · rename_i hk
            obtain ⟨hk1, hk2⟩ := hk
            subst hk1
            exact ⟨by simp [h], [.int k2 n], fun E => by simp [V.relL, V.rel], by unfold Flat; rw [hu]; exact ⟨n, rfl, hk2⟩⟩
          · cases ht
        · rename_i hu
          have h := Nat.eq_of_beq_eq_true h
          rw [hu] at ht
          split at ht <;> first
            | cases ht; done
            | (rename_i e1; cases e1; done)
            | (exfalso; simp_all; done)
            | skip
          rename_i s e1
          split at ht
          · rename_i hs
            refine ⟨by simp [h], [.str s.data.toList], fun E => ?_, by unfold Flat; rw [hu]; exact ⟨_, rfl, hs⟩⟩
            simp only [V.relL, V.rel, and_true]
          · cases ht
        · rename_i fs hu
          rw [hu] at ht
          split at ht <;> first
            | cases ht; done
            | (rename_i e1; cases e1; done)
            | (exfalso; simp_all; done)
            | skip
          rename_i fs' e1
          cases e1
          split at ht
          · rename_i hn
            rw [Option.map_eq_some_iff] at ht
            obtain ⟨ys, h1, _⟩ := ht
            rw [← hn] at h
            obtain ⟨_, l, g1, g2⟩ := flat_fields d (fun d' hd => ih d' (by omega)) fs.toList 0 ys h h1
            exact ⟨hn, l, fun E => by have := g1 E; rwa [List.drop_zero] at this, by unfold Flat; rw [hu]; exact g2⟩
          · cases ht
        · rename_i n e hu
          rw [Bool.and_eq_true] at h
          have h2 := Nat.eq_of_beq_eq_true h.2
          rw [hu] at ht
          split at ht <;> first
            | cases ht; done
            | (rename_i e1; cases e1; done)
            | (exfalso; simp_all; done)
            | skip
          rename_i n' e' e1
          cases e1
          split at ht
          · rename_i hn
            rw [Option.map_eq_some_iff] at ht
            obtain ⟨ys, h1, _⟩ := ht
            rw [List.range_eq_range'] at h1
            obtain ⟨l, g1, g2⟩ := flat_elems (ih d (Nat.lt_succ_self d)) h.1 n 0 ys (by rw [hn, Nat.zero_add, h2]) h1
            exact ⟨hn, l, fun E => by have := g1 E; rwa [Nat.zero_mul, List.drop_zero] at this, by unfold Flat; rw [hu]; exact g2⟩
          · cases ht
        · cases h

open Go.ChangeShapes Go.WideShapes Go.ChangeAt Go.RowKit in
/-- The arguments read behind the call as they did. -/
theorem trodAll_stays (hl : laidOutB P = true) {W W' : World} (hb : Below W.heap.size W W') : ∀ (ts : List TypeId) (vs : List Value) (ds : List (DataW H)) (ps : List MemPlace), (∀ t ∈ ts, P.readableRec t = true ∧ t < P.types.size) →
    (∀ x ∈ ps, x.block < W.heap.size) → DataW.TrodAll enc P W 0 (fun _ => true) true ts vs ds ps → DataW.TrodAll enc P W' 0 (fun b => decide (b < W.heap.size)) true ts vs ds ps
  | [], vs, ds, ps, _, _, h => by
    obtain ⟨rfl, rfl, rfl⟩ := trodAll_nil h
    exact trodAll_mk0
  | t :: ts, vs, ds, ps, ht, hp, h => by
    obtain ⟨v0, vs0, d0, ds0, p0, q0, rfl, rfl, rfl, h0, r0⟩ := trodAll_cons h
    exact trodAll_cons_mk (Below.trod hl (ht t (by simp)).1 (ht t (by simp)).2 h0 hb fun x hx => hp x (by simp [hx])) (trodAll_stays hl hb ts vs0 ds0 q0 (fun t' h' => ht t' (by simp [h'])) (fun x hx => hp x (by simp [hx])) r0)

open Go.ChangeShapes Go.WideShapes Go.ChangeAt Go.RowKit in
/-- A law's row (true; the arguments read as they did; 'again' false), from the contract of its function. -/
theorem law_contract {f : Func} {n : FuncId} {s : ChangeSpec} {W : World} {args : Array Value} {ds gs : List (DataW H)} {before : List MemPlace} {apart fresh hands : Bool} {tb : TypeId}
    (hl : laidOutB P = true) (hts : ∀ t ∈ f.params.toList, P.readableRec t = true ∧ t < P.types.size) (hres : f.resultTypes = #[tb]) (htb : P.underlying tb = some .bool) (hvars : s.vars = [])
    (hspec : ∀ ds', ds'.length = f.params.size → s.fn H ds' = { results := [.lit (.bool true)], args := ds' })
    (hW : DataW.Whole enc P f.params.toList s.vars apart W args.toList ds gs before)
    (hcall : Calls P n args W fun e W' => e = .returned (.bool true) ∧ Below W.heap.size W W') :
    Calls P n args W fun e W' => ∃ v, e = .returned v ∧ s.post enc P f apart fresh hands false W args v W' := by
  refine hcall.mono fun e W' ⟨he, hb⟩ => ⟨_, he, ?_⟩
  have hW' := hW
  obtain ⟨p, q, hA, hV, rfl, hfz, hnd⟩ := hW
  rw [hvars] at hV
  obtain ⟨rfl, rfl⟩ := trodVars_none hV
  have hlen : ds.length = f.params.size := by
    have key : ∀ (ts : List TypeId) (vs : List Value) (ds : List (DataW H)) (ps : List MemPlace), DataW.TrodAll enc P W 0 (fun _ => true) true ts vs ds ps → ds.length = ts.length := by
      intro ts
      induction ts with
      | nil => intro vs ds ps h; obtain ⟨_, rfl, _⟩ := trodAll_nil h; rfl
      | cons t ts ih =>
        intro vs ds ps h
        obtain ⟨v0, vs0, d0, ds0, p0, q0, _, rfl, _, _, r0⟩ := trodAll_cons h
        simp [ih _ _ _ r0]
    simpa using key _ _ _ _ hA
  have hfn := hspec (ds ++ []) (by simpa using hlen)
  refine ⟨ds, [], _, [], p, [], hW', ?_, ?_, ?_, hb.frame _, fun h => by cases h⟩
  · rw [hfn, hres]
    exact trodAll_cons_mk (shut_bool htb _) trodAll_mk0
  · rw [hfn]
    simp only [List.append_nil] at *
    exact trodAll_stays hl hb _ _ _ _ hts (fun x hx => by have := hW'.lt x (by simpa using hx); exact this) hA
  · rw [hvars, hfn]; rfl

/-- An argument that is a structure or a row of plain parts. -/
theorem arg_agg {r : Reach} {b0 : Nat} {t : TypeId} {v : Value} {x : DataW H} {ps : List MemPlace} (d : Nat) (ha : isAggB P t = true) (hl : layB P d t = true) (hval : Value.okWide P w r b0 t v) (h : DataW.Trod enc P w base sp held t v x ps) :
    ∃ l, (∀ E, V.rel E (.agg l) v) ∧ Flat P d t l := by
  obtain ⟨fuel, h⟩ := h
  obtain ⟨_, l, h1, h2⟩ := flat_ok d fuel t _ _ hl h
  have hv : ∃ cs, v = .agg cs := by
    unfold isAggB at ha
    unfold Value.okWide at hval
    split at ha
    · rename_i fs hu; rw [hu] at hval; exact ⟨hval.choose, hval.choose_spec.1⟩
    · rename_i n e hu; rw [hu] at hval; exact ⟨hval.choose, hval.choose_spec.1⟩
    · cases ha
  obtain ⟨cs, rfl⟩ := hv
  exact ⟨l, fun E => by simp only [V.rel]; exact ⟨cs, rfl, h1 E⟩, h2⟩
end

end Go.Rx

namespace Go.Rx
/-- The elements of a row of integers. -/
theorem flatN_ints {P : Program} {d : Nat} {e : TypeId} {k : IntKind} (he : P.underlying e = some (.int k)) : ∀ (n : Nat) (l : List V), FlatN P (d + 1) n e l → ∃ ns : List Int, ns.length = n ∧ l = ns.map (V.int k) ∧ ∀ x ∈ ns, (Lit.int k x).wf = true
  | 0, l, h => ⟨[], rfl, by unfold FlatN at h; exact h, fun x hx => by cases hx⟩
  | n + 1, l, h => by
    unfold FlatN at h
    obtain ⟨a, b, rfl, ha, hb⟩ := h
    unfold Flat at ha
    rw [he] at ha
    obtain ⟨x, rfl, hx⟩ := ha
    obtain ⟨ns, h1, rfl, h2⟩ := flatN_ints he n b hb
    exact ⟨x :: ns, by simp [h1], rfl, fun y hy => (List.mem_cons.1 hy).elim (fun e => e ▸ hx) (h2 y)⟩

theorem flat_ints {P : Program} {d : Nat} {t e : TypeId} {n : Nat} {k : IntKind} (ht : P.underlying t = some (.array n e)) (he : P.underlying e = some (.int k)) {l : List V} (h : Flat P (d + 2) t l) : ∃ ns : List Int, ns.length = n ∧ l = ns.map (V.int k) ∧ ∀ x ∈ ns, (Lit.int k x).wf = true := by
  unfold Flat at h
  rw [ht] at h
  exact flatN_ints he n l h
end Go.Rx
