/- The extensions of a packet of IPv6, as the reference reads them: interpreterref04.Chain. -/
import Derived.Test.YteahnnchfegknaaL15h
set_option linter.unusedVariables false
set_option linter.unusedSimpArgs false
set_option maxRecDepth 100000
set_option maxHeartbeats 0
namespace Go.Rx.L15F
open Go.Proofs Go.Rx

def keep55 : Keep := ⟨[0, 1, 4, 5, 6, 7, 8], [0, 1, 4, 5, 6, 7, 8]⟩
noncomputable def C55 : Cfg Try.prog := ⟨[], [], fun _ _ => keep55, []⟩
def stA55 (next : Int) (data : List UInt8) (c : Int) : St := ⟨[(0, some (.int .i64 next)), (1, some (.str data)), (4, some (.isl true 0 [])), (5, some (.int .i64 0)), (6, some (.str [])), (7, some (.int .i64 c)), (8, some (.isl true 0 []))], []⟩
def stB55 (next : Int) (data : List UInt8) (c : Int) (len : Nat) (l : List V) : St := ⟨[(0, some (.int .i64 next)), (1, some (.str data)), (4, some (.isl true 0 [])), (5, some (.int .i64 0)), (6, some (.str [])), (7, some (.int .i64 c)), (8, some (.sl 0 2 0 len none))], [.cells l]⟩
noncomputable def L55 {R : Type} : Nat → St → (Exit → St → Option R) → Option R := loopIt (evC Try.prog C55 (evF Try.prog C55 6) 55 true (tmpsIn Try.prog 55) (loopAt Try.prog 55 2)) (trimK true keep55)
def nV (data : List UInt8) : Int := IntKind.i64.wrap (8 * IntKind.i64.wrap (1 + IntKind.i64.wrap (bt data 1)))
def shortB (data : List UInt8) : Option Bool := bif ltI (data.length : Int) 8 then some true else gd (inB 1 data.length) <| some (ltI (data.length : Int) (nV data))
def body55 (data : List UInt8) : List UInt8 := sub data (some (V.int .i64 2)) (some (V.int .i64 (nV data))) 2 (nV data).toNat
def rest55 (data : List UInt8) : List UInt8 := sub data (some (V.int .i64 (nV data))) none (nV data).toNat (data.length : Int).toNat

theorem stepA55 {R : Type} (k : Nat) (next : Int) (data : List UInt8) (K : Exit → St → Option R) : L55 (k + 1) (stA55 next data 0) K =
    (extB next).bind fun q => bif q then
      (bif next == 0 then some false else some false).bind fun q =>
      bif q then K .ret (stA55 next data 8)
      else (shortB data).bind fun q =>
        bif q then K .ret (stA55 next data 7)
        else gd (inB 1 data.length) <| gd (ordB 2 (nV data) data.length) <| gd (inB 0 data.length) <| gd (ordB (nV data) (data.length : Int) data.length) <|
          L55 k (stB55 (IntKind.i64.wrap (bt data 0)) (rest55 data) 0 1 [.int .i64 next, .str (body55 data)]) K
    else K (.exit 0) (stA55 next data 0) := by kernel_rfl

theorem stepB55 {R : Type} (k : Nat) (next : Int) (data : List UInt8) (len : Nat) (l : List V) (K : Exit → St → Option R) : L55 (k + 1) (stB55 next data 0 len l) K =
    (extB next).bind fun q => bif q then
      (bif next == 0 then some (ltI 0 (len : Int)) else some false).bind fun q =>
      bif q then gd (V.pureL l) (K .ret (stB55 next data 8 len l))
      else bif (len : Int) == 8 then gd (V.pureL l) (K .ret (stB55 next data 3 len l))
      else (shortB data).bind fun q =>
        bif q then gd (V.pureL l) (K .ret (stB55 next data 7 len l))
        else gd (inB 1 data.length) <| gd (ordB 2 (nV data) data.length) <| gd ((0 + len * 2).ble l.length && (((len + 1) * 24).ble 140737488355328 && true)) <| gd (inB 0 data.length) <| gd (ordB (nV data) (data.length : Int) data.length) <|
          gd (V.pureL ((l.drop 0).take (len * 2) ++ [.int .i64 next, .str (body55 data)])) <|
          L55 k (stB55 (IntKind.i64.wrap (bt data 0)) (rest55 data) 0 (len + 1) ((l.drop 0).take (len * 2) ++ [.int .i64 next, .str (body55 data)])) K
    else gd (V.pureL l) (K (.exit 0) (stB55 next data 0 len l)) := by kernel_rfl

def chainX : Nat → List Ext1 → Int → List UInt8 → List Ext1 × Int × List UInt8 × Option Int
  | 0, es, next, data => (es, next, data, some 0)
  | k + 1, es, next, data =>
    if next = 0 ∨ next = 43 ∨ next = 60 then
      if next = 0 ∧ 0 < es.length then (es, next, data, some 8)
      else if 8 ≤ es.length then (es, next, data, some 3)
      else if data.length < nn data then (es, next, data, some 7)
      else chainX k (es ++ [(next, (data.drop 2).take (nn data - 2))]) (bt data 0) (data.drop (nn data))
    else (es, next, data, none)

theorem chain_X : ∀ (k : Nat) (es : List Ext1) (next : Int) (data : List UInt8), chain k es next data = match (chainX k es next data).2.2.2 with
    | none => .ok (chainX k es next data).1 (chainX k es next data).2.1 (chainX k es next data).2.2.1
    | some c => .bad c (chainX k es next data).2.1 (chainX k es next data).2.2.1
  | 0, es, next, data => rfl
  | k + 1, es, next, data => by
    unfold chain chainX
    split
    · split
      · rfl
      split
      · rfl
      split
      · rfl
      · exact chain_X k _ _ _
    · rfl

def out55 {R : Type} (r : List Ext1 × Int × List UInt8 × Option Int) (K : Exit → St → Option R) : Option R :=
  match r with
  | ([], next, data, none) => K (.exit 0) (stA55 next data 0)
  | ([], next, data, some c) => K .ret (stA55 next data c)
  | (e :: es, next, data, none) => K (.exit 0) (stB55 next data 0 (es.length + 1) (encE (e :: es)))
  | (e :: es, next, data, some c) => K .ret (stB55 next data c (es.length + 1) (encE (e :: es)))

theorem shortB_spec {data : List UInt8} (hd : data.length ≤ 1000000) : shortB data = some (decide (data.length < nn data)) ∧ (8 ≤ data.length → nV data = (nn data : Int)) := by
  have hb1 := bt_range data 1
  have hnV : nV data = ((8 + (bt data 1).toNat * 8 : Nat) : Int) := by
    unfold nV
    rw [wrap_i64 (n := bt data 1) (by omega) (by omega), wrap_i64 (n := 1 + bt data 1) (by omega) (by omega), wrap_i64 (by omega) (by omega)]; omega
  unfold shortB
  rw [ltI_eq]
  by_cases c : data.length < 8
  · rw [decide_eq_true (by omega), cond_true]
    refine ⟨?_, fun h => absurd h (by omega)⟩
    rw [decide_eq_true]; unfold nn; split <;> omega
  · have hnn : nn data = 8 + (bt data 1).toNat * 8 := by unfold nn; rw [if_pos (by omega)]
    rw [decide_eq_false (by omega), cond_false, gd_true (inB_iff.2 ⟨by omega, by omega⟩), ltI_eq, hnV, ← hnn]
    refine ⟨?_, fun _ => rfl⟩
    congr 1; rw [Bool.eq_iff_iff]; simp

theorem refB {R : Type} (K : Exit → St → Option R) : ∀ (k fuel : Nat) (es : List Ext1) (next : Int) (data : List UInt8), es ≠ [] → es.length ≤ 8 → 9 ≤ es.length + k → k ≤ fuel → data.length ≤ 1000000 →
    L55 fuel (stB55 next data 0 es.length (encE es)) K = out55 (chainX k es next data) K
  | 0, fuel, es, next, data, _, h8, h9, _, _ => by omega
  | k + 1, fuel, es, next, data, hne, h8, h9, hf, hd => by
    obtain ⟨fuel, rfl⟩ : ∃ f, fuel = f + 1 := ⟨fuel - 1, by omega⟩
    obtain ⟨hsh, hnv⟩ := shortB_spec hd
    rw [stepB55, extB_spec, Option.bind_some, encE_pure, hsh]
    unfold chainX
    have hpos : 0 < es.length := List.length_pos_iff.2 hne
    have hb0 := bt_range data 0
    have hout : ∀ (oc : Option Int), out55 (es, next, data, oc) K = match oc with | none => K (.exit 0) (stB55 next data 0 es.length (encE es)) | some c => K .ret (stB55 next data c es.length (encE es)) := by
      intro oc
      cases es with
      | nil => exact absurd rfl hne
      | cons e es => cases oc <;> rfl
    by_cases c0 : next = 0 ∨ next = 43 ∨ next = 60
    case neg => rw [decide_eq_false c0, cond_false, if_neg c0, gd_true rfl, hout]
    rw [decide_eq_true c0, cond_true, if_pos c0]
    have hq : (bif next == 0 then some (ltI 0 (es.length : Int)) else some false) = some (decide (next = 0 ∧ 0 < es.length)) := by
      by_cases h0 : next = 0
      · rw [h0, ltI_eq]; simp
      · rw [show (next == 0) = false from beq_eq_false_iff_ne.2 h0, cond_false, decide_eq_false (fun h => h0 h.1)]
    rw [hq, Option.bind_some]
    by_cases c3 : next = 0 ∧ 0 < es.length
    · rw [decide_eq_true c3, cond_true, if_pos c3, gd_true rfl, hout]
    rw [decide_eq_false c3, cond_false, if_neg c3]
    by_cases c4 : 8 ≤ es.length
    · rw [show ((es.length : Int) == 8) = true from beq_iff_eq.2 (by omega), cond_true, if_pos c4, gd_true rfl, hout]
    rw [show ((es.length : Int) == 8) = false from beq_eq_false_iff_ne.2 (by omega), cond_false, if_neg c4, Option.bind_some]
    by_cases c5 : data.length < nn data
    · rw [decide_eq_true c5, cond_true, if_pos c5, gd_true rfl, hout]
    rw [decide_eq_false c5, cond_false, if_neg c5]
    have hn8 : 8 ≤ nn data := by unfold nn; split <;> omega
    have hv := hnv (by omega)
    have e1 : body55 data = (data.drop 2).take (nn data - 2) := by unfold body55 sub; rw [hv, Int.toNat_natCast]; exact cutL_eq _ _ (by rw [List.length_drop]; omega)
    have e2 : rest55 data = data.drop (nn data) := by unfold rest55; rw [hv]; show data.drop _ = _; rw [Int.toNat_natCast]
    rw [hv, gd_true (inB_iff.2 ⟨by omega, by omega⟩), gd_true (ordB_iff.2 ⟨by omega, by omega, by omega⟩), gd_true (by
      rw [Bool.and_true, Bool.and_eq_true]
      exact ⟨Nat.ble_eq_true_of_le (by rw [encE_len]; omega), Nat.ble_eq_true_of_le (by omega)⟩), gd_true (inB_iff.2 ⟨by omega, by omega⟩), gd_true (ordB_iff.2 ⟨by omega, by omega, by omega⟩), e1, e2, encE_take, wrap_i64 (n := bt data 0) (by omega) (by omega)]
    have e3 : encE es ++ [.int .i64 next, .str ((data.drop 2).take (nn data - 2))] = encE (es ++ [(next, (data.drop 2).take (nn data - 2))]) := by rw [encE_append]; rfl
    rw [e3, encE_pure, gd_true rfl]
    have := refB K k fuel (es ++ [(next, (data.drop 2).take (nn data - 2))]) (bt data 0) (data.drop (nn data)) (by simp) (by simp; omega) (by simp; omega) (by omega) (by rw [List.length_drop]; omega)
    rw [show (es ++ [(next, (data.drop 2).take (nn data - 2))]).length = es.length + 1 by simp] at this
    exact this

theorem refA {R : Type} (K : Exit → St → Option R) (fuel : Nat) (next : Int) (data : List UInt8) (hf : 9 ≤ fuel) (hd : data.length ≤ 1000000) :
    L55 fuel (stA55 next data 0) K = out55 (chainX 9 [] next data) K := by
  obtain ⟨fuel, rfl⟩ : ∃ f, fuel = f + 1 := ⟨fuel - 1, by omega⟩
  obtain ⟨hsh, hnv⟩ := shortB_spec hd
  rw [stepA55, extB_spec, Option.bind_some, hsh]
  unfold chainX
  have hb0 := bt_range data 0
  by_cases c0 : next = 0 ∨ next = 43 ∨ next = 60
  case neg => rw [decide_eq_false c0, cond_false, if_neg c0]; rfl
  have hq : (bif next == 0 then some false else some false) = some false := by cases next == 0 <;> rfl
  rw [decide_eq_true c0, cond_true, if_pos c0, hq, Option.bind_some, cond_false, Option.bind_some]
  rw [if_neg (show ¬ (next = 0 ∧ 0 < ([] : List Ext1).length) by simp), if_neg (show ¬ (8 ≤ ([] : List Ext1).length) by simp)]
  by_cases c5 : data.length < nn data
  · rw [decide_eq_true c5, cond_true, if_pos c5]; rfl
  rw [decide_eq_false c5, cond_false, if_neg c5]
  have hn8 : 8 ≤ nn data := by unfold nn; split <;> omega
  have hv := hnv (by omega)
  have e1 : body55 data = (data.drop 2).take (nn data - 2) := by unfold body55 sub; rw [hv, Int.toNat_natCast]; exact cutL_eq _ _ (by rw [List.length_drop]; omega)
  have e2 : rest55 data = data.drop (nn data) := by unfold rest55; rw [hv]; show data.drop _ = _; rw [Int.toNat_natCast]
  rw [hv, gd_true (inB_iff.2 ⟨by omega, by omega⟩), gd_true (ordB_iff.2 ⟨by omega, by omega, by omega⟩), gd_true (inB_iff.2 ⟨by omega, by omega⟩), gd_true (ordB_iff.2 ⟨by omega, by omega, by omega⟩), e1, e2, wrap_i64 (n := bt data 0) (by omega) (by omega)]
  exact refB K 8 fuel [(next, (data.drop 2).take (nn data - 2))] (bt data 0) (data.drop (nn data)) (by simp) (by simp) (by simp) (by omega) (by rw [List.length_drop]; omega)

noncomputable def loop55 : LoopCtr Try.prog := LoopCtr.of mix C55 6 55 2 (tmpsIn Try.prog 55) keep55 (loopAt Try.prog 55 2) (fun _ _ _ h => absurd h List.not_mem_nil)
  (fun vs m K => match vs, m with
    | [some (.int .i64 next), some (.str data), some (.isl true 0 []), some (.int .i64 0), some (.str []), some (.int .i64 0), some (.isl true 0 [])], [] => gd (Nat.ble data.length 1000000) (out55 (chainX 9 [] next data) K)
    | _, _ => none)
  (by
    intro R vs m K r h
    split at h
    · obtain ⟨hd, h⟩ := gd_some h
      rw [← refA K loopFuel _ _ (by decide) (Nat.le_of_ble_eq_true hd)] at h
      exact h
    · cases h)

def raw55 (r : List Ext1 × Int × List UInt8 × Option Int) : Option ((Bool × Nat × List V) × Int × List UInt8 × Int × Unit) :=
  match r with
  | ([], next, data, none) => some ((true, 0, []), next, data, 0, ())
  | ([], next, data, some c) => some ((true, 0, []), 0, [], c, ())
  | (e :: es, next, data, none) => gd (Nat.blt 0 2 && Nat.ble (0 + (es.length + 1) * 2) (encE (e :: es)).length && V.pureL (((encE (e :: es)).drop 0).take ((es.length + 1) * 2))) (some ((false, 2, ((encE (e :: es)).drop 0).take ((es.length + 1) * 2)), next, data, 0, ()))
  | (e :: es, next, data, some c) => some ((true, 0, []), 0, [], c, ())

def F55 (next : Int) (s : List UInt8) : Option ((Bool × Nat × List V) × Int × List UInt8 × Int × Unit) := gd (Nat.ble s.length 1000000) (raw55 (chainX 9 [] next s))

theorem F55_ev : ∀ a, evTop Try.prog ⟨[], [], fun _ _ => keep55, [loop55]⟩ 6 55 (CodL.val (CodL.cons (Cod.int .i64) (CodL.cons Cod.str CodL.nil)) a) (fun v => Cod.dec (Cod.tup (CodL.cons Cod.isl (CodL.cons (Cod.int .i64) (CodL.cons Cod.str (CodL.cons (Cod.int .i64) CodL.nil))))) v some) = (fun a => F55 a.1 a.2.1) a := by
  intro a; kernel_rfl

noncomputable def d55 : Ctr Try.prog := Ctr.ofF 55 (CodL.cons (Cod.int .i64) (CodL.cons Cod.str CodL.nil)) (Cod.tup (CodL.cons Cod.isl (CodL.cons (Cod.int .i64) (CodL.cons Cod.str (CodL.cons (Cod.int .i64) CodL.nil))))) (fun a => F55 a.1 a.2.1)
  (pcalls_of_ev (C := ⟨[], [], fun _ _ => keep55, [loop55]⟩) (d := 6) mix (loopsOk_of (by
    have h : loopsOf (bodyIn Try.prog 55) = [loopAt Try.prog 55 2] := by kernel_rfl
    intro b hb q hq _ _
    rw [h] at hb
    rw [List.mem_singleton.1 hb, List.mem_singleton.1 hq]
    rfl)) F55_ev)

def res55 (r : ChR) : (Bool × Nat × List V) × Int × List UInt8 × Int × Unit :=
  match r with
  | .ok es next data => (slOf es, next, data, 0, ())
  | .bad c next data => ((true, 0, []), 0, [], c, ())

theorem F55_spec {next : Int} {data : List UInt8} (h : data.length ≤ 1000000) : F55 next data = some (res55 (chain 9 [] next data)) := by
  unfold F55
  rw [gd_true (Nat.ble_eq_true_of_le h), chain_X]
  obtain ⟨es, n, d, oc⟩ := chainX 9 [] next data
  cases oc with
  | some c => cases es <;> rfl
  | none => cases es with
    | nil => rfl
    | cons e es =>
      have e1 : ((encE (e :: es)).drop 0).take ((es.length + 1) * 2) = encE (e :: es) := encE_take (e :: es)
      unfold raw55
      simp only
      rw [e1, encE_pure, gd_true (by
        rw [Bool.and_true, Bool.and_eq_true]
        exact ⟨rfl, Nat.ble_eq_true_of_le (by rw [encE_len]; simp)⟩)]
      rfl
end Go.Rx.L15F
