/- The extensions of a packet of IPv6, told in Lean: ip6.Chain. -/
import Derived.Test.YteahnnchfegknaaL15g
import Derived.Test.YteahnnchfegknaaP15b
set_option linter.unusedVariables false
set_option linter.unusedSimpArgs false
set_option maxRecDepth 100000
set_option maxHeartbeats 0
namespace Go.Rx.L15F
open Go.Proofs Go.Rx

/-- interpreter/ip6.fault -/
noncomputable def d69 : Ctr Try.prog := Ctr.evT mix [] inl (keepIn keeps) 6 69 (Cod.err faultT)
/-- interpreter/ip6.extends -/
noncomputable def d90 : Ctr Try.prog := Ctr.evT mix [] inl (keepIn keeps) 6 90 Cod.bool
def keep52 : Keep := ⟨[0, 1, 4, 5, 6, 7], [0, 1, 4, 5, 6, 7]⟩
noncomputable def C52 : Cfg Try.prog := ⟨[d69, d90], [], fun _ _ => keep52, []⟩
def stA52 (next : Int) (data : List UInt8) : St := ⟨[(0, some (.int .i64 next)), (1, some (.str data)), (4, some (.isl true 0 [])), (5, some (.int .i64 0)), (6, some (.str [])), (7, some .nilI)], []⟩
def stB52 (next : Int) (data : List UInt8) (len : Nat) (l : List V) : St := ⟨[(0, some (.int .i64 next)), (1, some (.str data)), (4, some (.sl 0 2 0 len none)), (5, some (.int .i64 0)), (6, some (.str [])), (7, some .nilI)], [.cells l]⟩
def stE52 (code next : Int) (data : List UInt8) : St := ⟨[(0, some (.int .i64 next)), (1, some (.str data)), (4, some (.isl true 0 [])), (5, some (.int .i64 0)), (6, some (.str [])), (7, some (.iface 97 (.ibox [.int .i64 code, .int .i64 0] 0)))], []⟩
noncomputable def L52 {R : Type} : Nat → St → (Exit → St → Option R) → Option R := loopIt (evC Try.prog C52 (evF Try.prog C52 6) 52 true (tmpsIn Try.prog 52) (loopAt Try.prog 52 1)) (trimK true keep52)
def extB (next : Int) : Option Bool := bif next == 0 then some true else bif next == 43 then some true else some (next == 60)
def nW (data : List UInt8) : Int := IntKind.i64.wrap (8 + IntKind.i64.wrap (IntKind.i64.wrap (bt data 1) * 8))

theorem stepA52 {R : Type} (k : Nat) (next : Int) (data : List UInt8) (K : Exit → St → Option R) : L52 (k + 1) (stA52 next data) K =
    (extB next).bind fun q => bif q then
      (bif leI 2 (data.length : Int) then
        gd (inB 1 data.length) <|
        (bif next == 0 then some false else some false).bind fun q =>
        bif q then K .ret (stE52 8 next data)
        else bif ltI (data.length : Int) (nW data) then K .ret (stE52 7 next data)
        else gd (ordB 2 (nW data) data.length) <| gd (inB 0 data.length) <| gd (ordB (nW data) (data.length : Int) data.length) <|
          L52 k (stB52 (IntKind.i64.wrap (bt data 0)) (sub data (some (V.int .i64 (nW data))) none (nW data).toNat (data.length : Int).toNat) 1 [.int .i64 next, .str (sub data (some (V.int .i64 2)) (some (V.int .i64 (nW data))) 2 (nW data).toNat)]) K
      else
        (bif next == 0 then some false else some false).bind fun q =>
        bif q then K .ret (stE52 8 next data)
        else bif ltI (data.length : Int) 8 then K .ret (stE52 7 next data)
        else gd (ordB 2 8 data.length) <| gd (inB 0 data.length) <| gd (ordB 8 (data.length : Int) data.length) <|
          L52 k (stB52 (IntKind.i64.wrap (bt data 0)) (sub data (some (V.int .i64 8)) none 8 (data.length : Int).toNat) 1 [.int .i64 next, .str (sub data (some (V.int .i64 2)) (some (V.int .i64 8)) 2 8)]) K)
    else K (.exit 0) (stA52 next data) := by kernel_rfl

theorem stepB52 {R : Type} (k : Nat) (next : Int) (data : List UInt8) (len : Nat) (l : List V) (K : Exit → St → Option R) : L52 (k + 1) (stB52 next data len l) K =
    (extB next).bind fun q => bif q then
      (bif leI 2 (data.length : Int) then
        gd (inB 1 data.length) <|
        (bif next == 0 then some (ltI 0 (len : Int)) else some false).bind fun q =>
        bif q then K .ret (stE52 8 next data)
        else bif leI 8 (len : Int) then K .ret (stE52 3 next data)
        else bif ltI (data.length : Int) (nW data) then K .ret (stE52 7 next data)
        else gd (ordB 2 (nW data) data.length) <| gd ((0 + len * 2).ble l.length && (((len + 1) * 24).ble 140737488355328 && true)) <| gd (inB 0 data.length) <| gd (ordB (nW data) (data.length : Int) data.length) <|
          gd (V.pureL ((l.drop 0).take (len * 2) ++ [.int .i64 next, .str (sub data (some (V.int .i64 2)) (some (V.int .i64 (nW data))) 2 (nW data).toNat)])) <|
          L52 k (stB52 (IntKind.i64.wrap (bt data 0)) (sub data (some (V.int .i64 (nW data))) none (nW data).toNat (data.length : Int).toNat) (len + 1) ((l.drop 0).take (len * 2) ++ [.int .i64 next, .str (sub data (some (V.int .i64 2)) (some (V.int .i64 (nW data))) 2 (nW data).toNat)])) K
      else
        (bif next == 0 then some (ltI 0 (len : Int)) else some false).bind fun q =>
        bif q then K .ret (stE52 8 next data)
        else bif leI 8 (len : Int) then K .ret (stE52 3 next data)
        else bif ltI (data.length : Int) 8 then K .ret (stE52 7 next data)
        else gd (ordB 2 8 data.length) <| gd ((0 + len * 2).ble l.length && (((len + 1) * 24).ble 140737488355328 && true)) <| gd (inB 0 data.length) <| gd (ordB 8 (data.length : Int) data.length) <|
          gd (V.pureL ((l.drop 0).take (len * 2) ++ [.int .i64 next, .str (sub data (some (V.int .i64 2)) (some (V.int .i64 8)) 2 8)])) <|
          L52 k (stB52 (IntKind.i64.wrap (bt data 0)) (sub data (some (V.int .i64 8)) none 8 (data.length : Int).toNat) (len + 1) ((l.drop 0).take (len * 2) ++ [.int .i64 next, .str (sub data (some (V.int .i64 2)) (some (V.int .i64 8)) 2 8)])) K)
    else gd (V.pureL l) (K (.exit 0) (stB52 next data len l)) := by kernel_rfl

/-- An extension: its kind and its body. -/
abbrev Ext1 := Int × List UInt8
def encE : List Ext1 → List V
  | [] => []
  | e :: l => .int .i64 e.1 :: .str e.2 :: encE l

theorem encE_len : ∀ (l : List Ext1), (encE l).length = l.length * 2
  | [] => rfl
  | e :: l => by simp only [encE, List.length_cons, encE_len l]; omega
theorem encE_append : ∀ (a b : List Ext1), encE (a ++ b) = encE a ++ encE b
  | [], b => rfl
  | e :: a, b => by simp only [List.cons_append, encE, encE_append a b]
theorem encE_pure : ∀ (l : List Ext1), V.pureL (encE l) = true
  | [] => rfl
  | e :: l => by simp only [encE, V.pureL, V.pure, encE_pure l, Bool.and_self]
theorem encE_take (l : List Ext1) : ((encE l).drop 0).take (l.length * 2) = encE l := by
  rw [List.drop_zero, ← encE_len, List.take_length]

/-- How many bytes an extension says that it has. -/
def nn (data : List UInt8) : Nat := if 2 ≤ data.length then 8 + (bt data 1).toNat * 8 else 8

inductive ChR where
  | ok (es : List Ext1) (next : Int) (data : List UInt8)
  | bad (code next : Int) (data : List UInt8)

/-- The extensions ahead of a protocol ('k': more than can be left). -/
def chain : Nat → List Ext1 → Int → List UInt8 → ChR
  | 0, _, next, data => .bad 0 next data
  | k + 1, es, next, data =>
    if next = 0 ∨ next = 43 ∨ next = 60 then
      if next = 0 ∧ 0 < es.length then .bad 8 next data
      else if 8 ≤ es.length then .bad 3 next data
      else if data.length < nn data then .bad 7 next data
      else chain k (es ++ [(next, (data.drop 2).take (nn data - 2))]) (bt data 0) (data.drop (nn data))
    else .ok es next data

def outK {R : Type} (r : ChR) (K : Exit → St → Option R) : Option R :=
  match r with
  | .ok [] next data => K (.exit 0) (stA52 next data)
  | .ok (e :: es) next data => K (.exit 0) (stB52 next data (es.length + 1) (encE (e :: es)))
  | .bad c next data => K .ret (stE52 c next data)

theorem extB_spec (next : Int) : extB next = some (decide (next = 0 ∨ next = 43 ∨ next = 60)) := by
  unfold extB
  by_cases h0 : next = 0
  · rw [h0]; rfl
  rw [show (next == 0) = false from beq_eq_false_iff_ne.2 h0, cond_false]
  by_cases h1 : next = 43
  · rw [h1]; rfl
  rw [show (next == 43) = false from beq_eq_false_iff_ne.2 h1, cond_false]
  by_cases h2 : next = 60
  · rw [h2]; rfl
  · rw [show (next == 60) = false from beq_eq_false_iff_ne.2 h2, decide_eq_false (by omega)]

/-- Round after round: with at least one extension. -/
theorem chainB {R : Type} (K : Exit → St → Option R) : ∀ (k fuel : Nat) (es : List Ext1) (next : Int) (data : List UInt8), es ≠ [] → es.length ≤ 8 → 9 ≤ es.length + k → k ≤ fuel → data.length ≤ 1000000 →
    L52 fuel (stB52 next data es.length (encE es)) K = outK (chain k es next data) K
  | 0, fuel, es, next, data, _, h8, h9, _, _ => by omega
  | k + 1, fuel, es, next, data, hne, h8, h9, hf, hd => by
    obtain ⟨fuel, rfl⟩ : ∃ f, fuel = f + 1 := ⟨fuel - 1, by omega⟩
    rw [stepB52, extB_spec, Option.bind_some]
    unfold chain
    have hpos : 0 < es.length := List.length_pos_iff.2 hne
    by_cases c0 : next = 0 ∨ next = 43 ∨ next = 60
    case neg =>
      rw [decide_eq_false c0, cond_false, if_neg c0, encE_pure, gd_true rfl]
      cases es with
      | nil => exact absurd rfl hne
      | cons e es => rfl
    rw [decide_eq_true c0, cond_true, if_pos c0, leI_eq]
    have hq : (bif next == 0 then some (ltI 0 (es.length : Int)) else some false) = some (decide (next = 0 ∧ 0 < es.length)) := by
      by_cases h0 : next = 0
      · rw [h0, ltI_eq]; simp
      · rw [show (next == 0) = false from beq_eq_false_iff_ne.2 h0, cond_false, decide_eq_false (fun h => h0 h.1)]
    have hb0 := bt_range data 0
    have hb1 := bt_range data 1
    have hnW : nW data = ((8 + (bt data 1).toNat * 8 : Nat) : Int) := by
      unfold nW
      rw [wrap_i64 (n := bt data 1) (by omega) (by omega), wrap_i64 (n := bt data 1 * 8) (by omega) (by omega), wrap_i64 (by omega) (by omega)]; omega
    rw [hq, hnW]
    simp only [Option.bind_some]
    by_cases c2 : 2 ≤ data.length
    · have hnn : nn data = 8 + (bt data 1).toNat * 8 := by unfold nn; rw [if_pos c2]
      rw [decide_eq_true (show (2 : Int) ≤ data.length by omega), cond_true, gd_true (inB_iff.2 ⟨by omega, by omega⟩), ← hnn]
      by_cases c3 : next = 0 ∧ 0 < es.length
      · rw [decide_eq_true c3, cond_true, if_pos c3]; rfl
      rw [decide_eq_false c3, cond_false, if_neg c3, leI_eq]
      by_cases c4 : 8 ≤ es.length
      · rw [decide_eq_true (show (8 : Int) ≤ es.length by omega), cond_true, if_pos c4]; rfl
      rw [decide_eq_false (show ¬ (8 : Int) ≤ es.length by omega), cond_false, if_neg c4, ltI_eq]
      by_cases c5 : data.length < nn data
      · rw [decide_eq_true (show (data.length : Int) < nn data by omega), cond_true, if_pos c5]; rfl
      rw [decide_eq_false (show ¬ (data.length : Int) < nn data by omega), cond_false, if_neg c5]
      have hn8 : 8 ≤ nn data := by omega
      rw [gd_true (ordB_iff.2 ⟨by omega, by omega, by omega⟩), gd_true (by
        rw [Bool.and_true, Bool.and_eq_true]
        exact ⟨Nat.ble_eq_true_of_le (by rw [encE_len]; omega), Nat.ble_eq_true_of_le (by omega)⟩), gd_true (inB_iff.2 ⟨by omega, by omega⟩), gd_true (ordB_iff.2 ⟨by omega, by omega, by omega⟩)]
      have e1 : sub data (some (V.int .i64 2)) (some (V.int .i64 (nn data))) 2 ((nn data : Nat) : Int).toNat = (data.drop 2).take (nn data - 2) := by unfold sub; rw [Int.toNat_natCast]; exact cutL_eq _ _ (by rw [List.length_drop]; omega)
      have e2 : sub data (some (V.int .i64 (nn data))) none ((nn data : Nat) : Int).toNat (data.length : Int).toNat = data.drop (nn data) := by show data.drop _ = _; rw [Int.toNat_natCast]
      rw [e1, e2, encE_take, wrap_i64 (n := bt data 0) (by omega) (by omega)]
      have e3 : encE es ++ [.int .i64 next, .str ((data.drop 2).take (nn data - 2))] = encE (es ++ [(next, (data.drop 2).take (nn data - 2))]) := by rw [encE_append]; rfl
      rw [e3, encE_pure, gd_true rfl]
      have := chainB K k fuel (es ++ [(next, (data.drop 2).take (nn data - 2))]) (bt data 0) (data.drop (nn data)) (by simp) (by simp; omega) (by simp; omega) (by omega) (by rw [List.length_drop]; omega)
      rw [show (es ++ [(next, (data.drop 2).take (nn data - 2))]).length = es.length + 1 by simp] at this
      exact this
    · have hnn : nn data = 8 := by unfold nn; rw [if_neg c2]
      rw [decide_eq_false (show ¬ (2 : Int) ≤ data.length by omega), cond_false]
      by_cases c3 : next = 0 ∧ 0 < es.length
      · rw [decide_eq_true c3, cond_true, if_pos c3]; rfl
      rw [decide_eq_false c3, cond_false, if_neg c3, leI_eq]
      by_cases c4 : 8 ≤ es.length
      · rw [decide_eq_true (show (8 : Int) ≤ es.length by omega), cond_true, if_pos c4]; rfl
      rw [decide_eq_false (show ¬ (8 : Int) ≤ es.length by omega), cond_false, if_neg c4, ltI_eq, decide_eq_true (show (data.length : Int) < 8 by omega), cond_true, if_pos (by omega)]; rfl

theorem chainA {R : Type} (K : Exit → St → Option R) (fuel : Nat) (next : Int) (data : List UInt8) (hf : 9 ≤ fuel) (hd : data.length ≤ 1000000) :
    L52 fuel (stA52 next data) K = outK (chain 9 [] next data) K := by
  obtain ⟨fuel, rfl⟩ : ∃ f, fuel = f + 1 := ⟨fuel - 1, by omega⟩
  rw [stepA52, extB_spec, Option.bind_some]
  unfold chain
  by_cases c0 : next = 0 ∨ next = 43 ∨ next = 60
  case neg => rw [decide_eq_false c0, cond_false, if_neg c0]; rfl
  rw [decide_eq_true c0, cond_true, if_pos c0, leI_eq]
  have hq : (bif next == 0 then some false else some false) = some false := by cases next == 0 <;> rfl
  have hb0 := bt_range data 0
  have hb1 := bt_range data 1
  have hnW : nW data = ((8 + (bt data 1).toNat * 8 : Nat) : Int) := by
    unfold nW
    rw [wrap_i64 (n := bt data 1) (by omega) (by omega), wrap_i64 (n := bt data 1 * 8) (by omega) (by omega), wrap_i64 (by omega) (by omega)]; omega
  rw [hq, hnW]
  simp only [Option.bind_some, cond_false]
  rw [if_neg (show ¬ (next = 0 ∧ 0 < ([] : List Ext1).length) by simp), if_neg (show ¬ (8 ≤ ([] : List Ext1).length) by simp)]
  by_cases c2 : 2 ≤ data.length
  · have hnn : nn data = 8 + (bt data 1).toNat * 8 := by unfold nn; rw [if_pos c2]
    rw [decide_eq_true (show (2 : Int) ≤ data.length by omega), cond_true, gd_true (inB_iff.2 ⟨by omega, by omega⟩), ← hnn, ltI_eq]
    by_cases c5 : data.length < nn data
    · rw [decide_eq_true (show (data.length : Int) < nn data by omega), cond_true, if_pos c5]; rfl
    rw [decide_eq_false (show ¬ (data.length : Int) < nn data by omega), cond_false, if_neg c5]
    have hn8 : 8 ≤ nn data := by omega
    rw [gd_true (ordB_iff.2 ⟨by omega, by omega, by omega⟩), gd_true (inB_iff.2 ⟨by omega, by omega⟩), gd_true (ordB_iff.2 ⟨by omega, by omega, by omega⟩)]
    have e1 : sub data (some (V.int .i64 2)) (some (V.int .i64 (nn data))) 2 ((nn data : Nat) : Int).toNat = (data.drop 2).take (nn data - 2) := by unfold sub; rw [Int.toNat_natCast]; exact cutL_eq _ _ (by rw [List.length_drop]; omega)
    have e2 : sub data (some (V.int .i64 (nn data))) none ((nn data : Nat) : Int).toNat (data.length : Int).toNat = data.drop (nn data) := by show data.drop _ = _; rw [Int.toNat_natCast]
    rw [e1, e2, wrap_i64 (n := bt data 0) (by omega) (by omega)]
    exact chainB K 8 fuel [(next, (data.drop 2).take (nn data - 2))] (bt data 0) (data.drop (nn data)) (by simp) (by simp) (by simp) (by omega) (by rw [List.length_drop]; omega)
  · have hnn : nn data = 8 := by unfold nn; rw [if_neg c2]
    rw [decide_eq_false (show ¬ (2 : Int) ≤ data.length by omega), cond_false, ltI_eq, decide_eq_true (show (data.length : Int) < 8 by omega), cond_true, if_pos (by omega)]; rfl

noncomputable def loop52 : LoopCtr Try.prog := LoopCtr.of mix C52 6 52 1 (tmpsIn Try.prog 52) keep52 (loopAt Try.prog 52 1) (fun _ _ _ h => absurd h List.not_mem_nil)
  (fun vs m K => match vs, m with
    | [some (.int .i64 next), some (.str data), some (.isl true 0 []), some (.int .i64 0), some (.str []), some .nilI], [] => gd (Nat.ble data.length 1000000) (outK (chain 9 [] next data) K)
    | _, _ => none)
  (by
    intro R vs m K r h
    split at h
    · obtain ⟨hd, h⟩ := gd_some h
      rw [← chainA K loopFuel _ _ (by decide) (Nat.le_of_ble_eq_true hd)] at h
      exact h
    · cases h)

/-- Chain's answer, from the loop's. -/
def raw52 (r : ChR) : Option ((Bool × Nat × List V) × Int × List UInt8 × Err × Unit) :=
  match r with
  | .ok [] next data => some ((true, 0, []), next, data, none, ())
  | .ok (e :: es) next data => gd (Nat.blt 0 2 && Nat.ble (0 + (es.length + 1) * 2) (encE (e :: es)).length && V.pureL (((encE (e :: es)).drop 0).take ((es.length + 1) * 2))) (some ((false, 2, ((encE (e :: es)).drop 0).take ((es.length + 1) * 2)), next, data, none, ()))
  | .bad c next data => some ((true, 0, []), 0, [], some (c, 0), ())

def F52 (next : Int) (data : List UInt8) : Option ((Bool × Nat × List V) × Int × List UInt8 × Err × Unit) := gd (Nat.ble data.length 1000000) (raw52 (chain 9 [] next data))

theorem F52_ev : ∀ a, evTop Try.prog ⟨[d69, d90], [], fun _ _ => keep52, [loop52]⟩ 6 52 (CodL.val (CodL.cons (Cod.int .i64) (CodL.cons Cod.str CodL.nil)) a) (fun v => Cod.dec (Cod.tup (CodL.cons Cod.isl (CodL.cons (Cod.int .i64) (CodL.cons Cod.str (CodL.cons (Cod.err faultT) CodL.nil))))) v some) = (fun a => F52 a.1 a.2.1) a := by
  intro a; kernel_rfl

noncomputable def d52 : Ctr Try.prog := Ctr.ofF 52 (CodL.cons (Cod.int .i64) (CodL.cons Cod.str CodL.nil)) (Cod.tup (CodL.cons Cod.isl (CodL.cons (Cod.int .i64) (CodL.cons Cod.str (CodL.cons (Cod.err faultT) CodL.nil))))) (fun a => F52 a.1 a.2.1)
  (pcalls_of_ev (C := ⟨[d69, d90], [], fun _ _ => keep52, [loop52]⟩) (d := 6) mix (loopsOk_of (by
    have h : loopsOf (bodyIn Try.prog 52) = [loopAt Try.prog 52 1] := by kernel_rfl
    intro b hb q hq _ _
    rw [h] at hb
    rw [List.mem_singleton.1 hb, List.mem_singleton.1 hq]
    rfl)) F52_ev)

def slOf (es : List Ext1) : Bool × Nat × List V := match es with
  | [] => (true, 0, [])
  | e :: es => (false, 2, encE (e :: es))

def res52 (r : ChR) : (Bool × Nat × List V) × Int × List UInt8 × Err × Unit :=
  match r with
  | .ok es next data => (slOf es, next, data, none, ())
  | .bad c next data => ((true, 0, []), 0, [], some (c, 0), ())

theorem F52_spec {next : Int} {data : List UInt8} (h : data.length ≤ 1000000) : F52 next data = some (res52 (chain 9 [] next data)) := by
  unfold F52
  rw [gd_true (Nat.ble_eq_true_of_le h)]
  cases chain 9 [] next data with
  | bad c n d => rfl
  | ok es n d => cases es with
    | nil => rfl
    | cons e es =>
      have e1 : ((encE (e :: es)).drop 0).take ((es.length + 1) * 2) = encE (e :: es) := encE_take (e :: es)
      unfold raw52
      simp only
      rw [e1, encE_pure, gd_true (by
        rw [Bool.and_true, Bool.and_eq_true]
        exact ⟨rfl, Nat.ble_eq_true_of_le (by rw [encE_len]; simp)⟩)]
      rfl
end Go.Rx.L15F
