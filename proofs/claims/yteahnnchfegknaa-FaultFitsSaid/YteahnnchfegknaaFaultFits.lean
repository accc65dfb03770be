/- FaultFits returns true whatever it is handed. No condition. -/
import Derived.Test.YteahnnchfegknaaP15z
import Derived.Test.YteahnnchfegknaaL15b
import Derived.Test.YteahnnchfegknaaRxRow
import Derived.Test.YteahnnchfegknaaRows
import Derived.WalkKit
import Derived.ProofKit
import Derived.OpenShut
import Derived.JoinedCond
set_option linter.unusedVariables false
set_option linter.unusedSimpArgs false
set_option maxRecDepth 1000000
namespace Go.Proofs.Yteahnnchfegknaa.faultFits
open Go.ChangeShapes Go.WideShapes Go.ChangeAt Go.RowKit

theorem own : ownKnob Try.prog.godebug = none := by kernel_rfl
theorem laidOut : laidOutB Try.prog = true := by kernel_rfl

theorem calls (m : Rx.L15F.Msg) (s : List UInt8) (a : Rx.L15F.V4) (x : Rx.L15F.V6) (p q r : Int) (hr : 0 ≤ m.Rest ∧ m.Rest < 4294967296) (ha : a.fit) (hx : x.fit) :
    Rx.PCalls Try.prog 8 [.agg (Rx.L15F.lMsg.val m), .str s, .agg (Rx.L15F.lV4.val a), .agg (Rx.L15F.lV6.val x), .int .i64 p, .int .i64 q, .int .i64 r] (.bool true) :=
  Rx.pcalls_of_ev Rx.L15F.mix Rx.noLoops Rx.L15F.F8_ev (m, s, a, x, p, q, r, ()) true (Rx.L15F.F8_true hr ha hx)

section
variable {W : World} {H : Type} {enc : TypeId × Value → H} {base : Nat} {sp : Nat → Bool} {held : Bool} {r : Reach} {b0 : Nat} {v : Value} {x : DataW H} {ps : List MemPlace}

theorem wf_u8 {n : Int} (h : (Lit.int .u8 n).wf = true) : 0 ≤ n ∧ n ≤ 255 := by
  simp only [Lit.wf, Bool.and_eq_true, decide_eq_true_eq] at h
  exact h
theorem wf_u32 {n : Int} (h : (Lit.int .u32 n).wf = true) : 0 ≤ n ∧ n < 4294967296 := by
  simp only [Lit.wf, Bool.and_eq_true, decide_eq_true_eq] at h
  have h2 : n ≤ 4294967295 := h.2
  exact ⟨h.1, by omega⟩

theorem flat_int {d : Nat} {t : TypeId} {k : IntKind} {l : List Rx.V} (ht : Try.prog.underlying t = some (.int k)) (h : Rx.Flat Try.prog (d + 1) t l) : ∃ n, l = [.int k n] ∧ (Lit.int k n).wf = true := by
  unfold Rx.Flat at h
  rw [ht] at h
  exact h
theorem flat_str {d : Nat} {t : TypeId} {l : List Rx.V} (ht : Try.prog.underlying t = some .string) (h : Rx.Flat Try.prog (d + 1) t l) : ∃ s, l = [.str s] := by
  unfold Rx.Flat at h
  rw [ht] at h
  obtain ⟨n, h, _⟩ := h
  exact ⟨n, h⟩

theorem msg_of (hval : Value.okWide Try.prog W r b0 33 v) (h : DataW.Trod enc Try.prog W base sp held 33 v x ps) : ∃ a : Rx.L15F.Msg, (0 ≤ a.Rest ∧ a.Rest < 4294967296) ∧ ∀ E, Rx.V.rel E (.agg (Rx.L15F.lMsg.val a)) v := by
  obtain ⟨l, h1, h2⟩ := Rx.arg_agg (t := 33) 8 (by kernel_rfl) (by kernel_rfl) hval h
  unfold Rx.Flat at h2
  rw [Try.underlying33] at h2
  simp only [Rx.FlatF] at h2
  obtain ⟨a0, l0, rfl, f0, a1, l1, rfl, f1, a2, l2, rfl, f2, a3, l3, rfl, f3, rfl⟩ := h2
  obtain ⟨n0, rfl, _⟩ := flat_int Try.underlying3 f0
  obtain ⟨n1, rfl, _⟩ := flat_int Try.underlying3 f1
  obtain ⟨n2, rfl, hn2⟩ := flat_int Try.underlying31 f2
  obtain ⟨s, rfl⟩ := flat_str Try.underlying9 f3
  exact ⟨⟨n0, n1, n2, s⟩, wf_u32 hn2, h1⟩

theorem v6_of (hval : Value.okWide Try.prog W r b0 42 v) (h : DataW.Trod enc Try.prog W base sp held 42 v x ps) : ∃ a : Rx.L15F.V6, a.fit ∧ ∀ E, Rx.V.rel E (.agg (Rx.L15F.lV6.val a)) v := by
  obtain ⟨l, h1, h2⟩ := Rx.arg_agg (t := 42) 8 (by kernel_rfl) (by kernel_rfl) hval h
  obtain ⟨ns, g1, rfl, g2⟩ := Rx.flat_ints Try.underlying42 Try.underlying5 h2
  match ns, g1, g2 with
  | [a0, a1, a2, a3, a4, a5, a6, a7, a8, a9, a10, a11, a12, a13, a14, a15], _, g2 =>
    have w : ∀ x ∈ [a0, a1, a2, a3, a4, a5, a6, a7, a8, a9, a10, a11, a12, a13, a14, a15], 0 ≤ x ∧ x ≤ 255 := fun x hx => wf_u8 (g2 x hx)
    simp only [List.mem_cons, List.not_mem_nil, or_false, forall_eq_or_imp, forall_eq] at w
    exact ⟨⟨a0, a1, a2, a3, a4, a5, a6, a7, a8, a9, a10, a11, a12, a13, a14, a15⟩, w, h1⟩

theorem v4_of (hval : Value.okWide Try.prog W r b0 23 v) (h : DataW.Trod enc Try.prog W base sp held 23 v x ps) : ∃ a : Rx.L15F.V4, a.fit ∧ ∀ E, Rx.V.rel E (.agg (Rx.L15F.lV4.val a)) v := by
  obtain ⟨l, h1, h2⟩ := Rx.arg_agg (t := 23) 8 (by kernel_rfl) (by kernel_rfl) hval h
  obtain ⟨ns, g1, rfl, g2⟩ := Rx.flat_ints Try.underlying23 Try.underlying5 h2
  match ns, g1, g2 with
  | [a0, a1, a2, a3], _, g2 =>
    have w : ∀ x ∈ [a0, a1, a2, a3], 0 ≤ x ∧ x ≤ 255 := fun x hx => wf_u8 (g2 x hx)
    simp only [List.mem_cons, List.not_mem_nil, or_false, forall_eq_or_imp, forall_eq] at w
    exact ⟨⟨a0, a1, a2, a3⟩, w, h1⟩
end

theorem lifted (os : Os) (started : os.Started) (H : Type) (enc : TypeId × Value → H) :
    ReturnsInHanded {} Try.checked os 8 .any (Rows.faultFitsSpec.pre6 enc Try.prog Try.f8 Rows.faultFitsRow.domain false) (Rows.faultFitsSpec.post enc Try.prog Try.f8 false true false false) := by
  refine returnsInHanded_of_change (C := Try.checked) own started (by kernel_rfl) Try.func8
    (ChangeSpec.witness6 (enc := enc) (C := Try.checked) false ⟨#[], #[.agg #[.int .i64 0, .int .i64 0, .int .u32 0, .string "".toUTF8], .string "".toUTF8, .agg (Array.replicate 4 (.int .u8 0)), .agg (Array.replicate 16 (.int .u8 0)), .int .i64 0, .int .i64 0, .int .i64 0], []⟩ 8 (by kernel_rfl) (by kernel_rfl) (by kernel_rfl) (by kernel_rfl)) ?_
  intro W base args ds gs before hval0 hW _ _
  have hval : ∀ (j : Nat) t v, Try.f8.params[j]? = some t → args[j]? = some v → Value.okWide Try.prog W .any base t v := hval0
  have hW' := hW
  obtain ⟨p, q, hA0, hV, rfl, hfz, hnd⟩ := hW
  have hA : DataW.TrodAll enc Try.prog W 0 (fun _ => true) true Try.f8.params.toList args.toList ds p := hA0
  rw [Try.params8] at hA hval
  obtain ⟨v0, l0, d0, e0, p0, q0, h0, rfl, rfl, t0, hA⟩ := trodAll_cons hA
  obtain ⟨v1, l1, d1, e1, p1, q1, rfl, rfl, rfl, t1, hA⟩ := trodAll_cons hA
  obtain ⟨v2, l2, d2, e2, p2, q2, rfl, rfl, rfl, t2, hA⟩ := trodAll_cons hA
  obtain ⟨v3, l3, d3, e3, p3, q3, rfl, rfl, rfl, t3, hA⟩ := trodAll_cons hA
  obtain ⟨v4, l4, d4, e4, p4, q4, rfl, rfl, rfl, t4, hA⟩ := trodAll_cons hA
  obtain ⟨v5, l5, d5, e5, p5, q5, rfl, rfl, rfl, t5, hA⟩ := trodAll_cons hA
  obtain ⟨v6, l6, d6, e6, p6, q6, rfl, rfl, rfl, t6, hA⟩ := trodAll_cons hA
  obtain ⟨rfl, rfl, rfl⟩ := trodAll_nil hA
  obtain rfl : args = #[v0, v1, v2, v3, v4, v5, v6] := by cases args; simp_all
  obtain ⟨m, hr, hm1⟩ := msg_of (hval 0 33 v0 rfl rfl) t0
  obtain ⟨s, rfl, rfl, rfl, _⟩ := Go.ChangeMaps.open_string Try.underlying9 (hval 1 9 v1 rfl rfl) t1
  obtain ⟨a, ha1, ha⟩ := v4_of (hval 2 23 v2 rfl rfl) t2
  obtain ⟨b, hb1, hb⟩ := v6_of (hval 3 42 v3 rfl rfl) t3
  obtain ⟨x4, rfl, rfl, rfl, _⟩ := open_int Try.underlying3 (hval 4 3 v4 rfl rfl) t4
  obtain ⟨x5, rfl, rfl, rfl, _⟩ := open_int Try.underlying3 (hval 5 3 v5 rfl rfl) t5
  obtain ⟨x6, rfl, rfl, rfl, _⟩ := open_int Try.underlying3 (hval 6 3 v6 rfl rfl) t6
  have key : Calls Try.prog 8 #[v0, .string s, v2, v3, .int .i64 x4, .int .i64 x5, .int .i64 x6] W fun e W' => ∃ v, e = .returned v ∧ Rows.faultFitsSpec.post enc Try.prog Try.f8 false true false false W #[v0, .string s, v2, v3, .int .i64 x4, .int .i64 x5, .int .i64 x6] v W' := ?_
  · exact key
  refine Rx.law_contract laidOut (fun t ht => ?_) rfl Try.underlying4 rfl (fun ds' hd => ?_) hW' ?_
  · rw [Try.params8] at ht
    simp only [List.mem_cons, List.not_mem_nil, or_false] at ht
    rcases ht with rfl | rfl | rfl | rfl | rfl | rfl | rfl <;> exact ⟨by kernel_rfl, of_decide_eq_true (by kernel_rfl)⟩
  · rw [show Try.f8.params.size = 7 from rfl] at hd
    match ds', hd with
    | [_, _, _, _, _, _, _], _ => rfl
  · have hm : Rx.MemRel ⟨fun _ => none, fun _ => none, fun _ => 0⟩ W.heap.size [] W := Rx.MemRel.start W
    refine (calls m s.data.toList a b x4 x5 x6 hr ha1 hb1 _ W #[v0, .string s, v2, v3, .int .i64 x4, .int .i64 x5, .int .i64 x6] hm ?_).mono fun e W' he => ?_
    · simp only [Rx.V.relL]
      exact ⟨hm1 _, by simp only [Rx.V.rel], ha _, hb _, by simp only [Rx.V.rel], by simp only [Rx.V.rel], by simp only [Rx.V.rel], trivial⟩
    · obtain ⟨x, E', rfl, hx, _, hg⟩ := he
      simp only [Rx.V.rel] at hx
      subst hx
      exact ⟨rfl, hg.below⟩

theorem proved : Rows.FaultFitsSaid :=
  OpenClaim.holds_of_wide 8 Try.f8 rfl rfl rfl rfl rfl rfl rfl ⟨rfl, rfl, rfl, rfl, rfl⟩ rfl rfl rfl rfl rfl (by kernel_rfl) Try.func8 (by kernel_rfl)
    (of_decide_eq_true (by kernel_rfl)) (by unfold Func.isWrapper; first | (rw [if_pos (by decide +kernel)]; kernel_rfl) | (rw [if_neg (by decide +kernel)]; exact ⟨rfl, rfl⟩))
    (fun os started H enc _ => lifted os started H enc)
end Go.Proofs.Yteahnnchfegknaa.faultFits
