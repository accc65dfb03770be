/- FaultBeginsSix returns true whatever it is handed. No condition. -/
import Derived.Test.YteahnnchfegknaaP21
import Derived.Test.YteahnnchfegknaaRxSl
import Derived.Test.YteahnnchfegknaaL15b
import Derived.Test.YteahnnchfegknaaRxRow
import Derived.Test.YteahnnchfegknaaRows
import Derived.WalkKit
import Derived.ProofKit
import Derived.OpenShut
import Derived.JoinedCond
set_option linter.unusedVariables false
set_option linter.unusedSimpArgs false
set_option maxRecDepth 1000000
namespace Go.Proofs.Yteahnnchfegknaa.faultBeginsSix
open Go.ChangeShapes Go.WideShapes Go.ChangeAt Go.RowKit

theorem own : ownKnob Try.prog.godebug = none := by kernel_rfl
theorem laidOut : laidOutB Try.prog = true := by kernel_rfl

theorem calls (p : Rx.L15F.Ip6) (nil : Bool) (es : List Rx.L15F.Ext1) (cut : Int) (a b : Rx.L15F.V4) (q r : Int) (he : p.Exts = (nil, 2, Rx.L15F.encE es)) (hn : nil = true → es = []) (hs : ∀ e ∈ es, e.2.length ≤ 9223372036854775807) (hcut : 0 ≤ cut ∧ cut ≤ 65535) :
    Rx.PCalls Try.prog 7 [.agg (Rx.L15F.lIp6.val p), .int .u16 cut, .agg (Rx.L15F.lV4.val a), .agg (Rx.L15F.lV4.val b), .int .u16 q, .int .u16 r] (.bool true) :=
  Rx.pcalls_of_ev Rx.L15F.mix Rx.noLoops Rx.L15F.F7_ev (p, cut, a, b, q, r, ()) true (Rx.L15F.F7_true he hn hs hcut)

theorem glue {E : Rx.Env} {a b : List Rx.V} {C : List Value} {o n : Nat} (h : Rx.V.relL E a ((C.drop o).take n)) (h' : Rx.V.relL E b (C.drop (o + n))) : Rx.V.relL E (a ++ b) (C.drop o) := by
  have := Rx.relL_append h h'
  rwa [← List.drop_drop, List.take_append_drop] at this

section
variable {W : World} {H : Type} {enc : TypeId × Value → H} {base : Nat} {sp : Nat → Bool} {held : Bool} {r : Reach} {b0 : Nat} {v : Value} {x : DataW H} {ps : List MemPlace}

theorem wf_u8 {n : Int} (h : (Lit.int .u8 n).wf = true) : 0 ≤ n ∧ n ≤ 255 := by
  simp only [Lit.wf, Bool.and_eq_true, decide_eq_true_eq] at h
  exact h
theorem wf_u32 {n : Int} (h : (Lit.int .u32 n).wf = true) : 0 ≤ n ∧ n < 4294967296 := by
  simp only [Lit.wf, Bool.and_eq_true, decide_eq_true_eq] at h
  have h2 : n ≤ 4294967295 := h.2
  exact ⟨h.1, by omega⟩

theorem flat_int {d : Nat} {t : TypeId} {k : IntKind} {l : List Rx.V} (ht : Try.prog.underlying t = some (.int k)) (h : Rx.Flat Try.prog (d + 1) t l) : ∃ n, l = [.int k n] ∧ (Lit.int k n).wf = true := by
  unfold Rx.Flat at h
  rw [ht] at h
  exact h
theorem flat_str {d : Nat} {t : TypeId} {l : List Rx.V} (ht : Try.prog.underlying t = some .string) (h : Rx.Flat Try.prog (d + 1) t l) : ∃ s, l = [.str s] := by
  unfold Rx.Flat at h
  rw [ht] at h
  obtain ⟨n, h, _⟩ := h
  exact ⟨n, h⟩


theorem flat_bool {d : Nat} {t : TypeId} {l : List Rx.V} (ht : Try.prog.underlying t = some .bool) (h : Rx.Flat Try.prog (d + 1) t l) : ∃ b, l = [.bool b] := by
  unfold Rx.Flat at h
  rw [ht] at h
  exact h
theorem flat_text {d : Nat} {t : TypeId} {l : List Rx.V} (ht : Try.prog.underlying t = some .string) (h : Rx.Flat Try.prog (d + 1) t l) : ∃ s : List UInt8, l = [.str s] ∧ s.length ≤ maxLen := by
  unfold Rx.Flat at h
  rw [ht] at h
  exact h
theorem flat_v6 {d : Nat} {l : List Rx.V} (h : Rx.Flat Try.prog (d + 2) 42 l) : ∃ a : Rx.L15F.V6, l = Rx.L15F.lV6.val a := by
  obtain ⟨ns, g1, rfl, g2⟩ := Rx.flat_ints Try.underlying42 Try.underlying5 h
  match ns, g1 with
  | [a0, a1, a2, a3, a4, a5, a6, a7, a8, a9, a10, a11, a12, a13, a14, a15], _ => exact ⟨⟨a0, a1, a2, a3, a4, a5, a6, a7, a8, a9, a10, a11, a12, a13, a14, a15⟩, rfl⟩
theorem flat_ext {d : Nat} {l : List Rx.V} (h : Rx.Flat Try.prog (d + 5) 116 l) : ∃ e : Rx.L15F.Ext1, l = [.int .i64 e.1, .str e.2] ∧ e.2.length ≤ maxLen := by
  unfold Rx.Flat at h
  rw [Try.underlying116] at h
  simp only [Rx.FlatF] at h
  obtain ⟨a0, l0, rfl, f0, a1, l1, rfl, f1, rfl⟩ := h
  obtain ⟨n0, rfl, _⟩ := flat_int Try.underlying3 f0
  obtain ⟨s, rfl, hs⟩ := flat_text Try.underlying9 f1
  exact ⟨(n0, s), rfl, hs⟩

theorem exts_of {c : List Value} {o : Nat} : ∀ (len : Nat), (∀ k, k < len → ∃ l, ((c.drop (o + k * 2)).take 2).length = 2 ∧ (∀ E, Rx.V.relL E l ((c.drop (o + k * 2)).take 2)) ∧ Rx.Flat Try.prog 8 116 l) →
    ∃ es : List Rx.L15F.Ext1, es.length = len ∧ (∀ e ∈ es, e.2.length ≤ maxLen) ∧ ∀ E, Rx.V.relL E (Rx.L15F.encE es) ((c.drop o).take (len * 2))
  | 0, _ => ⟨[], rfl, fun e he => (by cases he), fun E => by simp [Rx.L15F.encE, Rx.V.relL]⟩
  | n + 1, h => by
    obtain ⟨es, h1, h2, h3⟩ := exts_of n fun k hk => h k (by omega)
    obtain ⟨l, g1, g2, g3⟩ := h n (by omega)
    obtain ⟨e, rfl, he⟩ := flat_ext g3
    refine ⟨es ++ [e], by simp [h1], fun x hx => ?_, fun E => ?_⟩
    · rcases List.mem_append.1 hx with hx | hx
      · exact h2 x hx
      · rw [List.mem_singleton.1 hx]; exact he
    · rw [Rx.L15F.encE_append]
      have := Rx.relL_append (h3 E) (g2 E)
      rw [← List.drop_drop] at this
      rw [show (n + 1) * 2 = n * 2 + 2 by omega, List.take_add]
      exact this

theorem fld {C : List Value} {fuel t n off : Nat} {y : DataW H × List MemPlace} (hl : Rx.layB Try.prog 8 t = true) (hc : Try.prog.cellsOf t = n) (e : DataW.trod enc Try.prog W base sp held fuel t ((C.drop off).take (Try.prog.cellsOf t)) = some y) :
    ∃ l, (∀ E, Rx.V.relL E l ((C.drop off).take n)) ∧ Rx.Flat Try.prog 8 t l := by
  obtain ⟨_, l, h1, h2⟩ := Rx.flat_ok 8 fuel t _ y hl e
  rw [hc] at h1
  exact ⟨l, h1, h2⟩

theorem v4_of (hval : Value.okWide Try.prog W r b0 23 v) (h : DataW.Trod enc Try.prog W base sp held 23 v x ps) : ∃ a : Rx.L15F.V4, ∀ E, Rx.V.rel E (.agg (Rx.L15F.lV4.val a)) v := by
  obtain ⟨l, h1, h2⟩ := Rx.arg_agg (t := 23) 8 (by kernel_rfl) (by kernel_rfl) hval h
  obtain ⟨ns, g1, rfl, g2⟩ := Rx.flat_ints Try.underlying23 Try.underlying5 h2
  match ns, g1, g2 with
  | [a0, a1, a2, a3], _, g2 => exact ⟨⟨a0, a1, a2, a3⟩, h1⟩

set_option maxHeartbeats 0 in
theorem ip6_of (hval : Value.okWide Try.prog W r b0 52 v) (h : DataW.Trod enc Try.prog W base sp held 52 v x ps) :
    ∃ (p : Rx.L15F.Ip6) (nil : Bool) (es : List Rx.L15F.Ext1) (E : Rx.Env), p.Exts = (nil, 2, Rx.L15F.encE es) ∧ (nil = true → es = []) ∧ (∀ e ∈ es, e.2.length ≤ maxLen) ∧ Rx.MemRel E W.heap.size [] W ∧ Rx.V.rel E (.agg (Rx.L15F.lIp6.val p)) v := by
  obtain ⟨fuel, h⟩ := h
  unfold Value.okWide at hval
  rw [Try.underlying52] at hval
  obtain ⟨cs, rfl, hsz, ts, hts, _, hrow⟩ := hval
  cases fuel with
  | zero => simp [DataW.trod] at h
  | succ fuel =>
    unfold DataW.trod at h
    rw [Try.underlying52] at h
    split at h <;> first
      | cases h; done
      | (rename_i e1; cases e1; done)
      | (exfalso; simp_all; done)
      | skip
    rename_i fs' e1
    cases e1
    split at h
    · rename_i hn
      rw [Option.map_eq_some_iff] at h
      obtain ⟨ys, h1, _⟩ := h
      obtain ⟨y0, _, e0, h1⟩ := Rx.mapM_cons_some h1
      obtain ⟨y1, _, e1, h1⟩ := Rx.mapM_cons_some h1
      obtain ⟨y2, _, e2, h1⟩ := Rx.mapM_cons_some h1
      obtain ⟨y3, _, e3, h1⟩ := Rx.mapM_cons_some h1
      obtain ⟨y4, _, e4, h1⟩ := Rx.mapM_cons_some h1
      obtain ⟨y5, _, e5, h1⟩ := Rx.mapM_cons_some h1
      obtain ⟨y6, _, e6, h1⟩ := Rx.mapM_cons_some h1
      obtain ⟨y7, _, e7, h1⟩ := Rx.mapM_cons_some h1
      obtain ⟨y8, _, e8, h1⟩ := Rx.mapM_cons_some h1
      obtain ⟨y9, _, e9, h1⟩ := Rx.mapM_cons_some h1
      obtain ⟨y10, _, e10, h1⟩ := Rx.mapM_cons_some h1
      obtain ⟨y11, _, e11, h1⟩ := Rx.mapM_cons_some h1
      obtain ⟨l0, r0, f0⟩ := fld (t := 3) (n := 1) (off := 0) (C := cs.toList) (by kernel_rfl) (by kernel_rfl) e0
      obtain ⟨l1, r1, f1⟩ := fld (t := 3) (n := 1) (off := 1) (C := cs.toList) (by kernel_rfl) (by kernel_rfl) e1
      obtain ⟨l2, r2, f2⟩ := fld (t := 3) (n := 1) (off := 2) (C := cs.toList) (by kernel_rfl) (by kernel_rfl) e2
      obtain ⟨l3, r3, f3⟩ := fld (t := 42) (n := 16) (off := 3) (C := cs.toList) (by kernel_rfl) (by kernel_rfl) e3
      obtain ⟨l4, r4, f4⟩ := fld (t := 42) (n := 16) (off := 19) (C := cs.toList) (by kernel_rfl) (by kernel_rfl) e4
      obtain ⟨l6, r6, f6⟩ := fld (t := 4) (n := 1) (off := 36) (C := cs.toList) (by kernel_rfl) (by kernel_rfl) e6
      obtain ⟨l7, r7, f7⟩ := fld (t := 31) (n := 1) (off := 37) (C := cs.toList) (by kernel_rfl) (by kernel_rfl) e7
      obtain ⟨l8, r8, f8⟩ := fld (t := 3) (n := 1) (off := 38) (C := cs.toList) (by kernel_rfl) (by kernel_rfl) e8
      obtain ⟨l9, r9, f9⟩ := fld (t := 4) (n := 1) (off := 39) (C := cs.toList) (by kernel_rfl) (by kernel_rfl) e9
      obtain ⟨l10, r10, f10⟩ := fld (t := 3) (n := 1) (off := 40) (C := cs.toList) (by kernel_rfl) (by kernel_rfl) e10
      obtain ⟨l11, r11, f11⟩ := fld (t := 9) (n := 1) (off := 41) (C := cs.toList) (by kernel_rfl) (by kernel_rfl) e11
      obtain ⟨n0, rfl, _⟩ := flat_int Try.underlying3 f0
      obtain ⟨n1, rfl, _⟩ := flat_int Try.underlying3 f1
      obtain ⟨n2, rfl, _⟩ := flat_int Try.underlying3 f2
      obtain ⟨a3, rfl⟩ := flat_v6 f3
      obtain ⟨a4, rfl⟩ := flat_v6 f4
      obtain ⟨b6, rfl⟩ := flat_bool Try.underlying4 f6
      obtain ⟨n7, rfl, _⟩ := flat_int Try.underlying31 f7
      obtain ⟨n8, rfl, _⟩ := flat_int Try.underlying3 f8
      obtain ⟨b9, rfl⟩ := flat_bool Try.underlying4 f9
      obtain ⟨n10, rfl, _⟩ := flat_int Try.underlying3 f10
      obtain ⟨s11, rfl⟩ := flat_str Try.underlying9 f11
      have hc42 : cs.toList.length = 42 := by
        rw [Array.length_toList, hsz]; kernel_rfl
      have hv35 : (cs.toList.drop 35).take 1 = [cs.toList[35]'(by omega)] := by
        rw [List.drop_eq_getElem_cons (by omega)]; rfl
      have hg35 : cs[35]? = some (cs.toList[35]'(by omega)) := by
        rw [← Array.getElem?_toList, List.getElem?_eq_getElem]
      generalize cs.toList[35]'(by omega) = v5 at hv35 hg35
      obtain ⟨u, hu, hok⟩ := hrow 35 v5 hg35
      have hts' : Try.prog.cellTypes Try.prog.depth 52 = some [3, 3, 3, 5, 5, 5, 5, 5, 5, 5, 5, 5, 5, 5, 5, 5, 5, 5, 5, 5, 5, 5, 5, 5, 5, 5, 5, 5, 5, 5, 5, 5, 5, 5, 5, 50, 4, 31, 3, 4, 3, 9] := by kernel_rfl
      rw [hts'] at hts
      cases hts
      cases hu
      have hnil : ∀ (E : Rx.Env), Rx.V.relL E [] (cs.toList.drop 42) := fun E => by
        rw [List.drop_eq_nil_of_le (by omega)]; simp [Rx.V.relL]
      have asm : ∀ (E : Rx.Env) (x5 : Rx.V) , Rx.V.rel E x5 v5 → Rx.V.relL E ([.int .i64 n0] ++ ([.int .i64 n1] ++ ([.int .i64 n2] ++ (Rx.L15F.lV6.val a3 ++ (Rx.L15F.lV6.val a4 ++ ([x5] ++ ([.bool b6] ++ ([.int .u32 n7] ++ ([.int .i64 n8] ++ ([.bool b9] ++ ([.int .i64 n10] ++ ([.str s11] ++ [])))))))))))) (cs.toList.drop 0) := by
        intro E x5 h5
        have r5 : Rx.V.relL E [x5] ((cs.toList.drop 35).take 1) := by rw [hv35]; simp only [Rx.V.relL]; exact ⟨h5, trivial⟩
        exact glue (n := 1) (r0 E) (glue (n := 1) (r1 E) (glue (n := 1) (r2 E) (glue (n := 16) (r3 E) (glue (n := 16) (r4 E) (glue (n := 1) r5 (glue (n := 1) (r6 E) (glue (n := 1) (r7 E) (glue (n := 1) (r8 E) (glue (n := 1) (r9 E) (glue (n := 1) (r10 E) (glue (n := 1) (r11 E) (hnil E))))))))))))
      rcases Rx.slice_cells (t := 50) (e := 116) (n := 2) (d := 8) (v := v5) Try.underlying50 (by kernel_rfl) (by decide) (by kernel_rfl) hv35 hok e5 with hv | ⟨a, o, len, cap, c, tt, fz, hv, hlc, hblk, hel⟩
      · refine ⟨{ Class := n0, Flow := n1, Hop := n2, From := a3, To := a4, Exts := (true, 2, []), Frag := b6, Id := n7, At := n8, More := b9, Proto := n10, Data := s11 }, true, [], ⟨fun _ => none, fun _ => none, fun _ => 0⟩, rfl, fun _ => rfl, fun e he => (by cases he), Rx.MemRel.start W, ?_⟩
        have := asm ⟨fun _ => none, fun _ => none, fun _ => 0⟩ (.isl true 2 []) (by simp only [Rx.V.rel]; exact .inl ⟨trivial, trivial, hv⟩)
        simp only [Rx.V.rel]
        exact ⟨cs, rfl, this⟩
      · obtain ⟨es, g1, g2, g3⟩ := exts_of len hel
        refine ⟨{ Class := n0, Flow := n1, Hop := n2, From := a3, To := a4, Exts := (false, 2, Rx.L15F.encE es), Frag := b6, Id := n7, At := n8, More := b9, Proto := n10, Data := s11 }, false, es, Rx.envOf a c.toList, rfl, fun h => (by cases h), g2, Rx.memRel_of hblk, ?_⟩
        have := asm (Rx.envOf a c.toList) (.isl false 2 (Rx.L15F.encE es)) (by
          simp only [Rx.V.rel]
          refine .inr ⟨trivial, by decide, a, o, c.toList, cap, len, ?_, hv, hlc, by rw [Rx.L15F.encE_len, g1], Rx.L15F.encE_pure es, ?_⟩
          · simp [Rx.envOf]
          · rw [Rx.L15F.encE_len, g1]; exact g3 _)
        simp only [Rx.V.rel]
        exact ⟨cs, rfl, this⟩
    · cases h
end

theorem lifted (os : Os) (started : os.Started) (H : Type) (enc : TypeId × Value → H) :
    ReturnsInHanded {} Try.checked os 7 .any (Rows.faultBeginsSixSpec.pre6 enc Try.prog Try.f7 Rows.faultBeginsSixRow.domain false) (Rows.faultBeginsSixSpec.post enc Try.prog Try.f7 false true false false) := by
  refine returnsInHanded_of_change (C := Try.checked) own started (by kernel_rfl) Try.func7
    (ChangeSpec.witness6 (enc := enc) (C := Try.checked) false ⟨#[], #[.agg #[.int .i64 0, .int .i64 0, .int .i64 0, .int .u8 0, .int .u8 0, .int .u8 0, .int .u8 0, .int .u8 0, .int .u8 0, .int .u8 0, .int .u8 0, .int .u8 0, .int .u8 0, .int .u8 0, .int .u8 0, .int .u8 0, .int .u8 0, .int .u8 0, .int .u8 0, .int .u8 0, .int .u8 0, .int .u8 0, .int .u8 0, .int .u8 0, .int .u8 0, .int .u8 0, .int .u8 0, .int .u8 0, .int .u8 0, .int .u8 0, .int .u8 0, .int .u8 0, .int .u8 0, .int .u8 0, .int .u8 0, .slice none 0 0, .bool false, .int .u32 0, .int .i64 0, .bool false, .int .i64 0, .string "".toUTF8], .int .u16 0, .agg (Array.replicate 4 (.int .u8 0)), .agg (Array.replicate 4 (.int .u8 0)), .int .u16 0, .int .u16 0], []⟩ 8 (by kernel_rfl) (by kernel_rfl) (by kernel_rfl) (by kernel_rfl)) ?_
  intro W base args ds gs before hval0 hW _ _
  have hval : ∀ (j : Nat) t v, Try.f7.params[j]? = some t → args[j]? = some v → Value.okWide Try.prog W .any base t v := hval0
  have hW' := hW
  obtain ⟨p, q, hA0, hV, rfl, hfz, hnd⟩ := hW
  have hA : DataW.TrodAll enc Try.prog W 0 (fun _ => true) true Try.f7.params.toList args.toList ds p := hA0
  rw [Try.params7] at hA hval
  obtain ⟨v0, l0, d0, e0, p0, q0, h0, rfl, rfl, t0, hA⟩ := trodAll_cons hA
  obtain ⟨v1, l1, d1, e1, p1, q1, rfl, rfl, rfl, t1, hA⟩ := trodAll_cons hA
  obtain ⟨v2, l2, d2, e2, p2, q2, rfl, rfl, rfl, t2, hA⟩ := trodAll_cons hA
  obtain ⟨v3, l3, d3, e3, p3, q3, rfl, rfl, rfl, t3, hA⟩ := trodAll_cons hA
  obtain ⟨v4, l4, d4, e4, p4, q4, rfl, rfl, rfl, t4, hA⟩ := trodAll_cons hA
  obtain ⟨v5, l5, d5, e5, p5, q5, rfl, rfl, rfl, t5, hA⟩ := trodAll_cons hA
  obtain ⟨rfl, rfl, rfl⟩ := trodAll_nil hA
  obtain rfl : args = #[v0, v1, v2, v3, v4, v5] := by cases args; simp_all
  obtain ⟨m, nil, es, E, hm1, hm2, hm3, hmem, hm4⟩ := ip6_of (hval 0 52 v0 rfl rfl) t0
  obtain ⟨cut, rfl, rfl, rfl, hcut⟩ := open_int Try.underlying40 (hval 1 40 v1 rfl rfl) t1
  obtain ⟨a, ha⟩ := v4_of (hval 2 23 v2 rfl rfl) t2
  obtain ⟨b, hb⟩ := v4_of (hval 3 23 v3 rfl rfl) t3
  obtain ⟨x4, rfl, rfl, rfl, _⟩ := open_int Try.underlying40 (hval 4 40 v4 rfl rfl) t4
  obtain ⟨x5, rfl, rfl, rfl, _⟩ := open_int Try.underlying40 (hval 5 40 v5 rfl rfl) t5
  have hcut' : 0 ≤ cut ∧ cut ≤ 65535 := by
    simp only [Lit.wf, Bool.and_eq_true, decide_eq_true_eq] at hcut
    exact hcut
  have key : Calls Try.prog 7 #[v0, .int .u16 cut, v2, v3, .int .u16 x4, .int .u16 x5] W fun e W' => ∃ v, e = .returned v ∧ Rows.faultBeginsSixSpec.post enc Try.prog Try.f7 false true false false W #[v0, .int .u16 cut, v2, v3, .int .u16 x4, .int .u16 x5] v W' := ?_
  · exact key
  refine Rx.law_contract laidOut (fun t ht => ?_) rfl Try.underlying4 rfl (fun ds' hd => ?_) hW' ?_
  · rw [Try.params7] at ht
    simp only [List.mem_cons, List.not_mem_nil, or_false] at ht
    rcases ht with rfl | rfl | rfl | rfl | rfl | rfl <;> exact ⟨by kernel_rfl, of_decide_eq_true (by kernel_rfl)⟩
  · rw [show Try.f7.params.size = 6 from rfl] at hd
    match ds', hd with
    | [_, _, _, _, _, _], _ => rfl
  · refine (calls m nil es cut a b x4 x5 hm1 hm2 hm3 hcut' E W #[v0, .int .u16 cut, v2, v3, .int .u16 x4, .int .u16 x5] hmem ?_).mono fun e W' he => ?_
    · simp only [Rx.V.relL]
      exact ⟨hm4, by simp only [Rx.V.rel], ha _, hb _, by simp only [Rx.V.rel], by simp only [Rx.V.rel], trivial⟩
    · obtain ⟨x, E', rfl, hx, _, hg⟩ := he
      simp only [Rx.V.rel] at hx
      subst hx
      exact ⟨rfl, hg.below⟩

theorem proved : Rows.FaultBeginsSixSaid :=
  OpenClaim.holds_of_wide 7 Try.f7 rfl rfl rfl rfl rfl rfl rfl ⟨rfl, rfl, rfl, rfl, rfl⟩ rfl rfl rfl rfl rfl (by kernel_rfl) Try.func7 (by kernel_rfl)
    (of_decide_eq_true (by kernel_rfl)) (by unfold Func.isWrapper; first | (rw [if_pos (by decide +kernel)]; kernel_rfl) | (rw [if_neg (by decide +kernel)]; exact ⟨rfl, rfl⟩))
    (fun os started H enc _ => lifted os started H enc)
end Go.Proofs.Yteahnnchfegknaa.faultBeginsSix
