/- Plain laws of interpreterlaw15's functions: Own4 (for FaultFits). -/
import Derived.Test.YteahnnchfegknaaP15s
set_option linter.unusedVariables false
set_option linter.unusedSimpArgs false
set_option maxHeartbeats 1000000
set_option maxRecDepth 100000
namespace Go.Rx.L15F
open Go.Rx

theorem F37_post (a : V4) : Post (F37 a) (fun _ => True) := by
  unfold F37
  repeat' refine post_bif (fun _ => ?_) (fun _ => ?_)
  all_goals exact post_some trivial

/-- A beginning of at most n bytes. -/
def begin_ (s : List UInt8) (n : Int) : List UInt8 := s.take (min s.length n.toNat)

theorem F38_spec {s : List UInt8} {h n : Int} (hs : s.length ≤ 1000000000) : ∃ b, F38 s h n = some (begin_ s n, b, ()) := by
  have e : imax (imin (s.length : Int) n) 0 = ((min s.length n.toNat : Nat) : Int) := by
    unfold imax imin; split <;> split <;> omega
  unfold F38
  rw [e, gd_ord (by omega), Int.toNat_natCast, sub_ns (by omega)]
  exact ⟨_, rfl⟩

theorem iand_i64_mask16 (n : Int) : 0 ≤ iand .i64 n 65535 ∧ iand .i64 n 65535 < 65536 := by
  unfold iand
  rw [BitVec.toNat_and, show (BitVec.ofInt IntKind.i64.bits 65535).toNat = 2 ^ 16 - 1 from rfl, Nat.and_two_pow_sub_one_eq_mod]
  rw [wrap_i64 (by omega) (by omega)]
  omega

/-- What Own4 answers, if it answers: a packet that quotes k bytes. -/
structure Own4 (m : Msg) (s : List UInt8) (a : V4) (mtu : Int) (r : List UInt8) : Prop where
  kind : isErr4 m.Kind
  code : 0 ≤ m.Code ∧ m.Code < 256
  is : ∃ (id : Int) (b : V4) (k : Nat), (0 ≤ id ∧ id < 65536) ∧ b.fit ∧ k ≤ s.length ∧ (k : Int) + 28 ≤ 576 ∧ (k : Int) + 28 ≤ mtu ∧ r = front4 id a b (msg4 { m with Data := s.take k }) ++ msg4 { m with Data := s.take k }

abbrev BR := List UInt8 × Bool × Unit
def own4 (m : Msg) (s : List UInt8) (a : V4) (mtu : Int) (r : BR) : Prop := (r.2.1 = false ∧ r.1 = []) ∨ (r.2.1 = true ∧ Own4 m s a mtu r.1)

theorem msg4_len (m : Msg) : (msg4 m).length = 8 + m.Data.length := by simp [msg4, be1_len, be2_len, be4_len]; omega

theorem F12_post {m : Msg} {s : List UInt8} {a : V4} {id mtu : Int} (hs : s.length ≤ 1000000) (hr : 0 ≤ m.Rest ∧ m.Rest < 4294967296) : Post (F12 m s a id mtu) (own4 m s a mtu) := by
  unfold F12
  rw [F24_spec (by omega), Option.bind_some]
  have none_ : Post (some (([], false, ()) : BR)) (own4 m s a mtu) := post_some (.inl ⟨rfl, rfl⟩)
  unfold par24
  split
  · exact none_
  split
  · exact none_
  split
  · exact none_
  split
  · exact none_
  split
  · exact none_
  split
  · exact none_
  split
  · exact none_
  rename_i c1 c2 c3 c4 c5 c6 c7
  have b0 := bt_range s
  have hO : (ip4of s).Options.length = hl s - 20 := by
    show ((s.drop 20).take (hl s - 20)).length = _
    rw [List.length_take, List.length_drop]; omega
  have hD : (ip4of s).Data.length = (two s 2).toNat - hl s := by
    show (data4 s).length = _
    unfold data4
    rw [List.length_take, List.length_drop]; omega
  have h2 := two_range s 2
  have hb : (ip4of s).From.fit := ⟨b0 12, b0 13, b0 14, b0 15⟩
  simp only [errK]
  rw [F32_spec, Option.bind_some]
  refine post_bind (fun q => q = false → isErr4 m.Kind ∧ 68 ≤ mtu ∧ mtu ≤ 65535) ?_ fun q hq => post_bif (fun _ => none_) fun hqf => ?_
  · refine post_bif (fun _ => post_some fun h => Bool.noConfusion h) fun h1 => ?_
    refine post_bif (fun _ => post_some fun h => Bool.noConfusion h) fun h2 => ?_
    refine post_bind _ (F37_post _) fun q _ => post_bif (fun _ => post_some fun h => Bool.noConfusion h) fun _ => ?_
    refine post_bif (fun _ => post_some fun h => Bool.noConfusion h) fun h3 => post_some fun h4 => ?_
    rw [ltI_eq] at h3 h4
    simp only [Bool.not_eq_false', decide_eq_true_eq] at h1
    exact ⟨h1, by have := of_decide_eq_false h3; omega, by have := of_decide_eq_false h4; omega⟩
  obtain ⟨hk, hm1, hm2⟩ := hq hqf
  refine post_bind (fun _ => True) ?_ fun q _ => post_bif (fun _ => none_) fun _ => ?_
  · refine post_bif (fun _ => post_bif (fun _ => post_some trivial) fun h => ?_) fun _ => post_some trivial
    refine post_gd ?_ ?_
    · have : (ip4of s).Data ≠ [] := by rw [beq_eq_false_iff_ne] at h; exact h
      have := List.length_pos_iff.2 this
      exact inB_iff.2 ⟨by omega, by omega⟩
    · rw [F32_spec]; exact post_some trivial
  have w1 : IntKind.i64.wrap (20 + ((ip4of s).Options.length : Int)) = (hl s : Int) := by rw [hO, wrap_i64 (by omega) (by omega)]; omega
  have w2 : IntKind.i64.wrap ((hl s : Int) + ((ip4of s).Data.length : Int)) = ((two s 2).toNat : Int) := by rw [hD, wrap_i64 (by omega) (by omega)]; omega
  rw [w1, w2, gd_ord (by omega), Int.toNat_natCast, sub_ns (by omega)]
  have w3 : IntKind.i64.wrap (IntKind.i64.wrap (imin 576 mtu - 20) - 8) = imin 576 mtu - 28 := by
    unfold imin; split <;> (rw [wrap_i64 (n := _ - 20) (by omega) (by omega), wrap_i64 (by omega) (by omega)]; omega)
  rw [w3]
  obtain ⟨b, hF⟩ := F38_spec (s := s.take (two s 2).toNat) (h := (hl s : Int)) (n := imin 576 mtu - 28) (by rw [List.length_take]; omega)
  rw [hF, Option.bind_some]
  generalize hk0 : min (s.take (two s 2).toNat).length (imin 576 mtu - 28).toNat = k
  have hkl : k ≤ s.length ∧ k ≤ (two s 2).toNat ∧ (k : Int) + 28 ≤ 576 ∧ (k : Int) + 28 ≤ mtu := by
    rw [List.length_take] at hk0
    have : imin 576 mtu ≤ 576 ∧ imin 576 mtu ≤ mtu ∧ 68 ≤ imin 576 mtu := by unfold imin; split <;> omega
    omega
  have hbe : begin_ (s.take (two s 2).toNat) (imin 576 mtu - 28) = s.take k := by
    unfold begin_; rw [hk0, List.take_take, Nat.min_eq_left hkl.2.1]
  simp only [hbe]
  have hke : 0 ≤ m.Kind ∧ m.Kind < 256 := by unfold isErr4 at hk; omega
  by_cases hc : 0 ≤ m.Code ∧ m.Code < 256
  · rw [F39_spec (m := { Kind := m.Kind, Code := m.Code, Rest := m.Rest, Data := s.take k }) hke hc hr (by show (s.take k).length ≤ _; rw [List.length_take]; omega), Option.bind_some]
    simp only
    refine post_bind (fun _ => True) (post_bif (fun _ => post_some trivial) fun _ => post_some trivial) fun q _ => post_bif (fun _ => none_) fun _ => ?_
    have hid := iand_i64_mask16 id
    have := F40_err4 (id := iand IntKind.i64 id 65535) (a := a) (b := (ip4of s).From) (d := msg4 { Kind := m.Kind, Code := m.Code, Rest := m.Rest, Data := s.take k }) hid
      (by rw [msg4_len]; show 8 + (s.take k).length ≤ _; rw [List.length_take]; omega)
    unfold err4 at this
    rw [this, Option.bind_some]
    exact post_some (.inr ⟨rfl, hk, hc, _, _, k, hid, hb, hkl.1, hkl.2.2.1, hkl.2.2.2, rfl⟩)
  · rw [F39_none (m := { Kind := m.Kind, Code := m.Code, Rest := m.Rest, Data := s.take k }) (fun h => hc h.2), Option.bind_some]
    simp only
    refine post_bind (fun q => q = true) (post_bif (fun _ => post_some rfl) fun _ => post_some rfl) fun q hq => ?_
    rw [hq, cond_true]; exact none_

/-- About an error there is no error. -/
theorem F12_none {m : Msg} {s : List UInt8} {a b : V4} {id mtu i : Int} {m2 : Msg} {A : V4} (hi : 0 ≤ i ∧ i < 65536) (hA : A.fit) (hb : b.fit) (hk : isErr4 m2.Kind) (hl : m2.Data.length ≤ 50000)
    (e : s = front4 i A b (msg4 m2) ++ msg4 m2) : Post (F12 m s a id mtu) (fun r => r.2.1 = false) := by
  have hml := msg4_len m2
  unfold F12
  rw [e, F24_spec (by rw [List.length_append, front4_len]; omega), Option.bind_some, par24_err4 hi hA hb (by omega)]
  simp only [errK, err4]
  rw [F32_spec, Option.bind_some]
  refine post_bind (fun _ => True) ?_ fun q _ => post_bif (fun _ => post_some rfl) fun hqf => ?_
  · refine post_bif (fun _ => post_some trivial) fun h1 => ?_
    refine post_bif (fun _ => post_some trivial) fun h2 => ?_
    refine post_bind _ (F37_post _) fun q _ => post_bif (fun _ => post_some trivial) fun _ => ?_
    exact post_bif (fun _ => post_some trivial) fun h3 => post_some trivial
  have hb0 : bt (msg4 m2) 0 = m2.Kind := by
    have : bt (msg4 m2) 0 = ((u8 m2.Kind).toNat : Int) := rfl
    rw [this, u8_toNat]; unfold isErr4 at hk; omega
  have hne : (msg4 m2 == []) = false := by rw [beq_eq_false_iff_ne]; intro h; rw [h] at hml; simp at hml; omega
  rw [show ((1 : Int) == 1) = true from rfl, cond_true, hne, cond_false, gd_in (by omega), hb0, F32_spec, Option.bind_some, Option.bind_some]
  rw [show (IntKind.i64.wrap m2.Kind) = m2.Kind from wrap_i64 (by unfold isErr4 at hk; omega) (by unfold isErr4 at hk; omega), decide_eq_true hk, cond_true]
  exact post_some rfl
end Go.Rx.L15F
