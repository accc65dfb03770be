/- Plain laws of interpreterlaw15's functions: Own6 (for FaultFits). -/
import Derived.Test.YteahnnchfegknaaP15v
set_option linter.unusedVariables false
set_option linter.unusedSimpArgs false
set_option maxHeartbeats 1000000
set_option maxRecDepth 100000
namespace Go.Rx.L15F
open Go.Rx

theorem clamp8 (x : Int) : 0 ≤ imin (imax x 0) 8 ∧ imin (imax x 0) 8 ≤ 8 := by unfold imin imax; split <;> split <;> omega
theorem clamp8' (x : Int) : 0 ≤ IntKind.i64.wrap (8 - imin (imax x 0) 8) := by have := clamp8 x; rw [wrap_i64 (by omega) (by omega)]; omega

theorem F114_post (n : Net6) : Post (F114 n) (fun _ => True) := by
  unfold F114
  refine post_bif (fun _ => post_bif (fun _ => post_bind (fun _ => True) ?_ fun q _ => post_some trivial) fun _ => post_some trivial) fun _ => post_some trivial
  iterate 16 refine post_gd (decide_eq_true (clamp8 _).1) (post_bif (fun _ => post_some trivial) fun _ => ?_)
  exact post_some trivial

theorem F97_post (n : Net6) (a : V6) : Post (F97 n a) (fun _ => True) := by
  unfold F97
  refine post_bind _ (F114_post _) fun q _ => post_bif (fun _ => post_bind (fun _ => True) ?_ fun q _ => post_some trivial) fun _ => post_some trivial
  iterate 16 refine post_gd (decide_eq_true (clamp8' _)) (post_bif (fun _ => post_some trivial) fun _ => ?_)
  exact post_some trivial

/-- What Own6 answers, if it answers: a packet that quotes k bytes. -/
structure Own6 (m : Msg) (s : List UInt8) (a : V6) (mtu : Int) (r : List UInt8) : Prop where
  kind : isErr6 m.Kind
  code : 0 ≤ m.Code ∧ m.Code < 256
  most : 1280 ≤ mtu
  is : ∃ (b : V6) (k : Nat), b.fit ∧ k ≤ s.length ∧ k ≤ 1232 ∧ r = front6 a b (msg6 (pseudo6 a b 58 (8 + (k : Int))) { m with Data := s.take k }) ++ msg6 (pseudo6 a b 58 (8 + (k : Int))) { m with Data := s.take k }

def own6 (m : Msg) (s : List UInt8) (a : V6) (mtu : Int) (r : BR) : Prop := (r.2.1 = false ∧ r.1 = []) ∨ (r.2.1 = true ∧ Own6 m s a mtu r.1)

/-- What Parse reads. -/
theorem par27_ok {s : List UInt8} {e : Ip6 × Err × Unit} (h : par27 s = e) : (∃ c, e = (none6, some (c, 0), ())) ∨ (∃ p, e = (p, none, ()) ∧ p.From.fit ∧ p.To.fit ∧ p.Exts.2.1 = 2) := by
  subst h
  unfold par27
  repeat' split
  all_goals first
    | exact .inl ⟨_, rfl⟩
    | exact .inr ⟨_, rfl, v6at_fit s 8, v6at_fit s 24, rfl⟩

/-- The whole test of what may not be answered. -/
theorem refuse6_post {m : Msg} {mtu : Int} {p : Ip6} {n0 n1 n2 n3 n4 : Net6} {a0 a1 a2 a3 a4 : V6} : Post (Option.bind (F31 m) fun q5 =>
      bif !q5 then some true else bif ltI 0 p.At then some true else
          Option.bind (
            Option.bind (F97 n0 a0) fun q6 =>
            bif q6 then some true else Option.bind (F97 n1 a1) fun q7 =>
              bif q7 then some true else Option.bind (F97 n2 a2) fun q8 =>
                bif q8 then some true else Option.bind (F97 n3 a3) fun q9 =>
                  bif q9 then some true else Option.bind (F97 n4 a4) fun q10 =>
                    bif q10 then some true else some false) fun q6 =>
          bif q6 then some true else bif ltI mtu 1280 then some true else some (ltI 65575 mtu)) (fun q => q = false → isErr6 m.Kind ∧ 1280 ≤ mtu) := by
  rw [F31_spec, Option.bind_some]
  refine post_bif (fun _ => post_some fun h => Bool.noConfusion h) fun h1 => ?_
  refine post_bif (fun _ => post_some fun h => Bool.noConfusion h) fun h2 => ?_
  refine post_bind (fun _ => True) ?_ fun q _ => post_bif (fun _ => post_some fun h => Bool.noConfusion h) fun _ => ?_
  · iterate 5 refine post_bind _ (F97_post _ _) fun q _ => post_bif (fun _ => post_some trivial) fun _ => ?_
    exact post_some trivial
  refine post_bif (fun _ => post_some fun h => Bool.noConfusion h) fun h3 => post_some fun h4 => ?_
  rw [ltI_eq] at h3 h4
  simp only [Bool.not_eq_false', decide_eq_true_eq] at h1
  exact ⟨h1, by have := of_decide_eq_false h3; omega⟩

theorem F26_post {m : Msg} {s : List UInt8} {a : V6} {mtu : Int} (hs : s.length ≤ 1000000) (hr : 0 ≤ m.Rest ∧ m.Rest < 4294967296) : Post (F26 m s a mtu) (own6 m s a mtu) := by
  unfold F26
  rw [F27_spec (by omega), Option.bind_some]
  have none_ : Post (some (([], false, ()) : BR)) (own6 m s a mtu) := post_some (.inl ⟨rfl, rfl⟩)
  generalize hp : par27 s = e
  rcases par27_ok hp with ⟨c, rfl⟩ | ⟨p, rfl, hb, hto, he⟩
  · simp only [errK]
    exact none_
  obtain ⟨n, hn1, hn2, _, hn3, hn4⟩ := par27_size hs hp
  simp only [errK]
  refine post_gd (by rw [he]; rfl) (post_bind _ refuse6_post fun q hq => post_bif (fun _ => none_) fun hqf => ?_)
  obtain ⟨hk, hm⟩ := hq hqf
  refine post_bind (fun _ => True) (post_bif (fun _ => post_some trivial) fun _ => post_some trivial) fun q _ => post_bif (fun _ => none_) fun _ => ?_
  refine post_bind (fun _ => True) ?_ fun q _ => post_bif (fun _ => none_) fun _ => ?_
  · refine post_bif (fun _ => post_bif (fun _ => post_some trivial) fun h => ?_) fun _ => post_some trivial
    refine post_gd ?_ (post_some trivial)
    have : p.Data ≠ [] := by rw [beq_eq_false_iff_ne] at h; exact h
    have := List.length_pos_iff.2 this
    exact inB_iff.2 ⟨by omega, by omega⟩
  have hF66 := hn1
  have : ({ Class := p.Class, Flow := p.Flow, Hop := p.Hop, From := p.From, To := p.To, Exts := (p.Exts.fst, 2, p.Exts.snd.snd), Frag := p.Frag, Id := p.Id, At := p.At, More := p.More, Proto := p.Proto, Data := p.Data } : Ip6) = p := by
    have : p.Exts = (p.Exts.1, 2, p.Exts.2.2) := by rw [← he]
    rw [← this]
  rw [this, hn1, Option.bind_some, gd_ord (by omega), Int.toNat_natCast, sub_ns hn2]
  obtain ⟨b, hF⟩ := F38_spec (s := s.take n) (h := IntKind.i64.wrap ((n : Int) - (p.Data.length : Int))) (n := 1232) (by rw [List.length_take]; omega)
  rw [hF, Option.bind_some]
  generalize hk0 : min (s.take n).length (1232 : Int).toNat = k
  have hkl : k ≤ s.length ∧ k ≤ n ∧ k ≤ 1232 := by
    rw [List.length_take] at hk0
    omega
  have hbe : begin_ (s.take n) 1232 = s.take k := by
    unfold begin_; rw [hk0, List.take_take, Nat.min_eq_left hkl.2.1]
  have hbl : (s.take k).length = k := by rw [List.length_take]; omega
  simp only [hbe, hbl]
  rw [wrap_i64 (n := 8 + (k : Int)) (by omega) (by omega), F29_spec (by omega) (by omega), Option.bind_some]
  have hpl := pseudo6_len a p.From 58 (8 + (k : Int))
  have hke : 0 ≤ m.Kind ∧ m.Kind < 256 := by unfold isErr6 at hk; omega
  by_cases hc : 0 ≤ m.Code ∧ m.Code < 256
  · rw [F67_spec (m := { Kind := m.Kind, Code := m.Code, Rest := m.Rest, Data := s.take k }) hpl hke hc hr (by show (s.take k).length ≤ _; omega), Option.bind_some]
    simp only
    refine post_bind (fun _ => True) (post_bif (fun _ => post_some trivial) fun _ => post_some trivial) fun q _ => post_bif (fun _ => none_) fun _ => ?_
    rw [show F90 58 = some false from rfl]
    simp only [Option.bind_some, Bool.not_false, cond_true, Bool.not_true, cond_false, V6.bytes_def]
    have hml := msg6_len (pseudo6 a p.From 58 (8 + (k : Int))) { Kind := m.Kind, Code := m.Code, Rest := m.Rest, Data := s.take k }
    simp only [hbl] at hml
    generalize hd : msg6 (pseudo6 a p.From 58 (8 + (k : Int))) { Kind := m.Kind, Code := m.Code, Rest := m.Rest, Data := s.take k } = d at hml
    rw [ltI_f (by omega), cond_false, Option.bind_some, cond_false, Option.bind_some]
    rw [show (!((0 : Int) == 0)) = false from rfl, cond_false, F99_b4 (by omega), Option.bind_some, F99_b2 (by omega), Option.bind_some, gd_cat (by simp [be4_len, be2_len]), F99_b1 (by omega), Option.bind_some, gd_cat (by simp [be4_len, be2_len, be1_len]),
      F99_b1 (by omega), Option.bind_some, gd_cat (by simp [be4_len, be2_len, be1_len]), gd_cat (by simp [be4_len, be2_len, be1_len, V6.len]), gd_cat (by simp [be4_len, be2_len, be1_len, V6.len]), gd_cat (by simp [be4_len, be2_len, be1_len, V6.len]; omega), Option.bind_some]
    refine post_some (.inr ⟨rfl, hk, hc, hm, p.From, k, hb, hkl.1, hkl.2.2, ?_⟩)
    rw [hd]; rfl
  · rw [F67_none (m := { Kind := m.Kind, Code := m.Code, Rest := m.Rest, Data := s.take k }) (fun h => hc h.2), Option.bind_some]
    simp only
    refine post_bind (fun q => q = true) (post_bif (fun _ => post_some rfl) fun _ => post_some rfl) fun q hq => ?_
    rw [hq, cond_true]; exact none_

/-- About an error there is no error. -/
theorem F26_none {m : Msg} {s : List UInt8} {a b : V6} {mtu : Int} {m2 : Msg} {A : V6} {ps : List UInt8} (hA : A.fit) (hb : b.fit) (hk : isErr6 m2.Kind) (hl : m2.Data.length ≤ 50000)
    (e : s = front6 A b (msg6 ps m2) ++ msg6 ps m2) : Post (F26 m s a mtu) (fun r => r.2.1 = false) := by
  have hml := msg6_len ps m2
  unfold F26
  rw [e, F27_spec (by rw [List.length_append, front6_len]; omega), Option.bind_some, par27_err6 hA hb (by omega)]
  simp only [errK, err6]
  refine post_gd rfl (post_bind _ (refuse6_post (p := err6 A b (msg6 ps m2))) fun q hq => post_bif (fun _ => post_some rfl) fun hqf => ?_)
  refine post_bind (fun _ => True) (post_bif (fun _ => post_some trivial) fun _ => post_some trivial) fun q _ => post_bif (fun _ => post_some rfl) fun _ => ?_
  have hb0 : bt (msg6 ps m2) 0 = m2.Kind := by
    have : bt (msg6 ps m2) 0 = ((u8 m2.Kind).toNat : Int) := rfl
    rw [this, u8_toNat]; unfold isErr6 at hk; omega
  have hne : (msg6 ps m2 == []) = false := by rw [beq_eq_false_iff_ne]; intro h; rw [h] at hml; simp at hml; omega
  rw [show ((58 : Int) == 58) = true from rfl, cond_true, hne, cond_false, gd_in (by omega), hb0, Option.bind_some, ltI_t (by unfold isErr6 at hk; omega), cond_true]
  exact post_some rfl
end Go.Rx.L15F
