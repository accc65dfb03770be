/- Plain laws of interpreterlaw15's functions: FaultFits. -/
import Derived.Test.YteahnnchfegknaaP15w
set_option linter.unusedVariables false
set_option linter.unusedSimpArgs false
set_option maxHeartbeats 1000000
set_option maxRecDepth 100000
namespace Go.Rx.L15F
open Go.Rx

theorem v4_same (a : V4) : (a.b0 == a.b0 && (a.b1 == a.b1 && (a.b2 == a.b2 && (a.b3 == a.b3 && true)))) = true := by simp
theorem v6_same (a : V6) : (a.b0 == a.b0 && (a.b1 == a.b1 && (a.b2 == a.b2 && (a.b3 == a.b3 && (a.b4 == a.b4 && (a.b5 == a.b5 && (a.b6 == a.b6 && (a.b7 == a.b7 && (a.b8 == a.b8 && (a.b9 == a.b9 && (a.b10 == a.b10 && (a.b11 == a.b11 && (a.b12 == a.b12 && (a.b13 == a.b13 && (a.b14 == a.b14 && (a.b15 == a.b15 && true))))))))))))))) ) = true := by simp

/-- The half over IPv6. -/
theorem six8 {m : Msg} {s : List UInt8} {x : V6} {mtu6 : Int} {q7 : BR} (hs : s.length ≤ 70000) (hr : 0 ≤ m.Rest ∧ m.Rest < 4294967296) (hx : x.fit) (h7 : q7.2.1 = false → q7.1 = []) : Post (
      Option.bind (
        F26 ({ Kind := m.Kind, Code := m.Code, Rest := m.Rest, Data := m.Data }) (s) ({ b0 := x.b0, b1 := x.b1, b2 := x.b2, b3 := x.b3, b4 := x.b4, b5 := x.b5, b6 := x.b6, b7 := x.b7, b8 := x.b8, b9 := x.b9, b10 := x.b10, b11 := x.b11, b12 := x.b12, b13 := x.b13, b14 := x.b14, b15 := x.b15 }) (mtu6)) fun q8 =>
      bif !q8.snd.fst then
        bif q7.snd.fst then
          some (q8.fst == [])
        else
          bif q7.fst == [] then
            some (q8.fst == [])
          else
            some (false)
      else
        Option.bind (
          F27 (q8.fst)) fun q9 =>
        errK (q9.snd.fst) (
          gd (q9.fst.Exts.snd.fst.beq 2 || q9.fst.Exts.fst) <|
          Option.bind (
            F29 ({ b0 := q9.fst.From.b0, b1 := q9.fst.From.b1, b2 := q9.fst.From.b2, b3 := q9.fst.From.b3, b4 := q9.fst.From.b4, b5 := q9.fst.From.b5, b6 := q9.fst.From.b6, b7 := q9.fst.From.b7, b8 := q9.fst.From.b8, b9 := q9.fst.From.b9, b10 := q9.fst.From.b10, b11 := q9.fst.From.b11, b12 := q9.fst.From.b12, b13 := q9.fst.From.b13, b14 := q9.fst.From.b14, b15 := q9.fst.From.b15 }) ({ b0 := q9.fst.To.b0, b1 := q9.fst.To.b1, b2 := q9.fst.To.b2, b3 := q9.fst.To.b3, b4 := q9.fst.To.b4, b5 := q9.fst.To.b5, b6 := q9.fst.To.b6, b7 := q9.fst.To.b7, b8 := q9.fst.To.b8, b9 := q9.fst.To.b9, b10 := q9.fst.To.b10, b11 := q9.fst.To.b11, b12 := q9.fst.To.b12, b13 := q9.fst.To.b13, b14 := q9.fst.To.b14, b15 := q9.fst.To.b15 }) (58) ((↑q9.fst.Data.length : Int))) fun q10 =>
          Option.bind (
            F28 (q9.fst.Data) (q10)) fun q11 =>
          errK (q11.snd.fst) (
            Option.bind (
              F26 ({ Kind := m.Kind, Code := m.Code, Rest := m.Rest, Data := m.Data }) (q8.fst) ({ b0 := x.b0, b1 := x.b1, b2 := x.b2, b3 := x.b3, b4 := x.b4, b5 := x.b5, b6 := x.b6, b7 := x.b7, b8 := x.b8, b9 := x.b9, b10 := x.b10, b11 := x.b11, b12 := x.b12, b13 := x.b13, b14 := x.b14, b15 := x.b15 }) (mtu6)) fun q12 =>
            bif leI (↑q8.fst.length : Int) 1280 then
              bif leI (↑q8.fst.length : Int) mtu6 then
                bif q9.fst.From.b0 == x.b0 && (q9.fst.From.b1 == x.b1 && (q9.fst.From.b2 == x.b2 && (q9.fst.From.b3 == x.b3 && (q9.fst.From.b4 == x.b4 && (q9.fst.From.b5 == x.b5 && (q9.fst.From.b6 == x.b6 && (q9.fst.From.b7 == x.b7 && (q9.fst.From.b8 == x.b8 && (q9.fst.From.b9 == x.b9 && (q9.fst.From.b10 == x.b10 && (q9.fst.From.b11 == x.b11 && (q9.fst.From.b12 == x.b12 && (q9.fst.From.b13 == x.b13 && (q9.fst.From.b14 == x.b14 && (q9.fst.From.b15 == x.b15 && true))))))))))))))) then
                  bif q11.fst.Kind == m.Kind then
                    bif q11.fst.Code == m.Code then
                      bif q11.fst.Rest == m.Rest then
                        bif leI (↑q11.fst.Data.length : Int) (↑s.length : Int) then
                          gd (ordB 0 (↑q11.fst.Data.length : Int) s.length) <|
                          bif q11.fst.Data == sub s none (some (V.int IntKind.i64 (↑q11.fst.Data.length : Int))) 0 (↑q11.fst.Data.length : Int).toNat then
                            some (!q12.snd.fst)
                          else
                            some (false)
                        else
                          some (false)
                      else
                        some (false)
                    else
                      some (false)
                  else
                    some (false)
                else
                  some (false)
              else
                some (false)
            else
              some (false)) fun c12 p12 =>
            Option.bind (
              F26 ({ Kind := m.Kind, Code := m.Code, Rest := m.Rest, Data := m.Data }) (q8.fst) ({ b0 := x.b0, b1 := x.b1, b2 := x.b2, b3 := x.b3, b4 := x.b4, b5 := x.b5, b6 := x.b6, b7 := x.b7, b8 := x.b8, b9 := x.b9, b10 := x.b10, b11 := x.b11, b12 := x.b12, b13 := x.b13, b14 := x.b14, b15 := x.b15 }) (mtu6)) fun q14 =>
            some (false)) fun c10 p10 =>
          gd (q9.fst.Exts.snd.fst.beq 2 || q9.fst.Exts.fst) <|
          Option.bind (
            F29 ({ b0 := q9.fst.From.b0, b1 := q9.fst.From.b1, b2 := q9.fst.From.b2, b3 := q9.fst.From.b3, b4 := q9.fst.From.b4, b5 := q9.fst.From.b5, b6 := q9.fst.From.b6, b7 := q9.fst.From.b7, b8 := q9.fst.From.b8, b9 := q9.fst.From.b9, b10 := q9.fst.From.b10, b11 := q9.fst.From.b11, b12 := q9.fst.From.b12, b13 := q9.fst.From.b13, b14 := q9.fst.From.b14, b15 := q9.fst.From.b15 }) ({ b0 := q9.fst.To.b0, b1 := q9.fst.To.b1, b2 := q9.fst.To.b2, b3 := q9.fst.To.b3, b4 := q9.fst.To.b4, b5 := q9.fst.To.b5, b6 := q9.fst.To.b6, b7 := q9.fst.To.b7, b8 := q9.fst.To.b8, b9 := q9.fst.To.b9, b10 := q9.fst.To.b10, b11 := q9.fst.To.b11, b12 := q9.fst.To.b12, b13 := q9.fst.To.b13, b14 := q9.fst.To.b14, b15 := q9.fst.To.b15 }) (58) ((↑q9.fst.Data.length : Int))) fun q12 =>
          Option.bind (
            F28 (q9.fst.Data) (q12)) fun q13 =>
          errK (q13.snd.fst) (
            Option.bind (
              F26 ({ Kind := m.Kind, Code := m.Code, Rest := m.Rest, Data := m.Data }) (q8.fst) ({ b0 := x.b0, b1 := x.b1, b2 := x.b2, b3 := x.b3, b4 := x.b4, b5 := x.b5, b6 := x.b6, b7 := x.b7, b8 := x.b8, b9 := x.b9, b10 := x.b10, b11 := x.b11, b12 := x.b12, b13 := x.b13, b14 := x.b14, b15 := x.b15 }) (mtu6)) fun q14 =>
            some (false)) fun c14 p14 =>
            Option.bind (
              F26 ({ Kind := m.Kind, Code := m.Code, Rest := m.Rest, Data := m.Data }) (q8.fst) ({ b0 := x.b0, b1 := x.b1, b2 := x.b2, b3 := x.b3, b4 := x.b4, b5 := x.b5, b6 := x.b6, b7 := x.b7, b8 := x.b8, b9 := x.b9, b10 := x.b10, b11 := x.b11, b12 := x.b12, b13 := x.b13, b14 := x.b14, b15 := x.b15 }) (mtu6)) fun q16 =>
            some (false)) (fun r => r = true) := by
  refine post_bind _ (F26_post (m := m) (s := s) (a := x) (mtu := mtu6) (by omega) hr) fun r hr6 => ?_
  rcases hr6 with ⟨h1, h2⟩ | ⟨h1, hk, hc, hm, b, k, hb, hks, hk2, he⟩
  · rw [h1, h2, Bool.not_false, cond_true]
    cases h : q7.2.1 with
    | true => exact post_some rfl
    | false => rw [h7 h]; exact post_some rfl
  have hbl : (s.take k).length = k := by rw [List.length_take]; omega
  have hml := msg6_len (pseudo6 x b 58 (8 + (k : Int))) { Kind := m.Kind, Code := m.Code, Rest := m.Rest, Data := s.take k }
  simp only [hbl] at hml
  generalize hd : msg6 (pseudo6 x b 58 (8 + (k : Int))) { Kind := m.Kind, Code := m.Code, Rest := m.Rest, Data := s.take k } = d at he hml
  have hfl := front6_len x b d
  have hrl : r.1.length = 48 + k := by rw [he, List.length_append, hfl]; omega
  obtain ⟨z, hz1, hz2⟩ := F26_none (m := m) (s := r.1) (a := x) (mtu := mtu6) (m2 := { Kind := m.Kind, Code := m.Code, Rest := m.Rest, Data := s.take k }) (ps := pseudo6 x b 58 (8 + (k : Int))) hx hb hk (by show (s.take k).length ≤ _; omega) (by rw [hd]; exact he)
  have hp : par27 r.1 = (err6 x b d, none, ()) := by rw [he]; exact par27_err6 hx hb (by omega)
  have hpl := pseudo6_len x b 58 (8 + (k : Int))
  have h28 : F28 d (pseudo6 x b 58 (8 + (k : Int))) = some ({ Kind := m.Kind, Code := m.Code, Rest := m.Rest, Data := s.take k }, none, ()) := by
    rw [F28_spec (by omega) hpl, ← hd]
    have := par28_msg6 (ps := pseudo6 x b 58 (8 + (k : Int))) (m := { Kind := m.Kind, Code := m.Code, Rest := m.Rest, Data := s.take k }) (by unfold isErr6 at hk; show 0 < m.Kind ∧ m.Kind < 256; omega) hc hr
    rw [this]
  have hdl : (d.length : Int) = 8 + (k : Int) := by omega
  rw [h1, Bool.not_true, cond_false, F27_spec (by omega), Option.bind_some, hp]
  simp only [errK, err6]
  rw [gd_true (show ((exts2 []).2.1.beq 2 || (exts2 []).1) = true from rfl), F29_spec (by omega) (by omega), Option.bind_some, hdl, h28, Option.bind_some]
  simp only
  rw [hz1, Option.bind_some, v6_same, hbl, hrl, leI_eq, decide_eq_true (by omega), cond_true, leI_eq, decide_eq_true (by omega), cond_true, cond_true, beq_self_eq_true, cond_true, beq_self_eq_true, cond_true, beq_self_eq_true, cond_true, leI_eq, decide_eq_true (by omega), cond_true, gd_ord (by omega), Int.toNat_natCast, sub_ns hks, beq_self_eq_true, cond_true, hz2]
  exact post_some rfl

/-- An error of the gateway's own is a packet that fits, and there is none about it. -/
theorem F8_true {m : Msg} {s : List UInt8} {a : V4} {x : V6} {id mtu4 mtu6 : Int} (hr : 0 ≤ m.Rest ∧ m.Rest < 4294967296) (ha : a.fit) (hx : x.fit) : F8 m s a x id mtu4 mtu6 = some true := by
  suffices h : Post (F8 m s a x id mtu4 mtu6) (fun r => r = true) by
    obtain ⟨r, h1, h2⟩ := h; rw [h1, h2]
  unfold F8
  refine post_bif (fun _ => post_some rfl) fun h0 => ?_
  rw [ltI_eq] at h0
  have hs := of_decide_eq_false h0
  refine post_bind _ (F12_post (m := m) (s := s) (a := a) (id := id) (mtu := mtu4) (by omega) hr) fun r hr4 => ?_
  rcases hr4 with ⟨h1, h2⟩ | ⟨h1, hk, hc, i, b, k, hi, hb, hks, hk2, hk3, he⟩
  · rw [h1, cond_false]
    have h6 := six8 (m := m) (s := s) (x := x) (mtu6 := mtu6) (q7 := r) (by omega) hr hx fun _ => h2
    rw [h1] at h6
    exact h6
  have hbl : (s.take k).length = k := by rw [List.length_take]; omega
  have hml := msg4_len { Kind := m.Kind, Code := m.Code, Rest := m.Rest, Data := s.take k }
  simp only [hbl] at hml
  generalize hd : msg4 { Kind := m.Kind, Code := m.Code, Rest := m.Rest, Data := s.take k } = d at he hml
  have hfl := front4_len i a b d
  have hrl : r.1.length = 28 + k := by rw [he, List.length_append, hfl]; omega
  obtain ⟨z, hz1, hz2⟩ := F12_none (m := m) (s := r.1) (a := a) (id := id) (mtu := mtu4) (m2 := { Kind := m.Kind, Code := m.Code, Rest := m.Rest, Data := s.take k }) hi ha hb hk (by show (s.take k).length ≤ _; omega) (by rw [hd]; exact he)
  have hp : par24 r.1 = (err4 i a b d, none, ()) := by rw [he]; exact par24_err4 hi ha hb (by omega)
  have h25 : F25 d = some ({ Kind := m.Kind, Code := m.Code, Rest := m.Rest, Data := s.take k }, none, ()) := by
    rw [F25_spec (by omega), ← hd]
    have := par25_msg4 (m := { Kind := m.Kind, Code := m.Code, Rest := m.Rest, Data := s.take k }) (by unfold isErr4 at hk; show 0 < m.Kind ∧ m.Kind < 256; omega) hc hr
    rw [this]
  have h6 := six8 (m := m) (s := s) (x := x) (mtu6 := mtu6) (q7 := r) (by omega) hr hx fun h => by rw [h1] at h; cases h
  rw [h1, cond_true, F24_spec (by omega), Option.bind_some, hp]
  simp only [errK, err4]
  rw [h25, Option.bind_some]
  simp only
  rw [hz1, Option.bind_some, v4_same, hbl, hrl, ltI_f (by omega), cond_false, ltI_f (by omega), cond_false, Bool.not_true, cond_false, beq_self_eq_true, Bool.not_true, cond_false, beq_self_eq_true, Bool.not_true, cond_false, beq_self_eq_true, Bool.not_true, cond_false, ltI_f (by omega), cond_false, gd_ord (by omega), Int.toNat_natCast, sub_ns hks, beq_self_eq_true, Bool.not_true, cond_false, hz2, Option.bind_some, cond_false]
  rw [h1] at h6
  exact h6
end Go.Rx.L15F
