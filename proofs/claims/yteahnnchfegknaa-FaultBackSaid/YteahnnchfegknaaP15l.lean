/- Plain laws of interpreterlaw15's functions: FaultBack. -/
import Derived.Test.YteahnnchfegknaaP15k
set_option linter.unusedVariables false
set_option linter.unusedSimpArgs false
namespace Go.Rx.L15F
open Go.Rx

theorem list_beq {a b : List UInt8} (h : a = b) : (a == b) = true := by rw [h]; exact beq_self_eq_true b

theorem F22_same {a : List UInt8} (k : Int) : F22 a a k = some true := by
  unfold F22; rw [list_beq rfl]; rfl

theorem F22_like {a b : List UInt8} {k : Nat} (ha : a.length ≤ 1000000) (h : likeAt k a b) : F22 a b k = some true := by
  rcases h with rfl | ⟨h1, h2, rfl⟩
  · exact F22_same k
  have hk : (a.take k).length = k := by rw [List.length_take]; omega
  have hlen : (a.take k ++ be2 0 ++ a.drop (k + 2)).length = a.length := by simp [be2_len]; omega
  have hbt : two (a.take k ++ be2 0 ++ a.drop (k + 2)) k = 0 := by
    have := two_be2 (a.take k) (a.drop (k + 2)) 0 (by omega)
    rwa [hk] at this
  have ht : (a.take k ++ be2 0 ++ a.drop (k + 2)).take k = a.take k := by
    rw [List.append_assoc, List.take_append_of_le_length (by omega), List.take_take]; congr 1; omega
  have hd : (a.take k ++ be2 0 ++ a.drop (k + 2)).drop (k + 2) = a.drop (k + 2) := by
    rw [List.drop_append, List.drop_eq_nil_of_le (by simp [be2_len]; omega), List.nil_append, List.length_append, hk, be2_len, Nat.sub_self, List.drop_zero]
  have d2 := take2_be2 (a.take k ++ be2 0 ++ a.drop (k + 2)) k (by omega)
  rw [hbt] at d2
  generalize a.take k ++ be2 0 ++ a.drop (k + 2) = b at *
  have d1 := take2_be2 a k h1
  rw [h2] at d1
  unfold F22
  cases a == b with
  | true => rfl
  | false =>
    rw [cond_false, leI_eq, decide_eq_true (by omega), cond_true, hlen, show ((a.length : Int) == (a.length : Int)) = true from beq_self_eq_true _, cond_true, wrap_i64 (n := (k : Int) + 2) (by omega) (by omega), leI_eq,
      decide_eq_true (by omega), cond_true, gd_ord (by omega), gd_ord (by omega), gd_ord (by omega), gd_ord (by omega), gd_ord (by omega), gd_ord (by omega)]
    rw [show ((k : Int) + 2).toNat = k + 2 by omega, Int.toNat_natCast, sub_ss (by omega), sub_ss (by omega), sub_ns (by omega), sub_ns (by omega), sub_sn, sub_sn, show k + 2 - k = 2 by omega, d1, d2, ht, hd]
    rw [list_beq (show be2 65535 = [255, 255] from rfl), list_beq (show be2 0 = [0, 0] from rfl), cond_true, cond_true, list_beq rfl, cond_true, list_beq rfl]

theorem proto4_6 {x : Int} (h : (proto6 x).2 = true) : proto4 (proto6 x).1 = (x, true) := by
  unfold proto6 at h ⊢
  split at h
  · rename_i k; rw [if_pos k, k]; rfl
  · rename_i k
    rw [if_neg k]
    split at h
    · cases h
    · rename_i k2
      rw [if_neg k2]
      unfold proto4
      rw [if_neg (by omega), if_neg (by omega)]

/-- The last part of the law. -/
theorem back_tail {s : List UInt8} (hs : s.length ≤ 70000) (hg : Good4 s) {x y : T6} {q : Ip6} {c e : T4} {at_ : Int} {p : Ip4} {claim : Int} (hp : p = ip4of s) (hcl : claim = two s 2 - hl s) (h6 : (proto6 p.Proto).2 = true) (hO : Over p claim x y (turn6 p claim x y) q)
    (hc : c.Addr = p.From) (he : e.Addr = p.To) (hcp : 0 ≤ c.Port ∧ c.Port ≤ 65535) (hep : 0 ≤ e.Port ∧ e.Port ≤ 65535) (hlike : F22 p.Data (turn4 q claim c e) at_ = some true) :
    ((F21 { Class := q.Class, Flow := q.Flow, Hop := q.Hop, From := q.From, To := q.To, Exts := (q.Exts.fst, 2, q.Exts.snd.snd), Frag := q.Frag, Id := q.Id, At := q.At, More := q.More, Proto := q.Proto, Data := q.Data } claim c e).bind fun q11 =>
      errK q11.snd.fst ((F13 q11.fst).bind fun q12 =>
        errK q12.snd.snd.fst (
          bif q12.snd.fst == claim then
            (F22 p.Data q12.fst.Data at_).bind fun q13 =>
            bif q13 then
              bif q12.fst.From.b0 == p.From.b0 && (q12.fst.From.b1 == p.From.b1 && (q12.fst.From.b2 == p.From.b2 && (q12.fst.From.b3 == p.From.b3 && true))) then
                bif q12.fst.To.b0 == p.To.b0 && (q12.fst.To.b1 == p.To.b1 && (q12.fst.To.b2 == p.To.b2 && (q12.fst.To.b3 == p.To.b3 && true))) then
                  bif q12.fst.Tos == p.Tos then
                    bif q12.fst.Ttl == p.Ttl then
                      bif q12.fst.Proto == p.Proto then
                        bif q12.fst.At == p.At then some (q12.fst.More == p.More) else some false
                      else some false
                    else some false
                  else some false
                else some false
              else some false
            else some false
          else some false) fun c13 p13 => some false) fun c12 p12 =>
        bif ltI (IntKind.i64.wrap (65515 - p.At)) claim then some true else bif p.Proto == 58 then some true else some (p.Proto == 0)) = some true := by
  have hdl := data4_len s
  have hle := hl_le s
  have hr := two_range s 2
  have hr6 := two_range s 6
  have g3 := hg.all
  have g4 := hg.enough
  have g5 := hg.low
  have hD : p.Data.length = (data4 s).length := by rw [hp]; rfl
  have hAt : p.At = two s 6 % 8192 * 8 := by rw [hp]; rfl
  have hTos : p.Tos = bt s 1 := by rw [hp]; rfl
  have hTtl : p.Ttl = bt s 8 := by rw [hp]; rfl
  have r1 := bt_range s 1
  have r8 := bt_range s 8
  have ht6 := turn6_len (p := p) (claim := claim) (from_ := x) (to_ := y)
  have hqd : q.Data.length = p.Data.length := by rw [hO.data, ht6]
  have hqe : ({ Class := q.Class, Flow := q.Flow, Hop := q.Hop, From := q.From, To := q.To, Exts := (q.Exts.fst, 2, q.Exts.snd.snd), Frag := q.Frag, Id := q.Id, At := q.At, More := q.More, Proto := q.Proto, Data := q.Data } : Ip6) = q := by
    have := hO.exts
    rw [← this]
  rw [hqe, F21_spec (p := q) (by omega) (by omega) hO.exts, Option.bind_some]
  have hfit : fit4 q claim c e := by
    refine ⟨by rw [hO.cls]; omega, by rw [hO.hop]; omega, hcp, hep, by rw [hO.place]; omega, ?_, by omega⟩
    rw [hO.place, Int.tmod_eq_emod_of_nonneg (by omega)]; omega
  have hp4 : proto4 q.Proto = (p.Proto, true) := by rw [hO.proto]; exact proto4_6 h6
  unfold q4
  rw [if_neg (not_not_intro hfit), hp4, if_neg (show ¬ (true = false) by decide), hO.place]
  by_cases hlong : 65515 - p.At < claim
  · rw [if_pos hlong]
    simp only [errK]
    rw [wrap_i64 (by omega) (by omega), ltI_t hlong]; rfl
  rw [if_neg hlong]
  simp only [errK]
  have ht4 := turn4_len (p := q) (claim := claim) (from_ := c) (to_ := e)
  have hfl : 0 ≤ flags4 q claim ∧ flags4 q claim < 32768 ∧ flags4 q claim % 8192 = p.At / 8 ∧ (flags4 q claim / 8192 % 2 = 1 ↔ p.More = true) := by
    unfold flags4
    rw [hO.place, hO.more]
    cases hmo : p.More <;> by_cases k : q.Frag = false ∧ 1240 < claim <;> simp [k] <;> omega
  obtain ⟨r, hr4, hB⟩ := in4_head4 (q := q) (claim := claim) (id := if q.Frag = true then q.Id % 65536 else 0) (a := flags4 q claim) (c := c) (e := e) (D := turn4 q claim c e) (by omega) (by rw [hO.cls]; omega) (by rw [hO.hop]; omega)
    ⟨hfl.1, hfl.2.1⟩ (by rw [hfl.2.2.1]; omega) (by omega) (by omega)
  have hhl := head4_len q claim (if q.Frag = true then q.Id % 65536 else 0) (flags4 q claim) c e
  rw [F13_spec (by rw [List.length_append, hhl]; omega), Option.bind_some, hr4]
  simp only [errK]
  rw [show (claim == claim) = true from beq_self_eq_true _, cond_true, hB.data, hlike, Option.bind_some, cond_true]
  have hfr : ∀ z : Int, (z == z) = true := fun z => beq_self_eq_true z
  have c0 := bt_range s 12; have c1 := bt_range s 13; have c2 := bt_range s 14; have c3 := bt_range s 15
  have d0 := bt_range s 16; have d1 := bt_range s 17; have d2 := bt_range s 18; have d3 := bt_range s 19
  have eF : r.From = p.From := by
    rw [hB.src, hc, hp]
    show (⟨_, _, _, _⟩ : V4) = (⟨bt s 12, bt s 13, bt s 14, bt s 15⟩ : V4)
    congr 1
    · exact byte_back c0
    · exact byte_back c1
    · exact byte_back c2
    · exact byte_back c3
  have eT : r.To = p.To := by
    rw [hB.dst, he, hp]
    show (⟨_, _, _, _⟩ : V4) = (⟨bt s 16, bt s 17, bt s 18, bt s 19⟩ : V4)
    congr 1
    · exact byte_back d0
    · exact byte_back d1
    · exact byte_back d2
    · exact byte_back d3
  rw [eF, eT, hB.tos, hB.ttl, hB.proto, hB.place, hB.more, hO.cls, hO.hop, hp4, hfl.2.2.1, show p.At / 8 * 8 = p.At by omega]
  simp only [hfr, Bool.and_self, cond_true]
  cases hmo : p.More with
  | true => rw [decide_eq_true (hfl.2.2.2.2 hmo)]; rfl
  | false => rw [decide_eq_false (fun h => by have := hfl.2.2.2.1 h; rw [hmo] at this; cases this)]; rfl

theorem F6_true {s : List UInt8} {from_ to_ : Int} {a b : V6} : F6 s a b from_ to_ = some true := by
  unfold F6
  rw [ltI_eq]
  by_cases c0 : 70000 < s.length
  · rw [decide_eq_true (by omega), cond_true]
  rw [decide_eq_false (by omega), cond_false, F13_spec (by omega), Option.bind_some]
  rcases in4_cases s with hg | ⟨c, hg⟩
  rotate_left
  · rw [hg]; rfl
  rw [in4_good hg]
  have hdl := data4_len s
  have hle := hl_le s
  have hr := two_range s 2
  have hr6 := two_range s 6
  have g3 := hg.all
  have g4 := hg.enough
  generalize hp : ip4of s = p
  generalize hcl : two s 2 - (hl s : Int) = claim
  have hD : p.Data.length = (data4 s).length := by rw [← hp]; rfl
  have hAt : p.At = two s 6 % 8192 * 8 := by rw [← hp]; rfl
  simp only [errK]
  have e1 : (bif p.Proto == 1 then bif leI 8 (p.Data.length : Int) then gd (inB 0 p.Data.length) <| bif bt p.Data 0 == 128 then some true else gd (inB 0 p.Data.length) <| some (bt p.Data 0 == 129) else some false else some false) =
      some (decide (p.Proto = 1 ∧ 8 ≤ p.Data.length ∧ (bt p.Data 0 = 128 ∨ bt p.Data 0 = 129))) := by
    rw [beq_dec]
    by_cases k1 : p.Proto = 1
    · rw [decide_eq_true k1, cond_true, leI_eq]
      by_cases k2 : 8 ≤ p.Data.length
      · rw [decide_eq_true (show (8 : Int) ≤ p.Data.length by omega), cond_true, gd_in (by omega), beq_dec]
        by_cases k3 : bt p.Data 0 = 128
        · rw [decide_eq_true k3, cond_true, decide_eq_true ⟨k1, k2, .inl k3⟩]
        · rw [decide_eq_false k3, cond_false, gd_in (by omega), beq_dec]
          congr 1; rw [Bool.eq_iff_iff]; simp [k1, k2, k3]
      · rw [decide_eq_false (show ¬ (8 : Int) ≤ p.Data.length by omega), cond_false, decide_eq_false (fun h => k2 h.2.1)]
    · rw [decide_eq_false k1, cond_false, decide_eq_false (fun h => k1 h.1)]
  rw [e1, Option.bind_some]
  by_cases hno : p.Proto = 1 ∧ 8 ≤ p.Data.length ∧ (bt p.Data 0 = 128 ∨ bt p.Data 0 = 129)
  · rw [decide_eq_true hno, cond_true]
  rw [decide_eq_false hno, cond_false]
  generalize hx : ({ Addr := a, Port := IntKind.i64.wrap from_ } : T6) = x
  generalize hy : ({ Addr := b, Port := IntKind.i64.wrap to_ } : T6) = y
  rw [F16_spec (p := p) (by omega) (by omega), Option.bind_some]
  unfold q6
  by_cases hf : fit6 p claim x y
  case neg => rw [if_pos hf]
  rw [if_neg (not_not_intro hf)]
  cases h6 : (proto6 p.Proto).2 with
  | false => rw [if_pos rfl]
  | true =>
    rw [if_neg (by decide)]
    by_cases hlg : 65535 < claim ∨ (p.More = true ∨ p.At ≠ 0) ∧ 65535 < claim + 8
    · rw [if_pos hlg]
    rw [if_neg hlg]
    simp only
    have ht6 := turn6_len (p := p) (claim := claim) (from_ := x) (to_ := y)
    obtain ⟨q, hq, hO⟩ := in6_head6 (D := turn6 p claim x y) hf h6 hlg (by omega) (by omega)
    have hhl : (head6 p claim x y).length ≤ 48 := by unfold head6; split <;> simp [be1_len, be2_len, be4_len, V6.len]
    rw [F18_spec (by rw [List.length_append]; omega), Option.bind_some, hq]
    simp only
    rw [gd_true (by rw [hO.exts]; rfl), show (claim == claim) = true from beq_self_eq_true _, Bool.not_true, cond_false, hO.data, ht6, show ((p.Data.length : Int) == (p.Data.length : Int)) = true from beq_self_eq_true _, Bool.not_true, Option.bind_some, cond_false, ← hO.data]
    have hs : s.length ≤ 70000 := by omega
    have z0 : (0 : Int) ≤ 0 ∧ (0 : Int) ≤ 65535 := by omega
    have hAt0 : 0 ≤ p.At := by omega
    have like := fun (c e : T4) (hc : c.Addr = p.From) (he : e.Addr = p.To) => turn_back (p := p) (q := q) (claim := claim) (x := x) (y := y) (c := c) (e := e) h6 hAt0 hO.data hO.proto hO.place hO.src hO.dst (by rw [hc]) (by rw [he]) hno
    have port : ∀ (i : Nat) (j : Int), j = ((i + 1 : Nat) : Int) → ior IntKind.i64 (IntKind.i64.wrap (IntKind.i64.wrap (bt p.Data i) * 256)) (IntKind.i64.wrap (bt p.Data j)) = two p.Data i := by
      rintro i j rfl
      have h1 := bt_range p.Data i
      have h2 := bt_range p.Data (i + 1 : Nat)
      rw [wrap_i64 (n := bt p.Data i) (by omega) (by omega), wrap_i64 (n := bt p.Data i * 256) (by omega) (by omega), wrap_i64 (n := bt p.Data (i + 1 : Nat)) (by omega) (by omega), ior_256 (by omega) (by omega) (by omega) (by omega)]; rfl
    have p0 := port 0 1 rfl
    have p2 := port 2 3 rfl
    have p4 := port 4 5 rfl
    rw [show ((0 : Nat) : Int) = 0 from rfl] at p0
    rw [show ((2 : Nat) : Int) = 2 from rfl] at p2
    rw [show ((4 : Nat) : Int) = 4 from rfl] at p4
    have w0 := two_range p.Data 0
    have w2 := two_range p.Data 2
    have w4 := two_range p.Data 4
    have hb : (bif p.Proto == 6 then some (leI 4 (p.Data.length : Int)) else bif p.Proto == 17 then some (leI 4 (p.Data.length : Int)) else some false) = some (decide ((p.Proto = 6 ∨ p.Proto = 17) ∧ 4 ≤ p.Data.length)) := by
      rw [beq_dec, beq_dec, leI_eq]
      have e4 : decide ((4 : Int) ≤ (p.Data.length : Int)) = decide (4 ≤ p.Data.length) := by rw [Bool.eq_iff_iff]; simp; omega
      rw [e4]
      by_cases k : p.Proto = 6
      · rw [decide_eq_true k, cond_true]; congr 1; rw [Bool.eq_iff_iff]; simp [k]
      · rw [decide_eq_false k, cond_false]
        by_cases k' : p.Proto = 17
        · rw [decide_eq_true k', cond_true]; congr 1; rw [Bool.eq_iff_iff]; simp [k']
        · rw [decide_eq_false k', cond_false, decide_eq_false (fun h => h.1.elim k k')]
    rw [hb, Option.bind_some]
    by_cases k1 : (p.Proto = 6 ∨ p.Proto = 17) ∧ 4 ≤ p.Data.length
    · rw [decide_eq_true k1, cond_true, gd_in (by omega), gd_in (by omega), gd_in (by omega), gd_in (by omega), p0, p2, beq_dec]
      have hL := like ⟨p.From, two p.Data 0⟩ ⟨p.To, two p.Data 2⟩ rfl rfl (fun _ _ => ⟨rfl, rfl⟩) (fun h => by omega)
      by_cases k6 : p.Proto = 6
      · rw [decide_eq_true k6, cond_true]
        unfold likeB at hL
        rw [if_pos ⟨k6, k1.2⟩] at hL
        exact back_tail hs hg (c := ⟨p.From, two p.Data 0⟩) (e := ⟨p.To, two p.Data 2⟩) hp.symm hcl.symm h6 hO rfl rfl w0 w2 (F22_like (k := 16) (by omega) hL)
      · rw [decide_eq_false k6, cond_false]
        unfold likeB at hL
        rw [if_neg (fun h => k6 h.1), if_neg (by omega)] at hL
        exact back_tail hs hg (c := ⟨p.From, two p.Data 0⟩) (e := ⟨p.To, two p.Data 2⟩) hp.symm hcl.symm h6 hO rfl rfl w0 w2 (by rw [hL]; exact F22_same _)
    · rw [decide_eq_false k1, cond_false]
      have hb2 : (bif p.Proto == 1 then some (leI 8 (p.Data.length : Int)) else some false) = some (decide (p.Proto = 1 ∧ 8 ≤ p.Data.length)) := by
        rw [beq_dec, leI_eq]
        have e8 : decide ((8 : Int) ≤ (p.Data.length : Int)) = decide (8 ≤ p.Data.length) := by rw [Bool.eq_iff_iff]; simp; omega
        rw [e8]
        by_cases k : p.Proto = 1
        · rw [decide_eq_true k, cond_true]; congr 1; rw [Bool.eq_iff_iff]; simp [k]
        · rw [decide_eq_false k, cond_false, decide_eq_false (fun h => k h.1)]
      rw [hb2, Option.bind_some]
      by_cases k2 : p.Proto = 1 ∧ 8 ≤ p.Data.length
      · rw [decide_eq_true k2, cond_true, gd_in (by omega), gd_in (by omega), p4]
        have hL := like ⟨p.From, two p.Data 4⟩ ⟨p.To, 0⟩ rfl rfl (fun h => by omega) (fun _ _ => rfl)
        unfold likeB at hL
        rw [if_neg (by omega), if_pos k2] at hL
        exact back_tail hs hg (c := ⟨p.From, two p.Data 4⟩) (e := ⟨p.To, 0⟩) hp.symm hcl.symm h6 hO rfl rfl w4 z0 (F22_like (k := 2) (by omega) hL)
      · rw [decide_eq_false k2, cond_false]
        have hL := like ⟨p.From, 0⟩ ⟨p.To, 0⟩ rfl rfl (fun h h' => absurd ⟨h, h'⟩ k1) (fun h h' => absurd ⟨h, h'⟩ k2)
        unfold likeB at hL
        rw [if_neg (fun h => k1 ⟨.inl h.1, h.2⟩), if_neg k2] at hL
        exact back_tail hs hg (c := ⟨p.From, 0⟩) (e := ⟨p.To, 0⟩) hp.symm hcl.symm h6 hO rfl rfl z0 z0 (by rw [hL]; exact F22_same _)
end Go.Rx.L15F
