/- FaultBeginsSix's plain law: it returns true. -/
import Derived.Test.YteahnnchfegknaaP20
set_option linter.unusedVariables false
set_option linter.unusedSimpArgs false
namespace Go.Rx.L15F
open Go.Rx

theorem cut6_all {q : Ip6} {D : List UInt8} (h : q.Data = D) : cut6 q D.length = q := by
  subst h
  unfold cut6
  rw [List.take_length]

theorem F7_true {p : Ip6} {cut from_ to_ : Int} {a b : V4} {nil : Bool} {es : List Ext1} (he : p.Exts = (nil, 2, encE es)) (hn : nil = true → es = []) (hs : ∀ e ∈ es, e.2.length ≤ 9223372036854775807) (hcut : 0 ≤ cut ∧ cut ≤ 65535) :
    F7 p cut a b from_ to_ = some true := by
  unfold F7
  have hex : p.Exts.2.1 = 2 := by rw [he]
  have hg : ∀ {R : Type} (k : Option R), gd (p.Exts.snd.fst.beq 2 || p.Exts.fst) k = k := fun k => gd_true (by rw [hex]; rfl) k
  have hlen : p.Exts.2.2.length / 2 = es.length := by rw [he]; show (encE es).length / 2 = _; rw [encE_len]; omega
  rw [hg, hlen, ltI_eq, ltI_eq, ltI_eq]
  by_cases c0 : 70000 < p.Data.length
  · rw [decide_eq_true (by omega), cond_true]; rfl
  rw [decide_eq_false (by omega), cond_false]
  by_cases c1 : 20 < es.length
  · rw [decide_eq_true (by omega), cond_true]; rfl
  rw [decide_eq_false (by omega), cond_false]
  by_cases c2 : p.Data.length < 8
  · rw [decide_eq_true (by omega)]; rfl
  rw [decide_eq_false (by omega), Option.bind_some, cond_false, hg]
  have heta : ({ Class := p.Class, Flow := p.Flow, Hop := p.Hop, From := { b0 := p.From.b0, b1 := p.From.b1, b2 := p.From.b2, b3 := p.From.b3, b4 := p.From.b4, b5 := p.From.b5, b6 := p.From.b6, b7 := p.From.b7, b8 := p.From.b8, b9 := p.From.b9, b10 := p.From.b10, b11 := p.From.b11, b12 := p.From.b12, b13 := p.From.b13, b14 := p.From.b14, b15 := p.From.b15 }, To := { b0 := p.To.b0, b1 := p.To.b1, b2 := p.To.b2, b3 := p.To.b3, b4 := p.To.b4, b5 := p.To.b5, b6 := p.To.b6, b7 := p.To.b7, b8 := p.To.b8, b9 := p.To.b9, b10 := p.To.b10, b11 := p.To.b11, b12 := p.To.b12, b13 := p.To.b13, b14 := p.To.b14, b15 := p.To.b15 }, Exts := (p.Exts.fst, 2, p.Exts.snd.snd), Frag := p.Frag, Id := p.Id, At := p.At, More := p.More, Proto := p.Proto, Data := p.Data } : Ip6) = p := by
    rw [← hex]
  rw [heta]
  have hok : okExts p = some es := okExts_with he (by omega) hn
  obtain ⟨w, hw⟩ := why59_tot p es
  have h59 : F59 p = some w := by unfold F59; rw [hok, Option.bind_some, hw]
  have h23 : F23 p = bif !(w == 0) then some ([], w, ()) else if es.length ≤ 8 then bytes23 p es else none := by
    unfold F23; rw [hok, Option.bind_some, h59, Option.bind_some]
  rw [h23]
  by_cases cw : w = 0
  rotate_left
  · rw [show (w == 0) = false by rw [beq_dec, decide_eq_false cw], Bool.not_false, cond_true, Option.bind_some]
    simp only
    rw [show (w == 0) = false by rw [beq_dec, decide_eq_false cw], Bool.not_false, cond_true]
  subst cw
  have hr := why59_ok (by omega) (by omega) hs hw
  rw [show (!((0 : Int) == 0)) = false from rfl, cond_false, if_pos hr.few, bytes23_ok hr (by omega), Option.bind_some]
  obtain ⟨q, q1, q2, q3, q4, q5⟩ := in6_all hr (by omega)
  have hSlen : (all6 p es).length = 40 + (back6 p es).length + p.Data.length := by
    show (head23b p _ _ ++ (back6 p es ++ p.Data)).length = _
    rw [List.length_append, List.length_append, head23b_len]; omega
  have hB : (back6 p es).length ≤ 70000 := by
    have h1 := extsB_len es (fin6 p)
    have hall := hr.all
    unfold back6 fragB
    rw [List.length_append]
    split at hall
    · rename_i hf; rw [if_pos hf]; simp [p2, p4]; omega
    · rename_i hf; rw [if_neg hf]; simp; omega
  generalize hS : all6 p es = S at *
  have full : in6 S = (q, (p.Data.length : Int), none, ()) := by
    have := q5 p.Data.length (by omega) (Nat.le_refl _)
    rw [List.take_of_length_le (by omega), cut6_all q1] at this
    exact this
  have w1 : IntKind.i64.wrap ((p.Data.length : Int) - 7) = ((p.Data.length - 7 : Nat) : Int) := by rw [wrap_i64 (by omega) (by omega)]; omega
  have w5 : IntKind.i64.wrap cut = cut := wrap_i64 (by omega) (by omega)
  rw [w1, w5]
  obtain ⟨cn, rfl⟩ := Int.eq_ofNat_of_zero_le hcut.1
  have w6 : (cn : Int).tmod ((p.Data.length - 7 : Nat) : Int) = ((cn % (p.Data.length - 7) : Nat) : Int) := by
    rw [Int.tmod_eq_emod_of_nonneg (by omega)]; norm_cast
  rw [w6]
  have hcl : cn % (p.Data.length - 7) < p.Data.length - 7 := Nat.mod_lt _ (by omega)
  generalize hcd : cn % (p.Data.length - 7) = c at *
  have w7 : IntKind.i64.wrap (8 + (c : Int)) = ((8 + c : Nat) : Int) := by rw [wrap_i64 (by omega) (by omega)]; omega
  rw [w7]
  have w8 : IntKind.i64.wrap (IntKind.i64.wrap ((S.length : Int) - (p.Data.length : Int)) + ((8 + c : Nat) : Int)) = ((40 + (back6 p es).length + (8 + c) : Nat) : Int) := by
    rw [wrap_i64 (n := (S.length : Int) - (p.Data.length : Int)) (by omega) (by omega), wrap_i64 (by omega) (by omega)]; omega
  rw [show (!((0 : Int) == 0)) = false from rfl, cond_false]
  simp only [w8]
  rw [gd_true (by rw [Bool.not_eq_true', decide_eq_false_iff_not]; omega)]
  rw [F18_spec (by omega), Option.bind_some, full]
  simp only [errK]
  have hqx : ∀ {R : Type} (k : Option R), gd (q.Exts.snd.fst.beq 2 || q.Exts.fst) k = k := fun k => gd_true (by rw [q2]; rfl) k
  rw [hqx, gd_ord (by omega), Int.toNat_natCast, sub_ns (by omega), F18_spec (by rw [List.length_take]; omega), Option.bind_some, q5 (8 + c) (by omega) (by omega)]
  simp only
  have hcx : (cut6 q (8 + c)).Exts = q.Exts := rfl
  have hcd1 : (cut6 q (8 + c)).Data = p.Data.take (8 + c) := by show q.Data.take (8 + c) = _; rw [q1]
  have hcdl : (p.Data.take (8 + c)).length = 8 + c := by rw [List.length_take]; omega
  rw [hcx, hqx, hcd1, hcdl, q1, show (((p.Data.length : Nat) : Int) == ((p.Data.length : Nat) : Int)) = true from beq_self_eq_true _, Bool.not_true, cond_false, cond_false,
    show ((((8 + c : Nat) : Int)) == ((8 + c : Nat) : Int)) = true from beq_self_eq_true _, Bool.not_true, cond_false, show (p.Data == p.Data) = true from beq_self_eq_true _, Bool.not_true, cond_false,
    gd_ord (by omega), Int.toNat_natCast, sub_ns (by omega), show (p.Data.take (8 + c) == p.Data.take (8 + c)) = true from beq_self_eq_true _, Bool.not_true, Option.bind_some, cond_false]
  have hq2 : q.Exts.2.1 = 2 := by rw [q2]; rfl
  have eta1 : ({ Class := q.Class, Flow := q.Flow, Hop := q.Hop, From := q.From, To := q.To, Exts := (q.Exts.fst, 2, q.Exts.snd.snd), Frag := q.Frag, Id := q.Id, At := q.At, More := q.More, Proto := q.Proto, Data := p.Data } : Ip6) = q := by
    rw [← q1, ← hq2]
  have eta2 : ({ Class := (cut6 q (8 + c)).Class, Flow := (cut6 q (8 + c)).Flow, Hop := (cut6 q (8 + c)).Hop, From := (cut6 q (8 + c)).From, To := (cut6 q (8 + c)).To, Exts := (q.Exts.fst, 2, q.Exts.snd.snd), Frag := (cut6 q (8 + c)).Frag, Id := (cut6 q (8 + c)).Id, At := (cut6 q (8 + c)).At, More := (cut6 q (8 + c)).More, Proto := (cut6 q (8 + c)).Proto, Data := List.take (8 + c) p.Data } : Ip6) = cut6 q (8 + c) := by
    rw [← q1, ← hq2]; rfl
  rw [eta1, eta2]
  generalize hx : ({ Addr := a, Port := IntKind.i64.wrap from_ } : T4) = x
  generalize hy : ({ Addr := b, Port := IntKind.i64.wrap to_ } : T4) = y
  have hDl : q.Data.length = p.Data.length := by rw [q1]
  have hCl : (cut6 q (8 + c)).Data.length = 8 + c := by rw [hcd1, hcdl]
  rw [F21_spec (p := q) (by omega) (by omega) hq2, Option.bind_some]
  rw [F21_spec (p := cut6 q (8 + c)) (by omega) (by omega) hq2]
  simp only [Option.bind_some]
  rcases q4_prefix (p := q) (claim := (p.Data.length : Int)) (from_ := x) (to_ := y) (m := 8 + c) (by omega) (by omega) (by omega) with ⟨ce, h1, h2⟩ | ⟨h, h0, h1, h2⟩
  · rw [h1, h2]
    simp only [List.length_nil]
    rw [ltI_f (by omega), cond_false]
    have hn : ∀ {R : Type} (k : Option R), gd (ordB 0 ((0 : Nat) : Int) 0) k = k := fun k => gd_ord (by omega) k
    rw [hn, sub_ns (by simp)]
    cases p.Proto == 6 <;> cases (((8 + c : Nat) : Int) == 17) <;> cases p.At == 0 <;> rfl
  · rw [h1, h2]
    simp only
    have hu : (h ++ turn4 (cut6 q (8 + c)) (p.Data.length : Int) x y).length = 20 + (8 + c) := by
      rw [List.length_append, turn4_len, h0, hCl]
    have ht : (h ++ turn4 q (p.Data.length : Int) x y).length = 20 + p.Data.length := by
      rw [List.length_append, turn4_len, h0, hDl]
    rw [hu, ht, ltI_f (by omega), cond_false, gd_ord (by omega), Int.toNat_natCast, sub_ns (by rw [ht]; omega)]
    have hAt : 0 ≤ p.At := hr.nums.at_.1
    have main : ¬ (p.Proto = 6 ∧ 8 + c = 17 ∧ ¬ 0 < p.At) →
        (h ++ turn4 (cut6 q (8 + c)) (p.Data.length : Int) x y == (h ++ turn4 q (p.Data.length : Int) x y).take (20 + (8 + c))) = true := by
      intro k
      rw [turn4_prefix (by omega) (by omega) (by rw [q3, q4]; exact k), List.take_append, List.take_of_length_le (l := h) (by omega), h0]
      simp
    cases p1 : p.Proto == 6 with
    | false => rw [cond_false, main (fun h => by rw [h.1] at p1; cases p1)]
    | true =>
      rw [cond_true]
      cases p2 : (((8 + c : Nat) : Int) == 17) with
      | false => rw [cond_false, main (fun h => by rw [h.2.1] at p2; cases p2)]
      | true =>
        rw [cond_true]
        cases p3 : p.At == 0 with
        | true => rfl
        | false =>
          rw [cond_false, main (fun h => by rw [beq_dec, decide_eq_false_iff_not] at p3; omega)]
end Go.Rx.L15F
