/- Plain laws of interpreterlaw15's functions: a beginning is quoted as a beginning. -/
import Derived.Test.YteahnnchfegknaaP15d
set_option linter.unusedVariables false
set_option linter.unusedSimpArgs false
namespace Go.Rx.L15F
open Go.Rx

/-- A packet with a beginning of its data. -/
def cutData (p : Ip4) (m : Nat) : Ip4 := { p with Data := p.Data.take m }

/-- What is known of a text that quotes a packet. -/
structure Good4 (s : List UInt8) : Prop where
  long : 20 ≤ s.length
  four : bt s 0 / 16 = 4
  least : 20 ≤ hl s
  there : hl s ≤ s.length
  right : fold1 (ws false false (s.take (hl s))) = 65535
  all : (hl s : Int) ≤ two s 2
  low : two s 6 < 32768
  fits : two s 6 % 8192 * 8 + two s 2 ≤ 65535
  enough : min 8 (two s 2 - hl s) ≤ ((data4 s).length : Int)

theorem in4_good {s : List UInt8} (h : Good4 s) : in4 s = (ip4of s, two s 2 - hl s, none, ()) := by
  have h1 := h.long; have h2 := h.four; have h3 := h.least; have h4 := h.there; have h5 := h.right; have h6 := h.all; have h7 := h.low; have h8 := h.fits; have h9 := h.enough
  unfold in4
  rw [if_neg (by omega), if_neg (by omega), if_neg (by omega), if_neg (by omega), if_neg (by omega), if_neg (by omega)]

theorem in4_cases (s : List UInt8) : Good4 s ∨ ∃ c, in4 s = (none4, 0, some (c, 0), ()) := by
  by_cases c1 : s.length < 20
  · exact .inr ⟨7, by unfold in4; rw [if_pos c1]⟩
  by_cases c2 : bt s 0 / 16 ≠ 4 ∨ hl s < 20
  · exact .inr ⟨8, by unfold in4; rw [if_neg c1, if_pos c2]⟩
  by_cases c3 : s.length < hl s
  · exact .inr ⟨7, by unfold in4; rw [if_neg c1, if_neg c2, if_pos c3]⟩
  by_cases c4 : fold1 (ws false false (s.take (hl s))) ≠ 65535
  · exact .inr ⟨9, by unfold in4; rw [if_neg c1, if_neg c2, if_neg c3, if_pos c4]⟩
  by_cases c5 : two s 2 < hl s ∨ two s 6 ≥ 32768 ∨ two s 6 % 8192 * 8 + two s 2 > 65535
  · exact .inr ⟨8, by unfold in4; rw [if_neg c1, if_neg c2, if_neg c3, if_neg c4, if_pos c5]⟩
  by_cases c6 : ((data4 s).length : Int) < min 8 (two s 2 - hl s)
  · exact .inr ⟨7, by unfold in4; rw [if_neg c1, if_neg c2, if_neg c3, if_neg c4, if_neg c5, if_pos c6]⟩
  · exact .inl ⟨by omega, by omega, by omega, by omega, by omega, by omega, by omega, by omega, by omega⟩

theorem data4_len (s : List UInt8) : (data4 s).length = min s.length (two s 2).toNat - hl s := by
  unfold data4
  rw [List.length_take, List.length_drop]; omega

theorem hl_take (s : List UInt8) {k : Nat} (h : 0 < k) : hl (s.take k) = hl s := by
  have := bt_take s k 0 h
  rw [show ((0 : Nat) : Int) = 0 from rfl] at this
  unfold hl; rw [this]

/-- A packet's beginning quotes the beginning of what it quotes. -/
theorem good_take {s : List UInt8} (h : Good4 s) {k : Nat} (h1 : hl s + 8 ≤ k) (h2 : k ≤ s.length) (h3 : k - hl s ≤ (data4 s).length) :
    Good4 (s.take k) ∧ ip4of (s.take k) = cutData (ip4of s) (k - hl s) ∧ two (s.take k) 2 = two s 2 := by
  have hle := h.least
  have e0 := hl_take s (k := k) (by omega)
  have b0 := bt_take s k 0 (by omega)
  have t2 := two_take s k 2 (by omega)
  have t6 := two_take s k 6 (by omega)
  have t4 := two_take s k 4 (by omega)
  rw [show ((0 : Nat) : Int) = 0 from rfl] at b0
  have hdl := data4_len s
  have hr := two_range s 2
  have hlen : (s.take k).length = k := by rw [List.length_take]; omega
  have ed : data4 (s.take k) = (data4 s).take (k - hl s) := by
    unfold data4
    rw [e0, t2, hlen, List.drop_take, List.take_take, List.take_take]
    congr 1
    omega
  have htt : (s.take k).take (hl s) = s.take (hl s) := by rw [List.take_take]; congr 1; omega
  refine ⟨⟨by omega, by rw [b0]; exact h.four, by rw [e0]; exact hle, by rw [e0]; omega, by rw [e0, htt]; exact h.right, by rw [e0, t2]; exact h.all, by rw [t6]; exact h.low, by rw [t6, t2]; exact h.fits, ?_⟩, ?_, t2⟩
  · rw [ed, t2, e0, List.length_take]; omega
  · unfold cutData ip4of
    rw [t4, t6, ed, e0]
    have b := fun (i : Nat) (hi : i < k) => bt_take s k i hi
    have b1 := b 1 (by omega); have b8 := b 8 (by omega); have b9 := b 9 (by omega)
    have c0 := b 12 (by omega); have c1 := b 13 (by omega); have c2 := b 14 (by omega); have c3 := b 15 (by omega)
    have c4 := b 16 (by omega); have c5 := b 17 (by omega); have c6 := b 18 (by omega); have c7 := b 19 (by omega)
    norm_cast at b1 b8 b9 c0 c1 c2 c3 c4 c5 c6 c7
    have eo : ((s.take k).drop 20).take (hl s - 20) = (s.drop 20).take (hl s - 20) := by
      rw [List.drop_take, List.take_take]; congr 1; omega
    simp only [b1, b8, b9, c0, c1, c2, c3, c4, c5, c6, c7, eo]

theorem update_prefix {d old new : List UInt8} {k m : Nat} {none : Bool} (hm : m ≤ d.length) (hk : m ≤ k ∨ k + 2 ≤ m) : update (d.take m) k old new none = (update d k old new none).take m := by
  have hlen : (d.take m).length = m := by rw [List.length_take]; omega
  unfold update
  rw [hlen]
  rcases hk with hk | hk
  · rw [if_pos (by omega)]
    split
    · rfl
    split
    · rfl
    · rw [List.append_assoc, List.take_append_of_le_length (by rw [List.length_take]; omega), List.take_take]
      congr 1; omega
  · rw [if_neg (show ¬ m < k + 2 by omega), if_neg (show ¬ d.length < k + 2 by omega), two_take d m k (by omega)]
    by_cases c : none = true ∧ two d k = 0
    · rw [if_pos c, if_pos c]
    · rw [if_neg c, if_neg c]
      rw [List.take_take, List.drop_take, List.take_append, List.take_append]
      have e1 : (d.take k).length = k := by rw [List.length_take]; omega
      rw [e1, List.length_append, e1, be2_len, show min k m = k by omega, List.take_take, show min m k = k by omega, List.take_of_length_le (l := be2 _) (by rw [be2_len]; omega)]

theorem ported_prefix {proto from_ to_ : Int} {d old new : List UInt8} {m : Nat} (hm : m ≤ d.length) (h8 : 8 ≤ m) (h17 : proto = 17 ∨ m ≠ 17) :
    ported proto (d.take m) old new from_ to_ = (ported proto d old new from_ to_).take m := by
  have hlen : (d.take m).length = m := by rw [List.length_take]; omega
  have e4 : (d.take m).take 4 = d.take 4 := by rw [List.take_take]; congr 1; omega
  have e : be2 from_ ++ be2 to_ ++ (d.take m).drop 4 = (be2 from_ ++ be2 to_ ++ d.drop 4).take m := by
    rw [List.drop_take, List.take_append, List.take_of_length_le (l := be2 from_ ++ be2 to_) (by simp [be2_len]; omega)]; rfl
  unfold ported
  rw [hlen, if_neg (show ¬ m < 4 by omega), if_neg (show ¬ d.length < 4 by omega), e4, e]
  by_cases c : proto = 17
  · rw [if_pos c, if_pos c]
    exact update_prefix (by simp [be2_len]; omega) (.inr (by omega))
  · rw [if_neg c, if_neg c]
    exact update_prefix (by simp [be2_len]; omega) (by omega)

theorem echoed_prefix {kind id : Int} {d old new : List UInt8} {m : Nat} (hm : m ≤ d.length) (h8 : 8 ≤ m) : echoed (d.take m) old new kind id = (echoed d old new kind id).take m := by
  have e2 : (d.take m).take 2 = d.take 2 := by rw [List.take_take]; congr 1; omega
  have e22 : ((d.take m).drop 2).take 2 = (d.drop 2).take 2 := by rw [List.drop_take, List.take_take]; congr 1; omega
  have e42 : ((d.take m).drop 4).take 2 = (d.drop 4).take 2 := by rw [List.drop_take, List.take_take]; congr 1; omega
  have e : be1 kind ++ [0] ++ (d.drop 2).take 2 ++ be2 id ++ (d.take m).drop 6 = (be1 kind ++ [0] ++ (d.drop 2).take 2 ++ be2 id ++ d.drop 6).take m := by
    have hl : (be1 kind ++ [0] ++ (d.drop 2).take 2 ++ be2 id).length = 6 := by simp [be1_len, be2_len]; omega
    rw [List.drop_take, List.take_append, List.take_of_length_le (l := be1 kind ++ [0] ++ (d.drop 2).take 2 ++ be2 id) (by omega), hl]
  unfold echoed
  rw [e2, e22, e42, e]
  exact update_prefix (by simp [be1_len, be2_len]; omega) (.inr (by omega))

theorem turn6_prefix {p : Ip4} {claim : Int} {from_ to_ : T6} {m : Nat} (hm : m ≤ p.Data.length) (h8 : 8 ≤ m) (h17 : ¬ (p.Proto = 6 ∧ m = 17 ∧ ¬ 0 < p.At)) :
    turn6 (cutData p m) claim from_ to_ = (turn6 p claim from_ to_).take m := by
  have hlen : (p.Data.take m).length = m := by rw [List.length_take]; omega
  have b0 := bt_take p.Data m 0 (by omega)
  have b1 := bt_take p.Data m 1 (by omega)
  norm_cast at b0 b1
  unfold turn6 cutData
  simp only [hlen]
  rw [b0, b1]
  by_cases c1 : 0 < p.At
  · rw [if_pos c1, if_pos c1]
  rw [if_neg c1, if_neg c1]
  by_cases c2 : p.Proto = 6 ∨ p.Proto = 17
  · rw [if_pos c2, if_pos c2]
    exact ported_prefix hm h8 (by
      rcases c2 with c | c
      · exact .inr (fun e => h17 ⟨c, e, c1⟩)
      · exact .inl c)
  rw [if_neg c2, if_neg c2]
  by_cases c3 : p.Proto = 1 ∧ 8 ≤ m ∧ (bt p.Data 0 = 8 ∨ bt p.Data 0 = 0) ∧ bt p.Data 1 = 0
  · rw [if_pos c3, if_pos (show p.Proto = 1 ∧ 8 ≤ p.Data.length ∧ (bt p.Data 0 = 8 ∨ bt p.Data 0 = 0) ∧ bt p.Data 1 = 0 from ⟨c3.1, by omega, c3.2.2⟩)]
    exact echoed_prefix hm h8
  · rw [if_neg c3, if_neg (fun h => c3 ⟨h.1, h8, h.2.2⟩)]

theorem q6_prefix {p : Ip4} {claim : Int} {from_ to_ : T6} {m : Nat} (hm : m ≤ p.Data.length) (h8 : 8 ≤ m) (hc : (p.Data.length : Int) ≤ claim) :
    ((∃ c, q6 p claim from_ to_ = ([], some (c, 0), ()) ∧ q6 (cutData p m) claim from_ to_ = ([], some (c, 0), ())) ∨
     (q6 p claim from_ to_ = (head6 p claim from_ to_ ++ turn6 p claim from_ to_, none, ()) ∧
      q6 (cutData p m) claim from_ to_ = (head6 p claim from_ to_ ++ turn6 (cutData p m) claim from_ to_, none, ()))) := by
  have hlen : (p.Data.take m).length = m := by rw [List.length_take]; omega
  have hf : fit6 (cutData p m) claim from_ to_ ↔ fit6 p claim from_ to_ := by
    unfold fit6 cutData
    simp only [hlen]
    omega
  have e1 : (cutData p m).Proto = p.Proto := rfl
  have e2 : (cutData p m).More = p.More := rfl
  have e3 : (cutData p m).At = p.At := rfl
  have e4 : head6 (cutData p m) claim from_ to_ = head6 p claim from_ to_ := rfl
  unfold q6
  rw [e1, e2, e3, e4]
  by_cases c1 : fit6 p claim from_ to_
  · rw [if_neg (not_not_intro c1), if_neg (not_not_intro (hf.2 c1))]
    by_cases c2 : (proto6 p.Proto).2 = false
    · rw [if_pos c2, if_pos c2]; exact .inl ⟨10, rfl, rfl⟩
    · rw [if_neg c2, if_neg c2]
      by_cases c3 : 65535 < claim ∨ (p.More = true ∨ p.At ≠ 0) ∧ 65535 < claim + 8
      · rw [if_pos c3, if_pos c3]; exact .inl ⟨3, rfl, rfl⟩
      · rw [if_neg c3, if_neg c3]; exact .inr ⟨rfl, rfl⟩
  · rw [if_pos c1, if_pos (fun h => c1 (hf.1 h) : ¬ fit6 (cutData p m) claim from_ to_)]; exact .inl ⟨13, rfl, rfl⟩

theorem F4_true {s : List UInt8} {cut from_ to_ : Int} {a b : V6} (hcut : 0 ≤ cut ∧ cut ≤ 65535) : F4 s cut a b from_ to_ = some true := by
  unfold F4
  rw [ltI_eq]
  by_cases c0 : 70000 < s.length
  · rw [decide_eq_true (by omega), cond_true]
  rw [decide_eq_false (by omega), cond_false, F13_spec (by omega), Option.bind_some]
  rcases in4_cases s with hg | ⟨c, hg⟩
  rotate_left
  · rw [hg]; rfl
  rw [in4_good hg]
  have hD : (ip4of s).Data.length = (data4 s).length := rfl
  have hdl := data4_len s
  have hle := hl_le s
  have hr := two_range s 2
  have g1 := hg.least
  have g2 := hg.there
  have g3 := hg.all
  have hO : (ip4of s).Options.length = hl s - 20 := by
    show ((s.drop 20).take (hl s - 20)).length = _
    rw [List.length_take, List.length_drop]; omega
  simp only [errK, V4.bytes_def, V6.bytes_def, hD, hO]
  have w1 : IntKind.i64.wrap (((data4 s).length : Int) - 8) = (data4 s).length - 8 := wrap_i64 (by omega) (by omega)
  have w2 : IntKind.i64.wrap (imax (((data4 s).length : Int) - 8) 0 + 1) = ((((data4 s).length - 8) + 1 : Nat) : Int) := by
    have : imax (((data4 s).length : Int) - 8) 0 = (((data4 s).length - 8 : Nat) : Int) := by unfold imax; split <;> omega
    rw [this, wrap_i64 (by omega) (by omega)]; omega
  have w3 : IntKind.i64.wrap (20 + ((hl s - 20 : Nat) : Int)) = hl s := by rw [wrap_i64 (by omega) (by omega)]; omega
  have w4 : IntKind.i64.wrap ((hl s : Int) + 8) = hl s + 8 := wrap_i64 (by omega) (by omega)
  have w5 : IntKind.i64.wrap cut = cut := wrap_i64 (by omega) (by omega)
  rw [w1]
  simp only [w2, w3, w4, w5]
  obtain ⟨cn, rfl⟩ := Int.eq_ofNat_of_zero_le hcut.1
  have w6 : (cn : Int).tmod ((((data4 s).length - 8) + 1 : Nat) : Int) = ((cn % (((data4 s).length - 8) + 1) : Nat) : Int) := by
    rw [Int.tmod_eq_emod_of_nonneg (by omega)]; norm_cast
  rw [w6]
  have hcl : cn % (((data4 s).length - 8) + 1) < ((data4 s).length - 8) + 1 := Nat.mod_lt _ (by omega)
  generalize hcd : cn % (((data4 s).length - 8) + 1) = c at *
  have w7 : IntKind.i64.wrap ((hl s : Int) + 8 + (c : Int)) = ((hl s + 8 + c : Nat) : Int) := by rw [wrap_i64 (by omega) (by omega)]; omega
  rw [w7]
  have w8 : IntKind.i64.wrap (((hl s + 8 + c : Nat) : Int) - hl s) = ((8 + c : Nat) : Int) := by rw [wrap_i64 (by omega) (by omega)]; omega
  simp only [w8]
  rw [gd_true (by rw [Bool.not_eq_true', decide_eq_false_iff_not]; omega)]
  rw [ltI_eq, ltI_eq]
  by_cases c1 : (data4 s).length < 8
  · rw [decide_eq_true (show (((data4 s).length : Int) < 8) by omega), cond_true, Option.bind_some, cond_true]
  rw [decide_eq_false (show ¬ (((data4 s).length : Int) < 8) by omega), cond_false, Option.bind_some]
  by_cases c2 : s.length < hl s + 8 + c
  · rw [decide_eq_true (show ((s.length : Int) < ((hl s + 8 + c : Nat) : Int)) by omega), cond_true]
  rw [decide_eq_false (show ¬ ((s.length : Int) < ((hl s + 8 + c : Nat) : Int)) by omega), cond_false, gd_ord (by omega)]
  rw [Int.toNat_natCast, sub_ns (by omega)]
  have hlk : (s.take (hl s + 8 + c)).length ≤ 1000000 := by rw [List.length_take]; omega
  rw [F13_spec hlk, Option.bind_some]
  obtain ⟨k1, k2, k3⟩ := good_take hg (k := hl s + 8 + c) (by omega) (by omega) (by omega)
  have e8 : hl s + 8 + c - hl s = 8 + c := by omega
  rw [e8] at k2
  rw [in4_good k1, k2, k3, hl_take s (by omega)]
  have hlen : ((data4 s).take (8 + c)).length = 8 + c := by rw [List.length_take]; omega
  have hcd1 : (cutData (ip4of s) (8 + c)).Data = (data4 s).take (8 + c) := rfl
  simp only [hcd1, hlen]
  rw [show (two s 2 - (hl s : Int) == two s 2 - (hl s : Int)) = true from beq_self_eq_true _, Bool.not_true, cond_false, show (((8 + c : Nat) : Int) == ((8 + c : Nat) : Int)) = true from beq_self_eq_true _, Bool.not_true, cond_false,
    gd_ord (by omega), Int.toNat_natCast, sub_ns (by rw [hD]; omega), show (ip4of s).Data = data4 s from rfl, show ((data4 s).take (8 + c) == (data4 s).take (8 + c)) = true from beq_self_eq_true _, Bool.not_true, Option.bind_some, cond_false]
  generalize hx : ({ Addr := a, Port := IntKind.i64.wrap from_ } : T6) = x
  generalize hy : ({ Addr := b, Port := IntKind.i64.wrap to_ } : T6) = y
  rw [F16_spec (p := ip4of s) (by rw [hD]; omega) (by omega), Option.bind_some]
  rw [F16_spec (p := cutData (ip4of s) (8 + c)) (by rw [hcd1]; omega) (by omega)]
  simp only [Option.bind_some]
  rcases q6_prefix (p := ip4of s) (claim := two s 2 - hl s) (from_ := x) (to_ := y) (m := 8 + c) (by rw [hD]; omega) (by omega) (by rw [hD]; omega) with ⟨ce, h1, h2⟩ | ⟨h1, h2⟩
  · rw [h1, h2]
    simp only [List.length_nil]
    rw [ltI_f (by omega), cond_false]
    have hn : ∀ {R : Type} (k : Option R), gd (ordB 0 ((0 : Nat) : Int) 0) k = k := fun k => gd_ord (by omega) k
    rw [hn, sub_ns (by simp)]
    cases (ip4of s).Proto == 6 <;> cases (((8 + c : Nat) : Int) == 17) <;> cases (ip4of s).At == 0 <;> rfl
  · rw [h1, h2]
    simp only
    have hu : (head6 (ip4of s) (two s 2 - hl s) x y ++ turn6 (cutData (ip4of s) (8 + c)) (two s 2 - hl s) x y).length = (head6 (ip4of s) (two s 2 - hl s) x y).length + (8 + c) := by
      rw [List.length_append, turn6_len]; congr 1
    have ht : (head6 (ip4of s) (two s 2 - hl s) x y ++ turn6 (ip4of s) (two s 2 - hl s) x y).length = (head6 (ip4of s) (two s 2 - hl s) x y).length + (data4 s).length := by
      rw [List.length_append, turn6_len]; congr 1
    rw [hu, ht, ltI_f (by omega), cond_false, gd_ord (by omega), Int.toNat_natCast, sub_ns (by rw [ht]; omega)]
    have hAt : 0 ≤ (ip4of s).At := by
      show 0 ≤ two s 6 % 8192 * 8
      omega
    have main : ¬ ((ip4of s).Proto = 6 ∧ 8 + c = 17 ∧ ¬ 0 < (ip4of s).At) →
        (head6 (ip4of s) (two s 2 - hl s) x y ++ turn6 (cutData (ip4of s) (8 + c)) (two s 2 - hl s) x y == (head6 (ip4of s) (two s 2 - hl s) x y ++ turn6 (ip4of s) (two s 2 - hl s) x y).take ((head6 (ip4of s) (two s 2 - hl s) x y).length + (8 + c))) = true := by
      intro h
      rw [turn6_prefix (by rw [hD]; omega) (by omega) h, List.take_append, List.take_of_length_le (l := head6 _ _ _ _) (by omega)]
      simp
    cases p1 : (ip4of s).Proto == 6 with
    | false => rw [cond_false, main (fun h => by rw [h.1] at p1; cases p1)]
    | true =>
      rw [cond_true]
      cases p2 : (((8 + c : Nat) : Int) == 17) with
      | false => rw [cond_false, main (fun h => by rw [h.2.1] at p2; cases p2)]
      | true =>
        rw [cond_true]
        cases p3 : (ip4of s).At == 0 with
        | true => rfl
        | false =>
          rw [cond_false, main (fun h => by
            have : (ip4of s).At = 0 := by omega
            rw [this] at p3; cases p3)]
end Go.Rx.L15F
