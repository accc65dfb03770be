/- Plain laws of interpreterlaw15's functions: what is quoted is read as it was quoted. -/
import Derived.Test.YteahnnchfegknaaP15j
import Derived.Test.YteahnnchfegknaaP15e
set_option linter.unusedVariables false
set_option linter.unusedSimpArgs false
namespace Go.Rx.L15F
open Go.Rx

theorem ofNat_bt (s : List UInt8) (i : Nat) : UInt8.ofNat (bt s i).toNat = s.getD i 0 := by
  unfold bt
  rw [Int.toNat_natCast, Int.toNat_natCast, UInt8.ofNat_toNat]

theorem v6at_bytes (s : List UInt8) (i : Nat) : (v6at s i).bytes = [s.getD i 0, s.getD (i + 1) 0, s.getD (i + 2) 0, s.getD (i + 3) 0, s.getD (i + 4) 0, s.getD (i + 5) 0, s.getD (i + 6) 0, s.getD (i + 7) 0,
    s.getD (i + 8) 0, s.getD (i + 9) 0, s.getD (i + 10) 0, s.getD (i + 11) 0, s.getD (i + 12) 0, s.getD (i + 13) 0, s.getD (i + 14) 0, s.getD (i + 15) 0] := by
  unfold v6at V6.bytes
  simp only [ofNat_bt]

theorem proto6_next {x : Int} (h : (proto6 x).2 = true) : (proto6 x).1 ≠ 0 ∧ (proto6 x).1 ≠ 43 ∧ (proto6 x).1 ≠ 44 ∧ (proto6 x).1 ≠ 60 := by
  unfold proto6 at h ⊢
  split at h
  · rename_i k; rw [if_pos k]; decide
  · rename_i k
    rw [if_neg k]
    split at h
    · cases h
    · rename_i k2; rw [if_neg k2]; simp only; omega

theorem chain_stop {next : Int} {data : List UInt8} (h : ¬ (next = 0 ∨ next = 43 ∨ next = 60)) : chain 9 [] next data = .ok [] next data := by
  unfold chain; rw [if_neg h]

/-- What Inside6 reads of what Quote6 wrote. -/
structure Over (p : Ip4) (claim : Int) (x y : T6) (D : List UInt8) (q : Ip6) : Prop where
  cls : q.Class = p.Tos
  hop : q.Hop = p.Ttl
  src : q.From.bytes = x.Addr.bytes
  dst : q.To.bytes = y.Addr.bytes
  exts : q.Exts.2.1 = 2
  frag : q.Frag = decide (p.More = true ∨ p.At ≠ 0)
  place : q.At = p.At
  more : q.More = p.More
  proto : q.Proto = (proto6 p.Proto).1
  data : q.Data = D

theorem in6_head6 {p : Ip4} {claim : Int} {x y : T6} {D : List UInt8} (hf : fit6 p claim x y) (hp : (proto6 p.Proto).2 = true) (h1 : ¬ (65535 < claim ∨ (p.More = true ∨ p.At ≠ 0) ∧ 65535 < claim + 8))
    (hl : (D.length : Int) ≤ claim) (hm : min 8 claim ≤ (D.length : Int)) : ∃ q, in6 (head6 p claim x y ++ D) = (q, claim, none, ()) ∧ Over p claim x y D q := by
  obtain ⟨f1, f2, f3, f4, f5, f6, f7, f8⟩ := hf
  have hn := proto6_next hp
  have hpr := proto6_range p.Proto
  have hX : (1610612736 + p.Tos * 1048576) / 16777216 % 256 / 16 = 6 := by omega
  have u := u8_toNat
  by_cases hfr : p.More = true ∨ p.At ≠ 0
  · have eh : head6 p claim x y = be4 (1610612736 + p.Tos * 1048576) ++ be2 (claim + 8) ++ be1 44 ++ be1 p.Ttl ++ x.Addr.bytes ++ y.Addr.bytes ++ (be1 (proto6 p.Proto).1 ++ [0] ++ be2 (if p.More = true then p.At + 1 else p.At) ++ be4 p.Id) := by
      unfold head6; rw [if_pos hfr]
    have hc8 : claim + 8 ≤ 65535 := Classical.byContradiction fun h => h1 (.inr ⟨hfr, by omega⟩)
    rw [eh]
    generalize ha : (if p.More = true then p.At + 1 else p.At) = a
    have har : 0 ≤ a ∧ a ≤ 65535 := by rw [← ha]; split <;> omega
    have ha8 : a / 8 * 8 = p.At ∧ (a % 2 = 1 ↔ p.More = true) := by
      have : p.At % 8 = 0 := by rw [← Int.tmod_eq_emod_of_nonneg (by omega)]; exact f7
      rw [← ha]; split
      · rename_i k; exact ⟨by omega, by simp [k]; omega⟩
      · rename_i k; exact ⟨by omega, by simp [k]; omega⟩
    generalize ht : be4 (1610612736 + p.Tos * 1048576) ++ be2 (claim + 8) ++ be1 44 ++ be1 p.Ttl ++ x.Addr.bytes ++ y.Addr.bytes ++ (be1 (proto6 p.Proto).1 ++ [0] ++ be2 a ++ be4 p.Id) ++ D = t
    have hlen : t.length = 48 + D.length := by rw [← ht]; simp [be4_len, be2_len, be1_len, V6.len]; omega
    have b0 : bt t 0 = (1610612736 + p.Tos * 1048576) / 16777216 % 256 := by rw [← ht]; exact u _
    have b6 : bt t 6 = 44 := by rw [← ht]; rfl
    have b7 : bt t 7 = p.Ttl % 256 := by rw [← ht]; exact u _
    have t4 : two t 4 = claim + 8 := by
      have : two t 4 = ((u8 ((claim + 8) / 256)).toNat : Int) * 256 + ((u8 (claim + 8)).toNat : Int) := by rw [← ht]; rfl
      rw [this, u, u]; omega
    have f0 : four t 0 = 1610612736 + p.Tos * 1048576 := by
      have : four t 0 = ((((u8 ((1610612736 + p.Tos * 1048576) / 16777216)).toNat : Int) * 256 + ((u8 ((1610612736 + p.Tos * 1048576) / 65536)).toNat : Int)) * 256 + ((u8 ((1610612736 + p.Tos * 1048576) / 256)).toNat : Int)) * 256 + ((u8 (1610612736 + p.Tos * 1048576)).toNat : Int) := by rw [← ht]; rfl
      rw [this, u, u, u, u]; omega
    have s8 : (v6at t 8).bytes = x.Addr.bytes := by rw [v6at_bytes, ← ht]; rfl
    have s24 : (v6at t 24).bytes = y.Addr.bytes := by rw [v6at_bytes, ← ht]; rfl
    have hd40 : t.drop 40 = be1 (proto6 p.Proto).1 ++ [0] ++ be2 a ++ be4 p.Id ++ D := by rw [← ht]; rfl
    generalize hR : be1 (proto6 p.Proto).1 ++ [0] ++ be2 a ++ be4 p.Id ++ D = R at hd40
    have hRl : R.length = 8 + D.length := by rw [← hR]; simp [be4_len, be2_len, be1_len]; omega
    have hth : there t = R := by
      unfold there; rw [hd40, t4, List.take_of_length_le]; omega
    have r0 : bt R 0 = (proto6 p.Proto).1 := by
      have : bt R 0 = ((u8 (proto6 p.Proto).1).toNat : Int) := by rw [← hR]; rfl
      rw [this, u]; omega
    have r2 : two R 2 = a := by
      have : two R 2 = ((u8 (a / 256)).toNat : Int) * 256 + ((u8 a).toNat : Int) := by rw [← hR]; rfl
      rw [this, u, u]; omega
    have r8 : R.drop 8 = D := by rw [← hR]; rfl
    refine ⟨{ Class := four t 0 / 1048576 % 256, Flow := four t 0 % 1048576, Hop := bt t 7, From := v6at t 8, To := v6at t 24, Exts := exts2 [], Frag := true, Id := four R 4, At := two R 2 / 8 * 8, More := decide (two R 2 % 2 = 1), Proto := bt R 0, Data := R.drop 8 }, ?_, ?_⟩
    · unfold in6
      rw [if_neg (by omega), if_neg (by rw [b0]; omega), b6, hth, chain_stop (by decide)]
      simp only
      rw [if_pos trivial, if_neg (by omega), r8, t4, hRl, show (claim + 8 - (((8 + D.length : Nat) : Int) - (D.length : Int))) = claim by omega, if_neg (by omega)]
    · refine ⟨?_, ?_, s8, s24, rfl, ?_, ?_, ?_, r0, r8⟩
      · simp only [f0]; omega
      · simp only [b7]; omega
      · simp only [hfr, decide_true]
      · simp only [r2]; exact ha8.1
      · simp only [r2]
        cases hmo : p.More with
        | true => rw [decide_eq_true (ha8.2.2 hmo)]
        | false => rw [decide_eq_false (fun h => by have := ha8.2.1 h; rw [hmo] at this; cases this)]
  · have eh : head6 p claim x y = be4 (1610612736 + p.Tos * 1048576) ++ be2 claim ++ be1 (proto6 p.Proto).1 ++ be1 p.Ttl ++ x.Addr.bytes ++ y.Addr.bytes ++ [] := by
      unfold head6; rw [if_neg hfr]
    rw [eh]
    generalize ht : be4 (1610612736 + p.Tos * 1048576) ++ be2 claim ++ be1 (proto6 p.Proto).1 ++ be1 p.Ttl ++ x.Addr.bytes ++ y.Addr.bytes ++ [] ++ D = t
    have hlen : t.length = 40 + D.length := by rw [← ht]; simp [be4_len, be2_len, be1_len, V6.len]; omega
    have b0 : bt t 0 = (1610612736 + p.Tos * 1048576) / 16777216 % 256 := by rw [← ht]; exact u _
    have b6 : bt t 6 = (proto6 p.Proto).1 := by
      have : bt t 6 = ((u8 (proto6 p.Proto).1).toNat : Int) := by rw [← ht]; rfl
      rw [this, u]; omega
    have b7 : bt t 7 = p.Ttl % 256 := by rw [← ht]; exact u _
    have t4 : two t 4 = claim := by
      have : two t 4 = ((u8 (claim / 256)).toNat : Int) * 256 + ((u8 claim).toNat : Int) := by rw [← ht]; rfl
      rw [this, u, u]; omega
    have f0 : four t 0 = 1610612736 + p.Tos * 1048576 := by
      have : four t 0 = ((((u8 ((1610612736 + p.Tos * 1048576) / 16777216)).toNat : Int) * 256 + ((u8 ((1610612736 + p.Tos * 1048576) / 65536)).toNat : Int)) * 256 + ((u8 ((1610612736 + p.Tos * 1048576) / 256)).toNat : Int)) * 256 + ((u8 (1610612736 + p.Tos * 1048576)).toNat : Int) := by rw [← ht]; rfl
      rw [this, u, u, u, u]; omega
    have s8 : (v6at t 8).bytes = x.Addr.bytes := by rw [v6at_bytes, ← ht]; rfl
    have s24 : (v6at t 24).bytes = y.Addr.bytes := by rw [v6at_bytes, ← ht]; rfl
    have hd40 : t.drop 40 = D := by rw [← ht]; rfl
    have hth : there t = D := by
      unfold there; rw [hd40, t4, List.take_of_length_le]; omega
    have hmo : p.More = false := by cases hmo : p.More with | true => exact absurd (.inl hmo) hfr | false => rfl
    have hat : p.At = 0 := Classical.byContradiction fun h => hfr (.inr h)
    refine ⟨{ Class := four t 0 / 1048576 % 256, Flow := four t 0 % 1048576, Hop := bt t 7, From := v6at t 8, To := v6at t 24, Exts := exts2 [], Frag := false, Id := 0, At := 0, More := false, Proto := (proto6 p.Proto).1, Data := D }, ?_, ?_⟩
    · unfold in6
      rw [if_neg (by omega), if_neg (by rw [b0]; omega), b6, hth, chain_stop (by omega)]
      simp only
      rw [if_neg hn.2.2.1, t4, show (claim - ((D.length : Int) - (D.length : Int))) = claim by omega, if_neg (by omega)]
    · refine ⟨?_, ?_, s8, s24, rfl, ?_, hat.symm, hmo.symm, rfl, rfl⟩
      · simp only [f0]; omega
      · simp only [b7]; omega
      · simp only [hfr, decide_false]

/-- What Inside4 reads of what Quote4 wrote. -/
structure Back (q : Ip6) (a : Int) (c e : T4) (D : List UInt8) (r : Ip4) : Prop where
  tos : r.Tos = q.Class
  ttl : r.Ttl = q.Hop
  proto : r.Proto = (proto4 q.Proto).1
  place : r.At = a % 8192 * 8
  more : r.More = decide (a / 8192 % 2 = 1)
  src : r.From = ⟨((UInt8.ofNat c.Addr.b0.toNat).toNat : Int), ((UInt8.ofNat c.Addr.b1.toNat).toNat : Int), ((UInt8.ofNat c.Addr.b2.toNat).toNat : Int), ((UInt8.ofNat c.Addr.b3.toNat).toNat : Int)⟩
  dst : r.To = ⟨((UInt8.ofNat e.Addr.b0.toNat).toNat : Int), ((UInt8.ofNat e.Addr.b1.toNat).toNat : Int), ((UInt8.ofNat e.Addr.b2.toNat).toNat : Int), ((UInt8.ofNat e.Addr.b3.toNat).toNat : Int)⟩
  data : r.Data = D

theorem ws_be2 {x : Int} (h : 0 ≤ x ∧ x ≤ 65535) : ws false false (be2 x) = x := by
  simp only [be2, ws, bx, cond_false, cond_true, Bool.not_false]
  rw [u8_toNat, u8_toNat]; omega

/-- A head with its sum is right. -/
theorem head4_right (q : Ip6) (claim id a : Int) (c e : T4) : fold1 (ws false false (head4 q claim id a c e)) = 65535 := by
  have hs := sum4_range (ahead4 q claim id a) (c.Addr.bytes ++ e.Addr.bytes)
  have hl := ahead4_len q claim id a
  have e1 : ws false false (head4 q claim id a c e) = ws false false (ahead4 q claim id a) + sum4 (ahead4 q claim id a) (c.Addr.bytes ++ e.Addr.bytes) + ws false false (c.Addr.bytes ++ e.Addr.bytes) := by
    unfold head4
    rw [ws_append, ws_append, List.length_append, hl, be2_len]
    rw [show (false ^^ decide (10 % 2 = 1)) = false from rfl, ws_be2 hs]
  have h1 := ws_range false (ahead4 q claim id a) false
  have hpos : 0 < ws false false (ahead4 q claim id a) := by
    have e2 : ahead4 q claim id a = 69 :: (be1 q.Class ++ be2 (20 + claim) ++ be2 id ++ be2 a ++ be1 q.Hop ++ be1 (proto4 q.Proto).1) := rfl
    rw [e2]
    simp only [ws, cond_false, bx]
    have := ws_range false (be1 q.Class ++ be2 (20 + claim) ++ be2 id ++ be2 a ++ be1 q.Hop ++ be1 (proto4 q.Proto).1) (!false)
    have h69 : ((69 : UInt8).toNat : Int) = 69 := rfl
    omega
  obtain ⟨z1, g1⟩ := fold1_mod (x := ws false false (ahead4 q claim id a)) (by omega)
  have h2 := fold1_range (n := ws false false (ahead4 q claim id a)) (by omega)
  have h3 := ws_range false (c.Addr.bytes ++ e.Addr.bytes) false
  obtain ⟨z2, g2⟩ := fold1_mod (x := fold1 (ws false false (ahead4 q claim id a)) + ws false false (c.Addr.bytes ++ e.Addr.bytes)) (by omega)
  rw [e1]
  refine fold1_full (by omega) (z := z1 + z2 + 1) ?_
  unfold sum4
  omega

theorem in4_head4 {q : Ip6} {claim id a : Int} {c e : T4} {D : List UInt8} (hc : 0 ≤ claim ∧ claim ≤ 65515) (hcl : 0 ≤ q.Class ∧ q.Class ≤ 255) (hho : 0 ≤ q.Hop ∧ q.Hop ≤ 255) (ha : 0 ≤ a ∧ a < 32768)
    (hfit : a % 8192 * 8 + 20 + claim ≤ 65535) (hDc : (D.length : Int) ≤ claim) (hm : min 8 claim ≤ (D.length : Int)) : ∃ r, in4 (head4 q claim id a c e ++ D) = (r, claim, none, ()) ∧ Back q a c e D r := by
  have u := u8_toNat
  have hpr := proto4_range q.Proto
  have hright := head4_right q claim id a c e
  have hhl := head4_len q claim id a c e
  generalize hS : sum4 (ahead4 q claim id a) (c.Addr.bytes ++ e.Addr.bytes) = S
  generalize ht : head4 q claim id a c e ++ D = t
  have hlen : t.length = 20 + D.length := by rw [← ht, List.length_append, hhl]
  have et : t = [69] ++ be1 q.Class ++ be2 (20 + claim) ++ be2 id ++ be2 a ++ be1 q.Hop ++ be1 (proto4 q.Proto).1 ++ be2 S ++ (c.Addr.bytes ++ e.Addr.bytes) ++ D := by
    rw [← ht, ← hS]; rfl
  have b0 : bt t 0 = 69 := by rw [et]; rfl
  have b1 : bt t 1 = q.Class := by
    have : bt t 1 = ((u8 q.Class).toNat : Int) := by rw [et]; rfl
    rw [this, u]; omega
  have b8 : bt t 8 = q.Hop := by
    have : bt t 8 = ((u8 q.Hop).toNat : Int) := by rw [et]; rfl
    rw [this, u]; omega
  have b9 : bt t 9 = (proto4 q.Proto).1 := by
    have : bt t 9 = ((u8 (proto4 q.Proto).1).toNat : Int) := by rw [et]; rfl
    rw [this, u]; omega
  have t2 : two t 2 = 20 + claim := by
    have : two t 2 = ((u8 ((20 + claim) / 256)).toNat : Int) * 256 + ((u8 (20 + claim)).toNat : Int) := by rw [et]; rfl
    rw [this, u, u]; omega
  have t6 : two t 6 = a := by
    have : two t 6 = ((u8 (a / 256)).toNat : Int) * 256 + ((u8 a).toNat : Int) := by rw [et]; rfl
    rw [this, u, u]; omega
  have hhl2 : hl t = 20 := by unfold hl; rw [b0]; rfl
  have hd : data4 t = D := by
    unfold data4
    rw [hhl2, t2, show t.drop 20 = D by rw [et]; rfl, List.take_of_length_le]; omega
  have hg : Good4 t := by
    refine ⟨by omega, by rw [b0]; rfl, by omega, by omega, ?_, by rw [hhl2, t2]; omega, by rw [t6]; omega, by rw [t6, t2]; omega, by rw [hhl2, t2, hd]; omega⟩
    rw [hhl2, ← ht, List.take_append_of_le_length (by omega), List.take_of_length_le (by omega)]
    exact hright
  refine ⟨ip4of t, ?_, ?_⟩
  · rw [in4_good hg, t2, hhl2, show (20 + claim - ((20 : Nat) : Int)) = claim by omega]
  · refine ⟨b1, b8, b9, ?_, ?_, ?_, ?_, hd⟩
    · show two t 6 % 8192 * 8 = _; rw [t6]
    · show decide (two t 6 / 8192 % 2 = 1) = _; rw [t6]
    · show (⟨bt t 12, bt t 13, bt t 14, bt t 15⟩ : V4) = _; rw [et]; rfl
    · show (⟨bt t 16, bt t 17, bt t 18, bt t 19⟩ : V4) = _; rw [et]; rfl

theorem byte_back {b : Int} (h : 0 ≤ b ∧ b ≤ 255) : ((UInt8.ofNat b.toNat).toNat : Int) = b := by
  rw [UInt8.toNat_ofNat']; omega
end Go.Rx.L15F
