/- Plain laws of interpreterlaw15's functions: data over and back. -/
import Derived.Test.YteahnnchfegknaaP15i
set_option linter.unusedVariables false
set_option linter.unusedSimpArgs false
namespace Go.Rx.L15F
open Go.Rx

theorem take2_be2 (d : List UInt8) (i : Nat) (h : i + 2 ≤ d.length) : (d.drop i).take 2 = be2 (two d i) := by
  rw [be2_two d i (by omega), List.drop_eq_getElem_cons (show i < d.length by omega), List.take_succ_cons, List.drop_eq_getElem_cons (show i + 1 < d.length by omega), List.take_succ_cons, List.take_zero]

theorem take4_be2 (d : List UInt8) (h : 4 ≤ d.length) : be2 (two d 0) ++ be2 (two d 2) = d.take 4 := by
  rw [← take2_be2 d 0 (by omega), ← take2_be2 d 2 (by omega), List.drop_zero]
  rw [show (4 : Nat) = 2 + 2 from rfl, List.take_add]

theorem likeAt_append {h a b : List UInt8} {k : Nat} (hk : h.length ≤ k) (hl : likeAt (k - h.length) a b) : likeAt k (h ++ a) (h ++ b) := by
  rcases hl with rfl | ⟨h1, h2, rfl⟩
  · exact .inl rfl
  · refine .inr ⟨by rw [List.length_append]; omega, ?_, ?_⟩
    · unfold two bt at h2 ⊢
      rw [Int.toNat_natCast, Int.toNat_natCast] at h2 ⊢
      simp only [List.getD, List.getElem?_append] at h2 ⊢
      rw [if_neg (by omega), if_neg (by omega), show k + 1 - h.length = k - h.length + 1 by omega]
      exact h2
    · rw [List.take_append, List.drop_append, List.take_of_length_le hk, List.drop_eq_nil_of_le (show h.length ≤ k + 2 by omega), List.nil_append, show k + 2 - h.length = k - h.length + 2 by omega]
      simp only [List.append_assoc]

theorem ported_eq {proto f t : Int} {d old new : List UInt8} (h4 : 4 ≤ d.length) :
    ported proto d old new f t = (be2 f ++ be2 t) ++ (if proto = 17 then update (d.drop 4) 2 (old ++ d.take 4) (new ++ (be2 f ++ be2 t)) true else update (d.drop 4) 12 (old ++ d.take 4) (new ++ (be2 f ++ be2 t)) false) := by
  unfold ported
  rw [if_neg (by omega)]
  by_cases c : proto = 17
  · rw [if_pos c, if_pos c, update_append (h := be2 f ++ be2 t) (by simp [be2_len])]; rfl
  · rw [if_neg c, if_neg c, update_append (h := be2 f ++ be2 t) (by simp [be2_len])]; rfl

theorem ported_back {proto f t : Int} {d A B : List UInt8} (h4 : 4 ≤ d.length) (hA : A.length % 2 = 0) (hB : B.length % 2 = 0) :
    (proto = 17 → ported proto (ported proto d A B f t) B A (two d 0) (two d 2) = d) ∧ likeAt 16 d (ported proto (ported proto d A B f t) B A (two d 0) (two d 2)) := by
  have hh : (be2 f ++ be2 t).length = 4 := by simp [be2_len]
  have hlen : 4 ≤ (ported proto d A B f t).length := by rw [ported_len]; exact h4
  rw [ported_eq hlen, take4_be2 d h4]
  rw [ported_eq h4]
  have e1 : ∀ r : List UInt8, ((be2 f ++ be2 t) ++ r).drop 4 = r := fun r => by rw [List.drop_append, List.drop_eq_nil_of_le (by omega), hh]; rfl
  have e2 : ∀ r : List UInt8, ((be2 f ++ be2 t) ++ r).take 4 = be2 f ++ be2 t := fun r => by rw [List.take_append, List.take_of_length_le (by omega), hh]; simp
  rw [e1, e2]
  have ht : (d.take 4).length = 4 := by rw [List.length_take]; omega
  have ho : (A ++ d.take 4).length % 2 = 0 := by rw [List.length_append, ht]; omega
  have hn : (B ++ (be2 f ++ be2 t)).length % 2 = 0 := by rw [List.length_append, hh]; omega
  by_cases c : proto = 17
  · rw [if_pos c, if_pos c, update_back0 ho hn, List.take_append_drop]
    exact ⟨fun _ => rfl, .inl rfl⟩
  · rw [if_neg c, if_neg c]
    refine ⟨fun h => absurd h c, ?_⟩
    have := likeAt_append (h := d.take 4) (k := 16) (by omega) (by rw [ht]; exact update_back (d := d.drop 4) (k := 12) ho hn)
    rwa [List.take_append_drop] at this

theorem echoed_eq {kind id : Int} {d old new : List UInt8} (h8 : 8 ≤ d.length) :
    echoed d old new kind id = (be1 kind ++ [0]) ++ be2 (updSum (two d 2) (old ++ (d.take 2 ++ (d.drop 4).take 2)) (new ++ (be1 kind ++ [0]) ++ be2 id)) ++ (be2 id ++ d.drop 6) := by
  unfold echoed
  have hh : (be1 kind ++ [(0 : UInt8)]).length = 2 := rfl
  rw [take2_be2 d 2 (by omega)]
  have ht := two_be2 (be1 kind ++ [0]) (be2 id ++ d.drop 6) (two d 2) (two_range d 2)
  rw [hh] at ht
  have hx : be1 kind ++ [0] ++ be2 (two d 2) ++ be2 id ++ d.drop 6 = be1 kind ++ [0] ++ be2 (two d 2) ++ (be2 id ++ d.drop 6) := by simp only [List.append_assoc]
  rw [hx]
  unfold update
  rw [if_neg (by simp [be1_len, be2_len]; omega), if_neg (by simp), if_neg (by simp), ht]
  have e1 : (be1 kind ++ [0] ++ be2 (two d 2) ++ (be2 id ++ d.drop 6)).take 2 = be1 kind ++ [0] := rfl
  have e2 : (be1 kind ++ [0] ++ be2 (two d 2) ++ (be2 id ++ d.drop 6)).drop (2 + 2) = be2 id ++ d.drop 6 := rfl
  rw [e1, e2]

theorem take2_be1 (d : List UInt8) (h : 2 ≤ d.length) (h1 : bt d 1 = 0) : d.take 2 = be1 (bt d 0) ++ [0] := by
  have e0 := u8_bt d 0 (by omega)
  have e1 := u8_bt d 1 (by omega)
  norm_cast at e0 e1
  rw [h1] at e1
  match d, h with
  | x :: y :: l, _ =>
    simp only [List.getElem_cons_zero, List.getElem_cons_succ] at e0 e1
    show [x, y] = [u8 (bt (x :: y :: l) 0), 0]
    rw [← e1]
    congr 1
    exact e0.symm

theorem echoed_back {kind id : Int} {d P : List UInt8} (h8 : 8 ≤ d.length) (hP : P.length % 2 = 0) (h1 : bt d 1 = 0) :
    likeAt 2 d (echoed (echoed d [] P kind id) P [] (bt d 0) (two d 4)) := by
  have hl := echoed_len (kind := kind) (id := id) (old := []) (new := P) h8
  rw [echoed_eq (by omega)]
  rw [echoed_eq (d := d) h8]
  have n1r := updSum_range (n := two d 2) (old := [] ++ (d.take 2 ++ (d.drop 4).take 2)) (new := P ++ (be1 kind ++ [0]) ++ be2 id) (two_range d 2)
  generalize hn1 : updSum (two d 2) ([] ++ (d.take 2 ++ (d.drop 4).take 2)) (P ++ (be1 kind ++ [0]) ++ be2 id) = n1 at *
  have t2 := two_be2 (be1 kind ++ [0]) (be2 id ++ d.drop 6) n1 n1r
  rw [show (be1 kind ++ [(0 : UInt8)]).length = 2 from rfl] at t2
  have e1 : (be1 kind ++ [0] ++ be2 n1 ++ (be2 id ++ d.drop 6)).take 2 = be1 kind ++ [0] := rfl
  have e2 : ((be1 kind ++ [0] ++ be2 n1 ++ (be2 id ++ d.drop 6)).drop 4).take 2 = be2 id := rfl
  have e3 : (be1 kind ++ [0] ++ be2 n1 ++ (be2 id ++ d.drop 6)).drop 6 = d.drop 6 := rfl
  rw [t2, e1, e2, e3]
  have eo : [] ++ (be1 (bt d 0) ++ [0]) ++ be2 (two d 4) = [] ++ (d.take 2 ++ (d.drop 4).take 2) := by
    rw [take2_be1 d (by omega) h1, take2_be2 d 4 (by omega)]; simp
  have en : P ++ (be1 kind ++ [0] ++ be2 id) = P ++ (be1 kind ++ [0]) ++ be2 id := by simp only [List.append_assoc]
  rw [eo, en]
  have ho : ([] ++ (d.take 2 ++ (d.drop 4).take 2)).length % 2 = 0 := by simp; omega
  have hn : (P ++ (be1 kind ++ [0]) ++ be2 id).length % 2 = 0 := by simp [be1_len, be2_len]; omega
  have hb := updSum_back (n := two d 2) (two_range d 2) ho hn
  rw [hn1] at hb
  have ed : be2 (two d 4) ++ d.drop 6 = d.drop 4 := by
    rw [← take2_be2 d 4 (by omega), show d.drop 6 = (d.drop 4).drop 2 by rw [List.drop_drop], List.take_append_drop]
  rw [← take2_be1 d (by omega) h1, ed]
  rcases hb with h | ⟨h, h'⟩
  · rw [h]; left
    have := split_two d 2 (by omega)
    exact this.symm
  · rw [h']; right
    exact ⟨by omega, h, rfl⟩

/-- How data that were over and back stand to what they were. -/
def likeB (p : Ip4) (b : List UInt8) : Prop :=
  if p.Proto = 6 ∧ 4 ≤ p.Data.length then likeAt 16 p.Data b
  else if p.Proto = 1 ∧ 8 ≤ p.Data.length then likeAt 2 p.Data b
  else b = p.Data

theorem likeB_same (p : Ip4) : likeB p p.Data := by
  unfold likeB
  split
  · exact .inl rfl
  split
  · exact .inl rfl
  · rfl

theorem echoed_bt {kind id : Int} {d old new : List UInt8} (h8 : 8 ≤ d.length) (hk : 0 ≤ kind ∧ kind ≤ 255) : bt (echoed d old new kind id) 0 = kind ∧ bt (echoed d old new kind id) 1 = 0 := by
  rw [echoed_eq h8]
  constructor
  · show ((u8 kind).toNat : Int) = kind
    rw [u8_toNat]; omega
  · rfl

theorem turn_back {p : Ip4} {q : Ip6} {claim : Int} {x y : T6} {c e : T4} (hp6 : (proto6 p.Proto).2 = true) (hAt : 0 ≤ p.At) (hq : q.Data = turn6 p claim x y) (hqp : q.Proto = (proto6 p.Proto).1) (hqa : q.At = p.At)
    (hf : q.From.bytes = x.Addr.bytes) (ht : q.To.bytes = y.Addr.bytes) (hc : c.Addr.bytes = p.From.bytes) (he : e.Addr.bytes = p.To.bytes)
    (hno : ¬ (p.Proto = 1 ∧ 8 ≤ p.Data.length ∧ (bt p.Data 0 = 128 ∨ bt p.Data 0 = 129)))
    (hports : (p.Proto = 6 ∨ p.Proto = 17) → 4 ≤ p.Data.length → c.Port = two p.Data 0 ∧ e.Port = two p.Data 2) (hid : p.Proto = 1 → 8 ≤ p.Data.length → c.Port = two p.Data 4) :
    likeB p (turn4 q claim c e) := by
  unfold turn4
  rw [hqa]
  by_cases c1 : 0 < p.At
  · rw [if_pos c1, hq]; unfold turn6; rw [if_pos c1]; exact likeB_same p
  rw [if_neg c1]
  by_cases c2 : p.Proto = 6 ∨ p.Proto = 17
  · have hpp : (proto6 p.Proto).1 = p.Proto := by
      rcases c2 with k | k <;> rw [k] <;> rfl
    rw [hqp, hpp, if_pos c2, hf, ht, hc, he]
    have e6 : turn6 p claim x y = ported p.Proto p.Data (p.From.bytes ++ p.To.bytes) (x.Addr.bytes ++ y.Addr.bytes) x.Port y.Port := by unfold turn6; rw [if_neg c1, if_pos c2]
    rw [hq, e6]
    by_cases c4 : 4 ≤ p.Data.length
    · obtain ⟨h1, h2⟩ := hports c2 c4
      rw [h1, h2]
      obtain ⟨g1, g2⟩ := ported_back (proto := p.Proto) (f := x.Port) (t := y.Port) (d := p.Data) (A := p.From.bytes ++ p.To.bytes) (B := x.Addr.bytes ++ y.Addr.bytes) c4 (by simp [V4.len]) (by simp [V6.len])
      unfold likeB
      by_cases k : p.Proto = 6
      · rw [if_pos ⟨k, c4⟩]; exact g2
      · rw [if_neg (fun h => k h.1), if_neg (by omega)]; exact g1 (c2.resolve_left k)
    · have u1 : ∀ (A B : List UInt8) (f t : Int), ported p.Proto p.Data A B f t = p.Data := by intro A B f t; unfold ported; rw [if_pos (by omega)]
      rw [u1, u1]; exact likeB_same p
  by_cases c3 : p.Proto = 1
  · have hpp : (proto6 p.Proto).1 = 58 := by rw [c3]; rfl
    rw [hqp, hpp, if_neg (by omega)]
    by_cases c8 : 8 ≤ p.Data.length
    · by_cases ce : (bt p.Data 0 = 8 ∨ bt p.Data 0 = 0) ∧ bt p.Data 1 = 0
      · have e6 : turn6 p claim x y = echoed p.Data [] (pseudo6 x.Addr y.Addr 58 claim) (if bt p.Data 0 = 8 then 128 else 129) x.Port := by
          unfold turn6; rw [if_neg c1, if_neg c2, if_pos ⟨c3, c8, ce⟩]
        rw [hq, e6]
        have hk : 0 ≤ (if bt p.Data 0 = 8 then (128 : Int) else 129) ∧ (if bt p.Data 0 = 8 then (128 : Int) else 129) ≤ 255 := by split <;> omega
        obtain ⟨b0, b1⟩ := echoed_bt (id := x.Port) (old := []) (new := pseudo6 x.Addr y.Addr 58 claim) c8 hk
        have hl := echoed_len (kind := if bt p.Data 0 = 8 then 128 else 129) (id := x.Port) (old := []) (new := pseudo6 x.Addr y.Addr 58 claim) c8
        rw [b0, b1, hl, if_pos ⟨rfl, c8, by split <;> simp, rfl⟩]
        have hps : pseudo6 q.From q.To 58 claim = pseudo6 x.Addr y.Addr 58 claim := by unfold pseudo6; rw [hf, ht]
        have hkk : (if (if bt p.Data 0 = 8 then (128 : Int) else 129) = 128 then (8 : Int) else 0) = bt p.Data 0 := by
          by_cases k : bt p.Data 0 = 8
          · rw [if_pos k, if_pos rfl, k]
          · rw [if_neg k, if_neg (by decide)]; exact (ce.1.resolve_left k).symm
        rw [hps, hkk, hid c3 c8]
        unfold likeB
        rw [if_neg (by omega), if_pos ⟨c3, c8⟩]
        exact echoed_back c8 (by rw [pseudo6_len]) ce.2
      · have e6 : turn6 p claim x y = p.Data := by
          unfold turn6; rw [if_neg c1, if_neg c2, if_neg (fun h => ce h.2.2)]
        rw [hq, e6, if_neg (fun h => hno ⟨c3, c8, h.2.2.1⟩)]
        exact likeB_same p
    · have e6 : turn6 p claim x y = p.Data := by
        unfold turn6; rw [if_neg c1, if_neg c2, if_neg (fun h => c8 h.2.1)]
      rw [hq, e6, if_neg (fun h => c8 h.2.1)]
      exact likeB_same p
  · have hpp : (proto6 p.Proto).1 = p.Proto ∧ p.Proto ≠ 58 := by
      unfold proto6 at hp6 ⊢
      rw [if_neg c3] at hp6 ⊢
      split at hp6
      · cases hp6
      · rename_i h; rw [if_neg h]; exact ⟨rfl, by omega⟩
    have e6 : turn6 p claim x y = p.Data := by
      unfold turn6; rw [if_neg c1, if_neg c2, if_neg (fun h => c3 h.1)]
    rw [hqp, hpp.1, if_neg c2, if_neg (fun h => hpp.2 h.1), hq, e6]
    exact likeB_same p
end Go.Rx.L15F
