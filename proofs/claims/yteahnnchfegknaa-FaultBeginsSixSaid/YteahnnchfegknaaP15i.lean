/- Plain laws of interpreterlaw15's functions: a sum updated there and back. -/
import Derived.Test.YteahnnchfegknaaP15g
import Derived.Test.YteahnnchfegknaaL15j
set_option linter.unusedVariables false
set_option linter.unusedSimpArgs false
namespace Go.Rx.L15F
open Go.Rx

theorem fold1_mod {x : Int} (h : 0 ≤ x) : ∃ z : Int, fold1 x = x - 65535 * z := by
  unfold fold1; split
  · exact ⟨0, by omega⟩
  · exact ⟨(x - 1) / 65535, by omega⟩
theorem fold1_zero {x : Int} (h : 0 ≤ x) (h0 : fold1 x = 0) : x = 0 := by
  unfold fold1 at h0; split at h0
  · assumption
  · omega
theorem fold1_full {x : Int} (h : 0 < x) {z : Int} (hz : x = 65535 * z) : fold1 x = 65535 := by
  unfold fold1; rw [if_neg (by omega)]; omega

/-- A text of whole words and what is left of it to all ones. -/
theorem ws_compl : ∀ (l : List UInt8), l.length % 2 = 0 → ∃ k : Int, ws true false l = 65535 * k - ws false false l
  | [], _ => ⟨0, by simp [ws]⟩
  | [x], h => by simp at h
  | x :: y :: l, h => by
    obtain ⟨k, hk⟩ := ws_compl l (by simp only [List.length_cons] at h; omega)
    refine ⟨k + 1, ?_⟩
    simp only [ws, Bool.not_false, Bool.not_true, cond_true, cond_false, hk, bx]
    omega

theorem even_of {l : List UInt8} (h : l.length % 2 = 0) : even l = l := by unfold even; rw [if_neg (by omega)]

theorem updSum_mod {n : Int} {old new : List UInt8} (h : 0 ≤ n ∧ n ≤ 65535) (ho : old.length % 2 = 0) : ∃ z : Int, updSum n old new = n + ws false false old - ws false false new + 65535 * z := by
  unfold updSum
  rw [even_of ho]
  obtain ⟨k, hk⟩ := ws_compl old ho
  have h1 := ws_range true old false
  obtain ⟨z1, e1⟩ := fold1_mod (x := 65535 - n + ws true false old) (by omega)
  have h2 := fold1_range (n := 65535 - n + ws true false old) (by omega)
  have h3 := ws_range false new false
  obtain ⟨z2, e2⟩ := fold1_mod (x := fold1 (65535 - n + ws true false old) + ws false false new) (by omega)
  rw [e2, e1, hk]
  exact ⟨z1 + z2 - k, by omega⟩

theorem updSum_full {n : Int} {old new : List UInt8} (h : 0 ≤ n ∧ n ≤ 65535) (ho : old.length % 2 = 0) (hf : updSum n old new = 65535) : n = 65535 := by
  unfold updSum at hf
  rw [even_of ho] at hf
  have h1 := ws_range true old false
  have h2 := fold1_range (n := 65535 - n + ws true false old) (by omega)
  have h3 := ws_range false new false
  have h4 := fold1_zero (x := fold1 (65535 - n + ws true false old) + ws false false new) (by omega) (by omega)
  have h5 := fold1_zero (x := 65535 - n + ws true false old) (by omega) (by omega)
  omega

/-- There and back: the sum, or noughts in place of ones. -/
theorem updSum_back {n : Int} {old new : List UInt8} (h : 0 ≤ n ∧ n ≤ 65535) (ho : old.length % 2 = 0) (hn : new.length % 2 = 0) :
    updSum (updSum n old new) new old = n ∨ (n = 65535 ∧ updSum (updSum n old new) new old = 0) := by
  have r1 := updSum_range (n := n) (old := old) (new := new) h
  have r2 := updSum_range (n := updSum n old new) (old := new) (new := old) r1
  obtain ⟨z1, e1⟩ := updSum_mod (new := new) h ho
  obtain ⟨z2, e2⟩ := updSum_mod (new := old) r1 hn
  have hf := fun hf => updSum_full (old := new) (new := old) r1 hn hf
  have hf1 := fun hf => updSum_full (old := old) (new := new) h ho hf
  omega

/-- The same where a sum of noughts means that there is none. -/
theorem updSum_back0 {n : Int} {old new : List UInt8} (h : 0 ≤ n ∧ n ≤ 65535) (h0 : n ≠ 0) (ho : old.length % 2 = 0) (hn : new.length % 2 = 0) {n1 n2 : Int}
    (h1 : n1 = if updSum n old new = 0 then 65535 else updSum n old new) (h2 : n2 = if updSum n1 new old = 0 then 65535 else updSum n1 new old) : n1 ≠ 0 ∧ n2 = n := by
  have r1 := updSum_range (n := n) (old := old) (new := new) h
  obtain ⟨z1, e1⟩ := updSum_mod (new := new) h ho
  have g1 : n1 ≠ 0 ∧ 0 ≤ n1 ∧ n1 ≤ 65535 ∧ ∃ y : Int, n1 = updSum n old new + 65535 * y := by
    rw [h1]; split
    · exact ⟨by omega, by omega, by omega, 1, by omega⟩
    · exact ⟨by assumption, by omega, by omega, 0, by omega⟩
  obtain ⟨g1, g2, g3, y, g4⟩ := g1
  refine ⟨g1, ?_⟩
  have r2 := updSum_range (n := n1) (old := new) (new := old) ⟨g2, g3⟩
  obtain ⟨z2, e2⟩ := updSum_mod (n := n1) (new := old) ⟨g2, g3⟩ hn
  rw [h2]; split <;> omega

theorem u8_toNat (x : Int) : ((u8 x).toNat : Int) = x % 256 := by
  unfold u8
  rw [UInt8.toNat_ofNat']
  omega

theorem two_be2 (a b : List UInt8) (x : Int) (h : 0 ≤ x ∧ x ≤ 65535) : two (a ++ be2 x ++ b) a.length = x := by
  unfold two bt
  have e1 : (a ++ be2 x ++ b).getD ((a.length : Nat) : Int).toNat 0 = u8 (x / 256) := by
    rw [Int.toNat_natCast]; simp [be2, List.getD]
  have e2 : (a ++ be2 x ++ b).getD ((a.length + 1 : Nat) : Int).toNat 0 = u8 x := by
    rw [Int.toNat_natCast]; simp [be2, List.getD, List.getElem?_append]
  rw [e1, e2, u8_toNat, u8_toNat]
  omega

theorem u8_bt (s : List UInt8) (i : Nat) (h : i < s.length) : u8 (bt s i) = s[i] := by
  unfold u8 bt
  rw [Int.toNat_natCast]
  have e : s.getD i 0 = s[i] := by simp [List.getD, h]
  rw [e]
  have := s[i].toNat_lt
  apply UInt8.toNat_inj.1
  rw [UInt8.toNat_ofNat']
  omega

/-- A number in a text, put back. -/
theorem be2_two (s : List UInt8) (i : Nat) (h : i + 1 < s.length) : be2 (two s i) = [s[i], s[i + 1]] := by
  unfold be2 two
  have h1 := bt_range s i
  have h2 := bt_range s (i + 1 : Nat)
  have e1 : (bt s i * 256 + bt s (i + 1 : Nat)) / 256 = bt s i := by omega
  have e2 : u8 (bt s i * 256 + bt s (i + 1 : Nat)) = u8 (bt s (i + 1 : Nat)) := by unfold u8; congr 2; omega
  rw [e1, e2, u8_bt s i (by omega), u8_bt s (i + 1) h]

theorem split_two (s : List UInt8) (k : Nat) (h : k + 2 ≤ s.length) : s = s.take k ++ be2 (two s k) ++ s.drop (k + 2) := by
  rw [be2_two s k (by omega)]
  conv => lhs; rw [← List.take_append_drop k s, List.drop_eq_getElem_cons (by omega), List.drop_eq_getElem_cons (by omega)]
  simp

theorem update_append {h r old new : List UInt8} {k : Nat} {none : Bool} (hk : h.length ≤ k) : update (h ++ r) k old new none = h ++ update r (k - h.length) old new none := by
  have ht : two (h ++ r) k = two r (k - h.length) := by
    unfold two bt
    rw [Int.toNat_natCast, Int.toNat_natCast, Int.toNat_natCast, Int.toNat_natCast]
    simp only [List.getD, List.getElem?_append]
    rw [if_neg (by omega), if_neg (by omega), show k + 1 - h.length = k - h.length + 1 by omega]
  unfold update
  rw [List.length_append, ht]
  by_cases c1 : r.length < k - h.length + 2
  · rw [if_pos (by omega), if_pos c1]
  rw [if_neg (by omega), if_neg c1]
  by_cases c2 : none = true ∧ two r (k - h.length) = 0
  · rw [if_pos c2, if_pos c2]
  rw [if_neg c2, if_neg c2, List.take_append, List.drop_append, List.take_of_length_le hk, List.drop_eq_nil_of_le (by omega), List.nil_append, show k + 2 - h.length = k - h.length + 2 by omega]
  simp only [List.append_assoc]

/-- Data as they were, but for a sum of ones at a place, which may be noughts then. -/
def likeAt (k : Nat) (a b : List UInt8) : Prop := b = a ∨ (k + 2 ≤ a.length ∧ two a k = 65535 ∧ b = a.take k ++ be2 0 ++ a.drop (k + 2))

theorem update_back {d old new : List UInt8} {k : Nat} (ho : old.length % 2 = 0) (hn : new.length % 2 = 0) : likeAt k d (update (update d k old new false) k new old false) := by
  have hl := update_len d k old new false
  by_cases c : d.length < k + 2
  · left
    have e1 : update d k old new false = d := by unfold update; rw [if_pos c]
    rw [e1]; unfold update; rw [if_pos c]
  · have hr := two_range d k
    have r1 := updSum_range (n := two d k) (old := old) (new := new) hr
    have e1 : update d k old new false = d.take k ++ be2 (updSum (two d k) old new) ++ d.drop (k + 2) := by
      unfold update; rw [if_neg c, if_neg (by simp), if_neg (by simp)]
    have hk : (d.take k).length = k := by rw [List.length_take]; omega
    have ht : two (d.take k ++ be2 (updSum (two d k) old new) ++ d.drop (k + 2)) k = updSum (two d k) old new := by
      have := two_be2 (d.take k) (d.drop (k + 2)) _ r1
      rwa [hk] at this
    have e2 : update (d.take k ++ be2 (updSum (two d k) old new) ++ d.drop (k + 2)) k new old false = d.take k ++ be2 (updSum (updSum (two d k) old new) new old) ++ d.drop (k + 2) := by
      unfold update
      rw [if_neg (by simp [be2_len]; omega), if_neg (by simp), if_neg (by simp), ht]
      congr 1
      · congr 1
        rw [List.append_assoc, List.take_append_of_le_length (by omega), List.take_take]; congr 1; omega
      · rw [List.drop_append, List.drop_eq_nil_of_le (by simp [be2_len]; omega), List.nil_append, List.length_append, hk, be2_len, Nat.sub_self, List.drop_zero]
    rw [e1, e2]
    rcases updSum_back (old := old) (new := new) hr ho hn with h | ⟨h, h'⟩
    · left; rw [h]; exact (split_two d k (by omega)).symm
    · right; rw [h']; exact ⟨by omega, h, rfl⟩

theorem update_back0 {d old new : List UInt8} {k : Nat} (ho : old.length % 2 = 0) (hn : new.length % 2 = 0) : update (update d k old new true) k new old true = d := by
  by_cases c : d.length < k + 2
  · have e1 : update d k old new true = d := by unfold update; rw [if_pos c]
    rw [e1]; unfold update; rw [if_pos c]
  · have hr := two_range d k
    by_cases c2 : two d k = 0
    · have e1 : ∀ o n, update d k o n true = d := by intro o n; unfold update; rw [if_neg c, if_pos ⟨rfl, c2⟩]
      rw [e1, e1]
    have r1 := updSum_range (n := two d k) (old := old) (new := new) hr
    generalize hn1 : (if updSum (two d k) old new = 0 then 65535 else updSum (two d k) old new) = n1
    generalize hn2 : (if updSum n1 new old = 0 then 65535 else updSum n1 new old) = n2
    obtain ⟨g1, g2⟩ := updSum_back0 hr c2 ho hn hn1.symm hn2.symm
    have hn1r : 0 ≤ n1 ∧ n1 ≤ 65535 := by rw [← hn1]; split <;> omega
    have e1 : update d k old new true = d.take k ++ be2 n1 ++ d.drop (k + 2) := by
      unfold update; rw [if_neg c, if_neg (fun h => c2 h.2), ← hn1]; simp only [true_and]
    have hk : (d.take k).length = k := by rw [List.length_take]; omega
    have ht : two (d.take k ++ be2 n1 ++ d.drop (k + 2)) k = n1 := by
      have := two_be2 (d.take k) (d.drop (k + 2)) _ hn1r
      rwa [hk] at this
    have e2 : update (d.take k ++ be2 n1 ++ d.drop (k + 2)) k new old true = d.take k ++ be2 n2 ++ d.drop (k + 2) := by
      unfold update
      rw [if_neg (by simp [be2_len]; omega), ht, if_neg (fun h => g1 h.2), ← hn2]
      simp only [true_and]
      congr 1
      · congr 1
        rw [List.append_assoc, List.take_append_of_le_length (by omega), List.take_take]; congr 1; omega
      · rw [List.drop_append, List.drop_eq_nil_of_le (by simp [be2_len]; omega), List.nil_append, List.length_append, hk, be2_len, Nat.sub_self, List.drop_zero]
    rw [e1, e2, g2]
    exact (split_two d k (by omega)).symm
end Go.Rx.L15F
