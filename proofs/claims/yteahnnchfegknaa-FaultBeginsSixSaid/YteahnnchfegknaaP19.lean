/- Plain laws of interpreterlaw15's functions: interpreterref04.Bytes, told plainly, and read by Inside6. -/
import Derived.Test.YteahnnchfegknaaP18
set_option linter.unusedVariables false
set_option linter.unusedSimpArgs false
namespace Go.Rx.L15F
open Go.Rx

/-- The kind of what is next. -/
def nextOf : List Ext1 → Int → Int
  | [], f => f
  | e :: _, _ => e.1
def lenB (e : Ext1) : UInt8 := tb (IntKind.i64.wrap (IntKind.i64.wrap ((IntKind.i64.wrap ((e.2.length : Int) + 2)).tdiv 8) - 1))
/-- The extensions' bytes. -/
def extsB : List Ext1 → Int → List UInt8
  | [], _ => []
  | e :: l, f => [tb (nextOf l f)] ++ [lenB e] ++ e.2 ++ extsB l f

theorem nexts_cons : ∀ (l : List Ext1) (f : Int) (r : List Int), nexts23 l (f :: r) = nextOf l f :: tail23 (nexts23 l (f :: r))
  | [], f, r => rfl
  | e :: l, f, r => rfl

theorem body23_ok {R : Type} (f : Int) (r : List Int) (K : List UInt8 → Option R) : ∀ (es : List Ext1) (s : List UInt8), (∀ e ∈ es, e.2.length ≤ 2046) → s.length + 3000 * es.length ≤ 1000000 →
    body23 s es (tail23 (nexts23 es (f :: r))) K = K (s ++ extsB es f)
  | [], s, _, _ => by
    show K s = _
    rw [extsB, List.append_nil]
  | e :: l, s, hs, hl => by
    have he := hs e (by simp)
    simp only [List.length_cons] at hl
    show body23 s (e :: l) (nexts23 l (f :: r)) K = _
    rw [nexts_cons]
    unfold body23
    rw [gd_cat (by simp; omega), gd_cat (by simp; omega), gd_cat (by simp; omega)]
    rw [body23_ok f r K l _ (fun x hx => hs x (by simp [hx])) (by simp; omega)]
    congr 1
    simp only [extsB, List.append_assoc]; rfl

theorem extsB_len : ∀ (es : List Ext1) (f : Int), ((extsB es f).length : Int) = sizeE es
  | [], f => rfl
  | e :: l, f => by
    have := extsB_len l f
    simp only [extsB, List.length_append, List.length_singleton, sizeE]; omega

theorem tb_byte {x : Int} (h : 0 ≤ x ∧ x ≤ 255) : (((tb x).toNat : Nat) : Int) = x := by
  rw [tb_eq h.1]
  unfold u8
  have := Int.emod_emod_of_dvd x (Int.dvd_refl 256)
  rw [show x % 256 = x by omega]
  exact byte_back h
theorem bt_zero (b : UInt8) (l : List UInt8) : bt (b :: l) 0 = ((b.toNat : Nat) : Int) := rfl
theorem bt_one (a b : UInt8) (l : List UInt8) : bt (a :: b :: l) 1 = ((b.toNat : Nat) : Int) := rfl

theorem lenB_eq {e : Ext1} {i : Bool} (h : FormOk i e) : (((lenB e).toNat : Nat) : Int) = (((e.2.length + 2) / 8 - 1 : Nat) : Int) := by
  have h1 := h.least
  have h2 := h.most
  unfold lenB
  rw [wrap_i64 (n := (e.2.length : Int) + 2) (by omega) (by omega), Int.tdiv_eq_ediv_of_nonneg (by omega), wrap_i64 (n := ((e.2.length : Int) + 2) / 8) (by omega) (by omega), wrap_i64 (n := ((e.2.length : Int) + 2) / 8 - 1) (by omega) (by omega), tb_byte (by omega)]
  omega

theorem chain_ext (f : Int) (hf : ¬ (f = 0 ∨ f = 43 ∨ f = 60)) (hf2 : 0 ≤ f ∧ f ≤ 255) (D : List UInt8) : ∀ (es acc : List Ext1) (k : Nat), es.length < k → acc.length + es.length ≤ 8 → (∀ e ∈ es, kindOk e) → formsOk acc.isEmpty es →
    chain k acc (nextOf es f) (extsB es f ++ D) = .ok (acc ++ es) f D
  | [], acc, k, hk, _, _, _ => by
    obtain ⟨k, rfl⟩ : ∃ j, k = j + 1 := ⟨k - 1, by simp at hk; omega⟩
    unfold chain
    rw [if_neg (show ¬ (nextOf [] f = 0 ∨ nextOf [] f = 43 ∨ nextOf [] f = 60) from hf), List.append_nil]; rfl
  | e :: l, acc, k, hk, hl, hkd, hfm => by
    obtain ⟨k, rfl⟩ : ∃ j, k = j + 1 := ⟨k - 1, by simp at hk; omega⟩
    simp only [List.length_cons] at hk hl
    have h1 := hfm.1.least
    have h2 := hfm.1.most
    have h3 := hfm.1.whole
    have hke : e.1 = 0 ∨ e.1 = 43 ∨ e.1 = 60 := hkd e (by simp)
    have hnx : 0 ≤ nextOf l f ∧ nextOf l f ≤ 255 := by
      cases l with
      | nil => exact hf2
      | cons x l =>
        have hx : x.1 = 0 ∨ x.1 = 43 ∨ x.1 = 60 := hkd x (by simp)
        show 0 ≤ x.1 ∧ x.1 ≤ 255
        omega
    have ed : extsB (e :: l) f ++ D = tb (nextOf l f) :: lenB e :: (e.2 ++ (extsB l f ++ D)) := by
      simp only [extsB, List.append_assoc]; rfl
    have hnn : nn (tb (nextOf l f) :: lenB e :: (e.2 ++ (extsB l f ++ D))) = e.2.length + 2 := by
      unfold nn
      rw [if_pos (by simp), bt_one, lenB_eq hfm.1]
      omega
    rw [ed]
    unfold chain
    rw [hnn, if_pos (show nextOf (e :: l) f = 0 ∨ nextOf (e :: l) f = 43 ∨ nextOf (e :: l) f = 60 from hke)]
    have hz : ¬ (nextOf (e :: l) f = 0 ∧ 0 < acc.length) := by
      rintro ⟨q1, q2⟩
      have := hfm.1.zero q1
      cases acc with
      | nil => simp at q2
      | cons => simp at this
    rw [if_neg hz, if_neg (by omega), if_neg (by simp)]
    have e1 : ((tb (nextOf l f) :: lenB e :: (e.2 ++ (extsB l f ++ D))).drop 2).take (e.2.length + 2 - 2) = e.2 := by
      show (e.2 ++ (extsB l f ++ D)).take (e.2.length + 2 - 2) = e.2
      rw [Nat.add_sub_cancel, List.take_append_of_le_length (Nat.le_refl _), List.take_length]
    have e2 : (tb (nextOf l f) :: lenB e :: (e.2 ++ (extsB l f ++ D))).drop (e.2.length + 2) = extsB l f ++ D := by
      show (e.2 ++ (extsB l f ++ D)).drop e.2.length = _
      rw [List.drop_append_of_le_length (Nat.le_refl _), List.drop_length, List.nil_append]
    rw [e1, e2, bt_zero, tb_byte hnx]
    have := chain_ext f hf hf2 D l (acc ++ [(nextOf (e :: l) f, e.2)]) k (by omega) (by simp; omega) (fun x hx => hkd x (by simp [hx])) (by
      rw [show (acc ++ [(nextOf (e :: l) f, e.2)]).isEmpty = false by cases acc <;> rfl]; exact hfm.2)
    rw [this]
    show ChR.ok (acc ++ [(e.1, e.2)] ++ l) f D = ChR.ok (acc ++ e :: l) f D
    rw [List.append_assoc]; rfl

/-- The protocol at the extensions' end. -/
def fin6 (a : Ip6) : Int := if a.Frag = true then 44 else a.Proto
def fragB (a : Ip6) : List UInt8 := if a.Frag = true then [tb a.Proto] ++ [tb 0] ++ p2 (if a.More = true then a.At + 1 else a.At) ++ p4 (IntKind.i64.wrap a.Id) else []
def back6 (a : Ip6) (es : List Ext1) : List UInt8 := extsB es (fin6 a) ++ fragB a
def all6 (a : Ip6) (es : List Ext1) : List UInt8 := head23b a (nextOf es (fin6 a)) ((back6 a es ++ a.Data).length : Int) ++ (back6 a es ++ a.Data)

theorem head23b_len (a : Ip6) (n l : Int) : (head23b a n l).length = 40 := rfl

theorem end23_ok {a : Ip6} {next : Int} {s : List UInt8} (h : s.length + a.Data.length ≤ 1000000) : end23 a next s = some (head23b a next ((s ++ a.Data).length : Int) ++ (s ++ a.Data), 0, ()) := by
  unfold end23
  rw [gd_cat (by omega), gd_cat (by rw [head23b_len, List.length_append]; omega)]

theorem bytes23_ok {a : Ip6} {es : List Ext1} (hr : Right6 a es) (hd : a.Data.length ≤ 70000) : bytes23 a es = some (all6 a es, 0, ()) := by
  have hat := hr.nums.at_
  have hlen := forms_len hr.forms
  have hfew := hr.few
  have hall := hr.all
  have hsz : ∀ f, (extsB es f).length ≤ 65535 := by
    intro f
    have := extsB_len es f
    split at hall <;> omega
  unfold bytes23 all6 back6 fragB fin6
  cases hf : a.Frag with
  | true =>
    simp only [if_true]
    rw [cond_true, body23_ok 44 [a.Proto] _ es [] hlen (by simp; omega), List.nil_append]
    have hh : head23 0 (nexts23 es [44, a.Proto]) = nextOf es 44 := by rw [nexts_cons]; rfl
    have := hsz 44
    unfold rest23
    rw [hh, hf, cond_true]
    have hfr : ∀ at_ : Int, frag23 a at_ (nextOf es 44) (extsB es 44) = some (head23b a (nextOf es 44) ((extsB es 44 ++ ([tb a.Proto] ++ [tb 0] ++ p2 at_ ++ p4 (IntKind.i64.wrap a.Id)) ++ a.Data).length : Int) ++ (extsB es 44 ++ ([tb a.Proto] ++ [tb 0] ++ p2 at_ ++ p4 (IntKind.i64.wrap a.Id)) ++ a.Data), 0, ()) := by
      intro at_
      unfold frag23
      rw [gd_cat (by simp; omega), gd_cat (by simp; omega), gd_cat (by simp [p2]; omega), gd_cat (by simp [p2, p4]; omega), end23_ok (by simp [p2, p4]; omega)]
      simp only [List.append_assoc]
    cases hm : a.More with
    | true => rw [cond_true, wrap_i64 (n := a.At + 1) (by omega) (by omega), hfr, if_pos rfl]
    | false => rw [cond_false, hfr, if_neg (by decide)]
  | false =>
    simp only [Bool.false_eq_true, if_false]
    rw [cond_false, body23_ok a.Proto [] _ es [] hlen (by simp; omega), List.nil_append, List.append_nil]
    have hh : head23 0 (nexts23 es [a.Proto]) = nextOf es a.Proto := by rw [nexts_cons]; rfl
    have := hsz a.Proto
    unfold rest23
    rw [hh, hf, cond_false, end23_ok (by omega)]
end Go.Rx.L15F
