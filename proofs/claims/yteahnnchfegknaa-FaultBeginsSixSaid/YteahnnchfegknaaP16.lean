/- Plain laws of interpreterlaw15's functions: what Quote4 makes of a packet's beginning. -/
import Derived.Test.YteahnnchfegknaaP15e
import Derived.Test.YteahnnchfegknaaP15g
set_option linter.unusedVariables false
set_option linter.unusedSimpArgs false
namespace Go.Rx.L15F
open Go.Rx

/-- The packet with the first m bytes of its data. -/
def cut6 (p : Ip6) (m : Nat) : Ip6 := { p with Data := p.Data.take m }

theorem turn4_prefix {p : Ip6} {claim : Int} {from_ to_ : T4} {m : Nat} (hm : m ≤ p.Data.length) (h8 : 8 ≤ m) (h17 : ¬ (p.Proto = 6 ∧ m = 17 ∧ ¬ 0 < p.At)) :
    turn4 (cut6 p m) claim from_ to_ = (turn4 p claim from_ to_).take m := by
  have hlen : (p.Data.take m).length = m := by rw [List.length_take]; omega
  have b0 := bt_take p.Data m 0 (by omega)
  have b1 := bt_take p.Data m 1 (by omega)
  norm_cast at b0 b1
  unfold turn4 cut6
  simp only [hlen]
  rw [b0, b1]
  by_cases c1 : 0 < p.At
  · rw [if_pos c1, if_pos c1]
  rw [if_neg c1, if_neg c1]
  by_cases c2 : p.Proto = 6 ∨ p.Proto = 17
  · rw [if_pos c2, if_pos c2]
    exact ported_prefix hm h8 (by
      rcases c2 with c | c
      · exact .inr (fun e => h17 ⟨c, e, c1⟩)
      · exact .inl c)
  rw [if_neg c2, if_neg c2]
  by_cases c3 : p.Proto = 58 ∧ 8 ≤ m ∧ (bt p.Data 0 = 128 ∨ bt p.Data 0 = 129) ∧ bt p.Data 1 = 0
  · rw [if_pos c3, if_pos (show p.Proto = 58 ∧ 8 ≤ p.Data.length ∧ (bt p.Data 0 = 128 ∨ bt p.Data 0 = 129) ∧ bt p.Data 1 = 0 from ⟨c3.1, by omega, c3.2.2⟩)]
    exact echoed_prefix hm h8
  · rw [if_neg c3, if_neg (fun h => c3 ⟨h.1, h8, h.2.2⟩)]

theorem q4_prefix {p : Ip6} {claim : Int} {from_ to_ : T4} {m : Nat} (hm : m ≤ p.Data.length) (h8 : 8 ≤ m) (hc : (p.Data.length : Int) ≤ claim) :
    ((∃ c, q4 p claim from_ to_ = ([], some (c, 0), ()) ∧ q4 (cut6 p m) claim from_ to_ = ([], some (c, 0), ())) ∨
     (∃ h, h.length = 20 ∧ q4 p claim from_ to_ = (h ++ turn4 p claim from_ to_, none, ()) ∧
      q4 (cut6 p m) claim from_ to_ = (h ++ turn4 (cut6 p m) claim from_ to_, none, ()))) := by
  have hlen : (p.Data.take m).length = m := by rw [List.length_take]; omega
  have hf : fit4 (cut6 p m) claim from_ to_ ↔ fit4 p claim from_ to_ := by
    unfold fit4 cut6
    simp only [hlen]
    constructor
    · rintro ⟨h1, h2, h3, h4, h5, h6, h7⟩; exact ⟨h1, h2, h3, h4, h5, h6, hc⟩
    · rintro ⟨h1, h2, h3, h4, h5, h6, h7⟩; exact ⟨h1, h2, h3, h4, h5, h6, by omega⟩
  have e1 : (cut6 p m).Proto = p.Proto := rfl
  have e3 : (cut6 p m).At = p.At := rfl
  have e4 : head4 (cut6 p m) claim (if (cut6 p m).Frag = true then (cut6 p m).Id % 65536 else 0) (flags4 (cut6 p m) claim) from_ to_ = head4 p claim (if p.Frag = true then p.Id % 65536 else 0) (flags4 p claim) from_ to_ := rfl
  unfold q4
  rw [e1, e3, e4]
  by_cases c1 : fit4 p claim from_ to_
  · rw [if_neg (not_not_intro c1), if_neg (not_not_intro (hf.2 c1))]
    by_cases c2 : (proto4 p.Proto).2 = false
    · rw [if_pos c2, if_pos c2]; exact .inl ⟨10, rfl, rfl⟩
    · rw [if_neg c2, if_neg c2]
      by_cases c3 : 65515 - p.At < claim
      · rw [if_pos c3, if_pos c3]; exact .inl ⟨3, rfl, rfl⟩
      · rw [if_neg c3, if_neg c3]; exact .inr ⟨_, head4_len _ _ _ _ _ _, rfl, rfl⟩
  · rw [if_pos c1, if_pos (fun h => c1 (hf.1 h) : ¬ fit4 (cut6 p m) claim from_ to_)]; exact .inl ⟨13, rfl, rfl⟩
end Go.Rx.L15F
