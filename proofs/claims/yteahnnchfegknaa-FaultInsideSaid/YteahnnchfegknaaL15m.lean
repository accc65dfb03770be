/- Two packets of IPv6 that are the same: interpreterref04.Same. -/
import Derived.Test.YteahnnchfegknaaP15f
import Derived.Test.YteahnnchfegknaaL15k
import Derived.Test.YteahnnchfegknaaL15l
set_option linter.unusedVariables false
set_option linter.unusedSimpArgs false
set_option maxRecDepth 100000
set_option maxHeartbeats 0
namespace Go.Rx.L15F
open Go.Proofs Go.Rx
noncomputable def C20 : Cfg Try.prog := ⟨[], [], fun _ _ => ⟨[2, 3, 4, 5], [2, 3, 4, 5]⟩, []⟩
def tail20 (a : Ip6) : Option Bool :=
  bif a.Class == a.Class then
    bif a.Flow == a.Flow then
      bif a.Hop == a.Hop then
        bif a.From.b0 == a.From.b0 && (a.From.b1 == a.From.b1 && (a.From.b2 == a.From.b2 && (a.From.b3 == a.From.b3 && (a.From.b4 == a.From.b4 && (a.From.b5 == a.From.b5 && (a.From.b6 == a.From.b6 && (a.From.b7 == a.From.b7 && (a.From.b8 == a.From.b8 && (a.From.b9 == a.From.b9 && (a.From.b10 == a.From.b10 && (a.From.b11 == a.From.b11 && (a.From.b12 == a.From.b12 && (a.From.b13 == a.From.b13 && (a.From.b14 == a.From.b14 && (a.From.b15 == a.From.b15 && true))))))))))))))) then
          bif a.To.b0 == a.To.b0 && (a.To.b1 == a.To.b1 && (a.To.b2 == a.To.b2 && (a.To.b3 == a.To.b3 && (a.To.b4 == a.To.b4 && (a.To.b5 == a.To.b5 && (a.To.b6 == a.To.b6 && (a.To.b7 == a.To.b7 && (a.To.b8 == a.To.b8 && (a.To.b9 == a.To.b9 && (a.To.b10 == a.To.b10 && (a.To.b11 == a.To.b11 && (a.To.b12 == a.To.b12 && (a.To.b13 == a.To.b13 && (a.To.b14 == a.To.b14 && (a.To.b15 == a.To.b15 && true))))))))))))))) then
            bif a.Frag == a.Frag then
              bif a.Id == a.Id then
                bif a.At == a.At then
                  bif a.More == a.More then
                    bif a.Proto == a.Proto then
                      some (a.Data == a.Data)
                    else
                      some (false)
                  else
                    some (false)
                else
                  some (false)
              else
                some (false)
            else
              some (false)
          else
            some (false)
        else
          some (false)
      else
        some (false)
    else
      some (false)
  else
    some (false)
def same20 : List Ext1 → Ip6 → Option Bool
  | [], a => tail20 a
  | e :: es, a => bif !(e.1 == e.1 && (e.2 == e.2 && true)) then some false else same20 es a

theorem tail20_true (a : Ip6) : tail20 a = some true := by
  unfold tail20
  have h : ∀ z : Int, (z == z) = true := fun z => beq_self_eq_true z
  have h1 : ∀ z : List UInt8, (z == z) = true := fun z => beq_self_eq_true z
  have h2 : ∀ z : Bool, (z == z) = true := fun z => beq_self_eq_true z
  simp only [h, h1, h2, Bool.and_self, cond_true]
theorem same20_true (a : Ip6) : ∀ es : List Ext1, same20 es a = some true
  | [] => tail20_true a
  | e :: es => by
    have h : ∀ z : Int, (z == z) = true := fun z => beq_self_eq_true z
    have h1 : ∀ z : List UInt8, (z == z) = true := fun z => beq_self_eq_true z
    simp only [same20, h, h1, Bool.and_self, Bool.not_true, cond_false, same20_true a es]

def with6 (a : Ip6) (es : List Ext1) : Ip6 := { Class := a.Class, Flow := a.Flow, Hop := a.Hop, From := a.From, To := a.To, Exts := exts2 es, Frag := a.Frag, Id := a.Id, At := a.At, More := a.More, Proto := a.Proto, Data := a.Data }
noncomputable def ev20 (a : Ip6) (es : List Ext1) (u : Unit) : Option Bool := evTop Try.prog C20 6 20 ((CodL.cons (Cod.agg lIp6) (CodL.cons (Cod.agg lIp6) CodL.nil)).val (with6 a es, with6 a es, u)) (fun v => Cod.bool.dec v some)
theorem ev20_0 (a : Ip6) (u : Unit) : ev20 a [] u = same20 [] a := by kernel_rfl
theorem ev20_1 (a : Ip6) (e0 : Ext1) (u : Unit) : ev20 a [e0] u = same20 [e0] a := by kernel_rfl
theorem ev20_2 (a : Ip6) (e0 e1 : Ext1) (u : Unit) : ev20 a [e0, e1] u = same20 [e0, e1] a := by kernel_rfl
theorem ev20_3 (a : Ip6) (e0 e1 e2 : Ext1) (u : Unit) : ev20 a [e0, e1, e2] u = same20 [e0, e1, e2] a := by kernel_rfl
theorem ev20_4 (a : Ip6) (e0 e1 e2 e3 : Ext1) (u : Unit) : ev20 a [e0, e1, e2, e3] u = same20 [e0, e1, e2, e3] a := by kernel_rfl
theorem ev20_5 (a : Ip6) (e0 e1 e2 e3 e4 : Ext1) (u : Unit) : ev20 a [e0, e1, e2, e3, e4] u = same20 [e0, e1, e2, e3, e4] a := by kernel_rfl
theorem ev20_6 (a : Ip6) (e0 e1 e2 e3 e4 e5 : Ext1) (u : Unit) : ev20 a [e0, e1, e2, e3, e4, e5] u = same20 [e0, e1, e2, e3, e4, e5] a := by kernel_rfl
theorem ev20_7 (a : Ip6) (e0 e1 e2 e3 e4 e5 e6 : Ext1) (u : Unit) : ev20 a [e0, e1, e2, e3, e4, e5, e6] u = same20 [e0, e1, e2, e3, e4, e5, e6] a := by kernel_rfl
theorem ev20_8 (a : Ip6) (e0 e1 e2 e3 e4 e5 e6 e7 : Ext1) (u : Unit) : ev20 a [e0, e1, e2, e3, e4, e5, e6, e7] u = same20 [e0, e1, e2, e3, e4, e5, e6, e7] a := by kernel_rfl
theorem ev20_all (a : Ip6) (u : Unit) : ∀ es : List Ext1, es.length ≤ 8 → ev20 a es u = some true
  | [], _ => by rw [ev20_0]; exact same20_true a _
  | [e0], _ => by rw [ev20_1]; exact same20_true a _
  | [e0, e1], _ => by rw [ev20_2]; exact same20_true a _
  | [e0, e1, e2], _ => by rw [ev20_3]; exact same20_true a _
  | [e0, e1, e2, e3], _ => by rw [ev20_4]; exact same20_true a _
  | [e0, e1, e2, e3, e4], _ => by rw [ev20_5]; exact same20_true a _
  | [e0, e1, e2, e3, e4, e5], _ => by rw [ev20_6]; exact same20_true a _
  | [e0, e1, e2, e3, e4, e5, e6], _ => by rw [ev20_7]; exact same20_true a _
  | [e0, e1, e2, e3, e4, e5, e6, e7], _ => by rw [ev20_8]; exact same20_true a _
  | _ :: _ :: _ :: _ :: _ :: _ :: _ :: _ :: _ :: _, h => by simp at h

open Classical in
/-- interpreterref04.Same, of one packet and itself -/
noncomputable def F20 (a b : Ip6) : Option Bool := if a = b ∧ ∃ es : List Ext1, es.length ≤ 8 ∧ a.Exts = exts2 es then some true else none

theorem F20_imp : ∀ a b, (fun a : Ip6 × Ip6 × Unit => F20 a.1 a.2.1) a = some b → evTop Try.prog C20 6 20 (CodL.val (CodL.cons (Cod.agg lIp6) (CodL.cons (Cod.agg lIp6) CodL.nil)) a) (fun v => Cod.dec Cod.bool v some) = some b := by
  rintro ⟨a, a', u⟩ b h
  simp only [F20] at h
  split at h
  · rename_i hh
    obtain ⟨rfl, es, h1, h2⟩ := hh
    cases h
    have : a = with6 a es := by unfold with6; rw [← h2]
    rw [this]
    exact ev20_all a u es h1
  · cases h

noncomputable def d20 : Ctr Try.prog := Ctr.ofF 20 (CodL.cons (Cod.agg lIp6) (CodL.cons (Cod.agg lIp6) CodL.nil)) Cod.bool (fun a => F20 a.1 a.2.1) (pcalls_of_imp (C := C20) (d := 6) mix noLoops F20_imp)

theorem F20_same {a : Ip6} {es : List Ext1} (h : es.length ≤ 8) (he : a.Exts = exts2 es) : F20 a a = some true := by
  unfold F20
  rw [if_pos ⟨rfl, es, h, he⟩]
end Go.Rx.L15F
