/- What the reference's packets of IPv6 are as bytes: interpreterref04.Bytes, told in Lean. -/
import Derived.Test.YteahnnchfegknaaL15r
import Derived.Test.YteahnnchfegknaaL15s
import Derived.Test.YteahnnchfegknaaL15t
set_option linter.unusedVariables false
set_option linter.unusedSimpArgs false
set_option maxRecDepth 100000
set_option maxHeartbeats 0
namespace Go.Rx.L15F
open Go.Proofs Go.Rx
theorem ev23_all {G59 : Ip6 → Option Int} (h59 : P59 G59) (a : Ip6) (u : Unit) : ∀ es : List Ext1, es.length ≤ 8 → ev23 h59 a false es u = T23 G59 a false es
  | [], _ => ev23_0 h59 a u
  | [e0], _ => ev23_1 h59 a e0 u
  | [e0, e1], _ => ev23_2 h59 a e0 e1 u
  | [e0, e1, e2], _ => ev23_3 h59 a e0 e1 e2 u
  | [e0, e1, e2, e3], _ => ev23_4 h59 a e0 e1 e2 e3 u
  | [e0, e1, e2, e3, e4], _ => ev23_5 h59 a e0 e1 e2 e3 e4 u
  | [e0, e1, e2, e3, e4, e5], _ => ev23_6 h59 a e0 e1 e2 e3 e4 e5 u
  | [e0, e1, e2, e3, e4, e5, e6], _ => ev23_7 h59 a e0 e1 e2 e3 e4 e5 e6 u
  | [e0, e1, e2, e3, e4, e5, e6, e7], _ => ev23_8 h59 a e0 e1 e2 e3 e4 e5 e6 e7 u
  | _ :: _ :: _ :: _ :: _ :: _ :: _ :: _ :: _ :: _, h => absurd h (by simp)
/-- A loop that is not walked. -/
noncomputable def loop23 : LoopCtr Try.prog := ⟨23, 6, tmpsIn Try.prog 23, loopAt Try.prog 23 6, fun _ _ => none, fun _ _ _ h => by cases h⟩
theorem evW23 {G59 : Ip6 → Option Int} (h59 : P59 G59) (a : Ip6) (nil : Bool) (l : List V) (u : Unit) :
    evTop Try.prog ⟨[Ctr.ofF 59 l59 (Cod.int .i64) (fun a => G59 a.1) h59, d60], [], fun _ _ => ⟨[], []⟩, [loop23]⟩ 6 23 (l59.val ({ Class := a.Class, Flow := a.Flow, Hop := a.Hop, From := a.From, To := a.To, Exts := (nil, 2, l), Frag := a.Frag, Id := a.Id, At := a.At, More := a.More, Proto := a.Proto, Data := a.Data }, u)) (fun v => r23.dec v some) =
      gd (Nat.beq 2 2 || nil) ((G59 { Class := a.Class, Flow := a.Flow, Hop := a.Hop, From := a.From, To := a.To, Exts := (nil, 2, l), Frag := a.Frag, Id := a.Id, At := a.At, More := a.More, Proto := a.Proto, Data := a.Data }).bind fun w => bif !(w == 0) then some ([], w, ()) else none) := by kernel_rfl
/-- interpreterref04.Bytes -/
def F23 (p : Ip6) : Option (List UInt8 × Int × Unit) := (okExts p).bind fun es => (F59 p).bind fun w => bif !(w == 0) then some ([], w, ()) else if es.length ≤ 8 then bytes23 p es else none
theorem F59_calls : P59 F59 := pcalls_of_imp (C := C59) (d := 6) mix noLoops F59_imp
theorem loops23 : ∀ fn c, Try.prog.funcs[23]? = some fn → fn.body = some c → LoopsOk (P := Try.prog) ⟨[Ctr.ofF 59 l59 (Cod.int .i64) (fun a => F59 a.1) F59_calls, d60], [], fun _ _ => ⟨[], []⟩, [loop23]⟩ 23 c := loopsOk_of (by
    have h : loopsOf (bodyIn Try.prog 23) = [loopAt Try.prog 23 6, loopAt Try.prog 23 14, loopAt Try.prog 23 25, loopAt Try.prog 23 29] := by kernel_rfl
    have k14 : firstRegion (loopAt Try.prog 23 14) = 14 := by kernel_rfl
    have k25 : firstRegion (loopAt Try.prog 23 25) = 25 := by kernel_rfl
    have k29 : firstRegion (loopAt Try.prog 23 29) = 29 := by kernel_rfl
    intro b hb q hq _ hk
    rw [h] at hb
    rw [List.mem_singleton.1 hq] at hk ⊢
    have hk' : 6 = firstRegion b := hk
    simp only [List.mem_cons, List.not_mem_nil, or_false] at hb
    rcases hb with rfl | rfl | rfl | rfl
    · rfl
    · rw [k14] at hk'; cases hk'
    · rw [k25] at hk'; cases hk'
    · rw [k29] at hk'; cases hk')
theorem F23_calls (a : Ip6 × Unit) (b : List UInt8 × Int × Unit) (h : F23 a.1 = some b) : PCalls Try.prog 23 (l59.val a) (r23.val b) := by
  obtain ⟨p, u⟩ := a
  simp only [F23, Option.bind_eq_some_iff] at h
  obtain ⟨es, h1, w, h2, h3⟩ := h
  obtain ⟨e, hl, hn⟩ := okExts_some h1
  cases hw : (!(w == 0)) with
  | true =>
    rw [hw, cond_true] at h3
    refine pcalls_of_imp (F := fun a : Ip6 × Unit => (F59 a.1).bind fun w => bif !(w == 0) then some ([], w, ()) else none) mix loops23 (d := 6) (ca := l59) (cb := r23) ?_ (p, u) b ?_
    · rintro ⟨q, v⟩ c hc
      have hs : q.Exts.2.1 = 2 := by
        rw [Option.bind_eq_some_iff] at hc
        obtain ⟨w', g1, _⟩ := hc
        unfold F59 at g1
        rw [Option.bind_eq_some_iff] at g1
        obtain ⟨es', g2, _⟩ := g1
        exact congrArg (fun z : Ip6 => z.Exts.2.1) (okExts_some g2).1
      have := evW23 F59_calls q q.Exts.1 q.Exts.2.2 v
      rw [show (Nat.beq 2 2 || q.Exts.1) = true from rfl, gd_true rfl] at this
      have eq : ({ Class := q.Class, Flow := q.Flow, Hop := q.Hop, From := q.From, To := q.To, Exts := (q.Exts.1, 2, q.Exts.2.2), Frag := q.Frag, Id := q.Id, At := q.At, More := q.More, Proto := q.Proto, Data := q.Data } : Ip6) = q := by
        rw [← hs]
      rw [eq] at this
      rw [this]; exact hc
    · show (F59 p).bind _ = _
      rw [h2, Option.bind_some, hw, cond_true]; exact h3
  | false =>
    rw [hw, cond_false] at h3
    split at h3
    · rename_i h8
      have key : evIn Try.prog (C23 F59_calls) 7 23 (CodL.val l59 (withN p p.Exts.1 es, u)) (fun v => r23.dec v some) = some b := by
        have hT : T23 F59 p p.Exts.1 es = some b := by
          unfold T23
          rw [← e, h2, Option.bind_some, hw, cond_false]; exact h3
        show ev23 F59_calls p p.Exts.1 es u = some b
        cases hb : p.Exts.1 with
        | true => rw [hb, hn hb] at hT; rw [hn hb, ev23_nil]; exact hT
        | false => rw [hb] at hT; rw [ev23_all F59_calls p u es h8]; exact hT
      rw [← e] at key
      obtain ⟨v, g1, g2⟩ := evIn_ok mix key
      obtain ⟨b', g3, g4⟩ := Cod.dec_some r23 g1
      cases g4; subst g3
      exact g2
    · cases h3
noncomputable def d23 : Ctr Try.prog := Ctr.ofF 23 l59 r23 (fun a => F23 a.1) F23_calls
end Go.Rx.L15F
