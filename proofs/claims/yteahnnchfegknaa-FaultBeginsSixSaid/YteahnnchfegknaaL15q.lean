/- What the reference's packets of IPv6 are as bytes: interpreterref04.Why and Bytes, told in Lean. -/
import Derived.Test.YteahnnchfegknaaP15k
import Derived.Test.YteahnnchfegknaaL15o
set_option linter.unusedVariables false
set_option linter.unusedSimpArgs false
set_option maxRecDepth 100000
set_option maxHeartbeats 0
namespace Go.Rx.L15F
open Go.Proofs Go.Rx

noncomputable def C95 : Cfg Try.prog := ⟨[], [], fun _ _ => ⟨[0, 1, 5, 6], [0, 1, 5, 6]⟩, []⟩
abbrev l95 := CodL.cons (Cod.int .i64) (CodL.cons (Cod.int .i64) CodL.nil)
/-- The last byte of a number; the number without it. -/
def tb (x : Int) : UInt8 := UInt8.ofNat (IntKind.u8.wrap (x.tmod 256)).toNat
def td (x : Int) : Int := IntKind.i64.wrap (x.tdiv 256)
/-- interpreterref01.Put: a number's bytes. -/
def F95 (x n : Int) : Option (List UInt8) :=
  if n = 1 then some [tb x] else if n = 2 then some [tb (td x), tb x] else if n = 4 then some [tb (td (td (td x))), tb (td (td x)), tb (td x), tb x] else none
theorem F95_1 (x : Int) (u : Unit) : evTop Try.prog C95 6 95 (CodL.val l95 (x, 1, u)) (fun v => Cod.str.dec v some) = some [tb x] := by kernel_rfl
theorem F95_2 (x : Int) (u : Unit) : evTop Try.prog C95 6 95 (CodL.val l95 (x, 2, u)) (fun v => Cod.str.dec v some) = some [tb (td x), tb x] := by kernel_rfl
theorem F95_4 (x : Int) (u : Unit) : evTop Try.prog C95 6 95 (CodL.val l95 (x, 4, u)) (fun v => Cod.str.dec v some) = some [tb (td (td (td x))), tb (td (td x)), tb (td x), tb x] := by kernel_rfl
theorem F95_imp : ∀ a b, (fun a : Int × Int × Unit => F95 a.1 a.2.1) a = some b → evTop Try.prog C95 6 95 (CodL.val l95 a) (fun v => Cod.str.dec v some) = some b := by
  rintro ⟨x, n, u⟩ b h
  simp only [F95] at h
  split at h
  · rename_i hn; subst hn
    rw [F95_1, ← h]
  split at h
  · rename_i hn; subst hn
    rw [F95_2, ← h]
  split at h
  · rename_i hn; subst hn
    rw [F95_4, ← h]
  · cases h
noncomputable def d95 : Ctr Try.prog := Ctr.ofF 95 l95 Cod.str (fun a => F95 a.1 a.2.1) (pcalls_of_imp (C := C95) (d := 6) mix noLoops F95_imp)
/-- interpreterref04.put -/
def F60 (x n : Int) : Option (List UInt8) := (F95 x n).bind some
theorem F60_ev : ∀ a, evTop Try.prog ⟨[d95], [], fun _ _ => ⟨[], []⟩, []⟩ 6 60 (CodL.val l95 a) (fun v => Cod.dec Cod.str v some) = (fun a : Int × Int × Unit => F60 a.1 a.2.1) a := by
  intro a; kernel_rfl
noncomputable def d60 : Ctr Try.prog := Ctr.ofF 60 l95 Cod.str (fun a => F60 a.1 a.2.1) (pcalls_of_ev mix noLoops F60_ev)
theorem tb_eq {x : Int} (h : 0 ≤ x) : tb x = u8 x := by
  unfold tb u8
  rw [wrap_u8, Int.tmod_eq_emod_of_nonneg h, Int.emod_emod_of_dvd _ (Int.dvd_refl _)]
theorem td_eq {x : Int} (h : 0 ≤ x ∧ x < 1000000000000) : td x = x / 256 := by
  unfold td
  rw [Int.tdiv_eq_ediv_of_nonneg h.1, wrap_i64 (by omega) (by omega)]
noncomputable def d94 : Ctr Try.prog := Ctr.evT mix [] inl (keepIn keeps) 6 94 Cod.bool

def keep59 (_ k : Nat) : Keep := bif Nat.beq k 5 then ⟨[1, 2, 3, 4], [1, 2, 3, 4]⟩ else ⟨[1, 2, 3, 6], [1, 2, 3, 6]⟩
noncomputable def C59 : Cfg Try.prog := ⟨[d94], [], keep59, []⟩
/-- interpreterref04.Why -/
def first59 (a : Ip6) : Option Bool :=
  Option.bind (bif leI 0 a.Class then some (leI a.Class 255) else some false) fun q1 => bif !q1 then some true else
  Option.bind (bif leI 0 a.Flow then some (leI a.Flow 1048575) else some false) fun q2 => bif !q2 then some true else
  Option.bind (bif leI 0 a.Hop then some (leI a.Hop 255) else some false) fun q3 => bif !q3 then some true else
  Option.bind (bif leI 0 a.Proto then some (leI a.Proto 255) else some false) fun q4 => bif !q4 then some true else
  Option.bind (bif leI 0 a.At then some (leI a.At 65528) else some false) fun q5 => bif !q5 then some true else some (!(a.At.tmod 8 == 0))
def kinds59 : List Ext1 → Int → (Int → Option Int) → Option Int
  | [], n, K => K n
  | e :: l, n, K => Option.bind (bif !(e.1 == 0) then (bif !(e.1 == 43) then some (!(e.1 == 60)) else some false) else some false) fun q =>
    bif q then some 10 else kinds59 l (IntKind.i64.wrap (IntKind.i64.wrap (n + 2) + (e.2.length : Int))) K
def forms59 : List Ext1 → Bool → Option Int → Option Int
  | [], _, K => K
  | e :: l, i, K => Option.bind (bif ltI (IntKind.i64.wrap ((e.2.length : Int) + 2)) 8 then some true else
      bif !((IntKind.i64.wrap ((e.2.length : Int) + 2)).tmod 8 == 0) then some true else
      bif ltI 2048 (IntKind.i64.wrap ((e.2.length : Int) + 2)) then some true else bif e.1 == 0 then some (!i) else some false) fun q =>
    bif q then some 8 else forms59 l false K
def long59 (a : Ip6) (n : Int) (len : Nat) : Option Int :=
  Option.bind (bif Nat.blt 8 len then some true else bif ltI 65535 (IntKind.i64.wrap (a.At + (a.Data.length : Int))) then some true else some (ltI 65535 n)) fun q => bif q then some 3 else some 0
def why59 (a : Ip6) (es : List Ext1) : Option Int :=
  Option.bind (first59 a) fun q => bif q then some 13 else
  kinds59 es (a.Data.length : Int) fun n =>
  Option.bind (bif !a.Frag then (bif a.Proto == 0 then some true else bif a.Proto == 43 then some true else bif a.Proto == 44 then some true else some (a.Proto == 60)) else some false) fun q =>
  bif q then some 10 else
  forms59 es true <|
  Option.bind (bif a.Frag then (bif a.More then (bif (a.Data.length : Int) == 0 then some true else some (!((a.Data.length : Int).tmod 8 == 0))) else some false) else some false) fun q => bif q then some 8 else
  Option.bind (bif !a.Frag then (bif !(a.Id == 0) then some true else bif !(a.At == 0) then some true else some a.More) else some false) fun q => bif q then some 8 else
  bif a.Frag then long59 a (IntKind.i64.wrap (n + 8)) es.length else long59 a n es.length

def withN (a : Ip6) (nil : Bool) (es : List Ext1) : Ip6 := { Class := a.Class, Flow := a.Flow, Hop := a.Hop, From := a.From, To := a.To, Exts := (nil, 2, encE es), Frag := a.Frag, Id := a.Id, At := a.At, More := a.More, Proto := a.Proto, Data := a.Data }
abbrev l59 := CodL.cons (Cod.agg lIp6) CodL.nil
noncomputable def ev59 (a : Ip6) (nil : Bool) (es : List Ext1) (u : Unit) : Option Int := evTop Try.prog C59 6 59 (l59.val (withN a nil es, u)) (fun v => (Cod.int .i64).dec v some)
theorem ev59_nil (a : Ip6) (u : Unit) : ev59 a true [] u = why59 a [] := by kernel_rfl
theorem ev59_0 (a : Ip6) (u : Unit) : ev59 a false [] u = why59 a [] := by kernel_rfl
theorem ev59_1 (a : Ip6) (e0 : Ext1) (u : Unit) : ev59 a false [e0] u = why59 a [e0] := by kernel_rfl
theorem ev59_2 (a : Ip6) (e0 e1 : Ext1) (u : Unit) : ev59 a false [e0, e1] u = why59 a [e0, e1] := by kernel_rfl
theorem ev59_3 (a : Ip6) (e0 e1 e2 : Ext1) (u : Unit) : ev59 a false [e0, e1, e2] u = why59 a [e0, e1, e2] := by kernel_rfl
theorem ev59_4 (a : Ip6) (e0 e1 e2 e3 : Ext1) (u : Unit) : ev59 a false [e0, e1, e2, e3] u = why59 a [e0, e1, e2, e3] := by kernel_rfl
theorem ev59_5 (a : Ip6) (e0 e1 e2 e3 e4 : Ext1) (u : Unit) : ev59 a false [e0, e1, e2, e3, e4] u = why59 a [e0, e1, e2, e3, e4] := by kernel_rfl
theorem ev59_6 (a : Ip6) (e0 e1 e2 e3 e4 e5 : Ext1) (u : Unit) : ev59 a false [e0, e1, e2, e3, e4, e5] u = why59 a [e0, e1, e2, e3, e4, e5] := by kernel_rfl
theorem ev59_7 (a : Ip6) (e0 e1 e2 e3 e4 e5 e6 : Ext1) (u : Unit) : ev59 a false [e0, e1, e2, e3, e4, e5, e6] u = why59 a [e0, e1, e2, e3, e4, e5, e6] := by kernel_rfl
theorem ev59_8 (a : Ip6) (e0 e1 e2 e3 e4 e5 e6 e7 : Ext1) (u : Unit) : ev59 a false [e0, e1, e2, e3, e4, e5, e6, e7] u = why59 a [e0, e1, e2, e3, e4, e5, e6, e7] := by kernel_rfl
theorem ev59_9 (a : Ip6) (e0 e1 e2 e3 e4 e5 e6 e7 e8 : Ext1) (u : Unit) : ev59 a false [e0, e1, e2, e3, e4, e5, e6, e7, e8] u = why59 a [e0, e1, e2, e3, e4, e5, e6, e7, e8] := by kernel_rfl
theorem ev59_10 (a : Ip6) (e0 e1 e2 e3 e4 e5 e6 e7 e8 e9 : Ext1) (u : Unit) : ev59 a false [e0, e1, e2, e3, e4, e5, e6, e7, e8, e9] u = why59 a [e0, e1, e2, e3, e4, e5, e6, e7, e8, e9] := by kernel_rfl
theorem ev59_11 (a : Ip6) (e0 e1 e2 e3 e4 e5 e6 e7 e8 e9 e10 : Ext1) (u : Unit) : ev59 a false [e0, e1, e2, e3, e4, e5, e6, e7, e8, e9, e10] u = why59 a [e0, e1, e2, e3, e4, e5, e6, e7, e8, e9, e10] := by kernel_rfl
theorem ev59_12 (a : Ip6) (e0 e1 e2 e3 e4 e5 e6 e7 e8 e9 e10 e11 : Ext1) (u : Unit) : ev59 a false [e0, e1, e2, e3, e4, e5, e6, e7, e8, e9, e10, e11] u = why59 a [e0, e1, e2, e3, e4, e5, e6, e7, e8, e9, e10, e11] := by kernel_rfl
theorem ev59_13 (a : Ip6) (e0 e1 e2 e3 e4 e5 e6 e7 e8 e9 e10 e11 e12 : Ext1) (u : Unit) : ev59 a false [e0, e1, e2, e3, e4, e5, e6, e7, e8, e9, e10, e11, e12] u = why59 a [e0, e1, e2, e3, e4, e5, e6, e7, e8, e9, e10, e11, e12] := by kernel_rfl
theorem ev59_14 (a : Ip6) (e0 e1 e2 e3 e4 e5 e6 e7 e8 e9 e10 e11 e12 e13 : Ext1) (u : Unit) : ev59 a false [e0, e1, e2, e3, e4, e5, e6, e7, e8, e9, e10, e11, e12, e13] u = why59 a [e0, e1, e2, e3, e4, e5, e6, e7, e8, e9, e10, e11, e12, e13] := by kernel_rfl
theorem ev59_15 (a : Ip6) (e0 e1 e2 e3 e4 e5 e6 e7 e8 e9 e10 e11 e12 e13 e14 : Ext1) (u : Unit) : ev59 a false [e0, e1, e2, e3, e4, e5, e6, e7, e8, e9, e10, e11, e12, e13, e14] u = why59 a [e0, e1, e2, e3, e4, e5, e6, e7, e8, e9, e10, e11, e12, e13, e14] := by kernel_rfl
theorem ev59_16 (a : Ip6) (e0 e1 e2 e3 e4 e5 e6 e7 e8 e9 e10 e11 e12 e13 e14 e15 : Ext1) (u : Unit) : ev59 a false [e0, e1, e2, e3, e4, e5, e6, e7, e8, e9, e10, e11, e12, e13, e14, e15] u = why59 a [e0, e1, e2, e3, e4, e5, e6, e7, e8, e9, e10, e11, e12, e13, e14, e15] := by kernel_rfl
theorem ev59_17 (a : Ip6) (e0 e1 e2 e3 e4 e5 e6 e7 e8 e9 e10 e11 e12 e13 e14 e15 e16 : Ext1) (u : Unit) : ev59 a false [e0, e1, e2, e3, e4, e5, e6, e7, e8, e9, e10, e11, e12, e13, e14, e15, e16] u = why59 a [e0, e1, e2, e3, e4, e5, e6, e7, e8, e9, e10, e11, e12, e13, e14, e15, e16] := by kernel_rfl
theorem ev59_18 (a : Ip6) (e0 e1 e2 e3 e4 e5 e6 e7 e8 e9 e10 e11 e12 e13 e14 e15 e16 e17 : Ext1) (u : Unit) : ev59 a false [e0, e1, e2, e3, e4, e5, e6, e7, e8, e9, e10, e11, e12, e13, e14, e15, e16, e17] u = why59 a [e0, e1, e2, e3, e4, e5, e6, e7, e8, e9, e10, e11, e12, e13, e14, e15, e16, e17] := by kernel_rfl
theorem ev59_19 (a : Ip6) (e0 e1 e2 e3 e4 e5 e6 e7 e8 e9 e10 e11 e12 e13 e14 e15 e16 e17 e18 : Ext1) (u : Unit) : ev59 a false [e0, e1, e2, e3, e4, e5, e6, e7, e8, e9, e10, e11, e12, e13, e14, e15, e16, e17, e18] u = why59 a [e0, e1, e2, e3, e4, e5, e6, e7, e8, e9, e10, e11, e12, e13, e14, e15, e16, e17, e18] := by kernel_rfl
theorem ev59_20 (a : Ip6) (e0 e1 e2 e3 e4 e5 e6 e7 e8 e9 e10 e11 e12 e13 e14 e15 e16 e17 e18 e19 : Ext1) (u : Unit) : ev59 a false [e0, e1, e2, e3, e4, e5, e6, e7, e8, e9, e10, e11, e12, e13, e14, e15, e16, e17, e18, e19] u = why59 a [e0, e1, e2, e3, e4, e5, e6, e7, e8, e9, e10, e11, e12, e13, e14, e15, e16, e17, e18, e19] := by kernel_rfl
theorem ev59_all (a : Ip6) (u : Unit) : ∀ es : List Ext1, es.length ≤ 20 → ev59 a false es u = why59 a es
  | [], _ => ev59_0 a u
  | [e0], _ => ev59_1 a e0 u
  | [e0, e1], _ => ev59_2 a e0 e1 u
  | [e0, e1, e2], _ => ev59_3 a e0 e1 e2 u
  | [e0, e1, e2, e3], _ => ev59_4 a e0 e1 e2 e3 u
  | [e0, e1, e2, e3, e4], _ => ev59_5 a e0 e1 e2 e3 e4 u
  | [e0, e1, e2, e3, e4, e5], _ => ev59_6 a e0 e1 e2 e3 e4 e5 u
  | [e0, e1, e2, e3, e4, e5, e6], _ => ev59_7 a e0 e1 e2 e3 e4 e5 e6 u
  | [e0, e1, e2, e3, e4, e5, e6, e7], _ => ev59_8 a e0 e1 e2 e3 e4 e5 e6 e7 u
  | [e0, e1, e2, e3, e4, e5, e6, e7, e8], _ => ev59_9 a e0 e1 e2 e3 e4 e5 e6 e7 e8 u
  | [e0, e1, e2, e3, e4, e5, e6, e7, e8, e9], _ => ev59_10 a e0 e1 e2 e3 e4 e5 e6 e7 e8 e9 u
  | [e0, e1, e2, e3, e4, e5, e6, e7, e8, e9, e10], _ => ev59_11 a e0 e1 e2 e3 e4 e5 e6 e7 e8 e9 e10 u
  | [e0, e1, e2, e3, e4, e5, e6, e7, e8, e9, e10, e11], _ => ev59_12 a e0 e1 e2 e3 e4 e5 e6 e7 e8 e9 e10 e11 u
  | [e0, e1, e2, e3, e4, e5, e6, e7, e8, e9, e10, e11, e12], _ => ev59_13 a e0 e1 e2 e3 e4 e5 e6 e7 e8 e9 e10 e11 e12 u
  | [e0, e1, e2, e3, e4, e5, e6, e7, e8, e9, e10, e11, e12, e13], _ => ev59_14 a e0 e1 e2 e3 e4 e5 e6 e7 e8 e9 e10 e11 e12 e13 u
  | [e0, e1, e2, e3, e4, e5, e6, e7, e8, e9, e10, e11, e12, e13, e14], _ => ev59_15 a e0 e1 e2 e3 e4 e5 e6 e7 e8 e9 e10 e11 e12 e13 e14 u
  | [e0, e1, e2, e3, e4, e5, e6, e7, e8, e9, e10, e11, e12, e13, e14, e15], _ => ev59_16 a e0 e1 e2 e3 e4 e5 e6 e7 e8 e9 e10 e11 e12 e13 e14 e15 u
  | [e0, e1, e2, e3, e4, e5, e6, e7, e8, e9, e10, e11, e12, e13, e14, e15, e16], _ => ev59_17 a e0 e1 e2 e3 e4 e5 e6 e7 e8 e9 e10 e11 e12 e13 e14 e15 e16 u
  | [e0, e1, e2, e3, e4, e5, e6, e7, e8, e9, e10, e11, e12, e13, e14, e15, e16, e17], _ => ev59_18 a e0 e1 e2 e3 e4 e5 e6 e7 e8 e9 e10 e11 e12 e13 e14 e15 e16 e17 u
  | [e0, e1, e2, e3, e4, e5, e6, e7, e8, e9, e10, e11, e12, e13, e14, e15, e16, e17, e18], _ => ev59_19 a e0 e1 e2 e3 e4 e5 e6 e7 e8 e9 e10 e11 e12 e13 e14 e15 e16 e17 e18 u
  | [e0, e1, e2, e3, e4, e5, e6, e7, e8, e9, e10, e11, e12, e13, e14, e15, e16, e17, e18, e19], _ => ev59_20 a e0 e1 e2 e3 e4 e5 e6 e7 e8 e9 e10 e11 e12 e13 e14 e15 e16 e17 e18 e19 u
  | _ :: _ :: _ :: _ :: _ :: _ :: _ :: _ :: _ :: _ :: _ :: _ :: _ :: _ :: _ :: _ :: _ :: _ :: _ :: _ :: _ :: _, h => absurd h (by simp)
/-- Extensions that a statement may speak of: at most 20; none in a nil list. -/
def okExts (p : Ip6) : Option (List Ext1) := (deExts p.Exts.2.2).bind fun es => if es.length ≤ 20 ∧ p.Exts.2.1 = 2 ∧ (p.Exts.1 = true → es = []) then some es else none
theorem okExts_some {p : Ip6} {es : List Ext1} (h : okExts p = some es) : p = withN p p.Exts.1 es ∧ es.length ≤ 20 ∧ (p.Exts.1 = true → es = []) := by
  unfold okExts at h
  rw [Option.bind_eq_some_iff] at h
  obtain ⟨l, h1, h2⟩ := h
  split at h2
  · rename_i hc
    cases h2
    have e := deExts_some _ _ h1
    refine ⟨?_, hc.1, hc.2.2⟩
    unfold withN
    rw [← e, ← hc.2.1]
  · cases h2
theorem okExts_with {p : Ip6} {nil : Bool} {es : List Ext1} (he : p.Exts = (nil, 2, encE es)) (hl : es.length ≤ 20) (hn : nil = true → es = []) : okExts p = some es := by
  unfold okExts
  rw [he]
  show Option.bind (deExts (encE es)) _ = _
  rw [deExts_enc, Option.bind_some, if_pos ⟨hl, rfl, hn⟩]
def F59 (p : Ip6) : Option Int := (okExts p).bind fun es => why59 p es
theorem F59_imp : ∀ a b, (fun a : Ip6 × Unit => F59 a.1) a = some b → evTop Try.prog C59 6 59 (CodL.val l59 a) (fun v => Cod.dec (Cod.int .i64) v some) = some b := by
  rintro ⟨p, u⟩ b h
  simp only [F59, Option.bind_eq_some_iff] at h
  obtain ⟨es, h1, h2⟩ := h
  obtain ⟨e, hl, hn⟩ := okExts_some h1
  rw [e]
  show ev59 p p.Exts.1 es u = some b
  cases hb : p.Exts.1 with
  | true => rw [hn hb] at h2 ⊢; rw [ev59_nil]; exact h2
  | false => rw [ev59_all p u es hl]; exact h2
noncomputable def d59 : Ctr Try.prog := Ctr.ofF 59 l59 (Cod.int .i64) (fun a => F59 a.1) (pcalls_of_imp (C := C59) (d := 6) mix noLoops F59_imp)
end Go.Rx.L15F
