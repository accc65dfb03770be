/- L15g. -/
import Derived.Test.YteahnnchfegknaaL15f
import Derived.Test.YteahnnchfegknaaRxBits
set_option linter.unusedVariables false
set_option maxRecDepth 100000
set_option maxHeartbeats 0
namespace Go.Rx.L15F
open Go.Proofs Go.Rx
def faultT : TypeId := 97
def keeps : List (Nat × Nat × List Nat) := [(47, 2, [0, 4, 7, 8, 9]), (57, 3, [3, 4, 7, 8, 9]), (84, 7, [0, 1, 6, 37, 38]), (92, 1, [0]), (93, 2, [0, 1, 2, 3, 12, 13])]
def keepIn : List (Nat × Nat × List Nat) → Nat → Nat → Keep
  | [], _, _ => ⟨[], []⟩
  | e :: l, f, k => bif Nat.beq e.1 f && Nat.beq e.2.1 k then ⟨e.2.2, e.2.2⟩ else keepIn l f k
def inl : List FuncId := []
structure V4 where
  b0 : Int
  b1 : Int
  b2 : Int
  b3 : Int
def lV4 : CodL V4 := (CodL.cons (Cod.int .u8) (CodL.cons (Cod.int .u8) (CodL.cons (Cod.int .u8) (CodL.cons (Cod.int .u8) CodL.nil)))).iso (fun a => ⟨a.1, a.2.1, a.2.2.1, a.2.2.2.1⟩) (fun s => (s.b0, s.b1, s.b2, s.b3, ())) (fun _ => rfl) (fun _ => rfl)
structure Ip4 where
  Tos : Int
  Id : Int
  Ttl : Int
  Proto : Int
  At : Int
  DF : Bool
  More : Bool
  From : V4
  To : V4
  Options : List UInt8
  Data : List UInt8
def lIp4 : CodL Ip4 := (CodL.cons (Cod.int .i64) (CodL.cons (Cod.int .i64) (CodL.cons (Cod.int .i64) (CodL.cons (Cod.int .i64) (CodL.cons (Cod.int .i64) (CodL.cons Cod.bool (CodL.cons Cod.bool (CodL.app lV4 (CodL.app lV4 (CodL.cons Cod.str (CodL.cons Cod.str CodL.nil))))))))))).iso (fun a => ⟨a.1, a.2.1, a.2.2.1, a.2.2.2.1, a.2.2.2.2.1, a.2.2.2.2.2.1, a.2.2.2.2.2.2.1, a.2.2.2.2.2.2.2.1, a.2.2.2.2.2.2.2.2.1, a.2.2.2.2.2.2.2.2.2.1, a.2.2.2.2.2.2.2.2.2.2.1⟩) (fun s => (s.Tos, s.Id, s.Ttl, s.Proto, s.At, s.DF, s.More, s.From, s.To, s.Options, s.Data, ())) (fun _ => rfl) (fun _ => rfl)
structure V6 where
  b0 : Int
  b1 : Int
  b2 : Int
  b3 : Int
  b4 : Int
  b5 : Int
  b6 : Int
  b7 : Int
  b8 : Int
  b9 : Int
  b10 : Int
  b11 : Int
  b12 : Int
  b13 : Int
  b14 : Int
  b15 : Int
def lV6 : CodL V6 := (CodL.cons (Cod.int .u8) (CodL.cons (Cod.int .u8) (CodL.cons (Cod.int .u8) (CodL.cons (Cod.int .u8) (CodL.cons (Cod.int .u8) (CodL.cons (Cod.int .u8) (CodL.cons (Cod.int .u8) (CodL.cons (Cod.int .u8) (CodL.cons (Cod.int .u8) (CodL.cons (Cod.int .u8) (CodL.cons (Cod.int .u8) (CodL.cons (Cod.int .u8) (CodL.cons (Cod.int .u8) (CodL.cons (Cod.int .u8) (CodL.cons (Cod.int .u8) (CodL.cons (Cod.int .u8) CodL.nil)))))))))))))))).iso (fun a => ⟨a.1, a.2.1, a.2.2.1, a.2.2.2.1, a.2.2.2.2.1, a.2.2.2.2.2.1, a.2.2.2.2.2.2.1, a.2.2.2.2.2.2.2.1, a.2.2.2.2.2.2.2.2.1, a.2.2.2.2.2.2.2.2.2.1, a.2.2.2.2.2.2.2.2.2.2.1, a.2.2.2.2.2.2.2.2.2.2.2.1, a.2.2.2.2.2.2.2.2.2.2.2.2.1, a.2.2.2.2.2.2.2.2.2.2.2.2.2.1, a.2.2.2.2.2.2.2.2.2.2.2.2.2.2.1, a.2.2.2.2.2.2.2.2.2.2.2.2.2.2.2.1⟩) (fun s => (s.b0, s.b1, s.b2, s.b3, s.b4, s.b5, s.b6, s.b7, s.b8, s.b9, s.b10, s.b11, s.b12, s.b13, s.b14, s.b15, ())) (fun _ => rfl) (fun _ => rfl)
structure T6 where
  Addr : V6
  Port : Int
def lT6 : CodL T6 := (CodL.app lV6 (CodL.cons (Cod.int .i64) CodL.nil)).iso (fun a => ⟨a.1, a.2.1⟩) (fun s => (s.Addr, s.Port, ())) (fun _ => rfl) (fun _ => rfl)
/-- interpreter/fault.fault -/
def F41 (e : Int) : Option (Err) :=
  some (some (e, 0))
theorem F41_ev : ∀ a, evTop Try.prog ⟨[], inl, keepIn keeps, []⟩ 6 41 (CodL.val (CodL.cons (Cod.int .i64) CodL.nil) a) (fun v => Cod.dec (Cod.err faultT) v some) = (fun a => F41 a.1) a := by
  intro a; kernel_rfl
noncomputable def d41 : Ctr Try.prog := Ctr.ofF 41 (CodL.cons (Cod.int .i64) CodL.nil) (Cod.err faultT) (fun a => F41 a.1) (pcalls_of_ev mix noLoops F41_ev)


/-- interpreter/sum.Of -/
noncomputable def d57 : Ctr Try.prog := Ctr.evT mix [d92, d93] inl (keepIn keeps) 6 57 (Cod.int .i64)
/-- interpreter/sum.Right -/
noncomputable def d42 : Ctr Try.prog := Ctr.evT mix [d57] inl (keepIn keeps) 6 42 Cod.bool
/-- interpreter/fault.Inside4$1 -/
def F43 (x0_at : Int) (cap0 : List UInt8) : Option (Int) :=
  gd (inB x0_at cap0.length) <|
  gd (inB (IntKind.i64.wrap (x0_at + 1)) cap0.length) <|
  some (ior IntKind.i64 (IntKind.i64.wrap (IntKind.i64.wrap (bt cap0 x0_at) * 256)) (IntKind.i64.wrap (bt cap0 (IntKind.i64.wrap (x0_at + 1)))))
theorem F43_ev : ∀ a, evTop Try.prog ⟨[], inl, keepIn keeps, []⟩ 6 43 (CodL.val (CodL.cons (Cod.int .i64) (CodL.cons (Cod.box (CodL.one Cod.str)) CodL.nil)) a) (fun v => Cod.dec (Cod.int .i64) v some) = (fun a => F43 a.1 a.2.1) a := by
  intro a; kernel_rfl
noncomputable def d43 : Ctr Try.prog := Ctr.ofF 43 (CodL.cons (Cod.int .i64) (CodL.cons (Cod.box (CodL.one Cod.str)) CodL.nil)) (Cod.int .i64) (fun a => F43 a.1 a.2.1) (pcalls_of_ev mix noLoops F43_ev)
/-- interpreter/fault.short -/
def F44 (data : List UInt8) (claim : Int) : Option (Bool) :=
  some (ltI (↑data.length : Int) (imin 8 claim))
theorem F44_ev : ∀ a, evTop Try.prog ⟨[], inl, keepIn keeps, []⟩ 6 44 (CodL.val (CodL.cons Cod.str (CodL.cons (Cod.int .i64) CodL.nil)) a) (fun v => Cod.dec Cod.bool v some) = (fun a => F44 a.1 a.2.1) a := by
  intro a; kernel_rfl
noncomputable def d44 : Ctr Try.prog := Ctr.ofF 44 (CodL.cons Cod.str (CodL.cons (Cod.int .i64) CodL.nil)) Cod.bool (fun a => F44 a.1 a.2.1) (pcalls_of_ev mix noLoops F44_ev)
/-- interpreter/fault.Inside4 -/
def F13 (s : List UInt8) : Option (Ip4 × Int × Err × Unit) :=
  bif ltI (↑s.length : Int) 20 then
    Option.bind (
      F41 (7)) fun q1 =>
    errK (q1) (
      some (({ Tos := 0, Id := 0, Ttl := 0, Proto := 0, At := 0, DF := false, More := false, From := { b0 := 0, b1 := 0, b2 := 0, b3 := 0 }, To := { b0 := 0, b1 := 0, b2 := 0, b3 := 0 }, Options := [], Data := [] }, 0, none, ()))) fun c2 p2 =>
      some (({ Tos := 0, Id := 0, Ttl := 0, Proto := 0, At := 0, DF := false, More := false, From := { b0 := 0, b1 := 0, b2 := 0, b3 := 0 }, To := { b0 := 0, b1 := 0, b2 := 0, b3 := 0 }, Options := [], Data := [] }, 0, some (c2, p2), ()))
  else
    gd (inB 0 s.length) <|
    Option.bind (
      gd (inB 0 s.length) <|
      bif !(bt s 0).fdiv 16 == 4 then
        some (true)
      else
        some (ltI (IntKind.i64.wrap (IntKind.i64.wrap (iand IntKind.u8 (bt s 0) 15) * 4)) 20)) fun q1 =>
    bif q1 then
      Option.bind (
        F41 (8)) fun q2 =>
      errK (q2) (
        some (({ Tos := 0, Id := 0, Ttl := 0, Proto := 0, At := 0, DF := false, More := false, From := { b0 := 0, b1 := 0, b2 := 0, b3 := 0 }, To := { b0 := 0, b1 := 0, b2 := 0, b3 := 0 }, Options := [], Data := [] }, 0, none, ()))) fun c3 p3 =>
        some (({ Tos := 0, Id := 0, Ttl := 0, Proto := 0, At := 0, DF := false, More := false, From := { b0 := 0, b1 := 0, b2 := 0, b3 := 0 }, To := { b0 := 0, b1 := 0, b2 := 0, b3 := 0 }, Options := [], Data := [] }, 0, some (c3, p3), ()))
    else
      bif ltI (↑s.length : Int) (IntKind.i64.wrap (IntKind.i64.wrap (iand IntKind.u8 (bt s 0) 15) * 4)) then
        Option.bind (
          F41 (7)) fun q2 =>
        errK (q2) (
          some (({ Tos := 0, Id := 0, Ttl := 0, Proto := 0, At := 0, DF := false, More := false, From := { b0 := 0, b1 := 0, b2 := 0, b3 := 0 }, To := { b0 := 0, b1 := 0, b2 := 0, b3 := 0 }, Options := [], Data := [] }, 0, none, ()))) fun c3 p3 =>
          some (({ Tos := 0, Id := 0, Ttl := 0, Proto := 0, At := 0, DF := false, More := false, From := { b0 := 0, b1 := 0, b2 := 0, b3 := 0 }, To := { b0 := 0, b1 := 0, b2 := 0, b3 := 0 }, Options := [], Data := [] }, 0, some (c3, p3), ()))
      else
        gd (ordB 0 (IntKind.i64.wrap (IntKind.i64.wrap (iand IntKind.u8 (bt s 0) 15) * 4)) s.length) <|
        Option.bind (
          Option.bind (
            Option.bind (
              F93 (0) (0) (sub s none (some (V.int IntKind.i64 (IntKind.i64.wrap (IntKind.i64.wrap (iand IntKind.u8 (bt s 0) 15) * 4)))) 0 (IntKind.i64.wrap (IntKind.i64.wrap (iand IntKind.u8 (bt s 0) 15) * 4)).toNat) (0)) fun q2 =>
            Option.bind (
              F92 (q2)) fun q3 =>
            some (IntKind.i64.wrap (65535 - q3))) fun q2 =>
          some (q2 == 0)) fun q2 =>
        bif !q2 then
          Option.bind (
            F41 (9)) fun q3 =>
          errK (q3) (
            some (({ Tos := 0, Id := 0, Ttl := 0, Proto := 0, At := 0, DF := false, More := false, From := { b0 := 0, b1 := 0, b2 := 0, b3 := 0 }, To := { b0 := 0, b1 := 0, b2 := 0, b3 := 0 }, Options := [], Data := [] }, 0, none, ()))) fun c4 p4 =>
            some (({ Tos := 0, Id := 0, Ttl := 0, Proto := 0, At := 0, DF := false, More := false, From := { b0 := 0, b1 := 0, b2 := 0, b3 := 0 }, To := { b0 := 0, b1 := 0, b2 := 0, b3 := 0 }, Options := [], Data := [] }, 0, some (c4, p4), ()))
        else
          Option.bind (
            F43 (2) (s)) fun q3 =>
          Option.bind (
            F43 (6) (s)) fun q4 =>
          Option.bind (
            bif ltI q3 (IntKind.i64.wrap (IntKind.i64.wrap (iand IntKind.u8 (bt s 0) 15) * 4)) then
              some (true)
            else
              bif !iand IntKind.i64 q4 32768 == 0 then
                some (true)
              else
                some (ltI 65535 (IntKind.i64.wrap (IntKind.i64.wrap (iand IntKind.i64 q4 8191 * 8) + q3)))) fun q5 =>
          bif q5 then
            Option.bind (
              F41 (8)) fun q6 =>
            errK (q6) (
              some (({ Tos := 0, Id := 0, Ttl := 0, Proto := 0, At := 0, DF := false, More := false, From := { b0 := 0, b1 := 0, b2 := 0, b3 := 0 }, To := { b0 := 0, b1 := 0, b2 := 0, b3 := 0 }, Options := [], Data := [] }, 0, none, ()))) fun c7 p7 =>
              some (({ Tos := 0, Id := 0, Ttl := 0, Proto := 0, At := 0, DF := false, More := false, From := { b0 := 0, b1 := 0, b2 := 0, b3 := 0 }, To := { b0 := 0, b1 := 0, b2 := 0, b3 := 0 }, Options := [], Data := [] }, 0, some (c7, p7), ()))
          else
            gd (ordB (IntKind.i64.wrap (IntKind.i64.wrap (iand IntKind.u8 (bt s 0) 15) * 4)) (imin (↑s.length : Int) q3) s.length) <|
            Option.bind (
              F44 (sub s (some (V.int IntKind.i64 (IntKind.i64.wrap (IntKind.i64.wrap (iand IntKind.u8 (bt s 0) 15) * 4)))) (some (V.int IntKind.i64 (imin (↑s.length : Int) q3))) (IntKind.i64.wrap (IntKind.i64.wrap (iand IntKind.u8 (bt s 0) 15) * 4)).toNat (imin (↑s.length : Int) q3).toNat) (IntKind.i64.wrap (q3 - IntKind.i64.wrap (IntKind.i64.wrap (iand IntKind.u8 (bt s 0) 15) * 4)))) fun q6 =>
            bif q6 then
              Option.bind (
                F41 (7)) fun q7 =>
              errK (q7) (
                some (({ Tos := 0, Id := 0, Ttl := 0, Proto := 0, At := 0, DF := false, More := false, From := { b0 := 0, b1 := 0, b2 := 0, b3 := 0 }, To := { b0 := 0, b1 := 0, b2 := 0, b3 := 0 }, Options := [], Data := [] }, 0, none, ()))) fun c8 p8 =>
                some (({ Tos := 0, Id := 0, Ttl := 0, Proto := 0, At := 0, DF := false, More := false, From := { b0 := 0, b1 := 0, b2 := 0, b3 := 0 }, To := { b0 := 0, b1 := 0, b2 := 0, b3 := 0 }, Options := [], Data := [] }, 0, some (c8, p8), ()))
            else
              gd (inB 1 s.length) <|
              Option.bind (
                F43 (4) (s)) fun q7 =>
              gd (inB 8 s.length) <|
              gd (inB 9 s.length) <|
              gd (ordB 20 (IntKind.i64.wrap (IntKind.i64.wrap (iand IntKind.u8 (bt s 0) 15) * 4)) s.length) <|
              gd (ordB 12 (↑s.length : Int) s.length) <|
              gd (Nat.ble 4 (sub s (some (V.int IntKind.i64 12)) none 12 (↑s.length : Int).toNat).length && true) <|
              gd (ordB 16 (↑s.length : Int) s.length) <|
              gd (Nat.ble 4 (sub s (some (V.int IntKind.i64 16)) none 16 (↑s.length : Int).toNat).length && true) <|
              some (({ Tos := IntKind.i64.wrap (bt s 1), Id := q7, Ttl := IntKind.i64.wrap (bt s 8), Proto := IntKind.i64.wrap (bt s 9), At := IntKind.i64.wrap (iand IntKind.i64 q4 8191 * 8), DF := !iand IntKind.i64 q4 16384 == 0, More := !iand IntKind.i64 q4 8192 == 0, From := { b0 := bt (sub s (some (V.int IntKind.i64 12)) none 12 (↑s.length : Int).toNat) 0, b1 := bt (sub s (some (V.int IntKind.i64 12)) none 12 (↑s.length : Int).toNat) 1, b2 := bt (sub s (some (V.int IntKind.i64 12)) none 12 (↑s.length : Int).toNat) 2, b3 := bt (sub s (some (V.int IntKind.i64 12)) none 12 (↑s.length : Int).toNat) 3 }, To := { b0 := bt (sub s (some (V.int IntKind.i64 16)) none 16 (↑s.length : Int).toNat) 0, b1 := bt (sub s (some (V.int IntKind.i64 16)) none 16 (↑s.length : Int).toNat) 1, b2 := bt (sub s (some (V.int IntKind.i64 16)) none 16 (↑s.length : Int).toNat) 2, b3 := bt (sub s (some (V.int IntKind.i64 16)) none 16 (↑s.length : Int).toNat) 3 }, Options := sub s (some (V.int IntKind.i64 20)) (some (V.int IntKind.i64 (IntKind.i64.wrap (IntKind.i64.wrap (iand IntKind.u8 (bt s 0) 15) * 4)))) 20 (IntKind.i64.wrap (IntKind.i64.wrap (iand IntKind.u8 (bt s 0) 15) * 4)).toNat, Data := sub s (some (V.int IntKind.i64 (IntKind.i64.wrap (IntKind.i64.wrap (iand IntKind.u8 (bt s 0) 15) * 4)))) (some (V.int IntKind.i64 (imin (↑s.length : Int) q3))) (IntKind.i64.wrap (IntKind.i64.wrap (iand IntKind.u8 (bt s 0) 15) * 4)).toNat (imin (↑s.length : Int) q3).toNat }, IntKind.i64.wrap (q3 - IntKind.i64.wrap (IntKind.i64.wrap (iand IntKind.u8 (bt s 0) 15) * 4)), none, ()))
theorem F13_ev : ∀ a, evTop Try.prog ⟨[d41, d42, d43, d44], inl, keepIn keeps, []⟩ 6 13 (CodL.val (CodL.cons Cod.str CodL.nil) a) (fun v => Cod.dec (Cod.tup (CodL.cons (Cod.agg lIp4) (CodL.cons (Cod.int .i64) (CodL.cons (Cod.err faultT) CodL.nil)))) v some) = (fun a => F13 a.1) a := by
  intro a; kernel_rfl
noncomputable def d13 : Ctr Try.prog := Ctr.ofF 13 (CodL.cons Cod.str CodL.nil) (Cod.tup (CodL.cons (Cod.agg lIp4) (CodL.cons (Cod.int .i64) (CodL.cons (Cod.err faultT) CodL.nil)))) (fun a => F13 a.1) (pcalls_of_ev mix noLoops F13_ev)
noncomputable def d14 : Ctr Try.prog := Ctr.ofF 14 CodL.nil Cod.bool (fun _ => some true) (fun a b h => by cases h; exact Go.Rx.L15.awake_calls)
/-- interpreter/head46.Proto -/
def F46 (proto : Int) : Option (Int × Bool × Unit) :=
  bif proto == 1 then
    some ((58, true, ()))
  else
    bif proto == 0 then
      some ((0, false, ()))
    else
      bif proto == 2 then
        some ((0, false, ()))
      else
        bif proto == 43 then
          some ((0, false, ()))
        else
          bif proto == 44 then
            some ((0, false, ()))
          else
            bif proto == 58 then
              some ((0, false, ()))
            else
              bif proto == 60 then
                some ((0, false, ()))
              else
                Option.bind (
                  bif ltI proto 0 then
                    some (true)
                  else
                    some (ltI 255 proto)) fun q1 =>
                bif q1 then
                  some ((0, false, ()))
                else
                  some ((proto, true, ()))
theorem F46_ev : ∀ a, evTop Try.prog ⟨[], inl, keepIn keeps, []⟩ 6 46 (CodL.val (CodL.cons (Cod.int .i64) CodL.nil) a) (fun v => Cod.dec (Cod.tup (CodL.cons (Cod.int .i64) (CodL.cons Cod.bool CodL.nil))) v some) = (fun a => F46 a.1) a := by
  intro a; kernel_rfl
noncomputable def d46 : Ctr Try.prog := Ctr.ofF 46 (CodL.cons (Cod.int .i64) CodL.nil) (Cod.tup (CodL.cons (Cod.int .i64) (CodL.cons Cod.bool CodL.nil))) (fun a => F46 a.1) (pcalls_of_ev mix noLoops F46_ev)
/-- interpreter/fault.within -/
noncomputable def d47 : Ctr Try.prog := Ctr.evT mix [] inl (keepIn keeps) 6 47 Cod.bool
/-- interpreter/num.Big: a number's bytes. -/
def F84 (x n : Int) : Option (List UInt8 × Err × Unit) :=
  if n = 1 then (if 0 ≤ x ∧ x < 256 then some (be1 x, none, ()) else some ([], some (13, 0), ()))
  else if n = 2 then (if 0 ≤ x ∧ x < 65536 then some (be2 x, none, ()) else some ([], some (13, 0), ()))
  else if n = 4 then (if 0 ≤ x ∧ x < 4294967296 then some (be4 x, none, ()) else some ([], some (13, 0), ()))
  else none
theorem u8_of (x d : Int) (hd : 0 ≤ d) : UInt8.ofNat (IntKind.u8.wrap (x.fdiv d)).toNat = u8 (x / d) := by
  unfold u8
  rw [wrap_u8, Int.fdiv_eq_ediv_of_nonneg _ hd]
theorem big_raw (x m : Int) (l : List UInt8) : (((bif ltI x 0 then some true else some (leI m x)).bind fun q => bif q then some ([], some (13, 0), ()) else some (l, none, ())) : Option (List UInt8 × Err × Unit)) =
    if 0 ≤ x ∧ x < m then some (l, none, ()) else some ([], some (13, 0), ()) := by
  rw [ltI_eq, leI_eq]
  by_cases h : x < 0
  · rw [decide_eq_true h, cond_true, if_neg (by omega)]; rfl
  · rw [decide_eq_false h, cond_false]
    by_cases h' : m ≤ x
    · rw [decide_eq_true h', if_neg (by omega)]; rfl
    · rw [decide_eq_false h', if_pos (by omega)]; rfl
theorem F84_1 (x : Int) (u : Unit) : evTop Try.prog ⟨[], inl, keepIn keeps, []⟩ 6 84 (CodL.val (CodL.cons (Cod.int .i64) (CodL.cons (Cod.int .i64) CodL.nil)) (x, 1, u)) (fun v => Cod.dec (Cod.tup (CodL.cons Cod.str (CodL.cons (Cod.err faultT) CodL.nil))) v some) =
    (bif ltI x 0 then some true else some (leI 256 x)).bind fun q => bif q then some ([], some (13, 0), ()) else some ([UInt8.ofNat (IntKind.u8.wrap (x.fdiv 1)).toNat], none, ()) := by kernel_rfl
theorem F84_2 (x : Int) (u : Unit) : evTop Try.prog ⟨[], inl, keepIn keeps, []⟩ 6 84 (CodL.val (CodL.cons (Cod.int .i64) (CodL.cons (Cod.int .i64) CodL.nil)) (x, 2, u)) (fun v => Cod.dec (Cod.tup (CodL.cons Cod.str (CodL.cons (Cod.err faultT) CodL.nil))) v some) =
    (bif ltI x 0 then some true else some (leI 65536 x)).bind fun q => bif q then some ([], some (13, 0), ()) else some ([UInt8.ofNat (IntKind.u8.wrap (x.fdiv 256)).toNat, UInt8.ofNat (IntKind.u8.wrap (x.fdiv 1)).toNat], none, ()) := by kernel_rfl
theorem F84_4 (x : Int) (u : Unit) : evTop Try.prog ⟨[], inl, keepIn keeps, []⟩ 6 84 (CodL.val (CodL.cons (Cod.int .i64) (CodL.cons (Cod.int .i64) CodL.nil)) (x, 4, u)) (fun v => Cod.dec (Cod.tup (CodL.cons Cod.str (CodL.cons (Cod.err faultT) CodL.nil))) v some) =
    (bif ltI x 0 then some true else some (leI 4294967296 x)).bind fun q => bif q then some ([], some (13, 0), ()) else some ([UInt8.ofNat (IntKind.u8.wrap (x.fdiv 16777216)).toNat, UInt8.ofNat (IntKind.u8.wrap (x.fdiv 65536)).toNat, UInt8.ofNat (IntKind.u8.wrap (x.fdiv 256)).toNat, UInt8.ofNat (IntKind.u8.wrap (x.fdiv 1)).toNat], none, ()) := by kernel_rfl
theorem F84_imp : ∀ a b, (fun a : Int × Int × Unit => F84 a.1 a.2.1) a = some b → evTop Try.prog ⟨[], inl, keepIn keeps, []⟩ 6 84 (CodL.val (CodL.cons (Cod.int .i64) (CodL.cons (Cod.int .i64) CodL.nil)) a) (fun v => Cod.dec (Cod.tup (CodL.cons Cod.str (CodL.cons (Cod.err faultT) CodL.nil))) v some) = some b := by
  rintro ⟨x, n, u⟩ b h
  simp only [F84] at h
  by_cases h1 : n = 1
  · subst h1
    rw [F84_1, big_raw, ← h, if_pos rfl, u8_of _ _ (by decide), Int.ediv_one]; rfl
  · by_cases h2 : n = 2
    · subst h2
      rw [F84_2, big_raw, ← h, if_neg h1, if_pos rfl, u8_of _ _ (by decide), u8_of _ _ (by decide), Int.ediv_one]; rfl
    · by_cases h4 : n = 4
      · subst h4
        rw [F84_4, big_raw, ← h, if_neg h1, if_neg h2, if_pos rfl, u8_of _ _ (by decide), u8_of _ _ (by decide), u8_of _ _ (by decide), u8_of _ _ (by decide), Int.ediv_one]; rfl
      · rw [if_neg h1, if_neg h2, if_neg h4] at h; cases h
noncomputable def d84 : Ctr Try.prog := Ctr.ofF 84 (CodL.cons (Cod.int .i64) (CodL.cons (Cod.int .i64) CodL.nil)) (Cod.tup (CodL.cons Cod.str (CodL.cons (Cod.err faultT) CodL.nil))) (fun a => F84 a.1 a.2.1) (pcalls_of_imp mix noLoops F84_imp)

/-- interpreter/fault.big -/
def F48 (x : Int) (n : Int) : Option (List UInt8) :=
  Option.bind (
    F84 (x) (n)) fun q2 =>
  errK (q2.snd.fst) (
    some (q2.fst)) fun c3 p3 =>
    some (q2.fst)
theorem F48_ev : ∀ a, evTop Try.prog ⟨[d84], inl, keepIn keeps, []⟩ 6 48 (CodL.val (CodL.cons (Cod.int .i64) (CodL.cons (Cod.int .i64) CodL.nil)) a) (fun v => Cod.dec Cod.str v some) = (fun a => F48 a.1 a.2.1) a := by
  intro a; kernel_rfl
noncomputable def d48 : Ctr Try.prog := Ctr.ofF 48 (CodL.cons (Cod.int .i64) (CodL.cons (Cod.int .i64) CodL.nil)) Cod.str (fun a => F48 a.1 a.2.1) (pcalls_of_ev mix noLoops F48_ev)
/-- interpreter/sum.big -/
def F72 (x : Int) (n : Int) : Option (List UInt8) :=
  gd (Decidable.decide (0 ≤ IntKind.i64.wrap (8 * n))) <|
  Option.bind (
    F84 (iand IntKind.i64 x (IntKind.i64.wrap (IntKind.i64.wrap (1 * 2 ^ Min.min (IntKind.i64.wrap (8 * n)).toNat 64) - 1))) (n)) fun q2 =>
  errK (q2.snd.fst) (
    some (q2.fst)) fun c3 p3 =>
    some (q2.fst)
theorem F72_ev : ∀ a, evTop Try.prog ⟨[d84], inl, keepIn keeps, []⟩ 6 72 (CodL.val (CodL.cons (Cod.int .i64) (CodL.cons (Cod.int .i64) CodL.nil)) a) (fun v => Cod.dec Cod.str v some) = (fun a => F72 a.1 a.2.1) a := by
  intro a; kernel_rfl
noncomputable def d72 : Ctr Try.prog := Ctr.ofF 72 (CodL.cons (Cod.int .i64) (CodL.cons (Cod.int .i64) CodL.nil)) Cod.str (fun a => F72 a.1 a.2.1) (pcalls_of_ev mix noLoops F72_ev)
/-- interpreter/sum.Pseudo6 -/
def F29 (x0_from : V6) (x1_to : V6) (next : Int) (length : Int) : Option (List UInt8) :=
  Option.bind (
    F72 (length) (4)) fun q4 =>
  gd (catOk ([UInt8.ofNat x0_from.b0.toNat, UInt8.ofNat x0_from.b1.toNat, UInt8.ofNat x0_from.b2.toNat, UInt8.ofNat x0_from.b3.toNat, UInt8.ofNat x0_from.b4.toNat, UInt8.ofNat x0_from.b5.toNat, UInt8.ofNat x0_from.b6.toNat, UInt8.ofNat x0_from.b7.toNat, UInt8.ofNat x0_from.b8.toNat, UInt8.ofNat x0_from.b9.toNat, UInt8.ofNat x0_from.b10.toNat, UInt8.ofNat x0_from.b11.toNat, UInt8.ofNat x0_from.b12.toNat, UInt8.ofNat x0_from.b13.toNat, UInt8.ofNat x0_from.b14.toNat, UInt8.ofNat x0_from.b15.toNat] ++ [UInt8.ofNat x1_to.b0.toNat, UInt8.ofNat x1_to.b1.toNat, UInt8.ofNat x1_to.b2.toNat, UInt8.ofNat x1_to.b3.toNat, UInt8.ofNat x1_to.b4.toNat, UInt8.ofNat x1_to.b5.toNat, UInt8.ofNat x1_to.b6.toNat, UInt8.ofNat x1_to.b7.toNat, UInt8.ofNat x1_to.b8.toNat, UInt8.ofNat x1_to.b9.toNat, UInt8.ofNat x1_to.b10.toNat, UInt8.ofNat x1_to.b11.toNat, UInt8.ofNat x1_to.b12.toNat, UInt8.ofNat x1_to.b13.toNat, UInt8.ofNat x1_to.b14.toNat, UInt8.ofNat x1_to.b15.toNat]) q4) <|
  gd (catOk ([UInt8.ofNat x0_from.b0.toNat, UInt8.ofNat x0_from.b1.toNat, UInt8.ofNat x0_from.b2.toNat, UInt8.ofNat x0_from.b3.toNat, UInt8.ofNat x0_from.b4.toNat, UInt8.ofNat x0_from.b5.toNat, UInt8.ofNat x0_from.b6.toNat, UInt8.ofNat x0_from.b7.toNat, UInt8.ofNat x0_from.b8.toNat, UInt8.ofNat x0_from.b9.toNat, UInt8.ofNat x0_from.b10.toNat, UInt8.ofNat x0_from.b11.toNat, UInt8.ofNat x0_from.b12.toNat, UInt8.ofNat x0_from.b13.toNat, UInt8.ofNat x0_from.b14.toNat, UInt8.ofNat x0_from.b15.toNat] ++ [UInt8.ofNat x1_to.b0.toNat, UInt8.ofNat x1_to.b1.toNat, UInt8.ofNat x1_to.b2.toNat, UInt8.ofNat x1_to.b3.toNat, UInt8.ofNat x1_to.b4.toNat, UInt8.ofNat x1_to.b5.toNat, UInt8.ofNat x1_to.b6.toNat, UInt8.ofNat x1_to.b7.toNat, UInt8.ofNat x1_to.b8.toNat, UInt8.ofNat x1_to.b9.toNat, UInt8.ofNat x1_to.b10.toNat, UInt8.ofNat x1_to.b11.toNat, UInt8.ofNat x1_to.b12.toNat, UInt8.ofNat x1_to.b13.toNat, UInt8.ofNat x1_to.b14.toNat, UInt8.ofNat x1_to.b15.toNat] ++ q4) [0, 0, 0]) <|
  Option.bind (
    F72 (next) (1)) fun q5 =>
  gd (catOk ([UInt8.ofNat x0_from.b0.toNat, UInt8.ofNat x0_from.b1.toNat, UInt8.ofNat x0_from.b2.toNat, UInt8.ofNat x0_from.b3.toNat, UInt8.ofNat x0_from.b4.toNat, UInt8.ofNat x0_from.b5.toNat, UInt8.ofNat x0_from.b6.toNat, UInt8.ofNat x0_from.b7.toNat, UInt8.ofNat x0_from.b8.toNat, UInt8.ofNat x0_from.b9.toNat, UInt8.ofNat x0_from.b10.toNat, UInt8.ofNat x0_from.b11.toNat, UInt8.ofNat x0_from.b12.toNat, UInt8.ofNat x0_from.b13.toNat, UInt8.ofNat x0_from.b14.toNat, UInt8.ofNat x0_from.b15.toNat] ++ [UInt8.ofNat x1_to.b0.toNat, UInt8.ofNat x1_to.b1.toNat, UInt8.ofNat x1_to.b2.toNat, UInt8.ofNat x1_to.b3.toNat, UInt8.ofNat x1_to.b4.toNat, UInt8.ofNat x1_to.b5.toNat, UInt8.ofNat x1_to.b6.toNat, UInt8.ofNat x1_to.b7.toNat, UInt8.ofNat x1_to.b8.toNat, UInt8.ofNat x1_to.b9.toNat, UInt8.ofNat x1_to.b10.toNat, UInt8.ofNat x1_to.b11.toNat, UInt8.ofNat x1_to.b12.toNat, UInt8.ofNat x1_to.b13.toNat, UInt8.ofNat x1_to.b14.toNat, UInt8.ofNat x1_to.b15.toNat] ++ q4 ++ [0, 0, 0]) q5) <|
  some ([UInt8.ofNat x0_from.b0.toNat, UInt8.ofNat x0_from.b1.toNat, UInt8.ofNat x0_from.b2.toNat, UInt8.ofNat x0_from.b3.toNat, UInt8.ofNat x0_from.b4.toNat, UInt8.ofNat x0_from.b5.toNat, UInt8.ofNat x0_from.b6.toNat, UInt8.ofNat x0_from.b7.toNat, UInt8.ofNat x0_from.b8.toNat, UInt8.ofNat x0_from.b9.toNat, UInt8.ofNat x0_from.b10.toNat, UInt8.ofNat x0_from.b11.toNat, UInt8.ofNat x0_from.b12.toNat, UInt8.ofNat x0_from.b13.toNat, UInt8.ofNat x0_from.b14.toNat, UInt8.ofNat x0_from.b15.toNat] ++ [UInt8.ofNat x1_to.b0.toNat, UInt8.ofNat x1_to.b1.toNat, UInt8.ofNat x1_to.b2.toNat, UInt8.ofNat x1_to.b3.toNat, UInt8.ofNat x1_to.b4.toNat, UInt8.ofNat x1_to.b5.toNat, UInt8.ofNat x1_to.b6.toNat, UInt8.ofNat x1_to.b7.toNat, UInt8.ofNat x1_to.b8.toNat, UInt8.ofNat x1_to.b9.toNat, UInt8.ofNat x1_to.b10.toNat, UInt8.ofNat x1_to.b11.toNat, UInt8.ofNat x1_to.b12.toNat, UInt8.ofNat x1_to.b13.toNat, UInt8.ofNat x1_to.b14.toNat, UInt8.ofNat x1_to.b15.toNat] ++ q4 ++ [0, 0, 0] ++ q5)
theorem F29_ev : ∀ a, evTop Try.prog ⟨[d72], inl, keepIn keeps, []⟩ 6 29 (CodL.val (CodL.cons (Cod.agg lV6) (CodL.cons (Cod.agg lV6) (CodL.cons (Cod.int .i64) (CodL.cons (Cod.int .i64) CodL.nil)))) a) (fun v => Cod.dec Cod.str v some) = (fun a => F29 a.1 a.2.1 a.2.2.1 a.2.2.2.1) a := by
  intro a; kernel_rfl
noncomputable def d29 : Ctr Try.prog := Ctr.ofF 29 (CodL.cons (Cod.agg lV6) (CodL.cons (Cod.agg lV6) (CodL.cons (Cod.int .i64) (CodL.cons (Cod.int .i64) CodL.nil)))) Cod.str (fun a => F29 a.1 a.2.1 a.2.2.1 a.2.2.2.1) (pcalls_of_ev mix noLoops F29_ev)
/-- interpreter/sum.even -/
def F125 (s : List UInt8) : Option (List UInt8) :=
  bif (↑s.length : Int).tmod 2 == 1 then
    gd (catOk s [0]) <|
    some (s ++ [0])
  else
    some (s)
theorem F125_ev : ∀ a, evTop Try.prog ⟨[], inl, keepIn keeps, []⟩ 6 125 (CodL.val (CodL.cons Cod.str CodL.nil) a) (fun v => Cod.dec Cod.str v some) = (fun a => F125 a.1) a := by
  intro a; kernel_rfl
noncomputable def d125 : Ctr Try.prog := Ctr.ofF 125 (CodL.cons Cod.str CodL.nil) Cod.str (fun a => F125 a.1) (pcalls_of_ev mix noLoops F125_ev)
/-- interpreter/sum.Update -/
def F123 (sum : Int) (x1_old : List UInt8) (x2_new : List UInt8) : Option (Int) :=
  Option.bind (
    F125 (x1_old)) fun q3 =>
  Option.bind (
    F93 (IntKind.i64.wrap (65535 - iand IntKind.i64 sum 65535)) (0) (q3) (255)) fun q4 =>
  Option.bind (
    F92 (q4)) fun q5 =>
  Option.bind (
    F93 (q5) (0) (x2_new) (0)) fun q6 =>
  Option.bind (
    F92 (q6)) fun q7 =>
  some (IntKind.i64.wrap (65535 - q7))
theorem F123_ev : ∀ a, evTop Try.prog ⟨[d92, d93, d125], inl, keepIn keeps, []⟩ 6 123 (CodL.val (CodL.cons (Cod.int .i64) (CodL.cons Cod.str (CodL.cons Cod.str CodL.nil))) a) (fun v => Cod.dec (Cod.int .i64) v some) = (fun a => F123 a.1 a.2.1 a.2.2.1) a := by
  intro a; kernel_rfl
noncomputable def d123 : Ctr Try.prog := Ctr.ofF 123 (CodL.cons (Cod.int .i64) (CodL.cons Cod.str (CodL.cons Cod.str CodL.nil))) (Cod.int .i64) (fun a => F123 a.1 a.2.1 a.2.2.1) (pcalls_of_ev mix noLoops F123_ev)
/-- interpreter/fault.update -/
def F111 (data : List UInt8) (x1_at : Int) (x2_old : List UInt8) (x3_new : List UInt8) (x4_none : Bool) : Option (List UInt8) :=
  bif ltI (↑data.length : Int) (IntKind.i64.wrap (x1_at + 2)) then
    some (data)
  else
    gd (inB x1_at data.length) <|
    gd (inB (IntKind.i64.wrap (x1_at + 1)) data.length) <|
    Option.bind (
      bif x4_none then
        some (ior IntKind.i64 (IntKind.i64.wrap (IntKind.i64.wrap (bt data x1_at) * 256)) (IntKind.i64.wrap (bt data (IntKind.i64.wrap (x1_at + 1)))) == 0)
      else
        some (false)) fun q5 =>
    bif q5 then
      some (data)
    else
      Option.bind (
        F123 (ior IntKind.i64 (IntKind.i64.wrap (IntKind.i64.wrap (bt data x1_at) * 256)) (IntKind.i64.wrap (bt data (IntKind.i64.wrap (x1_at + 1))))) (x2_old) (x3_new)) fun q6 =>
      Option.bind (
        bif x4_none then
          some (q6 == 0)
        else
          some (false)) fun q7 =>
      bif q7 then
        gd (ordB 0 x1_at data.length) <|
        Option.bind (
          F48 (65535) (2)) fun q8 =>
        gd (catOk (sub data none (some (V.int IntKind.i64 x1_at)) 0 x1_at.toNat) q8) <|
        gd (ordB (IntKind.i64.wrap (x1_at + 2)) (↑data.length : Int) data.length) <|
        gd (catOk (sub data none (some (V.int IntKind.i64 x1_at)) 0 x1_at.toNat ++ q8) (sub data (some (V.int IntKind.i64 (IntKind.i64.wrap (x1_at + 2)))) none (IntKind.i64.wrap (x1_at + 2)).toNat (↑data.length : Int).toNat)) <|
        some (sub data none (some (V.int IntKind.i64 x1_at)) 0 x1_at.toNat ++ q8 ++ sub data (some (V.int IntKind.i64 (IntKind.i64.wrap (x1_at + 2)))) none (IntKind.i64.wrap (x1_at + 2)).toNat (↑data.length : Int).toNat)
      else
        gd (ordB 0 x1_at data.length) <|
        Option.bind (
          F48 (q6) (2)) fun q8 =>
        gd (catOk (sub data none (some (V.int IntKind.i64 x1_at)) 0 x1_at.toNat) q8) <|
        gd (ordB (IntKind.i64.wrap (x1_at + 2)) (↑data.length : Int) data.length) <|
        gd (catOk (sub data none (some (V.int IntKind.i64 x1_at)) 0 x1_at.toNat ++ q8) (sub data (some (V.int IntKind.i64 (IntKind.i64.wrap (x1_at + 2)))) none (IntKind.i64.wrap (x1_at + 2)).toNat (↑data.length : Int).toNat)) <|
        some (sub data none (some (V.int IntKind.i64 x1_at)) 0 x1_at.toNat ++ q8 ++ sub data (some (V.int IntKind.i64 (IntKind.i64.wrap (x1_at + 2)))) none (IntKind.i64.wrap (x1_at + 2)).toNat (↑data.length : Int).toNat)
theorem F111_ev : ∀ a, evTop Try.prog ⟨[d48, d123], inl, keepIn keeps, []⟩ 6 111 (CodL.val (CodL.cons Cod.str (CodL.cons (Cod.int .i64) (CodL.cons Cod.str (CodL.cons Cod.str (CodL.cons Cod.bool CodL.nil))))) a) (fun v => Cod.dec Cod.str v some) = (fun a => F111 a.1 a.2.1 a.2.2.1 a.2.2.2.1 a.2.2.2.2.1) a := by
  intro a; kernel_rfl
noncomputable def d111 : Ctr Try.prog := Ctr.ofF 111 (CodL.cons Cod.str (CodL.cons (Cod.int .i64) (CodL.cons Cod.str (CodL.cons Cod.str (CodL.cons Cod.bool CodL.nil))))) Cod.str (fun a => F111 a.1 a.2.1 a.2.2.1 a.2.2.2.1 a.2.2.2.2.1) (pcalls_of_ev mix noLoops F111_ev)
/-- interpreter/fault.ported -/
def F87 (proto : Int) (data : List UInt8) (x2_old : List UInt8) (x3_new : List UInt8) (x4_from : Int) (x5_to : Int) : Option (List UInt8) :=
  bif ltI (↑data.length : Int) 4 then
    some (data)
  else
    Option.bind (
      F48 (x4_from) (2)) fun q6 =>
    Option.bind (
      F48 (x5_to) (2)) fun q7 =>
    gd (catOk q6 q7) <|
    gd (ordB 0 4 data.length) <|
    gd (ordB 4 (↑data.length : Int) data.length) <|
    gd (catOk (q6 ++ q7) (sub data (some (V.int IntKind.i64 4)) none 4 (↑data.length : Int).toNat)) <|
    bif proto == 17 then
      gd (catOk x2_old (sub data none (some (V.int IntKind.i64 4)) 0 4)) <|
      gd (catOk x3_new (q6 ++ q7)) <|
      Option.bind (
        F111 (q6 ++ q7 ++ sub data (some (V.int IntKind.i64 4)) none 4 (↑data.length : Int).toNat) (6) (x2_old ++ sub data none (some (V.int IntKind.i64 4)) 0 4) (x3_new ++ (q6 ++ q7)) (true)) fun q8 =>
      some (q8)
    else
      gd (catOk x2_old (sub data none (some (V.int IntKind.i64 4)) 0 4)) <|
      gd (catOk x3_new (q6 ++ q7)) <|
      Option.bind (
        F111 (q6 ++ q7 ++ sub data (some (V.int IntKind.i64 4)) none 4 (↑data.length : Int).toNat) (16) (x2_old ++ sub data none (some (V.int IntKind.i64 4)) 0 4) (x3_new ++ (q6 ++ q7)) (false)) fun q8 =>
      some (q8)
theorem F87_ev : ∀ a, evTop Try.prog ⟨[d48, d111], inl, keepIn keeps, []⟩ 6 87 (CodL.val (CodL.cons (Cod.int .i64) (CodL.cons Cod.str (CodL.cons Cod.str (CodL.cons Cod.str (CodL.cons (Cod.int .i64) (CodL.cons (Cod.int .i64) CodL.nil)))))) a) (fun v => Cod.dec Cod.str v some) = (fun a => F87 a.1 a.2.1 a.2.2.1 a.2.2.2.1 a.2.2.2.2.1 a.2.2.2.2.2.1) a := by
  intro a; kernel_rfl
noncomputable def d87 : Ctr Try.prog := Ctr.ofF 87 (CodL.cons (Cod.int .i64) (CodL.cons Cod.str (CodL.cons Cod.str (CodL.cons Cod.str (CodL.cons (Cod.int .i64) (CodL.cons (Cod.int .i64) CodL.nil)))))) Cod.str (fun a => F87 a.1 a.2.1 a.2.2.1 a.2.2.2.1 a.2.2.2.2.1 a.2.2.2.2.2.1) (pcalls_of_ev mix noLoops F87_ev)
/-- interpreter/fault.echoed -/
def F88 (data : List UInt8) (x1_old : List UInt8) (x2_new : List UInt8) (kind : Int) (x4_id : Int) : Option (List UInt8) :=
  gd (ordB 0 2 data.length) <|
  gd (ordB 4 6 data.length) <|
  gd (catOk (sub data none (some (V.int IntKind.i64 2)) 0 2) (sub data (some (V.int IntKind.i64 4)) (some (V.int IntKind.i64 6)) 4 6)) <|
  Option.bind (
    F48 (kind) (1)) fun q5 =>
  gd (catOk q5 [0]) <|
  gd (ordB 2 4 data.length) <|
  gd (catOk (q5 ++ [0]) (sub data (some (V.int IntKind.i64 2)) (some (V.int IntKind.i64 4)) 2 4)) <|
  Option.bind (
    F48 (x4_id) (2)) fun q6 =>
  gd (catOk (q5 ++ [0] ++ sub data (some (V.int IntKind.i64 2)) (some (V.int IntKind.i64 4)) 2 4) q6) <|
  gd (ordB 6 (↑data.length : Int) data.length) <|
  gd (catOk (q5 ++ [0] ++ sub data (some (V.int IntKind.i64 2)) (some (V.int IntKind.i64 4)) 2 4 ++ q6) (sub data (some (V.int IntKind.i64 6)) none 6 (↑data.length : Int).toNat)) <|
  gd (catOk x1_old (sub data none (some (V.int IntKind.i64 2)) 0 2 ++ sub data (some (V.int IntKind.i64 4)) (some (V.int IntKind.i64 6)) 4 6)) <|
  gd (catOk x2_new (q5 ++ [0])) <|
  Option.bind (
    F48 (x4_id) (2)) fun q7 =>
  gd (catOk (x2_new ++ (q5 ++ [0])) q7) <|
  Option.bind (
    F111 (q5 ++ [0] ++ sub data (some (V.int IntKind.i64 2)) (some (V.int IntKind.i64 4)) 2 4 ++ q6 ++ sub data (some (V.int IntKind.i64 6)) none 6 (↑data.length : Int).toNat) (2) (x1_old ++ (sub data none (some (V.int IntKind.i64 2)) 0 2 ++ sub data (some (V.int IntKind.i64 4)) (some (V.int IntKind.i64 6)) 4 6)) (x2_new ++ (q5 ++ [0]) ++ q7) (false)) fun q8 =>
  some (q8)
theorem F88_ev : ∀ a, evTop Try.prog ⟨[d48, d111], inl, keepIn keeps, []⟩ 6 88 (CodL.val (CodL.cons Cod.str (CodL.cons Cod.str (CodL.cons Cod.str (CodL.cons (Cod.int .i64) (CodL.cons (Cod.int .i64) CodL.nil))))) a) (fun v => Cod.dec Cod.str v some) = (fun a => F88 a.1 a.2.1 a.2.2.1 a.2.2.2.1 a.2.2.2.2.1) a := by
  intro a; kernel_rfl
noncomputable def d88 : Ctr Try.prog := Ctr.ofF 88 (CodL.cons Cod.str (CodL.cons Cod.str (CodL.cons Cod.str (CodL.cons (Cod.int .i64) (CodL.cons (Cod.int .i64) CodL.nil))))) Cod.str (fun a => F88 a.1 a.2.1 a.2.2.1 a.2.2.2.1 a.2.2.2.2.1) (pcalls_of_ev mix noLoops F88_ev)
/-- interpreter/fault.turn6 -/
def F49 (p : Ip4) (claim : Int) (x2_from : T6) (x3_to : T6) : Option (List UInt8) :=
  bif ltI 0 p.At then
    some (p.Data)
  else
    Option.bind (
      bif p.Proto == 6 then
        some (true)
      else
        some (p.Proto == 17)) fun q4 =>
    bif q4 then
      Option.bind (
        F87 (p.Proto) (p.Data) ([UInt8.ofNat p.From.b0.toNat, UInt8.ofNat p.From.b1.toNat, UInt8.ofNat p.From.b2.toNat, UInt8.ofNat p.From.b3.toNat] ++ [UInt8.ofNat p.To.b0.toNat, UInt8.ofNat p.To.b1.toNat, UInt8.ofNat p.To.b2.toNat, UInt8.ofNat p.To.b3.toNat]) ([UInt8.ofNat x2_from.Addr.b0.toNat, UInt8.ofNat x2_from.Addr.b1.toNat, UInt8.ofNat x2_from.Addr.b2.toNat, UInt8.ofNat x2_from.Addr.b3.toNat, UInt8.ofNat x2_from.Addr.b4.toNat, UInt8.ofNat x2_from.Addr.b5.toNat, UInt8.ofNat x2_from.Addr.b6.toNat, UInt8.ofNat x2_from.Addr.b7.toNat, UInt8.ofNat x2_from.Addr.b8.toNat, UInt8.ofNat x2_from.Addr.b9.toNat, UInt8.ofNat x2_from.Addr.b10.toNat, UInt8.ofNat x2_from.Addr.b11.toNat, UInt8.ofNat x2_from.Addr.b12.toNat, UInt8.ofNat x2_from.Addr.b13.toNat, UInt8.ofNat x2_from.Addr.b14.toNat, UInt8.ofNat x2_from.Addr.b15.toNat] ++ [UInt8.ofNat x3_to.Addr.b0.toNat, UInt8.ofNat x3_to.Addr.b1.toNat, UInt8.ofNat x3_to.Addr.b2.toNat, UInt8.ofNat x3_to.Addr.b3.toNat, UInt8.ofNat x3_to.Addr.b4.toNat, UInt8.ofNat x3_to.Addr.b5.toNat, UInt8.ofNat x3_to.Addr.b6.toNat, UInt8.ofNat x3_to.Addr.b7.toNat, UInt8.ofNat x3_to.Addr.b8.toNat, UInt8.ofNat x3_to.Addr.b9.toNat, UInt8.ofNat x3_to.Addr.b10.toNat, UInt8.ofNat x3_to.Addr.b11.toNat, UInt8.ofNat x3_to.Addr.b12.toNat, UInt8.ofNat x3_to.Addr.b13.toNat, UInt8.ofNat x3_to.Addr.b14.toNat, UInt8.ofNat x3_to.Addr.b15.toNat]) (x2_from.Port) (x3_to.Port)) fun q5 =>
      some (q5)
    else
      Option.bind (
        bif p.Proto == 1 then
          some (leI 8 (↑p.Data.length : Int))
        else
          some (false)) fun q5 =>
      bif q5 then
        gd (inB 0 p.Data.length) <|
        bif Decidable.decide (bt p.Data 0 = 8) then
          Option.bind (
            gd (inB 1 p.Data.length) <|
            some (bt p.Data 1 == 0)) fun q6 =>
          bif q6 then
            Option.bind (
              F29 ({ b0 := x2_from.Addr.b0, b1 := x2_from.Addr.b1, b2 := x2_from.Addr.b2, b3 := x2_from.Addr.b3, b4 := x2_from.Addr.b4, b5 := x2_from.Addr.b5, b6 := x2_from.Addr.b6, b7 := x2_from.Addr.b7, b8 := x2_from.Addr.b8, b9 := x2_from.Addr.b9, b10 := x2_from.Addr.b10, b11 := x2_from.Addr.b11, b12 := x2_from.Addr.b12, b13 := x2_from.Addr.b13, b14 := x2_from.Addr.b14, b15 := x2_from.Addr.b15 }) ({ b0 := x3_to.Addr.b0, b1 := x3_to.Addr.b1, b2 := x3_to.Addr.b2, b3 := x3_to.Addr.b3, b4 := x3_to.Addr.b4, b5 := x3_to.Addr.b5, b6 := x3_to.Addr.b6, b7 := x3_to.Addr.b7, b8 := x3_to.Addr.b8, b9 := x3_to.Addr.b9, b10 := x3_to.Addr.b10, b11 := x3_to.Addr.b11, b12 := x3_to.Addr.b12, b13 := x3_to.Addr.b13, b14 := x3_to.Addr.b14, b15 := x3_to.Addr.b15 }) (58) (claim)) fun q7 =>
            Option.bind (
              F88 (p.Data) ([]) (q7) (128) (x2_from.Port)) fun q8 =>
            some (q8)
          else
            some (p.Data)
        else
          bif Decidable.decide (bt p.Data 0 = 0) then
            Option.bind (
              gd (inB 1 p.Data.length) <|
              some (bt p.Data 1 == 0)) fun q6 =>
            bif q6 then
              Option.bind (
                F29 ({ b0 := x2_from.Addr.b0, b1 := x2_from.Addr.b1, b2 := x2_from.Addr.b2, b3 := x2_from.Addr.b3, b4 := x2_from.Addr.b4, b5 := x2_from.Addr.b5, b6 := x2_from.Addr.b6, b7 := x2_from.Addr.b7, b8 := x2_from.Addr.b8, b9 := x2_from.Addr.b9, b10 := x2_from.Addr.b10, b11 := x2_from.Addr.b11, b12 := x2_from.Addr.b12, b13 := x2_from.Addr.b13, b14 := x2_from.Addr.b14, b15 := x2_from.Addr.b15 }) ({ b0 := x3_to.Addr.b0, b1 := x3_to.Addr.b1, b2 := x3_to.Addr.b2, b3 := x3_to.Addr.b3, b4 := x3_to.Addr.b4, b5 := x3_to.Addr.b5, b6 := x3_to.Addr.b6, b7 := x3_to.Addr.b7, b8 := x3_to.Addr.b8, b9 := x3_to.Addr.b9, b10 := x3_to.Addr.b10, b11 := x3_to.Addr.b11, b12 := x3_to.Addr.b12, b13 := x3_to.Addr.b13, b14 := x3_to.Addr.b14, b15 := x3_to.Addr.b15 }) (58) (claim)) fun q7 =>
              Option.bind (
                F88 (p.Data) ([]) (q7) (129) (x2_from.Port)) fun q8 =>
              some (q8)
            else
              some (p.Data)
          else
            some (p.Data)
      else
        some (p.Data)
theorem F49_ev : ∀ a, evTop Try.prog ⟨[d29, d87, d88], inl, keepIn keeps, []⟩ 6 49 (CodL.val (CodL.cons (Cod.agg lIp4) (CodL.cons (Cod.int .i64) (CodL.cons (Cod.agg lT6) (CodL.cons (Cod.agg lT6) CodL.nil)))) a) (fun v => Cod.dec Cod.str v some) = (fun a => F49 a.1 a.2.1 a.2.2.1 a.2.2.2.1) a := by
  intro a; kernel_rfl
noncomputable def d49 : Ctr Try.prog := Ctr.ofF 49 (CodL.cons (Cod.agg lIp4) (CodL.cons (Cod.int .i64) (CodL.cons (Cod.agg lT6) (CodL.cons (Cod.agg lT6) CodL.nil)))) Cod.str (fun a => F49 a.1 a.2.1 a.2.2.1 a.2.2.2.1) (pcalls_of_ev mix noLoops F49_ev)
/-- interpreter/fault.Quote6 -/
def F16 (p : Ip4) (claim : Int) (x2_from : T6) (x3_to : T6) : Option ((List UInt8) × Err × Unit) :=
  Option.bind (
    F46 (p.Proto)) fun q4 =>
  bif p.More then
    Option.bind (
      Option.bind (
        bif ltI p.Tos 0 then
          some (true)
        else
          some (ltI 255 p.Tos)) fun q5 =>
      bif q5 then
        some (false)
      else
        Option.bind (
          bif ltI p.Ttl 0 then
            some (true)
          else
            some (ltI 255 p.Ttl)) fun q6 =>
        bif q6 then
          some (false)
        else
          some (true)) fun q5 =>
    bif !q5 then
      Option.bind (
        F41 (13)) fun q6 =>
      errK (q6) (
        some (([], none, ()))) fun c7 p7 =>
        some (([], some (c7, p7), ()))
    else
      Option.bind (
        Option.bind (
          bif ltI p.Id 0 then
            some (true)
          else
            some (ltI 65535 p.Id)) fun q6 =>
        bif q6 then
          some (false)
        else
          Option.bind (
            bif ltI x2_from.Port 0 then
              some (true)
            else
              some (ltI 65535 x2_from.Port)) fun q7 =>
          bif q7 then
            some (false)
          else
            Option.bind (
              bif ltI x3_to.Port 0 then
                some (true)
              else
                some (ltI 65535 x3_to.Port)) fun q8 =>
            bif q8 then
              some (false)
            else
              some (true)) fun q6 =>
      bif !q6 then
        Option.bind (
          F41 (13)) fun q7 =>
        errK (q7) (
          some (([], none, ()))) fun c8 p8 =>
          some (([], some (c8, p8), ()))
      else
        Option.bind (
          Option.bind (
            bif ltI p.At 0 then
              some (true)
            else
              some (ltI 65528 p.At)) fun q7 =>
          bif q7 then
            some (false)
          else
            some (true)) fun q7 =>
        bif !q7 then
          Option.bind (
            F41 (13)) fun q8 =>
          errK (q8) (
            some (([], none, ()))) fun c9 p9 =>
            some (([], some (c9, p9), ()))
        else
          bif !p.At.tmod 8 == 0 then
            Option.bind (
              F41 (13)) fun q8 =>
            errK (q8) (
              some (([], none, ()))) fun c9 p9 =>
              some (([], some (c9, p9), ()))
          else
            bif ltI claim (↑p.Data.length : Int) then
              Option.bind (
                F41 (13)) fun q8 =>
              errK (q8) (
                some (([], none, ()))) fun c9 p9 =>
                some (([], some (c9, p9), ()))
            else
              bif !q4.snd.fst then
                Option.bind (
                  F41 (10)) fun q8 =>
                errK (q8) (
                  some (([], none, ()))) fun c9 p9 =>
                  some (([], some (c9, p9), ()))
              else
                Option.bind (
                  bif ltI 65535 claim then
                    some (true)
                  else
                    some (ltI 65535 (IntKind.i64.wrap (claim + 8)))) fun q8 =>
                bif q8 then
                  Option.bind (
                    F41 (3)) fun q9 =>
                  errK (q9) (
                    some (([], none, ()))) fun c10 p10 =>
                    some (([], some (c10, p10), ()))
                else
                  bif p.More then
                    Option.bind (
                      F48 (q4.fst) (1)) fun q9 =>
                    gd (catOk q9 [0]) <|
                    Option.bind (
                      F48 (IntKind.i64.wrap (p.At + 1)) (2)) fun q10 =>
                    gd (catOk (q9 ++ [0]) q10) <|
                    Option.bind (
                      F48 (p.Id) (4)) fun q11 =>
                    gd (catOk (q9 ++ [0] ++ q10) q11) <|
                    Option.bind (
                      F48 (ior IntKind.i64 1610612736 (IntKind.i64.wrap (p.Tos * 1048576))) (4)) fun q12 =>
                    Option.bind (
                      F48 (IntKind.i64.wrap (claim + 8)) (2)) fun q13 =>
                    gd (catOk q12 q13) <|
                    Option.bind (
                      F48 (44) (1)) fun q14 =>
                    gd (catOk (q12 ++ q13) q14) <|
                    Option.bind (
                      F48 (p.Ttl) (1)) fun q15 =>
                    gd (catOk (q12 ++ q13 ++ q14) q15) <|
                    gd (catOk (q12 ++ q13 ++ q14 ++ q15) [UInt8.ofNat x2_from.Addr.b0.toNat, UInt8.ofNat x2_from.Addr.b1.toNat, UInt8.ofNat x2_from.Addr.b2.toNat, UInt8.ofNat x2_from.Addr.b3.toNat, UInt8.ofNat x2_from.Addr.b4.toNat, UInt8.ofNat x2_from.Addr.b5.toNat, UInt8.ofNat x2_from.Addr.b6.toNat, UInt8.ofNat x2_from.Addr.b7.toNat, UInt8.ofNat x2_from.Addr.b8.toNat, UInt8.ofNat x2_from.Addr.b9.toNat, UInt8.ofNat x2_from.Addr.b10.toNat, UInt8.ofNat x2_from.Addr.b11.toNat, UInt8.ofNat x2_from.Addr.b12.toNat, UInt8.ofNat x2_from.Addr.b13.toNat, UInt8.ofNat x2_from.Addr.b14.toNat, UInt8.ofNat x2_from.Addr.b15.toNat]) <|
                    gd (catOk (q12 ++ q13 ++ q14 ++ q15 ++ [UInt8.ofNat x2_from.Addr.b0.toNat, UInt8.ofNat x2_from.Addr.b1.toNat, UInt8.ofNat x2_from.Addr.b2.toNat, UInt8.ofNat x2_from.Addr.b3.toNat, UInt8.ofNat x2_from.Addr.b4.toNat, UInt8.ofNat x2_from.Addr.b5.toNat, UInt8.ofNat x2_from.Addr.b6.toNat, UInt8.ofNat x2_from.Addr.b7.toNat, UInt8.ofNat x2_from.Addr.b8.toNat, UInt8.ofNat x2_from.Addr.b9.toNat, UInt8.ofNat x2_from.Addr.b10.toNat, UInt8.ofNat x2_from.Addr.b11.toNat, UInt8.ofNat x2_from.Addr.b12.toNat, UInt8.ofNat x2_from.Addr.b13.toNat, UInt8.ofNat x2_from.Addr.b14.toNat, UInt8.ofNat x2_from.Addr.b15.toNat]) [UInt8.ofNat x3_to.Addr.b0.toNat, UInt8.ofNat x3_to.Addr.b1.toNat, UInt8.ofNat x3_to.Addr.b2.toNat, UInt8.ofNat x3_to.Addr.b3.toNat, UInt8.ofNat x3_to.Addr.b4.toNat, UInt8.ofNat x3_to.Addr.b5.toNat, UInt8.ofNat x3_to.Addr.b6.toNat, UInt8.ofNat x3_to.Addr.b7.toNat, UInt8.ofNat x3_to.Addr.b8.toNat, UInt8.ofNat x3_to.Addr.b9.toNat, UInt8.ofNat x3_to.Addr.b10.toNat, UInt8.ofNat x3_to.Addr.b11.toNat, UInt8.ofNat x3_to.Addr.b12.toNat, UInt8.ofNat x3_to.Addr.b13.toNat, UInt8.ofNat x3_to.Addr.b14.toNat, UInt8.ofNat x3_to.Addr.b15.toNat]) <|
                    gd (catOk (q12 ++ q13 ++ q14 ++ q15 ++ [UInt8.ofNat x2_from.Addr.b0.toNat, UInt8.ofNat x2_from.Addr.b1.toNat, UInt8.ofNat x2_from.Addr.b2.toNat, UInt8.ofNat x2_from.Addr.b3.toNat, UInt8.ofNat x2_from.Addr.b4.toNat, UInt8.ofNat x2_from.Addr.b5.toNat, UInt8.ofNat x2_from.Addr.b6.toNat, UInt8.ofNat x2_from.Addr.b7.toNat, UInt8.ofNat x2_from.Addr.b8.toNat, UInt8.ofNat x2_from.Addr.b9.toNat, UInt8.ofNat x2_from.Addr.b10.toNat, UInt8.ofNat x2_from.Addr.b11.toNat, UInt8.ofNat x2_from.Addr.b12.toNat, UInt8.ofNat x2_from.Addr.b13.toNat, UInt8.ofNat x2_from.Addr.b14.toNat, UInt8.ofNat x2_from.Addr.b15.toNat] ++ [UInt8.ofNat x3_to.Addr.b0.toNat, UInt8.ofNat x3_to.Addr.b1.toNat, UInt8.ofNat x3_to.Addr.b2.toNat, UInt8.ofNat x3_to.Addr.b3.toNat, UInt8.ofNat x3_to.Addr.b4.toNat, UInt8.ofNat x3_to.Addr.b5.toNat, UInt8.ofNat x3_to.Addr.b6.toNat, UInt8.ofNat x3_to.Addr.b7.toNat, UInt8.ofNat x3_to.Addr.b8.toNat, UInt8.ofNat x3_to.Addr.b9.toNat, UInt8.ofNat x3_to.Addr.b10.toNat, UInt8.ofNat x3_to.Addr.b11.toNat, UInt8.ofNat x3_to.Addr.b12.toNat, UInt8.ofNat x3_to.Addr.b13.toNat, UInt8.ofNat x3_to.Addr.b14.toNat, UInt8.ofNat x3_to.Addr.b15.toNat]) (q9 ++ [0] ++ q10 ++ q11)) <|
                    Option.bind (
                      F49 ({ Tos := p.Tos, Id := p.Id, Ttl := p.Ttl, Proto := p.Proto, At := p.At, DF := p.DF, More := p.More, From := { b0 := p.From.b0, b1 := p.From.b1, b2 := p.From.b2, b3 := p.From.b3 }, To := { b0 := p.To.b0, b1 := p.To.b1, b2 := p.To.b2, b3 := p.To.b3 }, Options := p.Options, Data := p.Data }) (claim) ({ Addr := { b0 := x2_from.Addr.b0, b1 := x2_from.Addr.b1, b2 := x2_from.Addr.b2, b3 := x2_from.Addr.b3, b4 := x2_from.Addr.b4, b5 := x2_from.Addr.b5, b6 := x2_from.Addr.b6, b7 := x2_from.Addr.b7, b8 := x2_from.Addr.b8, b9 := x2_from.Addr.b9, b10 := x2_from.Addr.b10, b11 := x2_from.Addr.b11, b12 := x2_from.Addr.b12, b13 := x2_from.Addr.b13, b14 := x2_from.Addr.b14, b15 := x2_from.Addr.b15 }, Port := x2_from.Port }) ({ Addr := { b0 := x3_to.Addr.b0, b1 := x3_to.Addr.b1, b2 := x3_to.Addr.b2, b3 := x3_to.Addr.b3, b4 := x3_to.Addr.b4, b5 := x3_to.Addr.b5, b6 := x3_to.Addr.b6, b7 := x3_to.Addr.b7, b8 := x3_to.Addr.b8, b9 := x3_to.Addr.b9, b10 := x3_to.Addr.b10, b11 := x3_to.Addr.b11, b12 := x3_to.Addr.b12, b13 := x3_to.Addr.b13, b14 := x3_to.Addr.b14, b15 := x3_to.Addr.b15 }, Port := x3_to.Port })) fun q16 =>
                    gd (catOk (q12 ++ q13 ++ q14 ++ q15 ++ [UInt8.ofNat x2_from.Addr.b0.toNat, UInt8.ofNat x2_from.Addr.b1.toNat, UInt8.ofNat x2_from.Addr.b2.toNat, UInt8.ofNat x2_from.Addr.b3.toNat, UInt8.ofNat x2_from.Addr.b4.toNat, UInt8.ofNat x2_from.Addr.b5.toNat, UInt8.ofNat x2_from.Addr.b6.toNat, UInt8.ofNat x2_from.Addr.b7.toNat, UInt8.ofNat x2_from.Addr.b8.toNat, UInt8.ofNat x2_from.Addr.b9.toNat, UInt8.ofNat x2_from.Addr.b10.toNat, UInt8.ofNat x2_from.Addr.b11.toNat, UInt8.ofNat x2_from.Addr.b12.toNat, UInt8.ofNat x2_from.Addr.b13.toNat, UInt8.ofNat x2_from.Addr.b14.toNat, UInt8.ofNat x2_from.Addr.b15.toNat] ++ [UInt8.ofNat x3_to.Addr.b0.toNat, UInt8.ofNat x3_to.Addr.b1.toNat, UInt8.ofNat x3_to.Addr.b2.toNat, UInt8.ofNat x3_to.Addr.b3.toNat, UInt8.ofNat x3_to.Addr.b4.toNat, UInt8.ofNat x3_to.Addr.b5.toNat, UInt8.ofNat x3_to.Addr.b6.toNat, UInt8.ofNat x3_to.Addr.b7.toNat, UInt8.ofNat x3_to.Addr.b8.toNat, UInt8.ofNat x3_to.Addr.b9.toNat, UInt8.ofNat x3_to.Addr.b10.toNat, UInt8.ofNat x3_to.Addr.b11.toNat, UInt8.ofNat x3_to.Addr.b12.toNat, UInt8.ofNat x3_to.Addr.b13.toNat, UInt8.ofNat x3_to.Addr.b14.toNat, UInt8.ofNat x3_to.Addr.b15.toNat] ++ (q9 ++ [0] ++ q10 ++ q11)) q16) <|
                    some ((q12 ++ q13 ++ q14 ++ q15 ++ [UInt8.ofNat x2_from.Addr.b0.toNat, UInt8.ofNat x2_from.Addr.b1.toNat, UInt8.ofNat x2_from.Addr.b2.toNat, UInt8.ofNat x2_from.Addr.b3.toNat, UInt8.ofNat x2_from.Addr.b4.toNat, UInt8.ofNat x2_from.Addr.b5.toNat, UInt8.ofNat x2_from.Addr.b6.toNat, UInt8.ofNat x2_from.Addr.b7.toNat, UInt8.ofNat x2_from.Addr.b8.toNat, UInt8.ofNat x2_from.Addr.b9.toNat, UInt8.ofNat x2_from.Addr.b10.toNat, UInt8.ofNat x2_from.Addr.b11.toNat, UInt8.ofNat x2_from.Addr.b12.toNat, UInt8.ofNat x2_from.Addr.b13.toNat, UInt8.ofNat x2_from.Addr.b14.toNat, UInt8.ofNat x2_from.Addr.b15.toNat] ++ [UInt8.ofNat x3_to.Addr.b0.toNat, UInt8.ofNat x3_to.Addr.b1.toNat, UInt8.ofNat x3_to.Addr.b2.toNat, UInt8.ofNat x3_to.Addr.b3.toNat, UInt8.ofNat x3_to.Addr.b4.toNat, UInt8.ofNat x3_to.Addr.b5.toNat, UInt8.ofNat x3_to.Addr.b6.toNat, UInt8.ofNat x3_to.Addr.b7.toNat, UInt8.ofNat x3_to.Addr.b8.toNat, UInt8.ofNat x3_to.Addr.b9.toNat, UInt8.ofNat x3_to.Addr.b10.toNat, UInt8.ofNat x3_to.Addr.b11.toNat, UInt8.ofNat x3_to.Addr.b12.toNat, UInt8.ofNat x3_to.Addr.b13.toNat, UInt8.ofNat x3_to.Addr.b14.toNat, UInt8.ofNat x3_to.Addr.b15.toNat] ++ (q9 ++ [0] ++ q10 ++ q11) ++ q16, none, ()))
                  else
                    Option.bind (
                      F48 (q4.fst) (1)) fun q9 =>
                    gd (catOk q9 [0]) <|
                    Option.bind (
                      F48 (p.At) (2)) fun q10 =>
                    gd (catOk (q9 ++ [0]) q10) <|
                    Option.bind (
                      F48 (p.Id) (4)) fun q11 =>
                    gd (catOk (q9 ++ [0] ++ q10) q11) <|
                    Option.bind (
                      F48 (ior IntKind.i64 1610612736 (IntKind.i64.wrap (p.Tos * 1048576))) (4)) fun q12 =>
                    Option.bind (
                      F48 (IntKind.i64.wrap (claim + 8)) (2)) fun q13 =>
                    gd (catOk q12 q13) <|
                    Option.bind (
                      F48 (44) (1)) fun q14 =>
                    gd (catOk (q12 ++ q13) q14) <|
                    Option.bind (
                      F48 (p.Ttl) (1)) fun q15 =>
                    gd (catOk (q12 ++ q13 ++ q14) q15) <|
                    gd (catOk (q12 ++ q13 ++ q14 ++ q15) [UInt8.ofNat x2_from.Addr.b0.toNat, UInt8.ofNat x2_from.Addr.b1.toNat, UInt8.ofNat x2_from.Addr.b2.toNat, UInt8.ofNat x2_from.Addr.b3.toNat, UInt8.ofNat x2_from.Addr.b4.toNat, UInt8.ofNat x2_from.Addr.b5.toNat, UInt8.ofNat x2_from.Addr.b6.toNat, UInt8.ofNat x2_from.Addr.b7.toNat, UInt8.ofNat x2_from.Addr.b8.toNat, UInt8.ofNat x2_from.Addr.b9.toNat, UInt8.ofNat x2_from.Addr.b10.toNat, UInt8.ofNat x2_from.Addr.b11.toNat, UInt8.ofNat x2_from.Addr.b12.toNat, UInt8.ofNat x2_from.Addr.b13.toNat, UInt8.ofNat x2_from.Addr.b14.toNat, UInt8.ofNat x2_from.Addr.b15.toNat]) <|
                    gd (catOk (q12 ++ q13 ++ q14 ++ q15 ++ [UInt8.ofNat x2_from.Addr.b0.toNat, UInt8.ofNat x2_from.Addr.b1.toNat, UInt8.ofNat x2_from.Addr.b2.toNat, UInt8.ofNat x2_from.Addr.b3.toNat, UInt8.ofNat x2_from.Addr.b4.toNat, UInt8.ofNat x2_from.Addr.b5.toNat, UInt8.ofNat x2_from.Addr.b6.toNat, UInt8.ofNat x2_from.Addr.b7.toNat, UInt8.ofNat x2_from.Addr.b8.toNat, UInt8.ofNat x2_from.Addr.b9.toNat, UInt8.ofNat x2_from.Addr.b10.toNat, UInt8.ofNat x2_from.Addr.b11.toNat, UInt8.ofNat x2_from.Addr.b12.toNat, UInt8.ofNat x2_from.Addr.b13.toNat, UInt8.ofNat x2_from.Addr.b14.toNat, UInt8.ofNat x2_from.Addr.b15.toNat]) [UInt8.ofNat x3_to.Addr.b0.toNat, UInt8.ofNat x3_to.Addr.b1.toNat, UInt8.ofNat x3_to.Addr.b2.toNat, UInt8.ofNat x3_to.Addr.b3.toNat, UInt8.ofNat x3_to.Addr.b4.toNat, UInt8.ofNat x3_to.Addr.b5.toNat, UInt8.ofNat x3_to.Addr.b6.toNat, UInt8.ofNat x3_to.Addr.b7.toNat, UInt8.ofNat x3_to.Addr.b8.toNat, UInt8.ofNat x3_to.Addr.b9.toNat, UInt8.ofNat x3_to.Addr.b10.toNat, UInt8.ofNat x3_to.Addr.b11.toNat, UInt8.ofNat x3_to.Addr.b12.toNat, UInt8.ofNat x3_to.Addr.b13.toNat, UInt8.ofNat x3_to.Addr.b14.toNat, UInt8.ofNat x3_to.Addr.b15.toNat]) <|
                    gd (catOk (q12 ++ q13 ++ q14 ++ q15 ++ [UInt8.ofNat x2_from.Addr.b0.toNat, UInt8.ofNat x2_from.Addr.b1.toNat, UInt8.ofNat x2_from.Addr.b2.toNat, UInt8.ofNat x2_from.Addr.b3.toNat, UInt8.ofNat x2_from.Addr.b4.toNat, UInt8.ofNat x2_from.Addr.b5.toNat, UInt8.ofNat x2_from.Addr.b6.toNat, UInt8.ofNat x2_from.Addr.b7.toNat, UInt8.ofNat x2_from.Addr.b8.toNat, UInt8.ofNat x2_from.Addr.b9.toNat, UInt8.ofNat x2_from.Addr.b10.toNat, UInt8.ofNat x2_from.Addr.b11.toNat, UInt8.ofNat x2_from.Addr.b12.toNat, UInt8.ofNat x2_from.Addr.b13.toNat, UInt8.ofNat x2_from.Addr.b14.toNat, UInt8.ofNat x2_from.Addr.b15.toNat] ++ [UInt8.ofNat x3_to.Addr.b0.toNat, UInt8.ofNat x3_to.Addr.b1.toNat, UInt8.ofNat x3_to.Addr.b2.toNat, UInt8.ofNat x3_to.Addr.b3.toNat, UInt8.ofNat x3_to.Addr.b4.toNat, UInt8.ofNat x3_to.Addr.b5.toNat, UInt8.ofNat x3_to.Addr.b6.toNat, UInt8.ofNat x3_to.Addr.b7.toNat, UInt8.ofNat x3_to.Addr.b8.toNat, UInt8.ofNat x3_to.Addr.b9.toNat, UInt8.ofNat x3_to.Addr.b10.toNat, UInt8.ofNat x3_to.Addr.b11.toNat, UInt8.ofNat x3_to.Addr.b12.toNat, UInt8.ofNat x3_to.Addr.b13.toNat, UInt8.ofNat x3_to.Addr.b14.toNat, UInt8.ofNat x3_to.Addr.b15.toNat]) (q9 ++ [0] ++ q10 ++ q11)) <|
                    Option.bind (
                      F49 ({ Tos := p.Tos, Id := p.Id, Ttl := p.Ttl, Proto := p.Proto, At := p.At, DF := p.DF, More := p.More, From := { b0 := p.From.b0, b1 := p.From.b1, b2 := p.From.b2, b3 := p.From.b3 }, To := { b0 := p.To.b0, b1 := p.To.b1, b2 := p.To.b2, b3 := p.To.b3 }, Options := p.Options, Data := p.Data }) (claim) ({ Addr := { b0 := x2_from.Addr.b0, b1 := x2_from.Addr.b1, b2 := x2_from.Addr.b2, b3 := x2_from.Addr.b3, b4 := x2_from.Addr.b4, b5 := x2_from.Addr.b5, b6 := x2_from.Addr.b6, b7 := x2_from.Addr.b7, b8 := x2_from.Addr.b8, b9 := x2_from.Addr.b9, b10 := x2_from.Addr.b10, b11 := x2_from.Addr.b11, b12 := x2_from.Addr.b12, b13 := x2_from.Addr.b13, b14 := x2_from.Addr.b14, b15 := x2_from.Addr.b15 }, Port := x2_from.Port }) ({ Addr := { b0 := x3_to.Addr.b0, b1 := x3_to.Addr.b1, b2 := x3_to.Addr.b2, b3 := x3_to.Addr.b3, b4 := x3_to.Addr.b4, b5 := x3_to.Addr.b5, b6 := x3_to.Addr.b6, b7 := x3_to.Addr.b7, b8 := x3_to.Addr.b8, b9 := x3_to.Addr.b9, b10 := x3_to.Addr.b10, b11 := x3_to.Addr.b11, b12 := x3_to.Addr.b12, b13 := x3_to.Addr.b13, b14 := x3_to.Addr.b14, b15 := x3_to.Addr.b15 }, Port := x3_to.Port })) fun q16 =>
                    gd (catOk (q12 ++ q13 ++ q14 ++ q15 ++ [UInt8.ofNat x2_from.Addr.b0.toNat, UInt8.ofNat x2_from.Addr.b1.toNat, UInt8.ofNat x2_from.Addr.b2.toNat, UInt8.ofNat x2_from.Addr.b3.toNat, UInt8.ofNat x2_from.Addr.b4.toNat, UInt8.ofNat x2_from.Addr.b5.toNat, UInt8.ofNat x2_from.Addr.b6.toNat, UInt8.ofNat x2_from.Addr.b7.toNat, UInt8.ofNat x2_from.Addr.b8.toNat, UInt8.ofNat x2_from.Addr.b9.toNat, UInt8.ofNat x2_from.Addr.b10.toNat, UInt8.ofNat x2_from.Addr.b11.toNat, UInt8.ofNat x2_from.Addr.b12.toNat, UInt8.ofNat x2_from.Addr.b13.toNat, UInt8.ofNat x2_from.Addr.b14.toNat, UInt8.ofNat x2_from.Addr.b15.toNat] ++ [UInt8.ofNat x3_to.Addr.b0.toNat, UInt8.ofNat x3_to.Addr.b1.toNat, UInt8.ofNat x3_to.Addr.b2.toNat, UInt8.ofNat x3_to.Addr.b3.toNat, UInt8.ofNat x3_to.Addr.b4.toNat, UInt8.ofNat x3_to.Addr.b5.toNat, UInt8.ofNat x3_to.Addr.b6.toNat, UInt8.ofNat x3_to.Addr.b7.toNat, UInt8.ofNat x3_to.Addr.b8.toNat, UInt8.ofNat x3_to.Addr.b9.toNat, UInt8.ofNat x3_to.Addr.b10.toNat, UInt8.ofNat x3_to.Addr.b11.toNat, UInt8.ofNat x3_to.Addr.b12.toNat, UInt8.ofNat x3_to.Addr.b13.toNat, UInt8.ofNat x3_to.Addr.b14.toNat, UInt8.ofNat x3_to.Addr.b15.toNat] ++ (q9 ++ [0] ++ q10 ++ q11)) q16) <|
                    some ((q12 ++ q13 ++ q14 ++ q15 ++ [UInt8.ofNat x2_from.Addr.b0.toNat, UInt8.ofNat x2_from.Addr.b1.toNat, UInt8.ofNat x2_from.Addr.b2.toNat, UInt8.ofNat x2_from.Addr.b3.toNat, UInt8.ofNat x2_from.Addr.b4.toNat, UInt8.ofNat x2_from.Addr.b5.toNat, UInt8.ofNat x2_from.Addr.b6.toNat, UInt8.ofNat x2_from.Addr.b7.toNat, UInt8.ofNat x2_from.Addr.b8.toNat, UInt8.ofNat x2_from.Addr.b9.toNat, UInt8.ofNat x2_from.Addr.b10.toNat, UInt8.ofNat x2_from.Addr.b11.toNat, UInt8.ofNat x2_from.Addr.b12.toNat, UInt8.ofNat x2_from.Addr.b13.toNat, UInt8.ofNat x2_from.Addr.b14.toNat, UInt8.ofNat x2_from.Addr.b15.toNat] ++ [UInt8.ofNat x3_to.Addr.b0.toNat, UInt8.ofNat x3_to.Addr.b1.toNat, UInt8.ofNat x3_to.Addr.b2.toNat, UInt8.ofNat x3_to.Addr.b3.toNat, UInt8.ofNat x3_to.Addr.b4.toNat, UInt8.ofNat x3_to.Addr.b5.toNat, UInt8.ofNat x3_to.Addr.b6.toNat, UInt8.ofNat x3_to.Addr.b7.toNat, UInt8.ofNat x3_to.Addr.b8.toNat, UInt8.ofNat x3_to.Addr.b9.toNat, UInt8.ofNat x3_to.Addr.b10.toNat, UInt8.ofNat x3_to.Addr.b11.toNat, UInt8.ofNat x3_to.Addr.b12.toNat, UInt8.ofNat x3_to.Addr.b13.toNat, UInt8.ofNat x3_to.Addr.b14.toNat, UInt8.ofNat x3_to.Addr.b15.toNat] ++ (q9 ++ [0] ++ q10 ++ q11) ++ q16, none, ()))
  else
    bif !p.At == 0 then
      Option.bind (
        Option.bind (
          bif ltI p.Tos 0 then
            some (true)
          else
            some (ltI 255 p.Tos)) fun q5 =>
        bif q5 then
          some (false)
        else
          Option.bind (
            bif ltI p.Ttl 0 then
              some (true)
            else
              some (ltI 255 p.Ttl)) fun q6 =>
          bif q6 then
            some (false)
          else
            some (true)) fun q5 =>
      bif !q5 then
        Option.bind (
          F41 (13)) fun q6 =>
        errK (q6) (
          some (([], none, ()))) fun c7 p7 =>
          some (([], some (c7, p7), ()))
      else
        Option.bind (
          Option.bind (
            bif ltI p.Id 0 then
              some (true)
            else
              some (ltI 65535 p.Id)) fun q6 =>
          bif q6 then
            some (false)
          else
            Option.bind (
              bif ltI x2_from.Port 0 then
                some (true)
              else
                some (ltI 65535 x2_from.Port)) fun q7 =>
            bif q7 then
              some (false)
            else
              Option.bind (
                bif ltI x3_to.Port 0 then
                  some (true)
                else
                  some (ltI 65535 x3_to.Port)) fun q8 =>
              bif q8 then
                some (false)
              else
                some (true)) fun q6 =>
        bif !q6 then
          Option.bind (
            F41 (13)) fun q7 =>
          errK (q7) (
            some (([], none, ()))) fun c8 p8 =>
            some (([], some (c8, p8), ()))
        else
          Option.bind (
            Option.bind (
              bif ltI p.At 0 then
                some (true)
              else
                some (ltI 65528 p.At)) fun q7 =>
            bif q7 then
              some (false)
            else
              some (true)) fun q7 =>
          bif !q7 then
            Option.bind (
              F41 (13)) fun q8 =>
            errK (q8) (
              some (([], none, ()))) fun c9 p9 =>
              some (([], some (c9, p9), ()))
          else
            bif !p.At.tmod 8 == 0 then
              Option.bind (
                F41 (13)) fun q8 =>
              errK (q8) (
                some (([], none, ()))) fun c9 p9 =>
                some (([], some (c9, p9), ()))
            else
              bif ltI claim (↑p.Data.length : Int) then
                Option.bind (
                  F41 (13)) fun q8 =>
                errK (q8) (
                  some (([], none, ()))) fun c9 p9 =>
                  some (([], some (c9, p9), ()))
              else
                bif !q4.snd.fst then
                  Option.bind (
                    F41 (10)) fun q8 =>
                  errK (q8) (
                    some (([], none, ()))) fun c9 p9 =>
                    some (([], some (c9, p9), ()))
                else
                  Option.bind (
                    bif ltI 65535 claim then
                      some (true)
                    else
                      some (ltI 65535 (IntKind.i64.wrap (claim + 8)))) fun q8 =>
                  bif q8 then
                    Option.bind (
                      F41 (3)) fun q9 =>
                    errK (q9) (
                      some (([], none, ()))) fun c10 p10 =>
                      some (([], some (c10, p10), ()))
                  else
                    bif !p.At == 0 then
                      bif p.More then
                        Option.bind (
                          F48 (q4.fst) (1)) fun q9 =>
                        gd (catOk q9 [0]) <|
                        Option.bind (
                          F48 (IntKind.i64.wrap (p.At + 1)) (2)) fun q10 =>
                        gd (catOk (q9 ++ [0]) q10) <|
                        Option.bind (
                          F48 (p.Id) (4)) fun q11 =>
                        gd (catOk (q9 ++ [0] ++ q10) q11) <|
                        Option.bind (
                          F48 (ior IntKind.i64 1610612736 (IntKind.i64.wrap (p.Tos * 1048576))) (4)) fun q12 =>
                        Option.bind (
                          F48 (IntKind.i64.wrap (claim + 8)) (2)) fun q13 =>
                        gd (catOk q12 q13) <|
                        Option.bind (
                          F48 (44) (1)) fun q14 =>
                        gd (catOk (q12 ++ q13) q14) <|
                        Option.bind (
                          F48 (p.Ttl) (1)) fun q15 =>
                        gd (catOk (q12 ++ q13 ++ q14) q15) <|
                        gd (catOk (q12 ++ q13 ++ q14 ++ q15) [UInt8.ofNat x2_from.Addr.b0.toNat, UInt8.ofNat x2_from.Addr.b1.toNat, UInt8.ofNat x2_from.Addr.b2.toNat, UInt8.ofNat x2_from.Addr.b3.toNat, UInt8.ofNat x2_from.Addr.b4.toNat, UInt8.ofNat x2_from.Addr.b5.toNat, UInt8.ofNat x2_from.Addr.b6.toNat, UInt8.ofNat x2_from.Addr.b7.toNat, UInt8.ofNat x2_from.Addr.b8.toNat, UInt8.ofNat x2_from.Addr.b9.toNat, UInt8.ofNat x2_from.Addr.b10.toNat, UInt8.ofNat x2_from.Addr.b11.toNat, UInt8.ofNat x2_from.Addr.b12.toNat, UInt8.ofNat x2_from.Addr.b13.toNat, UInt8.ofNat x2_from.Addr.b14.toNat, UInt8.ofNat x2_from.Addr.b15.toNat]) <|
                        gd (catOk (q12 ++ q13 ++ q14 ++ q15 ++ [UInt8.ofNat x2_from.Addr.b0.toNat, UInt8.ofNat x2_from.Addr.b1.toNat, UInt8.ofNat x2_from.Addr.b2.toNat, UInt8.ofNat x2_from.Addr.b3.toNat, UInt8.ofNat x2_from.Addr.b4.toNat, UInt8.ofNat x2_from.Addr.b5.toNat, UInt8.ofNat x2_from.Addr.b6.toNat, UInt8.ofNat x2_from.Addr.b7.toNat, UInt8.ofNat x2_from.Addr.b8.toNat, UInt8.ofNat x2_from.Addr.b9.toNat, UInt8.ofNat x2_from.Addr.b10.toNat, UInt8.ofNat x2_from.Addr.b11.toNat, UInt8.ofNat x2_from.Addr.b12.toNat, UInt8.ofNat x2_from.Addr.b13.toNat, UInt8.ofNat x2_from.Addr.b14.toNat, UInt8.ofNat x2_from.Addr.b15.toNat]) [UInt8.ofNat x3_to.Addr.b0.toNat, UInt8.ofNat x3_to.Addr.b1.toNat, UInt8.ofNat x3_to.Addr.b2.toNat, UInt8.ofNat x3_to.Addr.b3.toNat, UInt8.ofNat x3_to.Addr.b4.toNat, UInt8.ofNat x3_to.Addr.b5.toNat, UInt8.ofNat x3_to.Addr.b6.toNat, UInt8.ofNat x3_to.Addr.b7.toNat, UInt8.ofNat x3_to.Addr.b8.toNat, UInt8.ofNat x3_to.Addr.b9.toNat, UInt8.ofNat x3_to.Addr.b10.toNat, UInt8.ofNat x3_to.Addr.b11.toNat, UInt8.ofNat x3_to.Addr.b12.toNat, UInt8.ofNat x3_to.Addr.b13.toNat, UInt8.ofNat x3_to.Addr.b14.toNat, UInt8.ofNat x3_to.Addr.b15.toNat]) <|
                        gd (catOk (q12 ++ q13 ++ q14 ++ q15 ++ [UInt8.ofNat x2_from.Addr.b0.toNat, UInt8.ofNat x2_from.Addr.b1.toNat, UInt8.ofNat x2_from.Addr.b2.toNat, UInt8.ofNat x2_from.Addr.b3.toNat, UInt8.ofNat x2_from.Addr.b4.toNat, UInt8.ofNat x2_from.Addr.b5.toNat, UInt8.ofNat x2_from.Addr.b6.toNat, UInt8.ofNat x2_from.Addr.b7.toNat, UInt8.ofNat x2_from.Addr.b8.toNat, UInt8.ofNat x2_from.Addr.b9.toNat, UInt8.ofNat x2_from.Addr.b10.toNat, UInt8.ofNat x2_from.Addr.b11.toNat, UInt8.ofNat x2_from.Addr.b12.toNat, UInt8.ofNat x2_from.Addr.b13.toNat, UInt8.ofNat x2_from.Addr.b14.toNat, UInt8.ofNat x2_from.Addr.b15.toNat] ++ [UInt8.ofNat x3_to.Addr.b0.toNat, UInt8.ofNat x3_to.Addr.b1.toNat, UInt8.ofNat x3_to.Addr.b2.toNat, UInt8.ofNat x3_to.Addr.b3.toNat, UInt8.ofNat x3_to.Addr.b4.toNat, UInt8.ofNat x3_to.Addr.b5.toNat, UInt8.ofNat x3_to.Addr.b6.toNat, UInt8.ofNat x3_to.Addr.b7.toNat, UInt8.ofNat x3_to.Addr.b8.toNat, UInt8.ofNat x3_to.Addr.b9.toNat, UInt8.ofNat x3_to.Addr.b10.toNat, UInt8.ofNat x3_to.Addr.b11.toNat, UInt8.ofNat x3_to.Addr.b12.toNat, UInt8.ofNat x3_to.Addr.b13.toNat, UInt8.ofNat x3_to.Addr.b14.toNat, UInt8.ofNat x3_to.Addr.b15.toNat]) (q9 ++ [0] ++ q10 ++ q11)) <|
                        Option.bind (
                          F49 ({ Tos := p.Tos, Id := p.Id, Ttl := p.Ttl, Proto := p.Proto, At := p.At, DF := p.DF, More := p.More, From := { b0 := p.From.b0, b1 := p.From.b1, b2 := p.From.b2, b3 := p.From.b3 }, To := { b0 := p.To.b0, b1 := p.To.b1, b2 := p.To.b2, b3 := p.To.b3 }, Options := p.Options, Data := p.Data }) (claim) ({ Addr := { b0 := x2_from.Addr.b0, b1 := x2_from.Addr.b1, b2 := x2_from.Addr.b2, b3 := x2_from.Addr.b3, b4 := x2_from.Addr.b4, b5 := x2_from.Addr.b5, b6 := x2_from.Addr.b6, b7 := x2_from.Addr.b7, b8 := x2_from.Addr.b8, b9 := x2_from.Addr.b9, b10 := x2_from.Addr.b10, b11 := x2_from.Addr.b11, b12 := x2_from.Addr.b12, b13 := x2_from.Addr.b13, b14 := x2_from.Addr.b14, b15 := x2_from.Addr.b15 }, Port := x2_from.Port }) ({ Addr := { b0 := x3_to.Addr.b0, b1 := x3_to.Addr.b1, b2 := x3_to.Addr.b2, b3 := x3_to.Addr.b3, b4 := x3_to.Addr.b4, b5 := x3_to.Addr.b5, b6 := x3_to.Addr.b6, b7 := x3_to.Addr.b7, b8 := x3_to.Addr.b8, b9 := x3_to.Addr.b9, b10 := x3_to.Addr.b10, b11 := x3_to.Addr.b11, b12 := x3_to.Addr.b12, b13 := x3_to.Addr.b13, b14 := x3_to.Addr.b14, b15 := x3_to.Addr.b15 }, Port := x3_to.Port })) fun q16 =>
                        gd (catOk (q12 ++ q13 ++ q14 ++ q15 ++ [UInt8.ofNat x2_from.Addr.b0.toNat, UInt8.ofNat x2_from.Addr.b1.toNat, UInt8.ofNat x2_from.Addr.b2.toNat, UInt8.ofNat x2_from.Addr.b3.toNat, UInt8.ofNat x2_from.Addr.b4.toNat, UInt8.ofNat x2_from.Addr.b5.toNat, UInt8.ofNat x2_from.Addr.b6.toNat, UInt8.ofNat x2_from.Addr.b7.toNat, UInt8.ofNat x2_from.Addr.b8.toNat, UInt8.ofNat x2_from.Addr.b9.toNat, UInt8.ofNat x2_from.Addr.b10.toNat, UInt8.ofNat x2_from.Addr.b11.toNat, UInt8.ofNat x2_from.Addr.b12.toNat, UInt8.ofNat x2_from.Addr.b13.toNat, UInt8.ofNat x2_from.Addr.b14.toNat, UInt8.ofNat x2_from.Addr.b15.toNat] ++ [UInt8.ofNat x3_to.Addr.b0.toNat, UInt8.ofNat x3_to.Addr.b1.toNat, UInt8.ofNat x3_to.Addr.b2.toNat, UInt8.ofNat x3_to.Addr.b3.toNat, UInt8.ofNat x3_to.Addr.b4.toNat, UInt8.ofNat x3_to.Addr.b5.toNat, UInt8.ofNat x3_to.Addr.b6.toNat, UInt8.ofNat x3_to.Addr.b7.toNat, UInt8.ofNat x3_to.Addr.b8.toNat, UInt8.ofNat x3_to.Addr.b9.toNat, UInt8.ofNat x3_to.Addr.b10.toNat, UInt8.ofNat x3_to.Addr.b11.toNat, UInt8.ofNat x3_to.Addr.b12.toNat, UInt8.ofNat x3_to.Addr.b13.toNat, UInt8.ofNat x3_to.Addr.b14.toNat, UInt8.ofNat x3_to.Addr.b15.toNat] ++ (q9 ++ [0] ++ q10 ++ q11)) q16) <|
                        some ((q12 ++ q13 ++ q14 ++ q15 ++ [UInt8.ofNat x2_from.Addr.b0.toNat, UInt8.ofNat x2_from.Addr.b1.toNat, UInt8.ofNat x2_from.Addr.b2.toNat, UInt8.ofNat x2_from.Addr.b3.toNat, UInt8.ofNat x2_from.Addr.b4.toNat, UInt8.ofNat x2_from.Addr.b5.toNat, UInt8.ofNat x2_from.Addr.b6.toNat, UInt8.ofNat x2_from.Addr.b7.toNat, UInt8.ofNat x2_from.Addr.b8.toNat, UInt8.ofNat x2_from.Addr.b9.toNat, UInt8.ofNat x2_from.Addr.b10.toNat, UInt8.ofNat x2_from.Addr.b11.toNat, UInt8.ofNat x2_from.Addr.b12.toNat, UInt8.ofNat x2_from.Addr.b13.toNat, UInt8.ofNat x2_from.Addr.b14.toNat, UInt8.ofNat x2_from.Addr.b15.toNat] ++ [UInt8.ofNat x3_to.Addr.b0.toNat, UInt8.ofNat x3_to.Addr.b1.toNat, UInt8.ofNat x3_to.Addr.b2.toNat, UInt8.ofNat x3_to.Addr.b3.toNat, UInt8.ofNat x3_to.Addr.b4.toNat, UInt8.ofNat x3_to.Addr.b5.toNat, UInt8.ofNat x3_to.Addr.b6.toNat, UInt8.ofNat x3_to.Addr.b7.toNat, UInt8.ofNat x3_to.Addr.b8.toNat, UInt8.ofNat x3_to.Addr.b9.toNat, UInt8.ofNat x3_to.Addr.b10.toNat, UInt8.ofNat x3_to.Addr.b11.toNat, UInt8.ofNat x3_to.Addr.b12.toNat, UInt8.ofNat x3_to.Addr.b13.toNat, UInt8.ofNat x3_to.Addr.b14.toNat, UInt8.ofNat x3_to.Addr.b15.toNat] ++ (q9 ++ [0] ++ q10 ++ q11) ++ q16, none, ()))
                      else
                        Option.bind (
                          F48 (q4.fst) (1)) fun q9 =>
                        gd (catOk q9 [0]) <|
                        Option.bind (
                          F48 (p.At) (2)) fun q10 =>
                        gd (catOk (q9 ++ [0]) q10) <|
                        Option.bind (
                          F48 (p.Id) (4)) fun q11 =>
                        gd (catOk (q9 ++ [0] ++ q10) q11) <|
                        Option.bind (
                          F48 (ior IntKind.i64 1610612736 (IntKind.i64.wrap (p.Tos * 1048576))) (4)) fun q12 =>
                        Option.bind (
                          F48 (IntKind.i64.wrap (claim + 8)) (2)) fun q13 =>
                        gd (catOk q12 q13) <|
                        Option.bind (
                          F48 (44) (1)) fun q14 =>
                        gd (catOk (q12 ++ q13) q14) <|
                        Option.bind (
                          F48 (p.Ttl) (1)) fun q15 =>
                        gd (catOk (q12 ++ q13 ++ q14) q15) <|
                        gd (catOk (q12 ++ q13 ++ q14 ++ q15) [UInt8.ofNat x2_from.Addr.b0.toNat, UInt8.ofNat x2_from.Addr.b1.toNat, UInt8.ofNat x2_from.Addr.b2.toNat, UInt8.ofNat x2_from.Addr.b3.toNat, UInt8.ofNat x2_from.Addr.b4.toNat, UInt8.ofNat x2_from.Addr.b5.toNat, UInt8.ofNat x2_from.Addr.b6.toNat, UInt8.ofNat x2_from.Addr.b7.toNat, UInt8.ofNat x2_from.Addr.b8.toNat, UInt8.ofNat x2_from.Addr.b9.toNat, UInt8.ofNat x2_from.Addr.b10.toNat, UInt8.ofNat x2_from.Addr.b11.toNat, UInt8.ofNat x2_from.Addr.b12.toNat, UInt8.ofNat x2_from.Addr.b13.toNat, UInt8.ofNat x2_from.Addr.b14.toNat, UInt8.ofNat x2_from.Addr.b15.toNat]) <|
                        gd (catOk (q12 ++ q13 ++ q14 ++ q15 ++ [UInt8.ofNat x2_from.Addr.b0.toNat, UInt8.ofNat x2_from.Addr.b1.toNat, UInt8.ofNat x2_from.Addr.b2.toNat, UInt8.ofNat x2_from.Addr.b3.toNat, UInt8.ofNat x2_from.Addr.b4.toNat, UInt8.ofNat x2_from.Addr.b5.toNat, UInt8.ofNat x2_from.Addr.b6.toNat, UInt8.ofNat x2_from.Addr.b7.toNat, UInt8.ofNat x2_from.Addr.b8.toNat, UInt8.ofNat x2_from.Addr.b9.toNat, UInt8.ofNat x2_from.Addr.b10.toNat, UInt8.ofNat x2_from.Addr.b11.toNat, UInt8.ofNat x2_from.Addr.b12.toNat, UInt8.ofNat x2_from.Addr.b13.toNat, UInt8.ofNat x2_from.Addr.b14.toNat, UInt8.ofNat x2_from.Addr.b15.toNat]) [UInt8.ofNat x3_to.Addr.b0.toNat, UInt8.ofNat x3_to.Addr.b1.toNat, UInt8.ofNat x3_to.Addr.b2.toNat, UInt8.ofNat x3_to.Addr.b3.toNat, UInt8.ofNat x3_to.Addr.b4.toNat, UInt8.ofNat x3_to.Addr.b5.toNat, UInt8.ofNat x3_to.Addr.b6.toNat, UInt8.ofNat x3_to.Addr.b7.toNat, UInt8.ofNat x3_to.Addr.b8.toNat, UInt8.ofNat x3_to.Addr.b9.toNat, UInt8.ofNat x3_to.Addr.b10.toNat, UInt8.ofNat x3_to.Addr.b11.toNat, UInt8.ofNat x3_to.Addr.b12.toNat, UInt8.ofNat x3_to.Addr.b13.toNat, UInt8.ofNat x3_to.Addr.b14.toNat, UInt8.ofNat x3_to.Addr.b15.toNat]) <|
                        gd (catOk (q12 ++ q13 ++ q14 ++ q15 ++ [UInt8.ofNat x2_from.Addr.b0.toNat, UInt8.ofNat x2_from.Addr.b1.toNat, UInt8.ofNat x2_from.Addr.b2.toNat, UInt8.ofNat x2_from.Addr.b3.toNat, UInt8.ofNat x2_from.Addr.b4.toNat, UInt8.ofNat x2_from.Addr.b5.toNat, UInt8.ofNat x2_from.Addr.b6.toNat, UInt8.ofNat x2_from.Addr.b7.toNat, UInt8.ofNat x2_from.Addr.b8.toNat, UInt8.ofNat x2_from.Addr.b9.toNat, UInt8.ofNat x2_from.Addr.b10.toNat, UInt8.ofNat x2_from.Addr.b11.toNat, UInt8.ofNat x2_from.Addr.b12.toNat, UInt8.ofNat x2_from.Addr.b13.toNat, UInt8.ofNat x2_from.Addr.b14.toNat, UInt8.ofNat x2_from.Addr.b15.toNat] ++ [UInt8.ofNat x3_to.Addr.b0.toNat, UInt8.ofNat x3_to.Addr.b1.toNat, UInt8.ofNat x3_to.Addr.b2.toNat, UInt8.ofNat x3_to.Addr.b3.toNat, UInt8.ofNat x3_to.Addr.b4.toNat, UInt8.ofNat x3_to.Addr.b5.toNat, UInt8.ofNat x3_to.Addr.b6.toNat, UInt8.ofNat x3_to.Addr.b7.toNat, UInt8.ofNat x3_to.Addr.b8.toNat, UInt8.ofNat x3_to.Addr.b9.toNat, UInt8.ofNat x3_to.Addr.b10.toNat, UInt8.ofNat x3_to.Addr.b11.toNat, UInt8.ofNat x3_to.Addr.b12.toNat, UInt8.ofNat x3_to.Addr.b13.toNat, UInt8.ofNat x3_to.Addr.b14.toNat, UInt8.ofNat x3_to.Addr.b15.toNat]) (q9 ++ [0] ++ q10 ++ q11)) <|
                        Option.bind (
                          F49 ({ Tos := p.Tos, Id := p.Id, Ttl := p.Ttl, Proto := p.Proto, At := p.At, DF := p.DF, More := p.More, From := { b0 := p.From.b0, b1 := p.From.b1, b2 := p.From.b2, b3 := p.From.b3 }, To := { b0 := p.To.b0, b1 := p.To.b1, b2 := p.To.b2, b3 := p.To.b3 }, Options := p.Options, Data := p.Data }) (claim) ({ Addr := { b0 := x2_from.Addr.b0, b1 := x2_from.Addr.b1, b2 := x2_from.Addr.b2, b3 := x2_from.Addr.b3, b4 := x2_from.Addr.b4, b5 := x2_from.Addr.b5, b6 := x2_from.Addr.b6, b7 := x2_from.Addr.b7, b8 := x2_from.Addr.b8, b9 := x2_from.Addr.b9, b10 := x2_from.Addr.b10, b11 := x2_from.Addr.b11, b12 := x2_from.Addr.b12, b13 := x2_from.Addr.b13, b14 := x2_from.Addr.b14, b15 := x2_from.Addr.b15 }, Port := x2_from.Port }) ({ Addr := { b0 := x3_to.Addr.b0, b1 := x3_to.Addr.b1, b2 := x3_to.Addr.b2, b3 := x3_to.Addr.b3, b4 := x3_to.Addr.b4, b5 := x3_to.Addr.b5, b6 := x3_to.Addr.b6, b7 := x3_to.Addr.b7, b8 := x3_to.Addr.b8, b9 := x3_to.Addr.b9, b10 := x3_to.Addr.b10, b11 := x3_to.Addr.b11, b12 := x3_to.Addr.b12, b13 := x3_to.Addr.b13, b14 := x3_to.Addr.b14, b15 := x3_to.Addr.b15 }, Port := x3_to.Port })) fun q16 =>
                        gd (catOk (q12 ++ q13 ++ q14 ++ q15 ++ [UInt8.ofNat x2_from.Addr.b0.toNat, UInt8.ofNat x2_from.Addr.b1.toNat, UInt8.ofNat x2_from.Addr.b2.toNat, UInt8.ofNat x2_from.Addr.b3.toNat, UInt8.ofNat x2_from.Addr.b4.toNat, UInt8.ofNat x2_from.Addr.b5.toNat, UInt8.ofNat x2_from.Addr.b6.toNat, UInt8.ofNat x2_from.Addr.b7.toNat, UInt8.ofNat x2_from.Addr.b8.toNat, UInt8.ofNat x2_from.Addr.b9.toNat, UInt8.ofNat x2_from.Addr.b10.toNat, UInt8.ofNat x2_from.Addr.b11.toNat, UInt8.ofNat x2_from.Addr.b12.toNat, UInt8.ofNat x2_from.Addr.b13.toNat, UInt8.ofNat x2_from.Addr.b14.toNat, UInt8.ofNat x2_from.Addr.b15.toNat] ++ [UInt8.ofNat x3_to.Addr.b0.toNat, UInt8.ofNat x3_to.Addr.b1.toNat, UInt8.ofNat x3_to.Addr.b2.toNat, UInt8.ofNat x3_to.Addr.b3.toNat, UInt8.ofNat x3_to.Addr.b4.toNat, UInt8.ofNat x3_to.Addr.b5.toNat, UInt8.ofNat x3_to.Addr.b6.toNat, UInt8.ofNat x3_to.Addr.b7.toNat, UInt8.ofNat x3_to.Addr.b8.toNat, UInt8.ofNat x3_to.Addr.b9.toNat, UInt8.ofNat x3_to.Addr.b10.toNat, UInt8.ofNat x3_to.Addr.b11.toNat, UInt8.ofNat x3_to.Addr.b12.toNat, UInt8.ofNat x3_to.Addr.b13.toNat, UInt8.ofNat x3_to.Addr.b14.toNat, UInt8.ofNat x3_to.Addr.b15.toNat] ++ (q9 ++ [0] ++ q10 ++ q11)) q16) <|
                        some ((q12 ++ q13 ++ q14 ++ q15 ++ [UInt8.ofNat x2_from.Addr.b0.toNat, UInt8.ofNat x2_from.Addr.b1.toNat, UInt8.ofNat x2_from.Addr.b2.toNat, UInt8.ofNat x2_from.Addr.b3.toNat, UInt8.ofNat x2_from.Addr.b4.toNat, UInt8.ofNat x2_from.Addr.b5.toNat, UInt8.ofNat x2_from.Addr.b6.toNat, UInt8.ofNat x2_from.Addr.b7.toNat, UInt8.ofNat x2_from.Addr.b8.toNat, UInt8.ofNat x2_from.Addr.b9.toNat, UInt8.ofNat x2_from.Addr.b10.toNat, UInt8.ofNat x2_from.Addr.b11.toNat, UInt8.ofNat x2_from.Addr.b12.toNat, UInt8.ofNat x2_from.Addr.b13.toNat, UInt8.ofNat x2_from.Addr.b14.toNat, UInt8.ofNat x2_from.Addr.b15.toNat] ++ [UInt8.ofNat x3_to.Addr.b0.toNat, UInt8.ofNat x3_to.Addr.b1.toNat, UInt8.ofNat x3_to.Addr.b2.toNat, UInt8.ofNat x3_to.Addr.b3.toNat, UInt8.ofNat x3_to.Addr.b4.toNat, UInt8.ofNat x3_to.Addr.b5.toNat, UInt8.ofNat x3_to.Addr.b6.toNat, UInt8.ofNat x3_to.Addr.b7.toNat, UInt8.ofNat x3_to.Addr.b8.toNat, UInt8.ofNat x3_to.Addr.b9.toNat, UInt8.ofNat x3_to.Addr.b10.toNat, UInt8.ofNat x3_to.Addr.b11.toNat, UInt8.ofNat x3_to.Addr.b12.toNat, UInt8.ofNat x3_to.Addr.b13.toNat, UInt8.ofNat x3_to.Addr.b14.toNat, UInt8.ofNat x3_to.Addr.b15.toNat] ++ (q9 ++ [0] ++ q10 ++ q11) ++ q16, none, ()))
                    else
                      Option.bind (
                        F48 (ior IntKind.i64 1610612736 (IntKind.i64.wrap (p.Tos * 1048576))) (4)) fun q9 =>
                      Option.bind (
                        F48 (IntKind.i64.wrap (claim + 8)) (2)) fun q10 =>
                      gd (catOk q9 q10) <|
                      Option.bind (
                        F48 (q4.fst) (1)) fun q11 =>
                      gd (catOk (q9 ++ q10) q11) <|
                      Option.bind (
                        F48 (p.Ttl) (1)) fun q12 =>
                      gd (catOk (q9 ++ q10 ++ q11) q12) <|
                      gd (catOk (q9 ++ q10 ++ q11 ++ q12) [UInt8.ofNat x2_from.Addr.b0.toNat, UInt8.ofNat x2_from.Addr.b1.toNat, UInt8.ofNat x2_from.Addr.b2.toNat, UInt8.ofNat x2_from.Addr.b3.toNat, UInt8.ofNat x2_from.Addr.b4.toNat, UInt8.ofNat x2_from.Addr.b5.toNat, UInt8.ofNat x2_from.Addr.b6.toNat, UInt8.ofNat x2_from.Addr.b7.toNat, UInt8.ofNat x2_from.Addr.b8.toNat, UInt8.ofNat x2_from.Addr.b9.toNat, UInt8.ofNat x2_from.Addr.b10.toNat, UInt8.ofNat x2_from.Addr.b11.toNat, UInt8.ofNat x2_from.Addr.b12.toNat, UInt8.ofNat x2_from.Addr.b13.toNat, UInt8.ofNat x2_from.Addr.b14.toNat, UInt8.ofNat x2_from.Addr.b15.toNat]) <|
                      gd (catOk (q9 ++ q10 ++ q11 ++ q12 ++ [UInt8.ofNat x2_from.Addr.b0.toNat, UInt8.ofNat x2_from.Addr.b1.toNat, UInt8.ofNat x2_from.Addr.b2.toNat, UInt8.ofNat x2_from.Addr.b3.toNat, UInt8.ofNat x2_from.Addr.b4.toNat, UInt8.ofNat x2_from.Addr.b5.toNat, UInt8.ofNat x2_from.Addr.b6.toNat, UInt8.ofNat x2_from.Addr.b7.toNat, UInt8.ofNat x2_from.Addr.b8.toNat, UInt8.ofNat x2_from.Addr.b9.toNat, UInt8.ofNat x2_from.Addr.b10.toNat, UInt8.ofNat x2_from.Addr.b11.toNat, UInt8.ofNat x2_from.Addr.b12.toNat, UInt8.ofNat x2_from.Addr.b13.toNat, UInt8.ofNat x2_from.Addr.b14.toNat, UInt8.ofNat x2_from.Addr.b15.toNat]) [UInt8.ofNat x3_to.Addr.b0.toNat, UInt8.ofNat x3_to.Addr.b1.toNat, UInt8.ofNat x3_to.Addr.b2.toNat, UInt8.ofNat x3_to.Addr.b3.toNat, UInt8.ofNat x3_to.Addr.b4.toNat, UInt8.ofNat x3_to.Addr.b5.toNat, UInt8.ofNat x3_to.Addr.b6.toNat, UInt8.ofNat x3_to.Addr.b7.toNat, UInt8.ofNat x3_to.Addr.b8.toNat, UInt8.ofNat x3_to.Addr.b9.toNat, UInt8.ofNat x3_to.Addr.b10.toNat, UInt8.ofNat x3_to.Addr.b11.toNat, UInt8.ofNat x3_to.Addr.b12.toNat, UInt8.ofNat x3_to.Addr.b13.toNat, UInt8.ofNat x3_to.Addr.b14.toNat, UInt8.ofNat x3_to.Addr.b15.toNat]) <|
                      gd (catOk (q9 ++ q10 ++ q11 ++ q12 ++ [UInt8.ofNat x2_from.Addr.b0.toNat, UInt8.ofNat x2_from.Addr.b1.toNat, UInt8.ofNat x2_from.Addr.b2.toNat, UInt8.ofNat x2_from.Addr.b3.toNat, UInt8.ofNat x2_from.Addr.b4.toNat, UInt8.ofNat x2_from.Addr.b5.toNat, UInt8.ofNat x2_from.Addr.b6.toNat, UInt8.ofNat x2_from.Addr.b7.toNat, UInt8.ofNat x2_from.Addr.b8.toNat, UInt8.ofNat x2_from.Addr.b9.toNat, UInt8.ofNat x2_from.Addr.b10.toNat, UInt8.ofNat x2_from.Addr.b11.toNat, UInt8.ofNat x2_from.Addr.b12.toNat, UInt8.ofNat x2_from.Addr.b13.toNat, UInt8.ofNat x2_from.Addr.b14.toNat, UInt8.ofNat x2_from.Addr.b15.toNat] ++ [UInt8.ofNat x3_to.Addr.b0.toNat, UInt8.ofNat x3_to.Addr.b1.toNat, UInt8.ofNat x3_to.Addr.b2.toNat, UInt8.ofNat x3_to.Addr.b3.toNat, UInt8.ofNat x3_to.Addr.b4.toNat, UInt8.ofNat x3_to.Addr.b5.toNat, UInt8.ofNat x3_to.Addr.b6.toNat, UInt8.ofNat x3_to.Addr.b7.toNat, UInt8.ofNat x3_to.Addr.b8.toNat, UInt8.ofNat x3_to.Addr.b9.toNat, UInt8.ofNat x3_to.Addr.b10.toNat, UInt8.ofNat x3_to.Addr.b11.toNat, UInt8.ofNat x3_to.Addr.b12.toNat, UInt8.ofNat x3_to.Addr.b13.toNat, UInt8.ofNat x3_to.Addr.b14.toNat, UInt8.ofNat x3_to.Addr.b15.toNat]) []) <|
                      Option.bind (
                        F49 ({ Tos := p.Tos, Id := p.Id, Ttl := p.Ttl, Proto := p.Proto, At := p.At, DF := p.DF, More := p.More, From := { b0 := p.From.b0, b1 := p.From.b1, b2 := p.From.b2, b3 := p.From.b3 }, To := { b0 := p.To.b0, b1 := p.To.b1, b2 := p.To.b2, b3 := p.To.b3 }, Options := p.Options, Data := p.Data }) (claim) ({ Addr := { b0 := x2_from.Addr.b0, b1 := x2_from.Addr.b1, b2 := x2_from.Addr.b2, b3 := x2_from.Addr.b3, b4 := x2_from.Addr.b4, b5 := x2_from.Addr.b5, b6 := x2_from.Addr.b6, b7 := x2_from.Addr.b7, b8 := x2_from.Addr.b8, b9 := x2_from.Addr.b9, b10 := x2_from.Addr.b10, b11 := x2_from.Addr.b11, b12 := x2_from.Addr.b12, b13 := x2_from.Addr.b13, b14 := x2_from.Addr.b14, b15 := x2_from.Addr.b15 }, Port := x2_from.Port }) ({ Addr := { b0 := x3_to.Addr.b0, b1 := x3_to.Addr.b1, b2 := x3_to.Addr.b2, b3 := x3_to.Addr.b3, b4 := x3_to.Addr.b4, b5 := x3_to.Addr.b5, b6 := x3_to.Addr.b6, b7 := x3_to.Addr.b7, b8 := x3_to.Addr.b8, b9 := x3_to.Addr.b9, b10 := x3_to.Addr.b10, b11 := x3_to.Addr.b11, b12 := x3_to.Addr.b12, b13 := x3_to.Addr.b13, b14 := x3_to.Addr.b14, b15 := x3_to.Addr.b15 }, Port := x3_to.Port })) fun q13 =>
                      gd (catOk (q9 ++ q10 ++ q11 ++ q12 ++ [UInt8.ofNat x2_from.Addr.b0.toNat, UInt8.ofNat x2_from.Addr.b1.toNat, UInt8.ofNat x2_from.Addr.b2.toNat, UInt8.ofNat x2_from.Addr.b3.toNat, UInt8.ofNat x2_from.Addr.b4.toNat, UInt8.ofNat x2_from.Addr.b5.toNat, UInt8.ofNat x2_from.Addr.b6.toNat, UInt8.ofNat x2_from.Addr.b7.toNat, UInt8.ofNat x2_from.Addr.b8.toNat, UInt8.ofNat x2_from.Addr.b9.toNat, UInt8.ofNat x2_from.Addr.b10.toNat, UInt8.ofNat x2_from.Addr.b11.toNat, UInt8.ofNat x2_from.Addr.b12.toNat, UInt8.ofNat x2_from.Addr.b13.toNat, UInt8.ofNat x2_from.Addr.b14.toNat, UInt8.ofNat x2_from.Addr.b15.toNat] ++ [UInt8.ofNat x3_to.Addr.b0.toNat, UInt8.ofNat x3_to.Addr.b1.toNat, UInt8.ofNat x3_to.Addr.b2.toNat, UInt8.ofNat x3_to.Addr.b3.toNat, UInt8.ofNat x3_to.Addr.b4.toNat, UInt8.ofNat x3_to.Addr.b5.toNat, UInt8.ofNat x3_to.Addr.b6.toNat, UInt8.ofNat x3_to.Addr.b7.toNat, UInt8.ofNat x3_to.Addr.b8.toNat, UInt8.ofNat x3_to.Addr.b9.toNat, UInt8.ofNat x3_to.Addr.b10.toNat, UInt8.ofNat x3_to.Addr.b11.toNat, UInt8.ofNat x3_to.Addr.b12.toNat, UInt8.ofNat x3_to.Addr.b13.toNat, UInt8.ofNat x3_to.Addr.b14.toNat, UInt8.ofNat x3_to.Addr.b15.toNat] ++ []) q13) <|
                      some ((q9 ++ q10 ++ q11 ++ q12 ++ [UInt8.ofNat x2_from.Addr.b0.toNat, UInt8.ofNat x2_from.Addr.b1.toNat, UInt8.ofNat x2_from.Addr.b2.toNat, UInt8.ofNat x2_from.Addr.b3.toNat, UInt8.ofNat x2_from.Addr.b4.toNat, UInt8.ofNat x2_from.Addr.b5.toNat, UInt8.ofNat x2_from.Addr.b6.toNat, UInt8.ofNat x2_from.Addr.b7.toNat, UInt8.ofNat x2_from.Addr.b8.toNat, UInt8.ofNat x2_from.Addr.b9.toNat, UInt8.ofNat x2_from.Addr.b10.toNat, UInt8.ofNat x2_from.Addr.b11.toNat, UInt8.ofNat x2_from.Addr.b12.toNat, UInt8.ofNat x2_from.Addr.b13.toNat, UInt8.ofNat x2_from.Addr.b14.toNat, UInt8.ofNat x2_from.Addr.b15.toNat] ++ [UInt8.ofNat x3_to.Addr.b0.toNat, UInt8.ofNat x3_to.Addr.b1.toNat, UInt8.ofNat x3_to.Addr.b2.toNat, UInt8.ofNat x3_to.Addr.b3.toNat, UInt8.ofNat x3_to.Addr.b4.toNat, UInt8.ofNat x3_to.Addr.b5.toNat, UInt8.ofNat x3_to.Addr.b6.toNat, UInt8.ofNat x3_to.Addr.b7.toNat, UInt8.ofNat x3_to.Addr.b8.toNat, UInt8.ofNat x3_to.Addr.b9.toNat, UInt8.ofNat x3_to.Addr.b10.toNat, UInt8.ofNat x3_to.Addr.b11.toNat, UInt8.ofNat x3_to.Addr.b12.toNat, UInt8.ofNat x3_to.Addr.b13.toNat, UInt8.ofNat x3_to.Addr.b14.toNat, UInt8.ofNat x3_to.Addr.b15.toNat] ++ [] ++ q13, none, ()))
    else
      Option.bind (
        Option.bind (
          bif ltI p.Tos 0 then
            some (true)
          else
            some (ltI 255 p.Tos)) fun q5 =>
        bif q5 then
          some (false)
        else
          Option.bind (
            bif ltI p.Ttl 0 then
              some (true)
            else
              some (ltI 255 p.Ttl)) fun q6 =>
          bif q6 then
            some (false)
          else
            some (true)) fun q5 =>
      bif !q5 then
        Option.bind (
          F41 (13)) fun q6 =>
        errK (q6) (
          some (([], none, ()))) fun c7 p7 =>
          some (([], some (c7, p7), ()))
      else
        Option.bind (
          Option.bind (
            bif ltI p.Id 0 then
              some (true)
            else
              some (ltI 65535 p.Id)) fun q6 =>
          bif q6 then
            some (false)
          else
            Option.bind (
              bif ltI x2_from.Port 0 then
                some (true)
              else
                some (ltI 65535 x2_from.Port)) fun q7 =>
            bif q7 then
              some (false)
            else
              Option.bind (
                bif ltI x3_to.Port 0 then
                  some (true)
                else
                  some (ltI 65535 x3_to.Port)) fun q8 =>
              bif q8 then
                some (false)
              else
                some (true)) fun q6 =>
        bif !q6 then
          Option.bind (
            F41 (13)) fun q7 =>
          errK (q7) (
            some (([], none, ()))) fun c8 p8 =>
            some (([], some (c8, p8), ()))
        else
          Option.bind (
            Option.bind (
              bif ltI p.At 0 then
                some (true)
              else
                some (ltI 65528 p.At)) fun q7 =>
            bif q7 then
              some (false)
            else
              some (true)) fun q7 =>
          bif !q7 then
            Option.bind (
              F41 (13)) fun q8 =>
            errK (q8) (
              some (([], none, ()))) fun c9 p9 =>
              some (([], some (c9, p9), ()))
          else
            bif !p.At.tmod 8 == 0 then
              Option.bind (
                F41 (13)) fun q8 =>
              errK (q8) (
                some (([], none, ()))) fun c9 p9 =>
                some (([], some (c9, p9), ()))
            else
              bif ltI claim (↑p.Data.length : Int) then
                Option.bind (
                  F41 (13)) fun q8 =>
                errK (q8) (
                  some (([], none, ()))) fun c9 p9 =>
                  some (([], some (c9, p9), ()))
              else
                bif !q4.snd.fst then
                  Option.bind (
                    F41 (10)) fun q8 =>
                  errK (q8) (
                    some (([], none, ()))) fun c9 p9 =>
                    some (([], some (c9, p9), ()))
                else
                  Option.bind (
                    bif ltI 65535 claim then
                      some (true)
                    else
                      some (ltI 65535 claim)) fun q8 =>
                  bif q8 then
                    Option.bind (
                      F41 (3)) fun q9 =>
                    errK (q9) (
                      some (([], none, ()))) fun c10 p10 =>
                      some (([], some (c10, p10), ()))
                  else
                    bif !p.At == 0 then
                      bif p.More then
                        Option.bind (
                          F48 (q4.fst) (1)) fun q9 =>
                        gd (catOk q9 [0]) <|
                        Option.bind (
                          F48 (IntKind.i64.wrap (p.At + 1)) (2)) fun q10 =>
                        gd (catOk (q9 ++ [0]) q10) <|
                        Option.bind (
                          F48 (p.Id) (4)) fun q11 =>
                        gd (catOk (q9 ++ [0] ++ q10) q11) <|
                        Option.bind (
                          F48 (ior IntKind.i64 1610612736 (IntKind.i64.wrap (p.Tos * 1048576))) (4)) fun q12 =>
                        Option.bind (
                          F48 (claim) (2)) fun q13 =>
                        gd (catOk q12 q13) <|
                        Option.bind (
                          F48 (44) (1)) fun q14 =>
                        gd (catOk (q12 ++ q13) q14) <|
                        Option.bind (
                          F48 (p.Ttl) (1)) fun q15 =>
                        gd (catOk (q12 ++ q13 ++ q14) q15) <|
                        gd (catOk (q12 ++ q13 ++ q14 ++ q15) [UInt8.ofNat x2_from.Addr.b0.toNat, UInt8.ofNat x2_from.Addr.b1.toNat, UInt8.ofNat x2_from.Addr.b2.toNat, UInt8.ofNat x2_from.Addr.b3.toNat, UInt8.ofNat x2_from.Addr.b4.toNat, UInt8.ofNat x2_from.Addr.b5.toNat, UInt8.ofNat x2_from.Addr.b6.toNat, UInt8.ofNat x2_from.Addr.b7.toNat, UInt8.ofNat x2_from.Addr.b8.toNat, UInt8.ofNat x2_from.Addr.b9.toNat, UInt8.ofNat x2_from.Addr.b10.toNat, UInt8.ofNat x2_from.Addr.b11.toNat, UInt8.ofNat x2_from.Addr.b12.toNat, UInt8.ofNat x2_from.Addr.b13.toNat, UInt8.ofNat x2_from.Addr.b14.toNat, UInt8.ofNat x2_from.Addr.b15.toNat]) <|
                        gd (catOk (q12 ++ q13 ++ q14 ++ q15 ++ [UInt8.ofNat x2_from.Addr.b0.toNat, UInt8.ofNat x2_from.Addr.b1.toNat, UInt8.ofNat x2_from.Addr.b2.toNat, UInt8.ofNat x2_from.Addr.b3.toNat, UInt8.ofNat x2_from.Addr.b4.toNat, UInt8.ofNat x2_from.Addr.b5.toNat, UInt8.ofNat x2_from.Addr.b6.toNat, UInt8.ofNat x2_from.Addr.b7.toNat, UInt8.ofNat x2_from.Addr.b8.toNat, UInt8.ofNat x2_from.Addr.b9.toNat, UInt8.ofNat x2_from.Addr.b10.toNat, UInt8.ofNat x2_from.Addr.b11.toNat, UInt8.ofNat x2_from.Addr.b12.toNat, UInt8.ofNat x2_from.Addr.b13.toNat, UInt8.ofNat x2_from.Addr.b14.toNat, UInt8.ofNat x2_from.Addr.b15.toNat]) [UInt8.ofNat x3_to.Addr.b0.toNat, UInt8.ofNat x3_to.Addr.b1.toNat, UInt8.ofNat x3_to.Addr.b2.toNat, UInt8.ofNat x3_to.Addr.b3.toNat, UInt8.ofNat x3_to.Addr.b4.toNat, UInt8.ofNat x3_to.Addr.b5.toNat, UInt8.ofNat x3_to.Addr.b6.toNat, UInt8.ofNat x3_to.Addr.b7.toNat, UInt8.ofNat x3_to.Addr.b8.toNat, UInt8.ofNat x3_to.Addr.b9.toNat, UInt8.ofNat x3_to.Addr.b10.toNat, UInt8.ofNat x3_to.Addr.b11.toNat, UInt8.ofNat x3_to.Addr.b12.toNat, UInt8.ofNat x3_to.Addr.b13.toNat, UInt8.ofNat x3_to.Addr.b14.toNat, UInt8.ofNat x3_to.Addr.b15.toNat]) <|
                        gd (catOk (q12 ++ q13 ++ q14 ++ q15 ++ [UInt8.ofNat x2_from.Addr.b0.toNat, UInt8.ofNat x2_from.Addr.b1.toNat, UInt8.ofNat x2_from.Addr.b2.toNat, UInt8.ofNat x2_from.Addr.b3.toNat, UInt8.ofNat x2_from.Addr.b4.toNat, UInt8.ofNat x2_from.Addr.b5.toNat, UInt8.ofNat x2_from.Addr.b6.toNat, UInt8.ofNat x2_from.Addr.b7.toNat, UInt8.ofNat x2_from.Addr.b8.toNat, UInt8.ofNat x2_from.Addr.b9.toNat, UInt8.ofNat x2_from.Addr.b10.toNat, UInt8.ofNat x2_from.Addr.b11.toNat, UInt8.ofNat x2_from.Addr.b12.toNat, UInt8.ofNat x2_from.Addr.b13.toNat, UInt8.ofNat x2_from.Addr.b14.toNat, UInt8.ofNat x2_from.Addr.b15.toNat] ++ [UInt8.ofNat x3_to.Addr.b0.toNat, UInt8.ofNat x3_to.Addr.b1.toNat, UInt8.ofNat x3_to.Addr.b2.toNat, UInt8.ofNat x3_to.Addr.b3.toNat, UInt8.ofNat x3_to.Addr.b4.toNat, UInt8.ofNat x3_to.Addr.b5.toNat, UInt8.ofNat x3_to.Addr.b6.toNat, UInt8.ofNat x3_to.Addr.b7.toNat, UInt8.ofNat x3_to.Addr.b8.toNat, UInt8.ofNat x3_to.Addr.b9.toNat, UInt8.ofNat x3_to.Addr.b10.toNat, UInt8.ofNat x3_to.Addr.b11.toNat, UInt8.ofNat x3_to.Addr.b12.toNat, UInt8.ofNat x3_to.Addr.b13.toNat, UInt8.ofNat x3_to.Addr.b14.toNat, UInt8.ofNat x3_to.Addr.b15.toNat]) (q9 ++ [0] ++ q10 ++ q11)) <|
                        Option.bind (
                          F49 ({ Tos := p.Tos, Id := p.Id, Ttl := p.Ttl, Proto := p.Proto, At := p.At, DF := p.DF, More := p.More, From := { b0 := p.From.b0, b1 := p.From.b1, b2 := p.From.b2, b3 := p.From.b3 }, To := { b0 := p.To.b0, b1 := p.To.b1, b2 := p.To.b2, b3 := p.To.b3 }, Options := p.Options, Data := p.Data }) (claim) ({ Addr := { b0 := x2_from.Addr.b0, b1 := x2_from.Addr.b1, b2 := x2_from.Addr.b2, b3 := x2_from.Addr.b3, b4 := x2_from.Addr.b4, b5 := x2_from.Addr.b5, b6 := x2_from.Addr.b6, b7 := x2_from.Addr.b7, b8 := x2_from.Addr.b8, b9 := x2_from.Addr.b9, b10 := x2_from.Addr.b10, b11 := x2_from.Addr.b11, b12 := x2_from.Addr.b12, b13 := x2_from.Addr.b13, b14 := x2_from.Addr.b14, b15 := x2_from.Addr.b15 }, Port := x2_from.Port }) ({ Addr := { b0 := x3_to.Addr.b0, b1 := x3_to.Addr.b1, b2 := x3_to.Addr.b2, b3 := x3_to.Addr.b3, b4 := x3_to.Addr.b4, b5 := x3_to.Addr.b5, b6 := x3_to.Addr.b6, b7 := x3_to.Addr.b7, b8 := x3_to.Addr.b8, b9 := x3_to.Addr.b9, b10 := x3_to.Addr.b10, b11 := x3_to.Addr.b11, b12 := x3_to.Addr.b12, b13 := x3_to.Addr.b13, b14 := x3_to.Addr.b14, b15 := x3_to.Addr.b15 }, Port := x3_to.Port })) fun q16 =>
                        gd (catOk (q12 ++ q13 ++ q14 ++ q15 ++ [UInt8.ofNat x2_from.Addr.b0.toNat, UInt8.ofNat x2_from.Addr.b1.toNat, UInt8.ofNat x2_from.Addr.b2.toNat, UInt8.ofNat x2_from.Addr.b3.toNat, UInt8.ofNat x2_from.Addr.b4.toNat, UInt8.ofNat x2_from.Addr.b5.toNat, UInt8.ofNat x2_from.Addr.b6.toNat, UInt8.ofNat x2_from.Addr.b7.toNat, UInt8.ofNat x2_from.Addr.b8.toNat, UInt8.ofNat x2_from.Addr.b9.toNat, UInt8.ofNat x2_from.Addr.b10.toNat, UInt8.ofNat x2_from.Addr.b11.toNat, UInt8.ofNat x2_from.Addr.b12.toNat, UInt8.ofNat x2_from.Addr.b13.toNat, UInt8.ofNat x2_from.Addr.b14.toNat, UInt8.ofNat x2_from.Addr.b15.toNat] ++ [UInt8.ofNat x3_to.Addr.b0.toNat, UInt8.ofNat x3_to.Addr.b1.toNat, UInt8.ofNat x3_to.Addr.b2.toNat, UInt8.ofNat x3_to.Addr.b3.toNat, UInt8.ofNat x3_to.Addr.b4.toNat, UInt8.ofNat x3_to.Addr.b5.toNat, UInt8.ofNat x3_to.Addr.b6.toNat, UInt8.ofNat x3_to.Addr.b7.toNat, UInt8.ofNat x3_to.Addr.b8.toNat, UInt8.ofNat x3_to.Addr.b9.toNat, UInt8.ofNat x3_to.Addr.b10.toNat, UInt8.ofNat x3_to.Addr.b11.toNat, UInt8.ofNat x3_to.Addr.b12.toNat, UInt8.ofNat x3_to.Addr.b13.toNat, UInt8.ofNat x3_to.Addr.b14.toNat, UInt8.ofNat x3_to.Addr.b15.toNat] ++ (q9 ++ [0] ++ q10 ++ q11)) q16) <|
                        some ((q12 ++ q13 ++ q14 ++ q15 ++ [UInt8.ofNat x2_from.Addr.b0.toNat, UInt8.ofNat x2_from.Addr.b1.toNat, UInt8.ofNat x2_from.Addr.b2.toNat, UInt8.ofNat x2_from.Addr.b3.toNat, UInt8.ofNat x2_from.Addr.b4.toNat, UInt8.ofNat x2_from.Addr.b5.toNat, UInt8.ofNat x2_from.Addr.b6.toNat, UInt8.ofNat x2_from.Addr.b7.toNat, UInt8.ofNat x2_from.Addr.b8.toNat, UInt8.ofNat x2_from.Addr.b9.toNat, UInt8.ofNat x2_from.Addr.b10.toNat, UInt8.ofNat x2_from.Addr.b11.toNat, UInt8.ofNat x2_from.Addr.b12.toNat, UInt8.ofNat x2_from.Addr.b13.toNat, UInt8.ofNat x2_from.Addr.b14.toNat, UInt8.ofNat x2_from.Addr.b15.toNat] ++ [UInt8.ofNat x3_to.Addr.b0.toNat, UInt8.ofNat x3_to.Addr.b1.toNat, UInt8.ofNat x3_to.Addr.b2.toNat, UInt8.ofNat x3_to.Addr.b3.toNat, UInt8.ofNat x3_to.Addr.b4.toNat, UInt8.ofNat x3_to.Addr.b5.toNat, UInt8.ofNat x3_to.Addr.b6.toNat, UInt8.ofNat x3_to.Addr.b7.toNat, UInt8.ofNat x3_to.Addr.b8.toNat, UInt8.ofNat x3_to.Addr.b9.toNat, UInt8.ofNat x3_to.Addr.b10.toNat, UInt8.ofNat x3_to.Addr.b11.toNat, UInt8.ofNat x3_to.Addr.b12.toNat, UInt8.ofNat x3_to.Addr.b13.toNat, UInt8.ofNat x3_to.Addr.b14.toNat, UInt8.ofNat x3_to.Addr.b15.toNat] ++ (q9 ++ [0] ++ q10 ++ q11) ++ q16, none, ()))
                      else
                        Option.bind (
                          F48 (q4.fst) (1)) fun q9 =>
                        gd (catOk q9 [0]) <|
                        Option.bind (
                          F48 (p.At) (2)) fun q10 =>
                        gd (catOk (q9 ++ [0]) q10) <|
                        Option.bind (
                          F48 (p.Id) (4)) fun q11 =>
                        gd (catOk (q9 ++ [0] ++ q10) q11) <|
                        Option.bind (
                          F48 (ior IntKind.i64 1610612736 (IntKind.i64.wrap (p.Tos * 1048576))) (4)) fun q12 =>
                        Option.bind (
                          F48 (claim) (2)) fun q13 =>
                        gd (catOk q12 q13) <|
                        Option.bind (
                          F48 (44) (1)) fun q14 =>
                        gd (catOk (q12 ++ q13) q14) <|
                        Option.bind (
                          F48 (p.Ttl) (1)) fun q15 =>
                        gd (catOk (q12 ++ q13 ++ q14) q15) <|
                        gd (catOk (q12 ++ q13 ++ q14 ++ q15) [UInt8.ofNat x2_from.Addr.b0.toNat, UInt8.ofNat x2_from.Addr.b1.toNat, UInt8.ofNat x2_from.Addr.b2.toNat, UInt8.ofNat x2_from.Addr.b3.toNat, UInt8.ofNat x2_from.Addr.b4.toNat, UInt8.ofNat x2_from.Addr.b5.toNat, UInt8.ofNat x2_from.Addr.b6.toNat, UInt8.ofNat x2_from.Addr.b7.toNat, UInt8.ofNat x2_from.Addr.b8.toNat, UInt8.ofNat x2_from.Addr.b9.toNat, UInt8.ofNat x2_from.Addr.b10.toNat, UInt8.ofNat x2_from.Addr.b11.toNat, UInt8.ofNat x2_from.Addr.b12.toNat, UInt8.ofNat x2_from.Addr.b13.toNat, UInt8.ofNat x2_from.Addr.b14.toNat, UInt8.ofNat x2_from.Addr.b15.toNat]) <|
                        gd (catOk (q12 ++ q13 ++ q14 ++ q15 ++ [UInt8.ofNat x2_from.Addr.b0.toNat, UInt8.ofNat x2_from.Addr.b1.toNat, UInt8.ofNat x2_from.Addr.b2.toNat, UInt8.ofNat x2_from.Addr.b3.toNat, UInt8.ofNat x2_from.Addr.b4.toNat, UInt8.ofNat x2_from.Addr.b5.toNat, UInt8.ofNat x2_from.Addr.b6.toNat, UInt8.ofNat x2_from.Addr.b7.toNat, UInt8.ofNat x2_from.Addr.b8.toNat, UInt8.ofNat x2_from.Addr.b9.toNat, UInt8.ofNat x2_from.Addr.b10.toNat, UInt8.ofNat x2_from.Addr.b11.toNat, UInt8.ofNat x2_from.Addr.b12.toNat, UInt8.ofNat x2_from.Addr.b13.toNat, UInt8.ofNat x2_from.Addr.b14.toNat, UInt8.ofNat x2_from.Addr.b15.toNat]) [UInt8.ofNat x3_to.Addr.b0.toNat, UInt8.ofNat x3_to.Addr.b1.toNat, UInt8.ofNat x3_to.Addr.b2.toNat, UInt8.ofNat x3_to.Addr.b3.toNat, UInt8.ofNat x3_to.Addr.b4.toNat, UInt8.ofNat x3_to.Addr.b5.toNat, UInt8.ofNat x3_to.Addr.b6.toNat, UInt8.ofNat x3_to.Addr.b7.toNat, UInt8.ofNat x3_to.Addr.b8.toNat, UInt8.ofNat x3_to.Addr.b9.toNat, UInt8.ofNat x3_to.Addr.b10.toNat, UInt8.ofNat x3_to.Addr.b11.toNat, UInt8.ofNat x3_to.Addr.b12.toNat, UInt8.ofNat x3_to.Addr.b13.toNat, UInt8.ofNat x3_to.Addr.b14.toNat, UInt8.ofNat x3_to.Addr.b15.toNat]) <|
                        gd (catOk (q12 ++ q13 ++ q14 ++ q15 ++ [UInt8.ofNat x2_from.Addr.b0.toNat, UInt8.ofNat x2_from.Addr.b1.toNat, UInt8.ofNat x2_from.Addr.b2.toNat, UInt8.ofNat x2_from.Addr.b3.toNat, UInt8.ofNat x2_from.Addr.b4.toNat, UInt8.ofNat x2_from.Addr.b5.toNat, UInt8.ofNat x2_from.Addr.b6.toNat, UInt8.ofNat x2_from.Addr.b7.toNat, UInt8.ofNat x2_from.Addr.b8.toNat, UInt8.ofNat x2_from.Addr.b9.toNat, UInt8.ofNat x2_from.Addr.b10.toNat, UInt8.ofNat x2_from.Addr.b11.toNat, UInt8.ofNat x2_from.Addr.b12.toNat, UInt8.ofNat x2_from.Addr.b13.toNat, UInt8.ofNat x2_from.Addr.b14.toNat, UInt8.ofNat x2_from.Addr.b15.toNat] ++ [UInt8.ofNat x3_to.Addr.b0.toNat, UInt8.ofNat x3_to.Addr.b1.toNat, UInt8.ofNat x3_to.Addr.b2.toNat, UInt8.ofNat x3_to.Addr.b3.toNat, UInt8.ofNat x3_to.Addr.b4.toNat, UInt8.ofNat x3_to.Addr.b5.toNat, UInt8.ofNat x3_to.Addr.b6.toNat, UInt8.ofNat x3_to.Addr.b7.toNat, UInt8.ofNat x3_to.Addr.b8.toNat, UInt8.ofNat x3_to.Addr.b9.toNat, UInt8.ofNat x3_to.Addr.b10.toNat, UInt8.ofNat x3_to.Addr.b11.toNat, UInt8.ofNat x3_to.Addr.b12.toNat, UInt8.ofNat x3_to.Addr.b13.toNat, UInt8.ofNat x3_to.Addr.b14.toNat, UInt8.ofNat x3_to.Addr.b15.toNat]) (q9 ++ [0] ++ q10 ++ q11)) <|
                        Option.bind (
                          F49 ({ Tos := p.Tos, Id := p.Id, Ttl := p.Ttl, Proto := p.Proto, At := p.At, DF := p.DF, More := p.More, From := { b0 := p.From.b0, b1 := p.From.b1, b2 := p.From.b2, b3 := p.From.b3 }, To := { b0 := p.To.b0, b1 := p.To.b1, b2 := p.To.b2, b3 := p.To.b3 }, Options := p.Options, Data := p.Data }) (claim) ({ Addr := { b0 := x2_from.Addr.b0, b1 := x2_from.Addr.b1, b2 := x2_from.Addr.b2, b3 := x2_from.Addr.b3, b4 := x2_from.Addr.b4, b5 := x2_from.Addr.b5, b6 := x2_from.Addr.b6, b7 := x2_from.Addr.b7, b8 := x2_from.Addr.b8, b9 := x2_from.Addr.b9, b10 := x2_from.Addr.b10, b11 := x2_from.Addr.b11, b12 := x2_from.Addr.b12, b13 := x2_from.Addr.b13, b14 := x2_from.Addr.b14, b15 := x2_from.Addr.b15 }, Port := x2_from.Port }) ({ Addr := { b0 := x3_to.Addr.b0, b1 := x3_to.Addr.b1, b2 := x3_to.Addr.b2, b3 := x3_to.Addr.b3, b4 := x3_to.Addr.b4, b5 := x3_to.Addr.b5, b6 := x3_to.Addr.b6, b7 := x3_to.Addr.b7, b8 := x3_to.Addr.b8, b9 := x3_to.Addr.b9, b10 := x3_to.Addr.b10, b11 := x3_to.Addr.b11, b12 := x3_to.Addr.b12, b13 := x3_to.Addr.b13, b14 := x3_to.Addr.b14, b15 := x3_to.Addr.b15 }, Port := x3_to.Port })) fun q16 =>
                        gd (catOk (q12 ++ q13 ++ q14 ++ q15 ++ [UInt8.ofNat x2_from.Addr.b0.toNat, UInt8.ofNat x2_from.Addr.b1.toNat, UInt8.ofNat x2_from.Addr.b2.toNat, UInt8.ofNat x2_from.Addr.b3.toNat, UInt8.ofNat x2_from.Addr.b4.toNat, UInt8.ofNat x2_from.Addr.b5.toNat, UInt8.ofNat x2_from.Addr.b6.toNat, UInt8.ofNat x2_from.Addr.b7.toNat, UInt8.ofNat x2_from.Addr.b8.toNat, UInt8.ofNat x2_from.Addr.b9.toNat, UInt8.ofNat x2_from.Addr.b10.toNat, UInt8.ofNat x2_from.Addr.b11.toNat, UInt8.ofNat x2_from.Addr.b12.toNat, UInt8.ofNat x2_from.Addr.b13.toNat, UInt8.ofNat x2_from.Addr.b14.toNat, UInt8.ofNat x2_from.Addr.b15.toNat] ++ [UInt8.ofNat x3_to.Addr.b0.toNat, UInt8.ofNat x3_to.Addr.b1.toNat, UInt8.ofNat x3_to.Addr.b2.toNat, UInt8.ofNat x3_to.Addr.b3.toNat, UInt8.ofNat x3_to.Addr.b4.toNat, UInt8.ofNat x3_to.Addr.b5.toNat, UInt8.ofNat x3_to.Addr.b6.toNat, UInt8.ofNat x3_to.Addr.b7.toNat, UInt8.ofNat x3_to.Addr.b8.toNat, UInt8.ofNat x3_to.Addr.b9.toNat, UInt8.ofNat x3_to.Addr.b10.toNat, UInt8.ofNat x3_to.Addr.b11.toNat, UInt8.ofNat x3_to.Addr.b12.toNat, UInt8.ofNat x3_to.Addr.b13.toNat, UInt8.ofNat x3_to.Addr.b14.toNat, UInt8.ofNat x3_to.Addr.b15.toNat] ++ (q9 ++ [0] ++ q10 ++ q11)) q16) <|
                        some ((q12 ++ q13 ++ q14 ++ q15 ++ [UInt8.ofNat x2_from.Addr.b0.toNat, UInt8.ofNat x2_from.Addr.b1.toNat, UInt8.ofNat x2_from.Addr.b2.toNat, UInt8.ofNat x2_from.Addr.b3.toNat, UInt8.ofNat x2_from.Addr.b4.toNat, UInt8.ofNat x2_from.Addr.b5.toNat, UInt8.ofNat x2_from.Addr.b6.toNat, UInt8.ofNat x2_from.Addr.b7.toNat, UInt8.ofNat x2_from.Addr.b8.toNat, UInt8.ofNat x2_from.Addr.b9.toNat, UInt8.ofNat x2_from.Addr.b10.toNat, UInt8.ofNat x2_from.Addr.b11.toNat, UInt8.ofNat x2_from.Addr.b12.toNat, UInt8.ofNat x2_from.Addr.b13.toNat, UInt8.ofNat x2_from.Addr.b14.toNat, UInt8.ofNat x2_from.Addr.b15.toNat] ++ [UInt8.ofNat x3_to.Addr.b0.toNat, UInt8.ofNat x3_to.Addr.b1.toNat, UInt8.ofNat x3_to.Addr.b2.toNat, UInt8.ofNat x3_to.Addr.b3.toNat, UInt8.ofNat x3_to.Addr.b4.toNat, UInt8.ofNat x3_to.Addr.b5.toNat, UInt8.ofNat x3_to.Addr.b6.toNat, UInt8.ofNat x3_to.Addr.b7.toNat, UInt8.ofNat x3_to.Addr.b8.toNat, UInt8.ofNat x3_to.Addr.b9.toNat, UInt8.ofNat x3_to.Addr.b10.toNat, UInt8.ofNat x3_to.Addr.b11.toNat, UInt8.ofNat x3_to.Addr.b12.toNat, UInt8.ofNat x3_to.Addr.b13.toNat, UInt8.ofNat x3_to.Addr.b14.toNat, UInt8.ofNat x3_to.Addr.b15.toNat] ++ (q9 ++ [0] ++ q10 ++ q11) ++ q16, none, ()))
                    else
                      Option.bind (
                        F48 (ior IntKind.i64 1610612736 (IntKind.i64.wrap (p.Tos * 1048576))) (4)) fun q9 =>
                      Option.bind (
                        F48 (claim) (2)) fun q10 =>
                      gd (catOk q9 q10) <|
                      Option.bind (
                        F48 (q4.fst) (1)) fun q11 =>
                      gd (catOk (q9 ++ q10) q11) <|
                      Option.bind (
                        F48 (p.Ttl) (1)) fun q12 =>
                      gd (catOk (q9 ++ q10 ++ q11) q12) <|
                      gd (catOk (q9 ++ q10 ++ q11 ++ q12) [UInt8.ofNat x2_from.Addr.b0.toNat, UInt8.ofNat x2_from.Addr.b1.toNat, UInt8.ofNat x2_from.Addr.b2.toNat, UInt8.ofNat x2_from.Addr.b3.toNat, UInt8.ofNat x2_from.Addr.b4.toNat, UInt8.ofNat x2_from.Addr.b5.toNat, UInt8.ofNat x2_from.Addr.b6.toNat, UInt8.ofNat x2_from.Addr.b7.toNat, UInt8.ofNat x2_from.Addr.b8.toNat, UInt8.ofNat x2_from.Addr.b9.toNat, UInt8.ofNat x2_from.Addr.b10.toNat, UInt8.ofNat x2_from.Addr.b11.toNat, UInt8.ofNat x2_from.Addr.b12.toNat, UInt8.ofNat x2_from.Addr.b13.toNat, UInt8.ofNat x2_from.Addr.b14.toNat, UInt8.ofNat x2_from.Addr.b15.toNat]) <|
                      gd (catOk (q9 ++ q10 ++ q11 ++ q12 ++ [UInt8.ofNat x2_from.Addr.b0.toNat, UInt8.ofNat x2_from.Addr.b1.toNat, UInt8.ofNat x2_from.Addr.b2.toNat, UInt8.ofNat x2_from.Addr.b3.toNat, UInt8.ofNat x2_from.Addr.b4.toNat, UInt8.ofNat x2_from.Addr.b5.toNat, UInt8.ofNat x2_from.Addr.b6.toNat, UInt8.ofNat x2_from.Addr.b7.toNat, UInt8.ofNat x2_from.Addr.b8.toNat, UInt8.ofNat x2_from.Addr.b9.toNat, UInt8.ofNat x2_from.Addr.b10.toNat, UInt8.ofNat x2_from.Addr.b11.toNat, UInt8.ofNat x2_from.Addr.b12.toNat, UInt8.ofNat x2_from.Addr.b13.toNat, UInt8.ofNat x2_from.Addr.b14.toNat, UInt8.ofNat x2_from.Addr.b15.toNat]) [UInt8.ofNat x3_to.Addr.b0.toNat, UInt8.ofNat x3_to.Addr.b1.toNat, UInt8.ofNat x3_to.Addr.b2.toNat, UInt8.ofNat x3_to.Addr.b3.toNat, UInt8.ofNat x3_to.Addr.b4.toNat, UInt8.ofNat x3_to.Addr.b5.toNat, UInt8.ofNat x3_to.Addr.b6.toNat, UInt8.ofNat x3_to.Addr.b7.toNat, UInt8.ofNat x3_to.Addr.b8.toNat, UInt8.ofNat x3_to.Addr.b9.toNat, UInt8.ofNat x3_to.Addr.b10.toNat, UInt8.ofNat x3_to.Addr.b11.toNat, UInt8.ofNat x3_to.Addr.b12.toNat, UInt8.ofNat x3_to.Addr.b13.toNat, UInt8.ofNat x3_to.Addr.b14.toNat, UInt8.ofNat x3_to.Addr.b15.toNat]) <|
                      gd (catOk (q9 ++ q10 ++ q11 ++ q12 ++ [UInt8.ofNat x2_from.Addr.b0.toNat, UInt8.ofNat x2_from.Addr.b1.toNat, UInt8.ofNat x2_from.Addr.b2.toNat, UInt8.ofNat x2_from.Addr.b3.toNat, UInt8.ofNat x2_from.Addr.b4.toNat, UInt8.ofNat x2_from.Addr.b5.toNat, UInt8.ofNat x2_from.Addr.b6.toNat, UInt8.ofNat x2_from.Addr.b7.toNat, UInt8.ofNat x2_from.Addr.b8.toNat, UInt8.ofNat x2_from.Addr.b9.toNat, UInt8.ofNat x2_from.Addr.b10.toNat, UInt8.ofNat x2_from.Addr.b11.toNat, UInt8.ofNat x2_from.Addr.b12.toNat, UInt8.ofNat x2_from.Addr.b13.toNat, UInt8.ofNat x2_from.Addr.b14.toNat, UInt8.ofNat x2_from.Addr.b15.toNat] ++ [UInt8.ofNat x3_to.Addr.b0.toNat, UInt8.ofNat x3_to.Addr.b1.toNat, UInt8.ofNat x3_to.Addr.b2.toNat, UInt8.ofNat x3_to.Addr.b3.toNat, UInt8.ofNat x3_to.Addr.b4.toNat, UInt8.ofNat x3_to.Addr.b5.toNat, UInt8.ofNat x3_to.Addr.b6.toNat, UInt8.ofNat x3_to.Addr.b7.toNat, UInt8.ofNat x3_to.Addr.b8.toNat, UInt8.ofNat x3_to.Addr.b9.toNat, UInt8.ofNat x3_to.Addr.b10.toNat, UInt8.ofNat x3_to.Addr.b11.toNat, UInt8.ofNat x3_to.Addr.b12.toNat, UInt8.ofNat x3_to.Addr.b13.toNat, UInt8.ofNat x3_to.Addr.b14.toNat, UInt8.ofNat x3_to.Addr.b15.toNat]) []) <|
                      Option.bind (
                        F49 ({ Tos := p.Tos, Id := p.Id, Ttl := p.Ttl, Proto := p.Proto, At := p.At, DF := p.DF, More := p.More, From := { b0 := p.From.b0, b1 := p.From.b1, b2 := p.From.b2, b3 := p.From.b3 }, To := { b0 := p.To.b0, b1 := p.To.b1, b2 := p.To.b2, b3 := p.To.b3 }, Options := p.Options, Data := p.Data }) (claim) ({ Addr := { b0 := x2_from.Addr.b0, b1 := x2_from.Addr.b1, b2 := x2_from.Addr.b2, b3 := x2_from.Addr.b3, b4 := x2_from.Addr.b4, b5 := x2_from.Addr.b5, b6 := x2_from.Addr.b6, b7 := x2_from.Addr.b7, b8 := x2_from.Addr.b8, b9 := x2_from.Addr.b9, b10 := x2_from.Addr.b10, b11 := x2_from.Addr.b11, b12 := x2_from.Addr.b12, b13 := x2_from.Addr.b13, b14 := x2_from.Addr.b14, b15 := x2_from.Addr.b15 }, Port := x2_from.Port }) ({ Addr := { b0 := x3_to.Addr.b0, b1 := x3_to.Addr.b1, b2 := x3_to.Addr.b2, b3 := x3_to.Addr.b3, b4 := x3_to.Addr.b4, b5 := x3_to.Addr.b5, b6 := x3_to.Addr.b6, b7 := x3_to.Addr.b7, b8 := x3_to.Addr.b8, b9 := x3_to.Addr.b9, b10 := x3_to.Addr.b10, b11 := x3_to.Addr.b11, b12 := x3_to.Addr.b12, b13 := x3_to.Addr.b13, b14 := x3_to.Addr.b14, b15 := x3_to.Addr.b15 }, Port := x3_to.Port })) fun q13 =>
                      gd (catOk (q9 ++ q10 ++ q11 ++ q12 ++ [UInt8.ofNat x2_from.Addr.b0.toNat, UInt8.ofNat x2_from.Addr.b1.toNat, UInt8.ofNat x2_from.Addr.b2.toNat, UInt8.ofNat x2_from.Addr.b3.toNat, UInt8.ofNat x2_from.Addr.b4.toNat, UInt8.ofNat x2_from.Addr.b5.toNat, UInt8.ofNat x2_from.Addr.b6.toNat, UInt8.ofNat x2_from.Addr.b7.toNat, UInt8.ofNat x2_from.Addr.b8.toNat, UInt8.ofNat x2_from.Addr.b9.toNat, UInt8.ofNat x2_from.Addr.b10.toNat, UInt8.ofNat x2_from.Addr.b11.toNat, UInt8.ofNat x2_from.Addr.b12.toNat, UInt8.ofNat x2_from.Addr.b13.toNat, UInt8.ofNat x2_from.Addr.b14.toNat, UInt8.ofNat x2_from.Addr.b15.toNat] ++ [UInt8.ofNat x3_to.Addr.b0.toNat, UInt8.ofNat x3_to.Addr.b1.toNat, UInt8.ofNat x3_to.Addr.b2.toNat, UInt8.ofNat x3_to.Addr.b3.toNat, UInt8.ofNat x3_to.Addr.b4.toNat, UInt8.ofNat x3_to.Addr.b5.toNat, UInt8.ofNat x3_to.Addr.b6.toNat, UInt8.ofNat x3_to.Addr.b7.toNat, UInt8.ofNat x3_to.Addr.b8.toNat, UInt8.ofNat x3_to.Addr.b9.toNat, UInt8.ofNat x3_to.Addr.b10.toNat, UInt8.ofNat x3_to.Addr.b11.toNat, UInt8.ofNat x3_to.Addr.b12.toNat, UInt8.ofNat x3_to.Addr.b13.toNat, UInt8.ofNat x3_to.Addr.b14.toNat, UInt8.ofNat x3_to.Addr.b15.toNat] ++ []) q13) <|
                      some ((q9 ++ q10 ++ q11 ++ q12 ++ [UInt8.ofNat x2_from.Addr.b0.toNat, UInt8.ofNat x2_from.Addr.b1.toNat, UInt8.ofNat x2_from.Addr.b2.toNat, UInt8.ofNat x2_from.Addr.b3.toNat, UInt8.ofNat x2_from.Addr.b4.toNat, UInt8.ofNat x2_from.Addr.b5.toNat, UInt8.ofNat x2_from.Addr.b6.toNat, UInt8.ofNat x2_from.Addr.b7.toNat, UInt8.ofNat x2_from.Addr.b8.toNat, UInt8.ofNat x2_from.Addr.b9.toNat, UInt8.ofNat x2_from.Addr.b10.toNat, UInt8.ofNat x2_from.Addr.b11.toNat, UInt8.ofNat x2_from.Addr.b12.toNat, UInt8.ofNat x2_from.Addr.b13.toNat, UInt8.ofNat x2_from.Addr.b14.toNat, UInt8.ofNat x2_from.Addr.b15.toNat] ++ [UInt8.ofNat x3_to.Addr.b0.toNat, UInt8.ofNat x3_to.Addr.b1.toNat, UInt8.ofNat x3_to.Addr.b2.toNat, UInt8.ofNat x3_to.Addr.b3.toNat, UInt8.ofNat x3_to.Addr.b4.toNat, UInt8.ofNat x3_to.Addr.b5.toNat, UInt8.ofNat x3_to.Addr.b6.toNat, UInt8.ofNat x3_to.Addr.b7.toNat, UInt8.ofNat x3_to.Addr.b8.toNat, UInt8.ofNat x3_to.Addr.b9.toNat, UInt8.ofNat x3_to.Addr.b10.toNat, UInt8.ofNat x3_to.Addr.b11.toNat, UInt8.ofNat x3_to.Addr.b12.toNat, UInt8.ofNat x3_to.Addr.b13.toNat, UInt8.ofNat x3_to.Addr.b14.toNat, UInt8.ofNat x3_to.Addr.b15.toNat] ++ [] ++ q13, none, ()))
theorem F16_ev : ∀ a, evTop Try.prog ⟨[d41, d46, d47, d48, d49], inl, keepIn keeps, []⟩ 6 16 (CodL.val (CodL.cons (Cod.agg lIp4) (CodL.cons (Cod.int .i64) (CodL.cons (Cod.agg lT6) (CodL.cons (Cod.agg lT6) CodL.nil)))) a) (fun v => Cod.dec (Cod.tup (CodL.cons Cod.str (CodL.cons (Cod.err faultT) CodL.nil))) v some) = (fun a => F16 a.1 a.2.1 a.2.2.1 a.2.2.2.1) a := by
  intro a; kernel_rfl
noncomputable def d16 : Ctr Try.prog := Ctr.ofF 16 (CodL.cons (Cod.agg lIp4) (CodL.cons (Cod.int .i64) (CodL.cons (Cod.agg lT6) (CodL.cons (Cod.agg lT6) CodL.nil)))) (Cod.tup (CodL.cons Cod.str (CodL.cons (Cod.err faultT) CodL.nil))) (fun a => F16 a.1 a.2.1 a.2.2.1 a.2.2.2.1) (pcalls_of_ev mix noLoops F16_ev)
/-- interpreter/interpreterlaw15.FaultBegins -/
def F4 (s : List UInt8) (cut : Int) (a : V6) (b : V6) (x4_from : Int) (x5_to : Int) : Option (Bool) :=
  bif ltI 70000 (↑s.length : Int) then
    some (true)
  else
    Option.bind (
      F13 (s)) fun q6 =>
    errK (q6.snd.snd.fst) (
      gd (!Decidable.decide (IntKind.i64.wrap (imax (IntKind.i64.wrap ((↑q6.fst.Data.length : Int) - 8)) 0 + 1) = 0)) <|
      Option.bind (
        bif ltI (↑q6.fst.Data.length : Int) 8 then
          some (true)
        else
          some (ltI (↑s.length : Int) (IntKind.i64.wrap (IntKind.i64.wrap (IntKind.i64.wrap (20 + (↑q6.fst.Options.length : Int)) + 8) + (IntKind.i64.wrap cut).tmod (IntKind.i64.wrap (imax (IntKind.i64.wrap ((↑q6.fst.Data.length : Int) - 8)) 0 + 1)))))) fun q7 =>
      bif q7 then
        some (true)
      else
        gd (ordB 0 (IntKind.i64.wrap (IntKind.i64.wrap (IntKind.i64.wrap (20 + (↑q6.fst.Options.length : Int)) + 8) + (IntKind.i64.wrap cut).tmod (IntKind.i64.wrap (imax (IntKind.i64.wrap ((↑q6.fst.Data.length : Int) - 8)) 0 + 1)))) s.length) <|
        Option.bind (
          F13 (sub s none (some (V.int IntKind.i64 (IntKind.i64.wrap (IntKind.i64.wrap (IntKind.i64.wrap (20 + (↑q6.fst.Options.length : Int)) + 8) + (IntKind.i64.wrap cut).tmod (IntKind.i64.wrap (imax (IntKind.i64.wrap ((↑q6.fst.Data.length : Int) - 8)) 0 + 1)))))) 0 (IntKind.i64.wrap (IntKind.i64.wrap (IntKind.i64.wrap (20 + (↑q6.fst.Options.length : Int)) + 8) + (IntKind.i64.wrap cut).tmod (IntKind.i64.wrap (imax (IntKind.i64.wrap ((↑q6.fst.Data.length : Int) - 8)) 0 + 1)))).toNat)) fun q8 =>
        errK (q8.snd.snd.fst) (
          Option.bind (
            bif !q8.snd.fst == q6.snd.fst then
              some (true)
            else
              bif !(↑q8.fst.Data.length : Int) == IntKind.i64.wrap (IntKind.i64.wrap (IntKind.i64.wrap (IntKind.i64.wrap (20 + (↑q6.fst.Options.length : Int)) + 8) + (IntKind.i64.wrap cut).tmod (IntKind.i64.wrap (imax (IntKind.i64.wrap ((↑q6.fst.Data.length : Int) - 8)) 0 + 1))) - IntKind.i64.wrap (20 + (↑q6.fst.Options.length : Int))) then
                some (true)
              else
                gd (ordB 0 (IntKind.i64.wrap (IntKind.i64.wrap (IntKind.i64.wrap (IntKind.i64.wrap (20 + (↑q6.fst.Options.length : Int)) + 8) + (IntKind.i64.wrap cut).tmod (IntKind.i64.wrap (imax (IntKind.i64.wrap ((↑q6.fst.Data.length : Int) - 8)) 0 + 1))) - IntKind.i64.wrap (20 + (↑q6.fst.Options.length : Int)))) q6.fst.Data.length) <|
                some (!q8.fst.Data == sub q6.fst.Data none (some (V.int IntKind.i64 (IntKind.i64.wrap (IntKind.i64.wrap (IntKind.i64.wrap (IntKind.i64.wrap (20 + (↑q6.fst.Options.length : Int)) + 8) + (IntKind.i64.wrap cut).tmod (IntKind.i64.wrap (imax (IntKind.i64.wrap ((↑q6.fst.Data.length : Int) - 8)) 0 + 1))) - IntKind.i64.wrap (20 + (↑q6.fst.Options.length : Int)))))) 0 (IntKind.i64.wrap (IntKind.i64.wrap (IntKind.i64.wrap (IntKind.i64.wrap (20 + (↑q6.fst.Options.length : Int)) + 8) + (IntKind.i64.wrap cut).tmod (IntKind.i64.wrap (imax (IntKind.i64.wrap ((↑q6.fst.Data.length : Int) - 8)) 0 + 1))) - IntKind.i64.wrap (20 + (↑q6.fst.Options.length : Int)))).toNat)) fun q9 =>
          bif q9 then
            some (false)
          else
            Option.bind (
              F16 ({ Tos := q6.fst.Tos, Id := q6.fst.Id, Ttl := q6.fst.Ttl, Proto := q6.fst.Proto, At := q6.fst.At, DF := q6.fst.DF, More := q6.fst.More, From := { b0 := q6.fst.From.b0, b1 := q6.fst.From.b1, b2 := q6.fst.From.b2, b3 := q6.fst.From.b3 }, To := { b0 := q6.fst.To.b0, b1 := q6.fst.To.b1, b2 := q6.fst.To.b2, b3 := q6.fst.To.b3 }, Options := q6.fst.Options, Data := q6.fst.Data }) (q6.snd.fst) ({ Addr := { b0 := a.b0, b1 := a.b1, b2 := a.b2, b3 := a.b3, b4 := a.b4, b5 := a.b5, b6 := a.b6, b7 := a.b7, b8 := a.b8, b9 := a.b9, b10 := a.b10, b11 := a.b11, b12 := a.b12, b13 := a.b13, b14 := a.b14, b15 := a.b15 }, Port := IntKind.i64.wrap x4_from }) ({ Addr := { b0 := b.b0, b1 := b.b1, b2 := b.b2, b3 := b.b3, b4 := b.b4, b5 := b.b5, b6 := b.b6, b7 := b.b7, b8 := b.b8, b9 := b.b9, b10 := b.b10, b11 := b.b11, b12 := b.b12, b13 := b.b13, b14 := b.b14, b15 := b.b15 }, Port := IntKind.i64.wrap x5_to })) fun q10 =>
            errK (q10.snd.fst) (
              Option.bind (
                F16 ({ Tos := q8.fst.Tos, Id := q8.fst.Id, Ttl := q8.fst.Ttl, Proto := q8.fst.Proto, At := q8.fst.At, DF := q8.fst.DF, More := q8.fst.More, From := { b0 := q8.fst.From.b0, b1 := q8.fst.From.b1, b2 := q8.fst.From.b2, b3 := q8.fst.From.b3 }, To := { b0 := q8.fst.To.b0, b1 := q8.fst.To.b1, b2 := q8.fst.To.b2, b3 := q8.fst.To.b3 }, Options := q8.fst.Options, Data := q8.fst.Data }) (q8.snd.fst) ({ Addr := { b0 := a.b0, b1 := a.b1, b2 := a.b2, b3 := a.b3, b4 := a.b4, b5 := a.b5, b6 := a.b6, b7 := a.b7, b8 := a.b8, b9 := a.b9, b10 := a.b10, b11 := a.b11, b12 := a.b12, b13 := a.b13, b14 := a.b14, b15 := a.b15 }, Port := IntKind.i64.wrap x4_from }) ({ Addr := { b0 := b.b0, b1 := b.b1, b2 := b.b2, b3 := b.b3, b4 := b.b4, b5 := b.b5, b6 := b.b6, b7 := b.b7, b8 := b.b8, b9 := b.b9, b10 := b.b10, b11 := b.b11, b12 := b.b12, b13 := b.b13, b14 := b.b14, b15 := b.b15 }, Port := IntKind.i64.wrap x5_to })) fun q11 =>
              errK (q11.snd.fst) (
                bif ltI (↑q10.fst.length : Int) (↑q11.fst.length : Int) then
                  some (false)
                else
                  bif q6.fst.Proto == 6 then
                    bif IntKind.i64.wrap (IntKind.i64.wrap (IntKind.i64.wrap (IntKind.i64.wrap (20 + (↑q6.fst.Options.length : Int)) + 8) + (IntKind.i64.wrap cut).tmod (IntKind.i64.wrap (imax (IntKind.i64.wrap ((↑q6.fst.Data.length : Int) - 8)) 0 + 1))) - IntKind.i64.wrap (20 + (↑q6.fst.Options.length : Int))) == 17 then
                      bif q6.fst.At == 0 then
                        some (true)
                      else
                        gd (ordB 0 (↑q11.fst.length : Int) q10.fst.length) <|
                        some (q11.fst == sub q10.fst none (some (V.int IntKind.i64 (↑q11.fst.length : Int))) 0 (↑q11.fst.length : Int).toNat)
                    else
                      gd (ordB 0 (↑q11.fst.length : Int) q10.fst.length) <|
                      some (q11.fst == sub q10.fst none (some (V.int IntKind.i64 (↑q11.fst.length : Int))) 0 (↑q11.fst.length : Int).toNat)
                  else
                    gd (ordB 0 (↑q11.fst.length : Int) q10.fst.length) <|
                    some (q11.fst == sub q10.fst none (some (V.int IntKind.i64 (↑q11.fst.length : Int))) 0 (↑q11.fst.length : Int).toNat)) fun c12 p12 =>
                some (false)) fun c11 p11 =>
              Option.bind (
                F16 ({ Tos := q8.fst.Tos, Id := q8.fst.Id, Ttl := q8.fst.Ttl, Proto := q8.fst.Proto, At := q8.fst.At, DF := q8.fst.DF, More := q8.fst.More, From := { b0 := q8.fst.From.b0, b1 := q8.fst.From.b1, b2 := q8.fst.From.b2, b3 := q8.fst.From.b3 }, To := { b0 := q8.fst.To.b0, b1 := q8.fst.To.b1, b2 := q8.fst.To.b2, b3 := q8.fst.To.b3 }, Options := q8.fst.Options, Data := q8.fst.Data }) (q8.snd.fst) ({ Addr := { b0 := a.b0, b1 := a.b1, b2 := a.b2, b3 := a.b3, b4 := a.b4, b5 := a.b5, b6 := a.b6, b7 := a.b7, b8 := a.b8, b9 := a.b9, b10 := a.b10, b11 := a.b11, b12 := a.b12, b13 := a.b13, b14 := a.b14, b15 := a.b15 }, Port := IntKind.i64.wrap x4_from }) ({ Addr := { b0 := b.b0, b1 := b.b1, b2 := b.b2, b3 := b.b3, b4 := b.b4, b5 := b.b5, b6 := b.b6, b7 := b.b7, b8 := b.b8, b9 := b.b9, b10 := b.b10, b11 := b.b11, b12 := b.b12, b13 := b.b13, b14 := b.b14, b15 := b.b15 }, Port := IntKind.i64.wrap x5_to })) fun q13 =>
              errK (q13.snd.fst) (
                some (false)) fun c14 p14 =>
                bif ltI (↑q10.fst.length : Int) (↑q13.fst.length : Int) then
                  some (false)
                else
                  bif q6.fst.Proto == 6 then
                    bif IntKind.i64.wrap (IntKind.i64.wrap (IntKind.i64.wrap (IntKind.i64.wrap (20 + (↑q6.fst.Options.length : Int)) + 8) + (IntKind.i64.wrap cut).tmod (IntKind.i64.wrap (imax (IntKind.i64.wrap ((↑q6.fst.Data.length : Int) - 8)) 0 + 1))) - IntKind.i64.wrap (20 + (↑q6.fst.Options.length : Int))) == 17 then
                      bif q6.fst.At == 0 then
                        some (true)
                      else
                        gd (ordB 0 (↑q13.fst.length : Int) q10.fst.length) <|
                        some (q13.fst == sub q10.fst none (some (V.int IntKind.i64 (↑q13.fst.length : Int))) 0 (↑q13.fst.length : Int).toNat)
                    else
                      gd (ordB 0 (↑q13.fst.length : Int) q10.fst.length) <|
                      some (q13.fst == sub q10.fst none (some (V.int IntKind.i64 (↑q13.fst.length : Int))) 0 (↑q13.fst.length : Int).toNat)
                  else
                    gd (ordB 0 (↑q13.fst.length : Int) q10.fst.length) <|
                    some (q13.fst == sub q10.fst none (some (V.int IntKind.i64 (↑q13.fst.length : Int))) 0 (↑q13.fst.length : Int).toNat)) fun c9 p9 =>
          some (false)) fun c7 p7 =>
      some (true)
theorem F4_ev : ∀ a, evTop Try.prog ⟨[d13, d14, d16], inl, keepIn keeps, []⟩ 6 4 (CodL.val (CodL.cons Cod.str (CodL.cons (Cod.int .u16) (CodL.cons (Cod.agg lV6) (CodL.cons (Cod.agg lV6) (CodL.cons (Cod.int .u16) (CodL.cons (Cod.int .u16) CodL.nil)))))) a) (fun v => Cod.dec Cod.bool v some) = (fun a => F4 a.1 a.2.1 a.2.2.1 a.2.2.2.1 a.2.2.2.2.1 a.2.2.2.2.2.1) a := by
  intro a; kernel_rfl
noncomputable def d4 : Ctr Try.prog := Ctr.ofF 4 (CodL.cons Cod.str (CodL.cons (Cod.int .u16) (CodL.cons (Cod.agg lV6) (CodL.cons (Cod.agg lV6) (CodL.cons (Cod.int .u16) (CodL.cons (Cod.int .u16) CodL.nil)))))) Cod.bool (fun a => F4 a.1 a.2.1 a.2.2.1 a.2.2.2.1 a.2.2.2.2.1 a.2.2.2.2.2.1) (pcalls_of_ev mix noLoops F4_ev)

end Go.Rx.L15F
