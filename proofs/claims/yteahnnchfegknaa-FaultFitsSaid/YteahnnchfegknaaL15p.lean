/- L15p. -/
import Derived.Test.YteahnnchfegknaaL15o
set_option linter.unusedVariables false
set_option maxRecDepth 100000
set_option maxHeartbeats 0
namespace Go.Rx.L15F
open Go.Proofs Go.Rx
def F69 (e : Int) : Option Err := some (some (e, 0))
def F90 (next : Int) : Option Bool := extB next
def keeps8 : List (Nat × Nat × List Nat) := [(52, 1, [0, 1, 4, 5, 6, 7]), (57, 3, [3, 4, 7, 8, 9]), (65, 2, [1, 2, 14, 15, 16]), (66, 5, [3, 15, 16, 17]), (68, 12, [1, 5, 6, 8]), (84, 7, [0, 1, 6, 37, 38]), (91, 4, [6, 7, 8, 17, 18]), (92, 1, [0]), (93, 2, [0, 1, 2, 3, 12, 13]), (96, 2, [2, 5, 6, 7]), (115, 2, [0, 1, 2, 6, 10, 11]), (117, 2, [1, 2, 6, 7, 8]), (118, 2, [1, 2, 6, 7, 8]), (119, 5, [3, 14, 15, 16]), (124, 2, [1, 4, 8, 9, 10])]
def inl_keeps8 : List FuncId := [53, 54, 91, 113]
structure Net6 where
  Addr : V6
  Len : Int
def lNet6 : CodL Net6 := (CodL.app lV6 (CodL.cons (Cod.int .i64) CodL.nil)).iso (fun a => ⟨a.1, a.2.1⟩) (fun s => (s.Addr, s.Len, ())) (fun _ => rfl) (fun _ => rfl)
/-- interpreter/ip4.fault -/
def F61 (e : Int) : Option (Err) :=
  some (some (e, 0))
theorem F61_ev : ∀ a, evTop Try.prog ⟨[], inl_keeps8, keepIn keeps8, []⟩ 6 61 (CodL.val (CodL.cons (Cod.int .i64) CodL.nil) a) (fun v => Cod.dec (Cod.err faultT) v some) = (fun a => F61 a.1) a := by
  intro a; kernel_rfl
noncomputable def d61 : Ctr Try.prog := Ctr.ofF 61 (CodL.cons (Cod.int .i64) CodL.nil) (Cod.err faultT) (fun a => F61 a.1) (pcalls_of_ev mix noLoops F61_ev)
/-- interpreter/ip4.Parse$1 -/
def F62 (x0_at : Int) (cap0 : List UInt8) : Option (Int) :=
  gd (inB x0_at cap0.length) <|
  gd (inB (IntKind.i64.wrap (x0_at + 1)) cap0.length) <|
  some (ior IntKind.i64 (IntKind.i64.wrap (IntKind.i64.wrap (bt cap0 x0_at) * 256)) (IntKind.i64.wrap (bt cap0 (IntKind.i64.wrap (x0_at + 1)))))
theorem F62_ev : ∀ a, evTop Try.prog ⟨[], inl_keeps8, keepIn keeps8, []⟩ 6 62 (CodL.val (CodL.cons (Cod.int .i64) (CodL.cons (Cod.box (CodL.one Cod.str)) CodL.nil)) a) (fun v => Cod.dec (Cod.int .i64) v some) = (fun a => F62 a.1 a.2.1) a := by
  intro a; kernel_rfl
noncomputable def d62 : Ctr Try.prog := Ctr.ofF 62 (CodL.cons (Cod.int .i64) (CodL.cons (Cod.box (CodL.one Cod.str)) CodL.nil)) (Cod.int .i64) (fun a => F62 a.1 a.2.1) (pcalls_of_ev mix noLoops F62_ev)
/-- interpreter/ip4.byteful -/
noncomputable def d96 : Ctr Try.prog := Ctr.evT mix [] inl_keeps8 (keepIn keeps8) 6 96 Cod.bool
/-- interpreter/ip4.why -/
def F63 (p : Ip4) : Option (Int) :=
  Option.bind (
    Option.bind (
      bif ltI p.Tos 0 then
        some (true)
      else
        some (ltI 255 p.Tos)) fun q1 =>
    bif q1 then
      some (false)
    else
      Option.bind (
        bif ltI p.Ttl 0 then
          some (true)
        else
          some (ltI 255 p.Ttl)) fun q2 =>
      bif q2 then
        some (false)
      else
        Option.bind (
          bif ltI p.Proto 0 then
            some (true)
          else
            some (ltI 255 p.Proto)) fun q3 =>
        bif q3 then
          some (false)
        else
          some (true)) fun q1 =>
  bif !q1 then
    some (13)
  else
    bif ltI p.Id 0 then
      some (13)
    else
      bif ltI 65535 p.Id then
        some (13)
      else
        bif ltI p.At 0 then
          some (13)
        else
          bif ltI 65528 p.At then
            some (13)
          else
            bif !p.At.tmod 8 == 0 then
              some (13)
            else
              Option.bind (
                bif ltI 40 (↑p.Options.length : Int) then
                  some (true)
                else
                  bif !(↑p.Options.length : Int).tmod 4 == 0 then
                    some (true)
                  else
                    bif p.More then
                      bif p.Data == [] then
                        some (true)
                      else
                        some (!(↑p.Data.length : Int).tmod 8 == 0)
                    else
                      some (false)) fun q2 =>
              bif q2 then
                some (8)
              else
                bif ltI (IntKind.i64.wrap (IntKind.i64.wrap (65515 - (↑p.Options.length : Int)) - p.At)) (↑p.Data.length : Int) then
                  some (3)
                else
                  some (0)
theorem F63_ev : ∀ a, evTop Try.prog ⟨[d96], inl_keeps8, keepIn keeps8, []⟩ 6 63 (CodL.val (CodL.cons (Cod.agg lIp4) CodL.nil) a) (fun v => Cod.dec (Cod.int .i64) v some) = (fun a => F63 a.1) a := by
  intro a; kernel_rfl
noncomputable def d63 : Ctr Try.prog := Ctr.ofF 63 (CodL.cons (Cod.agg lIp4) CodL.nil) (Cod.int .i64) (fun a => F63 a.1) (pcalls_of_ev mix noLoops F63_ev)
/-- interpreter/ip4.Parse -/
def F24 (s : List UInt8) : Option (Ip4 × Err × Unit) :=
  bif ltI (↑s.length : Int) 20 then
    Option.bind (
      F61 (7)) fun q1 =>
    errK (q1) (
      some (({ Tos := 0, Id := 0, Ttl := 0, Proto := 0, At := 0, DF := false, More := false, From := { b0 := 0, b1 := 0, b2 := 0, b3 := 0 }, To := { b0 := 0, b1 := 0, b2 := 0, b3 := 0 }, Options := [], Data := [] }, none, ()))) fun c2 p2 =>
      some (({ Tos := 0, Id := 0, Ttl := 0, Proto := 0, At := 0, DF := false, More := false, From := { b0 := 0, b1 := 0, b2 := 0, b3 := 0 }, To := { b0 := 0, b1 := 0, b2 := 0, b3 := 0 }, Options := [], Data := [] }, some (c2, p2), ()))
  else
    gd (inB 0 s.length) <|
    Option.bind (
      gd (inB 0 s.length) <|
      bif !(bt s 0).fdiv 16 == 4 then
        some (true)
      else
        some (ltI (IntKind.i64.wrap (IntKind.i64.wrap (iand IntKind.u8 (bt s 0) 15) * 4)) 20)) fun q1 =>
    bif q1 then
      Option.bind (
        F61 (8)) fun q2 =>
      errK (q2) (
        some (({ Tos := 0, Id := 0, Ttl := 0, Proto := 0, At := 0, DF := false, More := false, From := { b0 := 0, b1 := 0, b2 := 0, b3 := 0 }, To := { b0 := 0, b1 := 0, b2 := 0, b3 := 0 }, Options := [], Data := [] }, none, ()))) fun c3 p3 =>
        some (({ Tos := 0, Id := 0, Ttl := 0, Proto := 0, At := 0, DF := false, More := false, From := { b0 := 0, b1 := 0, b2 := 0, b3 := 0 }, To := { b0 := 0, b1 := 0, b2 := 0, b3 := 0 }, Options := [], Data := [] }, some (c3, p3), ()))
    else
      bif ltI (↑s.length : Int) (IntKind.i64.wrap (IntKind.i64.wrap (iand IntKind.u8 (bt s 0) 15) * 4)) then
        Option.bind (
          F61 (7)) fun q2 =>
        errK (q2) (
          some (({ Tos := 0, Id := 0, Ttl := 0, Proto := 0, At := 0, DF := false, More := false, From := { b0 := 0, b1 := 0, b2 := 0, b3 := 0 }, To := { b0 := 0, b1 := 0, b2 := 0, b3 := 0 }, Options := [], Data := [] }, none, ()))) fun c3 p3 =>
          some (({ Tos := 0, Id := 0, Ttl := 0, Proto := 0, At := 0, DF := false, More := false, From := { b0 := 0, b1 := 0, b2 := 0, b3 := 0 }, To := { b0 := 0, b1 := 0, b2 := 0, b3 := 0 }, Options := [], Data := [] }, some (c3, p3), ()))
      else
        gd (ordB 0 (IntKind.i64.wrap (IntKind.i64.wrap (iand IntKind.u8 (bt s 0) 15) * 4)) s.length) <|
        Option.bind (
          Option.bind (
            Option.bind (
              F93 (0) (0) (sub s none (some (V.int IntKind.i64 (IntKind.i64.wrap (IntKind.i64.wrap (iand IntKind.u8 (bt s 0) 15) * 4)))) 0 (IntKind.i64.wrap (IntKind.i64.wrap (iand IntKind.u8 (bt s 0) 15) * 4)).toNat) (0)) fun q2 =>
            Option.bind (
              F92 (q2)) fun q3 =>
            some (IntKind.i64.wrap (65535 - q3))) fun q2 =>
          some (q2 == 0)) fun q2 =>
        bif !q2 then
          Option.bind (
            F61 (9)) fun q3 =>
          errK (q3) (
            some (({ Tos := 0, Id := 0, Ttl := 0, Proto := 0, At := 0, DF := false, More := false, From := { b0 := 0, b1 := 0, b2 := 0, b3 := 0 }, To := { b0 := 0, b1 := 0, b2 := 0, b3 := 0 }, Options := [], Data := [] }, none, ()))) fun c4 p4 =>
            some (({ Tos := 0, Id := 0, Ttl := 0, Proto := 0, At := 0, DF := false, More := false, From := { b0 := 0, b1 := 0, b2 := 0, b3 := 0 }, To := { b0 := 0, b1 := 0, b2 := 0, b3 := 0 }, Options := [], Data := [] }, some (c4, p4), ()))
        else
          Option.bind (
            F62 (2) (s)) fun q3 =>
          Option.bind (
            F62 (6) (s)) fun q4 =>
          bif ltI q3 (IntKind.i64.wrap (IntKind.i64.wrap (iand IntKind.u8 (bt s 0) 15) * 4)) then
            Option.bind (
              F61 (8)) fun q5 =>
            errK (q5) (
              some (({ Tos := 0, Id := 0, Ttl := 0, Proto := 0, At := 0, DF := false, More := false, From := { b0 := 0, b1 := 0, b2 := 0, b3 := 0 }, To := { b0 := 0, b1 := 0, b2 := 0, b3 := 0 }, Options := [], Data := [] }, none, ()))) fun c6 p6 =>
              some (({ Tos := 0, Id := 0, Ttl := 0, Proto := 0, At := 0, DF := false, More := false, From := { b0 := 0, b1 := 0, b2 := 0, b3 := 0 }, To := { b0 := 0, b1 := 0, b2 := 0, b3 := 0 }, Options := [], Data := [] }, some (c6, p6), ()))
          else
            bif ltI (↑s.length : Int) q3 then
              Option.bind (
                F61 (7)) fun q5 =>
              errK (q5) (
                some (({ Tos := 0, Id := 0, Ttl := 0, Proto := 0, At := 0, DF := false, More := false, From := { b0 := 0, b1 := 0, b2 := 0, b3 := 0 }, To := { b0 := 0, b1 := 0, b2 := 0, b3 := 0 }, Options := [], Data := [] }, none, ()))) fun c6 p6 =>
                some (({ Tos := 0, Id := 0, Ttl := 0, Proto := 0, At := 0, DF := false, More := false, From := { b0 := 0, b1 := 0, b2 := 0, b3 := 0 }, To := { b0 := 0, b1 := 0, b2 := 0, b3 := 0 }, Options := [], Data := [] }, some (c6, p6), ()))
            else
              gd (inB 1 s.length) <|
              Option.bind (
                F62 (4) (s)) fun q5 =>
              gd (inB 8 s.length) <|
              gd (inB 9 s.length) <|
              gd (ordB 20 (IntKind.i64.wrap (IntKind.i64.wrap (iand IntKind.u8 (bt s 0) 15) * 4)) s.length) <|
              gd (ordB (IntKind.i64.wrap (IntKind.i64.wrap (iand IntKind.u8 (bt s 0) 15) * 4)) q3 s.length) <|
              gd (ordB 12 (↑s.length : Int) s.length) <|
              gd (Nat.ble 4 (sub s (some (V.int IntKind.i64 12)) none 12 (↑s.length : Int).toNat).length && true) <|
              gd (ordB 16 (↑s.length : Int) s.length) <|
              gd (Nat.ble 4 (sub s (some (V.int IntKind.i64 16)) none 16 (↑s.length : Int).toNat).length && true) <|
              Option.bind (
                bif !iand IntKind.i64 q4 32768 == 0 then
                  some (true)
                else
                  Option.bind (
                    F63 ({ Tos := IntKind.i64.wrap (bt s 1), Id := q5, Ttl := IntKind.i64.wrap (bt s 8), Proto := IntKind.i64.wrap (bt s 9), At := IntKind.i64.wrap (iand IntKind.i64 q4 8191 * 8), DF := !iand IntKind.i64 q4 16384 == 0, More := !iand IntKind.i64 q4 8192 == 0, From := { b0 := bt (sub s (some (V.int IntKind.i64 12)) none 12 (↑s.length : Int).toNat) 0, b1 := bt (sub s (some (V.int IntKind.i64 12)) none 12 (↑s.length : Int).toNat) 1, b2 := bt (sub s (some (V.int IntKind.i64 12)) none 12 (↑s.length : Int).toNat) 2, b3 := bt (sub s (some (V.int IntKind.i64 12)) none 12 (↑s.length : Int).toNat) 3 }, To := { b0 := bt (sub s (some (V.int IntKind.i64 16)) none 16 (↑s.length : Int).toNat) 0, b1 := bt (sub s (some (V.int IntKind.i64 16)) none 16 (↑s.length : Int).toNat) 1, b2 := bt (sub s (some (V.int IntKind.i64 16)) none 16 (↑s.length : Int).toNat) 2, b3 := bt (sub s (some (V.int IntKind.i64 16)) none 16 (↑s.length : Int).toNat) 3 }, Options := sub s (some (V.int IntKind.i64 20)) (some (V.int IntKind.i64 (IntKind.i64.wrap (IntKind.i64.wrap (iand IntKind.u8 (bt s 0) 15) * 4)))) 20 (IntKind.i64.wrap (IntKind.i64.wrap (iand IntKind.u8 (bt s 0) 15) * 4)).toNat, Data := sub s (some (V.int IntKind.i64 (IntKind.i64.wrap (IntKind.i64.wrap (iand IntKind.u8 (bt s 0) 15) * 4)))) (some (V.int IntKind.i64 q3)) (IntKind.i64.wrap (IntKind.i64.wrap (iand IntKind.u8 (bt s 0) 15) * 4)).toNat q3.toNat })) fun q6 =>
                  some (!q6 == 0)) fun q6 =>
              bif q6 then
                Option.bind (
                  F61 (8)) fun q7 =>
                errK (q7) (
                  some (({ Tos := 0, Id := 0, Ttl := 0, Proto := 0, At := 0, DF := false, More := false, From := { b0 := 0, b1 := 0, b2 := 0, b3 := 0 }, To := { b0 := 0, b1 := 0, b2 := 0, b3 := 0 }, Options := [], Data := [] }, none, ()))) fun c8 p8 =>
                  some (({ Tos := 0, Id := 0, Ttl := 0, Proto := 0, At := 0, DF := false, More := false, From := { b0 := 0, b1 := 0, b2 := 0, b3 := 0 }, To := { b0 := 0, b1 := 0, b2 := 0, b3 := 0 }, Options := [], Data := [] }, some (c8, p8), ()))
              else
                some (({ Tos := IntKind.i64.wrap (bt s 1), Id := q5, Ttl := IntKind.i64.wrap (bt s 8), Proto := IntKind.i64.wrap (bt s 9), At := IntKind.i64.wrap (iand IntKind.i64 q4 8191 * 8), DF := !iand IntKind.i64 q4 16384 == 0, More := !iand IntKind.i64 q4 8192 == 0, From := { b0 := bt (sub s (some (V.int IntKind.i64 12)) none 12 (↑s.length : Int).toNat) 0, b1 := bt (sub s (some (V.int IntKind.i64 12)) none 12 (↑s.length : Int).toNat) 1, b2 := bt (sub s (some (V.int IntKind.i64 12)) none 12 (↑s.length : Int).toNat) 2, b3 := bt (sub s (some (V.int IntKind.i64 12)) none 12 (↑s.length : Int).toNat) 3 }, To := { b0 := bt (sub s (some (V.int IntKind.i64 16)) none 16 (↑s.length : Int).toNat) 0, b1 := bt (sub s (some (V.int IntKind.i64 16)) none 16 (↑s.length : Int).toNat) 1, b2 := bt (sub s (some (V.int IntKind.i64 16)) none 16 (↑s.length : Int).toNat) 2, b3 := bt (sub s (some (V.int IntKind.i64 16)) none 16 (↑s.length : Int).toNat) 3 }, Options := sub s (some (V.int IntKind.i64 20)) (some (V.int IntKind.i64 (IntKind.i64.wrap (IntKind.i64.wrap (iand IntKind.u8 (bt s 0) 15) * 4)))) 20 (IntKind.i64.wrap (IntKind.i64.wrap (iand IntKind.u8 (bt s 0) 15) * 4)).toNat, Data := sub s (some (V.int IntKind.i64 (IntKind.i64.wrap (IntKind.i64.wrap (iand IntKind.u8 (bt s 0) 15) * 4)))) (some (V.int IntKind.i64 q3)) (IntKind.i64.wrap (IntKind.i64.wrap (iand IntKind.u8 (bt s 0) 15) * 4)).toNat q3.toNat }, none, ()))
theorem F24_ev : ∀ a, evTop Try.prog ⟨[d42, d61, d62, d63], inl_keeps8, keepIn keeps8, []⟩ 6 24 (CodL.val (CodL.cons Cod.str CodL.nil) a) (fun v => Cod.dec (Cod.tup (CodL.cons (Cod.agg lIp4) (CodL.cons (Cod.err faultT) CodL.nil))) v some) = (fun a => F24 a.1) a := by
  intro a; kernel_rfl
noncomputable def d24 : Ctr Try.prog := Ctr.ofF 24 (CodL.cons Cod.str CodL.nil) (Cod.tup (CodL.cons (Cod.agg lIp4) (CodL.cons (Cod.err faultT) CodL.nil))) (fun a => F24 a.1) (pcalls_of_ev mix noLoops F24_ev)
/-- interpreter/class.Martian4 -/
def F37 (a : V4) : Option (Bool) :=
  bif a.b0 == 0 then
    some (true)
  else
    bif a.b0 == 127 then
      some (true)
    else
      bif leI 224 a.b0 then
        some (true)
      else
        bif a.b0 == 169 then
          some (a.b1 == 254)
        else
          some (false)
theorem F37_ev : ∀ a, evTop Try.prog ⟨[], inl_keeps8, keepIn keeps8, []⟩ 6 37 (CodL.val (CodL.cons (Cod.agg lV4) CodL.nil) a) (fun v => Cod.dec Cod.bool v some) = (fun a => F37 a.1) a := by
  intro a; kernel_rfl
noncomputable def d37 : Ctr Try.prog := Ctr.ofF 37 (CodL.cons (Cod.agg lV4) CodL.nil) Cod.bool (fun a => F37 a.1) (pcalls_of_ev mix noLoops F37_ev)
/-- interpreter/fault.beginning -/
def F38 (all : List UInt8) (head : Int) (room : Int) : Option ((List UInt8) × Bool × Unit) :=
  gd (ordB 0 (imax (imin (↑all.length : Int) room) 0) all.length) <|
  some ((sub all none (some (V.int IntKind.i64 (imax (imin (↑all.length : Int) room) 0))) 0 (imax (imin (↑all.length : Int) room) 0).toNat, leI (imin (IntKind.i64.wrap (head + 8)) (↑all.length : Int)) (imin (↑all.length : Int) room), ()))
theorem F38_ev : ∀ a, evTop Try.prog ⟨[], inl_keeps8, keepIn keeps8, []⟩ 6 38 (CodL.val (CodL.cons Cod.str (CodL.cons (Cod.int .i64) (CodL.cons (Cod.int .i64) CodL.nil))) a) (fun v => Cod.dec (Cod.tup (CodL.cons Cod.str (CodL.cons Cod.bool CodL.nil))) v some) = (fun a => F38 a.1 a.2.1 a.2.2.1) a := by
  intro a; kernel_rfl
noncomputable def d38 : Ctr Try.prog := Ctr.ofF 38 (CodL.cons Cod.str (CodL.cons (Cod.int .i64) (CodL.cons (Cod.int .i64) CodL.nil))) (Cod.tup (CodL.cons Cod.str (CodL.cons Cod.bool CodL.nil))) (fun a => F38 a.1 a.2.1 a.2.2.1) (pcalls_of_ev mix noLoops F38_ev)
/-- interpreter/icmp4.Bytes -/
def F39 (m : Msg) : Option ((List UInt8) × Err × Unit) :=
  Option.bind (
    F84 (m.Kind) (1)) fun q1 =>
  errK (q1.snd.fst) (
    Option.bind (
      F84 (m.Code) (1)) fun q2 =>
    errK (q2.snd.fst) (
      Option.bind (
        F84 (IntKind.i64.wrap m.Rest) (4)) fun q3 =>
      errK (q3.snd.fst) (
        Option.bind (
          Option.bind (
            F93 (0) (0) (q1.fst) (0)) fun q4 =>
          Option.bind (
            F92 (q4)) fun q5 =>
          Option.bind (
            F93 (q5) (IntKind.i64.wrap (0 + (↑q1.fst.length : Int))) (q2.fst) (0)) fun q6 =>
          Option.bind (
            F92 (q6)) fun q7 =>
          Option.bind (
            F93 (q7) (IntKind.i64.wrap (IntKind.i64.wrap (0 + (↑q1.fst.length : Int)) + (↑q2.fst.length : Int))) ([0, 0]) (0)) fun q8 =>
          Option.bind (
            F92 (q8)) fun q9 =>
          Option.bind (
            F93 (q9) (IntKind.i64.wrap (IntKind.i64.wrap (IntKind.i64.wrap (0 + (↑q1.fst.length : Int)) + (↑q2.fst.length : Int)) + 2)) (q3.fst) (0)) fun q10 =>
          Option.bind (
            F92 (q10)) fun q11 =>
          Option.bind (
            F93 (q11) (IntKind.i64.wrap (IntKind.i64.wrap (IntKind.i64.wrap (IntKind.i64.wrap (0 + (↑q1.fst.length : Int)) + (↑q2.fst.length : Int)) + 2) + (↑q3.fst.length : Int))) (m.Data) (0)) fun q12 =>
          Option.bind (
            F92 (q12)) fun q13 =>
          some (IntKind.i64.wrap (65535 - q13))) fun q4 =>
        Option.bind (
          F84 (q4) (2)) fun q5 =>
        errK (q5.snd.fst) (
          gd (catOk q1.fst q2.fst) <|
          gd (catOk (q1.fst ++ q2.fst) q5.fst) <|
          gd (catOk (q1.fst ++ q2.fst ++ q5.fst) q3.fst) <|
          gd (catOk (q1.fst ++ q2.fst ++ q5.fst ++ q3.fst) m.Data) <|
          some ((q1.fst ++ q2.fst ++ q5.fst ++ q3.fst ++ m.Data, none, ()))) fun c6 p6 =>
          gd (catOk q1.fst q2.fst) <|
          gd (catOk (q1.fst ++ q2.fst) q5.fst) <|
          gd (catOk (q1.fst ++ q2.fst ++ q5.fst) q3.fst) <|
          gd (catOk (q1.fst ++ q2.fst ++ q5.fst ++ q3.fst) m.Data) <|
          some ((q1.fst ++ q2.fst ++ q5.fst ++ q3.fst ++ m.Data, some (c6, p6), ()))) fun c4 p4 =>
        some (([], some (c4, p4), ()))) fun c3 p3 =>
      some (([], some (c3, p3), ()))) fun c2 p2 =>
    some (([], some (c2, p2), ()))
theorem F39_ev : ∀ a, evTop Try.prog ⟨[d57, d84], inl_keeps8, keepIn keeps8, []⟩ 6 39 (CodL.val (CodL.cons (Cod.agg lMsg) CodL.nil) a) (fun v => Cod.dec (Cod.tup (CodL.cons Cod.str (CodL.cons (Cod.err faultT) CodL.nil))) v some) = (fun a => F39 a.1) a := by
  intro a; kernel_rfl
noncomputable def d39 : Ctr Try.prog := Ctr.ofF 39 (CodL.cons (Cod.agg lMsg) CodL.nil) (Cod.tup (CodL.cons Cod.str (CodL.cons (Cod.err faultT) CodL.nil))) (fun a => F39 a.1) (pcalls_of_ev mix noLoops F39_ev)
/-- interpreter/ip4.big -/
def F85 (x : Int) (n : Int) : Option (List UInt8) :=
  Option.bind (
    F84 (x) (n)) fun q2 =>
  errK (q2.snd.fst) (
    some (q2.fst)) fun c3 p3 =>
    some (q2.fst)
theorem F85_ev : ∀ a, evTop Try.prog ⟨[d84], inl_keeps8, keepIn keeps8, []⟩ 6 85 (CodL.val (CodL.cons (Cod.int .i64) (CodL.cons (Cod.int .i64) CodL.nil)) a) (fun v => Cod.dec Cod.str v some) = (fun a => F85 a.1 a.2.1) a := by
  intro a; kernel_rfl
noncomputable def d85 : Ctr Try.prog := Ctr.ofF 85 (CodL.cons (Cod.int .i64) (CodL.cons (Cod.int .i64) CodL.nil)) Cod.str (fun a => F85 a.1 a.2.1) (pcalls_of_ev mix noLoops F85_ev)
/-- interpreter/ip4.Bytes -/
def F40 (p : Ip4) : Option ((List UInt8) × Err × Unit) :=
  Option.bind (
    F63 ({ Tos := p.Tos, Id := p.Id, Ttl := p.Ttl, Proto := p.Proto, At := p.At, DF := p.DF, More := p.More, From := { b0 := p.From.b0, b1 := p.From.b1, b2 := p.From.b2, b3 := p.From.b3 }, To := { b0 := p.To.b0, b1 := p.To.b1, b2 := p.To.b2, b3 := p.To.b3 }, Options := p.Options, Data := p.Data })) fun q1 =>
  bif !q1 == 0 then
    Option.bind (
      F61 (q1)) fun q2 =>
    errK (q2) (
      some (([], none, ()))) fun c3 p3 =>
      some (([], some (c3, p3), ()))
  else
    bif p.DF then
      bif p.More then
        Option.bind (
          F85 (IntKind.i64.wrap (64 + IntKind.i64.wrap ((IntKind.i64.wrap (20 + (↑p.Options.length : Int))).tdiv 4))) (1)) fun q2 =>
        Option.bind (
          F85 (p.Tos) (1)) fun q3 =>
        gd (catOk q2 q3) <|
        Option.bind (
          F85 (IntKind.i64.wrap (IntKind.i64.wrap (20 + (↑p.Options.length : Int)) + (↑p.Data.length : Int))) (2)) fun q4 =>
        gd (catOk (q2 ++ q3) q4) <|
        Option.bind (
          F85 (p.Id) (2)) fun q5 =>
        gd (catOk (q2 ++ q3 ++ q4) q5) <|
        Option.bind (
          F85 (ior IntKind.i64 (ior IntKind.i64 (IntKind.i64.wrap (p.At.tdiv 8)) 16384) 8192) (2)) fun q6 =>
        gd (catOk (q2 ++ q3 ++ q4 ++ q5) q6) <|
        Option.bind (
          F85 (p.Ttl) (1)) fun q7 =>
        gd (catOk (q2 ++ q3 ++ q4 ++ q5 ++ q6) q7) <|
        Option.bind (
          F85 (p.Proto) (1)) fun q8 =>
        gd (catOk (q2 ++ q3 ++ q4 ++ q5 ++ q6 ++ q7) q8) <|
        gd (catOk ([UInt8.ofNat p.From.b0.toNat, UInt8.ofNat p.From.b1.toNat, UInt8.ofNat p.From.b2.toNat, UInt8.ofNat p.From.b3.toNat] ++ [UInt8.ofNat p.To.b0.toNat, UInt8.ofNat p.To.b1.toNat, UInt8.ofNat p.To.b2.toNat, UInt8.ofNat p.To.b3.toNat]) p.Options) <|
        Option.bind (
          Option.bind (
            F93 (0) (0) (q2 ++ q3 ++ q4 ++ q5 ++ q6 ++ q7 ++ q8) (0)) fun q9 =>
          Option.bind (
            F92 (q9)) fun q10 =>
          Option.bind (
            F93 (q10) (IntKind.i64.wrap (0 + (↑(q2 ++ q3 ++ q4 ++ q5 ++ q6 ++ q7 ++ q8).length : Int))) ([UInt8.ofNat p.From.b0.toNat, UInt8.ofNat p.From.b1.toNat, UInt8.ofNat p.From.b2.toNat, UInt8.ofNat p.From.b3.toNat] ++ [UInt8.ofNat p.To.b0.toNat, UInt8.ofNat p.To.b1.toNat, UInt8.ofNat p.To.b2.toNat, UInt8.ofNat p.To.b3.toNat] ++ p.Options) (0)) fun q11 =>
          Option.bind (
            F92 (q11)) fun q12 =>
          some (IntKind.i64.wrap (65535 - q12))) fun q9 =>
        Option.bind (
          F85 (q9) (2)) fun q10 =>
        gd (catOk (q2 ++ q3 ++ q4 ++ q5 ++ q6 ++ q7 ++ q8) q10) <|
        gd (catOk (q2 ++ q3 ++ q4 ++ q5 ++ q6 ++ q7 ++ q8 ++ q10) ([UInt8.ofNat p.From.b0.toNat, UInt8.ofNat p.From.b1.toNat, UInt8.ofNat p.From.b2.toNat, UInt8.ofNat p.From.b3.toNat] ++ [UInt8.ofNat p.To.b0.toNat, UInt8.ofNat p.To.b1.toNat, UInt8.ofNat p.To.b2.toNat, UInt8.ofNat p.To.b3.toNat] ++ p.Options)) <|
        gd (catOk (q2 ++ q3 ++ q4 ++ q5 ++ q6 ++ q7 ++ q8 ++ q10 ++ ([UInt8.ofNat p.From.b0.toNat, UInt8.ofNat p.From.b1.toNat, UInt8.ofNat p.From.b2.toNat, UInt8.ofNat p.From.b3.toNat] ++ [UInt8.ofNat p.To.b0.toNat, UInt8.ofNat p.To.b1.toNat, UInt8.ofNat p.To.b2.toNat, UInt8.ofNat p.To.b3.toNat] ++ p.Options)) p.Data) <|
        some ((q2 ++ q3 ++ q4 ++ q5 ++ q6 ++ q7 ++ q8 ++ q10 ++ ([UInt8.ofNat p.From.b0.toNat, UInt8.ofNat p.From.b1.toNat, UInt8.ofNat p.From.b2.toNat, UInt8.ofNat p.From.b3.toNat] ++ [UInt8.ofNat p.To.b0.toNat, UInt8.ofNat p.To.b1.toNat, UInt8.ofNat p.To.b2.toNat, UInt8.ofNat p.To.b3.toNat] ++ p.Options) ++ p.Data, none, ()))
      else
        Option.bind (
          F85 (IntKind.i64.wrap (64 + IntKind.i64.wrap ((IntKind.i64.wrap (20 + (↑p.Options.length : Int))).tdiv 4))) (1)) fun q2 =>
        Option.bind (
          F85 (p.Tos) (1)) fun q3 =>
        gd (catOk q2 q3) <|
        Option.bind (
          F85 (IntKind.i64.wrap (IntKind.i64.wrap (20 + (↑p.Options.length : Int)) + (↑p.Data.length : Int))) (2)) fun q4 =>
        gd (catOk (q2 ++ q3) q4) <|
        Option.bind (
          F85 (p.Id) (2)) fun q5 =>
        gd (catOk (q2 ++ q3 ++ q4) q5) <|
        Option.bind (
          F85 (ior IntKind.i64 (IntKind.i64.wrap (p.At.tdiv 8)) 16384) (2)) fun q6 =>
        gd (catOk (q2 ++ q3 ++ q4 ++ q5) q6) <|
        Option.bind (
          F85 (p.Ttl) (1)) fun q7 =>
        gd (catOk (q2 ++ q3 ++ q4 ++ q5 ++ q6) q7) <|
        Option.bind (
          F85 (p.Proto) (1)) fun q8 =>
        gd (catOk (q2 ++ q3 ++ q4 ++ q5 ++ q6 ++ q7) q8) <|
        gd (catOk ([UInt8.ofNat p.From.b0.toNat, UInt8.ofNat p.From.b1.toNat, UInt8.ofNat p.From.b2.toNat, UInt8.ofNat p.From.b3.toNat] ++ [UInt8.ofNat p.To.b0.toNat, UInt8.ofNat p.To.b1.toNat, UInt8.ofNat p.To.b2.toNat, UInt8.ofNat p.To.b3.toNat]) p.Options) <|
        Option.bind (
          Option.bind (
            F93 (0) (0) (q2 ++ q3 ++ q4 ++ q5 ++ q6 ++ q7 ++ q8) (0)) fun q9 =>
          Option.bind (
            F92 (q9)) fun q10 =>
          Option.bind (
            F93 (q10) (IntKind.i64.wrap (0 + (↑(q2 ++ q3 ++ q4 ++ q5 ++ q6 ++ q7 ++ q8).length : Int))) ([UInt8.ofNat p.From.b0.toNat, UInt8.ofNat p.From.b1.toNat, UInt8.ofNat p.From.b2.toNat, UInt8.ofNat p.From.b3.toNat] ++ [UInt8.ofNat p.To.b0.toNat, UInt8.ofNat p.To.b1.toNat, UInt8.ofNat p.To.b2.toNat, UInt8.ofNat p.To.b3.toNat] ++ p.Options) (0)) fun q11 =>
          Option.bind (
            F92 (q11)) fun q12 =>
          some (IntKind.i64.wrap (65535 - q12))) fun q9 =>
        Option.bind (
          F85 (q9) (2)) fun q10 =>
        gd (catOk (q2 ++ q3 ++ q4 ++ q5 ++ q6 ++ q7 ++ q8) q10) <|
        gd (catOk (q2 ++ q3 ++ q4 ++ q5 ++ q6 ++ q7 ++ q8 ++ q10) ([UInt8.ofNat p.From.b0.toNat, UInt8.ofNat p.From.b1.toNat, UInt8.ofNat p.From.b2.toNat, UInt8.ofNat p.From.b3.toNat] ++ [UInt8.ofNat p.To.b0.toNat, UInt8.ofNat p.To.b1.toNat, UInt8.ofNat p.To.b2.toNat, UInt8.ofNat p.To.b3.toNat] ++ p.Options)) <|
        gd (catOk (q2 ++ q3 ++ q4 ++ q5 ++ q6 ++ q7 ++ q8 ++ q10 ++ ([UInt8.ofNat p.From.b0.toNat, UInt8.ofNat p.From.b1.toNat, UInt8.ofNat p.From.b2.toNat, UInt8.ofNat p.From.b3.toNat] ++ [UInt8.ofNat p.To.b0.toNat, UInt8.ofNat p.To.b1.toNat, UInt8.ofNat p.To.b2.toNat, UInt8.ofNat p.To.b3.toNat] ++ p.Options)) p.Data) <|
        some ((q2 ++ q3 ++ q4 ++ q5 ++ q6 ++ q7 ++ q8 ++ q10 ++ ([UInt8.ofNat p.From.b0.toNat, UInt8.ofNat p.From.b1.toNat, UInt8.ofNat p.From.b2.toNat, UInt8.ofNat p.From.b3.toNat] ++ [UInt8.ofNat p.To.b0.toNat, UInt8.ofNat p.To.b1.toNat, UInt8.ofNat p.To.b2.toNat, UInt8.ofNat p.To.b3.toNat] ++ p.Options) ++ p.Data, none, ()))
    else
      bif p.More then
        Option.bind (
          F85 (IntKind.i64.wrap (64 + IntKind.i64.wrap ((IntKind.i64.wrap (20 + (↑p.Options.length : Int))).tdiv 4))) (1)) fun q2 =>
        Option.bind (
          F85 (p.Tos) (1)) fun q3 =>
        gd (catOk q2 q3) <|
        Option.bind (
          F85 (IntKind.i64.wrap (IntKind.i64.wrap (20 + (↑p.Options.length : Int)) + (↑p.Data.length : Int))) (2)) fun q4 =>
        gd (catOk (q2 ++ q3) q4) <|
        Option.bind (
          F85 (p.Id) (2)) fun q5 =>
        gd (catOk (q2 ++ q3 ++ q4) q5) <|
        Option.bind (
          F85 (ior IntKind.i64 (IntKind.i64.wrap (p.At.tdiv 8)) 8192) (2)) fun q6 =>
        gd (catOk (q2 ++ q3 ++ q4 ++ q5) q6) <|
        Option.bind (
          F85 (p.Ttl) (1)) fun q7 =>
        gd (catOk (q2 ++ q3 ++ q4 ++ q5 ++ q6) q7) <|
        Option.bind (
          F85 (p.Proto) (1)) fun q8 =>
        gd (catOk (q2 ++ q3 ++ q4 ++ q5 ++ q6 ++ q7) q8) <|
        gd (catOk ([UInt8.ofNat p.From.b0.toNat, UInt8.ofNat p.From.b1.toNat, UInt8.ofNat p.From.b2.toNat, UInt8.ofNat p.From.b3.toNat] ++ [UInt8.ofNat p.To.b0.toNat, UInt8.ofNat p.To.b1.toNat, UInt8.ofNat p.To.b2.toNat, UInt8.ofNat p.To.b3.toNat]) p.Options) <|
        Option.bind (
          Option.bind (
            F93 (0) (0) (q2 ++ q3 ++ q4 ++ q5 ++ q6 ++ q7 ++ q8) (0)) fun q9 =>
          Option.bind (
            F92 (q9)) fun q10 =>
          Option.bind (
            F93 (q10) (IntKind.i64.wrap (0 + (↑(q2 ++ q3 ++ q4 ++ q5 ++ q6 ++ q7 ++ q8).length : Int))) ([UInt8.ofNat p.From.b0.toNat, UInt8.ofNat p.From.b1.toNat, UInt8.ofNat p.From.b2.toNat, UInt8.ofNat p.From.b3.toNat] ++ [UInt8.ofNat p.To.b0.toNat, UInt8.ofNat p.To.b1.toNat, UInt8.ofNat p.To.b2.toNat, UInt8.ofNat p.To.b3.toNat] ++ p.Options) (0)) fun q11 =>
          Option.bind (
            F92 (q11)) fun q12 =>
          some (IntKind.i64.wrap (65535 - q12))) fun q9 =>
        Option.bind (
          F85 (q9) (2)) fun q10 =>
        gd (catOk (q2 ++ q3 ++ q4 ++ q5 ++ q6 ++ q7 ++ q8) q10) <|
        gd (catOk (q2 ++ q3 ++ q4 ++ q5 ++ q6 ++ q7 ++ q8 ++ q10) ([UInt8.ofNat p.From.b0.toNat, UInt8.ofNat p.From.b1.toNat, UInt8.ofNat p.From.b2.toNat, UInt8.ofNat p.From.b3.toNat] ++ [UInt8.ofNat p.To.b0.toNat, UInt8.ofNat p.To.b1.toNat, UInt8.ofNat p.To.b2.toNat, UInt8.ofNat p.To.b3.toNat] ++ p.Options)) <|
        gd (catOk (q2 ++ q3 ++ q4 ++ q5 ++ q6 ++ q7 ++ q8 ++ q10 ++ ([UInt8.ofNat p.From.b0.toNat, UInt8.ofNat p.From.b1.toNat, UInt8.ofNat p.From.b2.toNat, UInt8.ofNat p.From.b3.toNat] ++ [UInt8.ofNat p.To.b0.toNat, UInt8.ofNat p.To.b1.toNat, UInt8.ofNat p.To.b2.toNat, UInt8.ofNat p.To.b3.toNat] ++ p.Options)) p.Data) <|
        some ((q2 ++ q3 ++ q4 ++ q5 ++ q6 ++ q7 ++ q8 ++ q10 ++ ([UInt8.ofNat p.From.b0.toNat, UInt8.ofNat p.From.b1.toNat, UInt8.ofNat p.From.b2.toNat, UInt8.ofNat p.From.b3.toNat] ++ [UInt8.ofNat p.To.b0.toNat, UInt8.ofNat p.To.b1.toNat, UInt8.ofNat p.To.b2.toNat, UInt8.ofNat p.To.b3.toNat] ++ p.Options) ++ p.Data, none, ()))
      else
        Option.bind (
          F85 (IntKind.i64.wrap (64 + IntKind.i64.wrap ((IntKind.i64.wrap (20 + (↑p.Options.length : Int))).tdiv 4))) (1)) fun q2 =>
        Option.bind (
          F85 (p.Tos) (1)) fun q3 =>
        gd (catOk q2 q3) <|
        Option.bind (
          F85 (IntKind.i64.wrap (IntKind.i64.wrap (20 + (↑p.Options.length : Int)) + (↑p.Data.length : Int))) (2)) fun q4 =>
        gd (catOk (q2 ++ q3) q4) <|
        Option.bind (
          F85 (p.Id) (2)) fun q5 =>
        gd (catOk (q2 ++ q3 ++ q4) q5) <|
        Option.bind (
          F85 (IntKind.i64.wrap (p.At.tdiv 8)) (2)) fun q6 =>
        gd (catOk (q2 ++ q3 ++ q4 ++ q5) q6) <|
        Option.bind (
          F85 (p.Ttl) (1)) fun q7 =>
        gd (catOk (q2 ++ q3 ++ q4 ++ q5 ++ q6) q7) <|
        Option.bind (
          F85 (p.Proto) (1)) fun q8 =>
        gd (catOk (q2 ++ q3 ++ q4 ++ q5 ++ q6 ++ q7) q8) <|
        gd (catOk ([UInt8.ofNat p.From.b0.toNat, UInt8.ofNat p.From.b1.toNat, UInt8.ofNat p.From.b2.toNat, UInt8.ofNat p.From.b3.toNat] ++ [UInt8.ofNat p.To.b0.toNat, UInt8.ofNat p.To.b1.toNat, UInt8.ofNat p.To.b2.toNat, UInt8.ofNat p.To.b3.toNat]) p.Options) <|
        Option.bind (
          Option.bind (
            F93 (0) (0) (q2 ++ q3 ++ q4 ++ q5 ++ q6 ++ q7 ++ q8) (0)) fun q9 =>
          Option.bind (
            F92 (q9)) fun q10 =>
          Option.bind (
            F93 (q10) (IntKind.i64.wrap (0 + (↑(q2 ++ q3 ++ q4 ++ q5 ++ q6 ++ q7 ++ q8).length : Int))) ([UInt8.ofNat p.From.b0.toNat, UInt8.ofNat p.From.b1.toNat, UInt8.ofNat p.From.b2.toNat, UInt8.ofNat p.From.b3.toNat] ++ [UInt8.ofNat p.To.b0.toNat, UInt8.ofNat p.To.b1.toNat, UInt8.ofNat p.To.b2.toNat, UInt8.ofNat p.To.b3.toNat] ++ p.Options) (0)) fun q11 =>
          Option.bind (
            F92 (q11)) fun q12 =>
          some (IntKind.i64.wrap (65535 - q12))) fun q9 =>
        Option.bind (
          F85 (q9) (2)) fun q10 =>
        gd (catOk (q2 ++ q3 ++ q4 ++ q5 ++ q6 ++ q7 ++ q8) q10) <|
        gd (catOk (q2 ++ q3 ++ q4 ++ q5 ++ q6 ++ q7 ++ q8 ++ q10) ([UInt8.ofNat p.From.b0.toNat, UInt8.ofNat p.From.b1.toNat, UInt8.ofNat p.From.b2.toNat, UInt8.ofNat p.From.b3.toNat] ++ [UInt8.ofNat p.To.b0.toNat, UInt8.ofNat p.To.b1.toNat, UInt8.ofNat p.To.b2.toNat, UInt8.ofNat p.To.b3.toNat] ++ p.Options)) <|
        gd (catOk (q2 ++ q3 ++ q4 ++ q5 ++ q6 ++ q7 ++ q8 ++ q10 ++ ([UInt8.ofNat p.From.b0.toNat, UInt8.ofNat p.From.b1.toNat, UInt8.ofNat p.From.b2.toNat, UInt8.ofNat p.From.b3.toNat] ++ [UInt8.ofNat p.To.b0.toNat, UInt8.ofNat p.To.b1.toNat, UInt8.ofNat p.To.b2.toNat, UInt8.ofNat p.To.b3.toNat] ++ p.Options)) p.Data) <|
        some ((q2 ++ q3 ++ q4 ++ q5 ++ q6 ++ q7 ++ q8 ++ q10 ++ ([UInt8.ofNat p.From.b0.toNat, UInt8.ofNat p.From.b1.toNat, UInt8.ofNat p.From.b2.toNat, UInt8.ofNat p.From.b3.toNat] ++ [UInt8.ofNat p.To.b0.toNat, UInt8.ofNat p.To.b1.toNat, UInt8.ofNat p.To.b2.toNat, UInt8.ofNat p.To.b3.toNat] ++ p.Options) ++ p.Data, none, ()))
theorem F40_ev : ∀ a, evTop Try.prog ⟨[d57, d61, d63, d85], inl_keeps8, keepIn keeps8, []⟩ 6 40 (CodL.val (CodL.cons (Cod.agg lIp4) CodL.nil) a) (fun v => Cod.dec (Cod.tup (CodL.cons Cod.str (CodL.cons (Cod.err faultT) CodL.nil))) v some) = (fun a => F40 a.1) a := by
  intro a; kernel_rfl
noncomputable def d40 : Ctr Try.prog := Ctr.ofF 40 (CodL.cons (Cod.agg lIp4) CodL.nil) (Cod.tup (CodL.cons Cod.str (CodL.cons (Cod.err faultT) CodL.nil))) (fun a => F40 a.1) (pcalls_of_ev mix noLoops F40_ev)
/-- interpreter/fault.Own4 -/
def F12 (m : Msg) (packet : List UInt8) (x2_from : V4) (x3_id : Int) (mtu : Int) : Option ((List UInt8) × Bool × Unit) :=
  Option.bind (
    F24 (packet)) fun q5 =>
  errK (q5.snd.fst) (
    Option.bind (
      Option.bind (
        F32 ({ Kind := m.Kind, Code := m.Code, Rest := m.Rest, Data := m.Data })) fun q6 =>
      bif !q6 then
        some (true)
      else
        bif ltI 0 q5.fst.At then
          some (true)
        else
          Option.bind (
            F37 ({ b0 := q5.fst.From.b0, b1 := q5.fst.From.b1, b2 := q5.fst.From.b2, b3 := q5.fst.From.b3 })) fun q7 =>
          bif q7 then
            some (true)
          else
            bif ltI mtu 68 then
              some (true)
            else
              some (ltI 65535 mtu)) fun q6 =>
    bif q6 then
      some (([], false, ()))
    else
      Option.bind (
        bif q5.fst.Proto == 1 then
          bif q5.fst.Data == [] then
            some (true)
          else
            gd (inB 0 q5.fst.Data.length) <|
            Option.bind (
              F32 ({ Kind := IntKind.i64.wrap (bt q5.fst.Data 0), Code := 0, Rest := 0, Data := [] })) fun q7 =>
            some (q7)
        else
          some (false)) fun q7 =>
      bif q7 then
        some (([], false, ()))
      else
        gd (ordB 0 (IntKind.i64.wrap (IntKind.i64.wrap (20 + (↑q5.fst.Options.length : Int)) + (↑q5.fst.Data.length : Int))) packet.length) <|
        Option.bind (
          F38 (sub packet none (some (V.int IntKind.i64 (IntKind.i64.wrap (IntKind.i64.wrap (20 + (↑q5.fst.Options.length : Int)) + (↑q5.fst.Data.length : Int))))) 0 (IntKind.i64.wrap (IntKind.i64.wrap (20 + (↑q5.fst.Options.length : Int)) + (↑q5.fst.Data.length : Int))).toNat) (IntKind.i64.wrap (20 + (↑q5.fst.Options.length : Int))) (IntKind.i64.wrap (IntKind.i64.wrap (imin 576 mtu - 20) - 8))) fun q8 =>
        Option.bind (
          F39 ({ Kind := m.Kind, Code := m.Code, Rest := m.Rest, Data := q8.fst })) fun q9 =>
        errK (q9.snd.fst) (
          Option.bind (
            bif !q8.snd.fst then
              some (true)
            else
              some (false)) fun q10 =>
          bif q10 then
            some (([], false, ()))
          else
            Option.bind (
              F40 ({ Tos := 0, Id := iand IntKind.i64 x3_id 65535, Ttl := 64, Proto := 1, At := 0, DF := false, More := false, From := { b0 := x2_from.b0, b1 := x2_from.b1, b2 := x2_from.b2, b3 := x2_from.b3 }, To := { b0 := q5.fst.From.b0, b1 := q5.fst.From.b1, b2 := q5.fst.From.b2, b3 := q5.fst.From.b3 }, Options := [], Data := q9.fst })) fun q11 =>
            errK (q11.snd.fst) (
              some ((q11.fst, true, ()))) fun c12 p12 =>
              some ((q11.fst, false, ()))) fun c10 p10 =>
          Option.bind (
            bif !q8.snd.fst then
              some (true)
            else
              some (true)) fun q12 =>
          bif q12 then
            some (([], false, ()))
          else
            Option.bind (
              F40 ({ Tos := 0, Id := iand IntKind.i64 x3_id 65535, Ttl := 64, Proto := 1, At := 0, DF := false, More := false, From := { b0 := x2_from.b0, b1 := x2_from.b1, b2 := x2_from.b2, b3 := x2_from.b3 }, To := { b0 := q5.fst.From.b0, b1 := q5.fst.From.b1, b2 := q5.fst.From.b2, b3 := q5.fst.From.b3 }, Options := [], Data := q9.fst })) fun q13 =>
            errK (q13.snd.fst) (
              some ((q13.fst, true, ()))) fun c14 p14 =>
              some ((q13.fst, false, ()))) fun c6 p6 =>
    some (([], false, ()))
theorem F12_ev : ∀ a, evTop Try.prog ⟨[d24, d32, d37, d38, d39, d40], inl_keeps8, keepIn keeps8, []⟩ 6 12 (CodL.val (CodL.cons (Cod.agg lMsg) (CodL.cons Cod.str (CodL.cons (Cod.agg lV4) (CodL.cons (Cod.int .i64) (CodL.cons (Cod.int .i64) CodL.nil))))) a) (fun v => Cod.dec (Cod.tup (CodL.cons Cod.str (CodL.cons Cod.bool CodL.nil))) v some) = (fun a => F12 a.1 a.2.1 a.2.2.1 a.2.2.2.1 a.2.2.2.2.1) a := by
  intro a; kernel_rfl
noncomputable def d12 : Ctr Try.prog := Ctr.ofF 12 (CodL.cons (Cod.agg lMsg) (CodL.cons Cod.str (CodL.cons (Cod.agg lV4) (CodL.cons (Cod.int .i64) (CodL.cons (Cod.int .i64) CodL.nil))))) (Cod.tup (CodL.cons Cod.str (CodL.cons Cod.bool CodL.nil))) (fun a => F12 a.1 a.2.1 a.2.2.1 a.2.2.2.1 a.2.2.2.2.1) (pcalls_of_ev mix noLoops F12_ev)
/-- interpreter/icmp4.fault -/
def F64 (e : Int) : Option (Err) :=
  some (some (e, 0))
theorem F64_ev : ∀ a, evTop Try.prog ⟨[], inl_keeps8, keepIn keeps8, []⟩ 6 64 (CodL.val (CodL.cons (Cod.int .i64) CodL.nil) a) (fun v => Cod.dec (Cod.err faultT) v some) = (fun a => F64 a.1) a := by
  intro a; kernel_rfl
noncomputable def d64 : Ctr Try.prog := Ctr.ofF 64 (CodL.cons (Cod.int .i64) CodL.nil) (Cod.err faultT) (fun a => F64 a.1) (pcalls_of_ev mix noLoops F64_ev)
/-- interpreter/icmp4.Parse -/
def F25 (s : List UInt8) : Option (Msg × Err × Unit) :=
  bif ltI (↑s.length : Int) 8 then
    Option.bind (
      F64 (7)) fun q1 =>
    errK (q1) (
      some (({ Kind := 0, Code := 0, Rest := 0, Data := [] }, none, ()))) fun c2 p2 =>
      some (({ Kind := 0, Code := 0, Rest := 0, Data := [] }, some (c2, p2), ()))
  else
    Option.bind (
      Option.bind (
        Option.bind (
          F93 (0) (0) (s) (0)) fun q1 =>
        Option.bind (
          F92 (q1)) fun q2 =>
        some (IntKind.i64.wrap (65535 - q2))) fun q1 =>
      some (q1 == 0)) fun q1 =>
    bif !q1 then
      Option.bind (
        F64 (9)) fun q2 =>
      errK (q2) (
        some (({ Kind := 0, Code := 0, Rest := 0, Data := [] }, none, ()))) fun c3 p3 =>
        some (({ Kind := 0, Code := 0, Rest := 0, Data := [] }, some (c3, p3), ()))
    else
      gd (ordB 4 (↑s.length : Int) s.length) <|
      bif ltI (IntKind.i64.wrap ((↑(sub s (some (V.int IntKind.i64 4)) none 4 (↑s.length : Int).toNat).length : Int) - 0)) 4 then
        gd (inB 0 s.length) <|
        gd (inB 1 s.length) <|
        gd (ordB 8 (↑s.length : Int) s.length) <|
        some (({ Kind := IntKind.i64.wrap (bt s 0), Code := IntKind.i64.wrap (bt s 1), Rest := 0, Data := sub s (some (V.int IntKind.i64 8)) none 8 (↑s.length : Int).toNat }, some (7, 0), ()))
      else
        gd (ordB 0 4 (sub s (some (V.int IntKind.i64 4)) none 4 (↑s.length : Int).toNat).length) <|
        gd (inB 0 s.length) <|
        gd (inB 1 s.length) <|
        gd (ordB 8 (↑s.length : Int) s.length) <|
        some (({ Kind := IntKind.i64.wrap (bt s 0), Code := IntKind.i64.wrap (bt s 1), Rest := IntKind.u32.wrap (ior IntKind.i64 (IntKind.i64.wrap (ior IntKind.i64 (IntKind.i64.wrap (ior IntKind.i64 (IntKind.i64.wrap (ior IntKind.i64 0 (IntKind.i64.wrap (bt (sub (sub s (some (V.int IntKind.i64 4)) none 4 (↑s.length : Int).toNat) (some (V.int IntKind.i64 0)) (some (V.int IntKind.i64 4)) 0 4) 0)) * 256)) (IntKind.i64.wrap (bt (sub (sub s (some (V.int IntKind.i64 4)) none 4 (↑s.length : Int).toNat) (some (V.int IntKind.i64 0)) (some (V.int IntKind.i64 4)) 0 4) 1)) * 256)) (IntKind.i64.wrap (bt (sub (sub s (some (V.int IntKind.i64 4)) none 4 (↑s.length : Int).toNat) (some (V.int IntKind.i64 0)) (some (V.int IntKind.i64 4)) 0 4) 2)) * 256)) (IntKind.i64.wrap (bt (sub (sub s (some (V.int IntKind.i64 4)) none 4 (↑s.length : Int).toNat) (some (V.int IntKind.i64 0)) (some (V.int IntKind.i64 4)) 0 4) 3))), Data := sub s (some (V.int IntKind.i64 8)) none 8 (↑s.length : Int).toNat }, none, ()))
theorem F25_ev : ∀ a, evTop Try.prog ⟨[d42, d64], inl_keeps8, keepIn keeps8, []⟩ 6 25 (CodL.val (CodL.cons Cod.str CodL.nil) a) (fun v => Cod.dec (Cod.tup (CodL.cons (Cod.agg lMsg) (CodL.cons (Cod.err faultT) CodL.nil))) v some) = (fun a => F25 a.1) a := by
  intro a; kernel_rfl
noncomputable def d25 : Ctr Try.prog := Ctr.ofF 25 (CodL.cons Cod.str CodL.nil) (Cod.tup (CodL.cons (Cod.agg lMsg) (CodL.cons (Cod.err faultT) CodL.nil))) (fun a => F25 a.1) (pcalls_of_ev mix noLoops F25_ev)
/-- interpreter/ip6.pieced -/
def F70 (p : Ip6) : Option (Bool) :=
  bif !p.More then
    some (true)
  else
    bif !p.Data == [] then
      some ((↑p.Data.length : Int).tmod 8 == 0)
    else
      some (false)
theorem F70_ev : ∀ a, evTop Try.prog ⟨[], inl_keeps8, keepIn keeps8, []⟩ 6 70 (CodL.val (CodL.cons (Cod.agg lIp6) CodL.nil) a) (fun v => Cod.dec Cod.bool v some) = (fun a => F70 a.1) a := by
  intro a; kernel_rfl
noncomputable def d70 : Ctr Try.prog := Ctr.ofF 70 (CodL.cons (Cod.agg lIp6) CodL.nil) Cod.bool (fun a => F70 a.1) (pcalls_of_ev mix noLoops F70_ev)
/-- interpreter/ip6.Parse -/
def F27 (s : List UInt8) : Option (Ip6 × Err × Unit) :=
  bif ltI (↑s.length : Int) 40 then
    Option.bind (
      F69 (7)) fun q1 =>
    errK (q1) (
      some (({ Class := 0, Flow := 0, Hop := 0, From := { b0 := 0, b1 := 0, b2 := 0, b3 := 0, b4 := 0, b5 := 0, b6 := 0, b7 := 0, b8 := 0, b9 := 0, b10 := 0, b11 := 0, b12 := 0, b13 := 0, b14 := 0, b15 := 0 }, To := { b0 := 0, b1 := 0, b2 := 0, b3 := 0, b4 := 0, b5 := 0, b6 := 0, b7 := 0, b8 := 0, b9 := 0, b10 := 0, b11 := 0, b12 := 0, b13 := 0, b14 := 0, b15 := 0 }, Exts := (true, 2, []), Frag := false, Id := 0, At := 0, More := false, Proto := 0, Data := [] }, none, ()))) fun c2 p2 =>
      some (({ Class := 0, Flow := 0, Hop := 0, From := { b0 := 0, b1 := 0, b2 := 0, b3 := 0, b4 := 0, b5 := 0, b6 := 0, b7 := 0, b8 := 0, b9 := 0, b10 := 0, b11 := 0, b12 := 0, b13 := 0, b14 := 0, b15 := 0 }, To := { b0 := 0, b1 := 0, b2 := 0, b3 := 0, b4 := 0, b5 := 0, b6 := 0, b7 := 0, b8 := 0, b9 := 0, b10 := 0, b11 := 0, b12 := 0, b13 := 0, b14 := 0, b15 := 0 }, Exts := (true, 2, []), Frag := false, Id := 0, At := 0, More := false, Proto := 0, Data := [] }, some (c2, p2), ()))
  else
    gd (inB 0 s.length) <|
    bif !(bt s 0).fdiv 16 == 6 then
      Option.bind (
        F69 (8)) fun q1 =>
      errK (q1) (
        some (({ Class := 0, Flow := 0, Hop := 0, From := { b0 := 0, b1 := 0, b2 := 0, b3 := 0, b4 := 0, b5 := 0, b6 := 0, b7 := 0, b8 := 0, b9 := 0, b10 := 0, b11 := 0, b12 := 0, b13 := 0, b14 := 0, b15 := 0 }, To := { b0 := 0, b1 := 0, b2 := 0, b3 := 0, b4 := 0, b5 := 0, b6 := 0, b7 := 0, b8 := 0, b9 := 0, b10 := 0, b11 := 0, b12 := 0, b13 := 0, b14 := 0, b15 := 0 }, Exts := (true, 2, []), Frag := false, Id := 0, At := 0, More := false, Proto := 0, Data := [] }, none, ()))) fun c2 p2 =>
        some (({ Class := 0, Flow := 0, Hop := 0, From := { b0 := 0, b1 := 0, b2 := 0, b3 := 0, b4 := 0, b5 := 0, b6 := 0, b7 := 0, b8 := 0, b9 := 0, b10 := 0, b11 := 0, b12 := 0, b13 := 0, b14 := 0, b15 := 0 }, To := { b0 := 0, b1 := 0, b2 := 0, b3 := 0, b4 := 0, b5 := 0, b6 := 0, b7 := 0, b8 := 0, b9 := 0, b10 := 0, b11 := 0, b12 := 0, b13 := 0, b14 := 0, b15 := 0 }, Exts := (true, 2, []), Frag := false, Id := 0, At := 0, More := false, Proto := 0, Data := [] }, some (c2, p2), ()))
    else
      gd (inB 4 s.length) <|
      gd (inB 5 s.length) <|
      bif ltI (↑s.length : Int) (IntKind.i64.wrap (40 + ior IntKind.i64 (IntKind.i64.wrap (IntKind.i64.wrap (bt s 4) * 256)) (IntKind.i64.wrap (bt s 5)))) then
        Option.bind (
          F69 (7)) fun q1 =>
        errK (q1) (
          some (({ Class := 0, Flow := 0, Hop := 0, From := { b0 := 0, b1 := 0, b2 := 0, b3 := 0, b4 := 0, b5 := 0, b6 := 0, b7 := 0, b8 := 0, b9 := 0, b10 := 0, b11 := 0, b12 := 0, b13 := 0, b14 := 0, b15 := 0 }, To := { b0 := 0, b1 := 0, b2 := 0, b3 := 0, b4 := 0, b5 := 0, b6 := 0, b7 := 0, b8 := 0, b9 := 0, b10 := 0, b11 := 0, b12 := 0, b13 := 0, b14 := 0, b15 := 0 }, Exts := (true, 2, []), Frag := false, Id := 0, At := 0, More := false, Proto := 0, Data := [] }, none, ()))) fun c2 p2 =>
          some (({ Class := 0, Flow := 0, Hop := 0, From := { b0 := 0, b1 := 0, b2 := 0, b3 := 0, b4 := 0, b5 := 0, b6 := 0, b7 := 0, b8 := 0, b9 := 0, b10 := 0, b11 := 0, b12 := 0, b13 := 0, b14 := 0, b15 := 0 }, To := { b0 := 0, b1 := 0, b2 := 0, b3 := 0, b4 := 0, b5 := 0, b6 := 0, b7 := 0, b8 := 0, b9 := 0, b10 := 0, b11 := 0, b12 := 0, b13 := 0, b14 := 0, b15 := 0 }, Exts := (true, 2, []), Frag := false, Id := 0, At := 0, More := false, Proto := 0, Data := [] }, some (c2, p2), ()))
      else
        bif ltI (IntKind.i64.wrap ((↑s.length : Int) - 0)) 4 then
          gd (inB 7 s.length) <|
          gd (ordB 8 (↑s.length : Int) s.length) <|
          gd (Nat.ble 16 (sub s (some (V.int IntKind.i64 8)) none 8 (↑s.length : Int).toNat).length && true) <|
          gd (ordB 24 (↑s.length : Int) s.length) <|
          gd (Nat.ble 16 (sub s (some (V.int IntKind.i64 24)) none 24 (↑s.length : Int).toNat).length && true) <|
          gd (inB 6 s.length) <|
          gd (ordB 40 (IntKind.i64.wrap (40 + ior IntKind.i64 (IntKind.i64.wrap (IntKind.i64.wrap (bt s 4) * 256)) (IntKind.i64.wrap (bt s 5)))) s.length) <|
          Option.bind (
            F52 (IntKind.i64.wrap (bt s 6)) (sub s (some (V.int IntKind.i64 40)) (some (V.int IntKind.i64 (IntKind.i64.wrap (40 + ior IntKind.i64 (IntKind.i64.wrap (IntKind.i64.wrap (bt s 4) * 256)) (IntKind.i64.wrap (bt s 5)))))) 40 (IntKind.i64.wrap (40 + ior IntKind.i64 (IntKind.i64.wrap (IntKind.i64.wrap (bt s 4) * 256)) (IntKind.i64.wrap (bt s 5)))).toNat)) fun q1 =>
          errK (q1.snd.snd.snd.fst) (
            gd (q1.fst.snd.fst.beq 2 || q1.fst.fst) <|
            bif !q1.snd.fst == 44 then
              some (({ Class := 0, Flow := 0, Hop := IntKind.i64.wrap (bt s 7), From := { b0 := bt (sub s (some (V.int IntKind.i64 8)) none 8 (↑s.length : Int).toNat) 0, b1 := bt (sub s (some (V.int IntKind.i64 8)) none 8 (↑s.length : Int).toNat) 1, b2 := bt (sub s (some (V.int IntKind.i64 8)) none 8 (↑s.length : Int).toNat) 2, b3 := bt (sub s (some (V.int IntKind.i64 8)) none 8 (↑s.length : Int).toNat) 3, b4 := bt (sub s (some (V.int IntKind.i64 8)) none 8 (↑s.length : Int).toNat) 4, b5 := bt (sub s (some (V.int IntKind.i64 8)) none 8 (↑s.length : Int).toNat) 5, b6 := bt (sub s (some (V.int IntKind.i64 8)) none 8 (↑s.length : Int).toNat) 6, b7 := bt (sub s (some (V.int IntKind.i64 8)) none 8 (↑s.length : Int).toNat) 7, b8 := bt (sub s (some (V.int IntKind.i64 8)) none 8 (↑s.length : Int).toNat) 8, b9 := bt (sub s (some (V.int IntKind.i64 8)) none 8 (↑s.length : Int).toNat) 9, b10 := bt (sub s (some (V.int IntKind.i64 8)) none 8 (↑s.length : Int).toNat) 10, b11 := bt (sub s (some (V.int IntKind.i64 8)) none 8 (↑s.length : Int).toNat) 11, b12 := bt (sub s (some (V.int IntKind.i64 8)) none 8 (↑s.length : Int).toNat) 12, b13 := bt (sub s (some (V.int IntKind.i64 8)) none 8 (↑s.length : Int).toNat) 13, b14 := bt (sub s (some (V.int IntKind.i64 8)) none 8 (↑s.length : Int).toNat) 14, b15 := bt (sub s (some (V.int IntKind.i64 8)) none 8 (↑s.length : Int).toNat) 15 }, To := { b0 := bt (sub s (some (V.int IntKind.i64 24)) none 24 (↑s.length : Int).toNat) 0, b1 := bt (sub s (some (V.int IntKind.i64 24)) none 24 (↑s.length : Int).toNat) 1, b2 := bt (sub s (some (V.int IntKind.i64 24)) none 24 (↑s.length : Int).toNat) 2, b3 := bt (sub s (some (V.int IntKind.i64 24)) none 24 (↑s.length : Int).toNat) 3, b4 := bt (sub s (some (V.int IntKind.i64 24)) none 24 (↑s.length : Int).toNat) 4, b5 := bt (sub s (some (V.int IntKind.i64 24)) none 24 (↑s.length : Int).toNat) 5, b6 := bt (sub s (some (V.int IntKind.i64 24)) none 24 (↑s.length : Int).toNat) 6, b7 := bt (sub s (some (V.int IntKind.i64 24)) none 24 (↑s.length : Int).toNat) 7, b8 := bt (sub s (some (V.int IntKind.i64 24)) none 24 (↑s.length : Int).toNat) 8, b9 := bt (sub s (some (V.int IntKind.i64 24)) none 24 (↑s.length : Int).toNat) 9, b10 := bt (sub s (some (V.int IntKind.i64 24)) none 24 (↑s.length : Int).toNat) 10, b11 := bt (sub s (some (V.int IntKind.i64 24)) none 24 (↑s.length : Int).toNat) 11, b12 := bt (sub s (some (V.int IntKind.i64 24)) none 24 (↑s.length : Int).toNat) 12, b13 := bt (sub s (some (V.int IntKind.i64 24)) none 24 (↑s.length : Int).toNat) 13, b14 := bt (sub s (some (V.int IntKind.i64 24)) none 24 (↑s.length : Int).toNat) 14, b15 := bt (sub s (some (V.int IntKind.i64 24)) none 24 (↑s.length : Int).toNat) 15 }, Exts := (q1.fst.fst, 2, q1.fst.snd.snd), Frag := false, Id := 0, At := 0, More := false, Proto := q1.snd.fst, Data := q1.snd.snd.fst }, none, ()))
            else
              bif ltI (↑q1.snd.snd.fst.length : Int) 8 then
                Option.bind (
                  F69 (7)) fun q2 =>
                errK (q2) (
                  some (({ Class := 0, Flow := 0, Hop := 0, From := { b0 := 0, b1 := 0, b2 := 0, b3 := 0, b4 := 0, b5 := 0, b6 := 0, b7 := 0, b8 := 0, b9 := 0, b10 := 0, b11 := 0, b12 := 0, b13 := 0, b14 := 0, b15 := 0 }, To := { b0 := 0, b1 := 0, b2 := 0, b3 := 0, b4 := 0, b5 := 0, b6 := 0, b7 := 0, b8 := 0, b9 := 0, b10 := 0, b11 := 0, b12 := 0, b13 := 0, b14 := 0, b15 := 0 }, Exts := (true, 2, []), Frag := false, Id := 0, At := 0, More := false, Proto := 0, Data := [] }, none, ()))) fun c3 p3 =>
                  some (({ Class := 0, Flow := 0, Hop := 0, From := { b0 := 0, b1 := 0, b2 := 0, b3 := 0, b4 := 0, b5 := 0, b6 := 0, b7 := 0, b8 := 0, b9 := 0, b10 := 0, b11 := 0, b12 := 0, b13 := 0, b14 := 0, b15 := 0 }, To := { b0 := 0, b1 := 0, b2 := 0, b3 := 0, b4 := 0, b5 := 0, b6 := 0, b7 := 0, b8 := 0, b9 := 0, b10 := 0, b11 := 0, b12 := 0, b13 := 0, b14 := 0, b15 := 0 }, Exts := (true, 2, []), Frag := false, Id := 0, At := 0, More := false, Proto := 0, Data := [] }, some (c3, p3), ()))
              else
                gd (inB 2 q1.snd.snd.fst.length) <|
                gd (inB 3 q1.snd.snd.fst.length) <|
                gd (ordB 4 (↑q1.snd.snd.fst.length : Int) q1.snd.snd.fst.length) <|
                bif ltI (IntKind.i64.wrap ((↑(sub q1.snd.snd.fst (some (V.int IntKind.i64 4)) none 4 (↑q1.snd.snd.fst.length : Int).toNat).length : Int) - 0)) 4 then
                  gd (inB 0 q1.snd.snd.fst.length) <|
                  gd (ordB 8 (↑q1.snd.snd.fst.length : Int) q1.snd.snd.fst.length) <|
                  Option.bind (
                    Option.bind (
                      F70 ({ Class := 0, Flow := 0, Hop := IntKind.i64.wrap (bt s 7), From := { b0 := bt (sub s (some (V.int IntKind.i64 8)) none 8 (↑s.length : Int).toNat) 0, b1 := bt (sub s (some (V.int IntKind.i64 8)) none 8 (↑s.length : Int).toNat) 1, b2 := bt (sub s (some (V.int IntKind.i64 8)) none 8 (↑s.length : Int).toNat) 2, b3 := bt (sub s (some (V.int IntKind.i64 8)) none 8 (↑s.length : Int).toNat) 3, b4 := bt (sub s (some (V.int IntKind.i64 8)) none 8 (↑s.length : Int).toNat) 4, b5 := bt (sub s (some (V.int IntKind.i64 8)) none 8 (↑s.length : Int).toNat) 5, b6 := bt (sub s (some (V.int IntKind.i64 8)) none 8 (↑s.length : Int).toNat) 6, b7 := bt (sub s (some (V.int IntKind.i64 8)) none 8 (↑s.length : Int).toNat) 7, b8 := bt (sub s (some (V.int IntKind.i64 8)) none 8 (↑s.length : Int).toNat) 8, b9 := bt (sub s (some (V.int IntKind.i64 8)) none 8 (↑s.length : Int).toNat) 9, b10 := bt (sub s (some (V.int IntKind.i64 8)) none 8 (↑s.length : Int).toNat) 10, b11 := bt (sub s (some (V.int IntKind.i64 8)) none 8 (↑s.length : Int).toNat) 11, b12 := bt (sub s (some (V.int IntKind.i64 8)) none 8 (↑s.length : Int).toNat) 12, b13 := bt (sub s (some (V.int IntKind.i64 8)) none 8 (↑s.length : Int).toNat) 13, b14 := bt (sub s (some (V.int IntKind.i64 8)) none 8 (↑s.length : Int).toNat) 14, b15 := bt (sub s (some (V.int IntKind.i64 8)) none 8 (↑s.length : Int).toNat) 15 }, To := { b0 := bt (sub s (some (V.int IntKind.i64 24)) none 24 (↑s.length : Int).toNat) 0, b1 := bt (sub s (some (V.int IntKind.i64 24)) none 24 (↑s.length : Int).toNat) 1, b2 := bt (sub s (some (V.int IntKind.i64 24)) none 24 (↑s.length : Int).toNat) 2, b3 := bt (sub s (some (V.int IntKind.i64 24)) none 24 (↑s.length : Int).toNat) 3, b4 := bt (sub s (some (V.int IntKind.i64 24)) none 24 (↑s.length : Int).toNat) 4, b5 := bt (sub s (some (V.int IntKind.i64 24)) none 24 (↑s.length : Int).toNat) 5, b6 := bt (sub s (some (V.int IntKind.i64 24)) none 24 (↑s.length : Int).toNat) 6, b7 := bt (sub s (some (V.int IntKind.i64 24)) none 24 (↑s.length : Int).toNat) 7, b8 := bt (sub s (some (V.int IntKind.i64 24)) none 24 (↑s.length : Int).toNat) 8, b9 := bt (sub s (some (V.int IntKind.i64 24)) none 24 (↑s.length : Int).toNat) 9, b10 := bt (sub s (some (V.int IntKind.i64 24)) none 24 (↑s.length : Int).toNat) 10, b11 := bt (sub s (some (V.int IntKind.i64 24)) none 24 (↑s.length : Int).toNat) 11, b12 := bt (sub s (some (V.int IntKind.i64 24)) none 24 (↑s.length : Int).toNat) 12, b13 := bt (sub s (some (V.int IntKind.i64 24)) none 24 (↑s.length : Int).toNat) 13, b14 := bt (sub s (some (V.int IntKind.i64 24)) none 24 (↑s.length : Int).toNat) 14, b15 := bt (sub s (some (V.int IntKind.i64 24)) none 24 (↑s.length : Int).toNat) 15 }, Exts := (q1.fst.fst, 2, q1.fst.snd.snd), Frag := true, Id := 0, At := iandNot IntKind.i64 (ior IntKind.i64 (IntKind.i64.wrap (IntKind.i64.wrap (bt q1.snd.snd.fst 2) * 256)) (IntKind.i64.wrap (bt q1.snd.snd.fst 3))) 7, More := !iand IntKind.i64 (ior IntKind.i64 (IntKind.i64.wrap (IntKind.i64.wrap (bt q1.snd.snd.fst 2) * 256)) (IntKind.i64.wrap (bt q1.snd.snd.fst 3))) 1 == 0, Proto := IntKind.i64.wrap (bt q1.snd.snd.fst 0), Data := sub q1.snd.snd.fst (some (V.int IntKind.i64 8)) none 8 (↑q1.snd.snd.fst.length : Int).toNat })) fun q2 =>
                    bif !q2 then
                      some (true)
                    else
                      some (ltI (IntKind.i64.wrap (65535 - iandNot IntKind.i64 (ior IntKind.i64 (IntKind.i64.wrap (IntKind.i64.wrap (bt q1.snd.snd.fst 2) * 256)) (IntKind.i64.wrap (bt q1.snd.snd.fst 3))) 7)) (↑(sub q1.snd.snd.fst (some (V.int IntKind.i64 8)) none 8 (↑q1.snd.snd.fst.length : Int).toNat).length : Int))) fun q2 =>
                  bif q2 then
                    Option.bind (
                      F69 (8)) fun q3 =>
                    errK (q3) (
                      some (({ Class := 0, Flow := 0, Hop := 0, From := { b0 := 0, b1 := 0, b2 := 0, b3 := 0, b4 := 0, b5 := 0, b6 := 0, b7 := 0, b8 := 0, b9 := 0, b10 := 0, b11 := 0, b12 := 0, b13 := 0, b14 := 0, b15 := 0 }, To := { b0 := 0, b1 := 0, b2 := 0, b3 := 0, b4 := 0, b5 := 0, b6 := 0, b7 := 0, b8 := 0, b9 := 0, b10 := 0, b11 := 0, b12 := 0, b13 := 0, b14 := 0, b15 := 0 }, Exts := (true, 2, []), Frag := false, Id := 0, At := 0, More := false, Proto := 0, Data := [] }, none, ()))) fun c4 p4 =>
                      some (({ Class := 0, Flow := 0, Hop := 0, From := { b0 := 0, b1 := 0, b2 := 0, b3 := 0, b4 := 0, b5 := 0, b6 := 0, b7 := 0, b8 := 0, b9 := 0, b10 := 0, b11 := 0, b12 := 0, b13 := 0, b14 := 0, b15 := 0 }, To := { b0 := 0, b1 := 0, b2 := 0, b3 := 0, b4 := 0, b5 := 0, b6 := 0, b7 := 0, b8 := 0, b9 := 0, b10 := 0, b11 := 0, b12 := 0, b13 := 0, b14 := 0, b15 := 0 }, Exts := (true, 2, []), Frag := false, Id := 0, At := 0, More := false, Proto := 0, Data := [] }, some (c4, p4), ()))
                  else
                    some (({ Class := 0, Flow := 0, Hop := IntKind.i64.wrap (bt s 7), From := { b0 := bt (sub s (some (V.int IntKind.i64 8)) none 8 (↑s.length : Int).toNat) 0, b1 := bt (sub s (some (V.int IntKind.i64 8)) none 8 (↑s.length : Int).toNat) 1, b2 := bt (sub s (some (V.int IntKind.i64 8)) none 8 (↑s.length : Int).toNat) 2, b3 := bt (sub s (some (V.int IntKind.i64 8)) none 8 (↑s.length : Int).toNat) 3, b4 := bt (sub s (some (V.int IntKind.i64 8)) none 8 (↑s.length : Int).toNat) 4, b5 := bt (sub s (some (V.int IntKind.i64 8)) none 8 (↑s.length : Int).toNat) 5, b6 := bt (sub s (some (V.int IntKind.i64 8)) none 8 (↑s.length : Int).toNat) 6, b7 := bt (sub s (some (V.int IntKind.i64 8)) none 8 (↑s.length : Int).toNat) 7, b8 := bt (sub s (some (V.int IntKind.i64 8)) none 8 (↑s.length : Int).toNat) 8, b9 := bt (sub s (some (V.int IntKind.i64 8)) none 8 (↑s.length : Int).toNat) 9, b10 := bt (sub s (some (V.int IntKind.i64 8)) none 8 (↑s.length : Int).toNat) 10, b11 := bt (sub s (some (V.int IntKind.i64 8)) none 8 (↑s.length : Int).toNat) 11, b12 := bt (sub s (some (V.int IntKind.i64 8)) none 8 (↑s.length : Int).toNat) 12, b13 := bt (sub s (some (V.int IntKind.i64 8)) none 8 (↑s.length : Int).toNat) 13, b14 := bt (sub s (some (V.int IntKind.i64 8)) none 8 (↑s.length : Int).toNat) 14, b15 := bt (sub s (some (V.int IntKind.i64 8)) none 8 (↑s.length : Int).toNat) 15 }, To := { b0 := bt (sub s (some (V.int IntKind.i64 24)) none 24 (↑s.length : Int).toNat) 0, b1 := bt (sub s (some (V.int IntKind.i64 24)) none 24 (↑s.length : Int).toNat) 1, b2 := bt (sub s (some (V.int IntKind.i64 24)) none 24 (↑s.length : Int).toNat) 2, b3 := bt (sub s (some (V.int IntKind.i64 24)) none 24 (↑s.length : Int).toNat) 3, b4 := bt (sub s (some (V.int IntKind.i64 24)) none 24 (↑s.length : Int).toNat) 4, b5 := bt (sub s (some (V.int IntKind.i64 24)) none 24 (↑s.length : Int).toNat) 5, b6 := bt (sub s (some (V.int IntKind.i64 24)) none 24 (↑s.length : Int).toNat) 6, b7 := bt (sub s (some (V.int IntKind.i64 24)) none 24 (↑s.length : Int).toNat) 7, b8 := bt (sub s (some (V.int IntKind.i64 24)) none 24 (↑s.length : Int).toNat) 8, b9 := bt (sub s (some (V.int IntKind.i64 24)) none 24 (↑s.length : Int).toNat) 9, b10 := bt (sub s (some (V.int IntKind.i64 24)) none 24 (↑s.length : Int).toNat) 10, b11 := bt (sub s (some (V.int IntKind.i64 24)) none 24 (↑s.length : Int).toNat) 11, b12 := bt (sub s (some (V.int IntKind.i64 24)) none 24 (↑s.length : Int).toNat) 12, b13 := bt (sub s (some (V.int IntKind.i64 24)) none 24 (↑s.length : Int).toNat) 13, b14 := bt (sub s (some (V.int IntKind.i64 24)) none 24 (↑s.length : Int).toNat) 14, b15 := bt (sub s (some (V.int IntKind.i64 24)) none 24 (↑s.length : Int).toNat) 15 }, Exts := (q1.fst.fst, 2, q1.fst.snd.snd), Frag := true, Id := 0, At := iandNot IntKind.i64 (ior IntKind.i64 (IntKind.i64.wrap (IntKind.i64.wrap (bt q1.snd.snd.fst 2) * 256)) (IntKind.i64.wrap (bt q1.snd.snd.fst 3))) 7, More := !iand IntKind.i64 (ior IntKind.i64 (IntKind.i64.wrap (IntKind.i64.wrap (bt q1.snd.snd.fst 2) * 256)) (IntKind.i64.wrap (bt q1.snd.snd.fst 3))) 1 == 0, Proto := IntKind.i64.wrap (bt q1.snd.snd.fst 0), Data := sub q1.snd.snd.fst (some (V.int IntKind.i64 8)) none 8 (↑q1.snd.snd.fst.length : Int).toNat }, none, ()))
                else
                  gd (ordB 0 4 (sub q1.snd.snd.fst (some (V.int IntKind.i64 4)) none 4 (↑q1.snd.snd.fst.length : Int).toNat).length) <|
                  gd (inB 0 q1.snd.snd.fst.length) <|
                  gd (ordB 8 (↑q1.snd.snd.fst.length : Int) q1.snd.snd.fst.length) <|
                  Option.bind (
                    Option.bind (
                      F70 ({ Class := 0, Flow := 0, Hop := IntKind.i64.wrap (bt s 7), From := { b0 := bt (sub s (some (V.int IntKind.i64 8)) none 8 (↑s.length : Int).toNat) 0, b1 := bt (sub s (some (V.int IntKind.i64 8)) none 8 (↑s.length : Int).toNat) 1, b2 := bt (sub s (some (V.int IntKind.i64 8)) none 8 (↑s.length : Int).toNat) 2, b3 := bt (sub s (some (V.int IntKind.i64 8)) none 8 (↑s.length : Int).toNat) 3, b4 := bt (sub s (some (V.int IntKind.i64 8)) none 8 (↑s.length : Int).toNat) 4, b5 := bt (sub s (some (V.int IntKind.i64 8)) none 8 (↑s.length : Int).toNat) 5, b6 := bt (sub s (some (V.int IntKind.i64 8)) none 8 (↑s.length : Int).toNat) 6, b7 := bt (sub s (some (V.int IntKind.i64 8)) none 8 (↑s.length : Int).toNat) 7, b8 := bt (sub s (some (V.int IntKind.i64 8)) none 8 (↑s.length : Int).toNat) 8, b9 := bt (sub s (some (V.int IntKind.i64 8)) none 8 (↑s.length : Int).toNat) 9, b10 := bt (sub s (some (V.int IntKind.i64 8)) none 8 (↑s.length : Int).toNat) 10, b11 := bt (sub s (some (V.int IntKind.i64 8)) none 8 (↑s.length : Int).toNat) 11, b12 := bt (sub s (some (V.int IntKind.i64 8)) none 8 (↑s.length : Int).toNat) 12, b13 := bt (sub s (some (V.int IntKind.i64 8)) none 8 (↑s.length : Int).toNat) 13, b14 := bt (sub s (some (V.int IntKind.i64 8)) none 8 (↑s.length : Int).toNat) 14, b15 := bt (sub s (some (V.int IntKind.i64 8)) none 8 (↑s.length : Int).toNat) 15 }, To := { b0 := bt (sub s (some (V.int IntKind.i64 24)) none 24 (↑s.length : Int).toNat) 0, b1 := bt (sub s (some (V.int IntKind.i64 24)) none 24 (↑s.length : Int).toNat) 1, b2 := bt (sub s (some (V.int IntKind.i64 24)) none 24 (↑s.length : Int).toNat) 2, b3 := bt (sub s (some (V.int IntKind.i64 24)) none 24 (↑s.length : Int).toNat) 3, b4 := bt (sub s (some (V.int IntKind.i64 24)) none 24 (↑s.length : Int).toNat) 4, b5 := bt (sub s (some (V.int IntKind.i64 24)) none 24 (↑s.length : Int).toNat) 5, b6 := bt (sub s (some (V.int IntKind.i64 24)) none 24 (↑s.length : Int).toNat) 6, b7 := bt (sub s (some (V.int IntKind.i64 24)) none 24 (↑s.length : Int).toNat) 7, b8 := bt (sub s (some (V.int IntKind.i64 24)) none 24 (↑s.length : Int).toNat) 8, b9 := bt (sub s (some (V.int IntKind.i64 24)) none 24 (↑s.length : Int).toNat) 9, b10 := bt (sub s (some (V.int IntKind.i64 24)) none 24 (↑s.length : Int).toNat) 10, b11 := bt (sub s (some (V.int IntKind.i64 24)) none 24 (↑s.length : Int).toNat) 11, b12 := bt (sub s (some (V.int IntKind.i64 24)) none 24 (↑s.length : Int).toNat) 12, b13 := bt (sub s (some (V.int IntKind.i64 24)) none 24 (↑s.length : Int).toNat) 13, b14 := bt (sub s (some (V.int IntKind.i64 24)) none 24 (↑s.length : Int).toNat) 14, b15 := bt (sub s (some (V.int IntKind.i64 24)) none 24 (↑s.length : Int).toNat) 15 }, Exts := (q1.fst.fst, 2, q1.fst.snd.snd), Frag := true, Id := IntKind.u32.wrap (ior IntKind.i64 (IntKind.i64.wrap (ior IntKind.i64 (IntKind.i64.wrap (ior IntKind.i64 (IntKind.i64.wrap (ior IntKind.i64 0 (IntKind.i64.wrap (bt (sub (sub q1.snd.snd.fst (some (V.int IntKind.i64 4)) none 4 (↑q1.snd.snd.fst.length : Int).toNat) (some (V.int IntKind.i64 0)) (some (V.int IntKind.i64 4)) 0 4) 0)) * 256)) (IntKind.i64.wrap (bt (sub (sub q1.snd.snd.fst (some (V.int IntKind.i64 4)) none 4 (↑q1.snd.snd.fst.length : Int).toNat) (some (V.int IntKind.i64 0)) (some (V.int IntKind.i64 4)) 0 4) 1)) * 256)) (IntKind.i64.wrap (bt (sub (sub q1.snd.snd.fst (some (V.int IntKind.i64 4)) none 4 (↑q1.snd.snd.fst.length : Int).toNat) (some (V.int IntKind.i64 0)) (some (V.int IntKind.i64 4)) 0 4) 2)) * 256)) (IntKind.i64.wrap (bt (sub (sub q1.snd.snd.fst (some (V.int IntKind.i64 4)) none 4 (↑q1.snd.snd.fst.length : Int).toNat) (some (V.int IntKind.i64 0)) (some (V.int IntKind.i64 4)) 0 4) 3))), At := iandNot IntKind.i64 (ior IntKind.i64 (IntKind.i64.wrap (IntKind.i64.wrap (bt q1.snd.snd.fst 2) * 256)) (IntKind.i64.wrap (bt q1.snd.snd.fst 3))) 7, More := !iand IntKind.i64 (ior IntKind.i64 (IntKind.i64.wrap (IntKind.i64.wrap (bt q1.snd.snd.fst 2) * 256)) (IntKind.i64.wrap (bt q1.snd.snd.fst 3))) 1 == 0, Proto := IntKind.i64.wrap (bt q1.snd.snd.fst 0), Data := sub q1.snd.snd.fst (some (V.int IntKind.i64 8)) none 8 (↑q1.snd.snd.fst.length : Int).toNat })) fun q2 =>
                    bif !q2 then
                      some (true)
                    else
                      some (ltI (IntKind.i64.wrap (65535 - iandNot IntKind.i64 (ior IntKind.i64 (IntKind.i64.wrap (IntKind.i64.wrap (bt q1.snd.snd.fst 2) * 256)) (IntKind.i64.wrap (bt q1.snd.snd.fst 3))) 7)) (↑(sub q1.snd.snd.fst (some (V.int IntKind.i64 8)) none 8 (↑q1.snd.snd.fst.length : Int).toNat).length : Int))) fun q2 =>
                  bif q2 then
                    Option.bind (
                      F69 (8)) fun q3 =>
                    errK (q3) (
                      some (({ Class := 0, Flow := 0, Hop := 0, From := { b0 := 0, b1 := 0, b2 := 0, b3 := 0, b4 := 0, b5 := 0, b6 := 0, b7 := 0, b8 := 0, b9 := 0, b10 := 0, b11 := 0, b12 := 0, b13 := 0, b14 := 0, b15 := 0 }, To := { b0 := 0, b1 := 0, b2 := 0, b3 := 0, b4 := 0, b5 := 0, b6 := 0, b7 := 0, b8 := 0, b9 := 0, b10 := 0, b11 := 0, b12 := 0, b13 := 0, b14 := 0, b15 := 0 }, Exts := (true, 2, []), Frag := false, Id := 0, At := 0, More := false, Proto := 0, Data := [] }, none, ()))) fun c4 p4 =>
                      some (({ Class := 0, Flow := 0, Hop := 0, From := { b0 := 0, b1 := 0, b2 := 0, b3 := 0, b4 := 0, b5 := 0, b6 := 0, b7 := 0, b8 := 0, b9 := 0, b10 := 0, b11 := 0, b12 := 0, b13 := 0, b14 := 0, b15 := 0 }, To := { b0 := 0, b1 := 0, b2 := 0, b3 := 0, b4 := 0, b5 := 0, b6 := 0, b7 := 0, b8 := 0, b9 := 0, b10 := 0, b11 := 0, b12 := 0, b13 := 0, b14 := 0, b15 := 0 }, Exts := (true, 2, []), Frag := false, Id := 0, At := 0, More := false, Proto := 0, Data := [] }, some (c4, p4), ()))
                  else
                    some (({ Class := 0, Flow := 0, Hop := IntKind.i64.wrap (bt s 7), From := { b0 := bt (sub s (some (V.int IntKind.i64 8)) none 8 (↑s.length : Int).toNat) 0, b1 := bt (sub s (some (V.int IntKind.i64 8)) none 8 (↑s.length : Int).toNat) 1, b2 := bt (sub s (some (V.int IntKind.i64 8)) none 8 (↑s.length : Int).toNat) 2, b3 := bt (sub s (some (V.int IntKind.i64 8)) none 8 (↑s.length : Int).toNat) 3, b4 := bt (sub s (some (V.int IntKind.i64 8)) none 8 (↑s.length : Int).toNat) 4, b5 := bt (sub s (some (V.int IntKind.i64 8)) none 8 (↑s.length : Int).toNat) 5, b6 := bt (sub s (some (V.int IntKind.i64 8)) none 8 (↑s.length : Int).toNat) 6, b7 := bt (sub s (some (V.int IntKind.i64 8)) none 8 (↑s.length : Int).toNat) 7, b8 := bt (sub s (some (V.int IntKind.i64 8)) none 8 (↑s.length : Int).toNat) 8, b9 := bt (sub s (some (V.int IntKind.i64 8)) none 8 (↑s.length : Int).toNat) 9, b10 := bt (sub s (some (V.int IntKind.i64 8)) none 8 (↑s.length : Int).toNat) 10, b11 := bt (sub s (some (V.int IntKind.i64 8)) none 8 (↑s.length : Int).toNat) 11, b12 := bt (sub s (some (V.int IntKind.i64 8)) none 8 (↑s.length : Int).toNat) 12, b13 := bt (sub s (some (V.int IntKind.i64 8)) none 8 (↑s.length : Int).toNat) 13, b14 := bt (sub s (some (V.int IntKind.i64 8)) none 8 (↑s.length : Int).toNat) 14, b15 := bt (sub s (some (V.int IntKind.i64 8)) none 8 (↑s.length : Int).toNat) 15 }, To := { b0 := bt (sub s (some (V.int IntKind.i64 24)) none 24 (↑s.length : Int).toNat) 0, b1 := bt (sub s (some (V.int IntKind.i64 24)) none 24 (↑s.length : Int).toNat) 1, b2 := bt (sub s (some (V.int IntKind.i64 24)) none 24 (↑s.length : Int).toNat) 2, b3 := bt (sub s (some (V.int IntKind.i64 24)) none 24 (↑s.length : Int).toNat) 3, b4 := bt (sub s (some (V.int IntKind.i64 24)) none 24 (↑s.length : Int).toNat) 4, b5 := bt (sub s (some (V.int IntKind.i64 24)) none 24 (↑s.length : Int).toNat) 5, b6 := bt (sub s (some (V.int IntKind.i64 24)) none 24 (↑s.length : Int).toNat) 6, b7 := bt (sub s (some (V.int IntKind.i64 24)) none 24 (↑s.length : Int).toNat) 7, b8 := bt (sub s (some (V.int IntKind.i64 24)) none 24 (↑s.length : Int).toNat) 8, b9 := bt (sub s (some (V.int IntKind.i64 24)) none 24 (↑s.length : Int).toNat) 9, b10 := bt (sub s (some (V.int IntKind.i64 24)) none 24 (↑s.length : Int).toNat) 10, b11 := bt (sub s (some (V.int IntKind.i64 24)) none 24 (↑s.length : Int).toNat) 11, b12 := bt (sub s (some (V.int IntKind.i64 24)) none 24 (↑s.length : Int).toNat) 12, b13 := bt (sub s (some (V.int IntKind.i64 24)) none 24 (↑s.length : Int).toNat) 13, b14 := bt (sub s (some (V.int IntKind.i64 24)) none 24 (↑s.length : Int).toNat) 14, b15 := bt (sub s (some (V.int IntKind.i64 24)) none 24 (↑s.length : Int).toNat) 15 }, Exts := (q1.fst.fst, 2, q1.fst.snd.snd), Frag := true, Id := IntKind.u32.wrap (ior IntKind.i64 (IntKind.i64.wrap (ior IntKind.i64 (IntKind.i64.wrap (ior IntKind.i64 (IntKind.i64.wrap (ior IntKind.i64 0 (IntKind.i64.wrap (bt (sub (sub q1.snd.snd.fst (some (V.int IntKind.i64 4)) none 4 (↑q1.snd.snd.fst.length : Int).toNat) (some (V.int IntKind.i64 0)) (some (V.int IntKind.i64 4)) 0 4) 0)) * 256)) (IntKind.i64.wrap (bt (sub (sub q1.snd.snd.fst (some (V.int IntKind.i64 4)) none 4 (↑q1.snd.snd.fst.length : Int).toNat) (some (V.int IntKind.i64 0)) (some (V.int IntKind.i64 4)) 0 4) 1)) * 256)) (IntKind.i64.wrap (bt (sub (sub q1.snd.snd.fst (some (V.int IntKind.i64 4)) none 4 (↑q1.snd.snd.fst.length : Int).toNat) (some (V.int IntKind.i64 0)) (some (V.int IntKind.i64 4)) 0 4) 2)) * 256)) (IntKind.i64.wrap (bt (sub (sub q1.snd.snd.fst (some (V.int IntKind.i64 4)) none 4 (↑q1.snd.snd.fst.length : Int).toNat) (some (V.int IntKind.i64 0)) (some (V.int IntKind.i64 4)) 0 4) 3))), At := iandNot IntKind.i64 (ior IntKind.i64 (IntKind.i64.wrap (IntKind.i64.wrap (bt q1.snd.snd.fst 2) * 256)) (IntKind.i64.wrap (bt q1.snd.snd.fst 3))) 7, More := !iand IntKind.i64 (ior IntKind.i64 (IntKind.i64.wrap (IntKind.i64.wrap (bt q1.snd.snd.fst 2) * 256)) (IntKind.i64.wrap (bt q1.snd.snd.fst 3))) 1 == 0, Proto := IntKind.i64.wrap (bt q1.snd.snd.fst 0), Data := sub q1.snd.snd.fst (some (V.int IntKind.i64 8)) none 8 (↑q1.snd.snd.fst.length : Int).toNat }, none, ()))) fun c2 p2 =>
            gd (q1.fst.snd.fst.beq 2 || q1.fst.fst) <|
            some (({ Class := 0, Flow := 0, Hop := 0, From := { b0 := 0, b1 := 0, b2 := 0, b3 := 0, b4 := 0, b5 := 0, b6 := 0, b7 := 0, b8 := 0, b9 := 0, b10 := 0, b11 := 0, b12 := 0, b13 := 0, b14 := 0, b15 := 0 }, To := { b0 := 0, b1 := 0, b2 := 0, b3 := 0, b4 := 0, b5 := 0, b6 := 0, b7 := 0, b8 := 0, b9 := 0, b10 := 0, b11 := 0, b12 := 0, b13 := 0, b14 := 0, b15 := 0 }, Exts := (true, 2, []), Frag := false, Id := 0, At := 0, More := false, Proto := 0, Data := [] }, some (c2, p2), ()))
        else
          gd (ordB 0 4 s.length) <|
          gd (inB 7 s.length) <|
          gd (ordB 8 (↑s.length : Int) s.length) <|
          gd (Nat.ble 16 (sub s (some (V.int IntKind.i64 8)) none 8 (↑s.length : Int).toNat).length && true) <|
          gd (ordB 24 (↑s.length : Int) s.length) <|
          gd (Nat.ble 16 (sub s (some (V.int IntKind.i64 24)) none 24 (↑s.length : Int).toNat).length && true) <|
          gd (inB 6 s.length) <|
          gd (ordB 40 (IntKind.i64.wrap (40 + ior IntKind.i64 (IntKind.i64.wrap (IntKind.i64.wrap (bt s 4) * 256)) (IntKind.i64.wrap (bt s 5)))) s.length) <|
          Option.bind (
            F52 (IntKind.i64.wrap (bt s 6)) (sub s (some (V.int IntKind.i64 40)) (some (V.int IntKind.i64 (IntKind.i64.wrap (40 + ior IntKind.i64 (IntKind.i64.wrap (IntKind.i64.wrap (bt s 4) * 256)) (IntKind.i64.wrap (bt s 5)))))) 40 (IntKind.i64.wrap (40 + ior IntKind.i64 (IntKind.i64.wrap (IntKind.i64.wrap (bt s 4) * 256)) (IntKind.i64.wrap (bt s 5)))).toNat)) fun q1 =>
          errK (q1.snd.snd.snd.fst) (
            gd (q1.fst.snd.fst.beq 2 || q1.fst.fst) <|
            bif !q1.snd.fst == 44 then
              some (({ Class := iand IntKind.i64 ((ior IntKind.i64 (IntKind.i64.wrap (ior IntKind.i64 (IntKind.i64.wrap (ior IntKind.i64 (IntKind.i64.wrap (ior IntKind.i64 0 (IntKind.i64.wrap (bt (sub s (some (V.int IntKind.i64 0)) (some (V.int IntKind.i64 4)) 0 4) 0)) * 256)) (IntKind.i64.wrap (bt (sub s (some (V.int IntKind.i64 0)) (some (V.int IntKind.i64 4)) 0 4) 1)) * 256)) (IntKind.i64.wrap (bt (sub s (some (V.int IntKind.i64 0)) (some (V.int IntKind.i64 4)) 0 4) 2)) * 256)) (IntKind.i64.wrap (bt (sub s (some (V.int IntKind.i64 0)) (some (V.int IntKind.i64 4)) 0 4) 3))).fdiv 1048576) 255, Flow := iand IntKind.i64 (ior IntKind.i64 (IntKind.i64.wrap (ior IntKind.i64 (IntKind.i64.wrap (ior IntKind.i64 (IntKind.i64.wrap (ior IntKind.i64 0 (IntKind.i64.wrap (bt (sub s (some (V.int IntKind.i64 0)) (some (V.int IntKind.i64 4)) 0 4) 0)) * 256)) (IntKind.i64.wrap (bt (sub s (some (V.int IntKind.i64 0)) (some (V.int IntKind.i64 4)) 0 4) 1)) * 256)) (IntKind.i64.wrap (bt (sub s (some (V.int IntKind.i64 0)) (some (V.int IntKind.i64 4)) 0 4) 2)) * 256)) (IntKind.i64.wrap (bt (sub s (some (V.int IntKind.i64 0)) (some (V.int IntKind.i64 4)) 0 4) 3))) 1048575, Hop := IntKind.i64.wrap (bt s 7), From := { b0 := bt (sub s (some (V.int IntKind.i64 8)) none 8 (↑s.length : Int).toNat) 0, b1 := bt (sub s (some (V.int IntKind.i64 8)) none 8 (↑s.length : Int).toNat) 1, b2 := bt (sub s (some (V.int IntKind.i64 8)) none 8 (↑s.length : Int).toNat) 2, b3 := bt (sub s (some (V.int IntKind.i64 8)) none 8 (↑s.length : Int).toNat) 3, b4 := bt (sub s (some (V.int IntKind.i64 8)) none 8 (↑s.length : Int).toNat) 4, b5 := bt (sub s (some (V.int IntKind.i64 8)) none 8 (↑s.length : Int).toNat) 5, b6 := bt (sub s (some (V.int IntKind.i64 8)) none 8 (↑s.length : Int).toNat) 6, b7 := bt (sub s (some (V.int IntKind.i64 8)) none 8 (↑s.length : Int).toNat) 7, b8 := bt (sub s (some (V.int IntKind.i64 8)) none 8 (↑s.length : Int).toNat) 8, b9 := bt (sub s (some (V.int IntKind.i64 8)) none 8 (↑s.length : Int).toNat) 9, b10 := bt (sub s (some (V.int IntKind.i64 8)) none 8 (↑s.length : Int).toNat) 10, b11 := bt (sub s (some (V.int IntKind.i64 8)) none 8 (↑s.length : Int).toNat) 11, b12 := bt (sub s (some (V.int IntKind.i64 8)) none 8 (↑s.length : Int).toNat) 12, b13 := bt (sub s (some (V.int IntKind.i64 8)) none 8 (↑s.length : Int).toNat) 13, b14 := bt (sub s (some (V.int IntKind.i64 8)) none 8 (↑s.length : Int).toNat) 14, b15 := bt (sub s (some (V.int IntKind.i64 8)) none 8 (↑s.length : Int).toNat) 15 }, To := { b0 := bt (sub s (some (V.int IntKind.i64 24)) none 24 (↑s.length : Int).toNat) 0, b1 := bt (sub s (some (V.int IntKind.i64 24)) none 24 (↑s.length : Int).toNat) 1, b2 := bt (sub s (some (V.int IntKind.i64 24)) none 24 (↑s.length : Int).toNat) 2, b3 := bt (sub s (some (V.int IntKind.i64 24)) none 24 (↑s.length : Int).toNat) 3, b4 := bt (sub s (some (V.int IntKind.i64 24)) none 24 (↑s.length : Int).toNat) 4, b5 := bt (sub s (some (V.int IntKind.i64 24)) none 24 (↑s.length : Int).toNat) 5, b6 := bt (sub s (some (V.int IntKind.i64 24)) none 24 (↑s.length : Int).toNat) 6, b7 := bt (sub s (some (V.int IntKind.i64 24)) none 24 (↑s.length : Int).toNat) 7, b8 := bt (sub s (some (V.int IntKind.i64 24)) none 24 (↑s.length : Int).toNat) 8, b9 := bt (sub s (some (V.int IntKind.i64 24)) none 24 (↑s.length : Int).toNat) 9, b10 := bt (sub s (some (V.int IntKind.i64 24)) none 24 (↑s.length : Int).toNat) 10, b11 := bt (sub s (some (V.int IntKind.i64 24)) none 24 (↑s.length : Int).toNat) 11, b12 := bt (sub s (some (V.int IntKind.i64 24)) none 24 (↑s.length : Int).toNat) 12, b13 := bt (sub s (some (V.int IntKind.i64 24)) none 24 (↑s.length : Int).toNat) 13, b14 := bt (sub s (some (V.int IntKind.i64 24)) none 24 (↑s.length : Int).toNat) 14, b15 := bt (sub s (some (V.int IntKind.i64 24)) none 24 (↑s.length : Int).toNat) 15 }, Exts := (q1.fst.fst, 2, q1.fst.snd.snd), Frag := false, Id := 0, At := 0, More := false, Proto := q1.snd.fst, Data := q1.snd.snd.fst }, none, ()))
            else
              bif ltI (↑q1.snd.snd.fst.length : Int) 8 then
                Option.bind (
                  F69 (7)) fun q2 =>
                errK (q2) (
                  some (({ Class := 0, Flow := 0, Hop := 0, From := { b0 := 0, b1 := 0, b2 := 0, b3 := 0, b4 := 0, b5 := 0, b6 := 0, b7 := 0, b8 := 0, b9 := 0, b10 := 0, b11 := 0, b12 := 0, b13 := 0, b14 := 0, b15 := 0 }, To := { b0 := 0, b1 := 0, b2 := 0, b3 := 0, b4 := 0, b5 := 0, b6 := 0, b7 := 0, b8 := 0, b9 := 0, b10 := 0, b11 := 0, b12 := 0, b13 := 0, b14 := 0, b15 := 0 }, Exts := (true, 2, []), Frag := false, Id := 0, At := 0, More := false, Proto := 0, Data := [] }, none, ()))) fun c3 p3 =>
                  some (({ Class := 0, Flow := 0, Hop := 0, From := { b0 := 0, b1 := 0, b2 := 0, b3 := 0, b4 := 0, b5 := 0, b6 := 0, b7 := 0, b8 := 0, b9 := 0, b10 := 0, b11 := 0, b12 := 0, b13 := 0, b14 := 0, b15 := 0 }, To := { b0 := 0, b1 := 0, b2 := 0, b3 := 0, b4 := 0, b5 := 0, b6 := 0, b7 := 0, b8 := 0, b9 := 0, b10 := 0, b11 := 0, b12 := 0, b13 := 0, b14 := 0, b15 := 0 }, Exts := (true, 2, []), Frag := false, Id := 0, At := 0, More := false, Proto := 0, Data := [] }, some (c3, p3), ()))
              else
                gd (inB 2 q1.snd.snd.fst.length) <|
                gd (inB 3 q1.snd.snd.fst.length) <|
                gd (ordB 4 (↑q1.snd.snd.fst.length : Int) q1.snd.snd.fst.length) <|
                bif ltI (IntKind.i64.wrap ((↑(sub q1.snd.snd.fst (some (V.int IntKind.i64 4)) none 4 (↑q1.snd.snd.fst.length : Int).toNat).length : Int) - 0)) 4 then
                  gd (inB 0 q1.snd.snd.fst.length) <|
                  gd (ordB 8 (↑q1.snd.snd.fst.length : Int) q1.snd.snd.fst.length) <|
                  Option.bind (
                    Option.bind (
                      F70 ({ Class := iand IntKind.i64 ((ior IntKind.i64 (IntKind.i64.wrap (ior IntKind.i64 (IntKind.i64.wrap (ior IntKind.i64 (IntKind.i64.wrap (ior IntKind.i64 0 (IntKind.i64.wrap (bt (sub s (some (V.int IntKind.i64 0)) (some (V.int IntKind.i64 4)) 0 4) 0)) * 256)) (IntKind.i64.wrap (bt (sub s (some (V.int IntKind.i64 0)) (some (V.int IntKind.i64 4)) 0 4) 1)) * 256)) (IntKind.i64.wrap (bt (sub s (some (V.int IntKind.i64 0)) (some (V.int IntKind.i64 4)) 0 4) 2)) * 256)) (IntKind.i64.wrap (bt (sub s (some (V.int IntKind.i64 0)) (some (V.int IntKind.i64 4)) 0 4) 3))).fdiv 1048576) 255, Flow := iand IntKind.i64 (ior IntKind.i64 (IntKind.i64.wrap (ior IntKind.i64 (IntKind.i64.wrap (ior IntKind.i64 (IntKind.i64.wrap (ior IntKind.i64 0 (IntKind.i64.wrap (bt (sub s (some (V.int IntKind.i64 0)) (some (V.int IntKind.i64 4)) 0 4) 0)) * 256)) (IntKind.i64.wrap (bt (sub s (some (V.int IntKind.i64 0)) (some (V.int IntKind.i64 4)) 0 4) 1)) * 256)) (IntKind.i64.wrap (bt (sub s (some (V.int IntKind.i64 0)) (some (V.int IntKind.i64 4)) 0 4) 2)) * 256)) (IntKind.i64.wrap (bt (sub s (some (V.int IntKind.i64 0)) (some (V.int IntKind.i64 4)) 0 4) 3))) 1048575, Hop := IntKind.i64.wrap (bt s 7), From := { b0 := bt (sub s (some (V.int IntKind.i64 8)) none 8 (↑s.length : Int).toNat) 0, b1 := bt (sub s (some (V.int IntKind.i64 8)) none 8 (↑s.length : Int).toNat) 1, b2 := bt (sub s (some (V.int IntKind.i64 8)) none 8 (↑s.length : Int).toNat) 2, b3 := bt (sub s (some (V.int IntKind.i64 8)) none 8 (↑s.length : Int).toNat) 3, b4 := bt (sub s (some (V.int IntKind.i64 8)) none 8 (↑s.length : Int).toNat) 4, b5 := bt (sub s (some (V.int IntKind.i64 8)) none 8 (↑s.length : Int).toNat) 5, b6 := bt (sub s (some (V.int IntKind.i64 8)) none 8 (↑s.length : Int).toNat) 6, b7 := bt (sub s (some (V.int IntKind.i64 8)) none 8 (↑s.length : Int).toNat) 7, b8 := bt (sub s (some (V.int IntKind.i64 8)) none 8 (↑s.length : Int).toNat) 8, b9 := bt (sub s (some (V.int IntKind.i64 8)) none 8 (↑s.length : Int).toNat) 9, b10 := bt (sub s (some (V.int IntKind.i64 8)) none 8 (↑s.length : Int).toNat) 10, b11 := bt (sub s (some (V.int IntKind.i64 8)) none 8 (↑s.length : Int).toNat) 11, b12 := bt (sub s (some (V.int IntKind.i64 8)) none 8 (↑s.length : Int).toNat) 12, b13 := bt (sub s (some (V.int IntKind.i64 8)) none 8 (↑s.length : Int).toNat) 13, b14 := bt (sub s (some (V.int IntKind.i64 8)) none 8 (↑s.length : Int).toNat) 14, b15 := bt (sub s (some (V.int IntKind.i64 8)) none 8 (↑s.length : Int).toNat) 15 }, To := { b0 := bt (sub s (some (V.int IntKind.i64 24)) none 24 (↑s.length : Int).toNat) 0, b1 := bt (sub s (some (V.int IntKind.i64 24)) none 24 (↑s.length : Int).toNat) 1, b2 := bt (sub s (some (V.int IntKind.i64 24)) none 24 (↑s.length : Int).toNat) 2, b3 := bt (sub s (some (V.int IntKind.i64 24)) none 24 (↑s.length : Int).toNat) 3, b4 := bt (sub s (some (V.int IntKind.i64 24)) none 24 (↑s.length : Int).toNat) 4, b5 := bt (sub s (some (V.int IntKind.i64 24)) none 24 (↑s.length : Int).toNat) 5, b6 := bt (sub s (some (V.int IntKind.i64 24)) none 24 (↑s.length : Int).toNat) 6, b7 := bt (sub s (some (V.int IntKind.i64 24)) none 24 (↑s.length : Int).toNat) 7, b8 := bt (sub s (some (V.int IntKind.i64 24)) none 24 (↑s.length : Int).toNat) 8, b9 := bt (sub s (some (V.int IntKind.i64 24)) none 24 (↑s.length : Int).toNat) 9, b10 := bt (sub s (some (V.int IntKind.i64 24)) none 24 (↑s.length : Int).toNat) 10, b11 := bt (sub s (some (V.int IntKind.i64 24)) none 24 (↑s.length : Int).toNat) 11, b12 := bt (sub s (some (V.int IntKind.i64 24)) none 24 (↑s.length : Int).toNat) 12, b13 := bt (sub s (some (V.int IntKind.i64 24)) none 24 (↑s.length : Int).toNat) 13, b14 := bt (sub s (some (V.int IntKind.i64 24)) none 24 (↑s.length : Int).toNat) 14, b15 := bt (sub s (some (V.int IntKind.i64 24)) none 24 (↑s.length : Int).toNat) 15 }, Exts := (q1.fst.fst, 2, q1.fst.snd.snd), Frag := true, Id := 0, At := iandNot IntKind.i64 (ior IntKind.i64 (IntKind.i64.wrap (IntKind.i64.wrap (bt q1.snd.snd.fst 2) * 256)) (IntKind.i64.wrap (bt q1.snd.snd.fst 3))) 7, More := !iand IntKind.i64 (ior IntKind.i64 (IntKind.i64.wrap (IntKind.i64.wrap (bt q1.snd.snd.fst 2) * 256)) (IntKind.i64.wrap (bt q1.snd.snd.fst 3))) 1 == 0, Proto := IntKind.i64.wrap (bt q1.snd.snd.fst 0), Data := sub q1.snd.snd.fst (some (V.int IntKind.i64 8)) none 8 (↑q1.snd.snd.fst.length : Int).toNat })) fun q2 =>
                    bif !q2 then
                      some (true)
                    else
                      some (ltI (IntKind.i64.wrap (65535 - iandNot IntKind.i64 (ior IntKind.i64 (IntKind.i64.wrap (IntKind.i64.wrap (bt q1.snd.snd.fst 2) * 256)) (IntKind.i64.wrap (bt q1.snd.snd.fst 3))) 7)) (↑(sub q1.snd.snd.fst (some (V.int IntKind.i64 8)) none 8 (↑q1.snd.snd.fst.length : Int).toNat).length : Int))) fun q2 =>
                  bif q2 then
                    Option.bind (
                      F69 (8)) fun q3 =>
                    errK (q3) (
                      some (({ Class := 0, Flow := 0, Hop := 0, From := { b0 := 0, b1 := 0, b2 := 0, b3 := 0, b4 := 0, b5 := 0, b6 := 0, b7 := 0, b8 := 0, b9 := 0, b10 := 0, b11 := 0, b12 := 0, b13 := 0, b14 := 0, b15 := 0 }, To := { b0 := 0, b1 := 0, b2 := 0, b3 := 0, b4 := 0, b5 := 0, b6 := 0, b7 := 0, b8 := 0, b9 := 0, b10 := 0, b11 := 0, b12 := 0, b13 := 0, b14 := 0, b15 := 0 }, Exts := (true, 2, []), Frag := false, Id := 0, At := 0, More := false, Proto := 0, Data := [] }, none, ()))) fun c4 p4 =>
                      some (({ Class := 0, Flow := 0, Hop := 0, From := { b0 := 0, b1 := 0, b2 := 0, b3 := 0, b4 := 0, b5 := 0, b6 := 0, b7 := 0, b8 := 0, b9 := 0, b10 := 0, b11 := 0, b12 := 0, b13 := 0, b14 := 0, b15 := 0 }, To := { b0 := 0, b1 := 0, b2 := 0, b3 := 0, b4 := 0, b5 := 0, b6 := 0, b7 := 0, b8 := 0, b9 := 0, b10 := 0, b11 := 0, b12 := 0, b13 := 0, b14 := 0, b15 := 0 }, Exts := (true, 2, []), Frag := false, Id := 0, At := 0, More := false, Proto := 0, Data := [] }, some (c4, p4), ()))
                  else
                    some (({ Class := iand IntKind.i64 ((ior IntKind.i64 (IntKind.i64.wrap (ior IntKind.i64 (IntKind.i64.wrap (ior IntKind.i64 (IntKind.i64.wrap (ior IntKind.i64 0 (IntKind.i64.wrap (bt (sub s (some (V.int IntKind.i64 0)) (some (V.int IntKind.i64 4)) 0 4) 0)) * 256)) (IntKind.i64.wrap (bt (sub s (some (V.int IntKind.i64 0)) (some (V.int IntKind.i64 4)) 0 4) 1)) * 256)) (IntKind.i64.wrap (bt (sub s (some (V.int IntKind.i64 0)) (some (V.int IntKind.i64 4)) 0 4) 2)) * 256)) (IntKind.i64.wrap (bt (sub s (some (V.int IntKind.i64 0)) (some (V.int IntKind.i64 4)) 0 4) 3))).fdiv 1048576) 255, Flow := iand IntKind.i64 (ior IntKind.i64 (IntKind.i64.wrap (ior IntKind.i64 (IntKind.i64.wrap (ior IntKind.i64 (IntKind.i64.wrap (ior IntKind.i64 0 (IntKind.i64.wrap (bt (sub s (some (V.int IntKind.i64 0)) (some (V.int IntKind.i64 4)) 0 4) 0)) * 256)) (IntKind.i64.wrap (bt (sub s (some (V.int IntKind.i64 0)) (some (V.int IntKind.i64 4)) 0 4) 1)) * 256)) (IntKind.i64.wrap (bt (sub s (some (V.int IntKind.i64 0)) (some (V.int IntKind.i64 4)) 0 4) 2)) * 256)) (IntKind.i64.wrap (bt (sub s (some (V.int IntKind.i64 0)) (some (V.int IntKind.i64 4)) 0 4) 3))) 1048575, Hop := IntKind.i64.wrap (bt s 7), From := { b0 := bt (sub s (some (V.int IntKind.i64 8)) none 8 (↑s.length : Int).toNat) 0, b1 := bt (sub s (some (V.int IntKind.i64 8)) none 8 (↑s.length : Int).toNat) 1, b2 := bt (sub s (some (V.int IntKind.i64 8)) none 8 (↑s.length : Int).toNat) 2, b3 := bt (sub s (some (V.int IntKind.i64 8)) none 8 (↑s.length : Int).toNat) 3, b4 := bt (sub s (some (V.int IntKind.i64 8)) none 8 (↑s.length : Int).toNat) 4, b5 := bt (sub s (some (V.int IntKind.i64 8)) none 8 (↑s.length : Int).toNat) 5, b6 := bt (sub s (some (V.int IntKind.i64 8)) none 8 (↑s.length : Int).toNat) 6, b7 := bt (sub s (some (V.int IntKind.i64 8)) none 8 (↑s.length : Int).toNat) 7, b8 := bt (sub s (some (V.int IntKind.i64 8)) none 8 (↑s.length : Int).toNat) 8, b9 := bt (sub s (some (V.int IntKind.i64 8)) none 8 (↑s.length : Int).toNat) 9, b10 := bt (sub s (some (V.int IntKind.i64 8)) none 8 (↑s.length : Int).toNat) 10, b11 := bt (sub s (some (V.int IntKind.i64 8)) none 8 (↑s.length : Int).toNat) 11, b12 := bt (sub s (some (V.int IntKind.i64 8)) none 8 (↑s.length : Int).toNat) 12, b13 := bt (sub s (some (V.int IntKind.i64 8)) none 8 (↑s.length : Int).toNat) 13, b14 := bt (sub s (some (V.int IntKind.i64 8)) none 8 (↑s.length : Int).toNat) 14, b15 := bt (sub s (some (V.int IntKind.i64 8)) none 8 (↑s.length : Int).toNat) 15 }, To := { b0 := bt (sub s (some (V.int IntKind.i64 24)) none 24 (↑s.length : Int).toNat) 0, b1 := bt (sub s (some (V.int IntKind.i64 24)) none 24 (↑s.length : Int).toNat) 1, b2 := bt (sub s (some (V.int IntKind.i64 24)) none 24 (↑s.length : Int).toNat) 2, b3 := bt (sub s (some (V.int IntKind.i64 24)) none 24 (↑s.length : Int).toNat) 3, b4 := bt (sub s (some (V.int IntKind.i64 24)) none 24 (↑s.length : Int).toNat) 4, b5 := bt (sub s (some (V.int IntKind.i64 24)) none 24 (↑s.length : Int).toNat) 5, b6 := bt (sub s (some (V.int IntKind.i64 24)) none 24 (↑s.length : Int).toNat) 6, b7 := bt (sub s (some (V.int IntKind.i64 24)) none 24 (↑s.length : Int).toNat) 7, b8 := bt (sub s (some (V.int IntKind.i64 24)) none 24 (↑s.length : Int).toNat) 8, b9 := bt (sub s (some (V.int IntKind.i64 24)) none 24 (↑s.length : Int).toNat) 9, b10 := bt (sub s (some (V.int IntKind.i64 24)) none 24 (↑s.length : Int).toNat) 10, b11 := bt (sub s (some (V.int IntKind.i64 24)) none 24 (↑s.length : Int).toNat) 11, b12 := bt (sub s (some (V.int IntKind.i64 24)) none 24 (↑s.length : Int).toNat) 12, b13 := bt (sub s (some (V.int IntKind.i64 24)) none 24 (↑s.length : Int).toNat) 13, b14 := bt (sub s (some (V.int IntKind.i64 24)) none 24 (↑s.length : Int).toNat) 14, b15 := bt (sub s (some (V.int IntKind.i64 24)) none 24 (↑s.length : Int).toNat) 15 }, Exts := (q1.fst.fst, 2, q1.fst.snd.snd), Frag := true, Id := 0, At := iandNot IntKind.i64 (ior IntKind.i64 (IntKind.i64.wrap (IntKind.i64.wrap (bt q1.snd.snd.fst 2) * 256)) (IntKind.i64.wrap (bt q1.snd.snd.fst 3))) 7, More := !iand IntKind.i64 (ior IntKind.i64 (IntKind.i64.wrap (IntKind.i64.wrap (bt q1.snd.snd.fst 2) * 256)) (IntKind.i64.wrap (bt q1.snd.snd.fst 3))) 1 == 0, Proto := IntKind.i64.wrap (bt q1.snd.snd.fst 0), Data := sub q1.snd.snd.fst (some (V.int IntKind.i64 8)) none 8 (↑q1.snd.snd.fst.length : Int).toNat }, none, ()))
                else
                  gd (ordB 0 4 (sub q1.snd.snd.fst (some (V.int IntKind.i64 4)) none 4 (↑q1.snd.snd.fst.length : Int).toNat).length) <|
                  gd (inB 0 q1.snd.snd.fst.length) <|
                  gd (ordB 8 (↑q1.snd.snd.fst.length : Int) q1.snd.snd.fst.length) <|
                  Option.bind (
                    Option.bind (
                      F70 ({ Class := iand IntKind.i64 ((ior IntKind.i64 (IntKind.i64.wrap (ior IntKind.i64 (IntKind.i64.wrap (ior IntKind.i64 (IntKind.i64.wrap (ior IntKind.i64 0 (IntKind.i64.wrap (bt (sub s (some (V.int IntKind.i64 0)) (some (V.int IntKind.i64 4)) 0 4) 0)) * 256)) (IntKind.i64.wrap (bt (sub s (some (V.int IntKind.i64 0)) (some (V.int IntKind.i64 4)) 0 4) 1)) * 256)) (IntKind.i64.wrap (bt (sub s (some (V.int IntKind.i64 0)) (some (V.int IntKind.i64 4)) 0 4) 2)) * 256)) (IntKind.i64.wrap (bt (sub s (some (V.int IntKind.i64 0)) (some (V.int IntKind.i64 4)) 0 4) 3))).fdiv 1048576) 255, Flow := iand IntKind.i64 (ior IntKind.i64 (IntKind.i64.wrap (ior IntKind.i64 (IntKind.i64.wrap (ior IntKind.i64 (IntKind.i64.wrap (ior IntKind.i64 0 (IntKind.i64.wrap (bt (sub s (some (V.int IntKind.i64 0)) (some (V.int IntKind.i64 4)) 0 4) 0)) * 256)) (IntKind.i64.wrap (bt (sub s (some (V.int IntKind.i64 0)) (some (V.int IntKind.i64 4)) 0 4) 1)) * 256)) (IntKind.i64.wrap (bt (sub s (some (V.int IntKind.i64 0)) (some (V.int IntKind.i64 4)) 0 4) 2)) * 256)) (IntKind.i64.wrap (bt (sub s (some (V.int IntKind.i64 0)) (some (V.int IntKind.i64 4)) 0 4) 3))) 1048575, Hop := IntKind.i64.wrap (bt s 7), From := { b0 := bt (sub s (some (V.int IntKind.i64 8)) none 8 (↑s.length : Int).toNat) 0, b1 := bt (sub s (some (V.int IntKind.i64 8)) none 8 (↑s.length : Int).toNat) 1, b2 := bt (sub s (some (V.int IntKind.i64 8)) none 8 (↑s.length : Int).toNat) 2, b3 := bt (sub s (some (V.int IntKind.i64 8)) none 8 (↑s.length : Int).toNat) 3, b4 := bt (sub s (some (V.int IntKind.i64 8)) none 8 (↑s.length : Int).toNat) 4, b5 := bt (sub s (some (V.int IntKind.i64 8)) none 8 (↑s.length : Int).toNat) 5, b6 := bt (sub s (some (V.int IntKind.i64 8)) none 8 (↑s.length : Int).toNat) 6, b7 := bt (sub s (some (V.int IntKind.i64 8)) none 8 (↑s.length : Int).toNat) 7, b8 := bt (sub s (some (V.int IntKind.i64 8)) none 8 (↑s.length : Int).toNat) 8, b9 := bt (sub s (some (V.int IntKind.i64 8)) none 8 (↑s.length : Int).toNat) 9, b10 := bt (sub s (some (V.int IntKind.i64 8)) none 8 (↑s.length : Int).toNat) 10, b11 := bt (sub s (some (V.int IntKind.i64 8)) none 8 (↑s.length : Int).toNat) 11, b12 := bt (sub s (some (V.int IntKind.i64 8)) none 8 (↑s.length : Int).toNat) 12, b13 := bt (sub s (some (V.int IntKind.i64 8)) none 8 (↑s.length : Int).toNat) 13, b14 := bt (sub s (some (V.int IntKind.i64 8)) none 8 (↑s.length : Int).toNat) 14, b15 := bt (sub s (some (V.int IntKind.i64 8)) none 8 (↑s.length : Int).toNat) 15 }, To := { b0 := bt (sub s (some (V.int IntKind.i64 24)) none 24 (↑s.length : Int).toNat) 0, b1 := bt (sub s (some (V.int IntKind.i64 24)) none 24 (↑s.length : Int).toNat) 1, b2 := bt (sub s (some (V.int IntKind.i64 24)) none 24 (↑s.length : Int).toNat) 2, b3 := bt (sub s (some (V.int IntKind.i64 24)) none 24 (↑s.length : Int).toNat) 3, b4 := bt (sub s (some (V.int IntKind.i64 24)) none 24 (↑s.length : Int).toNat) 4, b5 := bt (sub s (some (V.int IntKind.i64 24)) none 24 (↑s.length : Int).toNat) 5, b6 := bt (sub s (some (V.int IntKind.i64 24)) none 24 (↑s.length : Int).toNat) 6, b7 := bt (sub s (some (V.int IntKind.i64 24)) none 24 (↑s.length : Int).toNat) 7, b8 := bt (sub s (some (V.int IntKind.i64 24)) none 24 (↑s.length : Int).toNat) 8, b9 := bt (sub s (some (V.int IntKind.i64 24)) none 24 (↑s.length : Int).toNat) 9, b10 := bt (sub s (some (V.int IntKind.i64 24)) none 24 (↑s.length : Int).toNat) 10, b11 := bt (sub s (some (V.int IntKind.i64 24)) none 24 (↑s.length : Int).toNat) 11, b12 := bt (sub s (some (V.int IntKind.i64 24)) none 24 (↑s.length : Int).toNat) 12, b13 := bt (sub s (some (V.int IntKind.i64 24)) none 24 (↑s.length : Int).toNat) 13, b14 := bt (sub s (some (V.int IntKind.i64 24)) none 24 (↑s.length : Int).toNat) 14, b15 := bt (sub s (some (V.int IntKind.i64 24)) none 24 (↑s.length : Int).toNat) 15 }, Exts := (q1.fst.fst, 2, q1.fst.snd.snd), Frag := true, Id := IntKind.u32.wrap (ior IntKind.i64 (IntKind.i64.wrap (ior IntKind.i64 (IntKind.i64.wrap (ior IntKind.i64 (IntKind.i64.wrap (ior IntKind.i64 0 (IntKind.i64.wrap (bt (sub (sub q1.snd.snd.fst (some (V.int IntKind.i64 4)) none 4 (↑q1.snd.snd.fst.length : Int).toNat) (some (V.int IntKind.i64 0)) (some (V.int IntKind.i64 4)) 0 4) 0)) * 256)) (IntKind.i64.wrap (bt (sub (sub q1.snd.snd.fst (some (V.int IntKind.i64 4)) none 4 (↑q1.snd.snd.fst.length : Int).toNat) (some (V.int IntKind.i64 0)) (some (V.int IntKind.i64 4)) 0 4) 1)) * 256)) (IntKind.i64.wrap (bt (sub (sub q1.snd.snd.fst (some (V.int IntKind.i64 4)) none 4 (↑q1.snd.snd.fst.length : Int).toNat) (some (V.int IntKind.i64 0)) (some (V.int IntKind.i64 4)) 0 4) 2)) * 256)) (IntKind.i64.wrap (bt (sub (sub q1.snd.snd.fst (some (V.int IntKind.i64 4)) none 4 (↑q1.snd.snd.fst.length : Int).toNat) (some (V.int IntKind.i64 0)) (some (V.int IntKind.i64 4)) 0 4) 3))), At := iandNot IntKind.i64 (ior IntKind.i64 (IntKind.i64.wrap (IntKind.i64.wrap (bt q1.snd.snd.fst 2) * 256)) (IntKind.i64.wrap (bt q1.snd.snd.fst 3))) 7, More := !iand IntKind.i64 (ior IntKind.i64 (IntKind.i64.wrap (IntKind.i64.wrap (bt q1.snd.snd.fst 2) * 256)) (IntKind.i64.wrap (bt q1.snd.snd.fst 3))) 1 == 0, Proto := IntKind.i64.wrap (bt q1.snd.snd.fst 0), Data := sub q1.snd.snd.fst (some (V.int IntKind.i64 8)) none 8 (↑q1.snd.snd.fst.length : Int).toNat })) fun q2 =>
                    bif !q2 then
                      some (true)
                    else
                      some (ltI (IntKind.i64.wrap (65535 - iandNot IntKind.i64 (ior IntKind.i64 (IntKind.i64.wrap (IntKind.i64.wrap (bt q1.snd.snd.fst 2) * 256)) (IntKind.i64.wrap (bt q1.snd.snd.fst 3))) 7)) (↑(sub q1.snd.snd.fst (some (V.int IntKind.i64 8)) none 8 (↑q1.snd.snd.fst.length : Int).toNat).length : Int))) fun q2 =>
                  bif q2 then
                    Option.bind (
                      F69 (8)) fun q3 =>
                    errK (q3) (
                      some (({ Class := 0, Flow := 0, Hop := 0, From := { b0 := 0, b1 := 0, b2 := 0, b3 := 0, b4 := 0, b5 := 0, b6 := 0, b7 := 0, b8 := 0, b9 := 0, b10 := 0, b11 := 0, b12 := 0, b13 := 0, b14 := 0, b15 := 0 }, To := { b0 := 0, b1 := 0, b2 := 0, b3 := 0, b4 := 0, b5 := 0, b6 := 0, b7 := 0, b8 := 0, b9 := 0, b10 := 0, b11 := 0, b12 := 0, b13 := 0, b14 := 0, b15 := 0 }, Exts := (true, 2, []), Frag := false, Id := 0, At := 0, More := false, Proto := 0, Data := [] }, none, ()))) fun c4 p4 =>
                      some (({ Class := 0, Flow := 0, Hop := 0, From := { b0 := 0, b1 := 0, b2 := 0, b3 := 0, b4 := 0, b5 := 0, b6 := 0, b7 := 0, b8 := 0, b9 := 0, b10 := 0, b11 := 0, b12 := 0, b13 := 0, b14 := 0, b15 := 0 }, To := { b0 := 0, b1 := 0, b2 := 0, b3 := 0, b4 := 0, b5 := 0, b6 := 0, b7 := 0, b8 := 0, b9 := 0, b10 := 0, b11 := 0, b12 := 0, b13 := 0, b14 := 0, b15 := 0 }, Exts := (true, 2, []), Frag := false, Id := 0, At := 0, More := false, Proto := 0, Data := [] }, some (c4, p4), ()))
                  else
                    some (({ Class := iand IntKind.i64 ((ior IntKind.i64 (IntKind.i64.wrap (ior IntKind.i64 (IntKind.i64.wrap (ior IntKind.i64 (IntKind.i64.wrap (ior IntKind.i64 0 (IntKind.i64.wrap (bt (sub s (some (V.int IntKind.i64 0)) (some (V.int IntKind.i64 4)) 0 4) 0)) * 256)) (IntKind.i64.wrap (bt (sub s (some (V.int IntKind.i64 0)) (some (V.int IntKind.i64 4)) 0 4) 1)) * 256)) (IntKind.i64.wrap (bt (sub s (some (V.int IntKind.i64 0)) (some (V.int IntKind.i64 4)) 0 4) 2)) * 256)) (IntKind.i64.wrap (bt (sub s (some (V.int IntKind.i64 0)) (some (V.int IntKind.i64 4)) 0 4) 3))).fdiv 1048576) 255, Flow := iand IntKind.i64 (ior IntKind.i64 (IntKind.i64.wrap (ior IntKind.i64 (IntKind.i64.wrap (ior IntKind.i64 (IntKind.i64.wrap (ior IntKind.i64 0 (IntKind.i64.wrap (bt (sub s (some (V.int IntKind.i64 0)) (some (V.int IntKind.i64 4)) 0 4) 0)) * 256)) (IntKind.i64.wrap (bt (sub s (some (V.int IntKind.i64 0)) (some (V.int IntKind.i64 4)) 0 4) 1)) * 256)) (IntKind.i64.wrap (bt (sub s (some (V.int IntKind.i64 0)) (some (V.int IntKind.i64 4)) 0 4) 2)) * 256)) (IntKind.i64.wrap (bt (sub s (some (V.int IntKind.i64 0)) (some (V.int IntKind.i64 4)) 0 4) 3))) 1048575, Hop := IntKind.i64.wrap (bt s 7), From := { b0 := bt (sub s (some (V.int IntKind.i64 8)) none 8 (↑s.length : Int).toNat) 0, b1 := bt (sub s (some (V.int IntKind.i64 8)) none 8 (↑s.length : Int).toNat) 1, b2 := bt (sub s (some (V.int IntKind.i64 8)) none 8 (↑s.length : Int).toNat) 2, b3 := bt (sub s (some (V.int IntKind.i64 8)) none 8 (↑s.length : Int).toNat) 3, b4 := bt (sub s (some (V.int IntKind.i64 8)) none 8 (↑s.length : Int).toNat) 4, b5 := bt (sub s (some (V.int IntKind.i64 8)) none 8 (↑s.length : Int).toNat) 5, b6 := bt (sub s (some (V.int IntKind.i64 8)) none 8 (↑s.length : Int).toNat) 6, b7 := bt (sub s (some (V.int IntKind.i64 8)) none 8 (↑s.length : Int).toNat) 7, b8 := bt (sub s (some (V.int IntKind.i64 8)) none 8 (↑s.length : Int).toNat) 8, b9 := bt (sub s (some (V.int IntKind.i64 8)) none 8 (↑s.length : Int).toNat) 9, b10 := bt (sub s (some (V.int IntKind.i64 8)) none 8 (↑s.length : Int).toNat) 10, b11 := bt (sub s (some (V.int IntKind.i64 8)) none 8 (↑s.length : Int).toNat) 11, b12 := bt (sub s (some (V.int IntKind.i64 8)) none 8 (↑s.length : Int).toNat) 12, b13 := bt (sub s (some (V.int IntKind.i64 8)) none 8 (↑s.length : Int).toNat) 13, b14 := bt (sub s (some (V.int IntKind.i64 8)) none 8 (↑s.length : Int).toNat) 14, b15 := bt (sub s (some (V.int IntKind.i64 8)) none 8 (↑s.length : Int).toNat) 15 }, To := { b0 := bt (sub s (some (V.int IntKind.i64 24)) none 24 (↑s.length : Int).toNat) 0, b1 := bt (sub s (some (V.int IntKind.i64 24)) none 24 (↑s.length : Int).toNat) 1, b2 := bt (sub s (some (V.int IntKind.i64 24)) none 24 (↑s.length : Int).toNat) 2, b3 := bt (sub s (some (V.int IntKind.i64 24)) none 24 (↑s.length : Int).toNat) 3, b4 := bt (sub s (some (V.int IntKind.i64 24)) none 24 (↑s.length : Int).toNat) 4, b5 := bt (sub s (some (V.int IntKind.i64 24)) none 24 (↑s.length : Int).toNat) 5, b6 := bt (sub s (some (V.int IntKind.i64 24)) none 24 (↑s.length : Int).toNat) 6, b7 := bt (sub s (some (V.int IntKind.i64 24)) none 24 (↑s.length : Int).toNat) 7, b8 := bt (sub s (some (V.int IntKind.i64 24)) none 24 (↑s.length : Int).toNat) 8, b9 := bt (sub s (some (V.int IntKind.i64 24)) none 24 (↑s.length : Int).toNat) 9, b10 := bt (sub s (some (V.int IntKind.i64 24)) none 24 (↑s.length : Int).toNat) 10, b11 := bt (sub s (some (V.int IntKind.i64 24)) none 24 (↑s.length : Int).toNat) 11, b12 := bt (sub s (some (V.int IntKind.i64 24)) none 24 (↑s.length : Int).toNat) 12, b13 := bt (sub s (some (V.int IntKind.i64 24)) none 24 (↑s.length : Int).toNat) 13, b14 := bt (sub s (some (V.int IntKind.i64 24)) none 24 (↑s.length : Int).toNat) 14, b15 := bt (sub s (some (V.int IntKind.i64 24)) none 24 (↑s.length : Int).toNat) 15 }, Exts := (q1.fst.fst, 2, q1.fst.snd.snd), Frag := true, Id := IntKind.u32.wrap (ior IntKind.i64 (IntKind.i64.wrap (ior IntKind.i64 (IntKind.i64.wrap (ior IntKind.i64 (IntKind.i64.wrap (ior IntKind.i64 0 (IntKind.i64.wrap (bt (sub (sub q1.snd.snd.fst (some (V.int IntKind.i64 4)) none 4 (↑q1.snd.snd.fst.length : Int).toNat) (some (V.int IntKind.i64 0)) (some (V.int IntKind.i64 4)) 0 4) 0)) * 256)) (IntKind.i64.wrap (bt (sub (sub q1.snd.snd.fst (some (V.int IntKind.i64 4)) none 4 (↑q1.snd.snd.fst.length : Int).toNat) (some (V.int IntKind.i64 0)) (some (V.int IntKind.i64 4)) 0 4) 1)) * 256)) (IntKind.i64.wrap (bt (sub (sub q1.snd.snd.fst (some (V.int IntKind.i64 4)) none 4 (↑q1.snd.snd.fst.length : Int).toNat) (some (V.int IntKind.i64 0)) (some (V.int IntKind.i64 4)) 0 4) 2)) * 256)) (IntKind.i64.wrap (bt (sub (sub q1.snd.snd.fst (some (V.int IntKind.i64 4)) none 4 (↑q1.snd.snd.fst.length : Int).toNat) (some (V.int IntKind.i64 0)) (some (V.int IntKind.i64 4)) 0 4) 3))), At := iandNot IntKind.i64 (ior IntKind.i64 (IntKind.i64.wrap (IntKind.i64.wrap (bt q1.snd.snd.fst 2) * 256)) (IntKind.i64.wrap (bt q1.snd.snd.fst 3))) 7, More := !iand IntKind.i64 (ior IntKind.i64 (IntKind.i64.wrap (IntKind.i64.wrap (bt q1.snd.snd.fst 2) * 256)) (IntKind.i64.wrap (bt q1.snd.snd.fst 3))) 1 == 0, Proto := IntKind.i64.wrap (bt q1.snd.snd.fst 0), Data := sub q1.snd.snd.fst (some (V.int IntKind.i64 8)) none 8 (↑q1.snd.snd.fst.length : Int).toNat }, none, ()))) fun c2 p2 =>
            gd (q1.fst.snd.fst.beq 2 || q1.fst.fst) <|
            some (({ Class := 0, Flow := 0, Hop := 0, From := { b0 := 0, b1 := 0, b2 := 0, b3 := 0, b4 := 0, b5 := 0, b6 := 0, b7 := 0, b8 := 0, b9 := 0, b10 := 0, b11 := 0, b12 := 0, b13 := 0, b14 := 0, b15 := 0 }, To := { b0 := 0, b1 := 0, b2 := 0, b3 := 0, b4 := 0, b5 := 0, b6 := 0, b7 := 0, b8 := 0, b9 := 0, b10 := 0, b11 := 0, b12 := 0, b13 := 0, b14 := 0, b15 := 0 }, Exts := (true, 2, []), Frag := false, Id := 0, At := 0, More := false, Proto := 0, Data := [] }, some (c2, p2), ()))
theorem F27_ev : ∀ a, evTop Try.prog ⟨[d52, d69, d70], inl_keeps8, keepIn keeps8, []⟩ 6 27 (CodL.val (CodL.cons Cod.str CodL.nil) a) (fun v => Cod.dec (Cod.tup (CodL.cons (Cod.agg lIp6) (CodL.cons (Cod.err faultT) CodL.nil))) v some) = (fun a => F27 a.1) a := by
  intro a; kernel_rfl
noncomputable def d27 : Ctr Try.prog := Ctr.ofF 27 (CodL.cons Cod.str CodL.nil) (Cod.tup (CodL.cons (Cod.agg lIp6) (CodL.cons (Cod.err faultT) CodL.nil))) (fun a => F27 a.1) (pcalls_of_ev mix noLoops F27_ev)
/-- interpreter/class.bare -/
noncomputable def d124 : Ctr Try.prog := Ctr.evT mix [] inl_keeps8 (keepIn keeps8) 6 124 Cod.bool
/-- interpreter/class.right6 -/
def F114 (n : Net6) : Option (Bool) :=
  bif leI 0 n.Len then
    bif leI n.Len 128 then
      Option.bind (
        gd (Decidable.decide (0 ≤ imin (imax (IntKind.i64.wrap (n.Len - 0)) 0) 8)) <|
        bif !IntKind.u8.wrap (n.Addr.b0 * 2 ^ Min.min (imin (imax (IntKind.i64.wrap (n.Len - 0)) 0) 8).toNat 8) == 0 then
          some (false)
        else
          gd (Decidable.decide (0 ≤ imin (imax (IntKind.i64.wrap (n.Len - 8)) 0) 8)) <|
          bif !IntKind.u8.wrap (n.Addr.b1 * 2 ^ Min.min (imin (imax (IntKind.i64.wrap (n.Len - 8)) 0) 8).toNat 8) == 0 then
            some (false)
          else
            gd (Decidable.decide (0 ≤ imin (imax (IntKind.i64.wrap (n.Len - 16)) 0) 8)) <|
            bif !IntKind.u8.wrap (n.Addr.b2 * 2 ^ Min.min (imin (imax (IntKind.i64.wrap (n.Len - 16)) 0) 8).toNat 8) == 0 then
              some (false)
            else
              gd (Decidable.decide (0 ≤ imin (imax (IntKind.i64.wrap (n.Len - 24)) 0) 8)) <|
              bif !IntKind.u8.wrap (n.Addr.b3 * 2 ^ Min.min (imin (imax (IntKind.i64.wrap (n.Len - 24)) 0) 8).toNat 8) == 0 then
                some (false)
              else
                gd (Decidable.decide (0 ≤ imin (imax (IntKind.i64.wrap (n.Len - 32)) 0) 8)) <|
                bif !IntKind.u8.wrap (n.Addr.b4 * 2 ^ Min.min (imin (imax (IntKind.i64.wrap (n.Len - 32)) 0) 8).toNat 8) == 0 then
                  some (false)
                else
                  gd (Decidable.decide (0 ≤ imin (imax (IntKind.i64.wrap (n.Len - 40)) 0) 8)) <|
                  bif !IntKind.u8.wrap (n.Addr.b5 * 2 ^ Min.min (imin (imax (IntKind.i64.wrap (n.Len - 40)) 0) 8).toNat 8) == 0 then
                    some (false)
                  else
                    gd (Decidable.decide (0 ≤ imin (imax (IntKind.i64.wrap (n.Len - 48)) 0) 8)) <|
                    bif !IntKind.u8.wrap (n.Addr.b6 * 2 ^ Min.min (imin (imax (IntKind.i64.wrap (n.Len - 48)) 0) 8).toNat 8) == 0 then
                      some (false)
                    else
                      gd (Decidable.decide (0 ≤ imin (imax (IntKind.i64.wrap (n.Len - 56)) 0) 8)) <|
                      bif !IntKind.u8.wrap (n.Addr.b7 * 2 ^ Min.min (imin (imax (IntKind.i64.wrap (n.Len - 56)) 0) 8).toNat 8) == 0 then
                        some (false)
                      else
                        gd (Decidable.decide (0 ≤ imin (imax (IntKind.i64.wrap (n.Len - 64)) 0) 8)) <|
                        bif !IntKind.u8.wrap (n.Addr.b8 * 2 ^ Min.min (imin (imax (IntKind.i64.wrap (n.Len - 64)) 0) 8).toNat 8) == 0 then
                          some (false)
                        else
                          gd (Decidable.decide (0 ≤ imin (imax (IntKind.i64.wrap (n.Len - 72)) 0) 8)) <|
                          bif !IntKind.u8.wrap (n.Addr.b9 * 2 ^ Min.min (imin (imax (IntKind.i64.wrap (n.Len - 72)) 0) 8).toNat 8) == 0 then
                            some (false)
                          else
                            gd (Decidable.decide (0 ≤ imin (imax (IntKind.i64.wrap (n.Len - 80)) 0) 8)) <|
                            bif !IntKind.u8.wrap (n.Addr.b10 * 2 ^ Min.min (imin (imax (IntKind.i64.wrap (n.Len - 80)) 0) 8).toNat 8) == 0 then
                              some (false)
                            else
                              gd (Decidable.decide (0 ≤ imin (imax (IntKind.i64.wrap (n.Len - 88)) 0) 8)) <|
                              bif !IntKind.u8.wrap (n.Addr.b11 * 2 ^ Min.min (imin (imax (IntKind.i64.wrap (n.Len - 88)) 0) 8).toNat 8) == 0 then
                                some (false)
                              else
                                gd (Decidable.decide (0 ≤ imin (imax (IntKind.i64.wrap (n.Len - 96)) 0) 8)) <|
                                bif !IntKind.u8.wrap (n.Addr.b12 * 2 ^ Min.min (imin (imax (IntKind.i64.wrap (n.Len - 96)) 0) 8).toNat 8) == 0 then
                                  some (false)
                                else
                                  gd (Decidable.decide (0 ≤ imin (imax (IntKind.i64.wrap (n.Len - 104)) 0) 8)) <|
                                  bif !IntKind.u8.wrap (n.Addr.b13 * 2 ^ Min.min (imin (imax (IntKind.i64.wrap (n.Len - 104)) 0) 8).toNat 8) == 0 then
                                    some (false)
                                  else
                                    gd (Decidable.decide (0 ≤ imin (imax (IntKind.i64.wrap (n.Len - 112)) 0) 8)) <|
                                    bif !IntKind.u8.wrap (n.Addr.b14 * 2 ^ Min.min (imin (imax (IntKind.i64.wrap (n.Len - 112)) 0) 8).toNat 8) == 0 then
                                      some (false)
                                    else
                                      gd (Decidable.decide (0 ≤ imin (imax (IntKind.i64.wrap (n.Len - 120)) 0) 8)) <|
                                      bif !IntKind.u8.wrap (n.Addr.b15 * 2 ^ Min.min (imin (imax (IntKind.i64.wrap (n.Len - 120)) 0) 8).toNat 8) == 0 then
                                        some (false)
                                      else
                                        some (true)) fun q1 =>
      some (q1)
    else
      some (false)
  else
    some (false)
theorem F114_ev : ∀ a, evTop Try.prog ⟨[d124], inl_keeps8, keepIn keeps8, []⟩ 6 114 (CodL.val (CodL.cons (Cod.agg lNet6) CodL.nil) a) (fun v => Cod.dec Cod.bool v some) = (fun a => F114 a.1) a := by
  intro a; kernel_rfl
noncomputable def d114 : Ctr Try.prog := Ctr.ofF 114 (CodL.cons (Cod.agg lNet6) CodL.nil) Cod.bool (fun a => F114 a.1) (pcalls_of_ev mix noLoops F114_ev)
/-- interpreter/class.holds -/
noncomputable def d115 : Ctr Try.prog := Ctr.evT mix [] inl_keeps8 (keepIn keeps8) 6 115 Cod.bool
/-- interpreter/class.Holds6 -/
def F97 (n : Net6) (a : V6) : Option (Bool) :=
  Option.bind (
    F114 ({ Addr := { b0 := n.Addr.b0, b1 := n.Addr.b1, b2 := n.Addr.b2, b3 := n.Addr.b3, b4 := n.Addr.b4, b5 := n.Addr.b5, b6 := n.Addr.b6, b7 := n.Addr.b7, b8 := n.Addr.b8, b9 := n.Addr.b9, b10 := n.Addr.b10, b11 := n.Addr.b11, b12 := n.Addr.b12, b13 := n.Addr.b13, b14 := n.Addr.b14, b15 := n.Addr.b15 }, Len := n.Len })) fun q2 =>
  bif q2 then
    Option.bind (
      gd (Decidable.decide (0 ≤ IntKind.i64.wrap (8 - imin (imax (IntKind.i64.wrap (n.Len - 0)) 0) 8))) <|
      bif !(ixor IntKind.u8 n.Addr.b0 a.b0).fdiv (2 ^ Min.min (IntKind.i64.wrap (8 - imin (imax (IntKind.i64.wrap (n.Len - 0)) 0) 8)).toNat 8) == 0 then
        some (false)
      else
        gd (Decidable.decide (0 ≤ IntKind.i64.wrap (8 - imin (imax (IntKind.i64.wrap (n.Len - 8)) 0) 8))) <|
        bif !(ixor IntKind.u8 n.Addr.b1 a.b1).fdiv (2 ^ Min.min (IntKind.i64.wrap (8 - imin (imax (IntKind.i64.wrap (n.Len - 8)) 0) 8)).toNat 8) == 0 then
          some (false)
        else
          gd (Decidable.decide (0 ≤ IntKind.i64.wrap (8 - imin (imax (IntKind.i64.wrap (n.Len - 16)) 0) 8))) <|
          bif !(ixor IntKind.u8 n.Addr.b2 a.b2).fdiv (2 ^ Min.min (IntKind.i64.wrap (8 - imin (imax (IntKind.i64.wrap (n.Len - 16)) 0) 8)).toNat 8) == 0 then
            some (false)
          else
            gd (Decidable.decide (0 ≤ IntKind.i64.wrap (8 - imin (imax (IntKind.i64.wrap (n.Len - 24)) 0) 8))) <|
            bif !(ixor IntKind.u8 n.Addr.b3 a.b3).fdiv (2 ^ Min.min (IntKind.i64.wrap (8 - imin (imax (IntKind.i64.wrap (n.Len - 24)) 0) 8)).toNat 8) == 0 then
              some (false)
            else
              gd (Decidable.decide (0 ≤ IntKind.i64.wrap (8 - imin (imax (IntKind.i64.wrap (n.Len - 32)) 0) 8))) <|
              bif !(ixor IntKind.u8 n.Addr.b4 a.b4).fdiv (2 ^ Min.min (IntKind.i64.wrap (8 - imin (imax (IntKind.i64.wrap (n.Len - 32)) 0) 8)).toNat 8) == 0 then
                some (false)
              else
                gd (Decidable.decide (0 ≤ IntKind.i64.wrap (8 - imin (imax (IntKind.i64.wrap (n.Len - 40)) 0) 8))) <|
                bif !(ixor IntKind.u8 n.Addr.b5 a.b5).fdiv (2 ^ Min.min (IntKind.i64.wrap (8 - imin (imax (IntKind.i64.wrap (n.Len - 40)) 0) 8)).toNat 8) == 0 then
                  some (false)
                else
                  gd (Decidable.decide (0 ≤ IntKind.i64.wrap (8 - imin (imax (IntKind.i64.wrap (n.Len - 48)) 0) 8))) <|
                  bif !(ixor IntKind.u8 n.Addr.b6 a.b6).fdiv (2 ^ Min.min (IntKind.i64.wrap (8 - imin (imax (IntKind.i64.wrap (n.Len - 48)) 0) 8)).toNat 8) == 0 then
                    some (false)
                  else
                    gd (Decidable.decide (0 ≤ IntKind.i64.wrap (8 - imin (imax (IntKind.i64.wrap (n.Len - 56)) 0) 8))) <|
                    bif !(ixor IntKind.u8 n.Addr.b7 a.b7).fdiv (2 ^ Min.min (IntKind.i64.wrap (8 - imin (imax (IntKind.i64.wrap (n.Len - 56)) 0) 8)).toNat 8) == 0 then
                      some (false)
                    else
                      gd (Decidable.decide (0 ≤ IntKind.i64.wrap (8 - imin (imax (IntKind.i64.wrap (n.Len - 64)) 0) 8))) <|
                      bif !(ixor IntKind.u8 n.Addr.b8 a.b8).fdiv (2 ^ Min.min (IntKind.i64.wrap (8 - imin (imax (IntKind.i64.wrap (n.Len - 64)) 0) 8)).toNat 8) == 0 then
                        some (false)
                      else
                        gd (Decidable.decide (0 ≤ IntKind.i64.wrap (8 - imin (imax (IntKind.i64.wrap (n.Len - 72)) 0) 8))) <|
                        bif !(ixor IntKind.u8 n.Addr.b9 a.b9).fdiv (2 ^ Min.min (IntKind.i64.wrap (8 - imin (imax (IntKind.i64.wrap (n.Len - 72)) 0) 8)).toNat 8) == 0 then
                          some (false)
                        else
                          gd (Decidable.decide (0 ≤ IntKind.i64.wrap (8 - imin (imax (IntKind.i64.wrap (n.Len - 80)) 0) 8))) <|
                          bif !(ixor IntKind.u8 n.Addr.b10 a.b10).fdiv (2 ^ Min.min (IntKind.i64.wrap (8 - imin (imax (IntKind.i64.wrap (n.Len - 80)) 0) 8)).toNat 8) == 0 then
                            some (false)
                          else
                            gd (Decidable.decide (0 ≤ IntKind.i64.wrap (8 - imin (imax (IntKind.i64.wrap (n.Len - 88)) 0) 8))) <|
                            bif !(ixor IntKind.u8 n.Addr.b11 a.b11).fdiv (2 ^ Min.min (IntKind.i64.wrap (8 - imin (imax (IntKind.i64.wrap (n.Len - 88)) 0) 8)).toNat 8) == 0 then
                              some (false)
                            else
                              gd (Decidable.decide (0 ≤ IntKind.i64.wrap (8 - imin (imax (IntKind.i64.wrap (n.Len - 96)) 0) 8))) <|
                              bif !(ixor IntKind.u8 n.Addr.b12 a.b12).fdiv (2 ^ Min.min (IntKind.i64.wrap (8 - imin (imax (IntKind.i64.wrap (n.Len - 96)) 0) 8)).toNat 8) == 0 then
                                some (false)
                              else
                                gd (Decidable.decide (0 ≤ IntKind.i64.wrap (8 - imin (imax (IntKind.i64.wrap (n.Len - 104)) 0) 8))) <|
                                bif !(ixor IntKind.u8 n.Addr.b13 a.b13).fdiv (2 ^ Min.min (IntKind.i64.wrap (8 - imin (imax (IntKind.i64.wrap (n.Len - 104)) 0) 8)).toNat 8) == 0 then
                                  some (false)
                                else
                                  gd (Decidable.decide (0 ≤ IntKind.i64.wrap (8 - imin (imax (IntKind.i64.wrap (n.Len - 112)) 0) 8))) <|
                                  bif !(ixor IntKind.u8 n.Addr.b14 a.b14).fdiv (2 ^ Min.min (IntKind.i64.wrap (8 - imin (imax (IntKind.i64.wrap (n.Len - 112)) 0) 8)).toNat 8) == 0 then
                                    some (false)
                                  else
                                    gd (Decidable.decide (0 ≤ IntKind.i64.wrap (8 - imin (imax (IntKind.i64.wrap (n.Len - 120)) 0) 8))) <|
                                    bif !(ixor IntKind.u8 n.Addr.b15 a.b15).fdiv (2 ^ Min.min (IntKind.i64.wrap (8 - imin (imax (IntKind.i64.wrap (n.Len - 120)) 0) 8)).toNat 8) == 0 then
                                      some (false)
                                    else
                                      some (true)) fun q3 =>
    some (q3)
  else
    some (false)
theorem F97_ev : ∀ a, evTop Try.prog ⟨[d114, d115], inl_keeps8, keepIn keeps8, []⟩ 6 97 (CodL.val (CodL.cons (Cod.agg lNet6) (CodL.cons (Cod.agg lV6) CodL.nil)) a) (fun v => Cod.dec Cod.bool v some) = (fun a => F97 a.1 a.2.1) a := by
  intro a; kernel_rfl
noncomputable def d97 : Ctr Try.prog := Ctr.ofF 97 (CodL.cons (Cod.agg lNet6) (CodL.cons (Cod.agg lV6) CodL.nil)) Cod.bool (fun a => F97 a.1 a.2.1) (pcalls_of_ev mix noLoops F97_ev)
/-- interpreter/class.Martian6 -/
noncomputable def d65 : Ctr Try.prog := Ctr.evT mix [d97] inl_keeps8 (keepIn keeps8) 6 65 Cod.bool
/-- interpreter/icmp6.Bytes -/
def F67 (m : Msg) (pseudo : List UInt8) : Option ((List UInt8) × Err × Unit) :=
  Option.bind (
    F84 (m.Kind) (1)) fun q2 =>
  errK (q2.snd.fst) (
    Option.bind (
      F84 (m.Code) (1)) fun q3 =>
    errK (q3.snd.fst) (
      Option.bind (
        F84 (IntKind.i64.wrap m.Rest) (4)) fun q4 =>
      errK (q4.snd.fst) (
        Option.bind (
          Option.bind (
            F93 (0) (0) (pseudo) (0)) fun q5 =>
          Option.bind (
            F92 (q5)) fun q6 =>
          Option.bind (
            F93 (q6) (IntKind.i64.wrap (0 + (↑pseudo.length : Int))) (q2.fst) (0)) fun q7 =>
          Option.bind (
            F92 (q7)) fun q8 =>
          Option.bind (
            F93 (q8) (IntKind.i64.wrap (IntKind.i64.wrap (0 + (↑pseudo.length : Int)) + (↑q2.fst.length : Int))) (q3.fst) (0)) fun q9 =>
          Option.bind (
            F92 (q9)) fun q10 =>
          Option.bind (
            F93 (q10) (IntKind.i64.wrap (IntKind.i64.wrap (IntKind.i64.wrap (0 + (↑pseudo.length : Int)) + (↑q2.fst.length : Int)) + (↑q3.fst.length : Int))) ([0, 0]) (0)) fun q11 =>
          Option.bind (
            F92 (q11)) fun q12 =>
          Option.bind (
            F93 (q12) (IntKind.i64.wrap (IntKind.i64.wrap (IntKind.i64.wrap (IntKind.i64.wrap (0 + (↑pseudo.length : Int)) + (↑q2.fst.length : Int)) + (↑q3.fst.length : Int)) + 2)) (q4.fst) (0)) fun q13 =>
          Option.bind (
            F92 (q13)) fun q14 =>
          Option.bind (
            F93 (q14) (IntKind.i64.wrap (IntKind.i64.wrap (IntKind.i64.wrap (IntKind.i64.wrap (IntKind.i64.wrap (0 + (↑pseudo.length : Int)) + (↑q2.fst.length : Int)) + (↑q3.fst.length : Int)) + 2) + (↑q4.fst.length : Int))) (m.Data) (0)) fun q15 =>
          Option.bind (
            F92 (q15)) fun q16 =>
          some (IntKind.i64.wrap (65535 - q16))) fun q5 =>
        Option.bind (
          F84 (q5) (2)) fun q6 =>
        errK (q6.snd.fst) (
          gd (catOk q2.fst q3.fst) <|
          gd (catOk (q2.fst ++ q3.fst) q6.fst) <|
          gd (catOk (q2.fst ++ q3.fst ++ q6.fst) q4.fst) <|
          gd (catOk (q2.fst ++ q3.fst ++ q6.fst ++ q4.fst) m.Data) <|
          some ((q2.fst ++ q3.fst ++ q6.fst ++ q4.fst ++ m.Data, none, ()))) fun c7 p7 =>
          gd (catOk q2.fst q3.fst) <|
          gd (catOk (q2.fst ++ q3.fst) q6.fst) <|
          gd (catOk (q2.fst ++ q3.fst ++ q6.fst) q4.fst) <|
          gd (catOk (q2.fst ++ q3.fst ++ q6.fst ++ q4.fst) m.Data) <|
          some ((q2.fst ++ q3.fst ++ q6.fst ++ q4.fst ++ m.Data, some (c7, p7), ()))) fun c5 p5 =>
        some (([], some (c5, p5), ()))) fun c4 p4 =>
      some (([], some (c4, p4), ()))) fun c3 p3 =>
    some (([], some (c3, p3), ()))
theorem F67_ev : ∀ a, evTop Try.prog ⟨[d57, d84], inl_keeps8, keepIn keeps8, []⟩ 6 67 (CodL.val (CodL.cons (Cod.agg lMsg) (CodL.cons Cod.str CodL.nil)) a) (fun v => Cod.dec (Cod.tup (CodL.cons Cod.str (CodL.cons (Cod.err faultT) CodL.nil))) v some) = (fun a => F67 a.1 a.2.1) a := by
  intro a; kernel_rfl
noncomputable def d67 : Ctr Try.prog := Ctr.ofF 67 (CodL.cons (Cod.agg lMsg) (CodL.cons Cod.str CodL.nil)) (Cod.tup (CodL.cons Cod.str (CodL.cons (Cod.err faultT) CodL.nil))) (fun a => F67 a.1 a.2.1) (pcalls_of_ev mix noLoops F67_ev)
/-- interpreter/ip6.within -/
noncomputable def d116 : Ctr Try.prog := Ctr.evT mix [] inl_keeps8 (keepIn keeps8) 6 116 Cod.bool
/-- interpreter/ip6.kinds -/
noncomputable def d117 : Ctr Try.prog := Ctr.evT mix [d90] inl_keeps8 (keepIn keeps8) 6 117 Cod.bool
/-- interpreter/ip6.formed -/
noncomputable def d118 : Ctr Try.prog := Ctr.evT mix [d70] inl_keeps8 (keepIn keeps8) 6 118 Cod.bool
/-- interpreter/ip6.size -/
noncomputable def d119 : Ctr Try.prog := Ctr.evT mix [] inl_keeps8 (keepIn keeps8) 6 119 (Cod.int .i64)
/-- interpreter/ip6.why -/
noncomputable def d98 : Ctr Try.prog := Ctr.evT mix [d116, d117, d118, d119] inl_keeps8 (keepIn keeps8) 6 98 (Cod.int .i64)
/-- interpreter/ip6.big -/
def F99 (x : Int) (n : Int) : Option (List UInt8) :=
  Option.bind (
    F84 (x) (n)) fun q2 =>
  errK (q2.snd.fst) (
    some (q2.fst)) fun c3 p3 =>
    some (q2.fst)
theorem F99_ev : ∀ a, evTop Try.prog ⟨[d84], inl_keeps8, keepIn keeps8, []⟩ 6 99 (CodL.val (CodL.cons (Cod.int .i64) (CodL.cons (Cod.int .i64) CodL.nil)) a) (fun v => Cod.dec Cod.str v some) = (fun a => F99 a.1 a.2.1) a := by
  intro a; kernel_rfl
noncomputable def d99 : Ctr Try.prog := Ctr.ofF 99 (CodL.cons (Cod.int .i64) (CodL.cons (Cod.int .i64) CodL.nil)) Cod.str (fun a => F99 a.1 a.2.1) (pcalls_of_ev mix noLoops F99_ev)
/-- interpreter/ip6.Bytes -/
noncomputable def d68 : Ctr Try.prog := Ctr.evT mix [d69, d98, d99] inl_keeps8 (keepIn keeps8) 6 68 (Cod.tup (CodL.cons Cod.str (CodL.cons (Cod.err faultT) CodL.nil)))
/-- interpreter/fault.Own6 -/
def F26 (m : Msg) (packet : List UInt8) (x2_from : V6) (mtu : Int) : Option ((List UInt8) × Bool × Unit) :=
  Option.bind (
    F27 (packet)) fun q4 =>
  errK (q4.snd.fst) (
    gd (q4.fst.Exts.snd.fst.beq 2 || q4.fst.Exts.fst) <|
    Option.bind (
      Option.bind (
        F31 ({ Kind := m.Kind, Code := m.Code, Rest := m.Rest, Data := m.Data })) fun q5 =>
      bif !q5 then
        some (true)
      else
        bif ltI 0 q4.fst.At then
          some (true)
        else
          Option.bind (
            Option.bind (
              F97 ({ Addr := { b0 := 0, b1 := 0, b2 := 0, b3 := 0, b4 := 0, b5 := 0, b6 := 0, b7 := 0, b8 := 0, b9 := 0, b10 := 0, b11 := 0, b12 := 0, b13 := 0, b14 := 0, b15 := 0 }, Len := 128 }) ({ b0 := q4.fst.From.b0, b1 := q4.fst.From.b1, b2 := q4.fst.From.b2, b3 := q4.fst.From.b3, b4 := q4.fst.From.b4, b5 := q4.fst.From.b5, b6 := q4.fst.From.b6, b7 := q4.fst.From.b7, b8 := q4.fst.From.b8, b9 := q4.fst.From.b9, b10 := q4.fst.From.b10, b11 := q4.fst.From.b11, b12 := q4.fst.From.b12, b13 := q4.fst.From.b13, b14 := q4.fst.From.b14, b15 := q4.fst.From.b15 })) fun q6 =>
            bif q6 then
              some (true)
            else
              Option.bind (
                F97 ({ Addr := { b0 := 0, b1 := 0, b2 := 0, b3 := 0, b4 := 0, b5 := 0, b6 := 0, b7 := 0, b8 := 0, b9 := 0, b10 := 0, b11 := 0, b12 := 0, b13 := 0, b14 := 0, b15 := 1 }, Len := 128 }) ({ b0 := q4.fst.From.b0, b1 := q4.fst.From.b1, b2 := q4.fst.From.b2, b3 := q4.fst.From.b3, b4 := q4.fst.From.b4, b5 := q4.fst.From.b5, b6 := q4.fst.From.b6, b7 := q4.fst.From.b7, b8 := q4.fst.From.b8, b9 := q4.fst.From.b9, b10 := q4.fst.From.b10, b11 := q4.fst.From.b11, b12 := q4.fst.From.b12, b13 := q4.fst.From.b13, b14 := q4.fst.From.b14, b15 := q4.fst.From.b15 })) fun q7 =>
              bif q7 then
                some (true)
              else
                Option.bind (
                  F97 ({ Addr := { b0 := 0, b1 := 0, b2 := 0, b3 := 0, b4 := 0, b5 := 0, b6 := 0, b7 := 0, b8 := 0, b9 := 0, b10 := 255, b11 := 255, b12 := 0, b13 := 0, b14 := 0, b15 := 0 }, Len := 96 }) ({ b0 := q4.fst.From.b0, b1 := q4.fst.From.b1, b2 := q4.fst.From.b2, b3 := q4.fst.From.b3, b4 := q4.fst.From.b4, b5 := q4.fst.From.b5, b6 := q4.fst.From.b6, b7 := q4.fst.From.b7, b8 := q4.fst.From.b8, b9 := q4.fst.From.b9, b10 := q4.fst.From.b10, b11 := q4.fst.From.b11, b12 := q4.fst.From.b12, b13 := q4.fst.From.b13, b14 := q4.fst.From.b14, b15 := q4.fst.From.b15 })) fun q8 =>
                bif q8 then
                  some (true)
                else
                  Option.bind (
                    F97 ({ Addr := { b0 := 254, b1 := 128, b2 := 0, b3 := 0, b4 := 0, b5 := 0, b6 := 0, b7 := 0, b8 := 0, b9 := 0, b10 := 0, b11 := 0, b12 := 0, b13 := 0, b14 := 0, b15 := 0 }, Len := 10 }) ({ b0 := q4.fst.From.b0, b1 := q4.fst.From.b1, b2 := q4.fst.From.b2, b3 := q4.fst.From.b3, b4 := q4.fst.From.b4, b5 := q4.fst.From.b5, b6 := q4.fst.From.b6, b7 := q4.fst.From.b7, b8 := q4.fst.From.b8, b9 := q4.fst.From.b9, b10 := q4.fst.From.b10, b11 := q4.fst.From.b11, b12 := q4.fst.From.b12, b13 := q4.fst.From.b13, b14 := q4.fst.From.b14, b15 := q4.fst.From.b15 })) fun q9 =>
                  bif q9 then
                    some (true)
                  else
                    Option.bind (
                      F97 ({ Addr := { b0 := 255, b1 := 0, b2 := 0, b3 := 0, b4 := 0, b5 := 0, b6 := 0, b7 := 0, b8 := 0, b9 := 0, b10 := 0, b11 := 0, b12 := 0, b13 := 0, b14 := 0, b15 := 0 }, Len := 8 }) ({ b0 := q4.fst.From.b0, b1 := q4.fst.From.b1, b2 := q4.fst.From.b2, b3 := q4.fst.From.b3, b4 := q4.fst.From.b4, b5 := q4.fst.From.b5, b6 := q4.fst.From.b6, b7 := q4.fst.From.b7, b8 := q4.fst.From.b8, b9 := q4.fst.From.b9, b10 := q4.fst.From.b10, b11 := q4.fst.From.b11, b12 := q4.fst.From.b12, b13 := q4.fst.From.b13, b14 := q4.fst.From.b14, b15 := q4.fst.From.b15 })) fun q10 =>
                    bif q10 then
                      some (true)
                    else
                      some (false)) fun q6 =>
          bif q6 then
            some (true)
          else
            bif ltI mtu 1280 then
              some (true)
            else
              some (ltI 65575 mtu)) fun q5 =>
    bif q5 then
      some (([], false, ()))
    else
      Option.bind (
        bif !m.Kind == 2 then
          some (q4.fst.To.b0 == 255)
        else
          some (false)) fun q6 =>
      bif q6 then
        some (([], false, ()))
      else
        Option.bind (
          bif q4.fst.Proto == 58 then
            bif q4.fst.Data == [] then
              some (true)
            else
              gd (inB 0 q4.fst.Data.length) <|
              some (ltI (bt q4.fst.Data 0) 128)
          else
            some (false)) fun q7 =>
        bif q7 then
          some (([], false, ()))
        else
          Option.bind (
            F66 ({ Class := q4.fst.Class, Flow := q4.fst.Flow, Hop := q4.fst.Hop, From := { b0 := q4.fst.From.b0, b1 := q4.fst.From.b1, b2 := q4.fst.From.b2, b3 := q4.fst.From.b3, b4 := q4.fst.From.b4, b5 := q4.fst.From.b5, b6 := q4.fst.From.b6, b7 := q4.fst.From.b7, b8 := q4.fst.From.b8, b9 := q4.fst.From.b9, b10 := q4.fst.From.b10, b11 := q4.fst.From.b11, b12 := q4.fst.From.b12, b13 := q4.fst.From.b13, b14 := q4.fst.From.b14, b15 := q4.fst.From.b15 }, To := { b0 := q4.fst.To.b0, b1 := q4.fst.To.b1, b2 := q4.fst.To.b2, b3 := q4.fst.To.b3, b4 := q4.fst.To.b4, b5 := q4.fst.To.b5, b6 := q4.fst.To.b6, b7 := q4.fst.To.b7, b8 := q4.fst.To.b8, b9 := q4.fst.To.b9, b10 := q4.fst.To.b10, b11 := q4.fst.To.b11, b12 := q4.fst.To.b12, b13 := q4.fst.To.b13, b14 := q4.fst.To.b14, b15 := q4.fst.To.b15 }, Exts := (q4.fst.Exts.fst, 2, q4.fst.Exts.snd.snd), Frag := q4.fst.Frag, Id := q4.fst.Id, At := q4.fst.At, More := q4.fst.More, Proto := q4.fst.Proto, Data := q4.fst.Data })) fun q8 =>
          gd (ordB 0 q8 packet.length) <|
          Option.bind (
            F38 (sub packet none (some (V.int IntKind.i64 q8)) 0 q8.toNat) (IntKind.i64.wrap (q8 - (↑q4.fst.Data.length : Int))) (1232)) fun q9 =>
          Option.bind (
            F29 ({ b0 := x2_from.b0, b1 := x2_from.b1, b2 := x2_from.b2, b3 := x2_from.b3, b4 := x2_from.b4, b5 := x2_from.b5, b6 := x2_from.b6, b7 := x2_from.b7, b8 := x2_from.b8, b9 := x2_from.b9, b10 := x2_from.b10, b11 := x2_from.b11, b12 := x2_from.b12, b13 := x2_from.b13, b14 := x2_from.b14, b15 := x2_from.b15 }) ({ b0 := q4.fst.From.b0, b1 := q4.fst.From.b1, b2 := q4.fst.From.b2, b3 := q4.fst.From.b3, b4 := q4.fst.From.b4, b5 := q4.fst.From.b5, b6 := q4.fst.From.b6, b7 := q4.fst.From.b7, b8 := q4.fst.From.b8, b9 := q4.fst.From.b9, b10 := q4.fst.From.b10, b11 := q4.fst.From.b11, b12 := q4.fst.From.b12, b13 := q4.fst.From.b13, b14 := q4.fst.From.b14, b15 := q4.fst.From.b15 }) (58) (IntKind.i64.wrap (8 + (↑q9.fst.length : Int)))) fun q10 =>
          Option.bind (
            F67 ({ Kind := m.Kind, Code := m.Code, Rest := m.Rest, Data := q9.fst }) (q10)) fun q11 =>
          errK (q11.snd.fst) (
            Option.bind (
              bif !q9.snd.fst then
                some (true)
              else
                some (false)) fun q12 =>
            bif q12 then
              some (([], false, ()))
            else
              Option.bind (
                Option.bind (
                  Option.bind (
                    Option.bind (
                      F90 (58)) fun q13 =>
                    bif !q13 then
                      some (true)
                    else
                      some (false)) fun q13 =>
                  bif !q13 then
                    some (10)
                  else
                    Option.bind (
                      bif ltI 65535 (↑q11.fst.length : Int) then
                        some (true)
                      else
                        some (ltI 65535 (↑q11.fst.length : Int))) fun q14 =>
                    bif q14 then
                      some (3)
                    else
                      some (0)) fun q13 =>
                bif !q13 == 0 then
                  Option.bind (
                    F69 (q13)) fun q14 =>
                  errK (q14) (
                    some (([], none, ()))) fun c15 p15 =>
                    some (([], some (c15, p15), ()))
                else
                  Option.bind (
                    F99 (1610612736) (4)) fun q14 =>
                  Option.bind (
                    F99 ((↑q11.fst.length : Int)) (2)) fun q15 =>
                  gd (catOk q14 q15) <|
                  Option.bind (
                    F99 (58) (1)) fun q16 =>
                  gd (catOk (q14 ++ q15) q16) <|
                  Option.bind (
                    F99 (64) (1)) fun q17 =>
                  gd (catOk (q14 ++ q15 ++ q16) q17) <|
                  gd (catOk (q14 ++ q15 ++ q16 ++ q17) [UInt8.ofNat x2_from.b0.toNat, UInt8.ofNat x2_from.b1.toNat, UInt8.ofNat x2_from.b2.toNat, UInt8.ofNat x2_from.b3.toNat, UInt8.ofNat x2_from.b4.toNat, UInt8.ofNat x2_from.b5.toNat, UInt8.ofNat x2_from.b6.toNat, UInt8.ofNat x2_from.b7.toNat, UInt8.ofNat x2_from.b8.toNat, UInt8.ofNat x2_from.b9.toNat, UInt8.ofNat x2_from.b10.toNat, UInt8.ofNat x2_from.b11.toNat, UInt8.ofNat x2_from.b12.toNat, UInt8.ofNat x2_from.b13.toNat, UInt8.ofNat x2_from.b14.toNat, UInt8.ofNat x2_from.b15.toNat]) <|
                  gd (catOk (q14 ++ q15 ++ q16 ++ q17 ++ [UInt8.ofNat x2_from.b0.toNat, UInt8.ofNat x2_from.b1.toNat, UInt8.ofNat x2_from.b2.toNat, UInt8.ofNat x2_from.b3.toNat, UInt8.ofNat x2_from.b4.toNat, UInt8.ofNat x2_from.b5.toNat, UInt8.ofNat x2_from.b6.toNat, UInt8.ofNat x2_from.b7.toNat, UInt8.ofNat x2_from.b8.toNat, UInt8.ofNat x2_from.b9.toNat, UInt8.ofNat x2_from.b10.toNat, UInt8.ofNat x2_from.b11.toNat, UInt8.ofNat x2_from.b12.toNat, UInt8.ofNat x2_from.b13.toNat, UInt8.ofNat x2_from.b14.toNat, UInt8.ofNat x2_from.b15.toNat]) [UInt8.ofNat q4.fst.From.b0.toNat, UInt8.ofNat q4.fst.From.b1.toNat, UInt8.ofNat q4.fst.From.b2.toNat, UInt8.ofNat q4.fst.From.b3.toNat, UInt8.ofNat q4.fst.From.b4.toNat, UInt8.ofNat q4.fst.From.b5.toNat, UInt8.ofNat q4.fst.From.b6.toNat, UInt8.ofNat q4.fst.From.b7.toNat, UInt8.ofNat q4.fst.From.b8.toNat, UInt8.ofNat q4.fst.From.b9.toNat, UInt8.ofNat q4.fst.From.b10.toNat, UInt8.ofNat q4.fst.From.b11.toNat, UInt8.ofNat q4.fst.From.b12.toNat, UInt8.ofNat q4.fst.From.b13.toNat, UInt8.ofNat q4.fst.From.b14.toNat, UInt8.ofNat q4.fst.From.b15.toNat]) <|
                  gd (catOk (q14 ++ q15 ++ q16 ++ q17 ++ [UInt8.ofNat x2_from.b0.toNat, UInt8.ofNat x2_from.b1.toNat, UInt8.ofNat x2_from.b2.toNat, UInt8.ofNat x2_from.b3.toNat, UInt8.ofNat x2_from.b4.toNat, UInt8.ofNat x2_from.b5.toNat, UInt8.ofNat x2_from.b6.toNat, UInt8.ofNat x2_from.b7.toNat, UInt8.ofNat x2_from.b8.toNat, UInt8.ofNat x2_from.b9.toNat, UInt8.ofNat x2_from.b10.toNat, UInt8.ofNat x2_from.b11.toNat, UInt8.ofNat x2_from.b12.toNat, UInt8.ofNat x2_from.b13.toNat, UInt8.ofNat x2_from.b14.toNat, UInt8.ofNat x2_from.b15.toNat] ++ [UInt8.ofNat q4.fst.From.b0.toNat, UInt8.ofNat q4.fst.From.b1.toNat, UInt8.ofNat q4.fst.From.b2.toNat, UInt8.ofNat q4.fst.From.b3.toNat, UInt8.ofNat q4.fst.From.b4.toNat, UInt8.ofNat q4.fst.From.b5.toNat, UInt8.ofNat q4.fst.From.b6.toNat, UInt8.ofNat q4.fst.From.b7.toNat, UInt8.ofNat q4.fst.From.b8.toNat, UInt8.ofNat q4.fst.From.b9.toNat, UInt8.ofNat q4.fst.From.b10.toNat, UInt8.ofNat q4.fst.From.b11.toNat, UInt8.ofNat q4.fst.From.b12.toNat, UInt8.ofNat q4.fst.From.b13.toNat, UInt8.ofNat q4.fst.From.b14.toNat, UInt8.ofNat q4.fst.From.b15.toNat]) q11.fst) <|
                  some ((q14 ++ q15 ++ q16 ++ q17 ++ [UInt8.ofNat x2_from.b0.toNat, UInt8.ofNat x2_from.b1.toNat, UInt8.ofNat x2_from.b2.toNat, UInt8.ofNat x2_from.b3.toNat, UInt8.ofNat x2_from.b4.toNat, UInt8.ofNat x2_from.b5.toNat, UInt8.ofNat x2_from.b6.toNat, UInt8.ofNat x2_from.b7.toNat, UInt8.ofNat x2_from.b8.toNat, UInt8.ofNat x2_from.b9.toNat, UInt8.ofNat x2_from.b10.toNat, UInt8.ofNat x2_from.b11.toNat, UInt8.ofNat x2_from.b12.toNat, UInt8.ofNat x2_from.b13.toNat, UInt8.ofNat x2_from.b14.toNat, UInt8.ofNat x2_from.b15.toNat] ++ [UInt8.ofNat q4.fst.From.b0.toNat, UInt8.ofNat q4.fst.From.b1.toNat, UInt8.ofNat q4.fst.From.b2.toNat, UInt8.ofNat q4.fst.From.b3.toNat, UInt8.ofNat q4.fst.From.b4.toNat, UInt8.ofNat q4.fst.From.b5.toNat, UInt8.ofNat q4.fst.From.b6.toNat, UInt8.ofNat q4.fst.From.b7.toNat, UInt8.ofNat q4.fst.From.b8.toNat, UInt8.ofNat q4.fst.From.b9.toNat, UInt8.ofNat q4.fst.From.b10.toNat, UInt8.ofNat q4.fst.From.b11.toNat, UInt8.ofNat q4.fst.From.b12.toNat, UInt8.ofNat q4.fst.From.b13.toNat, UInt8.ofNat q4.fst.From.b14.toNat, UInt8.ofNat q4.fst.From.b15.toNat] ++ q11.fst, none, ()))) fun q13 =>
              errK (q13.snd.fst) (
                some ((q13.fst, true, ()))) fun c14 p14 =>
                some ((q13.fst, false, ()))) fun c12 p12 =>
            Option.bind (
              bif !q9.snd.fst then
                some (true)
              else
                some (true)) fun q14 =>
            bif q14 then
              some (([], false, ()))
            else
              Option.bind (
                Option.bind (
                  Option.bind (
                    Option.bind (
                      F90 (58)) fun q15 =>
                    bif !q15 then
                      some (true)
                    else
                      some (false)) fun q15 =>
                  bif !q15 then
                    some (10)
                  else
                    Option.bind (
                      bif ltI 65535 (↑q11.fst.length : Int) then
                        some (true)
                      else
                        some (ltI 65535 (↑q11.fst.length : Int))) fun q16 =>
                    bif q16 then
                      some (3)
                    else
                      some (0)) fun q15 =>
                bif !q15 == 0 then
                  Option.bind (
                    F69 (q15)) fun q16 =>
                  errK (q16) (
                    some (([], none, ()))) fun c17 p17 =>
                    some (([], some (c17, p17), ()))
                else
                  Option.bind (
                    F99 (1610612736) (4)) fun q16 =>
                  Option.bind (
                    F99 ((↑q11.fst.length : Int)) (2)) fun q17 =>
                  gd (catOk q16 q17) <|
                  Option.bind (
                    F99 (58) (1)) fun q18 =>
                  gd (catOk (q16 ++ q17) q18) <|
                  Option.bind (
                    F99 (64) (1)) fun q19 =>
                  gd (catOk (q16 ++ q17 ++ q18) q19) <|
                  gd (catOk (q16 ++ q17 ++ q18 ++ q19) [UInt8.ofNat x2_from.b0.toNat, UInt8.ofNat x2_from.b1.toNat, UInt8.ofNat x2_from.b2.toNat, UInt8.ofNat x2_from.b3.toNat, UInt8.ofNat x2_from.b4.toNat, UInt8.ofNat x2_from.b5.toNat, UInt8.ofNat x2_from.b6.toNat, UInt8.ofNat x2_from.b7.toNat, UInt8.ofNat x2_from.b8.toNat, UInt8.ofNat x2_from.b9.toNat, UInt8.ofNat x2_from.b10.toNat, UInt8.ofNat x2_from.b11.toNat, UInt8.ofNat x2_from.b12.toNat, UInt8.ofNat x2_from.b13.toNat, UInt8.ofNat x2_from.b14.toNat, UInt8.ofNat x2_from.b15.toNat]) <|
                  gd (catOk (q16 ++ q17 ++ q18 ++ q19 ++ [UInt8.ofNat x2_from.b0.toNat, UInt8.ofNat x2_from.b1.toNat, UInt8.ofNat x2_from.b2.toNat, UInt8.ofNat x2_from.b3.toNat, UInt8.ofNat x2_from.b4.toNat, UInt8.ofNat x2_from.b5.toNat, UInt8.ofNat x2_from.b6.toNat, UInt8.ofNat x2_from.b7.toNat, UInt8.ofNat x2_from.b8.toNat, UInt8.ofNat x2_from.b9.toNat, UInt8.ofNat x2_from.b10.toNat, UInt8.ofNat x2_from.b11.toNat, UInt8.ofNat x2_from.b12.toNat, UInt8.ofNat x2_from.b13.toNat, UInt8.ofNat x2_from.b14.toNat, UInt8.ofNat x2_from.b15.toNat]) [UInt8.ofNat q4.fst.From.b0.toNat, UInt8.ofNat q4.fst.From.b1.toNat, UInt8.ofNat q4.fst.From.b2.toNat, UInt8.ofNat q4.fst.From.b3.toNat, UInt8.ofNat q4.fst.From.b4.toNat, UInt8.ofNat q4.fst.From.b5.toNat, UInt8.ofNat q4.fst.From.b6.toNat, UInt8.ofNat q4.fst.From.b7.toNat, UInt8.ofNat q4.fst.From.b8.toNat, UInt8.ofNat q4.fst.From.b9.toNat, UInt8.ofNat q4.fst.From.b10.toNat, UInt8.ofNat q4.fst.From.b11.toNat, UInt8.ofNat q4.fst.From.b12.toNat, UInt8.ofNat q4.fst.From.b13.toNat, UInt8.ofNat q4.fst.From.b14.toNat, UInt8.ofNat q4.fst.From.b15.toNat]) <|
                  gd (catOk (q16 ++ q17 ++ q18 ++ q19 ++ [UInt8.ofNat x2_from.b0.toNat, UInt8.ofNat x2_from.b1.toNat, UInt8.ofNat x2_from.b2.toNat, UInt8.ofNat x2_from.b3.toNat, UInt8.ofNat x2_from.b4.toNat, UInt8.ofNat x2_from.b5.toNat, UInt8.ofNat x2_from.b6.toNat, UInt8.ofNat x2_from.b7.toNat, UInt8.ofNat x2_from.b8.toNat, UInt8.ofNat x2_from.b9.toNat, UInt8.ofNat x2_from.b10.toNat, UInt8.ofNat x2_from.b11.toNat, UInt8.ofNat x2_from.b12.toNat, UInt8.ofNat x2_from.b13.toNat, UInt8.ofNat x2_from.b14.toNat, UInt8.ofNat x2_from.b15.toNat] ++ [UInt8.ofNat q4.fst.From.b0.toNat, UInt8.ofNat q4.fst.From.b1.toNat, UInt8.ofNat q4.fst.From.b2.toNat, UInt8.ofNat q4.fst.From.b3.toNat, UInt8.ofNat q4.fst.From.b4.toNat, UInt8.ofNat q4.fst.From.b5.toNat, UInt8.ofNat q4.fst.From.b6.toNat, UInt8.ofNat q4.fst.From.b7.toNat, UInt8.ofNat q4.fst.From.b8.toNat, UInt8.ofNat q4.fst.From.b9.toNat, UInt8.ofNat q4.fst.From.b10.toNat, UInt8.ofNat q4.fst.From.b11.toNat, UInt8.ofNat q4.fst.From.b12.toNat, UInt8.ofNat q4.fst.From.b13.toNat, UInt8.ofNat q4.fst.From.b14.toNat, UInt8.ofNat q4.fst.From.b15.toNat]) q11.fst) <|
                  some ((q16 ++ q17 ++ q18 ++ q19 ++ [UInt8.ofNat x2_from.b0.toNat, UInt8.ofNat x2_from.b1.toNat, UInt8.ofNat x2_from.b2.toNat, UInt8.ofNat x2_from.b3.toNat, UInt8.ofNat x2_from.b4.toNat, UInt8.ofNat x2_from.b5.toNat, UInt8.ofNat x2_from.b6.toNat, UInt8.ofNat x2_from.b7.toNat, UInt8.ofNat x2_from.b8.toNat, UInt8.ofNat x2_from.b9.toNat, UInt8.ofNat x2_from.b10.toNat, UInt8.ofNat x2_from.b11.toNat, UInt8.ofNat x2_from.b12.toNat, UInt8.ofNat x2_from.b13.toNat, UInt8.ofNat x2_from.b14.toNat, UInt8.ofNat x2_from.b15.toNat] ++ [UInt8.ofNat q4.fst.From.b0.toNat, UInt8.ofNat q4.fst.From.b1.toNat, UInt8.ofNat q4.fst.From.b2.toNat, UInt8.ofNat q4.fst.From.b3.toNat, UInt8.ofNat q4.fst.From.b4.toNat, UInt8.ofNat q4.fst.From.b5.toNat, UInt8.ofNat q4.fst.From.b6.toNat, UInt8.ofNat q4.fst.From.b7.toNat, UInt8.ofNat q4.fst.From.b8.toNat, UInt8.ofNat q4.fst.From.b9.toNat, UInt8.ofNat q4.fst.From.b10.toNat, UInt8.ofNat q4.fst.From.b11.toNat, UInt8.ofNat q4.fst.From.b12.toNat, UInt8.ofNat q4.fst.From.b13.toNat, UInt8.ofNat q4.fst.From.b14.toNat, UInt8.ofNat q4.fst.From.b15.toNat] ++ q11.fst, none, ()))) fun q15 =>
              errK (q15.snd.fst) (
                some ((q15.fst, true, ()))) fun c16 p16 =>
                some ((q15.fst, false, ()))) fun c5 p5 =>
    gd (q4.fst.Exts.snd.fst.beq 2 || q4.fst.Exts.fst) <|
    some (([], false, ()))
theorem F26_ev : ∀ a, evTop Try.prog ⟨[d27, d29, d31, d38, d65, d66, d67, d68], inl_keeps8, keepIn keeps8, []⟩ 6 26 (CodL.val (CodL.cons (Cod.agg lMsg) (CodL.cons Cod.str (CodL.cons (Cod.agg lV6) (CodL.cons (Cod.int .i64) CodL.nil)))) a) (fun v => Cod.dec (Cod.tup (CodL.cons Cod.str (CodL.cons Cod.bool CodL.nil))) v some) = (fun a => F26 a.1 a.2.1 a.2.2.1 a.2.2.2.1) a := by
  intro a; kernel_rfl
noncomputable def d26 : Ctr Try.prog := Ctr.ofF 26 (CodL.cons (Cod.agg lMsg) (CodL.cons Cod.str (CodL.cons (Cod.agg lV6) (CodL.cons (Cod.int .i64) CodL.nil)))) (Cod.tup (CodL.cons Cod.str (CodL.cons Cod.bool CodL.nil))) (fun a => F26 a.1 a.2.1 a.2.2.1 a.2.2.2.1) (pcalls_of_ev mix noLoops F26_ev)
/-- interpreter/icmp6.fault -/
def F71 (e : Int) : Option (Err) :=
  some (some (e, 0))
theorem F71_ev : ∀ a, evTop Try.prog ⟨[], inl_keeps8, keepIn keeps8, []⟩ 6 71 (CodL.val (CodL.cons (Cod.int .i64) CodL.nil) a) (fun v => Cod.dec (Cod.err faultT) v some) = (fun a => F71 a.1) a := by
  intro a; kernel_rfl
noncomputable def d71 : Ctr Try.prog := Ctr.ofF 71 (CodL.cons (Cod.int .i64) CodL.nil) (Cod.err faultT) (fun a => F71 a.1) (pcalls_of_ev mix noLoops F71_ev)
/-- interpreter/icmp6.Parse -/
def F28 (s : List UInt8) (pseudo : List UInt8) : Option (Msg × Err × Unit) :=
  bif ltI (↑s.length : Int) 8 then
    Option.bind (
      F71 (7)) fun q2 =>
    errK (q2) (
      some (({ Kind := 0, Code := 0, Rest := 0, Data := [] }, none, ()))) fun c3 p3 =>
      some (({ Kind := 0, Code := 0, Rest := 0, Data := [] }, some (c3, p3), ()))
  else
    Option.bind (
      Option.bind (
        Option.bind (
          F93 (0) (0) (pseudo) (0)) fun q2 =>
        Option.bind (
          F92 (q2)) fun q3 =>
        Option.bind (
          F93 (q3) (IntKind.i64.wrap (0 + (↑pseudo.length : Int))) (s) (0)) fun q4 =>
        Option.bind (
          F92 (q4)) fun q5 =>
        some (IntKind.i64.wrap (65535 - q5))) fun q2 =>
      some (q2 == 0)) fun q2 =>
    bif !q2 then
      Option.bind (
        F71 (9)) fun q3 =>
      errK (q3) (
        some (({ Kind := 0, Code := 0, Rest := 0, Data := [] }, none, ()))) fun c4 p4 =>
        some (({ Kind := 0, Code := 0, Rest := 0, Data := [] }, some (c4, p4), ()))
    else
      gd (ordB 4 (↑s.length : Int) s.length) <|
      bif ltI (IntKind.i64.wrap ((↑(sub s (some (V.int IntKind.i64 4)) none 4 (↑s.length : Int).toNat).length : Int) - 0)) 4 then
        gd (inB 0 s.length) <|
        gd (inB 1 s.length) <|
        gd (ordB 8 (↑s.length : Int) s.length) <|
        some (({ Kind := IntKind.i64.wrap (bt s 0), Code := IntKind.i64.wrap (bt s 1), Rest := 0, Data := sub s (some (V.int IntKind.i64 8)) none 8 (↑s.length : Int).toNat }, some (7, 0), ()))
      else
        gd (ordB 0 4 (sub s (some (V.int IntKind.i64 4)) none 4 (↑s.length : Int).toNat).length) <|
        gd (inB 0 s.length) <|
        gd (inB 1 s.length) <|
        gd (ordB 8 (↑s.length : Int) s.length) <|
        some (({ Kind := IntKind.i64.wrap (bt s 0), Code := IntKind.i64.wrap (bt s 1), Rest := IntKind.u32.wrap (ior IntKind.i64 (IntKind.i64.wrap (ior IntKind.i64 (IntKind.i64.wrap (ior IntKind.i64 (IntKind.i64.wrap (ior IntKind.i64 0 (IntKind.i64.wrap (bt (sub (sub s (some (V.int IntKind.i64 4)) none 4 (↑s.length : Int).toNat) (some (V.int IntKind.i64 0)) (some (V.int IntKind.i64 4)) 0 4) 0)) * 256)) (IntKind.i64.wrap (bt (sub (sub s (some (V.int IntKind.i64 4)) none 4 (↑s.length : Int).toNat) (some (V.int IntKind.i64 0)) (some (V.int IntKind.i64 4)) 0 4) 1)) * 256)) (IntKind.i64.wrap (bt (sub (sub s (some (V.int IntKind.i64 4)) none 4 (↑s.length : Int).toNat) (some (V.int IntKind.i64 0)) (some (V.int IntKind.i64 4)) 0 4) 2)) * 256)) (IntKind.i64.wrap (bt (sub (sub s (some (V.int IntKind.i64 4)) none 4 (↑s.length : Int).toNat) (some (V.int IntKind.i64 0)) (some (V.int IntKind.i64 4)) 0 4) 3))), Data := sub s (some (V.int IntKind.i64 8)) none 8 (↑s.length : Int).toNat }, none, ()))
theorem F28_ev : ∀ a, evTop Try.prog ⟨[d42, d71], inl_keeps8, keepIn keeps8, []⟩ 6 28 (CodL.val (CodL.cons Cod.str (CodL.cons Cod.str CodL.nil)) a) (fun v => Cod.dec (Cod.tup (CodL.cons (Cod.agg lMsg) (CodL.cons (Cod.err faultT) CodL.nil))) v some) = (fun a => F28 a.1 a.2.1) a := by
  intro a; kernel_rfl
noncomputable def d28 : Ctr Try.prog := Ctr.ofF 28 (CodL.cons Cod.str (CodL.cons Cod.str CodL.nil)) (Cod.tup (CodL.cons (Cod.agg lMsg) (CodL.cons (Cod.err faultT) CodL.nil))) (fun a => F28 a.1 a.2.1) (pcalls_of_ev mix noLoops F28_ev)
/-- interpreter/interpreterlaw15.FaultFits -/
def F8 (m : Msg) (s : List UInt8) (a : V4) (x : V6) (x4_id : Int) (mtu4 : Int) (mtu6 : Int) : Option (Bool) :=
  bif ltI 70000 (↑s.length : Int) then
    some (true)
  else
    Option.bind (
      F12 ({ Kind := m.Kind, Code := m.Code, Rest := m.Rest, Data := m.Data }) (s) ({ b0 := a.b0, b1 := a.b1, b2 := a.b2, b3 := a.b3 }) (x4_id) (mtu4)) fun q7 =>
    bif q7.snd.fst then
      Option.bind (
        F24 (q7.fst)) fun q8 =>
      errK (q8.snd.fst) (
        Option.bind (
          F25 (q8.fst.Data)) fun q9 =>
        errK (q9.snd.fst) (
          Option.bind (
            F12 ({ Kind := m.Kind, Code := m.Code, Rest := m.Rest, Data := m.Data }) (q7.fst) ({ b0 := a.b0, b1 := a.b1, b2 := a.b2, b3 := a.b3 }) (x4_id) (mtu4)) fun q10 =>
          Option.bind (
            bif ltI 576 (↑q7.fst.length : Int) then
              some (true)
            else
              bif ltI mtu4 (↑q7.fst.length : Int) then
                some (true)
              else
                bif !(q8.fst.From.b0 == a.b0 && (q8.fst.From.b1 == a.b1 && (q8.fst.From.b2 == a.b2 && (q8.fst.From.b3 == a.b3 && true)))) then
                  some (true)
                else
                  bif !q9.fst.Kind == m.Kind then
                    some (true)
                  else
                    bif !q9.fst.Code == m.Code then
                      some (true)
                    else
                      bif !q9.fst.Rest == m.Rest then
                        some (true)
                      else
                        bif ltI (↑s.length : Int) (↑q9.fst.Data.length : Int) then
                          some (true)
                        else
                          gd (ordB 0 (↑q9.fst.Data.length : Int) s.length) <|
                          bif !q9.fst.Data == sub s none (some (V.int IntKind.i64 (↑q9.fst.Data.length : Int))) 0 (↑q9.fst.Data.length : Int).toNat then
                            some (true)
                          else
                            some (q10.snd.fst)) fun q11 =>
          bif q11 then
            some (false)
          else
            Option.bind (
              F26 ({ Kind := m.Kind, Code := m.Code, Rest := m.Rest, Data := m.Data }) (s) ({ b0 := x.b0, b1 := x.b1, b2 := x.b2, b3 := x.b3, b4 := x.b4, b5 := x.b5, b6 := x.b6, b7 := x.b7, b8 := x.b8, b9 := x.b9, b10 := x.b10, b11 := x.b11, b12 := x.b12, b13 := x.b13, b14 := x.b14, b15 := x.b15 }) (mtu6)) fun q12 =>
            bif !q12.snd.fst then
              bif q7.snd.fst then
                some (q12.fst == [])
              else
                bif q7.fst == [] then
                  some (q12.fst == [])
                else
                  some (false)
            else
              Option.bind (
                F27 (q12.fst)) fun q13 =>
              errK (q13.snd.fst) (
                gd (q13.fst.Exts.snd.fst.beq 2 || q13.fst.Exts.fst) <|
                Option.bind (
                  F29 ({ b0 := q13.fst.From.b0, b1 := q13.fst.From.b1, b2 := q13.fst.From.b2, b3 := q13.fst.From.b3, b4 := q13.fst.From.b4, b5 := q13.fst.From.b5, b6 := q13.fst.From.b6, b7 := q13.fst.From.b7, b8 := q13.fst.From.b8, b9 := q13.fst.From.b9, b10 := q13.fst.From.b10, b11 := q13.fst.From.b11, b12 := q13.fst.From.b12, b13 := q13.fst.From.b13, b14 := q13.fst.From.b14, b15 := q13.fst.From.b15 }) ({ b0 := q13.fst.To.b0, b1 := q13.fst.To.b1, b2 := q13.fst.To.b2, b3 := q13.fst.To.b3, b4 := q13.fst.To.b4, b5 := q13.fst.To.b5, b6 := q13.fst.To.b6, b7 := q13.fst.To.b7, b8 := q13.fst.To.b8, b9 := q13.fst.To.b9, b10 := q13.fst.To.b10, b11 := q13.fst.To.b11, b12 := q13.fst.To.b12, b13 := q13.fst.To.b13, b14 := q13.fst.To.b14, b15 := q13.fst.To.b15 }) (58) ((↑q13.fst.Data.length : Int))) fun q14 =>
                Option.bind (
                  F28 (q13.fst.Data) (q14)) fun q15 =>
                errK (q15.snd.fst) (
                  Option.bind (
                    F26 ({ Kind := m.Kind, Code := m.Code, Rest := m.Rest, Data := m.Data }) (q12.fst) ({ b0 := x.b0, b1 := x.b1, b2 := x.b2, b3 := x.b3, b4 := x.b4, b5 := x.b5, b6 := x.b6, b7 := x.b7, b8 := x.b8, b9 := x.b9, b10 := x.b10, b11 := x.b11, b12 := x.b12, b13 := x.b13, b14 := x.b14, b15 := x.b15 }) (mtu6)) fun q16 =>
                  bif leI (↑q12.fst.length : Int) 1280 then
                    bif leI (↑q12.fst.length : Int) mtu6 then
                      bif q13.fst.From.b0 == x.b0 && (q13.fst.From.b1 == x.b1 && (q13.fst.From.b2 == x.b2 && (q13.fst.From.b3 == x.b3 && (q13.fst.From.b4 == x.b4 && (q13.fst.From.b5 == x.b5 && (q13.fst.From.b6 == x.b6 && (q13.fst.From.b7 == x.b7 && (q13.fst.From.b8 == x.b8 && (q13.fst.From.b9 == x.b9 && (q13.fst.From.b10 == x.b10 && (q13.fst.From.b11 == x.b11 && (q13.fst.From.b12 == x.b12 && (q13.fst.From.b13 == x.b13 && (q13.fst.From.b14 == x.b14 && (q13.fst.From.b15 == x.b15 && true))))))))))))))) then
                        bif q15.fst.Kind == m.Kind then
                          bif q15.fst.Code == m.Code then
                            bif q15.fst.Rest == m.Rest then
                              bif leI (↑q15.fst.Data.length : Int) (↑s.length : Int) then
                                gd (ordB 0 (↑q15.fst.Data.length : Int) s.length) <|
                                bif q15.fst.Data == sub s none (some (V.int IntKind.i64 (↑q15.fst.Data.length : Int))) 0 (↑q15.fst.Data.length : Int).toNat then
                                  some (!q16.snd.fst)
                                else
                                  some (false)
                              else
                                some (false)
                            else
                              some (false)
                          else
                            some (false)
                        else
                          some (false)
                      else
                        some (false)
                    else
                      some (false)
                  else
                    some (false)) fun c16 p16 =>
                  Option.bind (
                    F26 ({ Kind := m.Kind, Code := m.Code, Rest := m.Rest, Data := m.Data }) (q12.fst) ({ b0 := x.b0, b1 := x.b1, b2 := x.b2, b3 := x.b3, b4 := x.b4, b5 := x.b5, b6 := x.b6, b7 := x.b7, b8 := x.b8, b9 := x.b9, b10 := x.b10, b11 := x.b11, b12 := x.b12, b13 := x.b13, b14 := x.b14, b15 := x.b15 }) (mtu6)) fun q18 =>
                  some (false)) fun c14 p14 =>
                gd (q13.fst.Exts.snd.fst.beq 2 || q13.fst.Exts.fst) <|
                Option.bind (
                  F29 ({ b0 := q13.fst.From.b0, b1 := q13.fst.From.b1, b2 := q13.fst.From.b2, b3 := q13.fst.From.b3, b4 := q13.fst.From.b4, b5 := q13.fst.From.b5, b6 := q13.fst.From.b6, b7 := q13.fst.From.b7, b8 := q13.fst.From.b8, b9 := q13.fst.From.b9, b10 := q13.fst.From.b10, b11 := q13.fst.From.b11, b12 := q13.fst.From.b12, b13 := q13.fst.From.b13, b14 := q13.fst.From.b14, b15 := q13.fst.From.b15 }) ({ b0 := q13.fst.To.b0, b1 := q13.fst.To.b1, b2 := q13.fst.To.b2, b3 := q13.fst.To.b3, b4 := q13.fst.To.b4, b5 := q13.fst.To.b5, b6 := q13.fst.To.b6, b7 := q13.fst.To.b7, b8 := q13.fst.To.b8, b9 := q13.fst.To.b9, b10 := q13.fst.To.b10, b11 := q13.fst.To.b11, b12 := q13.fst.To.b12, b13 := q13.fst.To.b13, b14 := q13.fst.To.b14, b15 := q13.fst.To.b15 }) (58) ((↑q13.fst.Data.length : Int))) fun q16 =>
                Option.bind (
                  F28 (q13.fst.Data) (q16)) fun q17 =>
                errK (q17.snd.fst) (
                  Option.bind (
                    F26 ({ Kind := m.Kind, Code := m.Code, Rest := m.Rest, Data := m.Data }) (q12.fst) ({ b0 := x.b0, b1 := x.b1, b2 := x.b2, b3 := x.b3, b4 := x.b4, b5 := x.b5, b6 := x.b6, b7 := x.b7, b8 := x.b8, b9 := x.b9, b10 := x.b10, b11 := x.b11, b12 := x.b12, b13 := x.b13, b14 := x.b14, b15 := x.b15 }) (mtu6)) fun q18 =>
                  some (false)) fun c18 p18 =>
                  Option.bind (
                    F26 ({ Kind := m.Kind, Code := m.Code, Rest := m.Rest, Data := m.Data }) (q12.fst) ({ b0 := x.b0, b1 := x.b1, b2 := x.b2, b3 := x.b3, b4 := x.b4, b5 := x.b5, b6 := x.b6, b7 := x.b7, b8 := x.b8, b9 := x.b9, b10 := x.b10, b11 := x.b11, b12 := x.b12, b13 := x.b13, b14 := x.b14, b15 := x.b15 }) (mtu6)) fun q20 =>
                  some (false)) fun c10 p10 =>
          Option.bind (
            F12 ({ Kind := m.Kind, Code := m.Code, Rest := m.Rest, Data := m.Data }) (q7.fst) ({ b0 := a.b0, b1 := a.b1, b2 := a.b2, b3 := a.b3 }) (x4_id) (mtu4)) fun q12 =>
          some (false)) fun c9 p9 =>
        Option.bind (
          F25 (q8.fst.Data)) fun q11 =>
        errK (q11.snd.fst) (
          Option.bind (
            F12 ({ Kind := m.Kind, Code := m.Code, Rest := m.Rest, Data := m.Data }) (q7.fst) ({ b0 := a.b0, b1 := a.b1, b2 := a.b2, b3 := a.b3 }) (x4_id) (mtu4)) fun q12 =>
          some (false)) fun c12 p12 =>
          Option.bind (
            F12 ({ Kind := m.Kind, Code := m.Code, Rest := m.Rest, Data := m.Data }) (q7.fst) ({ b0 := a.b0, b1 := a.b1, b2 := a.b2, b3 := a.b3 }) (x4_id) (mtu4)) fun q14 =>
          some (false)
    else
      Option.bind (
        F26 ({ Kind := m.Kind, Code := m.Code, Rest := m.Rest, Data := m.Data }) (s) ({ b0 := x.b0, b1 := x.b1, b2 := x.b2, b3 := x.b3, b4 := x.b4, b5 := x.b5, b6 := x.b6, b7 := x.b7, b8 := x.b8, b9 := x.b9, b10 := x.b10, b11 := x.b11, b12 := x.b12, b13 := x.b13, b14 := x.b14, b15 := x.b15 }) (mtu6)) fun q8 =>
      bif !q8.snd.fst then
        bif q7.snd.fst then
          some (q8.fst == [])
        else
          bif q7.fst == [] then
            some (q8.fst == [])
          else
            some (false)
      else
        Option.bind (
          F27 (q8.fst)) fun q9 =>
        errK (q9.snd.fst) (
          gd (q9.fst.Exts.snd.fst.beq 2 || q9.fst.Exts.fst) <|
          Option.bind (
            F29 ({ b0 := q9.fst.From.b0, b1 := q9.fst.From.b1, b2 := q9.fst.From.b2, b3 := q9.fst.From.b3, b4 := q9.fst.From.b4, b5 := q9.fst.From.b5, b6 := q9.fst.From.b6, b7 := q9.fst.From.b7, b8 := q9.fst.From.b8, b9 := q9.fst.From.b9, b10 := q9.fst.From.b10, b11 := q9.fst.From.b11, b12 := q9.fst.From.b12, b13 := q9.fst.From.b13, b14 := q9.fst.From.b14, b15 := q9.fst.From.b15 }) ({ b0 := q9.fst.To.b0, b1 := q9.fst.To.b1, b2 := q9.fst.To.b2, b3 := q9.fst.To.b3, b4 := q9.fst.To.b4, b5 := q9.fst.To.b5, b6 := q9.fst.To.b6, b7 := q9.fst.To.b7, b8 := q9.fst.To.b8, b9 := q9.fst.To.b9, b10 := q9.fst.To.b10, b11 := q9.fst.To.b11, b12 := q9.fst.To.b12, b13 := q9.fst.To.b13, b14 := q9.fst.To.b14, b15 := q9.fst.To.b15 }) (58) ((↑q9.fst.Data.length : Int))) fun q10 =>
          Option.bind (
            F28 (q9.fst.Data) (q10)) fun q11 =>
          errK (q11.snd.fst) (
            Option.bind (
              F26 ({ Kind := m.Kind, Code := m.Code, Rest := m.Rest, Data := m.Data }) (q8.fst) ({ b0 := x.b0, b1 := x.b1, b2 := x.b2, b3 := x.b3, b4 := x.b4, b5 := x.b5, b6 := x.b6, b7 := x.b7, b8 := x.b8, b9 := x.b9, b10 := x.b10, b11 := x.b11, b12 := x.b12, b13 := x.b13, b14 := x.b14, b15 := x.b15 }) (mtu6)) fun q12 =>
            bif leI (↑q8.fst.length : Int) 1280 then
              bif leI (↑q8.fst.length : Int) mtu6 then
                bif q9.fst.From.b0 == x.b0 && (q9.fst.From.b1 == x.b1 && (q9.fst.From.b2 == x.b2 && (q9.fst.From.b3 == x.b3 && (q9.fst.From.b4 == x.b4 && (q9.fst.From.b5 == x.b5 && (q9.fst.From.b6 == x.b6 && (q9.fst.From.b7 == x.b7 && (q9.fst.From.b8 == x.b8 && (q9.fst.From.b9 == x.b9 && (q9.fst.From.b10 == x.b10 && (q9.fst.From.b11 == x.b11 && (q9.fst.From.b12 == x.b12 && (q9.fst.From.b13 == x.b13 && (q9.fst.From.b14 == x.b14 && (q9.fst.From.b15 == x.b15 && true))))))))))))))) then
                  bif q11.fst.Kind == m.Kind then
                    bif q11.fst.Code == m.Code then
                      bif q11.fst.Rest == m.Rest then
                        bif leI (↑q11.fst.Data.length : Int) (↑s.length : Int) then
                          gd (ordB 0 (↑q11.fst.Data.length : Int) s.length) <|
                          bif q11.fst.Data == sub s none (some (V.int IntKind.i64 (↑q11.fst.Data.length : Int))) 0 (↑q11.fst.Data.length : Int).toNat then
                            some (!q12.snd.fst)
                          else
                            some (false)
                        else
                          some (false)
                      else
                        some (false)
                    else
                      some (false)
                  else
                    some (false)
                else
                  some (false)
              else
                some (false)
            else
              some (false)) fun c12 p12 =>
            Option.bind (
              F26 ({ Kind := m.Kind, Code := m.Code, Rest := m.Rest, Data := m.Data }) (q8.fst) ({ b0 := x.b0, b1 := x.b1, b2 := x.b2, b3 := x.b3, b4 := x.b4, b5 := x.b5, b6 := x.b6, b7 := x.b7, b8 := x.b8, b9 := x.b9, b10 := x.b10, b11 := x.b11, b12 := x.b12, b13 := x.b13, b14 := x.b14, b15 := x.b15 }) (mtu6)) fun q14 =>
            some (false)) fun c10 p10 =>
          gd (q9.fst.Exts.snd.fst.beq 2 || q9.fst.Exts.fst) <|
          Option.bind (
            F29 ({ b0 := q9.fst.From.b0, b1 := q9.fst.From.b1, b2 := q9.fst.From.b2, b3 := q9.fst.From.b3, b4 := q9.fst.From.b4, b5 := q9.fst.From.b5, b6 := q9.fst.From.b6, b7 := q9.fst.From.b7, b8 := q9.fst.From.b8, b9 := q9.fst.From.b9, b10 := q9.fst.From.b10, b11 := q9.fst.From.b11, b12 := q9.fst.From.b12, b13 := q9.fst.From.b13, b14 := q9.fst.From.b14, b15 := q9.fst.From.b15 }) ({ b0 := q9.fst.To.b0, b1 := q9.fst.To.b1, b2 := q9.fst.To.b2, b3 := q9.fst.To.b3, b4 := q9.fst.To.b4, b5 := q9.fst.To.b5, b6 := q9.fst.To.b6, b7 := q9.fst.To.b7, b8 := q9.fst.To.b8, b9 := q9.fst.To.b9, b10 := q9.fst.To.b10, b11 := q9.fst.To.b11, b12 := q9.fst.To.b12, b13 := q9.fst.To.b13, b14 := q9.fst.To.b14, b15 := q9.fst.To.b15 }) (58) ((↑q9.fst.Data.length : Int))) fun q12 =>
          Option.bind (
            F28 (q9.fst.Data) (q12)) fun q13 =>
          errK (q13.snd.fst) (
            Option.bind (
              F26 ({ Kind := m.Kind, Code := m.Code, Rest := m.Rest, Data := m.Data }) (q8.fst) ({ b0 := x.b0, b1 := x.b1, b2 := x.b2, b3 := x.b3, b4 := x.b4, b5 := x.b5, b6 := x.b6, b7 := x.b7, b8 := x.b8, b9 := x.b9, b10 := x.b10, b11 := x.b11, b12 := x.b12, b13 := x.b13, b14 := x.b14, b15 := x.b15 }) (mtu6)) fun q14 =>
            some (false)) fun c14 p14 =>
            Option.bind (
              F26 ({ Kind := m.Kind, Code := m.Code, Rest := m.Rest, Data := m.Data }) (q8.fst) ({ b0 := x.b0, b1 := x.b1, b2 := x.b2, b3 := x.b3, b4 := x.b4, b5 := x.b5, b6 := x.b6, b7 := x.b7, b8 := x.b8, b9 := x.b9, b10 := x.b10, b11 := x.b11, b12 := x.b12, b13 := x.b13, b14 := x.b14, b15 := x.b15 }) (mtu6)) fun q16 =>
            some (false)
theorem F8_ev : ∀ a, evTop Try.prog ⟨[d12, d14, d24, d25, d26, d27, d28, d29], inl_keeps8, keepIn keeps8, []⟩ 6 8 (CodL.val (CodL.cons (Cod.agg lMsg) (CodL.cons Cod.str (CodL.cons (Cod.agg lV4) (CodL.cons (Cod.agg lV6) (CodL.cons (Cod.int .i64) (CodL.cons (Cod.int .i64) (CodL.cons (Cod.int .i64) CodL.nil))))))) a) (fun v => Cod.dec Cod.bool v some) = (fun a => F8 a.1 a.2.1 a.2.2.1 a.2.2.2.1 a.2.2.2.2.1 a.2.2.2.2.2.1 a.2.2.2.2.2.2.1) a := by
  intro a; kernel_rfl
noncomputable def d8 : Ctr Try.prog := Ctr.ofF 8 (CodL.cons (Cod.agg lMsg) (CodL.cons Cod.str (CodL.cons (Cod.agg lV4) (CodL.cons (Cod.agg lV6) (CodL.cons (Cod.int .i64) (CodL.cons (Cod.int .i64) (CodL.cons (Cod.int .i64) CodL.nil))))))) Cod.bool (fun a => F8 a.1 a.2.1 a.2.2.1 a.2.2.2.1 a.2.2.2.2.1 a.2.2.2.2.2.1 a.2.2.2.2.2.2.1) (pcalls_of_ev mix noLoops F8_ev)

end Go.Rx.L15F
