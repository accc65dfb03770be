/- L15i. -/
import Derived.Test.YteahnnchfegknaaL15h
set_option linter.unusedVariables false
set_option maxRecDepth 100000
set_option maxHeartbeats 0
namespace Go.Rx.L15F
open Go.Proofs Go.Rx
def keeps9 : List (Nat × Nat × List Nat) := [(47, 2, [0, 4, 7, 8, 9]), (52, 1, [0, 1, 4, 5, 6, 7]), (57, 3, [3, 4, 7, 8, 9]), (84, 7, [0, 1, 6, 37, 38]), (91, 4, [6, 7, 8, 17, 18]), (92, 1, [0]), (93, 2, [0, 1, 2, 3, 12, 13]), (120, 2, [0, 2, 5, 6, 7])]
def inl_keeps9 : List FuncId := [53, 54, 91, 113]
structure Msg where
  Kind : Int
  Code : Int
  Rest : Int
  Data : List UInt8
def lMsg : CodL Msg := (CodL.cons (Cod.int .i64) (CodL.cons (Cod.int .i64) (CodL.cons (Cod.int .u32) (CodL.cons Cod.str CodL.nil)))).iso (fun a => ⟨a.1, a.2.1, a.2.2.1, a.2.2.2.1⟩) (fun s => (s.Kind, s.Code, s.Rest, s.Data, ())) (fun _ => rfl) (fun _ => rfl)
structure Ip6 where
  Class : Int
  Flow : Int
  Hop : Int
  From : V6
  To : V6
  Exts : Bool × Nat × List V
  Frag : Bool
  Id : Int
  At : Int
  More : Bool
  Proto : Int
  Data : List UInt8
def lIp6 : CodL Ip6 := (CodL.cons (Cod.int .i64) (CodL.cons (Cod.int .i64) (CodL.cons (Cod.int .i64) (CodL.app lV6 (CodL.app lV6 (CodL.cons Cod.isl (CodL.cons Cod.bool (CodL.cons (Cod.int .u32) (CodL.cons (Cod.int .i64) (CodL.cons Cod.bool (CodL.cons (Cod.int .i64) (CodL.cons Cod.str CodL.nil)))))))))))).iso (fun a => ⟨a.1, a.2.1, a.2.2.1, a.2.2.2.1, a.2.2.2.2.1, a.2.2.2.2.2.1, a.2.2.2.2.2.2.1, a.2.2.2.2.2.2.2.1, a.2.2.2.2.2.2.2.2.1, a.2.2.2.2.2.2.2.2.2.1, a.2.2.2.2.2.2.2.2.2.2.1, a.2.2.2.2.2.2.2.2.2.2.2.1⟩) (fun s => (s.Class, s.Flow, s.Hop, s.From, s.To, s.Exts, s.Frag, s.Id, s.At, s.More, s.Proto, s.Data, ())) (fun _ => rfl) (fun _ => rfl)
structure T4 where
  Addr : V4
  Port : Int
def lT4 : CodL T4 := (CodL.app lV4 (CodL.cons (Cod.int .i64) CodL.nil)).iso (fun a => ⟨a.1, a.2.1⟩) (fun s => (s.Addr, s.Port, ())) (fun _ => rfl) (fun _ => rfl)
/-- interpreter/icmp4.Failure -/
def F32 (m : Msg) : Option (Bool) :=
  bif m.Kind == 3 then
    some (true)
  else
    bif m.Kind == 4 then
      some (true)
    else
      bif m.Kind == 5 then
        some (true)
      else
        bif m.Kind == 11 then
          some (true)
        else
          bif m.Kind == 12 then
            some (true)
          else
            some (false)
theorem F32_ev : ∀ a, evTop Try.prog ⟨[], inl_keeps9, keepIn keeps9, []⟩ 6 32 (CodL.val (CodL.cons (Cod.agg lMsg) CodL.nil) a) (fun v => Cod.dec Cod.bool v some) = (fun a => F32 a.1) a := by
  intro a; kernel_rfl
noncomputable def d32 : Ctr Try.prog := Ctr.ofF 32 (CodL.cons (Cod.agg lMsg) CodL.nil) Cod.bool (fun a => F32 a.1) (pcalls_of_ev mix noLoops F32_ev)
/-- interpreter/icmpmap.sides -/
def F100 (mtu4 : Int) (mtu6 : Int) : Option (Bool) :=
  bif leI 68 mtu4 then
    bif leI mtu4 65535 then
      bif leI 1280 mtu6 then
        some (leI mtu6 65575)
      else
        some (false)
    else
      some (false)
  else
    some (false)
theorem F100_ev : ∀ a, evTop Try.prog ⟨[], inl_keeps9, keepIn keeps9, []⟩ 6 100 (CodL.val (CodL.cons (Cod.int .i64) (CodL.cons (Cod.int .i64) CodL.nil)) a) (fun v => Cod.dec Cod.bool v some) = (fun a => F100 a.1 a.2.1) a := by
  intro a; kernel_rfl
noncomputable def d100 : Ctr Try.prog := Ctr.ofF 100 (CodL.cons (Cod.int .i64) (CodL.cons (Cod.int .i64) CodL.nil)) Cod.bool (fun a => F100 a.1 a.2.1) (pcalls_of_ev mix noLoops F100_ev)
/-- interpreter/icmpmap.said -/
def F101 (m : Msg) (kind : Int) (code : Int) (rest : Int) : Option (Msg × Bool × Unit) :=
  some (({ Kind := kind, Code := code, Rest := IntKind.u32.wrap rest, Data := m.Data }, true, ()))
theorem F101_ev : ∀ a, evTop Try.prog ⟨[], inl_keeps9, keepIn keeps9, []⟩ 6 101 (CodL.val (CodL.cons (Cod.agg lMsg) (CodL.cons (Cod.int .i64) (CodL.cons (Cod.int .i64) (CodL.cons (Cod.int .i64) CodL.nil)))) a) (fun v => Cod.dec (Cod.tup (CodL.cons (Cod.agg lMsg) (CodL.cons Cod.bool CodL.nil))) v some) = (fun a => F101 a.1 a.2.1 a.2.2.1 a.2.2.2.1) a := by
  intro a; kernel_rfl
noncomputable def d101 : Ctr Try.prog := Ctr.ofF 101 (CodL.cons (Cod.agg lMsg) (CodL.cons (Cod.int .i64) (CodL.cons (Cod.int .i64) (CodL.cons (Cod.int .i64) CodL.nil)))) (Cod.tup (CodL.cons (Cod.agg lMsg) (CodL.cons Cod.bool CodL.nil))) (fun a => F101 a.1 a.2.1 a.2.2.1 a.2.2.2.1) (pcalls_of_ev mix noLoops F101_ev)
/-- interpreter/icmpmap.Plateau -/
def F120 (length : Int) : Option (Int) :=
  bif ltI 65535 length then
    some (65535)
  else
    bif ltI 32000 length then
      some (32000)
    else
      bif ltI 17914 length then
        some (17914)
      else
        bif ltI 8166 length then
          some (8166)
        else
          bif ltI 4352 length then
            some (4352)
          else
            bif ltI 2002 length then
              some (2002)
            else
              bif ltI 1492 length then
                some (1492)
              else
                bif ltI 1006 length then
                  some (1006)
                else
                  bif ltI 508 length then
                    some (508)
                  else
                    bif ltI 296 length then
                      some (296)
                    else
                      some (68)
theorem F120_ev : ∀ a, evTop Try.prog ⟨[], inl_keeps9, keepIn keeps9, []⟩ 6 120 (CodL.val (CodL.cons (Cod.int .i64) CodL.nil) a) (fun v => Cod.dec (Cod.int .i64) v some) = (fun a => F120 a.1) a := by
  intro a; kernel_rfl
noncomputable def d120 : Ctr Try.prog := Ctr.ofF 120 (CodL.cons (Cod.int .i64) CodL.nil) (Cod.int .i64) (fun a => F120 a.1) (pcalls_of_ev mix noLoops F120_ev)
/-- interpreter/icmpmap.lost6 -/
def F102 (m : Msg) (mtu4 : Int) (mtu6 : Int) (length : Int) : Option (Msg × Bool × Unit) :=
  bif m.Code == 0 then
    Option.bind (
      F101 ({ Kind := m.Kind, Code := m.Code, Rest := m.Rest, Data := m.Data }) (1) (0) (0)) fun q4 =>
    some (({ Kind := q4.fst.Kind, Code := q4.fst.Code, Rest := q4.fst.Rest, Data := q4.fst.Data }, q4.snd.fst, ()))
  else
    bif m.Code == 1 then
      Option.bind (
        F101 ({ Kind := m.Kind, Code := m.Code, Rest := m.Rest, Data := m.Data }) (1) (0) (0)) fun q4 =>
      some (({ Kind := q4.fst.Kind, Code := q4.fst.Code, Rest := q4.fst.Rest, Data := q4.fst.Data }, q4.snd.fst, ()))
    else
      bif m.Code == 5 then
        Option.bind (
          F101 ({ Kind := m.Kind, Code := m.Code, Rest := m.Rest, Data := m.Data }) (1) (0) (0)) fun q4 =>
        some (({ Kind := q4.fst.Kind, Code := q4.fst.Code, Rest := q4.fst.Rest, Data := q4.fst.Data }, q4.snd.fst, ()))
      else
        bif m.Code == 6 then
          Option.bind (
            F101 ({ Kind := m.Kind, Code := m.Code, Rest := m.Rest, Data := m.Data }) (1) (0) (0)) fun q4 =>
          some (({ Kind := q4.fst.Kind, Code := q4.fst.Code, Rest := q4.fst.Rest, Data := q4.fst.Data }, q4.snd.fst, ()))
        else
          bif m.Code == 7 then
            Option.bind (
              F101 ({ Kind := m.Kind, Code := m.Code, Rest := m.Rest, Data := m.Data }) (1) (0) (0)) fun q4 =>
            some (({ Kind := q4.fst.Kind, Code := q4.fst.Code, Rest := q4.fst.Rest, Data := q4.fst.Data }, q4.snd.fst, ()))
          else
            bif m.Code == 8 then
              Option.bind (
                F101 ({ Kind := m.Kind, Code := m.Code, Rest := m.Rest, Data := m.Data }) (1) (0) (0)) fun q4 =>
              some (({ Kind := q4.fst.Kind, Code := q4.fst.Code, Rest := q4.fst.Rest, Data := q4.fst.Data }, q4.snd.fst, ()))
            else
              bif m.Code == 11 then
                Option.bind (
                  F101 ({ Kind := m.Kind, Code := m.Code, Rest := m.Rest, Data := m.Data }) (1) (0) (0)) fun q4 =>
                some (({ Kind := q4.fst.Kind, Code := q4.fst.Code, Rest := q4.fst.Rest, Data := q4.fst.Data }, q4.snd.fst, ()))
              else
                bif m.Code == 12 then
                  Option.bind (
                    F101 ({ Kind := m.Kind, Code := m.Code, Rest := m.Rest, Data := m.Data }) (1) (0) (0)) fun q4 =>
                  some (({ Kind := q4.fst.Kind, Code := q4.fst.Code, Rest := q4.fst.Rest, Data := q4.fst.Data }, q4.snd.fst, ()))
                else
                  bif m.Code == 9 then
                    Option.bind (
                      F101 ({ Kind := m.Kind, Code := m.Code, Rest := m.Rest, Data := m.Data }) (1) (1) (0)) fun q4 =>
                    some (({ Kind := q4.fst.Kind, Code := q4.fst.Code, Rest := q4.fst.Rest, Data := q4.fst.Data }, q4.snd.fst, ()))
                  else
                    bif m.Code == 10 then
                      Option.bind (
                        F101 ({ Kind := m.Kind, Code := m.Code, Rest := m.Rest, Data := m.Data }) (1) (1) (0)) fun q4 =>
                      some (({ Kind := q4.fst.Kind, Code := q4.fst.Code, Rest := q4.fst.Rest, Data := q4.fst.Data }, q4.snd.fst, ()))
                    else
                      bif m.Code == 13 then
                        Option.bind (
                          F101 ({ Kind := m.Kind, Code := m.Code, Rest := m.Rest, Data := m.Data }) (1) (1) (0)) fun q4 =>
                        some (({ Kind := q4.fst.Kind, Code := q4.fst.Code, Rest := q4.fst.Rest, Data := q4.fst.Data }, q4.snd.fst, ()))
                      else
                        bif m.Code == 15 then
                          Option.bind (
                            F101 ({ Kind := m.Kind, Code := m.Code, Rest := m.Rest, Data := m.Data }) (1) (1) (0)) fun q4 =>
                          some (({ Kind := q4.fst.Kind, Code := q4.fst.Code, Rest := q4.fst.Rest, Data := q4.fst.Data }, q4.snd.fst, ()))
                        else
                          bif m.Code == 3 then
                            Option.bind (
                              F101 ({ Kind := m.Kind, Code := m.Code, Rest := m.Rest, Data := m.Data }) (1) (4) (0)) fun q4 =>
                            some (({ Kind := q4.fst.Kind, Code := q4.fst.Code, Rest := q4.fst.Rest, Data := q4.fst.Data }, q4.snd.fst, ()))
                          else
                            bif m.Code == 2 then
                              Option.bind (
                                F101 ({ Kind := m.Kind, Code := m.Code, Rest := m.Rest, Data := m.Data }) (4) (1) (6)) fun q4 =>
                              some (({ Kind := q4.fst.Kind, Code := q4.fst.Code, Rest := q4.fst.Rest, Data := q4.fst.Data }, q4.snd.fst, ()))
                            else
                              bif m.Code == 4 then
                                bif IntKind.i64.wrap (iand IntKind.u32 m.Rest 65535) == 0 then
                                  Option.bind (
                                    F120 (length)) fun q4 =>
                                  Option.bind (
                                    F101 ({ Kind := m.Kind, Code := m.Code, Rest := m.Rest, Data := m.Data }) (2) (0) (imax (imin (imin (IntKind.i64.wrap (q4 + 20)) mtu6) (IntKind.i64.wrap (mtu4 + 20))) 1280)) fun q5 =>
                                  some (({ Kind := q5.fst.Kind, Code := q5.fst.Code, Rest := q5.fst.Rest, Data := q5.fst.Data }, q5.snd.fst, ()))
                                else
                                  Option.bind (
                                    F101 ({ Kind := m.Kind, Code := m.Code, Rest := m.Rest, Data := m.Data }) (2) (0) (imax (imin (imin (IntKind.i64.wrap (IntKind.i64.wrap (iand IntKind.u32 m.Rest 65535) + 20)) mtu6) (IntKind.i64.wrap (mtu4 + 20))) 1280)) fun q4 =>
                                  some (({ Kind := q4.fst.Kind, Code := q4.fst.Code, Rest := q4.fst.Rest, Data := q4.fst.Data }, q4.snd.fst, ()))
                              else
                                some (({ Kind := 0, Code := 0, Rest := 0, Data := [] }, false, ()))
theorem F102_ev : ∀ a, evTop Try.prog ⟨[d101, d120], inl_keeps9, keepIn keeps9, []⟩ 6 102 (CodL.val (CodL.cons (Cod.agg lMsg) (CodL.cons (Cod.int .i64) (CodL.cons (Cod.int .i64) (CodL.cons (Cod.int .i64) CodL.nil)))) a) (fun v => Cod.dec (Cod.tup (CodL.cons (Cod.agg lMsg) (CodL.cons Cod.bool CodL.nil))) v some) = (fun a => F102 a.1 a.2.1 a.2.2.1 a.2.2.2.1) a := by
  intro a; kernel_rfl
noncomputable def d102 : Ctr Try.prog := Ctr.ofF 102 (CodL.cons (Cod.agg lMsg) (CodL.cons (Cod.int .i64) (CodL.cons (Cod.int .i64) (CodL.cons (Cod.int .i64) CodL.nil)))) (Cod.tup (CodL.cons (Cod.agg lMsg) (CodL.cons Cod.bool CodL.nil))) (fun a => F102 a.1 a.2.1 a.2.2.1 a.2.2.2.1) (pcalls_of_ev mix noLoops F102_ev)
/-- interpreter/icmpmap.pointer6 -/
def F103 (n : Int) : Option (Int × Bool × Unit) :=
  Option.bind (
    bif n == 0 then
      some (true)
    else
      some (n == 1)) fun q1 =>
  bif q1 then
    some ((n, true, ()))
  else
    Option.bind (
      bif n == 2 then
        some (true)
      else
        some (n == 3)) fun q2 =>
    bif q2 then
      some ((4, true, ()))
    else
      bif n == 8 then
        some ((7, true, ()))
      else
        bif n == 9 then
          some ((6, true, ()))
        else
          Option.bind (
            bif leI 12 n then
              some (leI n 15)
            else
              some (false)) fun q3 =>
          bif q3 then
            some ((8, true, ()))
          else
            Option.bind (
              bif leI 16 n then
                some (leI n 19)
              else
                some (false)) fun q4 =>
            bif q4 then
              some ((24, true, ()))
            else
              some ((0, false, ()))
theorem F103_ev : ∀ a, evTop Try.prog ⟨[], inl_keeps9, keepIn keeps9, []⟩ 6 103 (CodL.val (CodL.cons (Cod.int .i64) CodL.nil) a) (fun v => Cod.dec (Cod.tup (CodL.cons (Cod.int .i64) (CodL.cons Cod.bool CodL.nil))) v some) = (fun a => F103 a.1) a := by
  intro a; kernel_rfl
noncomputable def d103 : Ctr Try.prog := Ctr.ofF 103 (CodL.cons (Cod.int .i64) CodL.nil) (Cod.tup (CodL.cons (Cod.int .i64) (CodL.cons Cod.bool CodL.nil))) (fun a => F103 a.1) (pcalls_of_ev mix noLoops F103_ev)
/-- interpreter/icmpmap.To6 -/
def F73 (m : Msg) (mtu4 : Int) (mtu6 : Int) (length : Int) : Option (Msg × Bool × Unit) :=
  Option.bind (
    F100 (mtu4) (mtu6)) fun q4 =>
  bif !q4 then
    some (({ Kind := 0, Code := 0, Rest := 0, Data := [] }, false, ()))
  else
    Option.bind (
      bif m.Kind == 8 then
        some (m.Code == 0)
      else
        some (false)) fun q5 =>
    bif q5 then
      Option.bind (
        F101 ({ Kind := m.Kind, Code := m.Code, Rest := m.Rest, Data := m.Data }) (128) (0) (IntKind.i64.wrap m.Rest)) fun q6 =>
      some (({ Kind := q6.fst.Kind, Code := q6.fst.Code, Rest := q6.fst.Rest, Data := q6.fst.Data }, q6.snd.fst, ()))
    else
      Option.bind (
        bif m.Kind == 0 then
          some (m.Code == 0)
        else
          some (false)) fun q6 =>
      bif q6 then
        Option.bind (
          F101 ({ Kind := m.Kind, Code := m.Code, Rest := m.Rest, Data := m.Data }) (129) (0) (IntKind.i64.wrap m.Rest)) fun q7 =>
        some (({ Kind := q7.fst.Kind, Code := q7.fst.Code, Rest := q7.fst.Rest, Data := q7.fst.Data }, q7.snd.fst, ()))
      else
        bif m.Kind == 3 then
          Option.bind (
            F102 ({ Kind := m.Kind, Code := m.Code, Rest := m.Rest, Data := m.Data }) (mtu4) (mtu6) (length)) fun q7 =>
          some (({ Kind := q7.fst.Kind, Code := q7.fst.Code, Rest := q7.fst.Rest, Data := q7.fst.Data }, q7.snd.fst, ()))
        else
          Option.bind (
            bif m.Kind == 11 then
              bif m.Code == 0 then
                some (true)
              else
                some (m.Code == 1)
            else
              some (false)) fun q7 =>
          bif q7 then
            Option.bind (
              F101 ({ Kind := m.Kind, Code := m.Code, Rest := m.Rest, Data := m.Data }) (3) (m.Code) (0)) fun q8 =>
            some (({ Kind := q8.fst.Kind, Code := q8.fst.Code, Rest := q8.fst.Rest, Data := q8.fst.Data }, q8.snd.fst, ()))
          else
            Option.bind (
              bif m.Kind == 12 then
                bif m.Code == 0 then
                  some (true)
                else
                  some (m.Code == 2)
              else
                some (false)) fun q8 =>
            bif q8 then
              Option.bind (
                F103 (IntKind.i64.wrap (m.Rest.fdiv 16777216))) fun q9 =>
              bif q9.snd.fst then
                Option.bind (
                  F101 ({ Kind := m.Kind, Code := m.Code, Rest := m.Rest, Data := m.Data }) (4) (0) (q9.fst)) fun q10 =>
                some (({ Kind := q10.fst.Kind, Code := q10.fst.Code, Rest := q10.fst.Rest, Data := q10.fst.Data }, q10.snd.fst, ()))
              else
                some (({ Kind := 0, Code := 0, Rest := 0, Data := [] }, false, ()))
            else
              some (({ Kind := 0, Code := 0, Rest := 0, Data := [] }, false, ()))
theorem F73_ev : ∀ a, evTop Try.prog ⟨[d100, d101, d102, d103], inl_keeps9, keepIn keeps9, []⟩ 6 73 (CodL.val (CodL.cons (Cod.agg lMsg) (CodL.cons (Cod.int .i64) (CodL.cons (Cod.int .i64) (CodL.cons (Cod.int .i64) CodL.nil)))) a) (fun v => Cod.dec (Cod.tup (CodL.cons (Cod.agg lMsg) (CodL.cons Cod.bool CodL.nil))) v some) = (fun a => F73 a.1 a.2.1 a.2.2.1 a.2.2.2.1) a := by
  intro a; kernel_rfl
noncomputable def d73 : Ctr Try.prog := Ctr.ofF 73 (CodL.cons (Cod.agg lMsg) (CodL.cons (Cod.int .i64) (CodL.cons (Cod.int .i64) (CodL.cons (Cod.int .i64) CodL.nil)))) (Cod.tup (CodL.cons (Cod.agg lMsg) (CodL.cons Cod.bool CodL.nil))) (fun a => F73 a.1 a.2.1 a.2.2.1 a.2.2.2.1) (pcalls_of_ev mix noLoops F73_ev)
/-- interpreter/fault.Carry6 -/
def F30 (m : Msg) (mtu4 : Int) (mtu6 : Int) (x3_from : T6) (x4_to : T6) : Option (Msg × Bool × Unit) :=
  Option.bind (
    F13 (m.Data)) fun q5 =>
  errK (q5.snd.snd.fst) (
    Option.bind (
      Option.bind (
        F32 ({ Kind := m.Kind, Code := m.Code, Rest := m.Rest, Data := m.Data })) fun q6 =>
      some (!q6)) fun q6 =>
    bif q6 then
      some (({ Kind := 0, Code := 0, Rest := 0, Data := [] }, false, ()))
    else
      Option.bind (
        F73 ({ Kind := m.Kind, Code := m.Code, Rest := m.Rest, Data := m.Data }) (mtu4) (mtu6) (IntKind.i64.wrap (IntKind.i64.wrap (20 + (↑q5.fst.Options.length : Int)) + q5.snd.fst))) fun q7 =>
      Option.bind (
        F16 ({ Tos := q5.fst.Tos, Id := q5.fst.Id, Ttl := q5.fst.Ttl, Proto := q5.fst.Proto, At := q5.fst.At, DF := q5.fst.DF, More := q5.fst.More, From := { b0 := q5.fst.From.b0, b1 := q5.fst.From.b1, b2 := q5.fst.From.b2, b3 := q5.fst.From.b3 }, To := { b0 := q5.fst.To.b0, b1 := q5.fst.To.b1, b2 := q5.fst.To.b2, b3 := q5.fst.To.b3 }, Options := q5.fst.Options, Data := q5.fst.Data }) (q5.snd.fst) ({ Addr := { b0 := x3_from.Addr.b0, b1 := x3_from.Addr.b1, b2 := x3_from.Addr.b2, b3 := x3_from.Addr.b3, b4 := x3_from.Addr.b4, b5 := x3_from.Addr.b5, b6 := x3_from.Addr.b6, b7 := x3_from.Addr.b7, b8 := x3_from.Addr.b8, b9 := x3_from.Addr.b9, b10 := x3_from.Addr.b10, b11 := x3_from.Addr.b11, b12 := x3_from.Addr.b12, b13 := x3_from.Addr.b13, b14 := x3_from.Addr.b14, b15 := x3_from.Addr.b15 }, Port := x3_from.Port }) ({ Addr := { b0 := x4_to.Addr.b0, b1 := x4_to.Addr.b1, b2 := x4_to.Addr.b2, b3 := x4_to.Addr.b3, b4 := x4_to.Addr.b4, b5 := x4_to.Addr.b5, b6 := x4_to.Addr.b6, b7 := x4_to.Addr.b7, b8 := x4_to.Addr.b8, b9 := x4_to.Addr.b9, b10 := x4_to.Addr.b10, b11 := x4_to.Addr.b11, b12 := x4_to.Addr.b12, b13 := x4_to.Addr.b13, b14 := x4_to.Addr.b14, b15 := x4_to.Addr.b15 }, Port := x4_to.Port })) fun q8 =>
      errK (q8.snd.fst) (
        Option.bind (
          bif !q7.snd.fst then
            some (true)
          else
            some (false)) fun q9 =>
        bif q9 then
          some (({ Kind := 0, Code := 0, Rest := 0, Data := [] }, false, ()))
        else
          gd (ordB 0 (imin (↑q8.fst.length : Int) 1232) q8.fst.length) <|
          some (({ Kind := q7.fst.Kind, Code := q7.fst.Code, Rest := q7.fst.Rest, Data := sub q8.fst none (some (V.int IntKind.i64 (imin (↑q8.fst.length : Int) 1232))) 0 (imin (↑q8.fst.length : Int) 1232).toNat }, true, ()))) fun c9 p9 =>
        Option.bind (
          bif !q7.snd.fst then
            some (true)
          else
            some (true)) fun q11 =>
        bif q11 then
          some (({ Kind := 0, Code := 0, Rest := 0, Data := [] }, false, ()))
        else
          gd (ordB 0 (imin (↑q8.fst.length : Int) 1232) q8.fst.length) <|
          some (({ Kind := q7.fst.Kind, Code := q7.fst.Code, Rest := q7.fst.Rest, Data := sub q8.fst none (some (V.int IntKind.i64 (imin (↑q8.fst.length : Int) 1232))) 0 (imin (↑q8.fst.length : Int) 1232).toNat }, true, ()))) fun c6 p6 =>
    some (({ Kind := 0, Code := 0, Rest := 0, Data := [] }, false, ()))
theorem F30_ev : ∀ a, evTop Try.prog ⟨[d13, d16, d32, d73], inl_keeps9, keepIn keeps9, []⟩ 6 30 (CodL.val (CodL.cons (Cod.agg lMsg) (CodL.cons (Cod.int .i64) (CodL.cons (Cod.int .i64) (CodL.cons (Cod.agg lT6) (CodL.cons (Cod.agg lT6) CodL.nil))))) a) (fun v => Cod.dec (Cod.tup (CodL.cons (Cod.agg lMsg) (CodL.cons Cod.bool CodL.nil))) v some) = (fun a => F30 a.1 a.2.1 a.2.2.1 a.2.2.2.1 a.2.2.2.2.1) a := by
  intro a; kernel_rfl
noncomputable def d30 : Ctr Try.prog := Ctr.ofF 30 (CodL.cons (Cod.agg lMsg) (CodL.cons (Cod.int .i64) (CodL.cons (Cod.int .i64) (CodL.cons (Cod.agg lT6) (CodL.cons (Cod.agg lT6) CodL.nil))))) (Cod.tup (CodL.cons (Cod.agg lMsg) (CodL.cons Cod.bool CodL.nil))) (fun a => F30 a.1 a.2.1 a.2.2.1 a.2.2.2.1 a.2.2.2.2.1) (pcalls_of_ev mix noLoops F30_ev)
/-- interpreter/icmp6.Failure -/
def F31 (m : Msg) : Option (Bool) :=
  bif leI 1 m.Kind then
    some (leI m.Kind 127)
  else
    some (false)
theorem F31_ev : ∀ a, evTop Try.prog ⟨[], inl_keeps9, keepIn keeps9, []⟩ 6 31 (CodL.val (CodL.cons (Cod.agg lMsg) CodL.nil) a) (fun v => Cod.dec Cod.bool v some) = (fun a => F31 a.1) a := by
  intro a; kernel_rfl
noncomputable def d31 : Ctr Try.prog := Ctr.ofF 31 (CodL.cons (Cod.agg lMsg) CodL.nil) Cod.bool (fun a => F31 a.1) (pcalls_of_ev mix noLoops F31_ev)
/-- interpreter/fault.Inside6 -/
def F18 (s : List UInt8) : Option (Ip6 × Int × Err × Unit) :=
  bif ltI (↑s.length : Int) 40 then
    Option.bind (
      F41 (7)) fun q1 =>
    errK (q1) (
      some (({ Class := 0, Flow := 0, Hop := 0, From := { b0 := 0, b1 := 0, b2 := 0, b3 := 0, b4 := 0, b5 := 0, b6 := 0, b7 := 0, b8 := 0, b9 := 0, b10 := 0, b11 := 0, b12 := 0, b13 := 0, b14 := 0, b15 := 0 }, To := { b0 := 0, b1 := 0, b2 := 0, b3 := 0, b4 := 0, b5 := 0, b6 := 0, b7 := 0, b8 := 0, b9 := 0, b10 := 0, b11 := 0, b12 := 0, b13 := 0, b14 := 0, b15 := 0 }, Exts := (true, 2, []), Frag := false, Id := 0, At := 0, More := false, Proto := 0, Data := [] }, 0, none, ()))) fun c2 p2 =>
      some (({ Class := 0, Flow := 0, Hop := 0, From := { b0 := 0, b1 := 0, b2 := 0, b3 := 0, b4 := 0, b5 := 0, b6 := 0, b7 := 0, b8 := 0, b9 := 0, b10 := 0, b11 := 0, b12 := 0, b13 := 0, b14 := 0, b15 := 0 }, To := { b0 := 0, b1 := 0, b2 := 0, b3 := 0, b4 := 0, b5 := 0, b6 := 0, b7 := 0, b8 := 0, b9 := 0, b10 := 0, b11 := 0, b12 := 0, b13 := 0, b14 := 0, b15 := 0 }, Exts := (true, 2, []), Frag := false, Id := 0, At := 0, More := false, Proto := 0, Data := [] }, 0, some (c2, p2), ()))
  else
    gd (inB 0 s.length) <|
    bif !(bt s 0).fdiv 16 == 6 then
      Option.bind (
        F41 (8)) fun q1 =>
      errK (q1) (
        some (({ Class := 0, Flow := 0, Hop := 0, From := { b0 := 0, b1 := 0, b2 := 0, b3 := 0, b4 := 0, b5 := 0, b6 := 0, b7 := 0, b8 := 0, b9 := 0, b10 := 0, b11 := 0, b12 := 0, b13 := 0, b14 := 0, b15 := 0 }, To := { b0 := 0, b1 := 0, b2 := 0, b3 := 0, b4 := 0, b5 := 0, b6 := 0, b7 := 0, b8 := 0, b9 := 0, b10 := 0, b11 := 0, b12 := 0, b13 := 0, b14 := 0, b15 := 0 }, Exts := (true, 2, []), Frag := false, Id := 0, At := 0, More := false, Proto := 0, Data := [] }, 0, none, ()))) fun c2 p2 =>
        some (({ Class := 0, Flow := 0, Hop := 0, From := { b0 := 0, b1 := 0, b2 := 0, b3 := 0, b4 := 0, b5 := 0, b6 := 0, b7 := 0, b8 := 0, b9 := 0, b10 := 0, b11 := 0, b12 := 0, b13 := 0, b14 := 0, b15 := 0 }, To := { b0 := 0, b1 := 0, b2 := 0, b3 := 0, b4 := 0, b5 := 0, b6 := 0, b7 := 0, b8 := 0, b9 := 0, b10 := 0, b11 := 0, b12 := 0, b13 := 0, b14 := 0, b15 := 0 }, Exts := (true, 2, []), Frag := false, Id := 0, At := 0, More := false, Proto := 0, Data := [] }, 0, some (c2, p2), ()))
    else
      gd (inB 4 s.length) <|
      gd (inB 5 s.length) <|
      gd (ordB 40 (imin (↑s.length : Int) (IntKind.i64.wrap (40 + ior IntKind.i64 (IntKind.i64.wrap (IntKind.i64.wrap (bt s 4) * 256)) (IntKind.i64.wrap (bt s 5))))) s.length) <|
      gd (inB 6 s.length) <|
      Option.bind (
        F52 (IntKind.i64.wrap (bt s 6)) (sub s (some (V.int IntKind.i64 40)) (some (V.int IntKind.i64 (imin (↑s.length : Int) (IntKind.i64.wrap (40 + ior IntKind.i64 (IntKind.i64.wrap (IntKind.i64.wrap (bt s 4) * 256)) (IntKind.i64.wrap (bt s 5))))))) 40 (imin (↑s.length : Int) (IntKind.i64.wrap (40 + ior IntKind.i64 (IntKind.i64.wrap (IntKind.i64.wrap (bt s 4) * 256)) (IntKind.i64.wrap (bt s 5))))).toNat)) fun q1 =>
      errK (q1.snd.snd.snd.fst) (
        gd (q1.fst.snd.fst.beq 2 || q1.fst.fst) <|
        bif ltI (IntKind.i64.wrap ((↑s.length : Int) - 0)) 4 then
          gd (inB 7 s.length) <|
          gd (ordB 8 (↑s.length : Int) s.length) <|
          gd (Nat.ble 16 (sub s (some (V.int IntKind.i64 8)) none 8 (↑s.length : Int).toNat).length && true) <|
          gd (ordB 24 (↑s.length : Int) s.length) <|
          gd (Nat.ble 16 (sub s (some (V.int IntKind.i64 24)) none 24 (↑s.length : Int).toNat).length && true) <|
          bif q1.snd.fst == 44 then
            bif ltI (↑q1.snd.snd.fst.length : Int) 8 then
              Option.bind (
                F41 (7)) fun q2 =>
              errK (q2) (
                some (({ Class := 0, Flow := 0, Hop := 0, From := { b0 := 0, b1 := 0, b2 := 0, b3 := 0, b4 := 0, b5 := 0, b6 := 0, b7 := 0, b8 := 0, b9 := 0, b10 := 0, b11 := 0, b12 := 0, b13 := 0, b14 := 0, b15 := 0 }, To := { b0 := 0, b1 := 0, b2 := 0, b3 := 0, b4 := 0, b5 := 0, b6 := 0, b7 := 0, b8 := 0, b9 := 0, b10 := 0, b11 := 0, b12 := 0, b13 := 0, b14 := 0, b15 := 0 }, Exts := (true, 2, []), Frag := false, Id := 0, At := 0, More := false, Proto := 0, Data := [] }, 0, none, ()))) fun c3 p3 =>
                some (({ Class := 0, Flow := 0, Hop := 0, From := { b0 := 0, b1 := 0, b2 := 0, b3 := 0, b4 := 0, b5 := 0, b6 := 0, b7 := 0, b8 := 0, b9 := 0, b10 := 0, b11 := 0, b12 := 0, b13 := 0, b14 := 0, b15 := 0 }, To := { b0 := 0, b1 := 0, b2 := 0, b3 := 0, b4 := 0, b5 := 0, b6 := 0, b7 := 0, b8 := 0, b9 := 0, b10 := 0, b11 := 0, b12 := 0, b13 := 0, b14 := 0, b15 := 0 }, Exts := (true, 2, []), Frag := false, Id := 0, At := 0, More := false, Proto := 0, Data := [] }, 0, some (c3, p3), ()))
            else
              gd (inB 2 q1.snd.snd.fst.length) <|
              gd (inB 3 q1.snd.snd.fst.length) <|
              gd (ordB 4 (↑q1.snd.snd.fst.length : Int) q1.snd.snd.fst.length) <|
              bif ltI (IntKind.i64.wrap ((↑(sub q1.snd.snd.fst (some (V.int IntKind.i64 4)) none 4 (↑q1.snd.snd.fst.length : Int).toNat).length : Int) - 0)) 4 then
                gd (inB 0 q1.snd.snd.fst.length) <|
                gd (ordB 8 (↑q1.snd.snd.fst.length : Int) q1.snd.snd.fst.length) <|
                Option.bind (
                  F44 (sub q1.snd.snd.fst (some (V.int IntKind.i64 8)) none 8 (↑q1.snd.snd.fst.length : Int).toNat) (IntKind.i64.wrap (ior IntKind.i64 (IntKind.i64.wrap (IntKind.i64.wrap (bt s 4) * 256)) (IntKind.i64.wrap (bt s 5)) - IntKind.i64.wrap ((↑(sub s (some (V.int IntKind.i64 40)) (some (V.int IntKind.i64 (imin (↑s.length : Int) (IntKind.i64.wrap (40 + ior IntKind.i64 (IntKind.i64.wrap (IntKind.i64.wrap (bt s 4) * 256)) (IntKind.i64.wrap (bt s 5))))))) 40 (imin (↑s.length : Int) (IntKind.i64.wrap (40 + ior IntKind.i64 (IntKind.i64.wrap (IntKind.i64.wrap (bt s 4) * 256)) (IntKind.i64.wrap (bt s 5))))).toNat).length : Int) - (↑(sub q1.snd.snd.fst (some (V.int IntKind.i64 8)) none 8 (↑q1.snd.snd.fst.length : Int).toNat).length : Int))))) fun q2 =>
                bif q2 then
                  Option.bind (
                    F41 (7)) fun q3 =>
                  errK (q3) (
                    some (({ Class := 0, Flow := 0, Hop := 0, From := { b0 := 0, b1 := 0, b2 := 0, b3 := 0, b4 := 0, b5 := 0, b6 := 0, b7 := 0, b8 := 0, b9 := 0, b10 := 0, b11 := 0, b12 := 0, b13 := 0, b14 := 0, b15 := 0 }, To := { b0 := 0, b1 := 0, b2 := 0, b3 := 0, b4 := 0, b5 := 0, b6 := 0, b7 := 0, b8 := 0, b9 := 0, b10 := 0, b11 := 0, b12 := 0, b13 := 0, b14 := 0, b15 := 0 }, Exts := (true, 2, []), Frag := false, Id := 0, At := 0, More := false, Proto := 0, Data := [] }, 0, none, ()))) fun c4 p4 =>
                    some (({ Class := 0, Flow := 0, Hop := 0, From := { b0 := 0, b1 := 0, b2 := 0, b3 := 0, b4 := 0, b5 := 0, b6 := 0, b7 := 0, b8 := 0, b9 := 0, b10 := 0, b11 := 0, b12 := 0, b13 := 0, b14 := 0, b15 := 0 }, To := { b0 := 0, b1 := 0, b2 := 0, b3 := 0, b4 := 0, b5 := 0, b6 := 0, b7 := 0, b8 := 0, b9 := 0, b10 := 0, b11 := 0, b12 := 0, b13 := 0, b14 := 0, b15 := 0 }, Exts := (true, 2, []), Frag := false, Id := 0, At := 0, More := false, Proto := 0, Data := [] }, 0, some (c4, p4), ()))
                else
                  some (({ Class := 0, Flow := 0, Hop := IntKind.i64.wrap (bt s 7), From := { b0 := bt (sub s (some (V.int IntKind.i64 8)) none 8 (↑s.length : Int).toNat) 0, b1 := bt (sub s (some (V.int IntKind.i64 8)) none 8 (↑s.length : Int).toNat) 1, b2 := bt (sub s (some (V.int IntKind.i64 8)) none 8 (↑s.length : Int).toNat) 2, b3 := bt (sub s (some (V.int IntKind.i64 8)) none 8 (↑s.length : Int).toNat) 3, b4 := bt (sub s (some (V.int IntKind.i64 8)) none 8 (↑s.length : Int).toNat) 4, b5 := bt (sub s (some (V.int IntKind.i64 8)) none 8 (↑s.length : Int).toNat) 5, b6 := bt (sub s (some (V.int IntKind.i64 8)) none 8 (↑s.length : Int).toNat) 6, b7 := bt (sub s (some (V.int IntKind.i64 8)) none 8 (↑s.length : Int).toNat) 7, b8 := bt (sub s (some (V.int IntKind.i64 8)) none 8 (↑s.length : Int).toNat) 8, b9 := bt (sub s (some (V.int IntKind.i64 8)) none 8 (↑s.length : Int).toNat) 9, b10 := bt (sub s (some (V.int IntKind.i64 8)) none 8 (↑s.length : Int).toNat) 10, b11 := bt (sub s (some (V.int IntKind.i64 8)) none 8 (↑s.length : Int).toNat) 11, b12 := bt (sub s (some (V.int IntKind.i64 8)) none 8 (↑s.length : Int).toNat) 12, b13 := bt (sub s (some (V.int IntKind.i64 8)) none 8 (↑s.length : Int).toNat) 13, b14 := bt (sub s (some (V.int IntKind.i64 8)) none 8 (↑s.length : Int).toNat) 14, b15 := bt (sub s (some (V.int IntKind.i64 8)) none 8 (↑s.length : Int).toNat) 15 }, To := { b0 := bt (sub s (some (V.int IntKind.i64 24)) none 24 (↑s.length : Int).toNat) 0, b1 := bt (sub s (some (V.int IntKind.i64 24)) none 24 (↑s.length : Int).toNat) 1, b2 := bt (sub s (some (V.int IntKind.i64 24)) none 24 (↑s.length : Int).toNat) 2, b3 := bt (sub s (some (V.int IntKind.i64 24)) none 24 (↑s.length : Int).toNat) 3, b4 := bt (sub s (some (V.int IntKind.i64 24)) none 24 (↑s.length : Int).toNat) 4, b5 := bt (sub s (some (V.int IntKind.i64 24)) none 24 (↑s.length : Int).toNat) 5, b6 := bt (sub s (some (V.int IntKind.i64 24)) none 24 (↑s.length : Int).toNat) 6, b7 := bt (sub s (some (V.int IntKind.i64 24)) none 24 (↑s.length : Int).toNat) 7, b8 := bt (sub s (some (V.int IntKind.i64 24)) none 24 (↑s.length : Int).toNat) 8, b9 := bt (sub s (some (V.int IntKind.i64 24)) none 24 (↑s.length : Int).toNat) 9, b10 := bt (sub s (some (V.int IntKind.i64 24)) none 24 (↑s.length : Int).toNat) 10, b11 := bt (sub s (some (V.int IntKind.i64 24)) none 24 (↑s.length : Int).toNat) 11, b12 := bt (sub s (some (V.int IntKind.i64 24)) none 24 (↑s.length : Int).toNat) 12, b13 := bt (sub s (some (V.int IntKind.i64 24)) none 24 (↑s.length : Int).toNat) 13, b14 := bt (sub s (some (V.int IntKind.i64 24)) none 24 (↑s.length : Int).toNat) 14, b15 := bt (sub s (some (V.int IntKind.i64 24)) none 24 (↑s.length : Int).toNat) 15 }, Exts := (q1.fst.fst, 2, q1.fst.snd.snd), Frag := true, Id := 0, At := iandNot IntKind.i64 (ior IntKind.i64 (IntKind.i64.wrap (IntKind.i64.wrap (bt q1.snd.snd.fst 2) * 256)) (IntKind.i64.wrap (bt q1.snd.snd.fst 3))) 7, More := !iand IntKind.i64 (ior IntKind.i64 (IntKind.i64.wrap (IntKind.i64.wrap (bt q1.snd.snd.fst 2) * 256)) (IntKind.i64.wrap (bt q1.snd.snd.fst 3))) 1 == 0, Proto := IntKind.i64.wrap (bt q1.snd.snd.fst 0), Data := sub q1.snd.snd.fst (some (V.int IntKind.i64 8)) none 8 (↑q1.snd.snd.fst.length : Int).toNat }, IntKind.i64.wrap (ior IntKind.i64 (IntKind.i64.wrap (IntKind.i64.wrap (bt s 4) * 256)) (IntKind.i64.wrap (bt s 5)) - IntKind.i64.wrap ((↑(sub s (some (V.int IntKind.i64 40)) (some (V.int IntKind.i64 (imin (↑s.length : Int) (IntKind.i64.wrap (40 + ior IntKind.i64 (IntKind.i64.wrap (IntKind.i64.wrap (bt s 4) * 256)) (IntKind.i64.wrap (bt s 5))))))) 40 (imin (↑s.length : Int) (IntKind.i64.wrap (40 + ior IntKind.i64 (IntKind.i64.wrap (IntKind.i64.wrap (bt s 4) * 256)) (IntKind.i64.wrap (bt s 5))))).toNat).length : Int) - (↑(sub q1.snd.snd.fst (some (V.int IntKind.i64 8)) none 8 (↑q1.snd.snd.fst.length : Int).toNat).length : Int))), none, ()))
              else
                gd (ordB 0 4 (sub q1.snd.snd.fst (some (V.int IntKind.i64 4)) none 4 (↑q1.snd.snd.fst.length : Int).toNat).length) <|
                gd (inB 0 q1.snd.snd.fst.length) <|
                gd (ordB 8 (↑q1.snd.snd.fst.length : Int) q1.snd.snd.fst.length) <|
                Option.bind (
                  F44 (sub q1.snd.snd.fst (some (V.int IntKind.i64 8)) none 8 (↑q1.snd.snd.fst.length : Int).toNat) (IntKind.i64.wrap (ior IntKind.i64 (IntKind.i64.wrap (IntKind.i64.wrap (bt s 4) * 256)) (IntKind.i64.wrap (bt s 5)) - IntKind.i64.wrap ((↑(sub s (some (V.int IntKind.i64 40)) (some (V.int IntKind.i64 (imin (↑s.length : Int) (IntKind.i64.wrap (40 + ior IntKind.i64 (IntKind.i64.wrap (IntKind.i64.wrap (bt s 4) * 256)) (IntKind.i64.wrap (bt s 5))))))) 40 (imin (↑s.length : Int) (IntKind.i64.wrap (40 + ior IntKind.i64 (IntKind.i64.wrap (IntKind.i64.wrap (bt s 4) * 256)) (IntKind.i64.wrap (bt s 5))))).toNat).length : Int) - (↑(sub q1.snd.snd.fst (some (V.int IntKind.i64 8)) none 8 (↑q1.snd.snd.fst.length : Int).toNat).length : Int))))) fun q2 =>
                bif q2 then
                  Option.bind (
                    F41 (7)) fun q3 =>
                  errK (q3) (
                    some (({ Class := 0, Flow := 0, Hop := 0, From := { b0 := 0, b1 := 0, b2 := 0, b3 := 0, b4 := 0, b5 := 0, b6 := 0, b7 := 0, b8 := 0, b9 := 0, b10 := 0, b11 := 0, b12 := 0, b13 := 0, b14 := 0, b15 := 0 }, To := { b0 := 0, b1 := 0, b2 := 0, b3 := 0, b4 := 0, b5 := 0, b6 := 0, b7 := 0, b8 := 0, b9 := 0, b10 := 0, b11 := 0, b12 := 0, b13 := 0, b14 := 0, b15 := 0 }, Exts := (true, 2, []), Frag := false, Id := 0, At := 0, More := false, Proto := 0, Data := [] }, 0, none, ()))) fun c4 p4 =>
                    some (({ Class := 0, Flow := 0, Hop := 0, From := { b0 := 0, b1 := 0, b2 := 0, b3 := 0, b4 := 0, b5 := 0, b6 := 0, b7 := 0, b8 := 0, b9 := 0, b10 := 0, b11 := 0, b12 := 0, b13 := 0, b14 := 0, b15 := 0 }, To := { b0 := 0, b1 := 0, b2 := 0, b3 := 0, b4 := 0, b5 := 0, b6 := 0, b7 := 0, b8 := 0, b9 := 0, b10 := 0, b11 := 0, b12 := 0, b13 := 0, b14 := 0, b15 := 0 }, Exts := (true, 2, []), Frag := false, Id := 0, At := 0, More := false, Proto := 0, Data := [] }, 0, some (c4, p4), ()))
                else
                  some (({ Class := 0, Flow := 0, Hop := IntKind.i64.wrap (bt s 7), From := { b0 := bt (sub s (some (V.int IntKind.i64 8)) none 8 (↑s.length : Int).toNat) 0, b1 := bt (sub s (some (V.int IntKind.i64 8)) none 8 (↑s.length : Int).toNat) 1, b2 := bt (sub s (some (V.int IntKind.i64 8)) none 8 (↑s.length : Int).toNat) 2, b3 := bt (sub s (some (V.int IntKind.i64 8)) none 8 (↑s.length : Int).toNat) 3, b4 := bt (sub s (some (V.int IntKind.i64 8)) none 8 (↑s.length : Int).toNat) 4, b5 := bt (sub s (some (V.int IntKind.i64 8)) none 8 (↑s.length : Int).toNat) 5, b6 := bt (sub s (some (V.int IntKind.i64 8)) none 8 (↑s.length : Int).toNat) 6, b7 := bt (sub s (some (V.int IntKind.i64 8)) none 8 (↑s.length : Int).toNat) 7, b8 := bt (sub s (some (V.int IntKind.i64 8)) none 8 (↑s.length : Int).toNat) 8, b9 := bt (sub s (some (V.int IntKind.i64 8)) none 8 (↑s.length : Int).toNat) 9, b10 := bt (sub s (some (V.int IntKind.i64 8)) none 8 (↑s.length : Int).toNat) 10, b11 := bt (sub s (some (V.int IntKind.i64 8)) none 8 (↑s.length : Int).toNat) 11, b12 := bt (sub s (some (V.int IntKind.i64 8)) none 8 (↑s.length : Int).toNat) 12, b13 := bt (sub s (some (V.int IntKind.i64 8)) none 8 (↑s.length : Int).toNat) 13, b14 := bt (sub s (some (V.int IntKind.i64 8)) none 8 (↑s.length : Int).toNat) 14, b15 := bt (sub s (some (V.int IntKind.i64 8)) none 8 (↑s.length : Int).toNat) 15 }, To := { b0 := bt (sub s (some (V.int IntKind.i64 24)) none 24 (↑s.length : Int).toNat) 0, b1 := bt (sub s (some (V.int IntKind.i64 24)) none 24 (↑s.length : Int).toNat) 1, b2 := bt (sub s (some (V.int IntKind.i64 24)) none 24 (↑s.length : Int).toNat) 2, b3 := bt (sub s (some (V.int IntKind.i64 24)) none 24 (↑s.length : Int).toNat) 3, b4 := bt (sub s (some (V.int IntKind.i64 24)) none 24 (↑s.length : Int).toNat) 4, b5 := bt (sub s (some (V.int IntKind.i64 24)) none 24 (↑s.length : Int).toNat) 5, b6 := bt (sub s (some (V.int IntKind.i64 24)) none 24 (↑s.length : Int).toNat) 6, b7 := bt (sub s (some (V.int IntKind.i64 24)) none 24 (↑s.length : Int).toNat) 7, b8 := bt (sub s (some (V.int IntKind.i64 24)) none 24 (↑s.length : Int).toNat) 8, b9 := bt (sub s (some (V.int IntKind.i64 24)) none 24 (↑s.length : Int).toNat) 9, b10 := bt (sub s (some (V.int IntKind.i64 24)) none 24 (↑s.length : Int).toNat) 10, b11 := bt (sub s (some (V.int IntKind.i64 24)) none 24 (↑s.length : Int).toNat) 11, b12 := bt (sub s (some (V.int IntKind.i64 24)) none 24 (↑s.length : Int).toNat) 12, b13 := bt (sub s (some (V.int IntKind.i64 24)) none 24 (↑s.length : Int).toNat) 13, b14 := bt (sub s (some (V.int IntKind.i64 24)) none 24 (↑s.length : Int).toNat) 14, b15 := bt (sub s (some (V.int IntKind.i64 24)) none 24 (↑s.length : Int).toNat) 15 }, Exts := (q1.fst.fst, 2, q1.fst.snd.snd), Frag := true, Id := IntKind.u32.wrap (ior IntKind.i64 (IntKind.i64.wrap (ior IntKind.i64 (IntKind.i64.wrap (ior IntKind.i64 (IntKind.i64.wrap (ior IntKind.i64 0 (IntKind.i64.wrap (bt (sub (sub q1.snd.snd.fst (some (V.int IntKind.i64 4)) none 4 (↑q1.snd.snd.fst.length : Int).toNat) (some (V.int IntKind.i64 0)) (some (V.int IntKind.i64 4)) 0 4) 0)) * 256)) (IntKind.i64.wrap (bt (sub (sub q1.snd.snd.fst (some (V.int IntKind.i64 4)) none 4 (↑q1.snd.snd.fst.length : Int).toNat) (some (V.int IntKind.i64 0)) (some (V.int IntKind.i64 4)) 0 4) 1)) * 256)) (IntKind.i64.wrap (bt (sub (sub q1.snd.snd.fst (some (V.int IntKind.i64 4)) none 4 (↑q1.snd.snd.fst.length : Int).toNat) (some (V.int IntKind.i64 0)) (some (V.int IntKind.i64 4)) 0 4) 2)) * 256)) (IntKind.i64.wrap (bt (sub (sub q1.snd.snd.fst (some (V.int IntKind.i64 4)) none 4 (↑q1.snd.snd.fst.length : Int).toNat) (some (V.int IntKind.i64 0)) (some (V.int IntKind.i64 4)) 0 4) 3))), At := iandNot IntKind.i64 (ior IntKind.i64 (IntKind.i64.wrap (IntKind.i64.wrap (bt q1.snd.snd.fst 2) * 256)) (IntKind.i64.wrap (bt q1.snd.snd.fst 3))) 7, More := !iand IntKind.i64 (ior IntKind.i64 (IntKind.i64.wrap (IntKind.i64.wrap (bt q1.snd.snd.fst 2) * 256)) (IntKind.i64.wrap (bt q1.snd.snd.fst 3))) 1 == 0, Proto := IntKind.i64.wrap (bt q1.snd.snd.fst 0), Data := sub q1.snd.snd.fst (some (V.int IntKind.i64 8)) none 8 (↑q1.snd.snd.fst.length : Int).toNat }, IntKind.i64.wrap (ior IntKind.i64 (IntKind.i64.wrap (IntKind.i64.wrap (bt s 4) * 256)) (IntKind.i64.wrap (bt s 5)) - IntKind.i64.wrap ((↑(sub s (some (V.int IntKind.i64 40)) (some (V.int IntKind.i64 (imin (↑s.length : Int) (IntKind.i64.wrap (40 + ior IntKind.i64 (IntKind.i64.wrap (IntKind.i64.wrap (bt s 4) * 256)) (IntKind.i64.wrap (bt s 5))))))) 40 (imin (↑s.length : Int) (IntKind.i64.wrap (40 + ior IntKind.i64 (IntKind.i64.wrap (IntKind.i64.wrap (bt s 4) * 256)) (IntKind.i64.wrap (bt s 5))))).toNat).length : Int) - (↑(sub q1.snd.snd.fst (some (V.int IntKind.i64 8)) none 8 (↑q1.snd.snd.fst.length : Int).toNat).length : Int))), none, ()))
          else
            Option.bind (
              F44 (q1.snd.snd.fst) (IntKind.i64.wrap (ior IntKind.i64 (IntKind.i64.wrap (IntKind.i64.wrap (bt s 4) * 256)) (IntKind.i64.wrap (bt s 5)) - IntKind.i64.wrap ((↑(sub s (some (V.int IntKind.i64 40)) (some (V.int IntKind.i64 (imin (↑s.length : Int) (IntKind.i64.wrap (40 + ior IntKind.i64 (IntKind.i64.wrap (IntKind.i64.wrap (bt s 4) * 256)) (IntKind.i64.wrap (bt s 5))))))) 40 (imin (↑s.length : Int) (IntKind.i64.wrap (40 + ior IntKind.i64 (IntKind.i64.wrap (IntKind.i64.wrap (bt s 4) * 256)) (IntKind.i64.wrap (bt s 5))))).toNat).length : Int) - (↑q1.snd.snd.fst.length : Int))))) fun q2 =>
            bif q2 then
              Option.bind (
                F41 (7)) fun q3 =>
              errK (q3) (
                some (({ Class := 0, Flow := 0, Hop := 0, From := { b0 := 0, b1 := 0, b2 := 0, b3 := 0, b4 := 0, b5 := 0, b6 := 0, b7 := 0, b8 := 0, b9 := 0, b10 := 0, b11 := 0, b12 := 0, b13 := 0, b14 := 0, b15 := 0 }, To := { b0 := 0, b1 := 0, b2 := 0, b3 := 0, b4 := 0, b5 := 0, b6 := 0, b7 := 0, b8 := 0, b9 := 0, b10 := 0, b11 := 0, b12 := 0, b13 := 0, b14 := 0, b15 := 0 }, Exts := (true, 2, []), Frag := false, Id := 0, At := 0, More := false, Proto := 0, Data := [] }, 0, none, ()))) fun c4 p4 =>
                some (({ Class := 0, Flow := 0, Hop := 0, From := { b0 := 0, b1 := 0, b2 := 0, b3 := 0, b4 := 0, b5 := 0, b6 := 0, b7 := 0, b8 := 0, b9 := 0, b10 := 0, b11 := 0, b12 := 0, b13 := 0, b14 := 0, b15 := 0 }, To := { b0 := 0, b1 := 0, b2 := 0, b3 := 0, b4 := 0, b5 := 0, b6 := 0, b7 := 0, b8 := 0, b9 := 0, b10 := 0, b11 := 0, b12 := 0, b13 := 0, b14 := 0, b15 := 0 }, Exts := (true, 2, []), Frag := false, Id := 0, At := 0, More := false, Proto := 0, Data := [] }, 0, some (c4, p4), ()))
            else
              some (({ Class := 0, Flow := 0, Hop := IntKind.i64.wrap (bt s 7), From := { b0 := bt (sub s (some (V.int IntKind.i64 8)) none 8 (↑s.length : Int).toNat) 0, b1 := bt (sub s (some (V.int IntKind.i64 8)) none 8 (↑s.length : Int).toNat) 1, b2 := bt (sub s (some (V.int IntKind.i64 8)) none 8 (↑s.length : Int).toNat) 2, b3 := bt (sub s (some (V.int IntKind.i64 8)) none 8 (↑s.length : Int).toNat) 3, b4 := bt (sub s (some (V.int IntKind.i64 8)) none 8 (↑s.length : Int).toNat) 4, b5 := bt (sub s (some (V.int IntKind.i64 8)) none 8 (↑s.length : Int).toNat) 5, b6 := bt (sub s (some (V.int IntKind.i64 8)) none 8 (↑s.length : Int).toNat) 6, b7 := bt (sub s (some (V.int IntKind.i64 8)) none 8 (↑s.length : Int).toNat) 7, b8 := bt (sub s (some (V.int IntKind.i64 8)) none 8 (↑s.length : Int).toNat) 8, b9 := bt (sub s (some (V.int IntKind.i64 8)) none 8 (↑s.length : Int).toNat) 9, b10 := bt (sub s (some (V.int IntKind.i64 8)) none 8 (↑s.length : Int).toNat) 10, b11 := bt (sub s (some (V.int IntKind.i64 8)) none 8 (↑s.length : Int).toNat) 11, b12 := bt (sub s (some (V.int IntKind.i64 8)) none 8 (↑s.length : Int).toNat) 12, b13 := bt (sub s (some (V.int IntKind.i64 8)) none 8 (↑s.length : Int).toNat) 13, b14 := bt (sub s (some (V.int IntKind.i64 8)) none 8 (↑s.length : Int).toNat) 14, b15 := bt (sub s (some (V.int IntKind.i64 8)) none 8 (↑s.length : Int).toNat) 15 }, To := { b0 := bt (sub s (some (V.int IntKind.i64 24)) none 24 (↑s.length : Int).toNat) 0, b1 := bt (sub s (some (V.int IntKind.i64 24)) none 24 (↑s.length : Int).toNat) 1, b2 := bt (sub s (some (V.int IntKind.i64 24)) none 24 (↑s.length : Int).toNat) 2, b3 := bt (sub s (some (V.int IntKind.i64 24)) none 24 (↑s.length : Int).toNat) 3, b4 := bt (sub s (some (V.int IntKind.i64 24)) none 24 (↑s.length : Int).toNat) 4, b5 := bt (sub s (some (V.int IntKind.i64 24)) none 24 (↑s.length : Int).toNat) 5, b6 := bt (sub s (some (V.int IntKind.i64 24)) none 24 (↑s.length : Int).toNat) 6, b7 := bt (sub s (some (V.int IntKind.i64 24)) none 24 (↑s.length : Int).toNat) 7, b8 := bt (sub s (some (V.int IntKind.i64 24)) none 24 (↑s.length : Int).toNat) 8, b9 := bt (sub s (some (V.int IntKind.i64 24)) none 24 (↑s.length : Int).toNat) 9, b10 := bt (sub s (some (V.int IntKind.i64 24)) none 24 (↑s.length : Int).toNat) 10, b11 := bt (sub s (some (V.int IntKind.i64 24)) none 24 (↑s.length : Int).toNat) 11, b12 := bt (sub s (some (V.int IntKind.i64 24)) none 24 (↑s.length : Int).toNat) 12, b13 := bt (sub s (some (V.int IntKind.i64 24)) none 24 (↑s.length : Int).toNat) 13, b14 := bt (sub s (some (V.int IntKind.i64 24)) none 24 (↑s.length : Int).toNat) 14, b15 := bt (sub s (some (V.int IntKind.i64 24)) none 24 (↑s.length : Int).toNat) 15 }, Exts := (q1.fst.fst, 2, q1.fst.snd.snd), Frag := false, Id := 0, At := 0, More := false, Proto := q1.snd.fst, Data := q1.snd.snd.fst }, IntKind.i64.wrap (ior IntKind.i64 (IntKind.i64.wrap (IntKind.i64.wrap (bt s 4) * 256)) (IntKind.i64.wrap (bt s 5)) - IntKind.i64.wrap ((↑(sub s (some (V.int IntKind.i64 40)) (some (V.int IntKind.i64 (imin (↑s.length : Int) (IntKind.i64.wrap (40 + ior IntKind.i64 (IntKind.i64.wrap (IntKind.i64.wrap (bt s 4) * 256)) (IntKind.i64.wrap (bt s 5))))))) 40 (imin (↑s.length : Int) (IntKind.i64.wrap (40 + ior IntKind.i64 (IntKind.i64.wrap (IntKind.i64.wrap (bt s 4) * 256)) (IntKind.i64.wrap (bt s 5))))).toNat).length : Int) - (↑q1.snd.snd.fst.length : Int))), none, ()))
        else
          gd (ordB 0 4 s.length) <|
          gd (inB 7 s.length) <|
          gd (ordB 8 (↑s.length : Int) s.length) <|
          gd (Nat.ble 16 (sub s (some (V.int IntKind.i64 8)) none 8 (↑s.length : Int).toNat).length && true) <|
          gd (ordB 24 (↑s.length : Int) s.length) <|
          gd (Nat.ble 16 (sub s (some (V.int IntKind.i64 24)) none 24 (↑s.length : Int).toNat).length && true) <|
          bif q1.snd.fst == 44 then
            bif ltI (↑q1.snd.snd.fst.length : Int) 8 then
              Option.bind (
                F41 (7)) fun q2 =>
              errK (q2) (
                some (({ Class := 0, Flow := 0, Hop := 0, From := { b0 := 0, b1 := 0, b2 := 0, b3 := 0, b4 := 0, b5 := 0, b6 := 0, b7 := 0, b8 := 0, b9 := 0, b10 := 0, b11 := 0, b12 := 0, b13 := 0, b14 := 0, b15 := 0 }, To := { b0 := 0, b1 := 0, b2 := 0, b3 := 0, b4 := 0, b5 := 0, b6 := 0, b7 := 0, b8 := 0, b9 := 0, b10 := 0, b11 := 0, b12 := 0, b13 := 0, b14 := 0, b15 := 0 }, Exts := (true, 2, []), Frag := false, Id := 0, At := 0, More := false, Proto := 0, Data := [] }, 0, none, ()))) fun c3 p3 =>
                some (({ Class := 0, Flow := 0, Hop := 0, From := { b0 := 0, b1 := 0, b2 := 0, b3 := 0, b4 := 0, b5 := 0, b6 := 0, b7 := 0, b8 := 0, b9 := 0, b10 := 0, b11 := 0, b12 := 0, b13 := 0, b14 := 0, b15 := 0 }, To := { b0 := 0, b1 := 0, b2 := 0, b3 := 0, b4 := 0, b5 := 0, b6 := 0, b7 := 0, b8 := 0, b9 := 0, b10 := 0, b11 := 0, b12 := 0, b13 := 0, b14 := 0, b15 := 0 }, Exts := (true, 2, []), Frag := false, Id := 0, At := 0, More := false, Proto := 0, Data := [] }, 0, some (c3, p3), ()))
            else
              gd (inB 2 q1.snd.snd.fst.length) <|
              gd (inB 3 q1.snd.snd.fst.length) <|
              gd (ordB 4 (↑q1.snd.snd.fst.length : Int) q1.snd.snd.fst.length) <|
              bif ltI (IntKind.i64.wrap ((↑(sub q1.snd.snd.fst (some (V.int IntKind.i64 4)) none 4 (↑q1.snd.snd.fst.length : Int).toNat).length : Int) - 0)) 4 then
                gd (inB 0 q1.snd.snd.fst.length) <|
                gd (ordB 8 (↑q1.snd.snd.fst.length : Int) q1.snd.snd.fst.length) <|
                Option.bind (
                  F44 (sub q1.snd.snd.fst (some (V.int IntKind.i64 8)) none 8 (↑q1.snd.snd.fst.length : Int).toNat) (IntKind.i64.wrap (ior IntKind.i64 (IntKind.i64.wrap (IntKind.i64.wrap (bt s 4) * 256)) (IntKind.i64.wrap (bt s 5)) - IntKind.i64.wrap ((↑(sub s (some (V.int IntKind.i64 40)) (some (V.int IntKind.i64 (imin (↑s.length : Int) (IntKind.i64.wrap (40 + ior IntKind.i64 (IntKind.i64.wrap (IntKind.i64.wrap (bt s 4) * 256)) (IntKind.i64.wrap (bt s 5))))))) 40 (imin (↑s.length : Int) (IntKind.i64.wrap (40 + ior IntKind.i64 (IntKind.i64.wrap (IntKind.i64.wrap (bt s 4) * 256)) (IntKind.i64.wrap (bt s 5))))).toNat).length : Int) - (↑(sub q1.snd.snd.fst (some (V.int IntKind.i64 8)) none 8 (↑q1.snd.snd.fst.length : Int).toNat).length : Int))))) fun q2 =>
                bif q2 then
                  Option.bind (
                    F41 (7)) fun q3 =>
                  errK (q3) (
                    some (({ Class := 0, Flow := 0, Hop := 0, From := { b0 := 0, b1 := 0, b2 := 0, b3 := 0, b4 := 0, b5 := 0, b6 := 0, b7 := 0, b8 := 0, b9 := 0, b10 := 0, b11 := 0, b12 := 0, b13 := 0, b14 := 0, b15 := 0 }, To := { b0 := 0, b1 := 0, b2 := 0, b3 := 0, b4 := 0, b5 := 0, b6 := 0, b7 := 0, b8 := 0, b9 := 0, b10 := 0, b11 := 0, b12 := 0, b13 := 0, b14 := 0, b15 := 0 }, Exts := (true, 2, []), Frag := false, Id := 0, At := 0, More := false, Proto := 0, Data := [] }, 0, none, ()))) fun c4 p4 =>
                    some (({ Class := 0, Flow := 0, Hop := 0, From := { b0 := 0, b1 := 0, b2 := 0, b3 := 0, b4 := 0, b5 := 0, b6 := 0, b7 := 0, b8 := 0, b9 := 0, b10 := 0, b11 := 0, b12 := 0, b13 := 0, b14 := 0, b15 := 0 }, To := { b0 := 0, b1 := 0, b2 := 0, b3 := 0, b4 := 0, b5 := 0, b6 := 0, b7 := 0, b8 := 0, b9 := 0, b10 := 0, b11 := 0, b12 := 0, b13 := 0, b14 := 0, b15 := 0 }, Exts := (true, 2, []), Frag := false, Id := 0, At := 0, More := false, Proto := 0, Data := [] }, 0, some (c4, p4), ()))
                else
                  some (({ Class := iand IntKind.i64 ((ior IntKind.i64 (IntKind.i64.wrap (ior IntKind.i64 (IntKind.i64.wrap (ior IntKind.i64 (IntKind.i64.wrap (ior IntKind.i64 0 (IntKind.i64.wrap (bt (sub s (some (V.int IntKind.i64 0)) (some (V.int IntKind.i64 4)) 0 4) 0)) * 256)) (IntKind.i64.wrap (bt (sub s (some (V.int IntKind.i64 0)) (some (V.int IntKind.i64 4)) 0 4) 1)) * 256)) (IntKind.i64.wrap (bt (sub s (some (V.int IntKind.i64 0)) (some (V.int IntKind.i64 4)) 0 4) 2)) * 256)) (IntKind.i64.wrap (bt (sub s (some (V.int IntKind.i64 0)) (some (V.int IntKind.i64 4)) 0 4) 3))).fdiv 1048576) 255, Flow := iand IntKind.i64 (ior IntKind.i64 (IntKind.i64.wrap (ior IntKind.i64 (IntKind.i64.wrap (ior IntKind.i64 (IntKind.i64.wrap (ior IntKind.i64 0 (IntKind.i64.wrap (bt (sub s (some (V.int IntKind.i64 0)) (some (V.int IntKind.i64 4)) 0 4) 0)) * 256)) (IntKind.i64.wrap (bt (sub s (some (V.int IntKind.i64 0)) (some (V.int IntKind.i64 4)) 0 4) 1)) * 256)) (IntKind.i64.wrap (bt (sub s (some (V.int IntKind.i64 0)) (some (V.int IntKind.i64 4)) 0 4) 2)) * 256)) (IntKind.i64.wrap (bt (sub s (some (V.int IntKind.i64 0)) (some (V.int IntKind.i64 4)) 0 4) 3))) 1048575, Hop := IntKind.i64.wrap (bt s 7), From := { b0 := bt (sub s (some (V.int IntKind.i64 8)) none 8 (↑s.length : Int).toNat) 0, b1 := bt (sub s (some (V.int IntKind.i64 8)) none 8 (↑s.length : Int).toNat) 1, b2 := bt (sub s (some (V.int IntKind.i64 8)) none 8 (↑s.length : Int).toNat) 2, b3 := bt (sub s (some (V.int IntKind.i64 8)) none 8 (↑s.length : Int).toNat) 3, b4 := bt (sub s (some (V.int IntKind.i64 8)) none 8 (↑s.length : Int).toNat) 4, b5 := bt (sub s (some (V.int IntKind.i64 8)) none 8 (↑s.length : Int).toNat) 5, b6 := bt (sub s (some (V.int IntKind.i64 8)) none 8 (↑s.length : Int).toNat) 6, b7 := bt (sub s (some (V.int IntKind.i64 8)) none 8 (↑s.length : Int).toNat) 7, b8 := bt (sub s (some (V.int IntKind.i64 8)) none 8 (↑s.length : Int).toNat) 8, b9 := bt (sub s (some (V.int IntKind.i64 8)) none 8 (↑s.length : Int).toNat) 9, b10 := bt (sub s (some (V.int IntKind.i64 8)) none 8 (↑s.length : Int).toNat) 10, b11 := bt (sub s (some (V.int IntKind.i64 8)) none 8 (↑s.length : Int).toNat) 11, b12 := bt (sub s (some (V.int IntKind.i64 8)) none 8 (↑s.length : Int).toNat) 12, b13 := bt (sub s (some (V.int IntKind.i64 8)) none 8 (↑s.length : Int).toNat) 13, b14 := bt (sub s (some (V.int IntKind.i64 8)) none 8 (↑s.length : Int).toNat) 14, b15 := bt (sub s (some (V.int IntKind.i64 8)) none 8 (↑s.length : Int).toNat) 15 }, To := { b0 := bt (sub s (some (V.int IntKind.i64 24)) none 24 (↑s.length : Int).toNat) 0, b1 := bt (sub s (some (V.int IntKind.i64 24)) none 24 (↑s.length : Int).toNat) 1, b2 := bt (sub s (some (V.int IntKind.i64 24)) none 24 (↑s.length : Int).toNat) 2, b3 := bt (sub s (some (V.int IntKind.i64 24)) none 24 (↑s.length : Int).toNat) 3, b4 := bt (sub s (some (V.int IntKind.i64 24)) none 24 (↑s.length : Int).toNat) 4, b5 := bt (sub s (some (V.int IntKind.i64 24)) none 24 (↑s.length : Int).toNat) 5, b6 := bt (sub s (some (V.int IntKind.i64 24)) none 24 (↑s.length : Int).toNat) 6, b7 := bt (sub s (some (V.int IntKind.i64 24)) none 24 (↑s.length : Int).toNat) 7, b8 := bt (sub s (some (V.int IntKind.i64 24)) none 24 (↑s.length : Int).toNat) 8, b9 := bt (sub s (some (V.int IntKind.i64 24)) none 24 (↑s.length : Int).toNat) 9, b10 := bt (sub s (some (V.int IntKind.i64 24)) none 24 (↑s.length : Int).toNat) 10, b11 := bt (sub s (some (V.int IntKind.i64 24)) none 24 (↑s.length : Int).toNat) 11, b12 := bt (sub s (some (V.int IntKind.i64 24)) none 24 (↑s.length : Int).toNat) 12, b13 := bt (sub s (some (V.int IntKind.i64 24)) none 24 (↑s.length : Int).toNat) 13, b14 := bt (sub s (some (V.int IntKind.i64 24)) none 24 (↑s.length : Int).toNat) 14, b15 := bt (sub s (some (V.int IntKind.i64 24)) none 24 (↑s.length : Int).toNat) 15 }, Exts := (q1.fst.fst, 2, q1.fst.snd.snd), Frag := true, Id := 0, At := iandNot IntKind.i64 (ior IntKind.i64 (IntKind.i64.wrap (IntKind.i64.wrap (bt q1.snd.snd.fst 2) * 256)) (IntKind.i64.wrap (bt q1.snd.snd.fst 3))) 7, More := !iand IntKind.i64 (ior IntKind.i64 (IntKind.i64.wrap (IntKind.i64.wrap (bt q1.snd.snd.fst 2) * 256)) (IntKind.i64.wrap (bt q1.snd.snd.fst 3))) 1 == 0, Proto := IntKind.i64.wrap (bt q1.snd.snd.fst 0), Data := sub q1.snd.snd.fst (some (V.int IntKind.i64 8)) none 8 (↑q1.snd.snd.fst.length : Int).toNat }, IntKind.i64.wrap (ior IntKind.i64 (IntKind.i64.wrap (IntKind.i64.wrap (bt s 4) * 256)) (IntKind.i64.wrap (bt s 5)) - IntKind.i64.wrap ((↑(sub s (some (V.int IntKind.i64 40)) (some (V.int IntKind.i64 (imin (↑s.length : Int) (IntKind.i64.wrap (40 + ior IntKind.i64 (IntKind.i64.wrap (IntKind.i64.wrap (bt s 4) * 256)) (IntKind.i64.wrap (bt s 5))))))) 40 (imin (↑s.length : Int) (IntKind.i64.wrap (40 + ior IntKind.i64 (IntKind.i64.wrap (IntKind.i64.wrap (bt s 4) * 256)) (IntKind.i64.wrap (bt s 5))))).toNat).length : Int) - (↑(sub q1.snd.snd.fst (some (V.int IntKind.i64 8)) none 8 (↑q1.snd.snd.fst.length : Int).toNat).length : Int))), none, ()))
              else
                gd (ordB 0 4 (sub q1.snd.snd.fst (some (V.int IntKind.i64 4)) none 4 (↑q1.snd.snd.fst.length : Int).toNat).length) <|
                gd (inB 0 q1.snd.snd.fst.length) <|
                gd (ordB 8 (↑q1.snd.snd.fst.length : Int) q1.snd.snd.fst.length) <|
                Option.bind (
                  F44 (sub q1.snd.snd.fst (some (V.int IntKind.i64 8)) none 8 (↑q1.snd.snd.fst.length : Int).toNat) (IntKind.i64.wrap (ior IntKind.i64 (IntKind.i64.wrap (IntKind.i64.wrap (bt s 4) * 256)) (IntKind.i64.wrap (bt s 5)) - IntKind.i64.wrap ((↑(sub s (some (V.int IntKind.i64 40)) (some (V.int IntKind.i64 (imin (↑s.length : Int) (IntKind.i64.wrap (40 + ior IntKind.i64 (IntKind.i64.wrap (IntKind.i64.wrap (bt s 4) * 256)) (IntKind.i64.wrap (bt s 5))))))) 40 (imin (↑s.length : Int) (IntKind.i64.wrap (40 + ior IntKind.i64 (IntKind.i64.wrap (IntKind.i64.wrap (bt s 4) * 256)) (IntKind.i64.wrap (bt s 5))))).toNat).length : Int) - (↑(sub q1.snd.snd.fst (some (V.int IntKind.i64 8)) none 8 (↑q1.snd.snd.fst.length : Int).toNat).length : Int))))) fun q2 =>
                bif q2 then
                  Option.bind (
                    F41 (7)) fun q3 =>
                  errK (q3) (
                    some (({ Class := 0, Flow := 0, Hop := 0, From := { b0 := 0, b1 := 0, b2 := 0, b3 := 0, b4 := 0, b5 := 0, b6 := 0, b7 := 0, b8 := 0, b9 := 0, b10 := 0, b11 := 0, b12 := 0, b13 := 0, b14 := 0, b15 := 0 }, To := { b0 := 0, b1 := 0, b2 := 0, b3 := 0, b4 := 0, b5 := 0, b6 := 0, b7 := 0, b8 := 0, b9 := 0, b10 := 0, b11 := 0, b12 := 0, b13 := 0, b14 := 0, b15 := 0 }, Exts := (true, 2, []), Frag := false, Id := 0, At := 0, More := false, Proto := 0, Data := [] }, 0, none, ()))) fun c4 p4 =>
                    some (({ Class := 0, Flow := 0, Hop := 0, From := { b0 := 0, b1 := 0, b2 := 0, b3 := 0, b4 := 0, b5 := 0, b6 := 0, b7 := 0, b8 := 0, b9 := 0, b10 := 0, b11 := 0, b12 := 0, b13 := 0, b14 := 0, b15 := 0 }, To := { b0 := 0, b1 := 0, b2 := 0, b3 := 0, b4 := 0, b5 := 0, b6 := 0, b7 := 0, b8 := 0, b9 := 0, b10 := 0, b11 := 0, b12 := 0, b13 := 0, b14 := 0, b15 := 0 }, Exts := (true, 2, []), Frag := false, Id := 0, At := 0, More := false, Proto := 0, Data := [] }, 0, some (c4, p4), ()))
                else
                  some (({ Class := iand IntKind.i64 ((ior IntKind.i64 (IntKind.i64.wrap (ior IntKind.i64 (IntKind.i64.wrap (ior IntKind.i64 (IntKind.i64.wrap (ior IntKind.i64 0 (IntKind.i64.wrap (bt (sub s (some (V.int IntKind.i64 0)) (some (V.int IntKind.i64 4)) 0 4) 0)) * 256)) (IntKind.i64.wrap (bt (sub s (some (V.int IntKind.i64 0)) (some (V.int IntKind.i64 4)) 0 4) 1)) * 256)) (IntKind.i64.wrap (bt (sub s (some (V.int IntKind.i64 0)) (some (V.int IntKind.i64 4)) 0 4) 2)) * 256)) (IntKind.i64.wrap (bt (sub s (some (V.int IntKind.i64 0)) (some (V.int IntKind.i64 4)) 0 4) 3))).fdiv 1048576) 255, Flow := iand IntKind.i64 (ior IntKind.i64 (IntKind.i64.wrap (ior IntKind.i64 (IntKind.i64.wrap (ior IntKind.i64 (IntKind.i64.wrap (ior IntKind.i64 0 (IntKind.i64.wrap (bt (sub s (some (V.int IntKind.i64 0)) (some (V.int IntKind.i64 4)) 0 4) 0)) * 256)) (IntKind.i64.wrap (bt (sub s (some (V.int IntKind.i64 0)) (some (V.int IntKind.i64 4)) 0 4) 1)) * 256)) (IntKind.i64.wrap (bt (sub s (some (V.int IntKind.i64 0)) (some (V.int IntKind.i64 4)) 0 4) 2)) * 256)) (IntKind.i64.wrap (bt (sub s (some (V.int IntKind.i64 0)) (some (V.int IntKind.i64 4)) 0 4) 3))) 1048575, Hop := IntKind.i64.wrap (bt s 7), From := { b0 := bt (sub s (some (V.int IntKind.i64 8)) none 8 (↑s.length : Int).toNat) 0, b1 := bt (sub s (some (V.int IntKind.i64 8)) none 8 (↑s.length : Int).toNat) 1, b2 := bt (sub s (some (V.int IntKind.i64 8)) none 8 (↑s.length : Int).toNat) 2, b3 := bt (sub s (some (V.int IntKind.i64 8)) none 8 (↑s.length : Int).toNat) 3, b4 := bt (sub s (some (V.int IntKind.i64 8)) none 8 (↑s.length : Int).toNat) 4, b5 := bt (sub s (some (V.int IntKind.i64 8)) none 8 (↑s.length : Int).toNat) 5, b6 := bt (sub s (some (V.int IntKind.i64 8)) none 8 (↑s.length : Int).toNat) 6, b7 := bt (sub s (some (V.int IntKind.i64 8)) none 8 (↑s.length : Int).toNat) 7, b8 := bt (sub s (some (V.int IntKind.i64 8)) none 8 (↑s.length : Int).toNat) 8, b9 := bt (sub s (some (V.int IntKind.i64 8)) none 8 (↑s.length : Int).toNat) 9, b10 := bt (sub s (some (V.int IntKind.i64 8)) none 8 (↑s.length : Int).toNat) 10, b11 := bt (sub s (some (V.int IntKind.i64 8)) none 8 (↑s.length : Int).toNat) 11, b12 := bt (sub s (some (V.int IntKind.i64 8)) none 8 (↑s.length : Int).toNat) 12, b13 := bt (sub s (some (V.int IntKind.i64 8)) none 8 (↑s.length : Int).toNat) 13, b14 := bt (sub s (some (V.int IntKind.i64 8)) none 8 (↑s.length : Int).toNat) 14, b15 := bt (sub s (some (V.int IntKind.i64 8)) none 8 (↑s.length : Int).toNat) 15 }, To := { b0 := bt (sub s (some (V.int IntKind.i64 24)) none 24 (↑s.length : Int).toNat) 0, b1 := bt (sub s (some (V.int IntKind.i64 24)) none 24 (↑s.length : Int).toNat) 1, b2 := bt (sub s (some (V.int IntKind.i64 24)) none 24 (↑s.length : Int).toNat) 2, b3 := bt (sub s (some (V.int IntKind.i64 24)) none 24 (↑s.length : Int).toNat) 3, b4 := bt (sub s (some (V.int IntKind.i64 24)) none 24 (↑s.length : Int).toNat) 4, b5 := bt (sub s (some (V.int IntKind.i64 24)) none 24 (↑s.length : Int).toNat) 5, b6 := bt (sub s (some (V.int IntKind.i64 24)) none 24 (↑s.length : Int).toNat) 6, b7 := bt (sub s (some (V.int IntKind.i64 24)) none 24 (↑s.length : Int).toNat) 7, b8 := bt (sub s (some (V.int IntKind.i64 24)) none 24 (↑s.length : Int).toNat) 8, b9 := bt (sub s (some (V.int IntKind.i64 24)) none 24 (↑s.length : Int).toNat) 9, b10 := bt (sub s (some (V.int IntKind.i64 24)) none 24 (↑s.length : Int).toNat) 10, b11 := bt (sub s (some (V.int IntKind.i64 24)) none 24 (↑s.length : Int).toNat) 11, b12 := bt (sub s (some (V.int IntKind.i64 24)) none 24 (↑s.length : Int).toNat) 12, b13 := bt (sub s (some (V.int IntKind.i64 24)) none 24 (↑s.length : Int).toNat) 13, b14 := bt (sub s (some (V.int IntKind.i64 24)) none 24 (↑s.length : Int).toNat) 14, b15 := bt (sub s (some (V.int IntKind.i64 24)) none 24 (↑s.length : Int).toNat) 15 }, Exts := (q1.fst.fst, 2, q1.fst.snd.snd), Frag := true, Id := IntKind.u32.wrap (ior IntKind.i64 (IntKind.i64.wrap (ior IntKind.i64 (IntKind.i64.wrap (ior IntKind.i64 (IntKind.i64.wrap (ior IntKind.i64 0 (IntKind.i64.wrap (bt (sub (sub q1.snd.snd.fst (some (V.int IntKind.i64 4)) none 4 (↑q1.snd.snd.fst.length : Int).toNat) (some (V.int IntKind.i64 0)) (some (V.int IntKind.i64 4)) 0 4) 0)) * 256)) (IntKind.i64.wrap (bt (sub (sub q1.snd.snd.fst (some (V.int IntKind.i64 4)) none 4 (↑q1.snd.snd.fst.length : Int).toNat) (some (V.int IntKind.i64 0)) (some (V.int IntKind.i64 4)) 0 4) 1)) * 256)) (IntKind.i64.wrap (bt (sub (sub q1.snd.snd.fst (some (V.int IntKind.i64 4)) none 4 (↑q1.snd.snd.fst.length : Int).toNat) (some (V.int IntKind.i64 0)) (some (V.int IntKind.i64 4)) 0 4) 2)) * 256)) (IntKind.i64.wrap (bt (sub (sub q1.snd.snd.fst (some (V.int IntKind.i64 4)) none 4 (↑q1.snd.snd.fst.length : Int).toNat) (some (V.int IntKind.i64 0)) (some (V.int IntKind.i64 4)) 0 4) 3))), At := iandNot IntKind.i64 (ior IntKind.i64 (IntKind.i64.wrap (IntKind.i64.wrap (bt q1.snd.snd.fst 2) * 256)) (IntKind.i64.wrap (bt q1.snd.snd.fst 3))) 7, More := !iand IntKind.i64 (ior IntKind.i64 (IntKind.i64.wrap (IntKind.i64.wrap (bt q1.snd.snd.fst 2) * 256)) (IntKind.i64.wrap (bt q1.snd.snd.fst 3))) 1 == 0, Proto := IntKind.i64.wrap (bt q1.snd.snd.fst 0), Data := sub q1.snd.snd.fst (some (V.int IntKind.i64 8)) none 8 (↑q1.snd.snd.fst.length : Int).toNat }, IntKind.i64.wrap (ior IntKind.i64 (IntKind.i64.wrap (IntKind.i64.wrap (bt s 4) * 256)) (IntKind.i64.wrap (bt s 5)) - IntKind.i64.wrap ((↑(sub s (some (V.int IntKind.i64 40)) (some (V.int IntKind.i64 (imin (↑s.length : Int) (IntKind.i64.wrap (40 + ior IntKind.i64 (IntKind.i64.wrap (IntKind.i64.wrap (bt s 4) * 256)) (IntKind.i64.wrap (bt s 5))))))) 40 (imin (↑s.length : Int) (IntKind.i64.wrap (40 + ior IntKind.i64 (IntKind.i64.wrap (IntKind.i64.wrap (bt s 4) * 256)) (IntKind.i64.wrap (bt s 5))))).toNat).length : Int) - (↑(sub q1.snd.snd.fst (some (V.int IntKind.i64 8)) none 8 (↑q1.snd.snd.fst.length : Int).toNat).length : Int))), none, ()))
          else
            Option.bind (
              F44 (q1.snd.snd.fst) (IntKind.i64.wrap (ior IntKind.i64 (IntKind.i64.wrap (IntKind.i64.wrap (bt s 4) * 256)) (IntKind.i64.wrap (bt s 5)) - IntKind.i64.wrap ((↑(sub s (some (V.int IntKind.i64 40)) (some (V.int IntKind.i64 (imin (↑s.length : Int) (IntKind.i64.wrap (40 + ior IntKind.i64 (IntKind.i64.wrap (IntKind.i64.wrap (bt s 4) * 256)) (IntKind.i64.wrap (bt s 5))))))) 40 (imin (↑s.length : Int) (IntKind.i64.wrap (40 + ior IntKind.i64 (IntKind.i64.wrap (IntKind.i64.wrap (bt s 4) * 256)) (IntKind.i64.wrap (bt s 5))))).toNat).length : Int) - (↑q1.snd.snd.fst.length : Int))))) fun q2 =>
            bif q2 then
              Option.bind (
                F41 (7)) fun q3 =>
              errK (q3) (
                some (({ Class := 0, Flow := 0, Hop := 0, From := { b0 := 0, b1 := 0, b2 := 0, b3 := 0, b4 := 0, b5 := 0, b6 := 0, b7 := 0, b8 := 0, b9 := 0, b10 := 0, b11 := 0, b12 := 0, b13 := 0, b14 := 0, b15 := 0 }, To := { b0 := 0, b1 := 0, b2 := 0, b3 := 0, b4 := 0, b5 := 0, b6 := 0, b7 := 0, b8 := 0, b9 := 0, b10 := 0, b11 := 0, b12 := 0, b13 := 0, b14 := 0, b15 := 0 }, Exts := (true, 2, []), Frag := false, Id := 0, At := 0, More := false, Proto := 0, Data := [] }, 0, none, ()))) fun c4 p4 =>
                some (({ Class := 0, Flow := 0, Hop := 0, From := { b0 := 0, b1 := 0, b2 := 0, b3 := 0, b4 := 0, b5 := 0, b6 := 0, b7 := 0, b8 := 0, b9 := 0, b10 := 0, b11 := 0, b12 := 0, b13 := 0, b14 := 0, b15 := 0 }, To := { b0 := 0, b1 := 0, b2 := 0, b3 := 0, b4 := 0, b5 := 0, b6 := 0, b7 := 0, b8 := 0, b9 := 0, b10 := 0, b11 := 0, b12 := 0, b13 := 0, b14 := 0, b15 := 0 }, Exts := (true, 2, []), Frag := false, Id := 0, At := 0, More := false, Proto := 0, Data := [] }, 0, some (c4, p4), ()))
            else
              some (({ Class := iand IntKind.i64 ((ior IntKind.i64 (IntKind.i64.wrap (ior IntKind.i64 (IntKind.i64.wrap (ior IntKind.i64 (IntKind.i64.wrap (ior IntKind.i64 0 (IntKind.i64.wrap (bt (sub s (some (V.int IntKind.i64 0)) (some (V.int IntKind.i64 4)) 0 4) 0)) * 256)) (IntKind.i64.wrap (bt (sub s (some (V.int IntKind.i64 0)) (some (V.int IntKind.i64 4)) 0 4) 1)) * 256)) (IntKind.i64.wrap (bt (sub s (some (V.int IntKind.i64 0)) (some (V.int IntKind.i64 4)) 0 4) 2)) * 256)) (IntKind.i64.wrap (bt (sub s (some (V.int IntKind.i64 0)) (some (V.int IntKind.i64 4)) 0 4) 3))).fdiv 1048576) 255, Flow := iand IntKind.i64 (ior IntKind.i64 (IntKind.i64.wrap (ior IntKind.i64 (IntKind.i64.wrap (ior IntKind.i64 (IntKind.i64.wrap (ior IntKind.i64 0 (IntKind.i64.wrap (bt (sub s (some (V.int IntKind.i64 0)) (some (V.int IntKind.i64 4)) 0 4) 0)) * 256)) (IntKind.i64.wrap (bt (sub s (some (V.int IntKind.i64 0)) (some (V.int IntKind.i64 4)) 0 4) 1)) * 256)) (IntKind.i64.wrap (bt (sub s (some (V.int IntKind.i64 0)) (some (V.int IntKind.i64 4)) 0 4) 2)) * 256)) (IntKind.i64.wrap (bt (sub s (some (V.int IntKind.i64 0)) (some (V.int IntKind.i64 4)) 0 4) 3))) 1048575, Hop := IntKind.i64.wrap (bt s 7), From := { b0 := bt (sub s (some (V.int IntKind.i64 8)) none 8 (↑s.length : Int).toNat) 0, b1 := bt (sub s (some (V.int IntKind.i64 8)) none 8 (↑s.length : Int).toNat) 1, b2 := bt (sub s (some (V.int IntKind.i64 8)) none 8 (↑s.length : Int).toNat) 2, b3 := bt (sub s (some (V.int IntKind.i64 8)) none 8 (↑s.length : Int).toNat) 3, b4 := bt (sub s (some (V.int IntKind.i64 8)) none 8 (↑s.length : Int).toNat) 4, b5 := bt (sub s (some (V.int IntKind.i64 8)) none 8 (↑s.length : Int).toNat) 5, b6 := bt (sub s (some (V.int IntKind.i64 8)) none 8 (↑s.length : Int).toNat) 6, b7 := bt (sub s (some (V.int IntKind.i64 8)) none 8 (↑s.length : Int).toNat) 7, b8 := bt (sub s (some (V.int IntKind.i64 8)) none 8 (↑s.length : Int).toNat) 8, b9 := bt (sub s (some (V.int IntKind.i64 8)) none 8 (↑s.length : Int).toNat) 9, b10 := bt (sub s (some (V.int IntKind.i64 8)) none 8 (↑s.length : Int).toNat) 10, b11 := bt (sub s (some (V.int IntKind.i64 8)) none 8 (↑s.length : Int).toNat) 11, b12 := bt (sub s (some (V.int IntKind.i64 8)) none 8 (↑s.length : Int).toNat) 12, b13 := bt (sub s (some (V.int IntKind.i64 8)) none 8 (↑s.length : Int).toNat) 13, b14 := bt (sub s (some (V.int IntKind.i64 8)) none 8 (↑s.length : Int).toNat) 14, b15 := bt (sub s (some (V.int IntKind.i64 8)) none 8 (↑s.length : Int).toNat) 15 }, To := { b0 := bt (sub s (some (V.int IntKind.i64 24)) none 24 (↑s.length : Int).toNat) 0, b1 := bt (sub s (some (V.int IntKind.i64 24)) none 24 (↑s.length : Int).toNat) 1, b2 := bt (sub s (some (V.int IntKind.i64 24)) none 24 (↑s.length : Int).toNat) 2, b3 := bt (sub s (some (V.int IntKind.i64 24)) none 24 (↑s.length : Int).toNat) 3, b4 := bt (sub s (some (V.int IntKind.i64 24)) none 24 (↑s.length : Int).toNat) 4, b5 := bt (sub s (some (V.int IntKind.i64 24)) none 24 (↑s.length : Int).toNat) 5, b6 := bt (sub s (some (V.int IntKind.i64 24)) none 24 (↑s.length : Int).toNat) 6, b7 := bt (sub s (some (V.int IntKind.i64 24)) none 24 (↑s.length : Int).toNat) 7, b8 := bt (sub s (some (V.int IntKind.i64 24)) none 24 (↑s.length : Int).toNat) 8, b9 := bt (sub s (some (V.int IntKind.i64 24)) none 24 (↑s.length : Int).toNat) 9, b10 := bt (sub s (some (V.int IntKind.i64 24)) none 24 (↑s.length : Int).toNat) 10, b11 := bt (sub s (some (V.int IntKind.i64 24)) none 24 (↑s.length : Int).toNat) 11, b12 := bt (sub s (some (V.int IntKind.i64 24)) none 24 (↑s.length : Int).toNat) 12, b13 := bt (sub s (some (V.int IntKind.i64 24)) none 24 (↑s.length : Int).toNat) 13, b14 := bt (sub s (some (V.int IntKind.i64 24)) none 24 (↑s.length : Int).toNat) 14, b15 := bt (sub s (some (V.int IntKind.i64 24)) none 24 (↑s.length : Int).toNat) 15 }, Exts := (q1.fst.fst, 2, q1.fst.snd.snd), Frag := false, Id := 0, At := 0, More := false, Proto := q1.snd.fst, Data := q1.snd.snd.fst }, IntKind.i64.wrap (ior IntKind.i64 (IntKind.i64.wrap (IntKind.i64.wrap (bt s 4) * 256)) (IntKind.i64.wrap (bt s 5)) - IntKind.i64.wrap ((↑(sub s (some (V.int IntKind.i64 40)) (some (V.int IntKind.i64 (imin (↑s.length : Int) (IntKind.i64.wrap (40 + ior IntKind.i64 (IntKind.i64.wrap (IntKind.i64.wrap (bt s 4) * 256)) (IntKind.i64.wrap (bt s 5))))))) 40 (imin (↑s.length : Int) (IntKind.i64.wrap (40 + ior IntKind.i64 (IntKind.i64.wrap (IntKind.i64.wrap (bt s 4) * 256)) (IntKind.i64.wrap (bt s 5))))).toNat).length : Int) - (↑q1.snd.snd.fst.length : Int))), none, ()))) fun c2 p2 =>
        gd (q1.fst.snd.fst.beq 2 || q1.fst.fst) <|
        some (({ Class := 0, Flow := 0, Hop := 0, From := { b0 := 0, b1 := 0, b2 := 0, b3 := 0, b4 := 0, b5 := 0, b6 := 0, b7 := 0, b8 := 0, b9 := 0, b10 := 0, b11 := 0, b12 := 0, b13 := 0, b14 := 0, b15 := 0 }, To := { b0 := 0, b1 := 0, b2 := 0, b3 := 0, b4 := 0, b5 := 0, b6 := 0, b7 := 0, b8 := 0, b9 := 0, b10 := 0, b11 := 0, b12 := 0, b13 := 0, b14 := 0, b15 := 0 }, Exts := (true, 2, []), Frag := false, Id := 0, At := 0, More := false, Proto := 0, Data := [] }, 0, some (c2, p2), ()))
theorem F18_ev : ∀ a, evTop Try.prog ⟨[d41, d44, d52], inl_keeps9, keepIn keeps9, []⟩ 6 18 (CodL.val (CodL.cons Cod.str CodL.nil) a) (fun v => Cod.dec (Cod.tup (CodL.cons (Cod.agg lIp6) (CodL.cons (Cod.int .i64) (CodL.cons (Cod.err faultT) CodL.nil)))) v some) = (fun a => F18 a.1) a := by
  intro a; kernel_rfl
noncomputable def d18 : Ctr Try.prog := Ctr.ofF 18 (CodL.cons Cod.str CodL.nil) (Cod.tup (CodL.cons (Cod.agg lIp6) (CodL.cons (Cod.int .i64) (CodL.cons (Cod.err faultT) CodL.nil)))) (fun a => F18 a.1) (pcalls_of_ev mix noLoops F18_ev)
/-- interpreter/head64.Proto -/
def F56 (proto : Int) : Option (Int × Bool × Unit) :=
  bif proto == 58 then
    some ((1, true, ()))
  else
    bif proto == 0 then
      some ((0, false, ()))
    else
      bif proto == 1 then
        some ((0, false, ()))
      else
        bif proto == 2 then
          some ((0, false, ()))
        else
          bif proto == 43 then
            some ((0, false, ()))
          else
            bif proto == 44 then
              some ((0, false, ()))
            else
              bif proto == 60 then
                some ((0, false, ()))
              else
                Option.bind (
                  bif ltI proto 0 then
                    some (true)
                  else
                    some (ltI 255 proto)) fun q1 =>
                bif q1 then
                  some ((0, false, ()))
                else
                  some ((proto, true, ()))
theorem F56_ev : ∀ a, evTop Try.prog ⟨[], inl_keeps9, keepIn keeps9, []⟩ 6 56 (CodL.val (CodL.cons (Cod.int .i64) CodL.nil) a) (fun v => Cod.dec (Cod.tup (CodL.cons (Cod.int .i64) (CodL.cons Cod.bool CodL.nil))) v some) = (fun a => F56 a.1) a := by
  intro a; kernel_rfl
noncomputable def d56 : Ctr Try.prog := Ctr.ofF 56 (CodL.cons (Cod.int .i64) CodL.nil) (Cod.tup (CodL.cons (Cod.int .i64) (CodL.cons Cod.bool CodL.nil))) (fun a => F56 a.1) (pcalls_of_ev mix noLoops F56_ev)
/-- interpreter/fault.turn4 -/
def F58 (p : Ip6) (claim : Int) (x2_from : T4) (x3_to : T4) : Option (List UInt8) :=
  bif ltI 0 p.At then
    some (p.Data)
  else
    Option.bind (
      bif p.Proto == 6 then
        some (true)
      else
        some (p.Proto == 17)) fun q4 =>
    bif q4 then
      Option.bind (
        F87 (p.Proto) (p.Data) ([UInt8.ofNat p.From.b0.toNat, UInt8.ofNat p.From.b1.toNat, UInt8.ofNat p.From.b2.toNat, UInt8.ofNat p.From.b3.toNat, UInt8.ofNat p.From.b4.toNat, UInt8.ofNat p.From.b5.toNat, UInt8.ofNat p.From.b6.toNat, UInt8.ofNat p.From.b7.toNat, UInt8.ofNat p.From.b8.toNat, UInt8.ofNat p.From.b9.toNat, UInt8.ofNat p.From.b10.toNat, UInt8.ofNat p.From.b11.toNat, UInt8.ofNat p.From.b12.toNat, UInt8.ofNat p.From.b13.toNat, UInt8.ofNat p.From.b14.toNat, UInt8.ofNat p.From.b15.toNat] ++ [UInt8.ofNat p.To.b0.toNat, UInt8.ofNat p.To.b1.toNat, UInt8.ofNat p.To.b2.toNat, UInt8.ofNat p.To.b3.toNat, UInt8.ofNat p.To.b4.toNat, UInt8.ofNat p.To.b5.toNat, UInt8.ofNat p.To.b6.toNat, UInt8.ofNat p.To.b7.toNat, UInt8.ofNat p.To.b8.toNat, UInt8.ofNat p.To.b9.toNat, UInt8.ofNat p.To.b10.toNat, UInt8.ofNat p.To.b11.toNat, UInt8.ofNat p.To.b12.toNat, UInt8.ofNat p.To.b13.toNat, UInt8.ofNat p.To.b14.toNat, UInt8.ofNat p.To.b15.toNat]) ([UInt8.ofNat x2_from.Addr.b0.toNat, UInt8.ofNat x2_from.Addr.b1.toNat, UInt8.ofNat x2_from.Addr.b2.toNat, UInt8.ofNat x2_from.Addr.b3.toNat] ++ [UInt8.ofNat x3_to.Addr.b0.toNat, UInt8.ofNat x3_to.Addr.b1.toNat, UInt8.ofNat x3_to.Addr.b2.toNat, UInt8.ofNat x3_to.Addr.b3.toNat]) (x2_from.Port) (x3_to.Port)) fun q5 =>
      some (q5)
    else
      Option.bind (
        bif p.Proto == 58 then
          some (leI 8 (↑p.Data.length : Int))
        else
          some (false)) fun q5 =>
      bif q5 then
        gd (inB 0 p.Data.length) <|
        bif Decidable.decide (bt p.Data 0 = 128) then
          Option.bind (
            gd (inB 1 p.Data.length) <|
            some (bt p.Data 1 == 0)) fun q6 =>
          bif q6 then
            Option.bind (
              F29 ({ b0 := p.From.b0, b1 := p.From.b1, b2 := p.From.b2, b3 := p.From.b3, b4 := p.From.b4, b5 := p.From.b5, b6 := p.From.b6, b7 := p.From.b7, b8 := p.From.b8, b9 := p.From.b9, b10 := p.From.b10, b11 := p.From.b11, b12 := p.From.b12, b13 := p.From.b13, b14 := p.From.b14, b15 := p.From.b15 }) ({ b0 := p.To.b0, b1 := p.To.b1, b2 := p.To.b2, b3 := p.To.b3, b4 := p.To.b4, b5 := p.To.b5, b6 := p.To.b6, b7 := p.To.b7, b8 := p.To.b8, b9 := p.To.b9, b10 := p.To.b10, b11 := p.To.b11, b12 := p.To.b12, b13 := p.To.b13, b14 := p.To.b14, b15 := p.To.b15 }) (58) (claim)) fun q7 =>
            Option.bind (
              F88 (p.Data) (q7) ([]) (8) (x2_from.Port)) fun q8 =>
            some (q8)
          else
            some (p.Data)
        else
          bif Decidable.decide (bt p.Data 0 = 129) then
            Option.bind (
              gd (inB 1 p.Data.length) <|
              some (bt p.Data 1 == 0)) fun q6 =>
            bif q6 then
              Option.bind (
                F29 ({ b0 := p.From.b0, b1 := p.From.b1, b2 := p.From.b2, b3 := p.From.b3, b4 := p.From.b4, b5 := p.From.b5, b6 := p.From.b6, b7 := p.From.b7, b8 := p.From.b8, b9 := p.From.b9, b10 := p.From.b10, b11 := p.From.b11, b12 := p.From.b12, b13 := p.From.b13, b14 := p.From.b14, b15 := p.From.b15 }) ({ b0 := p.To.b0, b1 := p.To.b1, b2 := p.To.b2, b3 := p.To.b3, b4 := p.To.b4, b5 := p.To.b5, b6 := p.To.b6, b7 := p.To.b7, b8 := p.To.b8, b9 := p.To.b9, b10 := p.To.b10, b11 := p.To.b11, b12 := p.To.b12, b13 := p.To.b13, b14 := p.To.b14, b15 := p.To.b15 }) (58) (claim)) fun q7 =>
              Option.bind (
                F88 (p.Data) (q7) ([]) (0) (x2_from.Port)) fun q8 =>
              some (q8)
            else
              some (p.Data)
          else
            some (p.Data)
      else
        some (p.Data)
theorem F58_ev : ∀ a, evTop Try.prog ⟨[d29, d87, d88], inl_keeps9, keepIn keeps9, []⟩ 6 58 (CodL.val (CodL.cons (Cod.agg lIp6) (CodL.cons (Cod.int .i64) (CodL.cons (Cod.agg lT4) (CodL.cons (Cod.agg lT4) CodL.nil)))) a) (fun v => Cod.dec Cod.str v some) = (fun a => F58 a.1 a.2.1 a.2.2.1 a.2.2.2.1) a := by
  intro a; kernel_rfl
noncomputable def d58 : Ctr Try.prog := Ctr.ofF 58 (CodL.cons (Cod.agg lIp6) (CodL.cons (Cod.int .i64) (CodL.cons (Cod.agg lT4) (CodL.cons (Cod.agg lT4) CodL.nil)))) Cod.str (fun a => F58 a.1 a.2.1 a.2.2.1 a.2.2.2.1) (pcalls_of_ev mix noLoops F58_ev)
/-- interpreter/fault.Quote4 -/
def F21 (p : Ip6) (claim : Int) (x2_from : T4) (x3_to : T4) : Option ((List UInt8) × Err × Unit) :=
  Option.bind (
    F56 (p.Proto)) fun q4 =>
  Option.bind (
    Option.bind (
      bif ltI p.Class 0 then
        some (true)
      else
        some (ltI 255 p.Class)) fun q5 =>
    bif q5 then
      some (false)
    else
      Option.bind (
        bif ltI p.Hop 0 then
          some (true)
        else
          some (ltI 255 p.Hop)) fun q6 =>
      bif q6 then
        some (false)
      else
        some (true)) fun q5 =>
  bif !q5 then
    Option.bind (
      F41 (13)) fun q6 =>
    errK (q6) (
      some (([], none, ()))) fun c7 p7 =>
      some (([], some (c7, p7), ()))
  else
    Option.bind (
      Option.bind (
        bif ltI x2_from.Port 0 then
          some (true)
        else
          some (ltI 65535 x2_from.Port)) fun q6 =>
      bif q6 then
        some (false)
      else
        Option.bind (
          bif ltI x3_to.Port 0 then
            some (true)
          else
            some (ltI 65535 x3_to.Port)) fun q7 =>
        bif q7 then
          some (false)
        else
          some (true)) fun q6 =>
    bif !q6 then
      Option.bind (
        F41 (13)) fun q7 =>
      errK (q7) (
        some (([], none, ()))) fun c8 p8 =>
        some (([], some (c8, p8), ()))
    else
      Option.bind (
        Option.bind (
          bif ltI p.At 0 then
            some (true)
          else
            some (ltI 65528 p.At)) fun q7 =>
        bif q7 then
          some (false)
        else
          some (true)) fun q7 =>
      bif !q7 then
        Option.bind (
          F41 (13)) fun q8 =>
        errK (q8) (
          some (([], none, ()))) fun c9 p9 =>
          some (([], some (c9, p9), ()))
      else
        bif !p.At.tmod 8 == 0 then
          Option.bind (
            F41 (13)) fun q8 =>
          errK (q8) (
            some (([], none, ()))) fun c9 p9 =>
            some (([], some (c9, p9), ()))
        else
          bif ltI claim (↑p.Data.length : Int) then
            Option.bind (
              F41 (13)) fun q8 =>
            errK (q8) (
              some (([], none, ()))) fun c9 p9 =>
              some (([], some (c9, p9), ()))
          else
            bif !q4.snd.fst then
              Option.bind (
                F41 (10)) fun q8 =>
              errK (q8) (
                some (([], none, ()))) fun c9 p9 =>
                some (([], some (c9, p9), ()))
            else
              bif ltI (IntKind.i64.wrap (65515 - p.At)) claim then
                Option.bind (
                  F41 (3)) fun q8 =>
                errK (q8) (
                  some (([], none, ()))) fun c9 p9 =>
                  some (([], some (c9, p9), ()))
              else
                bif p.Frag then
                  bif p.More then
                    Option.bind (
                      F48 (p.Class) (1)) fun q8 =>
                    gd (catOk [69] q8) <|
                    Option.bind (
                      F48 (IntKind.i64.wrap (20 + claim)) (2)) fun q9 =>
                    gd (catOk ([69] ++ q8) q9) <|
                    Option.bind (
                      F48 (IntKind.i64.wrap (iand IntKind.u32 p.Id 65535)) (2)) fun q10 =>
                    gd (catOk ([69] ++ q8 ++ q9) q10) <|
                    Option.bind (
                      F48 (ior IntKind.i64 (IntKind.i64.wrap (p.At.tdiv 8)) 8192) (2)) fun q11 =>
                    gd (catOk ([69] ++ q8 ++ q9 ++ q10) q11) <|
                    Option.bind (
                      F48 (p.Hop) (1)) fun q12 =>
                    gd (catOk ([69] ++ q8 ++ q9 ++ q10 ++ q11) q12) <|
                    Option.bind (
                      F48 (q4.fst) (1)) fun q13 =>
                    gd (catOk ([69] ++ q8 ++ q9 ++ q10 ++ q11 ++ q12) q13) <|
                    Option.bind (
                      Option.bind (
                        F93 (0) (0) ([69] ++ q8 ++ q9 ++ q10 ++ q11 ++ q12 ++ q13) (0)) fun q14 =>
                      Option.bind (
                        F92 (q14)) fun q15 =>
                      Option.bind (
                        F93 (q15) (IntKind.i64.wrap (0 + (↑([69] ++ q8 ++ q9 ++ q10 ++ q11 ++ q12 ++ q13).length : Int))) ([UInt8.ofNat x2_from.Addr.b0.toNat, UInt8.ofNat x2_from.Addr.b1.toNat, UInt8.ofNat x2_from.Addr.b2.toNat, UInt8.ofNat x2_from.Addr.b3.toNat] ++ [UInt8.ofNat x3_to.Addr.b0.toNat, UInt8.ofNat x3_to.Addr.b1.toNat, UInt8.ofNat x3_to.Addr.b2.toNat, UInt8.ofNat x3_to.Addr.b3.toNat]) (0)) fun q16 =>
                      Option.bind (
                        F92 (q16)) fun q17 =>
                      some (IntKind.i64.wrap (65535 - q17))) fun q14 =>
                    Option.bind (
                      F48 (q14) (2)) fun q15 =>
                    gd (catOk ([69] ++ q8 ++ q9 ++ q10 ++ q11 ++ q12 ++ q13) q15) <|
                    gd (catOk ([69] ++ q8 ++ q9 ++ q10 ++ q11 ++ q12 ++ q13 ++ q15) ([UInt8.ofNat x2_from.Addr.b0.toNat, UInt8.ofNat x2_from.Addr.b1.toNat, UInt8.ofNat x2_from.Addr.b2.toNat, UInt8.ofNat x2_from.Addr.b3.toNat] ++ [UInt8.ofNat x3_to.Addr.b0.toNat, UInt8.ofNat x3_to.Addr.b1.toNat, UInt8.ofNat x3_to.Addr.b2.toNat, UInt8.ofNat x3_to.Addr.b3.toNat])) <|
                    gd (p.Exts.snd.fst.beq 2 || p.Exts.fst) <|
                    Option.bind (
                      F58 ({ Class := p.Class, Flow := p.Flow, Hop := p.Hop, From := { b0 := p.From.b0, b1 := p.From.b1, b2 := p.From.b2, b3 := p.From.b3, b4 := p.From.b4, b5 := p.From.b5, b6 := p.From.b6, b7 := p.From.b7, b8 := p.From.b8, b9 := p.From.b9, b10 := p.From.b10, b11 := p.From.b11, b12 := p.From.b12, b13 := p.From.b13, b14 := p.From.b14, b15 := p.From.b15 }, To := { b0 := p.To.b0, b1 := p.To.b1, b2 := p.To.b2, b3 := p.To.b3, b4 := p.To.b4, b5 := p.To.b5, b6 := p.To.b6, b7 := p.To.b7, b8 := p.To.b8, b9 := p.To.b9, b10 := p.To.b10, b11 := p.To.b11, b12 := p.To.b12, b13 := p.To.b13, b14 := p.To.b14, b15 := p.To.b15 }, Exts := (p.Exts.fst, 2, p.Exts.snd.snd), Frag := p.Frag, Id := p.Id, At := p.At, More := p.More, Proto := p.Proto, Data := p.Data }) (claim) ({ Addr := { b0 := x2_from.Addr.b0, b1 := x2_from.Addr.b1, b2 := x2_from.Addr.b2, b3 := x2_from.Addr.b3 }, Port := x2_from.Port }) ({ Addr := { b0 := x3_to.Addr.b0, b1 := x3_to.Addr.b1, b2 := x3_to.Addr.b2, b3 := x3_to.Addr.b3 }, Port := x3_to.Port })) fun q16 =>
                    gd (catOk ([69] ++ q8 ++ q9 ++ q10 ++ q11 ++ q12 ++ q13 ++ q15 ++ ([UInt8.ofNat x2_from.Addr.b0.toNat, UInt8.ofNat x2_from.Addr.b1.toNat, UInt8.ofNat x2_from.Addr.b2.toNat, UInt8.ofNat x2_from.Addr.b3.toNat] ++ [UInt8.ofNat x3_to.Addr.b0.toNat, UInt8.ofNat x3_to.Addr.b1.toNat, UInt8.ofNat x3_to.Addr.b2.toNat, UInt8.ofNat x3_to.Addr.b3.toNat])) q16) <|
                    some (([69] ++ q8 ++ q9 ++ q10 ++ q11 ++ q12 ++ q13 ++ q15 ++ ([UInt8.ofNat x2_from.Addr.b0.toNat, UInt8.ofNat x2_from.Addr.b1.toNat, UInt8.ofNat x2_from.Addr.b2.toNat, UInt8.ofNat x2_from.Addr.b3.toNat] ++ [UInt8.ofNat x3_to.Addr.b0.toNat, UInt8.ofNat x3_to.Addr.b1.toNat, UInt8.ofNat x3_to.Addr.b2.toNat, UInt8.ofNat x3_to.Addr.b3.toNat]) ++ q16, none, ()))
                  else
                    Option.bind (
                      F48 (p.Class) (1)) fun q8 =>
                    gd (catOk [69] q8) <|
                    Option.bind (
                      F48 (IntKind.i64.wrap (20 + claim)) (2)) fun q9 =>
                    gd (catOk ([69] ++ q8) q9) <|
                    Option.bind (
                      F48 (IntKind.i64.wrap (iand IntKind.u32 p.Id 65535)) (2)) fun q10 =>
                    gd (catOk ([69] ++ q8 ++ q9) q10) <|
                    Option.bind (
                      F48 (IntKind.i64.wrap (p.At.tdiv 8)) (2)) fun q11 =>
                    gd (catOk ([69] ++ q8 ++ q9 ++ q10) q11) <|
                    Option.bind (
                      F48 (p.Hop) (1)) fun q12 =>
                    gd (catOk ([69] ++ q8 ++ q9 ++ q10 ++ q11) q12) <|
                    Option.bind (
                      F48 (q4.fst) (1)) fun q13 =>
                    gd (catOk ([69] ++ q8 ++ q9 ++ q10 ++ q11 ++ q12) q13) <|
                    Option.bind (
                      Option.bind (
                        F93 (0) (0) ([69] ++ q8 ++ q9 ++ q10 ++ q11 ++ q12 ++ q13) (0)) fun q14 =>
                      Option.bind (
                        F92 (q14)) fun q15 =>
                      Option.bind (
                        F93 (q15) (IntKind.i64.wrap (0 + (↑([69] ++ q8 ++ q9 ++ q10 ++ q11 ++ q12 ++ q13).length : Int))) ([UInt8.ofNat x2_from.Addr.b0.toNat, UInt8.ofNat x2_from.Addr.b1.toNat, UInt8.ofNat x2_from.Addr.b2.toNat, UInt8.ofNat x2_from.Addr.b3.toNat] ++ [UInt8.ofNat x3_to.Addr.b0.toNat, UInt8.ofNat x3_to.Addr.b1.toNat, UInt8.ofNat x3_to.Addr.b2.toNat, UInt8.ofNat x3_to.Addr.b3.toNat]) (0)) fun q16 =>
                      Option.bind (
                        F92 (q16)) fun q17 =>
                      some (IntKind.i64.wrap (65535 - q17))) fun q14 =>
                    Option.bind (
                      F48 (q14) (2)) fun q15 =>
                    gd (catOk ([69] ++ q8 ++ q9 ++ q10 ++ q11 ++ q12 ++ q13) q15) <|
                    gd (catOk ([69] ++ q8 ++ q9 ++ q10 ++ q11 ++ q12 ++ q13 ++ q15) ([UInt8.ofNat x2_from.Addr.b0.toNat, UInt8.ofNat x2_from.Addr.b1.toNat, UInt8.ofNat x2_from.Addr.b2.toNat, UInt8.ofNat x2_from.Addr.b3.toNat] ++ [UInt8.ofNat x3_to.Addr.b0.toNat, UInt8.ofNat x3_to.Addr.b1.toNat, UInt8.ofNat x3_to.Addr.b2.toNat, UInt8.ofNat x3_to.Addr.b3.toNat])) <|
                    gd (p.Exts.snd.fst.beq 2 || p.Exts.fst) <|
                    Option.bind (
                      F58 ({ Class := p.Class, Flow := p.Flow, Hop := p.Hop, From := { b0 := p.From.b0, b1 := p.From.b1, b2 := p.From.b2, b3 := p.From.b3, b4 := p.From.b4, b5 := p.From.b5, b6 := p.From.b6, b7 := p.From.b7, b8 := p.From.b8, b9 := p.From.b9, b10 := p.From.b10, b11 := p.From.b11, b12 := p.From.b12, b13 := p.From.b13, b14 := p.From.b14, b15 := p.From.b15 }, To := { b0 := p.To.b0, b1 := p.To.b1, b2 := p.To.b2, b3 := p.To.b3, b4 := p.To.b4, b5 := p.To.b5, b6 := p.To.b6, b7 := p.To.b7, b8 := p.To.b8, b9 := p.To.b9, b10 := p.To.b10, b11 := p.To.b11, b12 := p.To.b12, b13 := p.To.b13, b14 := p.To.b14, b15 := p.To.b15 }, Exts := (p.Exts.fst, 2, p.Exts.snd.snd), Frag := p.Frag, Id := p.Id, At := p.At, More := p.More, Proto := p.Proto, Data := p.Data }) (claim) ({ Addr := { b0 := x2_from.Addr.b0, b1 := x2_from.Addr.b1, b2 := x2_from.Addr.b2, b3 := x2_from.Addr.b3 }, Port := x2_from.Port }) ({ Addr := { b0 := x3_to.Addr.b0, b1 := x3_to.Addr.b1, b2 := x3_to.Addr.b2, b3 := x3_to.Addr.b3 }, Port := x3_to.Port })) fun q16 =>
                    gd (catOk ([69] ++ q8 ++ q9 ++ q10 ++ q11 ++ q12 ++ q13 ++ q15 ++ ([UInt8.ofNat x2_from.Addr.b0.toNat, UInt8.ofNat x2_from.Addr.b1.toNat, UInt8.ofNat x2_from.Addr.b2.toNat, UInt8.ofNat x2_from.Addr.b3.toNat] ++ [UInt8.ofNat x3_to.Addr.b0.toNat, UInt8.ofNat x3_to.Addr.b1.toNat, UInt8.ofNat x3_to.Addr.b2.toNat, UInt8.ofNat x3_to.Addr.b3.toNat])) q16) <|
                    some (([69] ++ q8 ++ q9 ++ q10 ++ q11 ++ q12 ++ q13 ++ q15 ++ ([UInt8.ofNat x2_from.Addr.b0.toNat, UInt8.ofNat x2_from.Addr.b1.toNat, UInt8.ofNat x2_from.Addr.b2.toNat, UInt8.ofNat x2_from.Addr.b3.toNat] ++ [UInt8.ofNat x3_to.Addr.b0.toNat, UInt8.ofNat x3_to.Addr.b1.toNat, UInt8.ofNat x3_to.Addr.b2.toNat, UInt8.ofNat x3_to.Addr.b3.toNat]) ++ q16, none, ()))
                else
                  bif ltI 1240 claim then
                    bif p.More then
                      Option.bind (
                        F48 (p.Class) (1)) fun q8 =>
                      gd (catOk [69] q8) <|
                      Option.bind (
                        F48 (IntKind.i64.wrap (20 + claim)) (2)) fun q9 =>
                      gd (catOk ([69] ++ q8) q9) <|
                      Option.bind (
                        F48 (0) (2)) fun q10 =>
                      gd (catOk ([69] ++ q8 ++ q9) q10) <|
                      Option.bind (
                        F48 (ior IntKind.i64 (ior IntKind.i64 (IntKind.i64.wrap (p.At.tdiv 8)) 16384) 8192) (2)) fun q11 =>
                      gd (catOk ([69] ++ q8 ++ q9 ++ q10) q11) <|
                      Option.bind (
                        F48 (p.Hop) (1)) fun q12 =>
                      gd (catOk ([69] ++ q8 ++ q9 ++ q10 ++ q11) q12) <|
                      Option.bind (
                        F48 (q4.fst) (1)) fun q13 =>
                      gd (catOk ([69] ++ q8 ++ q9 ++ q10 ++ q11 ++ q12) q13) <|
                      Option.bind (
                        Option.bind (
                          F93 (0) (0) ([69] ++ q8 ++ q9 ++ q10 ++ q11 ++ q12 ++ q13) (0)) fun q14 =>
                        Option.bind (
                          F92 (q14)) fun q15 =>
                        Option.bind (
                          F93 (q15) (IntKind.i64.wrap (0 + (↑([69] ++ q8 ++ q9 ++ q10 ++ q11 ++ q12 ++ q13).length : Int))) ([UInt8.ofNat x2_from.Addr.b0.toNat, UInt8.ofNat x2_from.Addr.b1.toNat, UInt8.ofNat x2_from.Addr.b2.toNat, UInt8.ofNat x2_from.Addr.b3.toNat] ++ [UInt8.ofNat x3_to.Addr.b0.toNat, UInt8.ofNat x3_to.Addr.b1.toNat, UInt8.ofNat x3_to.Addr.b2.toNat, UInt8.ofNat x3_to.Addr.b3.toNat]) (0)) fun q16 =>
                        Option.bind (
                          F92 (q16)) fun q17 =>
                        some (IntKind.i64.wrap (65535 - q17))) fun q14 =>
                      Option.bind (
                        F48 (q14) (2)) fun q15 =>
                      gd (catOk ([69] ++ q8 ++ q9 ++ q10 ++ q11 ++ q12 ++ q13) q15) <|
                      gd (catOk ([69] ++ q8 ++ q9 ++ q10 ++ q11 ++ q12 ++ q13 ++ q15) ([UInt8.ofNat x2_from.Addr.b0.toNat, UInt8.ofNat x2_from.Addr.b1.toNat, UInt8.ofNat x2_from.Addr.b2.toNat, UInt8.ofNat x2_from.Addr.b3.toNat] ++ [UInt8.ofNat x3_to.Addr.b0.toNat, UInt8.ofNat x3_to.Addr.b1.toNat, UInt8.ofNat x3_to.Addr.b2.toNat, UInt8.ofNat x3_to.Addr.b3.toNat])) <|
                      gd (p.Exts.snd.fst.beq 2 || p.Exts.fst) <|
                      Option.bind (
                        F58 ({ Class := p.Class, Flow := p.Flow, Hop := p.Hop, From := { b0 := p.From.b0, b1 := p.From.b1, b2 := p.From.b2, b3 := p.From.b3, b4 := p.From.b4, b5 := p.From.b5, b6 := p.From.b6, b7 := p.From.b7, b8 := p.From.b8, b9 := p.From.b9, b10 := p.From.b10, b11 := p.From.b11, b12 := p.From.b12, b13 := p.From.b13, b14 := p.From.b14, b15 := p.From.b15 }, To := { b0 := p.To.b0, b1 := p.To.b1, b2 := p.To.b2, b3 := p.To.b3, b4 := p.To.b4, b5 := p.To.b5, b6 := p.To.b6, b7 := p.To.b7, b8 := p.To.b8, b9 := p.To.b9, b10 := p.To.b10, b11 := p.To.b11, b12 := p.To.b12, b13 := p.To.b13, b14 := p.To.b14, b15 := p.To.b15 }, Exts := (p.Exts.fst, 2, p.Exts.snd.snd), Frag := p.Frag, Id := p.Id, At := p.At, More := p.More, Proto := p.Proto, Data := p.Data }) (claim) ({ Addr := { b0 := x2_from.Addr.b0, b1 := x2_from.Addr.b1, b2 := x2_from.Addr.b2, b3 := x2_from.Addr.b3 }, Port := x2_from.Port }) ({ Addr := { b0 := x3_to.Addr.b0, b1 := x3_to.Addr.b1, b2 := x3_to.Addr.b2, b3 := x3_to.Addr.b3 }, Port := x3_to.Port })) fun q16 =>
                      gd (catOk ([69] ++ q8 ++ q9 ++ q10 ++ q11 ++ q12 ++ q13 ++ q15 ++ ([UInt8.ofNat x2_from.Addr.b0.toNat, UInt8.ofNat x2_from.Addr.b1.toNat, UInt8.ofNat x2_from.Addr.b2.toNat, UInt8.ofNat x2_from.Addr.b3.toNat] ++ [UInt8.ofNat x3_to.Addr.b0.toNat, UInt8.ofNat x3_to.Addr.b1.toNat, UInt8.ofNat x3_to.Addr.b2.toNat, UInt8.ofNat x3_to.Addr.b3.toNat])) q16) <|
                      some (([69] ++ q8 ++ q9 ++ q10 ++ q11 ++ q12 ++ q13 ++ q15 ++ ([UInt8.ofNat x2_from.Addr.b0.toNat, UInt8.ofNat x2_from.Addr.b1.toNat, UInt8.ofNat x2_from.Addr.b2.toNat, UInt8.ofNat x2_from.Addr.b3.toNat] ++ [UInt8.ofNat x3_to.Addr.b0.toNat, UInt8.ofNat x3_to.Addr.b1.toNat, UInt8.ofNat x3_to.Addr.b2.toNat, UInt8.ofNat x3_to.Addr.b3.toNat]) ++ q16, none, ()))
                    else
                      Option.bind (
                        F48 (p.Class) (1)) fun q8 =>
                      gd (catOk [69] q8) <|
                      Option.bind (
                        F48 (IntKind.i64.wrap (20 + claim)) (2)) fun q9 =>
                      gd (catOk ([69] ++ q8) q9) <|
                      Option.bind (
                        F48 (0) (2)) fun q10 =>
                      gd (catOk ([69] ++ q8 ++ q9) q10) <|
                      Option.bind (
                        F48 (ior IntKind.i64 (IntKind.i64.wrap (p.At.tdiv 8)) 16384) (2)) fun q11 =>
                      gd (catOk ([69] ++ q8 ++ q9 ++ q10) q11) <|
                      Option.bind (
                        F48 (p.Hop) (1)) fun q12 =>
                      gd (catOk ([69] ++ q8 ++ q9 ++ q10 ++ q11) q12) <|
                      Option.bind (
                        F48 (q4.fst) (1)) fun q13 =>
                      gd (catOk ([69] ++ q8 ++ q9 ++ q10 ++ q11 ++ q12) q13) <|
                      Option.bind (
                        Option.bind (
                          F93 (0) (0) ([69] ++ q8 ++ q9 ++ q10 ++ q11 ++ q12 ++ q13) (0)) fun q14 =>
                        Option.bind (
                          F92 (q14)) fun q15 =>
                        Option.bind (
                          F93 (q15) (IntKind.i64.wrap (0 + (↑([69] ++ q8 ++ q9 ++ q10 ++ q11 ++ q12 ++ q13).length : Int))) ([UInt8.ofNat x2_from.Addr.b0.toNat, UInt8.ofNat x2_from.Addr.b1.toNat, UInt8.ofNat x2_from.Addr.b2.toNat, UInt8.ofNat x2_from.Addr.b3.toNat] ++ [UInt8.ofNat x3_to.Addr.b0.toNat, UInt8.ofNat x3_to.Addr.b1.toNat, UInt8.ofNat x3_to.Addr.b2.toNat, UInt8.ofNat x3_to.Addr.b3.toNat]) (0)) fun q16 =>
                        Option.bind (
                          F92 (q16)) fun q17 =>
                        some (IntKind.i64.wrap (65535 - q17))) fun q14 =>
                      Option.bind (
                        F48 (q14) (2)) fun q15 =>
                      gd (catOk ([69] ++ q8 ++ q9 ++ q10 ++ q11 ++ q12 ++ q13) q15) <|
                      gd (catOk ([69] ++ q8 ++ q9 ++ q10 ++ q11 ++ q12 ++ q13 ++ q15) ([UInt8.ofNat x2_from.Addr.b0.toNat, UInt8.ofNat x2_from.Addr.b1.toNat, UInt8.ofNat x2_from.Addr.b2.toNat, UInt8.ofNat x2_from.Addr.b3.toNat] ++ [UInt8.ofNat x3_to.Addr.b0.toNat, UInt8.ofNat x3_to.Addr.b1.toNat, UInt8.ofNat x3_to.Addr.b2.toNat, UInt8.ofNat x3_to.Addr.b3.toNat])) <|
                      gd (p.Exts.snd.fst.beq 2 || p.Exts.fst) <|
                      Option.bind (
                        F58 ({ Class := p.Class, Flow := p.Flow, Hop := p.Hop, From := { b0 := p.From.b0, b1 := p.From.b1, b2 := p.From.b2, b3 := p.From.b3, b4 := p.From.b4, b5 := p.From.b5, b6 := p.From.b6, b7 := p.From.b7, b8 := p.From.b8, b9 := p.From.b9, b10 := p.From.b10, b11 := p.From.b11, b12 := p.From.b12, b13 := p.From.b13, b14 := p.From.b14, b15 := p.From.b15 }, To := { b0 := p.To.b0, b1 := p.To.b1, b2 := p.To.b2, b3 := p.To.b3, b4 := p.To.b4, b5 := p.To.b5, b6 := p.To.b6, b7 := p.To.b7, b8 := p.To.b8, b9 := p.To.b9, b10 := p.To.b10, b11 := p.To.b11, b12 := p.To.b12, b13 := p.To.b13, b14 := p.To.b14, b15 := p.To.b15 }, Exts := (p.Exts.fst, 2, p.Exts.snd.snd), Frag := p.Frag, Id := p.Id, At := p.At, More := p.More, Proto := p.Proto, Data := p.Data }) (claim) ({ Addr := { b0 := x2_from.Addr.b0, b1 := x2_from.Addr.b1, b2 := x2_from.Addr.b2, b3 := x2_from.Addr.b3 }, Port := x2_from.Port }) ({ Addr := { b0 := x3_to.Addr.b0, b1 := x3_to.Addr.b1, b2 := x3_to.Addr.b2, b3 := x3_to.Addr.b3 }, Port := x3_to.Port })) fun q16 =>
                      gd (catOk ([69] ++ q8 ++ q9 ++ q10 ++ q11 ++ q12 ++ q13 ++ q15 ++ ([UInt8.ofNat x2_from.Addr.b0.toNat, UInt8.ofNat x2_from.Addr.b1.toNat, UInt8.ofNat x2_from.Addr.b2.toNat, UInt8.ofNat x2_from.Addr.b3.toNat] ++ [UInt8.ofNat x3_to.Addr.b0.toNat, UInt8.ofNat x3_to.Addr.b1.toNat, UInt8.ofNat x3_to.Addr.b2.toNat, UInt8.ofNat x3_to.Addr.b3.toNat])) q16) <|
                      some (([69] ++ q8 ++ q9 ++ q10 ++ q11 ++ q12 ++ q13 ++ q15 ++ ([UInt8.ofNat x2_from.Addr.b0.toNat, UInt8.ofNat x2_from.Addr.b1.toNat, UInt8.ofNat x2_from.Addr.b2.toNat, UInt8.ofNat x2_from.Addr.b3.toNat] ++ [UInt8.ofNat x3_to.Addr.b0.toNat, UInt8.ofNat x3_to.Addr.b1.toNat, UInt8.ofNat x3_to.Addr.b2.toNat, UInt8.ofNat x3_to.Addr.b3.toNat]) ++ q16, none, ()))
                  else
                    bif p.More then
                      Option.bind (
                        F48 (p.Class) (1)) fun q8 =>
                      gd (catOk [69] q8) <|
                      Option.bind (
                        F48 (IntKind.i64.wrap (20 + claim)) (2)) fun q9 =>
                      gd (catOk ([69] ++ q8) q9) <|
                      Option.bind (
                        F48 (0) (2)) fun q10 =>
                      gd (catOk ([69] ++ q8 ++ q9) q10) <|
                      Option.bind (
                        F48 (ior IntKind.i64 (IntKind.i64.wrap (p.At.tdiv 8)) 8192) (2)) fun q11 =>
                      gd (catOk ([69] ++ q8 ++ q9 ++ q10) q11) <|
                      Option.bind (
                        F48 (p.Hop) (1)) fun q12 =>
                      gd (catOk ([69] ++ q8 ++ q9 ++ q10 ++ q11) q12) <|
                      Option.bind (
                        F48 (q4.fst) (1)) fun q13 =>
                      gd (catOk ([69] ++ q8 ++ q9 ++ q10 ++ q11 ++ q12) q13) <|
                      Option.bind (
                        Option.bind (
                          F93 (0) (0) ([69] ++ q8 ++ q9 ++ q10 ++ q11 ++ q12 ++ q13) (0)) fun q14 =>
                        Option.bind (
                          F92 (q14)) fun q15 =>
                        Option.bind (
                          F93 (q15) (IntKind.i64.wrap (0 + (↑([69] ++ q8 ++ q9 ++ q10 ++ q11 ++ q12 ++ q13).length : Int))) ([UInt8.ofNat x2_from.Addr.b0.toNat, UInt8.ofNat x2_from.Addr.b1.toNat, UInt8.ofNat x2_from.Addr.b2.toNat, UInt8.ofNat x2_from.Addr.b3.toNat] ++ [UInt8.ofNat x3_to.Addr.b0.toNat, UInt8.ofNat x3_to.Addr.b1.toNat, UInt8.ofNat x3_to.Addr.b2.toNat, UInt8.ofNat x3_to.Addr.b3.toNat]) (0)) fun q16 =>
                        Option.bind (
                          F92 (q16)) fun q17 =>
                        some (IntKind.i64.wrap (65535 - q17))) fun q14 =>
                      Option.bind (
                        F48 (q14) (2)) fun q15 =>
                      gd (catOk ([69] ++ q8 ++ q9 ++ q10 ++ q11 ++ q12 ++ q13) q15) <|
                      gd (catOk ([69] ++ q8 ++ q9 ++ q10 ++ q11 ++ q12 ++ q13 ++ q15) ([UInt8.ofNat x2_from.Addr.b0.toNat, UInt8.ofNat x2_from.Addr.b1.toNat, UInt8.ofNat x2_from.Addr.b2.toNat, UInt8.ofNat x2_from.Addr.b3.toNat] ++ [UInt8.ofNat x3_to.Addr.b0.toNat, UInt8.ofNat x3_to.Addr.b1.toNat, UInt8.ofNat x3_to.Addr.b2.toNat, UInt8.ofNat x3_to.Addr.b3.toNat])) <|
                      gd (p.Exts.snd.fst.beq 2 || p.Exts.fst) <|
                      Option.bind (
                        F58 ({ Class := p.Class, Flow := p.Flow, Hop := p.Hop, From := { b0 := p.From.b0, b1 := p.From.b1, b2 := p.From.b2, b3 := p.From.b3, b4 := p.From.b4, b5 := p.From.b5, b6 := p.From.b6, b7 := p.From.b7, b8 := p.From.b8, b9 := p.From.b9, b10 := p.From.b10, b11 := p.From.b11, b12 := p.From.b12, b13 := p.From.b13, b14 := p.From.b14, b15 := p.From.b15 }, To := { b0 := p.To.b0, b1 := p.To.b1, b2 := p.To.b2, b3 := p.To.b3, b4 := p.To.b4, b5 := p.To.b5, b6 := p.To.b6, b7 := p.To.b7, b8 := p.To.b8, b9 := p.To.b9, b10 := p.To.b10, b11 := p.To.b11, b12 := p.To.b12, b13 := p.To.b13, b14 := p.To.b14, b15 := p.To.b15 }, Exts := (p.Exts.fst, 2, p.Exts.snd.snd), Frag := p.Frag, Id := p.Id, At := p.At, More := p.More, Proto := p.Proto, Data := p.Data }) (claim) ({ Addr := { b0 := x2_from.Addr.b0, b1 := x2_from.Addr.b1, b2 := x2_from.Addr.b2, b3 := x2_from.Addr.b3 }, Port := x2_from.Port }) ({ Addr := { b0 := x3_to.Addr.b0, b1 := x3_to.Addr.b1, b2 := x3_to.Addr.b2, b3 := x3_to.Addr.b3 }, Port := x3_to.Port })) fun q16 =>
                      gd (catOk ([69] ++ q8 ++ q9 ++ q10 ++ q11 ++ q12 ++ q13 ++ q15 ++ ([UInt8.ofNat x2_from.Addr.b0.toNat, UInt8.ofNat x2_from.Addr.b1.toNat, UInt8.ofNat x2_from.Addr.b2.toNat, UInt8.ofNat x2_from.Addr.b3.toNat] ++ [UInt8.ofNat x3_to.Addr.b0.toNat, UInt8.ofNat x3_to.Addr.b1.toNat, UInt8.ofNat x3_to.Addr.b2.toNat, UInt8.ofNat x3_to.Addr.b3.toNat])) q16) <|
                      some (([69] ++ q8 ++ q9 ++ q10 ++ q11 ++ q12 ++ q13 ++ q15 ++ ([UInt8.ofNat x2_from.Addr.b0.toNat, UInt8.ofNat x2_from.Addr.b1.toNat, UInt8.ofNat x2_from.Addr.b2.toNat, UInt8.ofNat x2_from.Addr.b3.toNat] ++ [UInt8.ofNat x3_to.Addr.b0.toNat, UInt8.ofNat x3_to.Addr.b1.toNat, UInt8.ofNat x3_to.Addr.b2.toNat, UInt8.ofNat x3_to.Addr.b3.toNat]) ++ q16, none, ()))
                    else
                      Option.bind (
                        F48 (p.Class) (1)) fun q8 =>
                      gd (catOk [69] q8) <|
                      Option.bind (
                        F48 (IntKind.i64.wrap (20 + claim)) (2)) fun q9 =>
                      gd (catOk ([69] ++ q8) q9) <|
                      Option.bind (
                        F48 (0) (2)) fun q10 =>
                      gd (catOk ([69] ++ q8 ++ q9) q10) <|
                      Option.bind (
                        F48 (IntKind.i64.wrap (p.At.tdiv 8)) (2)) fun q11 =>
                      gd (catOk ([69] ++ q8 ++ q9 ++ q10) q11) <|
                      Option.bind (
                        F48 (p.Hop) (1)) fun q12 =>
                      gd (catOk ([69] ++ q8 ++ q9 ++ q10 ++ q11) q12) <|
                      Option.bind (
                        F48 (q4.fst) (1)) fun q13 =>
                      gd (catOk ([69] ++ q8 ++ q9 ++ q10 ++ q11 ++ q12) q13) <|
                      Option.bind (
                        Option.bind (
                          F93 (0) (0) ([69] ++ q8 ++ q9 ++ q10 ++ q11 ++ q12 ++ q13) (0)) fun q14 =>
                        Option.bind (
                          F92 (q14)) fun q15 =>
                        Option.bind (
                          F93 (q15) (IntKind.i64.wrap (0 + (↑([69] ++ q8 ++ q9 ++ q10 ++ q11 ++ q12 ++ q13).length : Int))) ([UInt8.ofNat x2_from.Addr.b0.toNat, UInt8.ofNat x2_from.Addr.b1.toNat, UInt8.ofNat x2_from.Addr.b2.toNat, UInt8.ofNat x2_from.Addr.b3.toNat] ++ [UInt8.ofNat x3_to.Addr.b0.toNat, UInt8.ofNat x3_to.Addr.b1.toNat, UInt8.ofNat x3_to.Addr.b2.toNat, UInt8.ofNat x3_to.Addr.b3.toNat]) (0)) fun q16 =>
                        Option.bind (
                          F92 (q16)) fun q17 =>
                        some (IntKind.i64.wrap (65535 - q17))) fun q14 =>
                      Option.bind (
                        F48 (q14) (2)) fun q15 =>
                      gd (catOk ([69] ++ q8 ++ q9 ++ q10 ++ q11 ++ q12 ++ q13) q15) <|
                      gd (catOk ([69] ++ q8 ++ q9 ++ q10 ++ q11 ++ q12 ++ q13 ++ q15) ([UInt8.ofNat x2_from.Addr.b0.toNat, UInt8.ofNat x2_from.Addr.b1.toNat, UInt8.ofNat x2_from.Addr.b2.toNat, UInt8.ofNat x2_from.Addr.b3.toNat] ++ [UInt8.ofNat x3_to.Addr.b0.toNat, UInt8.ofNat x3_to.Addr.b1.toNat, UInt8.ofNat x3_to.Addr.b2.toNat, UInt8.ofNat x3_to.Addr.b3.toNat])) <|
                      gd (p.Exts.snd.fst.beq 2 || p.Exts.fst) <|
                      Option.bind (
                        F58 ({ Class := p.Class, Flow := p.Flow, Hop := p.Hop, From := { b0 := p.From.b0, b1 := p.From.b1, b2 := p.From.b2, b3 := p.From.b3, b4 := p.From.b4, b5 := p.From.b5, b6 := p.From.b6, b7 := p.From.b7, b8 := p.From.b8, b9 := p.From.b9, b10 := p.From.b10, b11 := p.From.b11, b12 := p.From.b12, b13 := p.From.b13, b14 := p.From.b14, b15 := p.From.b15 }, To := { b0 := p.To.b0, b1 := p.To.b1, b2 := p.To.b2, b3 := p.To.b3, b4 := p.To.b4, b5 := p.To.b5, b6 := p.To.b6, b7 := p.To.b7, b8 := p.To.b8, b9 := p.To.b9, b10 := p.To.b10, b11 := p.To.b11, b12 := p.To.b12, b13 := p.To.b13, b14 := p.To.b14, b15 := p.To.b15 }, Exts := (p.Exts.fst, 2, p.Exts.snd.snd), Frag := p.Frag, Id := p.Id, At := p.At, More := p.More, Proto := p.Proto, Data := p.Data }) (claim) ({ Addr := { b0 := x2_from.Addr.b0, b1 := x2_from.Addr.b1, b2 := x2_from.Addr.b2, b3 := x2_from.Addr.b3 }, Port := x2_from.Port }) ({ Addr := { b0 := x3_to.Addr.b0, b1 := x3_to.Addr.b1, b2 := x3_to.Addr.b2, b3 := x3_to.Addr.b3 }, Port := x3_to.Port })) fun q16 =>
                      gd (catOk ([69] ++ q8 ++ q9 ++ q10 ++ q11 ++ q12 ++ q13 ++ q15 ++ ([UInt8.ofNat x2_from.Addr.b0.toNat, UInt8.ofNat x2_from.Addr.b1.toNat, UInt8.ofNat x2_from.Addr.b2.toNat, UInt8.ofNat x2_from.Addr.b3.toNat] ++ [UInt8.ofNat x3_to.Addr.b0.toNat, UInt8.ofNat x3_to.Addr.b1.toNat, UInt8.ofNat x3_to.Addr.b2.toNat, UInt8.ofNat x3_to.Addr.b3.toNat])) q16) <|
                      some (([69] ++ q8 ++ q9 ++ q10 ++ q11 ++ q12 ++ q13 ++ q15 ++ ([UInt8.ofNat x2_from.Addr.b0.toNat, UInt8.ofNat x2_from.Addr.b1.toNat, UInt8.ofNat x2_from.Addr.b2.toNat, UInt8.ofNat x2_from.Addr.b3.toNat] ++ [UInt8.ofNat x3_to.Addr.b0.toNat, UInt8.ofNat x3_to.Addr.b1.toNat, UInt8.ofNat x3_to.Addr.b2.toNat, UInt8.ofNat x3_to.Addr.b3.toNat]) ++ q16, none, ()))
theorem F21_ev : ∀ a, evTop Try.prog ⟨[d41, d47, d48, d56, d57, d58], inl_keeps9, keepIn keeps9, []⟩ 6 21 (CodL.val (CodL.cons (Cod.agg lIp6) (CodL.cons (Cod.int .i64) (CodL.cons (Cod.agg lT4) (CodL.cons (Cod.agg lT4) CodL.nil)))) a) (fun v => Cod.dec (Cod.tup (CodL.cons Cod.str (CodL.cons (Cod.err faultT) CodL.nil))) v some) = (fun a => F21 a.1 a.2.1 a.2.2.1 a.2.2.2.1) a := by
  intro a; kernel_rfl
noncomputable def d21 : Ctr Try.prog := Ctr.ofF 21 (CodL.cons (Cod.agg lIp6) (CodL.cons (Cod.int .i64) (CodL.cons (Cod.agg lT4) (CodL.cons (Cod.agg lT4) CodL.nil)))) (Cod.tup (CodL.cons Cod.str (CodL.cons (Cod.err faultT) CodL.nil))) (fun a => F21 a.1 a.2.1 a.2.2.1 a.2.2.2.1) (pcalls_of_ev mix noLoops F21_ev)
/-- interpreter/icmpmap.lost4 -/
def F104 (m : Msg) : Option (Msg × Bool × Unit) :=
  bif m.Code == 0 then
    Option.bind (
      F101 ({ Kind := m.Kind, Code := m.Code, Rest := m.Rest, Data := m.Data }) (3) (1) (0)) fun q1 =>
    some (({ Kind := q1.fst.Kind, Code := q1.fst.Code, Rest := q1.fst.Rest, Data := q1.fst.Data }, q1.snd.fst, ()))
  else
    bif m.Code == 2 then
      Option.bind (
        F101 ({ Kind := m.Kind, Code := m.Code, Rest := m.Rest, Data := m.Data }) (3) (1) (0)) fun q1 =>
      some (({ Kind := q1.fst.Kind, Code := q1.fst.Code, Rest := q1.fst.Rest, Data := q1.fst.Data }, q1.snd.fst, ()))
    else
      bif m.Code == 3 then
        Option.bind (
          F101 ({ Kind := m.Kind, Code := m.Code, Rest := m.Rest, Data := m.Data }) (3) (1) (0)) fun q1 =>
        some (({ Kind := q1.fst.Kind, Code := q1.fst.Code, Rest := q1.fst.Rest, Data := q1.fst.Data }, q1.snd.fst, ()))
      else
        bif m.Code == 1 then
          Option.bind (
            F101 ({ Kind := m.Kind, Code := m.Code, Rest := m.Rest, Data := m.Data }) (3) (10) (0)) fun q1 =>
          some (({ Kind := q1.fst.Kind, Code := q1.fst.Code, Rest := q1.fst.Rest, Data := q1.fst.Data }, q1.snd.fst, ()))
        else
          bif m.Code == 4 then
            Option.bind (
              F101 ({ Kind := m.Kind, Code := m.Code, Rest := m.Rest, Data := m.Data }) (3) (3) (0)) fun q1 =>
            some (({ Kind := q1.fst.Kind, Code := q1.fst.Code, Rest := q1.fst.Rest, Data := q1.fst.Data }, q1.snd.fst, ()))
          else
            some (({ Kind := 0, Code := 0, Rest := 0, Data := [] }, false, ()))
theorem F104_ev : ∀ a, evTop Try.prog ⟨[d101], inl_keeps9, keepIn keeps9, []⟩ 6 104 (CodL.val (CodL.cons (Cod.agg lMsg) CodL.nil) a) (fun v => Cod.dec (Cod.tup (CodL.cons (Cod.agg lMsg) (CodL.cons Cod.bool CodL.nil))) v some) = (fun a => F104 a.1) a := by
  intro a; kernel_rfl
noncomputable def d104 : Ctr Try.prog := Ctr.ofF 104 (CodL.cons (Cod.agg lMsg) CodL.nil) (Cod.tup (CodL.cons (Cod.agg lMsg) (CodL.cons Cod.bool CodL.nil))) (fun a => F104 a.1) (pcalls_of_ev mix noLoops F104_ev)
/-- interpreter/icmpmap.pointer4 -/
def F105 (n : Int) : Option (Int × Bool × Unit) :=
  Option.bind (
    bif n == 0 then
      some (true)
    else
      some (n == 1)) fun q1 =>
  bif q1 then
    some ((IntKind.i64.wrap n, true, ()))
  else
    Option.bind (
      bif n == 4 then
        some (true)
      else
        some (n == 5)) fun q2 =>
    bif q2 then
      some ((2, true, ()))
    else
      bif n == 6 then
        some ((9, true, ()))
      else
        bif n == 7 then
          some ((8, true, ()))
        else
          Option.bind (
            bif leI 8 n then
              some (leI n 23)
            else
              some (false)) fun q3 =>
          bif q3 then
            some ((12, true, ()))
          else
            Option.bind (
              bif leI 24 n then
                some (leI n 39)
              else
                some (false)) fun q4 =>
            bif q4 then
              some ((16, true, ()))
            else
              some ((0, false, ()))
theorem F105_ev : ∀ a, evTop Try.prog ⟨[], inl_keeps9, keepIn keeps9, []⟩ 6 105 (CodL.val (CodL.cons (Cod.int .u32) CodL.nil) a) (fun v => Cod.dec (Cod.tup (CodL.cons (Cod.int .i64) (CodL.cons Cod.bool CodL.nil))) v some) = (fun a => F105 a.1) a := by
  intro a; kernel_rfl
noncomputable def d105 : Ctr Try.prog := Ctr.ofF 105 (CodL.cons (Cod.int .u32) CodL.nil) (Cod.tup (CodL.cons (Cod.int .i64) (CodL.cons Cod.bool CodL.nil))) (fun a => F105 a.1) (pcalls_of_ev mix noLoops F105_ev)
/-- interpreter/icmpmap.To4 -/
def F74 (m : Msg) (mtu4 : Int) (mtu6 : Int) : Option (Msg × Bool × Unit) :=
  Option.bind (
    F100 (mtu4) (mtu6)) fun q3 =>
  bif !q3 then
    some (({ Kind := 0, Code := 0, Rest := 0, Data := [] }, false, ()))
  else
    Option.bind (
      bif m.Kind == 128 then
        some (m.Code == 0)
      else
        some (false)) fun q4 =>
    bif q4 then
      Option.bind (
        F101 ({ Kind := m.Kind, Code := m.Code, Rest := m.Rest, Data := m.Data }) (8) (0) (IntKind.i64.wrap m.Rest)) fun q5 =>
      some (({ Kind := q5.fst.Kind, Code := q5.fst.Code, Rest := q5.fst.Rest, Data := q5.fst.Data }, q5.snd.fst, ()))
    else
      Option.bind (
        bif m.Kind == 129 then
          some (m.Code == 0)
        else
          some (false)) fun q5 =>
      bif q5 then
        Option.bind (
          F101 ({ Kind := m.Kind, Code := m.Code, Rest := m.Rest, Data := m.Data }) (0) (0) (IntKind.i64.wrap m.Rest)) fun q6 =>
        some (({ Kind := q6.fst.Kind, Code := q6.fst.Code, Rest := q6.fst.Rest, Data := q6.fst.Data }, q6.snd.fst, ()))
      else
        bif m.Kind == 1 then
          Option.bind (
            F104 ({ Kind := m.Kind, Code := m.Code, Rest := m.Rest, Data := m.Data })) fun q6 =>
          some (({ Kind := q6.fst.Kind, Code := q6.fst.Code, Rest := q6.fst.Rest, Data := q6.fst.Data }, q6.snd.fst, ()))
        else
          Option.bind (
            bif m.Kind == 2 then
              some (m.Code == 0)
            else
              some (false)) fun q6 =>
          bif q6 then
            Option.bind (
              F101 ({ Kind := m.Kind, Code := m.Code, Rest := m.Rest, Data := m.Data }) (3) (4) (imin (imax (imin (imin (IntKind.i64.wrap (IntKind.i64.wrap m.Rest - 20)) mtu4) (IntKind.i64.wrap (mtu6 - 20))) 68) 65535)) fun q7 =>
            some (({ Kind := q7.fst.Kind, Code := q7.fst.Code, Rest := q7.fst.Rest, Data := q7.fst.Data }, q7.snd.fst, ()))
          else
            Option.bind (
              bif m.Kind == 3 then
                bif m.Code == 0 then
                  some (true)
                else
                  some (m.Code == 1)
              else
                some (false)) fun q7 =>
            bif q7 then
              Option.bind (
                F101 ({ Kind := m.Kind, Code := m.Code, Rest := m.Rest, Data := m.Data }) (11) (m.Code) (0)) fun q8 =>
              some (({ Kind := q8.fst.Kind, Code := q8.fst.Code, Rest := q8.fst.Rest, Data := q8.fst.Data }, q8.snd.fst, ()))
            else
              Option.bind (
                bif m.Kind == 4 then
                  some (m.Code == 0)
                else
                  some (false)) fun q8 =>
              bif q8 then
                Option.bind (
                  F105 (m.Rest)) fun q9 =>
                bif q9.snd.fst then
                  Option.bind (
                    F101 ({ Kind := m.Kind, Code := m.Code, Rest := m.Rest, Data := m.Data }) (12) (0) (IntKind.i64.wrap (q9.fst * 16777216))) fun q10 =>
                  some (({ Kind := q10.fst.Kind, Code := q10.fst.Code, Rest := q10.fst.Rest, Data := q10.fst.Data }, q10.snd.fst, ()))
                else
                  some (({ Kind := 0, Code := 0, Rest := 0, Data := [] }, false, ()))
              else
                Option.bind (
                  bif m.Kind == 4 then
                    some (m.Code == 1)
                  else
                    some (false)) fun q9 =>
                bif q9 then
                  Option.bind (
                    F101 ({ Kind := m.Kind, Code := m.Code, Rest := m.Rest, Data := m.Data }) (3) (2) (0)) fun q10 =>
                  some (({ Kind := q10.fst.Kind, Code := q10.fst.Code, Rest := q10.fst.Rest, Data := q10.fst.Data }, q10.snd.fst, ()))
                else
                  some (({ Kind := 0, Code := 0, Rest := 0, Data := [] }, false, ()))
theorem F74_ev : ∀ a, evTop Try.prog ⟨[d100, d101, d104, d105], inl_keeps9, keepIn keeps9, []⟩ 6 74 (CodL.val (CodL.cons (Cod.agg lMsg) (CodL.cons (Cod.int .i64) (CodL.cons (Cod.int .i64) CodL.nil))) a) (fun v => Cod.dec (Cod.tup (CodL.cons (Cod.agg lMsg) (CodL.cons Cod.bool CodL.nil))) v some) = (fun a => F74 a.1 a.2.1 a.2.2.1) a := by
  intro a; kernel_rfl
noncomputable def d74 : Ctr Try.prog := Ctr.ofF 74 (CodL.cons (Cod.agg lMsg) (CodL.cons (Cod.int .i64) (CodL.cons (Cod.int .i64) CodL.nil))) (Cod.tup (CodL.cons (Cod.agg lMsg) (CodL.cons Cod.bool CodL.nil))) (fun a => F74 a.1 a.2.1 a.2.2.1) (pcalls_of_ev mix noLoops F74_ev)
/-- interpreter/fault.Carry4 -/
def F33 (m : Msg) (mtu4 : Int) (mtu6 : Int) (x3_from : T4) (x4_to : T4) : Option (Msg × Bool × Unit) :=
  Option.bind (
    F18 (m.Data)) fun q5 =>
  errK (q5.snd.snd.fst) (
    gd (q5.fst.Exts.snd.fst.beq 2 || q5.fst.Exts.fst) <|
    Option.bind (
      Option.bind (
        F31 ({ Kind := m.Kind, Code := m.Code, Rest := m.Rest, Data := m.Data })) fun q6 =>
      some (!q6)) fun q6 =>
    bif q6 then
      some (({ Kind := 0, Code := 0, Rest := 0, Data := [] }, false, ()))
    else
      Option.bind (
        F74 ({ Kind := m.Kind, Code := m.Code, Rest := m.Rest, Data := m.Data }) (mtu4) (mtu6)) fun q7 =>
      Option.bind (
        F21 ({ Class := q5.fst.Class, Flow := q5.fst.Flow, Hop := q5.fst.Hop, From := { b0 := q5.fst.From.b0, b1 := q5.fst.From.b1, b2 := q5.fst.From.b2, b3 := q5.fst.From.b3, b4 := q5.fst.From.b4, b5 := q5.fst.From.b5, b6 := q5.fst.From.b6, b7 := q5.fst.From.b7, b8 := q5.fst.From.b8, b9 := q5.fst.From.b9, b10 := q5.fst.From.b10, b11 := q5.fst.From.b11, b12 := q5.fst.From.b12, b13 := q5.fst.From.b13, b14 := q5.fst.From.b14, b15 := q5.fst.From.b15 }, To := { b0 := q5.fst.To.b0, b1 := q5.fst.To.b1, b2 := q5.fst.To.b2, b3 := q5.fst.To.b3, b4 := q5.fst.To.b4, b5 := q5.fst.To.b5, b6 := q5.fst.To.b6, b7 := q5.fst.To.b7, b8 := q5.fst.To.b8, b9 := q5.fst.To.b9, b10 := q5.fst.To.b10, b11 := q5.fst.To.b11, b12 := q5.fst.To.b12, b13 := q5.fst.To.b13, b14 := q5.fst.To.b14, b15 := q5.fst.To.b15 }, Exts := (q5.fst.Exts.fst, 2, q5.fst.Exts.snd.snd), Frag := q5.fst.Frag, Id := q5.fst.Id, At := q5.fst.At, More := q5.fst.More, Proto := q5.fst.Proto, Data := q5.fst.Data }) (q5.snd.fst) ({ Addr := { b0 := x3_from.Addr.b0, b1 := x3_from.Addr.b1, b2 := x3_from.Addr.b2, b3 := x3_from.Addr.b3 }, Port := x3_from.Port }) ({ Addr := { b0 := x4_to.Addr.b0, b1 := x4_to.Addr.b1, b2 := x4_to.Addr.b2, b3 := x4_to.Addr.b3 }, Port := x4_to.Port })) fun q8 =>
      errK (q8.snd.fst) (
        Option.bind (
          bif !q7.snd.fst then
            some (true)
          else
            some (false)) fun q9 =>
        bif q9 then
          some (({ Kind := 0, Code := 0, Rest := 0, Data := [] }, false, ()))
        else
          gd (ordB 0 (imin (↑q8.fst.length : Int) (IntKind.i64.wrap (IntKind.i64.wrap (imin 576 mtu4 - 20) - 8))) q8.fst.length) <|
          some (({ Kind := q7.fst.Kind, Code := q7.fst.Code, Rest := q7.fst.Rest, Data := sub q8.fst none (some (V.int IntKind.i64 (imin (↑q8.fst.length : Int) (IntKind.i64.wrap (IntKind.i64.wrap (imin 576 mtu4 - 20) - 8))))) 0 (imin (↑q8.fst.length : Int) (IntKind.i64.wrap (IntKind.i64.wrap (imin 576 mtu4 - 20) - 8))).toNat }, true, ()))) fun c9 p9 =>
        Option.bind (
          bif !q7.snd.fst then
            some (true)
          else
            some (true)) fun q11 =>
        bif q11 then
          some (({ Kind := 0, Code := 0, Rest := 0, Data := [] }, false, ()))
        else
          gd (ordB 0 (imin (↑q8.fst.length : Int) (IntKind.i64.wrap (IntKind.i64.wrap (imin 576 mtu4 - 20) - 8))) q8.fst.length) <|
          some (({ Kind := q7.fst.Kind, Code := q7.fst.Code, Rest := q7.fst.Rest, Data := sub q8.fst none (some (V.int IntKind.i64 (imin (↑q8.fst.length : Int) (IntKind.i64.wrap (IntKind.i64.wrap (imin 576 mtu4 - 20) - 8))))) 0 (imin (↑q8.fst.length : Int) (IntKind.i64.wrap (IntKind.i64.wrap (imin 576 mtu4 - 20) - 8))).toNat }, true, ()))) fun c6 p6 =>
    gd (q5.fst.Exts.snd.fst.beq 2 || q5.fst.Exts.fst) <|
    some (({ Kind := 0, Code := 0, Rest := 0, Data := [] }, false, ()))
theorem F33_ev : ∀ a, evTop Try.prog ⟨[d18, d21, d31, d74], inl_keeps9, keepIn keeps9, []⟩ 6 33 (CodL.val (CodL.cons (Cod.agg lMsg) (CodL.cons (Cod.int .i64) (CodL.cons (Cod.int .i64) (CodL.cons (Cod.agg lT4) (CodL.cons (Cod.agg lT4) CodL.nil))))) a) (fun v => Cod.dec (Cod.tup (CodL.cons (Cod.agg lMsg) (CodL.cons Cod.bool CodL.nil))) v some) = (fun a => F33 a.1 a.2.1 a.2.2.1 a.2.2.2.1 a.2.2.2.2.1) a := by
  intro a; kernel_rfl
noncomputable def d33 : Ctr Try.prog := Ctr.ofF 33 (CodL.cons (Cod.agg lMsg) (CodL.cons (Cod.int .i64) (CodL.cons (Cod.int .i64) (CodL.cons (Cod.agg lT4) (CodL.cons (Cod.agg lT4) CodL.nil))))) (Cod.tup (CodL.cons (Cod.agg lMsg) (CodL.cons Cod.bool CodL.nil))) (fun a => F33 a.1 a.2.1 a.2.2.1 a.2.2.2.1 a.2.2.2.2.1) (pcalls_of_ev mix noLoops F33_ev)
/-- interpreter/interpreterlaw15.FaultCut -/
def F9 (m : Msg) (n : Msg) (mtu4 : Int) (mtu6 : Int) (a : T6) (b : T6) (c : T4) (d : T4) : Option (Bool) :=
  Option.bind (
    bif ltI 70000 (↑m.Data.length : Int) then
      some (true)
    else
      some (ltI 70000 (↑n.Data.length : Int))) fun q8 =>
  bif q8 then
    some (true)
  else
    Option.bind (
      F30 ({ Kind := m.Kind, Code := m.Code, Rest := m.Rest, Data := m.Data }) (mtu4) (mtu6) ({ Addr := { b0 := a.Addr.b0, b1 := a.Addr.b1, b2 := a.Addr.b2, b3 := a.Addr.b3, b4 := a.Addr.b4, b5 := a.Addr.b5, b6 := a.Addr.b6, b7 := a.Addr.b7, b8 := a.Addr.b8, b9 := a.Addr.b9, b10 := a.Addr.b10, b11 := a.Addr.b11, b12 := a.Addr.b12, b13 := a.Addr.b13, b14 := a.Addr.b14, b15 := a.Addr.b15 }, Port := a.Port }) ({ Addr := { b0 := b.Addr.b0, b1 := b.Addr.b1, b2 := b.Addr.b2, b3 := b.Addr.b3, b4 := b.Addr.b4, b5 := b.Addr.b5, b6 := b.Addr.b6, b7 := b.Addr.b7, b8 := b.Addr.b8, b9 := b.Addr.b9, b10 := b.Addr.b10, b11 := b.Addr.b11, b12 := b.Addr.b12, b13 := b.Addr.b13, b14 := b.Addr.b14, b15 := b.Addr.b15 }, Port := b.Port })) fun q9 =>
    Option.bind (
      bif q9.snd.fst then
        Option.bind (
          F31 ({ Kind := q9.fst.Kind, Code := q9.fst.Code, Rest := q9.fst.Rest, Data := q9.fst.Data })) fun q10 =>
        bif !q10 then
          some (true)
        else
          bif ltI 1232 (↑q9.fst.Data.length : Int) then
            some (true)
          else
            bif ltI (↑q9.fst.Data.length : Int) 40 then
              some (true)
            else
              Option.bind (
                F32 ({ Kind := m.Kind, Code := m.Code, Rest := m.Rest, Data := m.Data })) fun q11 =>
              bif !q11 then
                some (true)
              else
                bif !q9.snd.fst then
                  some (!(q9.fst.Kind == 0 && (q9.fst.Code == 0 && (q9.fst.Rest == 0 && (q9.fst.Data == [] && true)))))
                else
                  some (false)
      else
        bif !q9.snd.fst then
          some (!(q9.fst.Kind == 0 && (q9.fst.Code == 0 && (q9.fst.Rest == 0 && (q9.fst.Data == [] && true)))))
        else
          some (false)) fun q10 =>
    bif q10 then
      some (false)
    else
      Option.bind (
        F33 ({ Kind := n.Kind, Code := n.Code, Rest := n.Rest, Data := n.Data }) (mtu4) (mtu6) ({ Addr := { b0 := c.Addr.b0, b1 := c.Addr.b1, b2 := c.Addr.b2, b3 := c.Addr.b3 }, Port := c.Port }) ({ Addr := { b0 := d.Addr.b0, b1 := d.Addr.b1, b2 := d.Addr.b2, b3 := d.Addr.b3 }, Port := d.Port })) fun q11 =>
      bif !q11.snd.fst then
        some (q11.fst.Kind == 0 && (q11.fst.Code == 0 && (q11.fst.Rest == 0 && (q11.fst.Data == [] && true))))
      else
        Option.bind (
          F32 ({ Kind := q11.fst.Kind, Code := q11.fst.Code, Rest := q11.fst.Rest, Data := q11.fst.Data })) fun q12 =>
        bif q12 then
          Option.bind (
            F31 ({ Kind := n.Kind, Code := n.Code, Rest := n.Rest, Data := n.Data })) fun q13 =>
          bif q13 then
            bif leI 20 (↑q11.fst.Data.length : Int) then
              bif leI (↑q11.fst.Data.length : Int) 548 then
                some (leI (↑q11.fst.Data.length : Int) (IntKind.i64.wrap (mtu4 - 28)))
              else
                some (false)
            else
              some (false)
          else
            some (false)
        else
          some (false)
theorem F9_ev : ∀ a, evTop Try.prog ⟨[d14, d30, d31, d32, d33], inl_keeps9, keepIn keeps9, []⟩ 6 9 (CodL.val (CodL.cons (Cod.agg lMsg) (CodL.cons (Cod.agg lMsg) (CodL.cons (Cod.int .i64) (CodL.cons (Cod.int .i64) (CodL.cons (Cod.agg lT6) (CodL.cons (Cod.agg lT6) (CodL.cons (Cod.agg lT4) (CodL.cons (Cod.agg lT4) CodL.nil)))))))) a) (fun v => Cod.dec Cod.bool v some) = (fun a => F9 a.1 a.2.1 a.2.2.1 a.2.2.2.1 a.2.2.2.2.1 a.2.2.2.2.2.1 a.2.2.2.2.2.2.1 a.2.2.2.2.2.2.2.1) a := by
  intro a; kernel_rfl
noncomputable def d9 : Ctr Try.prog := Ctr.ofF 9 (CodL.cons (Cod.agg lMsg) (CodL.cons (Cod.agg lMsg) (CodL.cons (Cod.int .i64) (CodL.cons (Cod.int .i64) (CodL.cons (Cod.agg lT6) (CodL.cons (Cod.agg lT6) (CodL.cons (Cod.agg lT4) (CodL.cons (Cod.agg lT4) CodL.nil)))))))) Cod.bool (fun a => F9 a.1 a.2.1 a.2.2.1 a.2.2.2.1 a.2.2.2.2.1 a.2.2.2.2.2.1 a.2.2.2.2.2.2.1 a.2.2.2.2.2.2.2.1) (pcalls_of_ev mix noLoops F9_ev)

end Go.Rx.L15F
