/- L15v. -/
import Derived.Test.YteahnnchfegknaaL15u
set_option linter.unusedVariables false
set_option maxRecDepth 100000
set_option maxHeartbeats 0
namespace Go.Rx.L15F
open Go.Proofs Go.Rx
def keeps7 : List (Nat × Nat × List Nat) := [(23, 29, [1, 7, 10, 12]), (23, 25, [1, 7, 10, 11]), (23, 14, [1, 5, 7, 8]), (23, 6, [1, 5, 6]), (47, 2, [0, 4, 7, 8, 9]), (52, 1, [0, 1, 4, 5, 6, 7]), (57, 3, [3, 4, 7, 8, 9]), (59, 14, [1, 2, 3, 6]), (59, 5, [1, 2, 3, 4]), (84, 7, [0, 1, 6, 37, 38]), (91, 4, [6, 7, 8, 17, 18]), (92, 1, [0]), (93, 2, [0, 1, 2, 3, 12, 13]), (95, 3, [0, 1, 5, 6])]
def inl_keeps7 : List FuncId := [53, 54, 91, 113]
/-- interpreter/interpreterlaw15.FaultBeginsSix -/
def F7 (p : Ip6) (cut : Int) (a : V4) (b : V4) (x4_from : Int) (x5_to : Int) : Option (Bool) :=
  Option.bind (
    bif ltI 70000 (↑p.Data.length : Int) then
      some (true)
    else
      gd (p.Exts.snd.fst.beq 2 || p.Exts.fst) <|
      bif ltI 20 (↑(p.Exts.snd.snd.length / 2) : Int) then
        some (true)
      else
        some (ltI (↑p.Data.length : Int) 8)) fun q6 =>
  bif q6 then
    some (true)
  else
    gd (p.Exts.snd.fst.beq 2 || p.Exts.fst) <|
    Option.bind (
      F23 ({ Class := p.Class, Flow := p.Flow, Hop := p.Hop, From := { b0 := p.From.b0, b1 := p.From.b1, b2 := p.From.b2, b3 := p.From.b3, b4 := p.From.b4, b5 := p.From.b5, b6 := p.From.b6, b7 := p.From.b7, b8 := p.From.b8, b9 := p.From.b9, b10 := p.From.b10, b11 := p.From.b11, b12 := p.From.b12, b13 := p.From.b13, b14 := p.From.b14, b15 := p.From.b15 }, To := { b0 := p.To.b0, b1 := p.To.b1, b2 := p.To.b2, b3 := p.To.b3, b4 := p.To.b4, b5 := p.To.b5, b6 := p.To.b6, b7 := p.To.b7, b8 := p.To.b8, b9 := p.To.b9, b10 := p.To.b10, b11 := p.To.b11, b12 := p.To.b12, b13 := p.To.b13, b14 := p.To.b14, b15 := p.To.b15 }, Exts := (p.Exts.fst, 2, p.Exts.snd.snd), Frag := p.Frag, Id := p.Id, At := p.At, More := p.More, Proto := p.Proto, Data := p.Data })) fun q7 =>
    bif !q7.snd.fst == 0 then
      some (true)
    else
      gd (!Decidable.decide (IntKind.i64.wrap ((↑p.Data.length : Int) - 7) = 0)) <|
      Option.bind (
        F18 (q7.fst)) fun q8 =>
      errK (q8.snd.snd.fst) (
        gd (q8.fst.Exts.snd.fst.beq 2 || q8.fst.Exts.fst) <|
        gd (ordB 0 (IntKind.i64.wrap (IntKind.i64.wrap ((↑q7.fst.length : Int) - (↑p.Data.length : Int)) + IntKind.i64.wrap (8 + (IntKind.i64.wrap cut).tmod (IntKind.i64.wrap ((↑p.Data.length : Int) - 7))))) q7.fst.length) <|
        Option.bind (
          F18 (sub q7.fst none (some (V.int IntKind.i64 (IntKind.i64.wrap (IntKind.i64.wrap ((↑q7.fst.length : Int) - (↑p.Data.length : Int)) + IntKind.i64.wrap (8 + (IntKind.i64.wrap cut).tmod (IntKind.i64.wrap ((↑p.Data.length : Int) - 7))))))) 0 (IntKind.i64.wrap (IntKind.i64.wrap ((↑q7.fst.length : Int) - (↑p.Data.length : Int)) + IntKind.i64.wrap (8 + (IntKind.i64.wrap cut).tmod (IntKind.i64.wrap ((↑p.Data.length : Int) - 7))))).toNat)) fun q9 =>
        errK (q9.snd.snd.fst) (
          gd (q9.fst.Exts.snd.fst.beq 2 || q9.fst.Exts.fst) <|
          Option.bind (
            bif !q8.snd.fst == (↑p.Data.length : Int) then
              some (true)
            else
              bif !q9.snd.fst == q8.snd.fst then
                some (true)
              else
                bif !(↑q9.fst.Data.length : Int) == IntKind.i64.wrap (8 + (IntKind.i64.wrap cut).tmod (IntKind.i64.wrap ((↑p.Data.length : Int) - 7))) then
                  some (true)
                else
                  bif !q8.fst.Data == p.Data then
                    some (true)
                  else
                    gd (ordB 0 (IntKind.i64.wrap (8 + (IntKind.i64.wrap cut).tmod (IntKind.i64.wrap ((↑p.Data.length : Int) - 7)))) p.Data.length) <|
                    some (!q9.fst.Data == sub p.Data none (some (V.int IntKind.i64 (IntKind.i64.wrap (8 + (IntKind.i64.wrap cut).tmod (IntKind.i64.wrap ((↑p.Data.length : Int) - 7)))))) 0 (IntKind.i64.wrap (8 + (IntKind.i64.wrap cut).tmod (IntKind.i64.wrap ((↑p.Data.length : Int) - 7)))).toNat)) fun q10 =>
          bif q10 then
            some (false)
          else
            Option.bind (
              F21 ({ Class := q8.fst.Class, Flow := q8.fst.Flow, Hop := q8.fst.Hop, From := { b0 := q8.fst.From.b0, b1 := q8.fst.From.b1, b2 := q8.fst.From.b2, b3 := q8.fst.From.b3, b4 := q8.fst.From.b4, b5 := q8.fst.From.b5, b6 := q8.fst.From.b6, b7 := q8.fst.From.b7, b8 := q8.fst.From.b8, b9 := q8.fst.From.b9, b10 := q8.fst.From.b10, b11 := q8.fst.From.b11, b12 := q8.fst.From.b12, b13 := q8.fst.From.b13, b14 := q8.fst.From.b14, b15 := q8.fst.From.b15 }, To := { b0 := q8.fst.To.b0, b1 := q8.fst.To.b1, b2 := q8.fst.To.b2, b3 := q8.fst.To.b3, b4 := q8.fst.To.b4, b5 := q8.fst.To.b5, b6 := q8.fst.To.b6, b7 := q8.fst.To.b7, b8 := q8.fst.To.b8, b9 := q8.fst.To.b9, b10 := q8.fst.To.b10, b11 := q8.fst.To.b11, b12 := q8.fst.To.b12, b13 := q8.fst.To.b13, b14 := q8.fst.To.b14, b15 := q8.fst.To.b15 }, Exts := (q8.fst.Exts.fst, 2, q8.fst.Exts.snd.snd), Frag := q8.fst.Frag, Id := q8.fst.Id, At := q8.fst.At, More := q8.fst.More, Proto := q8.fst.Proto, Data := q8.fst.Data }) (q8.snd.fst) ({ Addr := { b0 := a.b0, b1 := a.b1, b2 := a.b2, b3 := a.b3 }, Port := IntKind.i64.wrap x4_from }) ({ Addr := { b0 := b.b0, b1 := b.b1, b2 := b.b2, b3 := b.b3 }, Port := IntKind.i64.wrap x5_to })) fun q11 =>
            errK (q11.snd.fst) (
              Option.bind (
                F21 ({ Class := q9.fst.Class, Flow := q9.fst.Flow, Hop := q9.fst.Hop, From := { b0 := q9.fst.From.b0, b1 := q9.fst.From.b1, b2 := q9.fst.From.b2, b3 := q9.fst.From.b3, b4 := q9.fst.From.b4, b5 := q9.fst.From.b5, b6 := q9.fst.From.b6, b7 := q9.fst.From.b7, b8 := q9.fst.From.b8, b9 := q9.fst.From.b9, b10 := q9.fst.From.b10, b11 := q9.fst.From.b11, b12 := q9.fst.From.b12, b13 := q9.fst.From.b13, b14 := q9.fst.From.b14, b15 := q9.fst.From.b15 }, To := { b0 := q9.fst.To.b0, b1 := q9.fst.To.b1, b2 := q9.fst.To.b2, b3 := q9.fst.To.b3, b4 := q9.fst.To.b4, b5 := q9.fst.To.b5, b6 := q9.fst.To.b6, b7 := q9.fst.To.b7, b8 := q9.fst.To.b8, b9 := q9.fst.To.b9, b10 := q9.fst.To.b10, b11 := q9.fst.To.b11, b12 := q9.fst.To.b12, b13 := q9.fst.To.b13, b14 := q9.fst.To.b14, b15 := q9.fst.To.b15 }, Exts := (q9.fst.Exts.fst, 2, q9.fst.Exts.snd.snd), Frag := q9.fst.Frag, Id := q9.fst.Id, At := q9.fst.At, More := q9.fst.More, Proto := q9.fst.Proto, Data := q9.fst.Data }) (q9.snd.fst) ({ Addr := { b0 := a.b0, b1 := a.b1, b2 := a.b2, b3 := a.b3 }, Port := IntKind.i64.wrap x4_from }) ({ Addr := { b0 := b.b0, b1 := b.b1, b2 := b.b2, b3 := b.b3 }, Port := IntKind.i64.wrap x5_to })) fun q12 =>
              errK (q12.snd.fst) (
                bif ltI (↑q11.fst.length : Int) (↑q12.fst.length : Int) then
                  some (false)
                else
                  bif p.Proto == 6 then
                    bif IntKind.i64.wrap (8 + (IntKind.i64.wrap cut).tmod (IntKind.i64.wrap ((↑p.Data.length : Int) - 7))) == 17 then
                      bif p.At == 0 then
                        some (true)
                      else
                        gd (ordB 0 (↑q12.fst.length : Int) q11.fst.length) <|
                        some (q12.fst == sub q11.fst none (some (V.int IntKind.i64 (↑q12.fst.length : Int))) 0 (↑q12.fst.length : Int).toNat)
                    else
                      gd (ordB 0 (↑q12.fst.length : Int) q11.fst.length) <|
                      some (q12.fst == sub q11.fst none (some (V.int IntKind.i64 (↑q12.fst.length : Int))) 0 (↑q12.fst.length : Int).toNat)
                  else
                    gd (ordB 0 (↑q12.fst.length : Int) q11.fst.length) <|
                    some (q12.fst == sub q11.fst none (some (V.int IntKind.i64 (↑q12.fst.length : Int))) 0 (↑q12.fst.length : Int).toNat)) fun c13 p13 =>
                some (false)) fun c12 p12 =>
              Option.bind (
                F21 ({ Class := q9.fst.Class, Flow := q9.fst.Flow, Hop := q9.fst.Hop, From := { b0 := q9.fst.From.b0, b1 := q9.fst.From.b1, b2 := q9.fst.From.b2, b3 := q9.fst.From.b3, b4 := q9.fst.From.b4, b5 := q9.fst.From.b5, b6 := q9.fst.From.b6, b7 := q9.fst.From.b7, b8 := q9.fst.From.b8, b9 := q9.fst.From.b9, b10 := q9.fst.From.b10, b11 := q9.fst.From.b11, b12 := q9.fst.From.b12, b13 := q9.fst.From.b13, b14 := q9.fst.From.b14, b15 := q9.fst.From.b15 }, To := { b0 := q9.fst.To.b0, b1 := q9.fst.To.b1, b2 := q9.fst.To.b2, b3 := q9.fst.To.b3, b4 := q9.fst.To.b4, b5 := q9.fst.To.b5, b6 := q9.fst.To.b6, b7 := q9.fst.To.b7, b8 := q9.fst.To.b8, b9 := q9.fst.To.b9, b10 := q9.fst.To.b10, b11 := q9.fst.To.b11, b12 := q9.fst.To.b12, b13 := q9.fst.To.b13, b14 := q9.fst.To.b14, b15 := q9.fst.To.b15 }, Exts := (q9.fst.Exts.fst, 2, q9.fst.Exts.snd.snd), Frag := q9.fst.Frag, Id := q9.fst.Id, At := q9.fst.At, More := q9.fst.More, Proto := q9.fst.Proto, Data := q9.fst.Data }) (q9.snd.fst) ({ Addr := { b0 := a.b0, b1 := a.b1, b2 := a.b2, b3 := a.b3 }, Port := IntKind.i64.wrap x4_from }) ({ Addr := { b0 := b.b0, b1 := b.b1, b2 := b.b2, b3 := b.b3 }, Port := IntKind.i64.wrap x5_to })) fun q14 =>
              errK (q14.snd.fst) (
                some (false)) fun c15 p15 =>
                bif ltI (↑q11.fst.length : Int) (↑q14.fst.length : Int) then
                  some (false)
                else
                  bif p.Proto == 6 then
                    bif IntKind.i64.wrap (8 + (IntKind.i64.wrap cut).tmod (IntKind.i64.wrap ((↑p.Data.length : Int) - 7))) == 17 then
                      bif p.At == 0 then
                        some (true)
                      else
                        gd (ordB 0 (↑q14.fst.length : Int) q11.fst.length) <|
                        some (q14.fst == sub q11.fst none (some (V.int IntKind.i64 (↑q14.fst.length : Int))) 0 (↑q14.fst.length : Int).toNat)
                    else
                      gd (ordB 0 (↑q14.fst.length : Int) q11.fst.length) <|
                      some (q14.fst == sub q11.fst none (some (V.int IntKind.i64 (↑q14.fst.length : Int))) 0 (↑q14.fst.length : Int).toNat)
                  else
                    gd (ordB 0 (↑q14.fst.length : Int) q11.fst.length) <|
                    some (q14.fst == sub q11.fst none (some (V.int IntKind.i64 (↑q14.fst.length : Int))) 0 (↑q14.fst.length : Int).toNat)) fun c10 p10 =>
          gd (q9.fst.Exts.snd.fst.beq 2 || q9.fst.Exts.fst) <|
          some (false)) fun c9 p9 =>
        gd (q8.fst.Exts.snd.fst.beq 2 || q8.fst.Exts.fst) <|
        gd (ordB 0 (IntKind.i64.wrap (IntKind.i64.wrap ((↑q7.fst.length : Int) - (↑p.Data.length : Int)) + IntKind.i64.wrap (8 + (IntKind.i64.wrap cut).tmod (IntKind.i64.wrap ((↑p.Data.length : Int) - 7))))) q7.fst.length) <|
        Option.bind (
          F18 (sub q7.fst none (some (V.int IntKind.i64 (IntKind.i64.wrap (IntKind.i64.wrap ((↑q7.fst.length : Int) - (↑p.Data.length : Int)) + IntKind.i64.wrap (8 + (IntKind.i64.wrap cut).tmod (IntKind.i64.wrap ((↑p.Data.length : Int) - 7))))))) 0 (IntKind.i64.wrap (IntKind.i64.wrap ((↑q7.fst.length : Int) - (↑p.Data.length : Int)) + IntKind.i64.wrap (8 + (IntKind.i64.wrap cut).tmod (IntKind.i64.wrap ((↑p.Data.length : Int) - 7))))).toNat)) fun q11 =>
        errK (q11.snd.snd.fst) (
          gd (q11.fst.Exts.snd.fst.beq 2 || q11.fst.Exts.fst) <|
          some (false)) fun c12 p12 =>
          gd (q11.fst.Exts.snd.fst.beq 2 || q11.fst.Exts.fst) <|
          some (false)
theorem F7_ev : ∀ a, evTop Try.prog ⟨[d14, d18, d21, d23], inl_keeps7, keepIn keeps7, []⟩ 6 7 (CodL.val (CodL.cons (Cod.agg lIp6) (CodL.cons (Cod.int .u16) (CodL.cons (Cod.agg lV4) (CodL.cons (Cod.agg lV4) (CodL.cons (Cod.int .u16) (CodL.cons (Cod.int .u16) CodL.nil)))))) a) (fun v => Cod.dec Cod.bool v some) = (fun a => F7 a.1 a.2.1 a.2.2.1 a.2.2.2.1 a.2.2.2.2.1 a.2.2.2.2.2.1) a := by
  intro a; kernel_rfl
noncomputable def d7 : Ctr Try.prog := Ctr.ofF 7 (CodL.cons (Cod.agg lIp6) (CodL.cons (Cod.int .u16) (CodL.cons (Cod.agg lV4) (CodL.cons (Cod.agg lV4) (CodL.cons (Cod.int .u16) (CodL.cons (Cod.int .u16) CodL.nil)))))) Cod.bool (fun a => F7 a.1 a.2.1 a.2.2.1 a.2.2.2.1 a.2.2.2.2.1 a.2.2.2.2.2.1) (pcalls_of_ev mix noLoops F7_ev)

end Go.Rx.L15F
