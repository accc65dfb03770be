/- L15j. -/
import Derived.Test.YteahnnchfegknaaL15i
set_option linter.unusedVariables false
set_option maxRecDepth 100000
set_option maxHeartbeats 0
namespace Go.Rx.L15F
open Go.Proofs Go.Rx
def keeps6 : List (Nat × Nat × List Nat) := [(47, 2, [0, 4, 7, 8, 9]), (52, 1, [0, 1, 4, 5, 6, 7]), (57, 3, [3, 4, 7, 8, 9]), (84, 7, [0, 1, 6, 37, 38]), (91, 4, [6, 7, 8, 17, 18]), (92, 1, [0]), (93, 2, [0, 1, 2, 3, 12, 13])]
def inl_keeps6 : List FuncId := [53, 54, 91, 113]
/-- interpreter/interpreterlaw15.alike -/
def F22 (a : List UInt8) (b : List UInt8) (x2_at : Int) : Option (Bool) :=
  bif a == b then
    some (true)
  else
    bif leI 0 x2_at then
      bif (↑a.length : Int) == (↑b.length : Int) then
        bif leI (IntKind.i64.wrap (x2_at + 2)) (↑a.length : Int) then
          gd (ordB x2_at (IntKind.i64.wrap (x2_at + 2)) a.length) <|
          bif sub a (some (V.int IntKind.i64 x2_at)) (some (V.int IntKind.i64 (IntKind.i64.wrap (x2_at + 2)))) x2_at.toNat (IntKind.i64.wrap (x2_at + 2)).toNat == [255, 255] then
            gd (ordB x2_at (IntKind.i64.wrap (x2_at + 2)) b.length) <|
            bif sub b (some (V.int IntKind.i64 x2_at)) (some (V.int IntKind.i64 (IntKind.i64.wrap (x2_at + 2)))) x2_at.toNat (IntKind.i64.wrap (x2_at + 2)).toNat == [0, 0] then
              gd (ordB 0 x2_at a.length) <|
              gd (ordB 0 x2_at b.length) <|
              bif sub a none (some (V.int IntKind.i64 x2_at)) 0 x2_at.toNat == sub b none (some (V.int IntKind.i64 x2_at)) 0 x2_at.toNat then
                gd (ordB (IntKind.i64.wrap (x2_at + 2)) (↑a.length : Int) a.length) <|
                gd (ordB (IntKind.i64.wrap (x2_at + 2)) (↑b.length : Int) b.length) <|
                some (sub a (some (V.int IntKind.i64 (IntKind.i64.wrap (x2_at + 2)))) none (IntKind.i64.wrap (x2_at + 2)).toNat (↑a.length : Int).toNat == sub b (some (V.int IntKind.i64 (IntKind.i64.wrap (x2_at + 2)))) none (IntKind.i64.wrap (x2_at + 2)).toNat (↑b.length : Int).toNat)
              else
                some (false)
            else
              some (false)
          else
            some (false)
        else
          some (false)
      else
        some (false)
    else
      some (false)
theorem F22_ev : ∀ a, evTop Try.prog ⟨[], inl_keeps6, keepIn keeps6, []⟩ 6 22 (CodL.val (CodL.cons Cod.str (CodL.cons Cod.str (CodL.cons (Cod.int .i64) CodL.nil))) a) (fun v => Cod.dec Cod.bool v some) = (fun a => F22 a.1 a.2.1 a.2.2.1) a := by
  intro a; kernel_rfl
noncomputable def d22 : Ctr Try.prog := Ctr.ofF 22 (CodL.cons Cod.str (CodL.cons Cod.str (CodL.cons (Cod.int .i64) CodL.nil))) Cod.bool (fun a => F22 a.1 a.2.1 a.2.2.1) (pcalls_of_ev mix noLoops F22_ev)
/-- interpreter/interpreterlaw15.FaultBack -/
def F6 (s : List UInt8) (a : V6) (b : V6) (x3_from : Int) (x4_to : Int) : Option (Bool) :=
  bif ltI 70000 (↑s.length : Int) then
    some (true)
  else
    Option.bind (
      F13 (s)) fun q5 =>
    errK (q5.snd.snd.fst) (
      Option.bind (
        bif q5.fst.Proto == 1 then
          bif leI 8 (↑q5.fst.Data.length : Int) then
            gd (inB 0 q5.fst.Data.length) <|
            bif bt q5.fst.Data 0 == 128 then
              some (true)
            else
              gd (inB 0 q5.fst.Data.length) <|
              some (bt q5.fst.Data 0 == 129)
          else
            some (false)
        else
          some (false)) fun q6 =>
      bif q6 then
        some (true)
      else
        Option.bind (
          F16 ({ Tos := q5.fst.Tos, Id := q5.fst.Id, Ttl := q5.fst.Ttl, Proto := q5.fst.Proto, At := q5.fst.At, DF := q5.fst.DF, More := q5.fst.More, From := { b0 := q5.fst.From.b0, b1 := q5.fst.From.b1, b2 := q5.fst.From.b2, b3 := q5.fst.From.b3 }, To := { b0 := q5.fst.To.b0, b1 := q5.fst.To.b1, b2 := q5.fst.To.b2, b3 := q5.fst.To.b3 }, Options := q5.fst.Options, Data := q5.fst.Data }) (q5.snd.fst) ({ Addr := { b0 := a.b0, b1 := a.b1, b2 := a.b2, b3 := a.b3, b4 := a.b4, b5 := a.b5, b6 := a.b6, b7 := a.b7, b8 := a.b8, b9 := a.b9, b10 := a.b10, b11 := a.b11, b12 := a.b12, b13 := a.b13, b14 := a.b14, b15 := a.b15 }, Port := IntKind.i64.wrap x3_from }) ({ Addr := { b0 := b.b0, b1 := b.b1, b2 := b.b2, b3 := b.b3, b4 := b.b4, b5 := b.b5, b6 := b.b6, b7 := b.b7, b8 := b.b8, b9 := b.b9, b10 := b.b10, b11 := b.b11, b12 := b.b12, b13 := b.b13, b14 := b.b14, b15 := b.b15 }, Port := IntKind.i64.wrap x4_to })) fun q7 =>
        errK (q7.snd.fst) (
          Option.bind (
            F18 (q7.fst)) fun q8 =>
          errK (q8.snd.snd.fst) (
            gd (q8.fst.Exts.snd.fst.beq 2 || q8.fst.Exts.fst) <|
            Option.bind (
              bif !q8.snd.fst == q5.snd.fst then
                some (true)
              else
                some (!(↑q8.fst.Data.length : Int) == (↑q5.fst.Data.length : Int))) fun q9 =>
            bif q9 then
              some (false)
            else
              Option.bind (
                bif q5.fst.Proto == 6 then
                  some (leI 4 (↑q5.fst.Data.length : Int))
                else
                  bif q5.fst.Proto == 17 then
                    some (leI 4 (↑q5.fst.Data.length : Int))
                  else
                    some (false)) fun q10 =>
              bif q10 then
                gd (inB 0 q5.fst.Data.length) <|
                gd (inB 1 q5.fst.Data.length) <|
                gd (inB 2 q5.fst.Data.length) <|
                gd (inB 3 q5.fst.Data.length) <|
                bif q5.fst.Proto == 6 then
                  Option.bind (
                    F21 ({ Class := q8.fst.Class, Flow := q8.fst.Flow, Hop := q8.fst.Hop, From := { b0 := q8.fst.From.b0, b1 := q8.fst.From.b1, b2 := q8.fst.From.b2, b3 := q8.fst.From.b3, b4 := q8.fst.From.b4, b5 := q8.fst.From.b5, b6 := q8.fst.From.b6, b7 := q8.fst.From.b7, b8 := q8.fst.From.b8, b9 := q8.fst.From.b9, b10 := q8.fst.From.b10, b11 := q8.fst.From.b11, b12 := q8.fst.From.b12, b13 := q8.fst.From.b13, b14 := q8.fst.From.b14, b15 := q8.fst.From.b15 }, To := { b0 := q8.fst.To.b0, b1 := q8.fst.To.b1, b2 := q8.fst.To.b2, b3 := q8.fst.To.b3, b4 := q8.fst.To.b4, b5 := q8.fst.To.b5, b6 := q8.fst.To.b6, b7 := q8.fst.To.b7, b8 := q8.fst.To.b8, b9 := q8.fst.To.b9, b10 := q8.fst.To.b10, b11 := q8.fst.To.b11, b12 := q8.fst.To.b12, b13 := q8.fst.To.b13, b14 := q8.fst.To.b14, b15 := q8.fst.To.b15 }, Exts := (q8.fst.Exts.fst, 2, q8.fst.Exts.snd.snd), Frag := q8.fst.Frag, Id := q8.fst.Id, At := q8.fst.At, More := q8.fst.More, Proto := q8.fst.Proto, Data := q8.fst.Data }) (q8.snd.fst) ({ Addr := { b0 := q5.fst.From.b0, b1 := q5.fst.From.b1, b2 := q5.fst.From.b2, b3 := q5.fst.From.b3 }, Port := ior IntKind.i64 (IntKind.i64.wrap (IntKind.i64.wrap (bt q5.fst.Data 0) * 256)) (IntKind.i64.wrap (bt q5.fst.Data 1)) }) ({ Addr := { b0 := q5.fst.To.b0, b1 := q5.fst.To.b1, b2 := q5.fst.To.b2, b3 := q5.fst.To.b3 }, Port := ior IntKind.i64 (IntKind.i64.wrap (IntKind.i64.wrap (bt q5.fst.Data 2) * 256)) (IntKind.i64.wrap (bt q5.fst.Data 3)) })) fun q11 =>
                  errK (q11.snd.fst) (
                    Option.bind (
                      F13 (q11.fst)) fun q12 =>
                    errK (q12.snd.snd.fst) (
                      bif q12.snd.fst == q5.snd.fst then
                        Option.bind (
                          F22 (q5.fst.Data) (q12.fst.Data) (16)) fun q13 =>
                        bif q13 then
                          bif q12.fst.From.b0 == q5.fst.From.b0 && (q12.fst.From.b1 == q5.fst.From.b1 && (q12.fst.From.b2 == q5.fst.From.b2 && (q12.fst.From.b3 == q5.fst.From.b3 && true))) then
                            bif q12.fst.To.b0 == q5.fst.To.b0 && (q12.fst.To.b1 == q5.fst.To.b1 && (q12.fst.To.b2 == q5.fst.To.b2 && (q12.fst.To.b3 == q5.fst.To.b3 && true))) then
                              bif q12.fst.Tos == q5.fst.Tos then
                                bif q12.fst.Ttl == q5.fst.Ttl then
                                  bif q12.fst.Proto == q5.fst.Proto then
                                    bif q12.fst.At == q5.fst.At then
                                      some (q12.fst.More == q5.fst.More)
                                    else
                                      some (false)
                                  else
                                    some (false)
                                else
                                  some (false)
                              else
                                some (false)
                            else
                              some (false)
                          else
                            some (false)
                        else
                          some (false)
                      else
                        some (false)) fun c13 p13 =>
                      some (false)) fun c12 p12 =>
                    bif ltI (IntKind.i64.wrap (65515 - q5.fst.At)) q5.snd.fst then
                      some (true)
                    else
                      bif q5.fst.Proto == 58 then
                        some (true)
                      else
                        some (q5.fst.Proto == 0)
                else
                  Option.bind (
                    F21 ({ Class := q8.fst.Class, Flow := q8.fst.Flow, Hop := q8.fst.Hop, From := { b0 := q8.fst.From.b0, b1 := q8.fst.From.b1, b2 := q8.fst.From.b2, b3 := q8.fst.From.b3, b4 := q8.fst.From.b4, b5 := q8.fst.From.b5, b6 := q8.fst.From.b6, b7 := q8.fst.From.b7, b8 := q8.fst.From.b8, b9 := q8.fst.From.b9, b10 := q8.fst.From.b10, b11 := q8.fst.From.b11, b12 := q8.fst.From.b12, b13 := q8.fst.From.b13, b14 := q8.fst.From.b14, b15 := q8.fst.From.b15 }, To := { b0 := q8.fst.To.b0, b1 := q8.fst.To.b1, b2 := q8.fst.To.b2, b3 := q8.fst.To.b3, b4 := q8.fst.To.b4, b5 := q8.fst.To.b5, b6 := q8.fst.To.b6, b7 := q8.fst.To.b7, b8 := q8.fst.To.b8, b9 := q8.fst.To.b9, b10 := q8.fst.To.b10, b11 := q8.fst.To.b11, b12 := q8.fst.To.b12, b13 := q8.fst.To.b13, b14 := q8.fst.To.b14, b15 := q8.fst.To.b15 }, Exts := (q8.fst.Exts.fst, 2, q8.fst.Exts.snd.snd), Frag := q8.fst.Frag, Id := q8.fst.Id, At := q8.fst.At, More := q8.fst.More, Proto := q8.fst.Proto, Data := q8.fst.Data }) (q8.snd.fst) ({ Addr := { b0 := q5.fst.From.b0, b1 := q5.fst.From.b1, b2 := q5.fst.From.b2, b3 := q5.fst.From.b3 }, Port := ior IntKind.i64 (IntKind.i64.wrap (IntKind.i64.wrap (bt q5.fst.Data 0) * 256)) (IntKind.i64.wrap (bt q5.fst.Data 1)) }) ({ Addr := { b0 := q5.fst.To.b0, b1 := q5.fst.To.b1, b2 := q5.fst.To.b2, b3 := q5.fst.To.b3 }, Port := ior IntKind.i64 (IntKind.i64.wrap (IntKind.i64.wrap (bt q5.fst.Data 2) * 256)) (IntKind.i64.wrap (bt q5.fst.Data 3)) })) fun q11 =>
                  errK (q11.snd.fst) (
                    Option.bind (
                      F13 (q11.fst)) fun q12 =>
                    errK (q12.snd.snd.fst) (
                      bif q12.snd.fst == q5.snd.fst then
                        Option.bind (
                          F22 (q5.fst.Data) (q12.fst.Data) (-1)) fun q13 =>
                        bif q13 then
                          bif q12.fst.From.b0 == q5.fst.From.b0 && (q12.fst.From.b1 == q5.fst.From.b1 && (q12.fst.From.b2 == q5.fst.From.b2 && (q12.fst.From.b3 == q5.fst.From.b3 && true))) then
                            bif q12.fst.To.b0 == q5.fst.To.b0 && (q12.fst.To.b1 == q5.fst.To.b1 && (q12.fst.To.b2 == q5.fst.To.b2 && (q12.fst.To.b3 == q5.fst.To.b3 && true))) then
                              bif q12.fst.Tos == q5.fst.Tos then
                                bif q12.fst.Ttl == q5.fst.Ttl then
                                  bif q12.fst.Proto == q5.fst.Proto then
                                    bif q12.fst.At == q5.fst.At then
                                      some (q12.fst.More == q5.fst.More)
                                    else
                                      some (false)
                                  else
                                    some (false)
                                else
                                  some (false)
                              else
                                some (false)
                            else
                              some (false)
                          else
                            some (false)
                        else
                          some (false)
                      else
                        some (false)) fun c13 p13 =>
                      some (false)) fun c12 p12 =>
                    bif ltI (IntKind.i64.wrap (65515 - q5.fst.At)) q5.snd.fst then
                      some (true)
                    else
                      bif q5.fst.Proto == 58 then
                        some (true)
                      else
                        some (q5.fst.Proto == 0)
              else
                Option.bind (
                  bif q5.fst.Proto == 1 then
                    some (leI 8 (↑q5.fst.Data.length : Int))
                  else
                    some (false)) fun q11 =>
                bif q11 then
                  gd (inB 4 q5.fst.Data.length) <|
                  gd (inB 5 q5.fst.Data.length) <|
                  Option.bind (
                    F21 ({ Class := q8.fst.Class, Flow := q8.fst.Flow, Hop := q8.fst.Hop, From := { b0 := q8.fst.From.b0, b1 := q8.fst.From.b1, b2 := q8.fst.From.b2, b3 := q8.fst.From.b3, b4 := q8.fst.From.b4, b5 := q8.fst.From.b5, b6 := q8.fst.From.b6, b7 := q8.fst.From.b7, b8 := q8.fst.From.b8, b9 := q8.fst.From.b9, b10 := q8.fst.From.b10, b11 := q8.fst.From.b11, b12 := q8.fst.From.b12, b13 := q8.fst.From.b13, b14 := q8.fst.From.b14, b15 := q8.fst.From.b15 }, To := { b0 := q8.fst.To.b0, b1 := q8.fst.To.b1, b2 := q8.fst.To.b2, b3 := q8.fst.To.b3, b4 := q8.fst.To.b4, b5 := q8.fst.To.b5, b6 := q8.fst.To.b6, b7 := q8.fst.To.b7, b8 := q8.fst.To.b8, b9 := q8.fst.To.b9, b10 := q8.fst.To.b10, b11 := q8.fst.To.b11, b12 := q8.fst.To.b12, b13 := q8.fst.To.b13, b14 := q8.fst.To.b14, b15 := q8.fst.To.b15 }, Exts := (q8.fst.Exts.fst, 2, q8.fst.Exts.snd.snd), Frag := q8.fst.Frag, Id := q8.fst.Id, At := q8.fst.At, More := q8.fst.More, Proto := q8.fst.Proto, Data := q8.fst.Data }) (q8.snd.fst) ({ Addr := { b0 := q5.fst.From.b0, b1 := q5.fst.From.b1, b2 := q5.fst.From.b2, b3 := q5.fst.From.b3 }, Port := ior IntKind.i64 (IntKind.i64.wrap (IntKind.i64.wrap (bt q5.fst.Data 4) * 256)) (IntKind.i64.wrap (bt q5.fst.Data 5)) }) ({ Addr := { b0 := q5.fst.To.b0, b1 := q5.fst.To.b1, b2 := q5.fst.To.b2, b3 := q5.fst.To.b3 }, Port := 0 })) fun q12 =>
                  errK (q12.snd.fst) (
                    Option.bind (
                      F13 (q12.fst)) fun q13 =>
                    errK (q13.snd.snd.fst) (
                      bif q13.snd.fst == q5.snd.fst then
                        Option.bind (
                          F22 (q5.fst.Data) (q13.fst.Data) (2)) fun q14 =>
                        bif q14 then
                          bif q13.fst.From.b0 == q5.fst.From.b0 && (q13.fst.From.b1 == q5.fst.From.b1 && (q13.fst.From.b2 == q5.fst.From.b2 && (q13.fst.From.b3 == q5.fst.From.b3 && true))) then
                            bif q13.fst.To.b0 == q5.fst.To.b0 && (q13.fst.To.b1 == q5.fst.To.b1 && (q13.fst.To.b2 == q5.fst.To.b2 && (q13.fst.To.b3 == q5.fst.To.b3 && true))) then
                              bif q13.fst.Tos == q5.fst.Tos then
                                bif q13.fst.Ttl == q5.fst.Ttl then
                                  bif q13.fst.Proto == q5.fst.Proto then
                                    bif q13.fst.At == q5.fst.At then
                                      some (q13.fst.More == q5.fst.More)
                                    else
                                      some (false)
                                  else
                                    some (false)
                                else
                                  some (false)
                              else
                                some (false)
                            else
                              some (false)
                          else
                            some (false)
                        else
                          some (false)
                      else
                        some (false)) fun c14 p14 =>
                      some (false)) fun c13 p13 =>
                    bif ltI (IntKind.i64.wrap (65515 - q5.fst.At)) q5.snd.fst then
                      some (true)
                    else
                      bif q5.fst.Proto == 58 then
                        some (true)
                      else
                        some (q5.fst.Proto == 0)
                else
                  Option.bind (
                    F21 ({ Class := q8.fst.Class, Flow := q8.fst.Flow, Hop := q8.fst.Hop, From := { b0 := q8.fst.From.b0, b1 := q8.fst.From.b1, b2 := q8.fst.From.b2, b3 := q8.fst.From.b3, b4 := q8.fst.From.b4, b5 := q8.fst.From.b5, b6 := q8.fst.From.b6, b7 := q8.fst.From.b7, b8 := q8.fst.From.b8, b9 := q8.fst.From.b9, b10 := q8.fst.From.b10, b11 := q8.fst.From.b11, b12 := q8.fst.From.b12, b13 := q8.fst.From.b13, b14 := q8.fst.From.b14, b15 := q8.fst.From.b15 }, To := { b0 := q8.fst.To.b0, b1 := q8.fst.To.b1, b2 := q8.fst.To.b2, b3 := q8.fst.To.b3, b4 := q8.fst.To.b4, b5 := q8.fst.To.b5, b6 := q8.fst.To.b6, b7 := q8.fst.To.b7, b8 := q8.fst.To.b8, b9 := q8.fst.To.b9, b10 := q8.fst.To.b10, b11 := q8.fst.To.b11, b12 := q8.fst.To.b12, b13 := q8.fst.To.b13, b14 := q8.fst.To.b14, b15 := q8.fst.To.b15 }, Exts := (q8.fst.Exts.fst, 2, q8.fst.Exts.snd.snd), Frag := q8.fst.Frag, Id := q8.fst.Id, At := q8.fst.At, More := q8.fst.More, Proto := q8.fst.Proto, Data := q8.fst.Data }) (q8.snd.fst) ({ Addr := { b0 := q5.fst.From.b0, b1 := q5.fst.From.b1, b2 := q5.fst.From.b2, b3 := q5.fst.From.b3 }, Port := 0 }) ({ Addr := { b0 := q5.fst.To.b0, b1 := q5.fst.To.b1, b2 := q5.fst.To.b2, b3 := q5.fst.To.b3 }, Port := 0 })) fun q12 =>
                  errK (q12.snd.fst) (
                    Option.bind (
                      F13 (q12.fst)) fun q13 =>
                    errK (q13.snd.snd.fst) (
                      bif q13.snd.fst == q5.snd.fst then
                        Option.bind (
                          F22 (q5.fst.Data) (q13.fst.Data) (-1)) fun q14 =>
                        bif q14 then
                          bif q13.fst.From.b0 == q5.fst.From.b0 && (q13.fst.From.b1 == q5.fst.From.b1 && (q13.fst.From.b2 == q5.fst.From.b2 && (q13.fst.From.b3 == q5.fst.From.b3 && true))) then
                            bif q13.fst.To.b0 == q5.fst.To.b0 && (q13.fst.To.b1 == q5.fst.To.b1 && (q13.fst.To.b2 == q5.fst.To.b2 && (q13.fst.To.b3 == q5.fst.To.b3 && true))) then
                              bif q13.fst.Tos == q5.fst.Tos then
                                bif q13.fst.Ttl == q5.fst.Ttl then
                                  bif q13.fst.Proto == q5.fst.Proto then
                                    bif q13.fst.At == q5.fst.At then
                                      some (q13.fst.More == q5.fst.More)
                                    else
                                      some (false)
                                  else
                                    some (false)
                                else
                                  some (false)
                              else
                                some (false)
                            else
                              some (false)
                          else
                            some (false)
                        else
                          some (false)
                      else
                        some (false)) fun c14 p14 =>
                      some (false)) fun c13 p13 =>
                    bif ltI (IntKind.i64.wrap (65515 - q5.fst.At)) q5.snd.fst then
                      some (true)
                    else
                      bif q5.fst.Proto == 58 then
                        some (true)
                      else
                        some (q5.fst.Proto == 0)) fun c9 p9 =>
            gd (q8.fst.Exts.snd.fst.beq 2 || q8.fst.Exts.fst) <|
            some (false)) fun c8 p8 =>
          some (true)) fun c6 p6 =>
      some (true)
theorem F6_ev : ∀ a, evTop Try.prog ⟨[d13, d14, d16, d18, d21, d22], inl_keeps6, keepIn keeps6, []⟩ 6 6 (CodL.val (CodL.cons Cod.str (CodL.cons (Cod.agg lV6) (CodL.cons (Cod.agg lV6) (CodL.cons (Cod.int .u16) (CodL.cons (Cod.int .u16) CodL.nil))))) a) (fun v => Cod.dec Cod.bool v some) = (fun a => F6 a.1 a.2.1 a.2.2.1 a.2.2.2.1 a.2.2.2.2.1) a := by
  intro a; kernel_rfl
noncomputable def d6 : Ctr Try.prog := Ctr.ofF 6 (CodL.cons Cod.str (CodL.cons (Cod.agg lV6) (CodL.cons (Cod.agg lV6) (CodL.cons (Cod.int .u16) (CodL.cons (Cod.int .u16) CodL.nil))))) Cod.bool (fun a => F6 a.1 a.2.1 a.2.2.1 a.2.2.2.1 a.2.2.2.2.1) (pcalls_of_ev mix noLoops F6_ev)

end Go.Rx.L15F
