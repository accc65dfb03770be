/- L15n. -/
import Derived.Test.YteahnnchfegknaaL15m
set_option linter.unusedVariables false
set_option maxRecDepth 100000
set_option maxHeartbeats 0
namespace Go.Rx.L15F
open Go.Proofs Go.Rx
def keeps5 : List (Nat × Nat × List Nat) := [(17, 22, [0, 2, 6, 7, 10, 11]), (19, 16, [0, 2, 5, 6, 7, 9, 10, 13, 14]), (20, 4, [2, 3, 4, 5]), (52, 1, [0, 1, 4, 5, 6, 7]), (55, 2, [0, 1, 4, 5, 6, 7, 8]), (57, 3, [3, 4, 7, 8, 9]), (82, 6, [3]), (82, 3, [0, 3, 4]), (83, 5, [0, 3, 4]), (89, 4, [6, 7, 8, 9]), (91, 4, [6, 7, 8, 17, 18]), (92, 1, [0]), (93, 2, [0, 1, 2, 3, 12, 13]), (112, 12, [0, 1, 6, 7])]
def inl_keeps5 : List FuncId := [53, 54, 89, 91, 112, 113]
/-- interpreter/interpreterlaw15.same -/
noncomputable def d15 : Ctr Try.prog := Ctr.evT mix [] inl_keeps5 (keepIn keeps5) 6 15 Cod.bool
/-- interpreter/interpreterref02.Of -/
def F36 (s : List UInt8) : Option (Int) :=
  Option.bind (
    F83 (s)) fun q1 =>
  gd (q1.snd.fst.beq 1 || q1.fst) <|
  Option.bind (
    F82 ((q1.fst, 1, q1.snd.snd))) fun q2 =>
  some (IntKind.i64.wrap (65535 - q2))
theorem F36_ev : ∀ a, evTop Try.prog ⟨[d82, d83], inl_keeps5, keepIn keeps5, []⟩ 6 36 (CodL.val (CodL.cons Cod.str CodL.nil) a) (fun v => Cod.dec (Cod.int .i64) v some) = (fun a => F36 a.1) a := by
  intro a; kernel_rfl
noncomputable def d36 : Ctr Try.prog := Ctr.ofF 36 (CodL.cons Cod.str CodL.nil) (Cod.int .i64) (fun a => F36 a.1) (pcalls_of_ev mix noLoops F36_ev)
/-- interpreter/interpreterref15.number -/
noncomputable def d50 : Ctr Try.prog := Ctr.evT mix [] inl_keeps5 (keepIn keeps5) 6 50 (Cod.int .i64)
/-- interpreter/interpreterref15.little -/
def F51 (data : List UInt8) (claim : Int) : Option (Bool) :=
  bif ltI (↑data.length : Int) 8 then
    some (ltI (↑data.length : Int) claim)
  else
    some (false)
theorem F51_ev : ∀ a, evTop Try.prog ⟨[], inl_keeps5, keepIn keeps5, []⟩ 6 51 (CodL.val (CodL.cons Cod.str (CodL.cons (Cod.int .i64) CodL.nil)) a) (fun v => Cod.dec Cod.bool v some) = (fun a => F51 a.1 a.2.1) a := by
  intro a; kernel_rfl
noncomputable def d51 : Ctr Try.prog := Ctr.ofF 51 (CodL.cons Cod.str (CodL.cons (Cod.int .i64) CodL.nil)) Cod.bool (fun a => F51 a.1 a.2.1) (pcalls_of_ev mix noLoops F51_ev)
/-- interpreter/interpreterref15.Inside4 -/
def F17 (s : List UInt8) : Option (Ip4 × Int × Int × Unit) :=
  bif ltI (↑s.length : Int) 20 then
    some (({ Tos := 0, Id := 0, Ttl := 0, Proto := 0, At := 0, DF := false, More := false, From := { b0 := 0, b1 := 0, b2 := 0, b3 := 0 }, To := { b0 := 0, b1 := 0, b2 := 0, b3 := 0 }, Options := [], Data := [] }, 0, 7, ()))
  else
    gd (inB 0 s.length) <|
    Option.bind (
      bif ltI (IntKind.i64.wrap (4 * IntKind.i64.wrap (IntKind.i64.wrap (bt s 0) - 64))) 20 then
        some (true)
      else
        some (ltI 60 (IntKind.i64.wrap (4 * IntKind.i64.wrap (IntKind.i64.wrap (bt s 0) - 64))))) fun q1 =>
    bif q1 then
      some (({ Tos := 0, Id := 0, Ttl := 0, Proto := 0, At := 0, DF := false, More := false, From := { b0 := 0, b1 := 0, b2 := 0, b3 := 0 }, To := { b0 := 0, b1 := 0, b2 := 0, b3 := 0 }, Options := [], Data := [] }, 0, 8, ()))
    else
      bif ltI (↑s.length : Int) (IntKind.i64.wrap (4 * IntKind.i64.wrap (IntKind.i64.wrap (bt s 0) - 64))) then
        some (({ Tos := 0, Id := 0, Ttl := 0, Proto := 0, At := 0, DF := false, More := false, From := { b0 := 0, b1 := 0, b2 := 0, b3 := 0 }, To := { b0 := 0, b1 := 0, b2 := 0, b3 := 0 }, Options := [], Data := [] }, 0, 7, ()))
      else
        gd (ordB 0 (IntKind.i64.wrap (4 * IntKind.i64.wrap (IntKind.i64.wrap (bt s 0) - 64))) s.length) <|
        Option.bind (
          F36 (sub s none (some (V.int IntKind.i64 (IntKind.i64.wrap (4 * IntKind.i64.wrap (IntKind.i64.wrap (bt s 0) - 64))))) 0 (IntKind.i64.wrap (4 * IntKind.i64.wrap (IntKind.i64.wrap (bt s 0) - 64))).toNat)) fun q2 =>
        bif !q2 == 0 then
          some (({ Tos := 0, Id := 0, Ttl := 0, Proto := 0, At := 0, DF := false, More := false, From := { b0 := 0, b1 := 0, b2 := 0, b3 := 0 }, To := { b0 := 0, b1 := 0, b2 := 0, b3 := 0 }, Options := [], Data := [] }, 0, 9, ()))
        else
          Option.bind (
            Option.bind (
              bif ltI (↑s.length : Int) 2 then
                some (true)
              else
                some (ltI (IntKind.i64.wrap ((↑s.length : Int) - 2)) 2)) fun q3 =>
            bif q3 then
              some (0)
            else
              gd (ordB 2 3 s.length) <|
              gd (ordB 3 4 s.length) <|
              some (IntKind.i64.wrap (IntKind.i64.wrap (IntKind.i64.wrap (0 + IntKind.i64.wrap (bt ([] ++ sub s (some (V.int IntKind.i64 2)) (some (V.int IntKind.i64 3)) 2 3 ++ sub s (some (V.int IntKind.i64 3)) (some (V.int IntKind.i64 4)) 3 4) 0)) * 256) + IntKind.i64.wrap (bt ([] ++ sub s (some (V.int IntKind.i64 2)) (some (V.int IntKind.i64 3)) 2 3 ++ sub s (some (V.int IntKind.i64 3)) (some (V.int IntKind.i64 4)) 3 4) 1)))) fun q3 =>
          Option.bind (
            Option.bind (
              bif ltI (↑s.length : Int) 2 then
                some (true)
              else
                some (ltI (IntKind.i64.wrap ((↑s.length : Int) - 2)) 6)) fun q4 =>
            bif q4 then
              some (0)
            else
              gd (ordB 6 7 s.length) <|
              gd (ordB 7 8 s.length) <|
              some (IntKind.i64.wrap (IntKind.i64.wrap (IntKind.i64.wrap (0 + IntKind.i64.wrap (bt ([] ++ sub s (some (V.int IntKind.i64 6)) (some (V.int IntKind.i64 7)) 6 7 ++ sub s (some (V.int IntKind.i64 7)) (some (V.int IntKind.i64 8)) 7 8) 0)) * 256) + IntKind.i64.wrap (bt ([] ++ sub s (some (V.int IntKind.i64 6)) (some (V.int IntKind.i64 7)) 6 7 ++ sub s (some (V.int IntKind.i64 7)) (some (V.int IntKind.i64 8)) 7 8) 1)))) fun q4 =>
          Option.bind (
            bif ltI q3 (IntKind.i64.wrap (4 * IntKind.i64.wrap (IntKind.i64.wrap (bt s 0) - 64))) then
              some (true)
            else
              bif leI 32768 q4 then
                some (true)
              else
                some (ltI 65535 (IntKind.i64.wrap (IntKind.i64.wrap (q4.tmod 8192 * 8) + q3)))) fun q5 =>
          bif q5 then
            some (({ Tos := 0, Id := 0, Ttl := 0, Proto := 0, At := 0, DF := false, More := false, From := { b0 := 0, b1 := 0, b2 := 0, b3 := 0 }, To := { b0 := 0, b1 := 0, b2 := 0, b3 := 0 }, Options := [], Data := [] }, 0, 8, ()))
          else
            gd (ordB (IntKind.i64.wrap (4 * IntKind.i64.wrap (IntKind.i64.wrap (bt s 0) - 64))) (↑s.length : Int) s.length) <|
            bif ltI (IntKind.i64.wrap (q3 - IntKind.i64.wrap (4 * IntKind.i64.wrap (IntKind.i64.wrap (bt s 0) - 64)))) (↑(sub s (some (V.int IntKind.i64 (IntKind.i64.wrap (4 * IntKind.i64.wrap (IntKind.i64.wrap (bt s 0) - 64))))) none (IntKind.i64.wrap (4 * IntKind.i64.wrap (IntKind.i64.wrap (bt s 0) - 64))).toNat (↑s.length : Int).toNat).length : Int) then
              gd (ordB 0 (IntKind.i64.wrap (q3 - IntKind.i64.wrap (4 * IntKind.i64.wrap (IntKind.i64.wrap (bt s 0) - 64)))) (sub s (some (V.int IntKind.i64 (IntKind.i64.wrap (4 * IntKind.i64.wrap (IntKind.i64.wrap (bt s 0) - 64))))) none (IntKind.i64.wrap (4 * IntKind.i64.wrap (IntKind.i64.wrap (bt s 0) - 64))).toNat (↑s.length : Int).toNat).length) <|
              Option.bind (
                F51 (sub (sub s (some (V.int IntKind.i64 (IntKind.i64.wrap (4 * IntKind.i64.wrap (IntKind.i64.wrap (bt s 0) - 64))))) none (IntKind.i64.wrap (4 * IntKind.i64.wrap (IntKind.i64.wrap (bt s 0) - 64))).toNat (↑s.length : Int).toNat) none (some (V.int IntKind.i64 (IntKind.i64.wrap (q3 - IntKind.i64.wrap (4 * IntKind.i64.wrap (IntKind.i64.wrap (bt s 0) - 64)))))) 0 (IntKind.i64.wrap (q3 - IntKind.i64.wrap (4 * IntKind.i64.wrap (IntKind.i64.wrap (bt s 0) - 64)))).toNat) (IntKind.i64.wrap (q3 - IntKind.i64.wrap (4 * IntKind.i64.wrap (IntKind.i64.wrap (bt s 0) - 64))))) fun q6 =>
              bif q6 then
                some (({ Tos := 0, Id := 0, Ttl := 0, Proto := 0, At := 0, DF := false, More := false, From := { b0 := 0, b1 := 0, b2 := 0, b3 := 0 }, To := { b0 := 0, b1 := 0, b2 := 0, b3 := 0 }, Options := [], Data := [] }, 0, 7, ()))
              else
                gd (inB 1 s.length) <|
                Option.bind (
                  Option.bind (
                    bif ltI (↑s.length : Int) 2 then
                      some (true)
                    else
                      some (ltI (IntKind.i64.wrap ((↑s.length : Int) - 2)) 4)) fun q7 =>
                  bif q7 then
                    some (0)
                  else
                    gd (ordB 4 5 s.length) <|
                    gd (ordB 5 6 s.length) <|
                    some (IntKind.i64.wrap (IntKind.i64.wrap (IntKind.i64.wrap (0 + IntKind.i64.wrap (bt ([] ++ sub s (some (V.int IntKind.i64 4)) (some (V.int IntKind.i64 5)) 4 5 ++ sub s (some (V.int IntKind.i64 5)) (some (V.int IntKind.i64 6)) 5 6) 0)) * 256) + IntKind.i64.wrap (bt ([] ++ sub s (some (V.int IntKind.i64 4)) (some (V.int IntKind.i64 5)) 4 5 ++ sub s (some (V.int IntKind.i64 5)) (some (V.int IntKind.i64 6)) 5 6) 1)))) fun q7 =>
                gd (inB 8 s.length) <|
                gd (inB 9 s.length) <|
                gd (ordB 20 (IntKind.i64.wrap (4 * IntKind.i64.wrap (IntKind.i64.wrap (bt s 0) - 64))) s.length) <|
                gd (inB 12 s.length) <|
                gd (inB 16 s.length) <|
                gd (inB 13 s.length) <|
                gd (inB 17 s.length) <|
                gd (inB 14 s.length) <|
                gd (inB 18 s.length) <|
                gd (inB 15 s.length) <|
                gd (inB 19 s.length) <|
                some (({ Tos := IntKind.i64.wrap (bt s 1), Id := q7, Ttl := IntKind.i64.wrap (bt s 8), Proto := IntKind.i64.wrap (bt s 9), At := IntKind.i64.wrap (q4.tmod 8192 * 8), DF := IntKind.i64.wrap (q4.tdiv 16384) == 1, More := (IntKind.i64.wrap (q4.tdiv 8192)).tmod 2 == 1, From := { b0 := bt s 12, b1 := bt s 13, b2 := bt s 14, b3 := bt s 15 }, To := { b0 := bt s 16, b1 := bt s 17, b2 := bt s 18, b3 := bt s 19 }, Options := sub s (some (V.int IntKind.i64 20)) (some (V.int IntKind.i64 (IntKind.i64.wrap (4 * IntKind.i64.wrap (IntKind.i64.wrap (bt s 0) - 64))))) 20 (IntKind.i64.wrap (4 * IntKind.i64.wrap (IntKind.i64.wrap (bt s 0) - 64))).toNat, Data := sub (sub s (some (V.int IntKind.i64 (IntKind.i64.wrap (4 * IntKind.i64.wrap (IntKind.i64.wrap (bt s 0) - 64))))) none (IntKind.i64.wrap (4 * IntKind.i64.wrap (IntKind.i64.wrap (bt s 0) - 64))).toNat (↑s.length : Int).toNat) none (some (V.int IntKind.i64 (IntKind.i64.wrap (q3 - IntKind.i64.wrap (4 * IntKind.i64.wrap (IntKind.i64.wrap (bt s 0) - 64)))))) 0 (IntKind.i64.wrap (q3 - IntKind.i64.wrap (4 * IntKind.i64.wrap (IntKind.i64.wrap (bt s 0) - 64)))).toNat }, IntKind.i64.wrap (q3 - IntKind.i64.wrap (4 * IntKind.i64.wrap (IntKind.i64.wrap (bt s 0) - 64))), 0, ()))
            else
              Option.bind (
                F51 (sub s (some (V.int IntKind.i64 (IntKind.i64.wrap (4 * IntKind.i64.wrap (IntKind.i64.wrap (bt s 0) - 64))))) none (IntKind.i64.wrap (4 * IntKind.i64.wrap (IntKind.i64.wrap (bt s 0) - 64))).toNat (↑s.length : Int).toNat) (IntKind.i64.wrap (q3 - IntKind.i64.wrap (4 * IntKind.i64.wrap (IntKind.i64.wrap (bt s 0) - 64))))) fun q6 =>
              bif q6 then
                some (({ Tos := 0, Id := 0, Ttl := 0, Proto := 0, At := 0, DF := false, More := false, From := { b0 := 0, b1 := 0, b2 := 0, b3 := 0 }, To := { b0 := 0, b1 := 0, b2 := 0, b3 := 0 }, Options := [], Data := [] }, 0, 7, ()))
              else
                gd (inB 1 s.length) <|
                Option.bind (
                  Option.bind (
                    bif ltI (↑s.length : Int) 2 then
                      some (true)
                    else
                      some (ltI (IntKind.i64.wrap ((↑s.length : Int) - 2)) 4)) fun q7 =>
                  bif q7 then
                    some (0)
                  else
                    gd (ordB 4 5 s.length) <|
                    gd (ordB 5 6 s.length) <|
                    some (IntKind.i64.wrap (IntKind.i64.wrap (IntKind.i64.wrap (0 + IntKind.i64.wrap (bt ([] ++ sub s (some (V.int IntKind.i64 4)) (some (V.int IntKind.i64 5)) 4 5 ++ sub s (some (V.int IntKind.i64 5)) (some (V.int IntKind.i64 6)) 5 6) 0)) * 256) + IntKind.i64.wrap (bt ([] ++ sub s (some (V.int IntKind.i64 4)) (some (V.int IntKind.i64 5)) 4 5 ++ sub s (some (V.int IntKind.i64 5)) (some (V.int IntKind.i64 6)) 5 6) 1)))) fun q7 =>
                gd (inB 8 s.length) <|
                gd (inB 9 s.length) <|
                gd (ordB 20 (IntKind.i64.wrap (4 * IntKind.i64.wrap (IntKind.i64.wrap (bt s 0) - 64))) s.length) <|
                gd (inB 12 s.length) <|
                gd (inB 16 s.length) <|
                gd (inB 13 s.length) <|
                gd (inB 17 s.length) <|
                gd (inB 14 s.length) <|
                gd (inB 18 s.length) <|
                gd (inB 15 s.length) <|
                gd (inB 19 s.length) <|
                some (({ Tos := IntKind.i64.wrap (bt s 1), Id := q7, Ttl := IntKind.i64.wrap (bt s 8), Proto := IntKind.i64.wrap (bt s 9), At := IntKind.i64.wrap (q4.tmod 8192 * 8), DF := IntKind.i64.wrap (q4.tdiv 16384) == 1, More := (IntKind.i64.wrap (q4.tdiv 8192)).tmod 2 == 1, From := { b0 := bt s 12, b1 := bt s 13, b2 := bt s 14, b3 := bt s 15 }, To := { b0 := bt s 16, b1 := bt s 17, b2 := bt s 18, b3 := bt s 19 }, Options := sub s (some (V.int IntKind.i64 20)) (some (V.int IntKind.i64 (IntKind.i64.wrap (4 * IntKind.i64.wrap (IntKind.i64.wrap (bt s 0) - 64))))) 20 (IntKind.i64.wrap (4 * IntKind.i64.wrap (IntKind.i64.wrap (bt s 0) - 64))).toNat, Data := sub s (some (V.int IntKind.i64 (IntKind.i64.wrap (4 * IntKind.i64.wrap (IntKind.i64.wrap (bt s 0) - 64))))) none (IntKind.i64.wrap (4 * IntKind.i64.wrap (IntKind.i64.wrap (bt s 0) - 64))).toNat (↑s.length : Int).toNat }, IntKind.i64.wrap (q3 - IntKind.i64.wrap (4 * IntKind.i64.wrap (IntKind.i64.wrap (bt s 0) - 64))), 0, ()))
theorem F17_ev : ∀ a, evTop Try.prog ⟨[d36, d50, d51], inl_keeps5, keepIn keeps5, []⟩ 6 17 (CodL.val (CodL.cons Cod.str CodL.nil) a) (fun v => Cod.dec (Cod.tup (CodL.cons (Cod.agg lIp4) (CodL.cons (Cod.int .i64) (CodL.cons (Cod.int .i64) CodL.nil)))) v some) = (fun a => F17 a.1) a := by
  intro a; kernel_rfl
noncomputable def d17 : Ctr Try.prog := Ctr.ofF 17 (CodL.cons Cod.str CodL.nil) (Cod.tup (CodL.cons (Cod.agg lIp4) (CodL.cons (Cod.int .i64) (CodL.cons (Cod.int .i64) CodL.nil)))) (fun a => F17 a.1) (pcalls_of_ev mix noLoops F17_ev)
/-- interpreter/interpreterref15.Inside6 -/
def F19 (s : List UInt8) : Option (Ip6 × Int × Int × Unit) :=
  bif ltI (↑s.length : Int) 40 then
    some (({ Class := 0, Flow := 0, Hop := 0, From := { b0 := 0, b1 := 0, b2 := 0, b3 := 0, b4 := 0, b5 := 0, b6 := 0, b7 := 0, b8 := 0, b9 := 0, b10 := 0, b11 := 0, b12 := 0, b13 := 0, b14 := 0, b15 := 0 }, To := { b0 := 0, b1 := 0, b2 := 0, b3 := 0, b4 := 0, b5 := 0, b6 := 0, b7 := 0, b8 := 0, b9 := 0, b10 := 0, b11 := 0, b12 := 0, b13 := 0, b14 := 0, b15 := 0 }, Exts := (true, 2, []), Frag := false, Id := 0, At := 0, More := false, Proto := 0, Data := [] }, 0, 7, ()))
  else
    gd (inB 0 s.length) <|
    bif !IntKind.u8.wrap ((bt s 0).tdiv 16) == 6 then
      some (({ Class := 0, Flow := 0, Hop := 0, From := { b0 := 0, b1 := 0, b2 := 0, b3 := 0, b4 := 0, b5 := 0, b6 := 0, b7 := 0, b8 := 0, b9 := 0, b10 := 0, b11 := 0, b12 := 0, b13 := 0, b14 := 0, b15 := 0 }, To := { b0 := 0, b1 := 0, b2 := 0, b3 := 0, b4 := 0, b5 := 0, b6 := 0, b7 := 0, b8 := 0, b9 := 0, b10 := 0, b11 := 0, b12 := 0, b13 := 0, b14 := 0, b15 := 0 }, Exts := (true, 2, []), Frag := false, Id := 0, At := 0, More := false, Proto := 0, Data := [] }, 0, 8, ()))
    else
      Option.bind (
        Option.bind (
          bif ltI (↑s.length : Int) 2 then
            some (true)
          else
            some (ltI (IntKind.i64.wrap ((↑s.length : Int) - 2)) 4)) fun q1 =>
        bif q1 then
          some (0)
        else
          gd (ordB 4 5 s.length) <|
          gd (ordB 5 6 s.length) <|
          some (IntKind.i64.wrap (IntKind.i64.wrap (IntKind.i64.wrap (0 + IntKind.i64.wrap (bt ([] ++ sub s (some (V.int IntKind.i64 4)) (some (V.int IntKind.i64 5)) 4 5 ++ sub s (some (V.int IntKind.i64 5)) (some (V.int IntKind.i64 6)) 5 6) 0)) * 256) + IntKind.i64.wrap (bt ([] ++ sub s (some (V.int IntKind.i64 4)) (some (V.int IntKind.i64 5)) 4 5 ++ sub s (some (V.int IntKind.i64 5)) (some (V.int IntKind.i64 6)) 5 6) 1)))) fun q1 =>
      gd (ordB 40 (↑s.length : Int) s.length) <|
      bif ltI q1 (↑(sub s (some (V.int IntKind.i64 40)) none 40 (↑s.length : Int).toNat).length : Int) then
        gd (ordB 0 q1 (sub s (some (V.int IntKind.i64 40)) none 40 (↑s.length : Int).toNat).length) <|
        gd (inB 6 s.length) <|
        Option.bind (
          F55 (IntKind.i64.wrap (bt s 6)) (sub (sub s (some (V.int IntKind.i64 40)) none 40 (↑s.length : Int).toNat) none (some (V.int IntKind.i64 q1)) 0 q1.toNat)) fun q2 =>
        gd (q2.fst.snd.fst.beq 2 || q2.fst.fst) <|
        bif !q2.snd.snd.snd.fst == 0 then
          some (({ Class := 0, Flow := 0, Hop := 0, From := { b0 := 0, b1 := 0, b2 := 0, b3 := 0, b4 := 0, b5 := 0, b6 := 0, b7 := 0, b8 := 0, b9 := 0, b10 := 0, b11 := 0, b12 := 0, b13 := 0, b14 := 0, b15 := 0 }, To := { b0 := 0, b1 := 0, b2 := 0, b3 := 0, b4 := 0, b5 := 0, b6 := 0, b7 := 0, b8 := 0, b9 := 0, b10 := 0, b11 := 0, b12 := 0, b13 := 0, b14 := 0, b15 := 0 }, Exts := (true, 2, []), Frag := false, Id := 0, At := 0, More := false, Proto := 0, Data := [] }, 0, q2.snd.snd.snd.fst, ()))
        else
          Option.bind (
            Option.bind (
              bif ltI (↑s.length : Int) 4 then
                some (true)
              else
                some (ltI (IntKind.i64.wrap ((↑s.length : Int) - 4)) 0)) fun q3 =>
            bif q3 then
              some (0)
            else
              gd (ordB 0 1 s.length) <|
              gd (ordB 1 2 s.length) <|
              gd (ordB 2 3 s.length) <|
              gd (ordB 3 4 s.length) <|
              some (IntKind.i64.wrap (IntKind.i64.wrap (IntKind.i64.wrap (IntKind.i64.wrap (IntKind.i64.wrap (IntKind.i64.wrap (IntKind.i64.wrap (0 + IntKind.i64.wrap (bt ([] ++ sub s (some (V.int IntKind.i64 0)) (some (V.int IntKind.i64 1)) 0 1 ++ sub s (some (V.int IntKind.i64 1)) (some (V.int IntKind.i64 2)) 1 2 ++ sub s (some (V.int IntKind.i64 2)) (some (V.int IntKind.i64 3)) 2 3 ++ sub s (some (V.int IntKind.i64 3)) (some (V.int IntKind.i64 4)) 3 4) 0)) * 256) + IntKind.i64.wrap (bt ([] ++ sub s (some (V.int IntKind.i64 0)) (some (V.int IntKind.i64 1)) 0 1 ++ sub s (some (V.int IntKind.i64 1)) (some (V.int IntKind.i64 2)) 1 2 ++ sub s (some (V.int IntKind.i64 2)) (some (V.int IntKind.i64 3)) 2 3 ++ sub s (some (V.int IntKind.i64 3)) (some (V.int IntKind.i64 4)) 3 4) 1)) * 256) + IntKind.i64.wrap (bt ([] ++ sub s (some (V.int IntKind.i64 0)) (some (V.int IntKind.i64 1)) 0 1 ++ sub s (some (V.int IntKind.i64 1)) (some (V.int IntKind.i64 2)) 1 2 ++ sub s (some (V.int IntKind.i64 2)) (some (V.int IntKind.i64 3)) 2 3 ++ sub s (some (V.int IntKind.i64 3)) (some (V.int IntKind.i64 4)) 3 4) 2)) * 256) + IntKind.i64.wrap (bt ([] ++ sub s (some (V.int IntKind.i64 0)) (some (V.int IntKind.i64 1)) 0 1 ++ sub s (some (V.int IntKind.i64 1)) (some (V.int IntKind.i64 2)) 1 2 ++ sub s (some (V.int IntKind.i64 2)) (some (V.int IntKind.i64 3)) 2 3 ++ sub s (some (V.int IntKind.i64 3)) (some (V.int IntKind.i64 4)) 3 4) 3)))) fun q3 =>
          gd (inB 7 s.length) <|
          gd (inB 8 s.length) <|
          gd (inB 24 s.length) <|
          gd (inB 9 s.length) <|
          gd (inB 25 s.length) <|
          gd (inB 10 s.length) <|
          gd (inB 26 s.length) <|
          gd (inB 11 s.length) <|
          gd (inB 27 s.length) <|
          gd (inB 12 s.length) <|
          gd (inB 28 s.length) <|
          gd (inB 13 s.length) <|
          gd (inB 29 s.length) <|
          gd (inB 14 s.length) <|
          gd (inB 30 s.length) <|
          gd (inB 15 s.length) <|
          gd (inB 31 s.length) <|
          gd (inB 16 s.length) <|
          gd (inB 32 s.length) <|
          gd (inB 17 s.length) <|
          gd (inB 33 s.length) <|
          gd (inB 18 s.length) <|
          gd (inB 34 s.length) <|
          gd (inB 19 s.length) <|
          gd (inB 35 s.length) <|
          gd (inB 20 s.length) <|
          gd (inB 36 s.length) <|
          gd (inB 21 s.length) <|
          gd (inB 37 s.length) <|
          gd (inB 22 s.length) <|
          gd (inB 38 s.length) <|
          gd (inB 23 s.length) <|
          gd (inB 39 s.length) <|
          bif q2.snd.fst == 44 then
            bif ltI (↑q2.snd.snd.fst.length : Int) 8 then
              some (({ Class := 0, Flow := 0, Hop := 0, From := { b0 := 0, b1 := 0, b2 := 0, b3 := 0, b4 := 0, b5 := 0, b6 := 0, b7 := 0, b8 := 0, b9 := 0, b10 := 0, b11 := 0, b12 := 0, b13 := 0, b14 := 0, b15 := 0 }, To := { b0 := 0, b1 := 0, b2 := 0, b3 := 0, b4 := 0, b5 := 0, b6 := 0, b7 := 0, b8 := 0, b9 := 0, b10 := 0, b11 := 0, b12 := 0, b13 := 0, b14 := 0, b15 := 0 }, Exts := (true, 2, []), Frag := false, Id := 0, At := 0, More := false, Proto := 0, Data := [] }, 0, 7, ()))
            else
              gd (inB 0 q2.snd.snd.fst.length) <|
              Option.bind (
                Option.bind (
                  bif ltI (↑q2.snd.snd.fst.length : Int) 2 then
                    some (true)
                  else
                    some (ltI (IntKind.i64.wrap ((↑q2.snd.snd.fst.length : Int) - 2)) 2)) fun q4 =>
                bif q4 then
                  some (0)
                else
                  gd (ordB 2 3 q2.snd.snd.fst.length) <|
                  gd (ordB 3 4 q2.snd.snd.fst.length) <|
                  some (IntKind.i64.wrap (IntKind.i64.wrap (IntKind.i64.wrap (0 + IntKind.i64.wrap (bt ([] ++ sub q2.snd.snd.fst (some (V.int IntKind.i64 2)) (some (V.int IntKind.i64 3)) 2 3 ++ sub q2.snd.snd.fst (some (V.int IntKind.i64 3)) (some (V.int IntKind.i64 4)) 3 4) 0)) * 256) + IntKind.i64.wrap (bt ([] ++ sub q2.snd.snd.fst (some (V.int IntKind.i64 2)) (some (V.int IntKind.i64 3)) 2 3 ++ sub q2.snd.snd.fst (some (V.int IntKind.i64 3)) (some (V.int IntKind.i64 4)) 3 4) 1)))) fun q4 =>
              gd (inB 3 q2.snd.snd.fst.length) <|
              Option.bind (
                Option.bind (
                  bif ltI (↑q2.snd.snd.fst.length : Int) 4 then
                    some (true)
                  else
                    some (ltI (IntKind.i64.wrap ((↑q2.snd.snd.fst.length : Int) - 4)) 4)) fun q5 =>
                bif q5 then
                  some (0)
                else
                  gd (ordB 4 5 q2.snd.snd.fst.length) <|
                  gd (ordB 5 6 q2.snd.snd.fst.length) <|
                  gd (ordB 6 7 q2.snd.snd.fst.length) <|
                  gd (ordB 7 8 q2.snd.snd.fst.length) <|
                  some (IntKind.i64.wrap (IntKind.i64.wrap (IntKind.i64.wrap (IntKind.i64.wrap (IntKind.i64.wrap (IntKind.i64.wrap (IntKind.i64.wrap (0 + IntKind.i64.wrap (bt ([] ++ sub q2.snd.snd.fst (some (V.int IntKind.i64 4)) (some (V.int IntKind.i64 5)) 4 5 ++ sub q2.snd.snd.fst (some (V.int IntKind.i64 5)) (some (V.int IntKind.i64 6)) 5 6 ++ sub q2.snd.snd.fst (some (V.int IntKind.i64 6)) (some (V.int IntKind.i64 7)) 6 7 ++ sub q2.snd.snd.fst (some (V.int IntKind.i64 7)) (some (V.int IntKind.i64 8)) 7 8) 0)) * 256) + IntKind.i64.wrap (bt ([] ++ sub q2.snd.snd.fst (some (V.int IntKind.i64 4)) (some (V.int IntKind.i64 5)) 4 5 ++ sub q2.snd.snd.fst (some (V.int IntKind.i64 5)) (some (V.int IntKind.i64 6)) 5 6 ++ sub q2.snd.snd.fst (some (V.int IntKind.i64 6)) (some (V.int IntKind.i64 7)) 6 7 ++ sub q2.snd.snd.fst (some (V.int IntKind.i64 7)) (some (V.int IntKind.i64 8)) 7 8) 1)) * 256) + IntKind.i64.wrap (bt ([] ++ sub q2.snd.snd.fst (some (V.int IntKind.i64 4)) (some (V.int IntKind.i64 5)) 4 5 ++ sub q2.snd.snd.fst (some (V.int IntKind.i64 5)) (some (V.int IntKind.i64 6)) 5 6 ++ sub q2.snd.snd.fst (some (V.int IntKind.i64 6)) (some (V.int IntKind.i64 7)) 6 7 ++ sub q2.snd.snd.fst (some (V.int IntKind.i64 7)) (some (V.int IntKind.i64 8)) 7 8) 2)) * 256) + IntKind.i64.wrap (bt ([] ++ sub q2.snd.snd.fst (some (V.int IntKind.i64 4)) (some (V.int IntKind.i64 5)) 4 5 ++ sub q2.snd.snd.fst (some (V.int IntKind.i64 5)) (some (V.int IntKind.i64 6)) 5 6 ++ sub q2.snd.snd.fst (some (V.int IntKind.i64 6)) (some (V.int IntKind.i64 7)) 6 7 ++ sub q2.snd.snd.fst (some (V.int IntKind.i64 7)) (some (V.int IntKind.i64 8)) 7 8) 3)))) fun q5 =>
              gd (ordB 8 (↑q2.snd.snd.fst.length : Int) q2.snd.snd.fst.length) <|
              Option.bind (
                F51 (sub q2.snd.snd.fst (some (V.int IntKind.i64 8)) none 8 (↑q2.snd.snd.fst.length : Int).toNat) (IntKind.i64.wrap (IntKind.i64.wrap (q1 - (↑(sub (sub s (some (V.int IntKind.i64 40)) none 40 (↑s.length : Int).toNat) none (some (V.int IntKind.i64 q1)) 0 q1.toNat).length : Int)) + (↑(sub q2.snd.snd.fst (some (V.int IntKind.i64 8)) none 8 (↑q2.snd.snd.fst.length : Int).toNat).length : Int)))) fun q6 =>
              bif q6 then
                some (({ Class := 0, Flow := 0, Hop := 0, From := { b0 := 0, b1 := 0, b2 := 0, b3 := 0, b4 := 0, b5 := 0, b6 := 0, b7 := 0, b8 := 0, b9 := 0, b10 := 0, b11 := 0, b12 := 0, b13 := 0, b14 := 0, b15 := 0 }, To := { b0 := 0, b1 := 0, b2 := 0, b3 := 0, b4 := 0, b5 := 0, b6 := 0, b7 := 0, b8 := 0, b9 := 0, b10 := 0, b11 := 0, b12 := 0, b13 := 0, b14 := 0, b15 := 0 }, Exts := (true, 2, []), Frag := false, Id := 0, At := 0, More := false, Proto := 0, Data := [] }, 0, 7, ()))
              else
                some (({ Class := (IntKind.i64.wrap (q3.tdiv 1048576)).tmod 256, Flow := q3.tmod 1048576, Hop := IntKind.i64.wrap (bt s 7), From := { b0 := bt s 8, b1 := bt s 9, b2 := bt s 10, b3 := bt s 11, b4 := bt s 12, b5 := bt s 13, b6 := bt s 14, b7 := bt s 15, b8 := bt s 16, b9 := bt s 17, b10 := bt s 18, b11 := bt s 19, b12 := bt s 20, b13 := bt s 21, b14 := bt s 22, b15 := bt s 23 }, To := { b0 := bt s 24, b1 := bt s 25, b2 := bt s 26, b3 := bt s 27, b4 := bt s 28, b5 := bt s 29, b6 := bt s 30, b7 := bt s 31, b8 := bt s 32, b9 := bt s 33, b10 := bt s 34, b11 := bt s 35, b12 := bt s 36, b13 := bt s 37, b14 := bt s 38, b15 := bt s 39 }, Exts := (q2.fst.fst, 2, q2.fst.snd.snd), Frag := true, Id := IntKind.u32.wrap q5, At := IntKind.i64.wrap (IntKind.i64.wrap (q4.tdiv 8) * 8), More := (bt q2.snd.snd.fst 3).tmod 2 == 1, Proto := IntKind.i64.wrap (bt q2.snd.snd.fst 0), Data := sub q2.snd.snd.fst (some (V.int IntKind.i64 8)) none 8 (↑q2.snd.snd.fst.length : Int).toNat }, IntKind.i64.wrap (IntKind.i64.wrap (q1 - (↑(sub (sub s (some (V.int IntKind.i64 40)) none 40 (↑s.length : Int).toNat) none (some (V.int IntKind.i64 q1)) 0 q1.toNat).length : Int)) + (↑(sub q2.snd.snd.fst (some (V.int IntKind.i64 8)) none 8 (↑q2.snd.snd.fst.length : Int).toNat).length : Int)), 0, ()))
          else
            Option.bind (
              F51 (q2.snd.snd.fst) (IntKind.i64.wrap (IntKind.i64.wrap (q1 - (↑(sub (sub s (some (V.int IntKind.i64 40)) none 40 (↑s.length : Int).toNat) none (some (V.int IntKind.i64 q1)) 0 q1.toNat).length : Int)) + (↑q2.snd.snd.fst.length : Int)))) fun q4 =>
            bif q4 then
              some (({ Class := 0, Flow := 0, Hop := 0, From := { b0 := 0, b1 := 0, b2 := 0, b3 := 0, b4 := 0, b5 := 0, b6 := 0, b7 := 0, b8 := 0, b9 := 0, b10 := 0, b11 := 0, b12 := 0, b13 := 0, b14 := 0, b15 := 0 }, To := { b0 := 0, b1 := 0, b2 := 0, b3 := 0, b4 := 0, b5 := 0, b6 := 0, b7 := 0, b8 := 0, b9 := 0, b10 := 0, b11 := 0, b12 := 0, b13 := 0, b14 := 0, b15 := 0 }, Exts := (true, 2, []), Frag := false, Id := 0, At := 0, More := false, Proto := 0, Data := [] }, 0, 7, ()))
            else
              some (({ Class := (IntKind.i64.wrap (q3.tdiv 1048576)).tmod 256, Flow := q3.tmod 1048576, Hop := IntKind.i64.wrap (bt s 7), From := { b0 := bt s 8, b1 := bt s 9, b2 := bt s 10, b3 := bt s 11, b4 := bt s 12, b5 := bt s 13, b6 := bt s 14, b7 := bt s 15, b8 := bt s 16, b9 := bt s 17, b10 := bt s 18, b11 := bt s 19, b12 := bt s 20, b13 := bt s 21, b14 := bt s 22, b15 := bt s 23 }, To := { b0 := bt s 24, b1 := bt s 25, b2 := bt s 26, b3 := bt s 27, b4 := bt s 28, b5 := bt s 29, b6 := bt s 30, b7 := bt s 31, b8 := bt s 32, b9 := bt s 33, b10 := bt s 34, b11 := bt s 35, b12 := bt s 36, b13 := bt s 37, b14 := bt s 38, b15 := bt s 39 }, Exts := (q2.fst.fst, 2, q2.fst.snd.snd), Frag := false, Id := 0, At := 0, More := false, Proto := q2.snd.fst, Data := q2.snd.snd.fst }, IntKind.i64.wrap (IntKind.i64.wrap (q1 - (↑(sub (sub s (some (V.int IntKind.i64 40)) none 40 (↑s.length : Int).toNat) none (some (V.int IntKind.i64 q1)) 0 q1.toNat).length : Int)) + (↑q2.snd.snd.fst.length : Int)), 0, ()))
      else
        gd (inB 6 s.length) <|
        Option.bind (
          F55 (IntKind.i64.wrap (bt s 6)) (sub s (some (V.int IntKind.i64 40)) none 40 (↑s.length : Int).toNat)) fun q2 =>
        gd (q2.fst.snd.fst.beq 2 || q2.fst.fst) <|
        bif !q2.snd.snd.snd.fst == 0 then
          some (({ Class := 0, Flow := 0, Hop := 0, From := { b0 := 0, b1 := 0, b2 := 0, b3 := 0, b4 := 0, b5 := 0, b6 := 0, b7 := 0, b8 := 0, b9 := 0, b10 := 0, b11 := 0, b12 := 0, b13 := 0, b14 := 0, b15 := 0 }, To := { b0 := 0, b1 := 0, b2 := 0, b3 := 0, b4 := 0, b5 := 0, b6 := 0, b7 := 0, b8 := 0, b9 := 0, b10 := 0, b11 := 0, b12 := 0, b13 := 0, b14 := 0, b15 := 0 }, Exts := (true, 2, []), Frag := false, Id := 0, At := 0, More := false, Proto := 0, Data := [] }, 0, q2.snd.snd.snd.fst, ()))
        else
          Option.bind (
            Option.bind (
              bif ltI (↑s.length : Int) 4 then
                some (true)
              else
                some (ltI (IntKind.i64.wrap ((↑s.length : Int) - 4)) 0)) fun q3 =>
            bif q3 then
              some (0)
            else
              gd (ordB 0 1 s.length) <|
              gd (ordB 1 2 s.length) <|
              gd (ordB 2 3 s.length) <|
              gd (ordB 3 4 s.length) <|
              some (IntKind.i64.wrap (IntKind.i64.wrap (IntKind.i64.wrap (IntKind.i64.wrap (IntKind.i64.wrap (IntKind.i64.wrap (IntKind.i64.wrap (0 + IntKind.i64.wrap (bt ([] ++ sub s (some (V.int IntKind.i64 0)) (some (V.int IntKind.i64 1)) 0 1 ++ sub s (some (V.int IntKind.i64 1)) (some (V.int IntKind.i64 2)) 1 2 ++ sub s (some (V.int IntKind.i64 2)) (some (V.int IntKind.i64 3)) 2 3 ++ sub s (some (V.int IntKind.i64 3)) (some (V.int IntKind.i64 4)) 3 4) 0)) * 256) + IntKind.i64.wrap (bt ([] ++ sub s (some (V.int IntKind.i64 0)) (some (V.int IntKind.i64 1)) 0 1 ++ sub s (some (V.int IntKind.i64 1)) (some (V.int IntKind.i64 2)) 1 2 ++ sub s (some (V.int IntKind.i64 2)) (some (V.int IntKind.i64 3)) 2 3 ++ sub s (some (V.int IntKind.i64 3)) (some (V.int IntKind.i64 4)) 3 4) 1)) * 256) + IntKind.i64.wrap (bt ([] ++ sub s (some (V.int IntKind.i64 0)) (some (V.int IntKind.i64 1)) 0 1 ++ sub s (some (V.int IntKind.i64 1)) (some (V.int IntKind.i64 2)) 1 2 ++ sub s (some (V.int IntKind.i64 2)) (some (V.int IntKind.i64 3)) 2 3 ++ sub s (some (V.int IntKind.i64 3)) (some (V.int IntKind.i64 4)) 3 4) 2)) * 256) + IntKind.i64.wrap (bt ([] ++ sub s (some (V.int IntKind.i64 0)) (some (V.int IntKind.i64 1)) 0 1 ++ sub s (some (V.int IntKind.i64 1)) (some (V.int IntKind.i64 2)) 1 2 ++ sub s (some (V.int IntKind.i64 2)) (some (V.int IntKind.i64 3)) 2 3 ++ sub s (some (V.int IntKind.i64 3)) (some (V.int IntKind.i64 4)) 3 4) 3)))) fun q3 =>
          gd (inB 7 s.length) <|
          gd (inB 8 s.length) <|
          gd (inB 24 s.length) <|
          gd (inB 9 s.length) <|
          gd (inB 25 s.length) <|
          gd (inB 10 s.length) <|
          gd (inB 26 s.length) <|
          gd (inB 11 s.length) <|
          gd (inB 27 s.length) <|
          gd (inB 12 s.length) <|
          gd (inB 28 s.length) <|
          gd (inB 13 s.length) <|
          gd (inB 29 s.length) <|
          gd (inB 14 s.length) <|
          gd (inB 30 s.length) <|
          gd (inB 15 s.length) <|
          gd (inB 31 s.length) <|
          gd (inB 16 s.length) <|
          gd (inB 32 s.length) <|
          gd (inB 17 s.length) <|
          gd (inB 33 s.length) <|
          gd (inB 18 s.length) <|
          gd (inB 34 s.length) <|
          gd (inB 19 s.length) <|
          gd (inB 35 s.length) <|
          gd (inB 20 s.length) <|
          gd (inB 36 s.length) <|
          gd (inB 21 s.length) <|
          gd (inB 37 s.length) <|
          gd (inB 22 s.length) <|
          gd (inB 38 s.length) <|
          gd (inB 23 s.length) <|
          gd (inB 39 s.length) <|
          bif q2.snd.fst == 44 then
            bif ltI (↑q2.snd.snd.fst.length : Int) 8 then
              some (({ Class := 0, Flow := 0, Hop := 0, From := { b0 := 0, b1 := 0, b2 := 0, b3 := 0, b4 := 0, b5 := 0, b6 := 0, b7 := 0, b8 := 0, b9 := 0, b10 := 0, b11 := 0, b12 := 0, b13 := 0, b14 := 0, b15 := 0 }, To := { b0 := 0, b1 := 0, b2 := 0, b3 := 0, b4 := 0, b5 := 0, b6 := 0, b7 := 0, b8 := 0, b9 := 0, b10 := 0, b11 := 0, b12 := 0, b13 := 0, b14 := 0, b15 := 0 }, Exts := (true, 2, []), Frag := false, Id := 0, At := 0, More := false, Proto := 0, Data := [] }, 0, 7, ()))
            else
              gd (inB 0 q2.snd.snd.fst.length) <|
              Option.bind (
                Option.bind (
                  bif ltI (↑q2.snd.snd.fst.length : Int) 2 then
                    some (true)
                  else
                    some (ltI (IntKind.i64.wrap ((↑q2.snd.snd.fst.length : Int) - 2)) 2)) fun q4 =>
                bif q4 then
                  some (0)
                else
                  gd (ordB 2 3 q2.snd.snd.fst.length) <|
                  gd (ordB 3 4 q2.snd.snd.fst.length) <|
                  some (IntKind.i64.wrap (IntKind.i64.wrap (IntKind.i64.wrap (0 + IntKind.i64.wrap (bt ([] ++ sub q2.snd.snd.fst (some (V.int IntKind.i64 2)) (some (V.int IntKind.i64 3)) 2 3 ++ sub q2.snd.snd.fst (some (V.int IntKind.i64 3)) (some (V.int IntKind.i64 4)) 3 4) 0)) * 256) + IntKind.i64.wrap (bt ([] ++ sub q2.snd.snd.fst (some (V.int IntKind.i64 2)) (some (V.int IntKind.i64 3)) 2 3 ++ sub q2.snd.snd.fst (some (V.int IntKind.i64 3)) (some (V.int IntKind.i64 4)) 3 4) 1)))) fun q4 =>
              gd (inB 3 q2.snd.snd.fst.length) <|
              Option.bind (
                Option.bind (
                  bif ltI (↑q2.snd.snd.fst.length : Int) 4 then
                    some (true)
                  else
                    some (ltI (IntKind.i64.wrap ((↑q2.snd.snd.fst.length : Int) - 4)) 4)) fun q5 =>
                bif q5 then
                  some (0)
                else
                  gd (ordB 4 5 q2.snd.snd.fst.length) <|
                  gd (ordB 5 6 q2.snd.snd.fst.length) <|
                  gd (ordB 6 7 q2.snd.snd.fst.length) <|
                  gd (ordB 7 8 q2.snd.snd.fst.length) <|
                  some (IntKind.i64.wrap (IntKind.i64.wrap (IntKind.i64.wrap (IntKind.i64.wrap (IntKind.i64.wrap (IntKind.i64.wrap (IntKind.i64.wrap (0 + IntKind.i64.wrap (bt ([] ++ sub q2.snd.snd.fst (some (V.int IntKind.i64 4)) (some (V.int IntKind.i64 5)) 4 5 ++ sub q2.snd.snd.fst (some (V.int IntKind.i64 5)) (some (V.int IntKind.i64 6)) 5 6 ++ sub q2.snd.snd.fst (some (V.int IntKind.i64 6)) (some (V.int IntKind.i64 7)) 6 7 ++ sub q2.snd.snd.fst (some (V.int IntKind.i64 7)) (some (V.int IntKind.i64 8)) 7 8) 0)) * 256) + IntKind.i64.wrap (bt ([] ++ sub q2.snd.snd.fst (some (V.int IntKind.i64 4)) (some (V.int IntKind.i64 5)) 4 5 ++ sub q2.snd.snd.fst (some (V.int IntKind.i64 5)) (some (V.int IntKind.i64 6)) 5 6 ++ sub q2.snd.snd.fst (some (V.int IntKind.i64 6)) (some (V.int IntKind.i64 7)) 6 7 ++ sub q2.snd.snd.fst (some (V.int IntKind.i64 7)) (some (V.int IntKind.i64 8)) 7 8) 1)) * 256) + IntKind.i64.wrap (bt ([] ++ sub q2.snd.snd.fst (some (V.int IntKind.i64 4)) (some (V.int IntKind.i64 5)) 4 5 ++ sub q2.snd.snd.fst (some (V.int IntKind.i64 5)) (some (V.int IntKind.i64 6)) 5 6 ++ sub q2.snd.snd.fst (some (V.int IntKind.i64 6)) (some (V.int IntKind.i64 7)) 6 7 ++ sub q2.snd.snd.fst (some (V.int IntKind.i64 7)) (some (V.int IntKind.i64 8)) 7 8) 2)) * 256) + IntKind.i64.wrap (bt ([] ++ sub q2.snd.snd.fst (some (V.int IntKind.i64 4)) (some (V.int IntKind.i64 5)) 4 5 ++ sub q2.snd.snd.fst (some (V.int IntKind.i64 5)) (some (V.int IntKind.i64 6)) 5 6 ++ sub q2.snd.snd.fst (some (V.int IntKind.i64 6)) (some (V.int IntKind.i64 7)) 6 7 ++ sub q2.snd.snd.fst (some (V.int IntKind.i64 7)) (some (V.int IntKind.i64 8)) 7 8) 3)))) fun q5 =>
              gd (ordB 8 (↑q2.snd.snd.fst.length : Int) q2.snd.snd.fst.length) <|
              Option.bind (
                F51 (sub q2.snd.snd.fst (some (V.int IntKind.i64 8)) none 8 (↑q2.snd.snd.fst.length : Int).toNat) (IntKind.i64.wrap (IntKind.i64.wrap (q1 - (↑(sub s (some (V.int IntKind.i64 40)) none 40 (↑s.length : Int).toNat).length : Int)) + (↑(sub q2.snd.snd.fst (some (V.int IntKind.i64 8)) none 8 (↑q2.snd.snd.fst.length : Int).toNat).length : Int)))) fun q6 =>
              bif q6 then
                some (({ Class := 0, Flow := 0, Hop := 0, From := { b0 := 0, b1 := 0, b2 := 0, b3 := 0, b4 := 0, b5 := 0, b6 := 0, b7 := 0, b8 := 0, b9 := 0, b10 := 0, b11 := 0, b12 := 0, b13 := 0, b14 := 0, b15 := 0 }, To := { b0 := 0, b1 := 0, b2 := 0, b3 := 0, b4 := 0, b5 := 0, b6 := 0, b7 := 0, b8 := 0, b9 := 0, b10 := 0, b11 := 0, b12 := 0, b13 := 0, b14 := 0, b15 := 0 }, Exts := (true, 2, []), Frag := false, Id := 0, At := 0, More := false, Proto := 0, Data := [] }, 0, 7, ()))
              else
                some (({ Class := (IntKind.i64.wrap (q3.tdiv 1048576)).tmod 256, Flow := q3.tmod 1048576, Hop := IntKind.i64.wrap (bt s 7), From := { b0 := bt s 8, b1 := bt s 9, b2 := bt s 10, b3 := bt s 11, b4 := bt s 12, b5 := bt s 13, b6 := bt s 14, b7 := bt s 15, b8 := bt s 16, b9 := bt s 17, b10 := bt s 18, b11 := bt s 19, b12 := bt s 20, b13 := bt s 21, b14 := bt s 22, b15 := bt s 23 }, To := { b0 := bt s 24, b1 := bt s 25, b2 := bt s 26, b3 := bt s 27, b4 := bt s 28, b5 := bt s 29, b6 := bt s 30, b7 := bt s 31, b8 := bt s 32, b9 := bt s 33, b10 := bt s 34, b11 := bt s 35, b12 := bt s 36, b13 := bt s 37, b14 := bt s 38, b15 := bt s 39 }, Exts := (q2.fst.fst, 2, q2.fst.snd.snd), Frag := true, Id := IntKind.u32.wrap q5, At := IntKind.i64.wrap (IntKind.i64.wrap (q4.tdiv 8) * 8), More := (bt q2.snd.snd.fst 3).tmod 2 == 1, Proto := IntKind.i64.wrap (bt q2.snd.snd.fst 0), Data := sub q2.snd.snd.fst (some (V.int IntKind.i64 8)) none 8 (↑q2.snd.snd.fst.length : Int).toNat }, IntKind.i64.wrap (IntKind.i64.wrap (q1 - (↑(sub s (some (V.int IntKind.i64 40)) none 40 (↑s.length : Int).toNat).length : Int)) + (↑(sub q2.snd.snd.fst (some (V.int IntKind.i64 8)) none 8 (↑q2.snd.snd.fst.length : Int).toNat).length : Int)), 0, ()))
          else
            Option.bind (
              F51 (q2.snd.snd.fst) (IntKind.i64.wrap (IntKind.i64.wrap (q1 - (↑(sub s (some (V.int IntKind.i64 40)) none 40 (↑s.length : Int).toNat).length : Int)) + (↑q2.snd.snd.fst.length : Int)))) fun q4 =>
            bif q4 then
              some (({ Class := 0, Flow := 0, Hop := 0, From := { b0 := 0, b1 := 0, b2 := 0, b3 := 0, b4 := 0, b5 := 0, b6 := 0, b7 := 0, b8 := 0, b9 := 0, b10 := 0, b11 := 0, b12 := 0, b13 := 0, b14 := 0, b15 := 0 }, To := { b0 := 0, b1 := 0, b2 := 0, b3 := 0, b4 := 0, b5 := 0, b6 := 0, b7 := 0, b8 := 0, b9 := 0, b10 := 0, b11 := 0, b12 := 0, b13 := 0, b14 := 0, b15 := 0 }, Exts := (true, 2, []), Frag := false, Id := 0, At := 0, More := false, Proto := 0, Data := [] }, 0, 7, ()))
            else
              some (({ Class := (IntKind.i64.wrap (q3.tdiv 1048576)).tmod 256, Flow := q3.tmod 1048576, Hop := IntKind.i64.wrap (bt s 7), From := { b0 := bt s 8, b1 := bt s 9, b2 := bt s 10, b3 := bt s 11, b4 := bt s 12, b5 := bt s 13, b6 := bt s 14, b7 := bt s 15, b8 := bt s 16, b9 := bt s 17, b10 := bt s 18, b11 := bt s 19, b12 := bt s 20, b13 := bt s 21, b14 := bt s 22, b15 := bt s 23 }, To := { b0 := bt s 24, b1 := bt s 25, b2 := bt s 26, b3 := bt s 27, b4 := bt s 28, b5 := bt s 29, b6 := bt s 30, b7 := bt s 31, b8 := bt s 32, b9 := bt s 33, b10 := bt s 34, b11 := bt s 35, b12 := bt s 36, b13 := bt s 37, b14 := bt s 38, b15 := bt s 39 }, Exts := (q2.fst.fst, 2, q2.fst.snd.snd), Frag := false, Id := 0, At := 0, More := false, Proto := q2.snd.fst, Data := q2.snd.snd.fst }, IntKind.i64.wrap (IntKind.i64.wrap (q1 - (↑(sub s (some (V.int IntKind.i64 40)) none 40 (↑s.length : Int).toNat).length : Int)) + (↑q2.snd.snd.fst.length : Int)), 0, ()))
theorem F19_ev : ∀ a, evTop Try.prog ⟨[d50, d51, d55], inl_keeps5, keepIn keeps5, []⟩ 6 19 (CodL.val (CodL.cons Cod.str CodL.nil) a) (fun v => Cod.dec (Cod.tup (CodL.cons (Cod.agg lIp6) (CodL.cons (Cod.int .i64) (CodL.cons (Cod.int .i64) CodL.nil)))) v some) = (fun a => F19 a.1) a := by
  intro a; kernel_rfl
noncomputable def d19 : Ctr Try.prog := Ctr.ofF 19 (CodL.cons Cod.str CodL.nil) (Cod.tup (CodL.cons (Cod.agg lIp6) (CodL.cons (Cod.int .i64) (CodL.cons (Cod.int .i64) CodL.nil)))) (fun a => F19 a.1) (pcalls_of_ev mix noLoops F19_ev)
/-- interpreter/interpreterlaw15.FaultInside -/
noncomputable def F5 (s : List UInt8) : Option (Bool) :=
  bif ltI 70000 (↑s.length : Int) then
    some (true)
  else
    Option.bind (
      F13 (s)) fun q1 =>
    errK (q1.snd.snd.fst) (
      Option.bind (
        F17 (s)) fun q2 =>
      Option.bind (
        F18 (s)) fun q3 =>
      errK (q3.snd.snd.fst) (
        gd (q3.fst.Exts.snd.fst.beq 2 || q3.fst.Exts.fst) <|
        Option.bind (
          F19 (s)) fun q4 =>
        gd (q4.fst.Exts.snd.fst.beq 2 || q4.fst.Exts.fst) <|
        bif q1.fst.Tos == q2.fst.Tos && (q1.fst.Id == q2.fst.Id && (q1.fst.Ttl == q2.fst.Ttl && (q1.fst.Proto == q2.fst.Proto && (q1.fst.At == q2.fst.At && (q1.fst.DF == q2.fst.DF && (q1.fst.More == q2.fst.More && (q1.fst.From.b0 == q2.fst.From.b0 && (q1.fst.From.b1 == q2.fst.From.b1 && (q1.fst.From.b2 == q2.fst.From.b2 && (q1.fst.From.b3 == q2.fst.From.b3 && true))) && (q1.fst.To.b0 == q2.fst.To.b0 && (q1.fst.To.b1 == q2.fst.To.b1 && (q1.fst.To.b2 == q2.fst.To.b2 && (q1.fst.To.b3 == q2.fst.To.b3 && true))) && (q1.fst.Options == q2.fst.Options && (q1.fst.Data == q2.fst.Data && true)))))))))) then
          bif q1.snd.fst == q2.snd.fst then
            Option.bind (
              bif q2.snd.snd.fst == 0 then
                some (true)
              else
                some (false)) fun q5 =>
            bif q5 then
              Option.bind (
                F20 ({ Class := q3.fst.Class, Flow := q3.fst.Flow, Hop := q3.fst.Hop, From := { b0 := q3.fst.From.b0, b1 := q3.fst.From.b1, b2 := q3.fst.From.b2, b3 := q3.fst.From.b3, b4 := q3.fst.From.b4, b5 := q3.fst.From.b5, b6 := q3.fst.From.b6, b7 := q3.fst.From.b7, b8 := q3.fst.From.b8, b9 := q3.fst.From.b9, b10 := q3.fst.From.b10, b11 := q3.fst.From.b11, b12 := q3.fst.From.b12, b13 := q3.fst.From.b13, b14 := q3.fst.From.b14, b15 := q3.fst.From.b15 }, To := { b0 := q3.fst.To.b0, b1 := q3.fst.To.b1, b2 := q3.fst.To.b2, b3 := q3.fst.To.b3, b4 := q3.fst.To.b4, b5 := q3.fst.To.b5, b6 := q3.fst.To.b6, b7 := q3.fst.To.b7, b8 := q3.fst.To.b8, b9 := q3.fst.To.b9, b10 := q3.fst.To.b10, b11 := q3.fst.To.b11, b12 := q3.fst.To.b12, b13 := q3.fst.To.b13, b14 := q3.fst.To.b14, b15 := q3.fst.To.b15 }, Exts := (q3.fst.Exts.fst, 2, q3.fst.Exts.snd.snd), Frag := q3.fst.Frag, Id := q3.fst.Id, At := q3.fst.At, More := q3.fst.More, Proto := q3.fst.Proto, Data := q3.fst.Data }) ({ Class := q4.fst.Class, Flow := q4.fst.Flow, Hop := q4.fst.Hop, From := { b0 := q4.fst.From.b0, b1 := q4.fst.From.b1, b2 := q4.fst.From.b2, b3 := q4.fst.From.b3, b4 := q4.fst.From.b4, b5 := q4.fst.From.b5, b6 := q4.fst.From.b6, b7 := q4.fst.From.b7, b8 := q4.fst.From.b8, b9 := q4.fst.From.b9, b10 := q4.fst.From.b10, b11 := q4.fst.From.b11, b12 := q4.fst.From.b12, b13 := q4.fst.From.b13, b14 := q4.fst.From.b14, b15 := q4.fst.From.b15 }, To := { b0 := q4.fst.To.b0, b1 := q4.fst.To.b1, b2 := q4.fst.To.b2, b3 := q4.fst.To.b3, b4 := q4.fst.To.b4, b5 := q4.fst.To.b5, b6 := q4.fst.To.b6, b7 := q4.fst.To.b7, b8 := q4.fst.To.b8, b9 := q4.fst.To.b9, b10 := q4.fst.To.b10, b11 := q4.fst.To.b11, b12 := q4.fst.To.b12, b13 := q4.fst.To.b13, b14 := q4.fst.To.b14, b15 := q4.fst.To.b15 }, Exts := (q4.fst.Exts.fst, 2, q4.fst.Exts.snd.snd), Frag := q4.fst.Frag, Id := q4.fst.Id, At := q4.fst.At, More := q4.fst.More, Proto := q4.fst.Proto, Data := q4.fst.Data })) fun q6 =>
              bif q6 then
                bif q3.snd.fst == q4.snd.fst then
                  Option.bind (
                    bif q4.snd.snd.fst == 0 then
                      some (true)
                    else
                      some (false)) fun q7 =>
                  some (q7)
                else
                  some (false)
              else
                some (false)
            else
              some (false)
          else
            some (false)
        else
          some (false)) fun c4 p4 =>
        gd (q3.fst.Exts.snd.fst.beq 2 || q3.fst.Exts.fst) <|
        Option.bind (
          F19 (s)) fun q6 =>
        gd (q6.fst.Exts.snd.fst.beq 2 || q6.fst.Exts.fst) <|
        bif q1.fst.Tos == q2.fst.Tos && (q1.fst.Id == q2.fst.Id && (q1.fst.Ttl == q2.fst.Ttl && (q1.fst.Proto == q2.fst.Proto && (q1.fst.At == q2.fst.At && (q1.fst.DF == q2.fst.DF && (q1.fst.More == q2.fst.More && (q1.fst.From.b0 == q2.fst.From.b0 && (q1.fst.From.b1 == q2.fst.From.b1 && (q1.fst.From.b2 == q2.fst.From.b2 && (q1.fst.From.b3 == q2.fst.From.b3 && true))) && (q1.fst.To.b0 == q2.fst.To.b0 && (q1.fst.To.b1 == q2.fst.To.b1 && (q1.fst.To.b2 == q2.fst.To.b2 && (q1.fst.To.b3 == q2.fst.To.b3 && true))) && (q1.fst.Options == q2.fst.Options && (q1.fst.Data == q2.fst.Data && true)))))))))) then
          bif q1.snd.fst == q2.snd.fst then
            Option.bind (
              bif q2.snd.snd.fst == 0 then
                some (true)
              else
                some (false)) fun q7 =>
            bif q7 then
              Option.bind (
                F20 ({ Class := q3.fst.Class, Flow := q3.fst.Flow, Hop := q3.fst.Hop, From := { b0 := q3.fst.From.b0, b1 := q3.fst.From.b1, b2 := q3.fst.From.b2, b3 := q3.fst.From.b3, b4 := q3.fst.From.b4, b5 := q3.fst.From.b5, b6 := q3.fst.From.b6, b7 := q3.fst.From.b7, b8 := q3.fst.From.b8, b9 := q3.fst.From.b9, b10 := q3.fst.From.b10, b11 := q3.fst.From.b11, b12 := q3.fst.From.b12, b13 := q3.fst.From.b13, b14 := q3.fst.From.b14, b15 := q3.fst.From.b15 }, To := { b0 := q3.fst.To.b0, b1 := q3.fst.To.b1, b2 := q3.fst.To.b2, b3 := q3.fst.To.b3, b4 := q3.fst.To.b4, b5 := q3.fst.To.b5, b6 := q3.fst.To.b6, b7 := q3.fst.To.b7, b8 := q3.fst.To.b8, b9 := q3.fst.To.b9, b10 := q3.fst.To.b10, b11 := q3.fst.To.b11, b12 := q3.fst.To.b12, b13 := q3.fst.To.b13, b14 := q3.fst.To.b14, b15 := q3.fst.To.b15 }, Exts := (q3.fst.Exts.fst, 2, q3.fst.Exts.snd.snd), Frag := q3.fst.Frag, Id := q3.fst.Id, At := q3.fst.At, More := q3.fst.More, Proto := q3.fst.Proto, Data := q3.fst.Data }) ({ Class := q6.fst.Class, Flow := q6.fst.Flow, Hop := q6.fst.Hop, From := { b0 := q6.fst.From.b0, b1 := q6.fst.From.b1, b2 := q6.fst.From.b2, b3 := q6.fst.From.b3, b4 := q6.fst.From.b4, b5 := q6.fst.From.b5, b6 := q6.fst.From.b6, b7 := q6.fst.From.b7, b8 := q6.fst.From.b8, b9 := q6.fst.From.b9, b10 := q6.fst.From.b10, b11 := q6.fst.From.b11, b12 := q6.fst.From.b12, b13 := q6.fst.From.b13, b14 := q6.fst.From.b14, b15 := q6.fst.From.b15 }, To := { b0 := q6.fst.To.b0, b1 := q6.fst.To.b1, b2 := q6.fst.To.b2, b3 := q6.fst.To.b3, b4 := q6.fst.To.b4, b5 := q6.fst.To.b5, b6 := q6.fst.To.b6, b7 := q6.fst.To.b7, b8 := q6.fst.To.b8, b9 := q6.fst.To.b9, b10 := q6.fst.To.b10, b11 := q6.fst.To.b11, b12 := q6.fst.To.b12, b13 := q6.fst.To.b13, b14 := q6.fst.To.b14, b15 := q6.fst.To.b15 }, Exts := (q6.fst.Exts.fst, 2, q6.fst.Exts.snd.snd), Frag := q6.fst.Frag, Id := q6.fst.Id, At := q6.fst.At, More := q6.fst.More, Proto := q6.fst.Proto, Data := q6.fst.Data })) fun q8 =>
              bif q8 then
                bif q3.snd.fst == q6.snd.fst then
                  Option.bind (
                    bif q6.snd.snd.fst == 0 then
                      some (false)
                    else
                      bif c4 == q6.snd.snd.fst then
                        some (p4 == 0)
                      else
                        some (false)) fun q9 =>
                  some (q9)
                else
                  some (false)
              else
                some (false)
            else
              some (false)
          else
            some (false)
        else
          some (false)) fun c2 p2 =>
      Option.bind (
        F17 (s)) fun q4 =>
      Option.bind (
        F18 (s)) fun q5 =>
      errK (q5.snd.snd.fst) (
        gd (q5.fst.Exts.snd.fst.beq 2 || q5.fst.Exts.fst) <|
        Option.bind (
          F19 (s)) fun q6 =>
        gd (q6.fst.Exts.snd.fst.beq 2 || q6.fst.Exts.fst) <|
        bif q1.fst.Tos == q4.fst.Tos && (q1.fst.Id == q4.fst.Id && (q1.fst.Ttl == q4.fst.Ttl && (q1.fst.Proto == q4.fst.Proto && (q1.fst.At == q4.fst.At && (q1.fst.DF == q4.fst.DF && (q1.fst.More == q4.fst.More && (q1.fst.From.b0 == q4.fst.From.b0 && (q1.fst.From.b1 == q4.fst.From.b1 && (q1.fst.From.b2 == q4.fst.From.b2 && (q1.fst.From.b3 == q4.fst.From.b3 && true))) && (q1.fst.To.b0 == q4.fst.To.b0 && (q1.fst.To.b1 == q4.fst.To.b1 && (q1.fst.To.b2 == q4.fst.To.b2 && (q1.fst.To.b3 == q4.fst.To.b3 && true))) && (q1.fst.Options == q4.fst.Options && (q1.fst.Data == q4.fst.Data && true)))))))))) then
          bif q1.snd.fst == q4.snd.fst then
            Option.bind (
              bif q4.snd.snd.fst == 0 then
                some (false)
              else
                bif c2 == q4.snd.snd.fst then
                  some (p2 == 0)
                else
                  some (false)) fun q7 =>
            bif q7 then
              Option.bind (
                F20 ({ Class := q5.fst.Class, Flow := q5.fst.Flow, Hop := q5.fst.Hop, From := { b0 := q5.fst.From.b0, b1 := q5.fst.From.b1, b2 := q5.fst.From.b2, b3 := q5.fst.From.b3, b4 := q5.fst.From.b4, b5 := q5.fst.From.b5, b6 := q5.fst.From.b6, b7 := q5.fst.From.b7, b8 := q5.fst.From.b8, b9 := q5.fst.From.b9, b10 := q5.fst.From.b10, b11 := q5.fst.From.b11, b12 := q5.fst.From.b12, b13 := q5.fst.From.b13, b14 := q5.fst.From.b14, b15 := q5.fst.From.b15 }, To := { b0 := q5.fst.To.b0, b1 := q5.fst.To.b1, b2 := q5.fst.To.b2, b3 := q5.fst.To.b3, b4 := q5.fst.To.b4, b5 := q5.fst.To.b5, b6 := q5.fst.To.b6, b7 := q5.fst.To.b7, b8 := q5.fst.To.b8, b9 := q5.fst.To.b9, b10 := q5.fst.To.b10, b11 := q5.fst.To.b11, b12 := q5.fst.To.b12, b13 := q5.fst.To.b13, b14 := q5.fst.To.b14, b15 := q5.fst.To.b15 }, Exts := (q5.fst.Exts.fst, 2, q5.fst.Exts.snd.snd), Frag := q5.fst.Frag, Id := q5.fst.Id, At := q5.fst.At, More := q5.fst.More, Proto := q5.fst.Proto, Data := q5.fst.Data }) ({ Class := q6.fst.Class, Flow := q6.fst.Flow, Hop := q6.fst.Hop, From := { b0 := q6.fst.From.b0, b1 := q6.fst.From.b1, b2 := q6.fst.From.b2, b3 := q6.fst.From.b3, b4 := q6.fst.From.b4, b5 := q6.fst.From.b5, b6 := q6.fst.From.b6, b7 := q6.fst.From.b7, b8 := q6.fst.From.b8, b9 := q6.fst.From.b9, b10 := q6.fst.From.b10, b11 := q6.fst.From.b11, b12 := q6.fst.From.b12, b13 := q6.fst.From.b13, b14 := q6.fst.From.b14, b15 := q6.fst.From.b15 }, To := { b0 := q6.fst.To.b0, b1 := q6.fst.To.b1, b2 := q6.fst.To.b2, b3 := q6.fst.To.b3, b4 := q6.fst.To.b4, b5 := q6.fst.To.b5, b6 := q6.fst.To.b6, b7 := q6.fst.To.b7, b8 := q6.fst.To.b8, b9 := q6.fst.To.b9, b10 := q6.fst.To.b10, b11 := q6.fst.To.b11, b12 := q6.fst.To.b12, b13 := q6.fst.To.b13, b14 := q6.fst.To.b14, b15 := q6.fst.To.b15 }, Exts := (q6.fst.Exts.fst, 2, q6.fst.Exts.snd.snd), Frag := q6.fst.Frag, Id := q6.fst.Id, At := q6.fst.At, More := q6.fst.More, Proto := q6.fst.Proto, Data := q6.fst.Data })) fun q8 =>
              bif q8 then
                bif q5.snd.fst == q6.snd.fst then
                  Option.bind (
                    bif q6.snd.snd.fst == 0 then
                      some (true)
                    else
                      some (false)) fun q9 =>
                  some (q9)
                else
                  some (false)
              else
                some (false)
            else
              some (false)
          else
            some (false)
        else
          some (false)) fun c6 p6 =>
        gd (q5.fst.Exts.snd.fst.beq 2 || q5.fst.Exts.fst) <|
        Option.bind (
          F19 (s)) fun q8 =>
        gd (q8.fst.Exts.snd.fst.beq 2 || q8.fst.Exts.fst) <|
        bif q1.fst.Tos == q4.fst.Tos && (q1.fst.Id == q4.fst.Id && (q1.fst.Ttl == q4.fst.Ttl && (q1.fst.Proto == q4.fst.Proto && (q1.fst.At == q4.fst.At && (q1.fst.DF == q4.fst.DF && (q1.fst.More == q4.fst.More && (q1.fst.From.b0 == q4.fst.From.b0 && (q1.fst.From.b1 == q4.fst.From.b1 && (q1.fst.From.b2 == q4.fst.From.b2 && (q1.fst.From.b3 == q4.fst.From.b3 && true))) && (q1.fst.To.b0 == q4.fst.To.b0 && (q1.fst.To.b1 == q4.fst.To.b1 && (q1.fst.To.b2 == q4.fst.To.b2 && (q1.fst.To.b3 == q4.fst.To.b3 && true))) && (q1.fst.Options == q4.fst.Options && (q1.fst.Data == q4.fst.Data && true)))))))))) then
          bif q1.snd.fst == q4.snd.fst then
            Option.bind (
              bif q4.snd.snd.fst == 0 then
                some (false)
              else
                bif c2 == q4.snd.snd.fst then
                  some (p2 == 0)
                else
                  some (false)) fun q9 =>
            bif q9 then
              Option.bind (
                F20 ({ Class := q5.fst.Class, Flow := q5.fst.Flow, Hop := q5.fst.Hop, From := { b0 := q5.fst.From.b0, b1 := q5.fst.From.b1, b2 := q5.fst.From.b2, b3 := q5.fst.From.b3, b4 := q5.fst.From.b4, b5 := q5.fst.From.b5, b6 := q5.fst.From.b6, b7 := q5.fst.From.b7, b8 := q5.fst.From.b8, b9 := q5.fst.From.b9, b10 := q5.fst.From.b10, b11 := q5.fst.From.b11, b12 := q5.fst.From.b12, b13 := q5.fst.From.b13, b14 := q5.fst.From.b14, b15 := q5.fst.From.b15 }, To := { b0 := q5.fst.To.b0, b1 := q5.fst.To.b1, b2 := q5.fst.To.b2, b3 := q5.fst.To.b3, b4 := q5.fst.To.b4, b5 := q5.fst.To.b5, b6 := q5.fst.To.b6, b7 := q5.fst.To.b7, b8 := q5.fst.To.b8, b9 := q5.fst.To.b9, b10 := q5.fst.To.b10, b11 := q5.fst.To.b11, b12 := q5.fst.To.b12, b13 := q5.fst.To.b13, b14 := q5.fst.To.b14, b15 := q5.fst.To.b15 }, Exts := (q5.fst.Exts.fst, 2, q5.fst.Exts.snd.snd), Frag := q5.fst.Frag, Id := q5.fst.Id, At := q5.fst.At, More := q5.fst.More, Proto := q5.fst.Proto, Data := q5.fst.Data }) ({ Class := q8.fst.Class, Flow := q8.fst.Flow, Hop := q8.fst.Hop, From := { b0 := q8.fst.From.b0, b1 := q8.fst.From.b1, b2 := q8.fst.From.b2, b3 := q8.fst.From.b3, b4 := q8.fst.From.b4, b5 := q8.fst.From.b5, b6 := q8.fst.From.b6, b7 := q8.fst.From.b7, b8 := q8.fst.From.b8, b9 := q8.fst.From.b9, b10 := q8.fst.From.b10, b11 := q8.fst.From.b11, b12 := q8.fst.From.b12, b13 := q8.fst.From.b13, b14 := q8.fst.From.b14, b15 := q8.fst.From.b15 }, To := { b0 := q8.fst.To.b0, b1 := q8.fst.To.b1, b2 := q8.fst.To.b2, b3 := q8.fst.To.b3, b4 := q8.fst.To.b4, b5 := q8.fst.To.b5, b6 := q8.fst.To.b6, b7 := q8.fst.To.b7, b8 := q8.fst.To.b8, b9 := q8.fst.To.b9, b10 := q8.fst.To.b10, b11 := q8.fst.To.b11, b12 := q8.fst.To.b12, b13 := q8.fst.To.b13, b14 := q8.fst.To.b14, b15 := q8.fst.To.b15 }, Exts := (q8.fst.Exts.fst, 2, q8.fst.Exts.snd.snd), Frag := q8.fst.Frag, Id := q8.fst.Id, At := q8.fst.At, More := q8.fst.More, Proto := q8.fst.Proto, Data := q8.fst.Data })) fun q10 =>
              bif q10 then
                bif q5.snd.fst == q8.snd.fst then
                  Option.bind (
                    bif q8.snd.snd.fst == 0 then
                      some (false)
                    else
                      bif c6 == q8.snd.snd.fst then
                        some (p6 == 0)
                      else
                        some (false)) fun q11 =>
                  some (q11)
                else
                  some (false)
              else
                some (false)
            else
              some (false)
          else
            some (false)
        else
          some (false)
theorem F5_ev : ∀ a, evTop Try.prog ⟨[d13, d14, d15, d17, d18, d19, d20], inl_keeps5, keepIn keeps5, []⟩ 6 5 (CodL.val (CodL.cons Cod.str CodL.nil) a) (fun v => Cod.dec Cod.bool v some) = (fun a => F5 a.1) a := by
  intro a; kernel_rfl
noncomputable def d5 : Ctr Try.prog := Ctr.ofF 5 (CodL.cons Cod.str CodL.nil) Cod.bool (fun a => F5 a.1) (pcalls_of_ev mix noLoops F5_ev)

end Go.Rx.L15F
