/- The functions that the statements of this seat reach, each by the contract that its evaluation gives; strings.Repeat by the contract of the kit. No condition. -/
import Derived.Test.YteahnnchfegknaaRxCtr
import Derived.Test.YteahnnchfegknaaProg
set_option linter.unusedVariables false
namespace Go.Proofs
open Go.Shelf Go.RowKit
set_option maxRecDepth 100000

def Try.lays105_ren : Go.Shelf.Ren := ⟨fun x => match x with | 105 => 34 | 212 => 75 | 99 => 76 | 165 => 77 | 166 => 78 | 170 => 79 | 169 => 80 | 263 => 106 | 264 => 107 | 206 => 108 | 240 => 109 | 241 => 110 | 276 => 121 | 277 => 122 | n => n,
  fun x => match x with | 9 => 9 | 3 => 3 | 4 => 4 | 20 => 20 | 0 => 0 | 46 => 61 | 109 => 128 | 5 => 5 | 72 => 133 | 76 => 109 | 51 => 31 | 146 => 165 | 53 => 167 | 148 => 168 | 70 => 131 | 37 => 84 | 75 => 35 | 127 => 170 | 164 => 176 | 80 => 137 | n => n, fun n => n⟩
theorem Try.lays105 : Lays.n105 Try.prog Try.lays105_ren where
  mixed := by kernel_rfl
  f99 := Try.func76.trans (congrArg some (by kernel_rfl))
  f105 := Try.func34.trans (congrArg some (by kernel_rfl))
  f165 := Try.func77.trans (congrArg some (by kernel_rfl))
  f166 := Try.func78.trans (congrArg some (by kernel_rfl))
  f169 := Try.func80.trans (congrArg some (by kernel_rfl))
  f170 := Try.func79.trans (congrArg some (by kernel_rfl))
  f206 := Try.func108.trans (congrArg some (by kernel_rfl))
  f212 := Try.func75.trans (congrArg some (by kernel_rfl))
  f240 := Try.func109.trans (congrArg some (by kernel_rfl))
  f241 := Try.func110.trans (congrArg some (by kernel_rfl))
  f263 := Try.func106.trans (congrArg some (by kernel_rfl))
  f264 := Try.func107.trans (congrArg some (by kernel_rfl))
  f276 := Try.func121.trans (congrArg some (by kernel_rfl))
  f277 := Try.func122.trans (congrArg some (by kernel_rfl))
  t0 := Try.underlying0
  a0 := Try.isAgg0
  z0 := Try.sizeOf0
  v0 := Try.zeroValue0
  t3 := Try.underlying3
  a3 := Try.isAgg3
  z3 := Try.sizeOf3
  v3 := Try.zeroValue3
  t4 := Try.underlying4
  a4 := Try.isAgg4
  z4 := Try.sizeOf4
  v4 := Try.zeroValue4
  t5 := Try.underlying5
  a5 := Try.isAgg5
  z5 := Try.sizeOf5
  v5 := Try.zeroValue5
  t9 := Try.underlying9
  a9 := Try.isAgg9
  z9 := Try.sizeOf9
  v9 := Try.zeroValue9
  t20 := Try.underlying20
  a20 := Try.isAgg20
  z20 := Try.sizeOf20
  v20 := Try.zeroValue20
  t37 := Try.underlying84
  a37 := Try.isAgg84
  z37 := Try.sizeOf84
  v37 := Try.zeroValue84
  t46 := Try.underlying61
  a46 := Try.isAgg61
  z46 := Try.sizeOf61
  v46 := Try.zeroValue61
  t51 := Try.underlying31
  a51 := Try.isAgg31
  z51 := Try.sizeOf31
  v51 := Try.zeroValue31
  t53 := Try.underlying167
  a53 := Try.isAgg167
  z53 := Try.sizeOf167
  v53 := Try.zeroValue167
  t70 := Try.underlying131
  a70 := Try.isAgg131
  z70 := Try.sizeOf131
  v70 := Try.zeroValue131
  t72 := Try.underlying133
  a72 := Try.isAgg133
  z72 := Try.sizeOf133
  v72 := Try.zeroValue133
  t75 := Try.underlying35
  a75 := Try.isAgg35
  z75 := Try.sizeOf35
  v75 := Try.zeroValue35
  t76 := Try.underlying109
  a76 := Try.isAgg109
  z76 := Try.sizeOf109
  v76 := Try.zeroValue109
  t109 := Try.underlying128
  a109 := Try.isAgg128
  z109 := Try.sizeOf128
  v109 := Try.zeroValue128
  t127 := Try.underlying170
  a127 := Try.isAgg170
  z127 := Try.sizeOf170
  v127 := Try.zeroValue170
  t146 := Try.underlying165
  a146 := Try.isAgg165
  z146 := Try.sizeOf165
  v146 := Try.zeroValue165
  t148 := Try.underlying168
  a148 := Try.isAgg168
  z148 := Try.sizeOf168
  v148 := Try.zeroValue168
  t164 := Try.underlying176
  a164 := Try.isAgg176
  z164 := Try.sizeOf176
  v164 := Try.zeroValue176

theorem Try.extra105 : Builder.Extra Try.prog Try.lays105_ren where
  sizeBuilder := by kernel_rfl
  liesBuilder := by kernel_rfl
  t5 := Try.lays105.t5
  a5 := Try.lays105.a5
  z5 := Try.lays105.z5
  v5 := Try.lays105.v5
  infoByte := by kernel_rfl
  cellsByte := by kernel_rfl
  sizeByte := by kernel_rfl
  neB5 := by decide
end Go.Proofs
namespace Go.Rx.L15
open Go.Proofs Go.Rx
theorem mix : Try.prog.follows .mixedOrders = true := by kernel_rfl
theorem repeatLaw (s : ByteArray) (c : Nat) (w : World) (hc : c ≤ 9223372036854775807) (hlen : s.size * c ≤ 140737488355328) :
    Calls Try.prog 34 #[.string s, .int .i64 c] w fun e w' => e = .returned (.string ⟨(Lib.repeatL s.data.toList c).toArray⟩) ∧ Go.RowKit.Below w.heap.size w w' :=
  Any.strings_Repeat Try.lays105 Try.extra105 s c w hc hlen
def keeps : List (Nat × Nat × List Nat) := [(11, 17, [1, 8, 10]), (11, 13, [1, 8, 9]), (34, 38, [7, 8, 9]), (45, 19, [0, 2, 4, 7, 8, 9]), (47, 2, [0, 4, 7, 8, 9]), (57, 3, [3, 4, 7, 8, 9]), (82, 6, [3]), (82, 3, [0, 3, 4]), (83, 5, [0, 3, 4]), (84, 7, [0, 1, 6, 37, 38]), (89, 4, [6, 7, 8, 9]), (92, 1, [0]), (93, 2, [0, 1, 2, 3, 12, 13]), (96, 2, [2, 5, 6, 7]), (112, 12, [0, 1, 6, 7])]
def keepIn : List (Nat × Nat × List Nat) → Nat → Nat → Keep
  | [], _, _ => ⟨[], []⟩
  | e :: l, f, k => bif Nat.beq e.1 f && Nat.beq e.2.1 k then ⟨e.2.2, e.2.2⟩ else keepIn l f k
def inl : List FuncId := [89, 112]
noncomputable def c34 : Ctr Try.prog := repeatCtr 34 repeatLaw
/-- interpreter/interpreterlaw15.gram -/
noncomputable def c10 : Ctr Try.prog := Ctr.ev mix [c34] inl (keepIn keeps) 6 10
/-- interpreter/interpreterref03.within -/
noncomputable def c81 : Ctr Try.prog := Ctr.ev mix [] inl (keepIn keeps) 6 81
/-- interpreter/interpreterref03.Why -/
noncomputable def c35 : Ctr Try.prog := Ctr.ev mix [c81] inl (keepIn keeps) 6 35
/-- interpreter/interpreterref02.Total -/
noncomputable def c82 : Ctr Try.prog := Ctr.ev mix [] inl (keepIn keeps) 6 82
/-- interpreter/interpreterref02.Words -/
noncomputable def c83 : Ctr Try.prog := Ctr.ev mix [] inl (keepIn keeps) 6 83
/-- interpreter/interpreterref02.Of -/
noncomputable def c36 : Ctr Try.prog := Ctr.ev mix [c82, c83] inl (keepIn keeps) 6 36
/-- interpreter/interpreterref03.Bytes -/
noncomputable def c11 : Ctr Try.prog := Ctr.ev mix [c35, c36] inl (keepIn keeps) 6 11
/-- interpreter/sum.fold -/
noncomputable def c92 : Ctr Try.prog := Ctr.ev mix [] inl (keepIn keeps) 6 92
/-- interpreter/sum.add -/
noncomputable def c93 : Ctr Try.prog := Ctr.ev mix [] inl (keepIn keeps) 6 93
/-- interpreter/sum.Of -/
noncomputable def c57 : Ctr Try.prog := Ctr.ev mix [c92, c93] inl (keepIn keeps) 6 57
/-- interpreter/sum.Right -/
noncomputable def c42 : Ctr Try.prog := Ctr.ev mix [c57] inl (keepIn keeps) 6 42
/-- interpreter/ip4.fault -/
noncomputable def c61 : Ctr Try.prog := Ctr.ev mix [] inl (keepIn keeps) 6 61
/-- interpreter/ip4.Parse$1 -/
noncomputable def c62 : Ctr Try.prog := Ctr.ev mix [] inl (keepIn keeps) 6 62
/-- interpreter/ip4.byteful -/
noncomputable def c96 : Ctr Try.prog := Ctr.ev mix [] inl (keepIn keeps) 6 96
/-- interpreter/ip4.why -/
noncomputable def c63 : Ctr Try.prog := Ctr.ev mix [c96] inl (keepIn keeps) 6 63
/-- interpreter/ip4.Parse -/
noncomputable def c24 : Ctr Try.prog := Ctr.ev mix [c42, c61, c62, c63] inl (keepIn keeps) 6 24
/-- interpreter/icmp4.Failure -/
noncomputable def c32 : Ctr Try.prog := Ctr.ev mix [] inl (keepIn keeps) 6 32
/-- interpreter/class.Martian4 -/
noncomputable def c37 : Ctr Try.prog := Ctr.ev mix [] inl (keepIn keeps) 6 37
/-- interpreter/fault.beginning -/
noncomputable def c38 : Ctr Try.prog := Ctr.ev mix [] inl (keepIn keeps) 6 38
/-- interpreter/num.Big -/
noncomputable def c84 : Ctr Try.prog := Ctr.ev mix [] inl (keepIn keeps) 6 84
/-- interpreter/icmp4.Bytes -/
noncomputable def c39 : Ctr Try.prog := Ctr.ev mix [c57, c84] inl (keepIn keeps) 6 39
/-- interpreter/ip4.big -/
noncomputable def c85 : Ctr Try.prog := Ctr.ev mix [c84] inl (keepIn keeps) 6 85
/-- interpreter/ip4.Bytes -/
noncomputable def c40 : Ctr Try.prog := Ctr.ev mix [c57, c61, c63, c85] inl (keepIn keeps) 6 40
/-- interpreter/fault.Own4 -/
noncomputable def c12 : Ctr Try.prog := Ctr.ev mix [c24, c32, c37, c38, c39, c40] inl (keepIn keeps) 6 12
/-- interpreter/fault.fault -/
noncomputable def c41 : Ctr Try.prog := Ctr.ev mix [] inl (keepIn keeps) 6 41
/-- interpreter/fault.Inside4$1 -/
noncomputable def c43 : Ctr Try.prog := Ctr.ev mix [] inl (keepIn keeps) 6 43
/-- interpreter/fault.short -/
noncomputable def c44 : Ctr Try.prog := Ctr.ev mix [] inl (keepIn keeps) 6 44
/-- interpreter/fault.Inside4 -/
noncomputable def c13 : Ctr Try.prog := Ctr.ev mix [c41, c42, c43, c44] inl (keepIn keeps) 6 13
/-- interpreter/head46.Proto -/
noncomputable def c46 : Ctr Try.prog := Ctr.ev mix [] inl (keepIn keeps) 6 46
/-- interpreter/fault.within -/
noncomputable def c47 : Ctr Try.prog := Ctr.ev mix [] inl (keepIn keeps) 6 47
/-- interpreter/fault.big -/
noncomputable def c48 : Ctr Try.prog := Ctr.ev mix [c84] inl (keepIn keeps) 6 48
/-- interpreter/sum.big -/
noncomputable def c72 : Ctr Try.prog := Ctr.ev mix [c84] inl (keepIn keeps) 6 72
/-- interpreter/sum.Pseudo6 -/
noncomputable def c29 : Ctr Try.prog := Ctr.ev mix [c72] inl (keepIn keeps) 6 29
/-- interpreter/sum.even -/
noncomputable def c125 : Ctr Try.prog := Ctr.ev mix [] inl (keepIn keeps) 6 125
/-- interpreter/sum.Update -/
noncomputable def c123 : Ctr Try.prog := Ctr.ev mix [c92, c93, c125] inl (keepIn keeps) 6 123
/-- interpreter/fault.update -/
noncomputable def c111 : Ctr Try.prog := Ctr.ev mix [c48, c123] inl (keepIn keeps) 6 111
/-- interpreter/fault.ported -/
noncomputable def c87 : Ctr Try.prog := Ctr.ev mix [c48, c111] inl (keepIn keeps) 6 87
/-- interpreter/fault.echoed -/
noncomputable def c88 : Ctr Try.prog := Ctr.ev mix [c48, c111] inl (keepIn keeps) 6 88
/-- interpreter/fault.turn6 -/
noncomputable def c49 : Ctr Try.prog := Ctr.ev mix [c29, c87, c88] inl (keepIn keeps) 6 49
/-- interpreter/fault.Quote6 -/
noncomputable def c16 : Ctr Try.prog := Ctr.ev mix [c41, c46, c47, c48, c49] inl (keepIn keeps) 6 16
/-- interpreter/interpreterref03.number -/
noncomputable def c86 : Ctr Try.prog := Ctr.ev mix [] inl (keepIn keeps) 6 86
/-- interpreter/interpreterref03.Parse -/
noncomputable def c45 : Ctr Try.prog := Ctr.ev mix [c35, c36, c86] inl (keepIn keeps) 6 45
/-- interpreter/interpreterlaw15.awake -/
noncomputable def c14 : Ctr Try.prog := Ctr.ev mix [c10, c11, c12, c13, c16, c45] inl (keepIn keeps) 6 14
/-- interpreter/interpreterlaw15.same -/
noncomputable def c15 : Ctr Try.prog := Ctr.ev mix [] inl (keepIn keeps) 6 15
/-- interpreter/interpreterlaw15.FaultKnown -/
noncomputable def c3 : Ctr Try.prog := Ctr.ev mix [c10, c11, c12, c13, c14, c15] inl (keepIn keeps) 6 3
end Go.Rx.L15
