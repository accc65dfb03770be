/- What the reference's packets of IPv6 are as bytes: interpreterref04.Bytes, told in Lean. -/
import Derived.Test.YteahnnchfegknaaL15q
import Derived.Test.YteahnnchfegknaaRxTop
set_option linter.unusedVariables false
set_option linter.unusedSimpArgs false
set_option maxRecDepth 100000
set_option maxHeartbeats 0
namespace Go.Rx.L15F
open Go.Proofs Go.Rx

abbrev P59 (G : Ip6 → Option Int) : Prop := ∀ (a : Ip6 × Unit) (b : Int), G a.1 = some b → PCalls Try.prog 59 (l59.val a) ((Cod.int .i64).val b)
noncomputable def C23 {G59 : Ip6 → Option Int} (h59 : P59 G59) : Cfg Try.prog := ⟨[Ctr.ofF 59 l59 (Cod.int .i64) (fun a => G59 a.1) h59, d60], [], fun _ _ => ⟨[1, 2, 3, 5, 6, 7, 8, 10, 11, 12], []⟩, []⟩
/-- The extensions' bytes, behind s. -/
def body23 {R : Type} : List UInt8 → List Ext1 → List Int → (List UInt8 → Option R) → Option R
  | s, e :: l, n :: ns, K => gd (catOk s [tb n]) <| gd (catOk (s ++ [tb n]) [tb (IntKind.i64.wrap (IntKind.i64.wrap ((IntKind.i64.wrap ((e.2.length : Int) + 2)).tdiv 8) - 1))]) <|
    gd (catOk (s ++ [tb n] ++ [tb (IntKind.i64.wrap (IntKind.i64.wrap ((IntKind.i64.wrap ((e.2.length : Int) + 2)).tdiv 8) - 1))]) e.2) <|
    body23 (s ++ [tb n] ++ [tb (IntKind.i64.wrap (IntKind.i64.wrap ((IntKind.i64.wrap ((e.2.length : Int) + 2)).tdiv 8) - 1))] ++ e.2) l ns K
  | s, _, _, K => K s
def nexts23 : List Ext1 → List Int → List Int
  | [], r => r
  | e :: l, r => e.1 :: nexts23 l r
def head23 {α : Type} (d : α) : List α → α
  | [] => d
  | x :: _ => x
def tail23 {α : Type} : List α → List α
  | [] => []
  | _ :: l => l
def p4 (x : Int) : List UInt8 := [tb (td (td (td x))), tb (td (td x)), tb (td x), tb x]
def p2 (x : Int) : List UInt8 := [tb (td x), tb x]
def head23b (a : Ip6) (next len : Int) : List UInt8 :=
  p4 (IntKind.i64.wrap (IntKind.i64.wrap (1610612736 + IntKind.i64.wrap (a.Class * 1048576)) + a.Flow)) ++ p2 len ++ [tb next] ++ [tb a.Hop] ++ a.From.bytes ++ a.To.bytes
def end23 (a : Ip6) (next : Int) (s : List UInt8) : Option (List UInt8 × Int × Unit) :=
  gd (catOk s a.Data) <| gd (catOk (head23b a next ((s ++ a.Data).length : Int)) (s ++ a.Data)) <| some (head23b a next ((s ++ a.Data).length : Int) ++ (s ++ a.Data), 0, ())
def frag23 (a : Ip6) (at_ : Int) (next : Int) (s : List UInt8) : Option (List UInt8 × Int × Unit) :=
  gd (catOk s [tb a.Proto]) <| gd (catOk (s ++ [tb a.Proto]) [tb 0]) <| gd (catOk (s ++ [tb a.Proto] ++ [tb 0]) (p2 at_)) <| gd (catOk (s ++ [tb a.Proto] ++ [tb 0] ++ p2 at_) (p4 (IntKind.i64.wrap a.Id))) <|
  end23 a next (s ++ [tb a.Proto] ++ [tb 0] ++ p2 at_ ++ p4 (IntKind.i64.wrap a.Id))
def rest23 (a : Ip6) (next : Int) (s : List UInt8) : Option (List UInt8 × Int × Unit) :=
  bif a.Frag then (bif a.More then frag23 a (IntKind.i64.wrap (a.At + 1)) next s else frag23 a a.At next s) else end23 a next s
def bytes23 (a : Ip6) (es : List Ext1) : Option (List UInt8 × Int × Unit) :=
  bif a.Frag then body23 [] es (tail23 (nexts23 es [44, a.Proto])) fun s => rest23 a (head23 0 (nexts23 es [44, a.Proto])) s
  else body23 [] es (tail23 (nexts23 es [a.Proto])) fun s => rest23 a (head23 0 (nexts23 es [a.Proto])) s
abbrev r23 := Cod.tup (CodL.cons Cod.str (CodL.cons (Cod.int .i64) CodL.nil))
noncomputable def ev23 {G59 : Ip6 → Option Int} (h59 : P59 G59) (a : Ip6) (nil : Bool) (es : List Ext1) (u : Unit) : Option (List UInt8 × Int × Unit) := evIn Try.prog (C23 h59) 7 23 (l59.val (withN a nil es, u)) (fun v => r23.dec v some)
def T23 (G59 : Ip6 → Option Int) (a : Ip6) (nil : Bool) (es : List Ext1) : Option (List UInt8 × Int × Unit) := (G59 (withN a nil es)).bind fun w => bif !(w == 0) then some ([], w, ()) else bytes23 a es
theorem ev23_nil {G59 : Ip6 → Option Int} (h59 : P59 G59) (a : Ip6) (u : Unit) : ev23 h59 a true [] u = T23 G59 a true [] := by kernel_rfl
theorem ev23_0 {G59 : Ip6 → Option Int} (h59 : P59 G59) (a : Ip6) (u : Unit) : ev23 h59 a false [] u = T23 G59 a false [] := by kernel_rfl
theorem ev23_1 {G59 : Ip6 → Option Int} (h59 : P59 G59) (a : Ip6) (e0 : Ext1) (u : Unit) : ev23 h59 a false [e0] u = T23 G59 a false [e0] := by kernel_rfl
theorem ev23_2 {G59 : Ip6 → Option Int} (h59 : P59 G59) (a : Ip6) (e0 e1 : Ext1) (u : Unit) : ev23 h59 a false [e0, e1] u = T23 G59 a false [e0, e1] := by kernel_rfl
theorem ev23_3 {G59 : Ip6 → Option Int} (h59 : P59 G59) (a : Ip6) (e0 e1 e2 : Ext1) (u : Unit) : ev23 h59 a false [e0, e1, e2] u = T23 G59 a false [e0, e1, e2] := by kernel_rfl
theorem ev23_4 {G59 : Ip6 → Option Int} (h59 : P59 G59) (a : Ip6) (e0 e1 e2 e3 : Ext1) (u : Unit) : ev23 h59 a false [e0, e1, e2, e3] u = T23 G59 a false [e0, e1, e2, e3] := by kernel_rfl
theorem ev23_5 {G59 : Ip6 → Option Int} (h59 : P59 G59) (a : Ip6) (e0 e1 e2 e3 e4 : Ext1) (u : Unit) : ev23 h59 a false [e0, e1, e2, e3, e4] u = T23 G59 a false [e0, e1, e2, e3, e4] := by kernel_rfl
end Go.Rx.L15F
