/- The fold of a sum, told in Lean. -/
import Derived.Test.YteahnnchfegknaaRxCod
import Derived.Test.YteahnnchfegknaaL15b
set_option linter.unusedVariables false
namespace Go.Rx.L15F
open Go.Proofs Go.Rx
set_option maxRecDepth 100000
theorem mix : Try.prog.follows .mixedOrders = true := Go.Rx.L15.mix

def fold : Nat → Int → Option Int
  | 0, _ => none
  | k + 1, n => bif ltI 65535 n then fold k (IntKind.i64.wrap (n.fdiv 65536 + iand .i64 n 65535)) else some n

noncomputable def Cl : Cfg Try.prog := ⟨[], [], fun _ _ => ⟨[0], [0]⟩, []⟩

theorem fold_step {R : Type} (k : Nat) (n : Int) (K : Exit → St → Option R) :
    loopIt (evC Try.prog Cl (evF Try.prog Cl 6) 92 true (tmpsIn Try.prog 92) (loopAt Try.prog 92 1)) (trimK true ⟨[0], [0]⟩) (k + 1) ⟨[(0, some (.int .i64 n))], []⟩ K =
      bif ltI 65535 n then loopIt (evC Try.prog Cl (evF Try.prog Cl 6) 92 true (tmpsIn Try.prog 92) (loopAt Try.prog 92 1)) (trimK true ⟨[0], [0]⟩) k ⟨[(0, some (.int .i64 (IntKind.i64.wrap (n.fdiv 65536 + iand .i64 n 65535))))], []⟩ K
      else K (.exit 0) ⟨[(0, some (.int .i64 n))], []⟩ := by kernel_rfl

theorem fold_loop {R : Type} : ∀ (k : Nat) (n : Int) (K : Exit → St → Option R),
    loopIt (evC Try.prog Cl (evF Try.prog Cl 6) 92 true (tmpsIn Try.prog 92) (loopAt Try.prog 92 1)) (trimK true ⟨[0], [0]⟩) k ⟨[(0, some (.int .i64 n))], []⟩ K = (fold k n).bind fun m => K (.exit 0) ⟨[(0, some (.int .i64 m))], []⟩
  | 0, n, K => rfl
  | k + 1, n, K => by
    rw [fold_step, fold_loop k, show fold (k + 1) n = (bif ltI 65535 n then fold k (IntKind.i64.wrap (n.fdiv 65536 + iand .i64 n 65535)) else some n) from rfl]
    cases ltI 65535 n <;> rfl

noncomputable def loop92 : LoopCtr Try.prog := LoopCtr.of mix Cl 6 92 1 (tmpsIn Try.prog 92) ⟨[0], [0]⟩ (loopAt Try.prog 92 1) (fun _ _ _ h => absurd h List.not_mem_nil)
  (fun vs m K => match vs, m with
    | [some (.int .i64 n)], [] => (fold loopFuel n).bind fun m => K (.exit 0) ⟨[(0, some (.int .i64 m))], []⟩
    | _, _ => none)
  (by
    intro R vs m K r h
    split at h
    · rw [← fold_loop] at h; exact h
    · cases h)

def F92 (n : Int) : Option Int := fold loopFuel n

theorem F92_ev : ∀ a, evTop Try.prog ⟨[], [], fun _ _ => ⟨[0], [0]⟩, [loop92]⟩ 6 92 (CodL.val (CodL.cons (Cod.int .i64) CodL.nil) a) (fun v => Cod.dec (Cod.int .i64) v some) = (F92 a.1).bind some := by
  intro a; kernel_rfl

noncomputable def d92 : Ctr Try.prog := Ctr.ofF 92 (CodL.cons (Cod.int .i64) CodL.nil) (Cod.int .i64) (fun a => F92 a.1)
  (pcalls_of_ev (C := ⟨[], [], fun _ _ => ⟨[0], [0]⟩, [loop92]⟩) (d := 6) mix (loopsOk_of (by
    have h : loopsOf (bodyIn Try.prog 92) = [loopAt Try.prog 92 1] := by kernel_rfl
    intro b hb q hq _ _
    rw [h] at hb
    rw [List.mem_singleton.1 hb, List.mem_singleton.1 hq]
    rfl)) (fun a => by rw [F92_ev]; cases F92 a.1 <;> rfl))

/-- The words of a text, added up: n: the total so far; at: the place of the text's begin; i: the next byte. -/
def addL : Nat → Int → Int → List UInt8 → Int → Int → Int → Option (Int × Int)
  | 0, _, _, _, _, _, _ => none
  | k + 1, n, at_, s, turn, len, i => bif ltI i len then
      gd (inB i s.length) (bif (IntKind.i64.wrap (at_ + i)).tmod 2 == 0 then
        addL k (IntKind.i64.wrap (n + IntKind.i64.wrap (IntKind.i64.wrap (ixor .u8 (bt s i) turn) * 256))) at_ s turn len (IntKind.i64.wrap (i + 1))
      else addL k (IntKind.i64.wrap (n + IntKind.i64.wrap (ixor .u8 (bt s i) turn))) at_ s turn len (IntKind.i64.wrap (i + 1)))
    else some (n, i)

def keep93 : Keep := ⟨[0, 1, 2, 3, 12, 13], [0, 1, 2, 3, 12, 13]⟩
def st93 (n at_ : Int) (s : List UInt8) (turn len i : Int) : St := ⟨[(0, some (.int .i64 n)), (1, some (.int .i64 at_)), (2, some (.str s)), (3, some (.int .u8 turn)), (12, some (.int .i64 len)), (13, some (.int .i64 i))], []⟩
noncomputable def Cl3 : Cfg Try.prog := ⟨[], [], fun _ _ => keep93, []⟩

theorem add_step {R : Type} (k : Nat) (n at_ : Int) (s : List UInt8) (turn len i : Int) (K : Exit → St → Option R) :
    loopIt (evC Try.prog Cl3 (evF Try.prog Cl3 6) 93 true (tmpsIn Try.prog 93) (loopAt Try.prog 93 2)) (trimK true keep93) (k + 1) (st93 n at_ s turn len i) K =
      bif ltI i len then gd (inB i s.length) (bif (IntKind.i64.wrap (at_ + i)).tmod 2 == 0 then
        loopIt (evC Try.prog Cl3 (evF Try.prog Cl3 6) 93 true (tmpsIn Try.prog 93) (loopAt Try.prog 93 2)) (trimK true keep93) k (st93 (IntKind.i64.wrap (n + IntKind.i64.wrap (IntKind.i64.wrap (ixor .u8 (bt s i) turn) * 256))) at_ s turn len (IntKind.i64.wrap (i + 1))) K
      else loopIt (evC Try.prog Cl3 (evF Try.prog Cl3 6) 93 true (tmpsIn Try.prog 93) (loopAt Try.prog 93 2)) (trimK true keep93) k (st93 (IntKind.i64.wrap (n + IntKind.i64.wrap (ixor .u8 (bt s i) turn))) at_ s turn len (IntKind.i64.wrap (i + 1))) K)
      else K (.exit 0) (st93 n at_ s turn len i) := by kernel_rfl

theorem add_loop {R : Type} : ∀ (k : Nat) (n at_ : Int) (s : List UInt8) (turn len i : Int) (K : Exit → St → Option R),
    loopIt (evC Try.prog Cl3 (evF Try.prog Cl3 6) 93 true (tmpsIn Try.prog 93) (loopAt Try.prog 93 2)) (trimK true keep93) k (st93 n at_ s turn len i) K =
      (addL k n at_ s turn len i).bind fun p => K (.exit 0) (st93 p.1 at_ s turn len p.2)
  | 0, n, at_, s, turn, len, i, K => rfl
  | k + 1, n, at_, s, turn, len, i, K => by
    rw [add_step, add_loop k, add_loop k]
    rw [show addL (k + 1) n at_ s turn len i = (bif ltI i len then
      gd (inB i s.length) (bif (IntKind.i64.wrap (at_ + i)).tmod 2 == 0 then
        addL k (IntKind.i64.wrap (n + IntKind.i64.wrap (IntKind.i64.wrap (ixor .u8 (bt s i) turn) * 256))) at_ s turn len (IntKind.i64.wrap (i + 1))
      else addL k (IntKind.i64.wrap (n + IntKind.i64.wrap (ixor .u8 (bt s i) turn))) at_ s turn len (IntKind.i64.wrap (i + 1))) else some (n, i)) from rfl]
    cases ltI i len with
    | false => rfl
    | true =>
      rw [cond_true, cond_true, gd_nat]
      cases (IntKind.i64.wrap (at_ + i)).tmod 2 == 0 <;> rfl

noncomputable def loop93 : LoopCtr Try.prog := LoopCtr.of mix Cl3 6 93 2 (tmpsIn Try.prog 93) keep93 (loopAt Try.prog 93 2) (fun _ _ _ h => absurd h List.not_mem_nil)
  (fun vs m K => match vs, m with
    | [some (.int .i64 n), some (.int .i64 at_), some (.str s), some (.int .u8 turn), some (.int .i64 len), some (.int .i64 i)], [] => (addL loopFuel n at_ s turn len i).bind fun p => K (.exit 0) (st93 p.1 at_ s turn len p.2)
    | _, _ => none)
  (by
    intro R vs m K r h
    split at h
    · rw [← add_loop] at h; exact h
    · cases h)

def F93 (n : Int) (at_ : Int) (s : List UInt8) (turn : Int) : Option Int := (addL loopFuel n at_ s turn s.length 0).bind fun p => some p.1

theorem F93_ev : ∀ a, evTop Try.prog ⟨[], [], fun _ _ => keep93, [loop93]⟩ 6 93 (CodL.val (CodL.cons (Cod.int .i64) (CodL.cons (Cod.int .i64) (CodL.cons Cod.str (CodL.cons (Cod.int .u8) CodL.nil)))) a) (fun v => Cod.dec (Cod.int .i64) v some) = F93 a.1 a.2.1 a.2.2.1 a.2.2.2.1 := by
  intro a; kernel_rfl

noncomputable def d93 : Ctr Try.prog := Ctr.ofF 93 (CodL.cons (Cod.int .i64) (CodL.cons (Cod.int .i64) (CodL.cons Cod.str (CodL.cons (Cod.int .u8) CodL.nil)))) (Cod.int .i64) (fun a => F93 a.1 a.2.1 a.2.2.1 a.2.2.2.1)
  (pcalls_of_ev (C := ⟨[], [], fun _ _ => keep93, [loop93]⟩) (d := 6) mix (loopsOk_of (by
    have h : loopsOf (bodyIn Try.prog 93) = [loopAt Try.prog 93 2] := by kernel_rfl
    intro b hb q hq _ _
    rw [h] at hb
    rw [List.mem_singleton.1 hb, List.mem_singleton.1 hq]
    rfl)) F93_ev)

end Go.Rx.L15F
