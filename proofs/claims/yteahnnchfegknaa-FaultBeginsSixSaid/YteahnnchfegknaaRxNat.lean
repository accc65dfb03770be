/- What stands behind an operation may be put inside it. -/
import Derived.Test.YteahnnchfegknaaRxEv
set_option linter.unusedVariables false
set_option linter.unusedSimpArgs false
namespace Go.Rx

section
variable {R S : Type} {P : Program}

@[simp] theorem none_bind' (f : R → Option S) : (none : Option R).bind f = none := rfl
@[simp] theorem gd_nat (b : Bool) (k : Option R) (f : R → Option S) : (gd b k).bind f = gd b (k.bind f) := by cases b <;> rfl
theorem cond_nat (b : Bool) (x y : Option R) (f : R → Option S) : (bif b then x else y).bind f = bif b then x.bind f else y.bind f := by cases b <;> rfl
@[simp] theorem intK_nat (k : IntKind) (v : V) (K : Int → Option R) (f : R → Option S) : (intK k v K).bind f = intK k v fun n => (K n).bind f := by
  unfold intK; split <;> simp [cond_nat]
@[simp] theorem boolK_nat (v : V) (K : Bool → Option R) (f : R → Option S) : (boolK v K).bind f = boolK v fun n => (K n).bind f := by
  unfold boolK; split <;> rfl
@[simp] theorem strK_nat (v : V) (K : List UInt8 → Option R) (f : R → Option S) : (strK v K).bind f = strK v fun n => (K n).bind f := by
  unfold strK; split <;> rfl
@[simp] theorem islK_nat (n : Nat) (v : V) (K : Bool → List V → Option R) (f : R → Option S) : (islK n v K).bind f = islK n v fun n l => (K n l).bind f := by
  unfold islK; split <;> simp [cond_nat]
@[simp] theorem aggK_nat (v : V) (K : List V → Option R) (f : R → Option S) : (aggK v K).bind f = aggK v fun n => (K n).bind f := by
  unfold aggK; split <;> rfl
@[simp] theorem tupK_nat (v : V) (K : List V → Option R) (f : R → Option S) : (tupK v K).bind f = tupK v fun n => (K n).bind f := by
  unfold tupK; split <;> rfl
@[simp] theorem consK_nat (l : List V) (K : V → List V → Option R) (f : R → Option S) : (consK l K).bind f = consK l fun v l => (K v l).bind f := by
  unfold consK; split <;> rfl
@[simp] theorem nilK_nat (l : List V) (K : Option R) (f : R → Option S) : (nilK l K).bind f = nilK l (K.bind f) := by
  unfold nilK; split <;> rfl
@[simp] theorem valK_nat (v : Option V) (K : V → Option R) (f : R → Option S) : (valK v K).bind f = valK v fun v => (K v).bind f := by
  unfold valK; split <;> rfl
@[simp] theorem shape1_nat (k : LK) (v : V) (K : V → Option R) (f : R → Option S) : (shape1 k v K).bind f = shape1 k v fun v => (K v).bind f := by
  unfold shape1; (repeat' split) <;> simp
@[simp] theorem takeK_nat : ∀ (ks : List LK) (l : List V) (K : List V → Option R) (f : R → Option S), (takeK ks l K).bind f = takeK ks l fun c => (K c).bind f
  | [], l, K, f => rfl
  | k :: ks, l, K, f => by simp [takeK, takeK_nat ks]
@[simp] theorem varK_nat (t : TypeId) (l : List V) (K : V → Option R) (f : R → Option S) : (varK P t l K).bind f = varK P t l fun v => (K v).bind f := by
  unfold varK; split <;> simp [cond_nat]
@[simp] theorem loadK_nat (t : TypeId) (v : V) (m : Mem) (K : V → Option R) (f : R → Option S) : (loadK P t v m K).bind f = loadK P t v m fun v => (K v).bind f := by
  unfold loadK; (repeat' split) <;> simp
@[simp] theorem storeK_nat (t : TypeId) (v u : V) (m : Mem) (K : Mem → Option R) (f : R → Option S) : (storeK P t v u m K).bind f = storeK P t v u m fun m => (K m).bind f := by
  unfold storeK; (repeat' split) <;> simp
@[simp] theorem allocK_nat (t : TypeId) (m : Mem) (id : Nat) (K : V → Mem → Option R) (f : R → Option S) : (allocK P t m id K).bind f = allocK P t m id fun v m => (K v m).bind f := by
  unfold allocK; (repeat' split) <;> simp
@[simp] theorem boxK_nat (v : V) (m : Mem) (id : Nat) (K : V → Mem → Option R) (f : R → Option S) : (boxK v m id K).bind f = boxK v m id fun v m => (K v m).bind f := by
  unfold boxK; simp
@[simp] theorem buildK_nat (t : TypeId) (ps : List (Nat × V)) (K : V → Option R) (f : R → Option S) : (buildK P t ps K).bind f = buildK P t ps fun v => (K v).bind f := by
  unfold buildK; (repeat' split) <;> simp
@[simp] theorem buildSliceK_nat (t : TypeId) (len : Nat) (ps : List (Nat × V)) (m : Mem) (id : Nat) (K : V → Mem → Option R) (f : R → Option S) : (buildSliceK P t len ps m id K).bind f = buildSliceK P t len ps m id fun v m => (K v m).bind f := by
  unfold buildSliceK; (repeat' split) <;> simp
@[simp] theorem fieldAddrK_nat (s : TypeId) (v : V) (n : Nat) (K : V → Option R) (f : R → Option S) : (fieldAddrK P s v n K).bind f = fieldAddrK P s v n fun v => (K v).bind f := by
  unfold fieldAddrK; (repeat' split) <;> simp
@[simp] theorem fieldK_nat (s : TypeId) (v : V) (n : Nat) (K : V → Option R) (f : R → Option S) : (fieldK P s v n K).bind f = fieldK P s v n fun v => (K v).bind f := by
  unfold fieldK; (repeat' split) <;> simp
@[simp] theorem indexAddrK_nat (s : TypeId) (v i : V) (K : V → Option R) (f : R → Option S) : (indexAddrK P s v i K).bind f = indexAddrK P s v i fun v => (K v).bind f := by
  unfold indexAddrK; (repeat' split) <;> simp
@[simp] theorem indexK_nat (s : TypeId) (v i : V) (K : V → Option R) (f : R → Option S) : (indexK P s v i K).bind f = indexK P s v i fun v => (K v).bind f := by
  unfold indexK; (repeat' split) <;> simp
@[simp] theorem bndK_nat (v : Option V) (d : Int) (K : Int → Option R) (f : R → Option S) : (bndK v d K).bind f = bndK v d fun v => (K v).bind f := by
  unfold bndK; (repeat' split) <;> simp
@[simp] theorem sliceStrK_nat (s : List UInt8) (lo hi mx : Option V) (K : V → Option R) (f : R → Option S) : (sliceStrK s lo hi mx K).bind f = sliceStrK s lo hi mx fun v => (K v).bind f := by
  unfold sliceStrK; (repeat' split) <;> simp
@[simp] theorem sliceK_nat (t : TypeId) (v : V) (lo hi mx : Option V) (m : Mem) (K : V → Option R) (f : R → Option S) : (sliceK P t v lo hi mx m K).bind f = sliceK P t v lo hi mx m fun v => (K v).bind f := by
  unfold sliceK; (repeat' split) <;> simp
@[simp] theorem intBinK_nat (op : BinOp) (k : IntKind) (a b : Int) (K : V → Option R) (f : R → Option S) : (intBinK op k a b K).bind f = intBinK op k a b fun v => (K v).bind f := by
  cases op <;> simp [intBinK]
@[simp] theorem shiftK_nat (op : BinOp) (k : IntKind) (a b : Int) (K : V → Option R) (f : R → Option S) : (shiftK op k a b K).bind f = shiftK op k a b fun v => (K v).bind f := by
  cases op <;> simp [shiftK]
@[simp] theorem strBinK_nat (op : BinOp) (a b : List UInt8) (K : V → Option R) (f : R → Option S) : (strBinK op a b K).bind f = strBinK op a b fun v => (K v).bind f := by
  cases op <;> simp [strBinK]
@[simp] theorem binK_nat (op : BinOp) (t : TypeId) (cx cy : Bool) (x y : V) (K : V → Option R) (f : R → Option S) : (binK P op t cx cy x y K).bind f = binK P op t cx cy x y fun v => (K v).bind f := by
  unfold binK
  split
  · split <;> simp [cond_nat]
  · simp
  · rw [cond_nat]; congr 1; (repeat' split) <;> simp
  · rw [cond_nat]; congr 1; (repeat' split) <;> simp
  · rfl
  · rfl
  · (repeat' split) <;> simp
@[simp] theorem unK_nat (op : UnOp) (v : V) (K : V → Option R) (f : R → Option S) : (unK op v K).bind f = unK op v fun v => (K v).bind f := by
  unfold unK; split <;> rfl
@[simp] theorem bytesK_nat : ∀ (l : List V) (K : List UInt8 → Option R) (f : R → Option S), (bytesK l K).bind f = bytesK l fun v => (K v).bind f
  | [], K, f => rfl
  | v :: l, K, f => by simp [bytesK, bytesK_nat l]
@[simp] theorem convK_nat (s d : TypeId) (v : V) (m : Mem) (K : V → Option R) (f : R → Option S) : (convK P s d v m K).bind f = convK P s d v m fun v => (K v).bind f := by
  unfold convK; (repeat' split) <;> simp
@[simp] theorem mkIfaceK_nat (t : TypeId) (v : V) (K : V → Option R) (f : R → Option S) : (mkIfaceK P t v K).bind f = mkIfaceK P t v fun v => (K v).bind f := by
  unfold mkIfaceK; simp
@[simp] theorem extractK_nat (v : V) (i : Nat) (K : V → Option R) (f : R → Option S) : (extractK v i K).bind f = extractK v i fun v => (K v).bind f := by
  unfold extractK; rw [tupK_nat]; congr 1; funext l; split <;> rfl
@[simp] theorem assertK_nat (v : V) (t : TypeId) (ok : Bool) (K : V → Option R) (f : R → Option S) : (assertK P v t ok K).bind f = assertK P v t ok fun v => (K v).bind f := by
  unfold assertK
  rw [cond_nat]; congr 1
  split
  · rw [cond_nat]; congr 1; split <;> simp [cond_nat]
  · split <;> simp [cond_nat]
  · rfl
@[simp] theorem lenK_nat (t : TypeId) (v : V) (K : V → Option R) (f : R → Option S) : (lenK P t v K).bind f = lenK P t v fun v => (K v).bind f := by
  unfold lenK; (repeat' split) <;> simp
@[simp] theorem minK_nat (b : Bool) : ∀ (l : List V) (v : V) (K : V → Option R) (f : R → Option S), (minK b v l K).bind f = minK b v l fun v => (K v).bind f
  | [], v, K, f => rfl
  | u :: l, v, K, f => by unfold minK; split <;> simp [minK_nat b l]
@[simp] theorem copyK_nat (t : TypeId) (d s : V) (m : Mem) (K : V → Mem → Option R) (f : R → Option S) : (copyK P t d s m K).bind f = copyK P t d s m fun v m => (K v m).bind f := by
  unfold copyK; (repeat' split) <;> simp
@[simp] theorem srcK_nat (t : TypeId) (size : Nat) (x : V) (m : Mem) (K : Nat → List V → Option R) (f : R → Option S) : (srcK P t size x m K).bind f = srcK P t size x m fun n c => (K n c).bind f := by
  unfold srcK; (repeat' split) <;> simp
@[simp] theorem appendK_nat (t t' : TypeId) (v x : V) (m : Mem) (id : Nat) (K : V → Mem → Option R) (f : R → Option S) : (appendK P t t' v x m id K).bind f = appendK P t t' v x m id fun v m => (K v m).bind f := by
  unfold appendK
  (repeat' split) <;> simp [cond_nat]
@[simp] theorem makeSliceK_nat (t : TypeId) (v u : V) (m : Mem) (id : Nat) (K : V → Mem → Option R) (f : R → Option S) : (makeSliceK P t v u m id K).bind f = makeSliceK P t v u m id fun v m => (K v m).bind f := by
  unfold makeSliceK; (repeat' split) <;> simp
@[simp] theorem mapFindK_nat (k : IntKind) (n : Int) : ∀ (es : List (V × V)) (K : Option V → Option R) (f : R → Option S), (mapFindK k n es K).bind f = mapFindK k n es fun v => (K v).bind f
  | [], K, f => rfl
  | e :: es, K, f => by unfold mapFindK; rw [intK_nat]; congr 1; funext a; rw [cond_nat, mapFindK_nat k n es]
@[simp] theorem lookupK_nat (t : TypeId) (v u : V) (ok : Bool) (m : Mem) (K : V → Option R) (f : R → Option S) : (lookupK P t v u ok m K).bind f = lookupK P t v u ok m fun v => (K v).bind f := by
  unfold lookupK
  (repeat' split) <;> simp
  all_goals
    congr 1; funext n; congr 1; funext o
    cases o <;> rfl
@[simp] theorem insertK_nat (t : TypeId) (v u z : V) (m : Mem) (K : Mem → Option R) (f : R → Option S) : (insertK P t v u z m K).bind f = insertK P t v u z m fun m => (K m).bind f := by
  unfold insertK
  (repeat' split) <;> simp
  all_goals
    congr 1; funext n; congr 1; funext o
    cases o <;> rfl
@[simp] theorem valsK_nat (ρ : Operand → Option V) : ∀ (xs : List Operand) (K : List V → Option R) (f : R → Option S), (valsK ρ xs K).bind f = valsK ρ xs fun l => (K l).bind f
  | [], K, f => rfl
  | x :: xs, K, f => by simp [valsK, valsK_nat ρ xs]
@[simp] theorem partsK_nat (ρ : Operand → Option V) : ∀ (xs : List (Nat × Operand)) (K : List (Nat × V) → Option R) (f : R → Option S), (partsK ρ xs K).bind f = partsK ρ xs fun l => (K l).bind f
  | [], K, f => rfl
  | x :: xs, K, f => by simp [partsK, partsK_nat ρ xs]
@[simp] theorem optK_nat (ρ : Operand → Option V) (x : Option Operand) (K : Option V → Option R) (f : R → Option S) : (optK ρ x K).bind f = optK ρ x fun l => (K l).bind f := by
  unfold optK; split <;> simp
mutual
@[simp] theorem reifyK_nat (m : Mem) : ∀ (v : V) (K : V → Option R) (f : R → Option S), (reifyK m v K).bind f = reifyK m v fun v => (K v).bind f
  | .ptr id off, K, f => by unfold reifyK; split <;> simp
  | .sl id size off len cap, K, f => by unfold reifyK; split <;> simp
  | .map _, K, f => rfl
  | .fn g cap, K, f => by unfold reifyK; rw [reifyLK_nat m cap]
  | .iface t v, K, f => by unfold reifyK; rw [reifyK_nat m v]
  | .agg l, K, f => by unfold reifyK; rw [reifyLK_nat m l]
  | .tup l, K, f => by unfold reifyK; rw [reifyLK_nat m l]
  | .bool _, K, f => rfl
  | .int _ _, K, f => rfl
  | .str _, K, f => rfl
  | .nilp, K, f => rfl
  | .ibox _ _, K, f => rfl
  | .isl _ _ _, K, f => rfl
  | .nilm, K, f => rfl
  | .nilf, K, f => rfl
  | .nilI, K, f => rfl
@[simp] theorem reifyLK_nat (m : Mem) : ∀ (l : List V) (K : List V → Option R) (f : R → Option S), (reifyLK m l K).bind f = reifyLK m l fun v => (K v).bind f
  | [], K, f => rfl
  | v :: l, K, f => by
    unfold reifyLK
    rw [reifyK_nat m v]
    congr 1; funext v
    rw [reifyLK_nat m l]
end
@[simp] theorem argsK_nat (m : Mem) : ∀ (ts : List TypeId) (vs : List V) (K : Bool → List V → Option R) (f : R → Option S), (argsK P m ts vs K).bind f = argsK P m ts vs fun s l => (K s l).bind f
  | ts, [], K, f => by cases ts <;> rfl
  | [], v :: vs, K, f => by unfold argsK; rw [cond_nat, argsK_nat m [] vs, reifyK_nat]; congr 2; funext v'; rw [argsK_nat m [] vs]
  | t :: ts, v :: vs, K, f => by
    unfold argsK
    rw [cond_nat, gd_nat, argsK_nat m ts vs, cond_nat, argsK_nat m ts vs, reifyK_nat]
    congr 3; funext v'; rw [argsK_nat m ts vs]
@[simp] theorem shapeK_nat (t : TypeId) (v : V) (K : V → Option R) (f : R → Option S) : (shapeK P t v K).bind f = shapeK P t v fun v => (K v).bind f := by
  unfold shapeK; split <;> simp
@[simp] theorem shapesK_nat : ∀ (ts : List TypeId) (l : List V) (K : List V → Option R) (f : R → Option S), (shapesK P ts l K).bind f = shapesK P ts l fun l => (K l).bind f
  | [], l, K, f => by simp [shapesK]
  | t :: ts, l, K, f => by simp [shapesK, shapesK_nat ts]
@[simp] theorem resK_nat (ts : List TypeId) (v : V) (K : V → Option R) (f : R → Option S) : (resK P ts v K).bind f = resK P ts v fun v => (K v).bind f := by
  unfold resK; split <;> simp
@[simp] theorem ctrK_nat (cs : List (Ctr P)) (g : V) (args : List V) (m : Mem) (K : V → Option R) (f : R → Option S) : (ctrK P cs g args m K).bind f = ctrK P cs g args m fun v => (K v).bind f := by
  unfold ctrK
  split
  · split
    · simp only [gd_nat, argsK_nat, Ctr.nat, resK_nat, cond_nat]
    · rfl
  · rfl
@[simp] theorem builtinK_nat (c : Call) (b : Builtin) (ρ : Operand → Option V) (m : Mem) (id : Nat) (K : Option V → Mem → Option R) (f : R → Option S) : (builtinK P c b ρ m id K).bind f = builtinK P c b ρ m id fun v m => (K v m).bind f := by
  unfold builtinK; (repeat' split) <;> simp
theorem opK_nat (cs : List (Ctr P)) (o : Oper) (ρ : Operand → Option V) (m : Mem) (id : Nat) (K : Option V → Mem → Option R) (f : R → Option S) : (opK P cs o ρ m id K).bind f = opK P cs o ρ m id fun v m => (K v m).bind f := by
  unfold opK
  split <;> first
    | (simp [cond_nat]; done)
    | ((repeat' split) <;> simp; done)
    | (rw [valK_nat]; congr 1; funext v; split <;> rfl)
end
end Go.Rx
