/- The reference's sum, told in Lean: interpreterref02.Words, Total, Of. -/
import Derived.Test.YteahnnchfegknaaL15h
set_option linter.unusedVariables false
set_option linter.unusedSimpArgs false
set_option maxRecDepth 100000
set_option maxHeartbeats 0
namespace Go.Rx.L15F
open Go.Proofs Go.Rx

def keep83 : Keep := ⟨[0, 3, 4], [0, 3, 4]⟩
noncomputable def C83 : Cfg Try.prog := ⟨[], [], fun _ _ => keep83, []⟩
def stA83 (s : List UInt8) (i : Int) : St := ⟨[(0, some (.str s)), (3, some (.isl true 0 [])), (4, some (.int .i64 i))], []⟩
def stB83 (s : List UInt8) (i : Int) (len : Nat) (l : List V) : St := ⟨[(0, some (.str s)), (3, some (.sl 0 1 0 len none)), (4, some (.int .i64 i))], [.cells l]⟩
noncomputable def L83 {R : Type} : Nat → St → (Exit → St → Option R) → Option R := loopIt (evC Try.prog C83 (evF Try.prog C83 6) 83 true (tmpsIn Try.prog 83) (loopAt Try.prog 83 5)) (trimK true keep83)
def word (s : List UInt8) (i : Int) : Int := IntKind.i64.wrap (IntKind.i64.wrap (256 * IntKind.i64.wrap (bt s i)) + IntKind.i64.wrap (bt s (IntKind.i64.wrap (i + 1))))

theorem stepA83 {R : Type} (k : Nat) (s : List UInt8) (i : Int) (K : Exit → St → Option R) : L83 (k + 1) (stA83 s i) K =
    bif ltI i (s.length : Int) then gd (inB i s.length) <| gd (inB (IntKind.i64.wrap (i + 1)) s.length) <| L83 k (stB83 s (IntKind.i64.wrap (i + 2)) 1 [.int .i64 (word s i)]) K
    else K (.exit 0) (stA83 s i) := by kernel_rfl

theorem stepB83 {R : Type} (k : Nat) (s : List UInt8) (i : Int) (len : Nat) (l : List V) (K : Exit → St → Option R) : L83 (k + 1) (stB83 s i len l) K =
    bif ltI i (s.length : Int) then gd (inB i s.length) <| gd (inB (IntKind.i64.wrap (i + 1)) s.length) <|
      gd ((0 + len * 1).ble l.length && (((len + 1) * 8).ble 140737488355328 && true)) <| gd (V.pureL ((l.drop 0).take (len * 1) ++ [.int .i64 (word s i)])) <|
      L83 k (stB83 s (IntKind.i64.wrap (i + 2)) (len + 1) ((l.drop 0).take (len * 1) ++ [.int .i64 (word s i)])) K
    else gd (V.pureL l) (K (.exit 0) (stB83 s i len l)) := by kernel_rfl

def ints (l : List Int) : List V := l.map (V.int .i64)
theorem ints_len (l : List Int) : (ints l).length = l.length := by simp [ints]
theorem ints_pure : ∀ l : List Int, V.pureL (ints l) = true
  | [] => rfl
  | x :: l => by
    have := ints_pure l
    unfold ints at this ⊢
    simp only [List.map_cons, V.pureL, V.pure, this, Bool.and_self]
theorem ints_append (a b : List Int) : ints (a ++ b) = ints a ++ ints b := by simp [ints]
theorem ints_take (l : List Int) : ((ints l).drop 0).take (l.length * 1) = ints l := by
  rw [List.drop_zero, Nat.mul_one, List.take_of_length_le (by rw [ints_len]; exact Nat.le_refl _)]

/-- The words of a text of whole words. -/
def wordsL : List UInt8 → List Int
  | x :: y :: l => (256 * (x.toNat : Int) + y.toNat) :: wordsL l
  | _ => []

def out83 {R : Type} (s : List UInt8) (l : List Int) (K : Exit → St → Option R) : Option R :=
  match l with
  | [] => K (.exit 0) (stA83 s s.length)
  | x :: l => K (.exit 0) (stB83 s s.length (l.length + 1) (ints (x :: l)))

theorem word_mid (pre : List UInt8) (x y : UInt8) (l : List UInt8) (h : pre.length ≤ 1000000) : word (pre ++ x :: y :: l) pre.length = 256 * (x.toNat : Int) + y.toNat := by
  unfold word
  have h1 := bt_mid pre x (y :: l)
  have h2 : bt (pre ++ x :: y :: l) ((pre.length : Int) + 1) = (y.toNat : Int) := by
    have := bt_mid (pre ++ [x]) y l
    simpa using this
  have hx := x.toNat_lt
  have hy := y.toNat_lt
  rw [wrap_i64 (n := (pre.length : Int) + 1) (by omega) (by omega), h1, h2, wrap_i64 (n := (x.toNat : Int)) (by omega) (by omega), wrap_i64 (n := 256 * (x.toNat : Int)) (by omega) (by omega), wrap_i64 (n := (y.toNat : Int)) (by omega) (by omega), wrap_i64 (by omega) (by omega)]

theorem wordsB {R : Type} (K : Exit → St → Option R) : ∀ (r pre : List UInt8) (acc : List Int) (fuel : Nat), acc ≠ [] → r.length % 2 = 0 → r.length + 2 ≤ fuel → (pre ++ r).length ≤ 1000000 → acc.length ≤ pre.length →
    L83 fuel (stB83 (pre ++ r) pre.length acc.length (ints acc)) K = out83 (pre ++ r) (acc ++ wordsL r) K
  | [], pre, acc, fuel, hne, _, hf, hl, _ => by
    obtain ⟨fuel, rfl⟩ : ∃ f, fuel = f + 1 := ⟨fuel - 1, by omega⟩
    rw [stepB83, List.append_nil, ltI_eq, decide_eq_false (by omega), cond_false, ints_pure, gd_true rfl]
    simp only [wordsL, List.append_nil]
    cases acc with
    | nil => exact absurd rfl hne
    | cons x l => rfl
  | [x], pre, acc, fuel, _, h, _, _, _ => by simp at h
  | x :: y :: r, pre, acc, fuel, hne, h, hf, hl, ha => by
    obtain ⟨fuel, rfl⟩ : ∃ f, fuel = f + 1 := ⟨fuel - 1, by simp at hf; omega⟩
    have hlen : (pre ++ x :: y :: r).length = pre.length + r.length + 2 := by simp; omega
    rw [hlen] at hl
    rw [stepB83, hlen, ltI_eq, decide_eq_true (by omega), cond_true, gd_true (inB_iff.2 ⟨by omega, by omega⟩), wrap_i64 (n := (pre.length : Int) + 1) (by omega) (by omega), gd_true (inB_iff.2 ⟨by omega, by omega⟩),
      gd_true (by
        rw [Bool.and_true, Bool.and_eq_true]
        exact ⟨Nat.ble_eq_true_of_le (by rw [ints_len]; omega), Nat.ble_eq_true_of_le (by omega)⟩), ints_take, word_mid pre x y r (by omega)]
    have e3 : ints acc ++ [V.int .i64 (256 * (x.toNat : Int) + y.toNat)] = ints (acc ++ [256 * (x.toNat : Int) + y.toNat]) := by rw [ints_append]; rfl
    rw [e3, ints_pure, gd_true rfl, wrap_i64 (n := (pre.length : Int) + 2) (by omega) (by omega)]
    have := wordsB K r (pre ++ [x, y]) (acc ++ [256 * (x.toNat : Int) + y.toNat]) fuel (by simp) (by simp only [List.length_cons] at h; omega) (by simp only [List.length_cons] at hf; omega) (by simp; omega) (by simp; omega)
    simp only [List.append_assoc, List.cons_append, List.nil_append, List.length_append, List.length_cons, List.length_nil] at this
    rw [show ((pre.length : Int) + 2) = ((pre.length + (0 + 1 + 1) : Nat) : Int) by omega]
    simp only [wordsL]
    exact this

theorem wordsA {R : Type} (K : Exit → St → Option R) (r : List UInt8) (fuel : Nat) (h : r.length % 2 = 0) (hf : r.length + 2 ≤ fuel) (hl : r.length ≤ 1000000) : L83 fuel (stA83 r 0) K = out83 r (wordsL r) K := by
  obtain ⟨fuel, rfl⟩ : ∃ f, fuel = f + 1 := ⟨fuel - 1, by omega⟩
  match r, h, hf, hl with
  | [], _, _, _ => rw [stepA83]; rfl
  | [x], h, _, _ => simp at h
  | x :: y :: r, h, hf, hl =>
    rw [stepA83, ltI_eq, decide_eq_true (by simp only [List.length_cons]; omega), cond_true, gd_true (inB_iff.2 ⟨by omega, by simp only [List.length_cons]; omega⟩), wrap_i64 (n := (0 : Int) + 1) (by omega) (by omega), gd_true (inB_iff.2 ⟨by omega, by simp only [List.length_cons]; omega⟩)]
    have hw := word_mid [] x y r (by simp)
    simp only [List.nil_append, List.length_nil] at hw
    rw [show ((0 : Nat) : Int) = 0 from rfl] at hw
    rw [hw, wrap_i64 (n := (0 : Int) + 2) (by omega) (by omega)]
    exact wordsB K r [x, y] [256 * (x.toNat : Int) + y.toNat] fuel (by simp) (by simp only [List.length_cons] at h; omega) (by simp only [List.length_cons] at hf; omega) (by simpa using hl) (by simp)

noncomputable def loop83 : LoopCtr Try.prog := LoopCtr.of mix C83 6 83 5 (tmpsIn Try.prog 83) keep83 (loopAt Try.prog 83 5) (fun _ _ _ h => absurd h List.not_mem_nil)
  (fun vs m K => match vs, m with
    | [some (.str s), some (.isl true 0 []), some (.int .i64 0)], [] => gd (Nat.beq (s.length % 2) 0 && Nat.ble s.length 1000000) (out83 s (wordsL s) K)
    | _, _ => none)
  (by
    intro R vs m K r h
    split at h
    · obtain ⟨hd, h⟩ := gd_some h
      rw [Bool.and_eq_true] at hd
      have hl := Nat.le_of_ble_eq_true hd.2
      rw [← wordsA K _ loopFuel (Nat.eq_of_beq_eq_true hd.1) (by unfold loopFuel; omega) hl] at h
      exact h
    · cases h)

def raw83 (s : List UInt8) (l : List Int) : Option (Bool × Nat × List V) :=
  match l with
  | [] => some (true, 0, [])
  | x :: l => gd (Nat.blt 0 1 && Nat.ble (0 + (l.length + 1) * 1) (ints (x :: l)).length && V.pureL (((ints (x :: l)).drop 0).take ((l.length + 1) * 1))) (some (false, 1, ((ints (x :: l)).drop 0).take ((l.length + 1) * 1)))

def W83 (s : List UInt8) : Option (Bool × Nat × List V) := gd (Nat.beq (s.length % 2) 0 && Nat.ble s.length 1000000) (raw83 s (wordsL s))
/-- interpreterref02.Words -/
def F83 (s : List UInt8) : Option (Bool × Nat × List V) := bif (s.length : Int).tmod 2 == 1 then gd (catOk s [0]) (W83 (s ++ [0])) else W83 s

theorem F83_ev : ∀ a, evTop Try.prog ⟨[], [], fun _ _ => keep83, [loop83]⟩ 6 83 (CodL.val (CodL.cons Cod.str CodL.nil) a) (fun v => Cod.dec Cod.isl v some) = (fun a => F83 a.1) a := by
  intro a; kernel_rfl

noncomputable def d83 : Ctr Try.prog := Ctr.ofF 83 (CodL.cons Cod.str CodL.nil) Cod.isl (fun a => F83 a.1)
  (pcalls_of_ev (C := ⟨[], [], fun _ _ => keep83, [loop83]⟩) (d := 6) mix (loopsOk_of (by
    have h : loopsOf (bodyIn Try.prog 83) = [loopAt Try.prog 83 5] := by kernel_rfl
    intro b hb q hq _ _
    rw [h] at hb
    rw [List.mem_singleton.1 hb, List.mem_singleton.1 hq]
    rfl)) F83_ev)

def slI (l : List Int) : Bool × Nat × List V := match l with
  | [] => (true, 0, [])
  | x :: l => (false, 1, ints (x :: l))

theorem F83_spec {s : List UInt8} (h : s.length % 2 = 0) (hl : s.length ≤ 1000000) : F83 s = some (slI (wordsL s)) := by
  unfold F83 W83
  rw [Int.tmod_eq_emod_of_nonneg (by omega), show ((s.length : Int) % 2 == 1) = false from beq_eq_false_iff_ne.2 (by omega), cond_false, gd_true (by
    rw [Bool.and_eq_true]; exact ⟨by rw [h]; rfl, Nat.ble_eq_true_of_le hl⟩)]
  cases wordsL s with
  | nil => rfl
  | cons x l =>
    unfold raw83
    have e1 : ((ints (x :: l)).drop 0).take ((l.length + 1) * 1) = ints (x :: l) := ints_take (x :: l)
    simp only
    rw [e1, ints_pure, gd_true (by
      rw [Bool.and_true, Bool.and_eq_true]
      exact ⟨rfl, Nat.ble_eq_true_of_le (by rw [ints_len]; simp)⟩)]
    rfl

-- Total
def keep82 : Keep := ⟨[0, 3, 4], [0, 3, 4]⟩
noncomputable def C82 : Cfg Try.prog := ⟨[], [], fun _ _ => keep82, []⟩
def st82 (nil : Bool) (l : List V) (n i : Int) : St := ⟨[(0, some (.isl nil 1 l)), (3, some (.int .i64 n)), (4, some (.int .i64 i))], []⟩
noncomputable def L82 {R : Type} : Nat → St → (Exit → St → Option R) → Option R := loopIt (evC Try.prog C82 (evF Try.prog C82 6) 82 true (tmpsIn Try.prog 82) (loopAt Try.prog 82 3)) (trimK true keep82)
def addI {R : Type} (v : V) (K : Int → Option R) : Option R := match v with
  | .int k' b => bif decide (IntKind.i64 = k') then K b else none
  | _ => none

theorem step82 {R : Type} (k : Nat) (l : List V) (n i : Int) (K : Exit → St → Option R) : L82 (k + 1) (st82 false l n i) K =
    bif ltI i ((l.length / 1 : Nat) : Int) then gd (inB (i * 1) l.length) <| varK Try.prog 3 ((((l.drop (i.toNat * 1)).take 1)).drop 0) fun v => addI v fun m => L82 k (st82 false l (IntKind.i64.wrap (n + m)) (IntKind.i64.wrap (i + 1))) K
    else K (.exit 0) (st82 false l n i) := by kernel_rfl

def sumI : List Int → Int
  | [] => 0
  | x :: l => x + sumI l
def deInts : List V → Option (List Int)
  | [] => some []
  | .int .i64 n :: l => (deInts l).map (n :: ·)
  | _ => none
def smallB : List Int → Bool
  | [] => true
  | x :: l => (leI 0 x && leI x 65535) && smallB l

theorem deInts_ints : ∀ l : List Int, deInts (ints l) = some l
  | [] => rfl
  | x :: l => by
    have := deInts_ints l
    unfold ints at this ⊢
    simp only [List.map_cons, deInts, this, Option.map_some]
theorem deInts_some : ∀ {l : List V} {ws : List Int}, deInts l = some ws → l = ints ws
  | [], ws, h => by simp only [deInts] at h; cases h; rfl
  | .int .i64 n :: l, ws, h => by
    simp only [deInts, Option.map_eq_some_iff] at h
    obtain ⟨w, h1, rfl⟩ := h
    rw [deInts_some h1]; rfl
theorem smallB_all : ∀ {l : List Int}, smallB l = true → ∀ x ∈ l, 0 ≤ x ∧ x ≤ 65535
  | [], _, x, hx => by cases hx
  | y :: l, h, x, hx => by
    simp only [smallB, Bool.and_eq_true, leI_eq, decide_eq_true_eq] at h
    rcases List.mem_cons.1 hx with rfl | hx
    · exact h.1
    · exact smallB_all h.2 x hx
theorem sumI_range : ∀ {l : List Int}, (∀ x ∈ l, 0 ≤ x ∧ x ≤ 65535) → 0 ≤ sumI l ∧ sumI l ≤ 65535 * l.length
  | [], _ => by simp [sumI]
  | y :: l, h => by
    have h1 := h y (by simp)
    have h2 := sumI_range (l := l) (fun x hx => h x (by simp [hx]))
    simp only [sumI, List.length_cons]; push_cast; omega

theorem var3 {R : Type} (w : Int) (K : V → Option R) : varK Try.prog 3 [.int .i64 w] K = K (.int .i64 w) := by kernel_rfl

theorem totalL {R : Type} (K : Exit → St → Option R) : ∀ (r pre : List Int) (n : Int) (fuel : Nat), r.length + 1 ≤ fuel → (∀ x ∈ r, 0 ≤ x ∧ x ≤ 65535) → pre.length + r.length ≤ 1000000 → 0 ≤ n → n ≤ 65535 * pre.length →
    L82 fuel (st82 false (ints (pre ++ r)) n pre.length) K = K (.exit 0) (st82 false (ints (pre ++ r)) (n + sumI r) ((pre.length + r.length : Nat) : Int))
  | [], pre, n, fuel, hf, _, _, _, _ => by
    obtain ⟨fuel, rfl⟩ : ∃ f, fuel = f + 1 := ⟨fuel - 1, by omega⟩
    rw [step82, List.append_nil, ints_len, ltI_eq, decide_eq_false (by omega), cond_false]
    simp [sumI]
  | x :: r, pre, n, fuel, hf, hx, hl, h0, h1 => by
    obtain ⟨fuel, rfl⟩ : ∃ f, fuel = f + 1 := ⟨fuel - 1, by omega⟩
    have hlen : (ints (pre ++ x :: r)).length = pre.length + r.length + 1 := by rw [ints_len]; simp; omega
    have hpl : (ints pre).length = pre.length := ints_len pre
    have e : (((ints (pre ++ x :: r)).drop ((pre.length : Int).toNat * 1)).take 1).drop 0 = [.int .i64 x] := by
      rw [Int.toNat_natCast, Nat.mul_one, ints_append]
      have : (ints pre ++ ints (x :: r)).drop pre.length = ints (x :: r) := by
        rw [List.drop_append, List.drop_eq_nil_of_le (show (ints pre).length ≤ pre.length by omega), hpl, Nat.sub_self]; rfl
      rw [this]; rfl
    have hxr := hx x (by simp)
    rw [step82, e, var3, hlen, ltI_eq, decide_eq_true (by omega), cond_true, gd_true (inB_iff.2 ⟨by omega, by omega⟩)]
    simp only [List.length_cons] at hl hf
    rw [show ∀ K' : Int → Option R, addI (.int .i64 x) K' = K' x from fun _ => rfl, wrap_i64 (n := n + x) (by omega) (by omega), wrap_i64 (n := (pre.length : Int) + 1) (by omega) (by omega)]
    have := totalL K r (pre ++ [x]) (n + x) fuel (by omega) (fun y hy => hx y (by simp [hy])) (by simp; omega) (by omega) (by simp; omega)
    simp only [List.append_assoc, List.cons_append, List.nil_append, List.length_append, List.length_singleton] at this
    rw [show ((pre.length : Int) + 1) = ((pre.length + 1 : Nat) : Int) by omega, this]
    simp only [sumI, List.length_cons]
    rw [show n + x + sumI r = n + (x + sumI r) by omega, show pre.length + 1 + r.length = pre.length + (r.length + 1) by omega]

noncomputable def loop82 : LoopCtr Try.prog := LoopCtr.of mix C82 6 82 3 (tmpsIn Try.prog 82) keep82 (loopAt Try.prog 82 3) (fun _ _ _ h => absurd h List.not_mem_nil)
  (fun vs m K => match vs, m with
    | [some (.isl false 1 l), some (.int .i64 0), some (.int .i64 0)], [] => (deInts l).bind fun ws => gd (smallB ws && Nat.ble ws.length 1000000) (K (.exit 0) (st82 false l (sumI ws) ws.length))
    | _, _ => none)
  (by
    intro R vs m K r h
    split at h
    · rw [Option.bind_eq_some_iff] at h
      obtain ⟨ws, h1, h⟩ := h
      obtain ⟨hd, h⟩ := gd_some h
      rw [Bool.and_eq_true] at hd
      have hl := Nat.le_of_ble_eq_true hd.2
      have e := deInts_some h1
      subst e
      have := totalL K ws [] 0 loopFuel (by unfold loopFuel; omega) (smallB_all hd.1) (by simp; omega) (by omega) (by simp)
      simp only [List.nil_append, List.length_nil, Int.zero_add, Nat.zero_add] at this
      rw [← this] at h
      exact h
    · cases h)

def keep82b : Keep := ⟨[3], [3]⟩
noncomputable def C82b : Cfg Try.prog := ⟨[], [], fun _ _ => keep82b, []⟩
def st82b (n : Int) : St := ⟨[(3, some (.int .i64 n))], []⟩
noncomputable def L82b {R : Type} : Nat → St → (Exit → St → Option R) → Option R := loopIt (evC Try.prog C82b (evF Try.prog C82b 6) 82 true (tmpsIn Try.prog 82) (loopAt Try.prog 82 6)) (trimK true keep82b)
theorem step82b {R : Type} (k : Nat) (n : Int) (K : Exit → St → Option R) : L82b (k + 1) (st82b n) K =
    bif ltI 65535 n then L82b k (st82b (IntKind.i64.wrap (IntKind.i64.wrap (n.tdiv 65536) + n.tmod 65536))) K else K (.exit 2) (st82b n) := by kernel_rfl

theorem totalB {R : Type} (K : Exit → St → Option R) : ∀ (k : Nat) (n : Int), 0 ≤ n → n < k → k ≤ 9223372036854775807 → L82b k (st82b n) K = K (.exit 2) (st82b (fold1 n))
  | 0, n, h0, h1, _ => by omega
  | k + 1, n, h0, h1, h2 => by
    rw [step82b, ltI_eq]
    by_cases h : 65535 < n
    · rw [decide_eq_true h, cond_true, Int.tdiv_eq_ediv_of_nonneg h0, Int.tmod_eq_emod_of_nonneg h0, wrap_i64 (n := n / 65536) (by omega) (by omega), wrap_i64 (by omega) (by omega), totalB K k _ (by omega) (by omega) (by omega)]
      have : fold1 (n / 65536 + n % 65536) = fold1 n := by
        unfold fold1
        rw [if_neg (by omega), if_neg (by omega)]
        omega
      rw [this]
    · rw [decide_eq_false h, cond_false]
      have : fold1 n = n := by unfold fold1; split <;> omega
      rw [this]

noncomputable def loop82b : LoopCtr Try.prog := LoopCtr.of mix C82b 6 82 6 (tmpsIn Try.prog 82) keep82b (loopAt Try.prog 82 6) (fun _ _ _ h => absurd h List.not_mem_nil)
  (fun vs m K => match vs, m with
    | [some (.int .i64 n)], [] => gd (leI 0 n && ltI n 1000000000000000000) (K (.exit 2) (st82b (fold1 n)))
    | _, _ => none)
  (by
    intro R vs m K r h
    split at h
    · obtain ⟨hd, h⟩ := gd_some h
      rw [Bool.and_eq_true, leI_eq, ltI_eq, decide_eq_true_eq, decide_eq_true_eq] at hd
      rw [← totalB K loopFuel _ hd.1 (by unfold loopFuel; omega) (by unfold loopFuel; omega)] at h
      exact h
    · cases h)

def keepT : FuncId → Nat → Keep := fun _ k => bif Nat.beq k 3 then keep82 else keep82b
/-- interpreterref02.Total, of a list that is not nil -/
def F82 (a : Bool × Nat × List V) : Option Int :=
  match a with
  | (false, 1, l) => (deInts l).bind fun ws => gd (smallB ws && Nat.ble ws.length 1000000) (gd (leI 0 (sumI ws) && ltI (sumI ws) 1000000000000000000) (some (fold1 (sumI ws))))
  | _ => none

theorem F82_ev (l : List V) (u : Unit) : evTop Try.prog ⟨[], [], keepT, [loop82, loop82b]⟩ 6 82 (CodL.val (CodL.cons Cod.isl CodL.nil) ((false, 1, l), u)) (fun v => Cod.dec (Cod.int .i64) v some) =
    (deInts l).bind fun ws => gd (smallB ws && Nat.ble ws.length 1000000) (gd (leI 0 (sumI ws) && ltI (sumI ws) 1000000000000000000) (some (fold1 (sumI ws)))) := by kernel_rfl

theorem F82_imp : ∀ a b, (fun a : (Bool × Nat × List V) × Unit => F82 a.1) a = some b → evTop Try.prog ⟨[], [], keepT, [loop82, loop82b]⟩ 6 82 (CodL.val (CodL.cons Cod.isl CodL.nil) a) (fun v => Cod.dec (Cod.int .i64) v some) = some b := by
  rintro ⟨a, u⟩ b h
  simp only [F82] at h
  split at h
  · rw [F82_ev]; exact h
  · cases h

noncomputable def d82 : Ctr Try.prog := Ctr.ofF 82 (CodL.cons Cod.isl CodL.nil) (Cod.int .i64) (fun a => F82 a.1)
  (pcalls_of_imp (C := ⟨[], [], keepT, [loop82, loop82b]⟩) (d := 6) mix (loopsOk_of (by
    have h : loopsOf (bodyIn Try.prog 82) = [loopAt Try.prog 82 3, loopAt Try.prog 82 6] := by kernel_rfl
    have h3 : firstRegion (loopAt Try.prog 82 3) = 3 := by kernel_rfl
    have h6 : firstRegion (loopAt Try.prog 82 6) = 6 := by kernel_rfl
    intro b hb q hq _ hk
    rw [h] at hb
    rcases List.mem_cons.1 hb with rfl | hb
    · rcases List.mem_cons.1 hq with rfl | hq
      · rfl
      · rw [List.mem_singleton.1 hq, h3] at hk; exact absurd hk (by decide)
    · rw [List.mem_singleton.1 hb] at hk ⊢
      rcases List.mem_cons.1 hq with rfl | hq
      · rw [h6] at hk; exact absurd hk (by decide)
      · rw [List.mem_singleton.1 hq]; rfl)) F82_imp)

theorem wordsL_small : ∀ (s : List UInt8), ∀ x ∈ wordsL s, 0 ≤ x ∧ x ≤ 65535
  | [], x, h => by simp [wordsL] at h
  | [y], x, h => by simp [wordsL] at h
  | y :: z :: s, x, h => by
    simp only [wordsL] at h
    rcases List.mem_cons.1 h with rfl | h
    · have := y.toNat_lt
      have := z.toNat_lt
      omega
    · exact wordsL_small s x h
theorem smallB_of : ∀ {l : List Int}, (∀ x ∈ l, 0 ≤ x ∧ x ≤ 65535) → smallB l = true
  | [], _ => rfl
  | y :: l, h => by
    have := h y (by simp)
    simp only [smallB, smallB_of (l := l) (fun x hx => h x (by simp [hx])), leI_eq, decide_eq_true this.1, decide_eq_true this.2, Bool.and_self]
theorem wordsL_len : ∀ (s : List UInt8), (wordsL s).length ≤ s.length
  | [] => by simp [wordsL]
  | [y] => by simp [wordsL]
  | y :: z :: s => by
    have := wordsL_len s
    simp only [wordsL, List.length_cons]; omega
theorem sum_words : ∀ (s : List UInt8), s.length % 2 = 0 → sumI (wordsL s) = ws false false s
  | [], _ => rfl
  | [y], h => by simp at h
  | y :: z :: s, h => by
    have := sum_words s (by simp only [List.length_cons] at h; omega)
    simp only [wordsL, sumI, this, ws, bx, cond_false, cond_true, Bool.not_false, Bool.not_true]
    omega

theorem F82_spec {s : List UInt8} (h : s.length % 2 = 0) (hl : s.length ≤ 1000000) (h0 : s ≠ []) : F82 (slI (wordsL s)) = some (fold1 (ws false false s)) := by
  have hne : wordsL s ≠ [] := by
    match s, h, h0 with
    | [], _, h0 => exact absurd rfl h0
    | [y], h, _ => simp at h
    | y :: z :: s, _, _ => simp [wordsL]
  have hs := wordsL_small s
  have hr := sumI_range hs
  have hw := wordsL_len s
  have e : slI (wordsL s) = (false, 1, ints (wordsL s)) := by
    cases hq : wordsL s with
    | nil => exact absurd hq hne
    | cons x l => rfl
  rw [e]
  unfold F82
  simp only
  rw [deInts_ints, Option.bind_some, gd_true (by rw [Bool.and_eq_true]; exact ⟨smallB_of hs, Nat.ble_eq_true_of_le (by omega)⟩), gd_true (by rw [Bool.and_eq_true, leI_eq, ltI_eq]; exact ⟨decide_eq_true hr.1, decide_eq_true (by omega)⟩), sum_words s h]
end Go.Rx.L15F
