/- Unary operators, conversions, small builtins, interfaces, functions as values. -/
import Derived.Test.YteahnnchfegknaaRxOp5
import Derived.Laws.BytesArg
import Derived.Laws.Build
set_option linter.unusedVariables false
set_option linter.unusedSimpArgs false
namespace Go.Rx
open Go.RowKit (Below)

section
variable {R : Type} {P : Program}

def unK (op : UnOp) (v : V) (K : V → Option R) : Option R :=
  match op, v with
  | .not, .bool b => K (.bool (!b))
  | .neg, .int k n => K (.int k (k.wrap (0 - n)))
  | .xor, .int k n => K (.int k (ixor k (if k.signed then -1 else k.max) n))
  | _, _ => none

theorem unK_some {op : UnOp} {v : V} {K : V → Option R} {r : R} (h : unK op v K = some r) :
    ∃ u, K u = some r ∧ ∀ E x, V.rel E v x → Gives P (Op.unary op x) u E := by
  unfold unK at h
  split at h
  · refine ⟨_, h, fun E x hx w => ?_⟩
    simp only [V.rel] at hx; subst hx
    exact ⟨_, rfl, by simp only [V.rel]⟩
  · refine ⟨_, h, fun E x hx w => ?_⟩
    simp only [V.rel] at hx; subst hx
    exact ⟨_, rfl, by simp only [V.rel]⟩
  · refine ⟨_, h, fun E x hx w => ?_⟩
    simp only [V.rel] at hx; subst hx
    exact ⟨_, rfl, by simp only [V.rel, ixor]⟩
  · cases h

/-- The bytes of a list of byte cells. -/
def bytesK : List V → (List UInt8 → Option R) → Option R
  | [], K => K []
  | v :: l, K => intK .u8 v fun n => bytesK l fun s => K (UInt8.ofNat n.toNat :: s)

theorem bytesK_some : ∀ {l : List V} {K : List UInt8 → Option R} {r : R}, bytesK l K = some r → ∃ ns : List Int, l = ns.map (V.int .u8) ∧ K (ns.map fun n => UInt8.ofNat n.toNat) = some r
  | [], K, r, h => ⟨[], rfl, h⟩
  | v :: l, K, r, h => by
    simp only [bytesK] at h
    obtain ⟨n, rfl, h1⟩ := intK_some h
    obtain ⟨ns, rfl, h2⟩ := bytesK_some h1
    exact ⟨n :: ns, rfl, h2⟩

theorem relL_ints {E : Env} {k : IntKind} : ∀ {ns : List Int} {xs : List Value}, V.relL E (ns.map (V.int k)) xs → xs = ns.map (Value.int k)
  | [], [], _ => rfl
  | [], _ :: _, h => by simp [V.relL] at h
  | _ :: _, [], h => by simp [V.relL] at h
  | n :: ns, x :: xs, h => by
    simp only [List.map_cons, V.relL, V.rel] at h
    rw [h.1, relL_ints h.2]; rfl

theorem foldl_push_list : ∀ (ns : List Int) (b : ByteArray), (ns.foldl (fun r n => r.push (UInt8.ofNat n.toNat)) b).data.toList = b.data.toList ++ ns.map fun n => UInt8.ofNat n.toNat
  | [], b => by simp
  | n :: ns, b => by
    rw [List.foldl_cons, foldl_push_list ns]
    simp [ByteArray.push]

theorem bytes_of_list (ns : List Int) : ns.foldl (fun r n => r.push (UInt8.ofNat n.toNat)) ByteArray.empty = ⟨⟨ns.map fun n => UInt8.ofNat n.toNat⟩⟩ := by
  apply ByteArray.ext
  apply Array.ext'
  rw [foldl_push_list]
  simp

theorem run_bytes_string {w : World} {b o len c : Nat} {ns : List Int} (hl : ns.length = len) (h : ∀ (j : Nat) (x : Value), (ns.map (Value.int .u8))[j]? = some x → w.cell? ⟨b, o + j, none⟩ = some x) :
    (Conv.bytesToString (.slice (some ⟨b, o, none⟩) len c)).run P w = .ok (.string ⟨⟨ns.map fun n => UInt8.ofNat n.toNat⟩⟩) w := by
  have h1 := run_loadCells_list (P := P) w ⟨b, o, none⟩ (ns.map (Value.int .u8)) (fun j v hj => by rw [addr_add]; exact h j v hj)
  rw [List.length_map, hl] at h1
  rw [run_bytesToString w _ len c ns (by rw [h1]), bytes_of_list]

/-- Conversions that make no memory. -/
def convK (P : Program) (src dst : TypeId) (v : V) (m : Mem) (K : V → Option R) : Option R :=
  match P.underlying src, P.underlying dst with
  | some (.int _), some (.int k) => match v with
    | .int _ n => K (.int k (k.wrap n))
    | _ => none
  | some .string, some .string => match v with
    | .str s => K (.str s)
    | _ => none
  | some (.slice e), some .string => match P.underlying e with
    | some (.int .u8) => match v with
      | .sl id size off len _ => match m.at id with
        | .cells l => gd (Nat.ble (off + len) l.length) (bytesK ((l.drop off).take len) fun s => K (.str s))
        | _ => none
      | .isl _ size l => gd (Nat.beq size 1 || Nat.beq l.length 0) (bytesK l fun s => K (.str s))
      | _ => none
    | _ => none
  | _, _ => none

theorem convK_some {src dst : TypeId} {v : V} {m : Mem} {K : V → Option R} {r : R} (h : convK P src dst v m K = some r) :
    ∃ u, K u = some r ∧ ∀ E B w x, MemRel E B m w → V.rel E v x → ∃ y, (convert src dst x).run P w = .ok y w ∧ V.rel E u y := by
  unfold convK at h
  split at h
  · rename_i k0 k hs hd
    split at h
    · rename_i k' n
      refine ⟨_, h, fun E B w x hm hx => ?_⟩
      simp only [V.rel] at hx; subst hx
      exact ⟨.int k (k.wrap n), by simp [convert, run_underlying hs, run_underlying hd, Conv.intToInt], by simp only [V.rel]⟩
    · cases h
  · rename_i hs hd
    split at h
    · refine ⟨_, h, fun E B w x hm hx => ?_⟩
      simp only [V.rel] at hx; subst hx
      exact ⟨_, by simp [convert, run_underlying hs, run_underlying hd]; rfl, by simp only [V.rel]⟩
    · cases h
  · rename_i e hs hd
    split at h
    · rename_i he
      split at h
      · rename_i id size off len cap
        split at h
        · rename_i l hl
          obtain ⟨h0, h⟩ := gd_some h
          have h0 := Nat.le_of_ble_eq_true h0
          obtain ⟨ns, hns, h⟩ := bytesK_some h
          refine ⟨_, h, fun E B w x hm hx => ?_⟩
          simp only [V.rel] at hx
          obtain ⟨b, o, c, ho, rfl, _⟩ := hx
          obtain ⟨b', o', ho', hc⟩ := hm.cells id l hl
          rw [ho] at ho'; cases ho'
          have hr : ReadsAs E w b o l := hc.1
          obtain ⟨xs, k1, k2, k3⟩ := ((hr.drop off).take len).list
          rw [hns] at k2
          have := relL_ints k2
          subst this
          have hlen : ns.length = len := by
            have := congrArg List.length hns
            simp only [List.length_take, List.length_drop, List.length_map] at this
            omega
          refine ⟨_, ?_, by simp only [V.rel]; rfl⟩
          have := run_bytes_string (P := P) (c := c) hlen k3
          simpa [convert, run_underlying hs, run_underlying hd, run_underlying he] using this
        · cases h
      · rename_i nil size l
        obtain ⟨h0, h⟩ := gd_some h
        obtain ⟨ns, rfl, h7⟩ := bytesK_some h
        refine ⟨_, h7, fun E B w x hm hx => ?_⟩
        simp only [V.rel] at hx
        rcases hx with ⟨_, h1, rfl⟩ | ⟨_, hsz, b, o, cs, c, len, ho, rfl, hle, hlen, _, hl⟩
        · have : ns = [] := by simpa using h1
          subst this
          refine ⟨.string ⟨⟨[]⟩⟩, ?_, by simp only [V.rel]; rfl⟩
          have : (Conv.bytesToString (.slice none 0 0)).run P w = .ok (.string ⟨⟨[]⟩⟩) w := by simp [Conv.bytesToString]; rfl
          simpa [convert, run_underlying hs, run_underlying hd, run_underlying he] using this
        · have hlen2 : ns.length = len := by
            rw [List.length_map] at hlen
            rw [Bool.or_eq_true] at h0
            rcases h0 with h0 | h0
            · have := Nat.eq_of_beq_eq_true h0
              rw [this] at hlen; omega
            · have h9 := Nat.eq_of_beq_eq_true h0
              rw [List.length_map] at h9
              rw [h9] at hlen ⊢
              rcases Nat.mul_eq_zero.1 hlen.symm with h8 | h8 <;> omega
          obtain ⟨xs, k1, k2, k3⟩ := (ibox_reads hm ho hl).list
          have := relL_ints k2
          subst this
          refine ⟨_, ?_, by simp only [V.rel]; rfl⟩
          have := run_bytes_string (P := P) (c := c) hlen2 k3
          simpa [convert, run_underlying hs, run_underlying hd, run_underlying he] using this
      · cases h
    · cases h
  · cases h

def mkIfaceK (P : Program) (t : TypeId) (v : V) (K : V → Option R) : Option R := gd (P.concrete t) (K (.iface t v))

theorem mkIfaceK_some {t : TypeId} {v : V} {K : V → Option R} {r : R} (h : mkIfaceK P t v K = some r) :
    ∃ u, K u = some r ∧ ∀ E x, V.rel E v x → Gives P (Instr.makeInterface t x) u E := by
  obtain ⟨h0, h⟩ := gd_some h
  exact ⟨_, h, fun E x hx w => ⟨_, run_makeInterface w t x h0, by simp only [V.rel]; exact ⟨x, rfl, hx⟩⟩⟩

def extractK (v : V) (i : Nat) (K : V → Option R) : Option R :=
  tupK v fun l => match l[i]? with
    | some u => K u
    | none => none

theorem extractK_some {v : V} {i : Nat} {K : V → Option R} {r : R} (h : extractK v i K = some r) :
    ∃ u, K u = some r ∧ ∀ E x, V.rel E v x → Gives P (Instr.extract x i) u E := by
  obtain ⟨l, rfl, h1⟩ := tupK_some h
  split at h1
  · rename_i u hu
    refine ⟨u, h1, fun E x hx w => ?_⟩
    simp only [V.rel] at hx
    obtain ⟨cs, rfl, hl⟩ := hx
    obtain ⟨y, h3, h2⟩ := relL_get hl i u hu
    rw [Array.getElem?_toList] at h3
    exact ⟨y, by simp [Instr.extract, h3], h2⟩
  · cases h1

/-- A type assertion to a type that is no interface. -/
def assertK (P : Program) (v : V) (t : TypeId) (commaOk : Bool) (K : V → Option R) : Option R :=
  bif P.concrete t then
    match v with
    | .iface t' u => bif Nat.beq t' t then K (bif commaOk then .tup [u, .bool true] else u) else
      (match zeroV P t with | some z => bif commaOk then K (.tup [z, .bool false]) else none | none => none)
    | .nilI => match zeroV P t with | some z => bif commaOk then K (.tup [z, .bool false]) else none | none => none
    | _ => none
  else none

theorem assertK_some {v : V} {t xt : TypeId} {commaOk : Bool} {K : V → Option R} {r : R} (h : assertK P v t commaOk K = some r) :
    ∃ u, K u = some r ∧ ∀ E x, V.rel E v x → Gives P (Instr.typeAssert x xt t commaOk) u E := by
  unfold assertK at h
  cases hc : P.concrete t with
  | false => rw [hc] at h; cases h
  | true =>
    rw [hc, cond_true] at h
    have hu : ∃ d, P.underlying t = some d ∧ ∀ ms, d ≠ .interface ms := by
      unfold Program.concrete at hc
      split at hc
      · cases hc
      · cases hc
      · rename_i n1 n2
        cases hd : P.underlying t with
        | none => exact (n2 hd).elim
        | some d => exact ⟨d, rfl, fun ms e => n1 ms (by rw [hd, e])⟩
    obtain ⟨d, hd, hni⟩ := hu
    have fails : ∀ (z : V), zeroV P t = some z → ∀ (E : Env) (s dy : Option TypeId) (mi : String) (w : World), ∃ y, (do pure (.tuple #[← zeroValue t, .bool false]) : Sem Value).run P w = .ok y w ∧ V.rel E (.tup [z, .bool false]) y := by
      intro z hz E s dy mi w
      obtain ⟨zv, hz1, hz2⟩ := zeroV_run hz
      exact ⟨_, by simp only [Sem.run_bind, hz1, Result.andThen_ok, Sem.run_pure]; rfl, by simp only [V.rel]; exact ⟨_, rfl, by simp only [V.relL, V.rel]; exact ⟨hz2 E, trivial, trivial⟩⟩⟩
    split at h
    · rename_i t' u
      by_cases e : t' = t
      · subst e
        simp only [Nat.beq_refl, cond_true] at h
        refine ⟨_, h, fun E x hx w => ?_⟩
        simp only [V.rel] at hx
        obtain ⟨y, rfl, hy⟩ := hx
        cases commaOk
        · exact ⟨y, by cases d <;> first | exact absurd rfl (hni _) | simp [Instr.typeAssert, run_underlying hd], hy⟩
        · refine ⟨.tuple #[y, .bool true], by cases d <;> first | exact absurd rfl (hni _) | simp [Instr.typeAssert, run_underlying hd], ?_⟩
          simp only [cond_true, V.rel]
          exact ⟨_, rfl, by simp only [V.relL, V.rel]; exact ⟨hy, trivial, trivial⟩⟩
      · have hb : Nat.beq t' t = false := by
          cases hq : Nat.beq t' t with
          | false => rfl
          | true => exact absurd (Nat.eq_of_beq_eq_true hq) e
        rw [hb, cond_false] at h
        split at h
        · rename_i z hz
          cases commaOk with
          | false => cases h
          | true =>
            refine ⟨_, h, fun E x hx w => ?_⟩
            simp only [V.rel] at hx
            obtain ⟨y, rfl, hy⟩ := hx
            obtain ⟨q, q1, q2⟩ := fails z hz E none none "" w
            refine ⟨q, ?_, q2⟩
            rw [← q1]
            cases d <;> first | exact absurd rfl (hni _) | simp [Instr.typeAssert, run_underlying hd, e]
        · cases h
    · split at h
      · rename_i z hz
        cases commaOk with
        | false => cases h
        | true =>
          refine ⟨_, h, fun E x hx w => ?_⟩
          simp only [V.rel] at hx; subst hx
          obtain ⟨q, q1, q2⟩ := fails z hz E none none "" w
          refine ⟨q, ?_, q2⟩
          rw [← q1]
          cases d <;> first | exact absurd rfl (hni _) | simp [Instr.typeAssert, run_underlying hd]
      · cases h
    · cases h

/-- len of texts, slices, arrays. -/
def lenK (P : Program) (t : TypeId) (v : V) (K : V → Option R) : Option R :=
  match P.underlying t with
  | some .string => strK v fun s => K (.int .i64 s.length)
  | some (.array n _) => K (.int .i64 n)
  | some (.slice e) => match v, szOf P e with
    | .sl _ _ _ len _, _ => K (.int .i64 len)
    | .isl nil size l, some sz => gd (Nat.blt 0 sz && (Nat.beq size sz || nil)) (K (.int .i64 (l.length / sz : Nat)))
    | _, _ => none
  | _ => none

theorem lenK_some {t ty : TypeId} {v : V} {K : V → Option R} {r : R} (h : lenK P t v K = some r) :
    ∃ u, K u = some r ∧ ∀ E x, V.rel E v x → Gives P (Builtin.len_ #[t] ty #[x]) u E := by
  unfold lenK at h
  split at h
  · rename_i hu
    obtain ⟨s, rfl, h⟩ := strK_some h
    refine ⟨_, h, fun E x hx w => ?_⟩
    simp only [V.rel] at hx; subst hx
    exact ⟨.int .i64 s.length, by simp [Builtin.len_, run_underlying hu, goInt]; rfl, by simp only [V.rel]⟩
  · rename_i n e hu
    refine ⟨_, h, fun E x hx w => ?_⟩
    exact ⟨.int .i64 n, by simp [Builtin.len_, run_underlying hu, goInt], by simp only [V.rel]⟩
  · rename_i e hu
    split at h
    · refine ⟨_, h, fun E x hx w => ?_⟩
      simp only [V.rel] at hx
      obtain ⟨b, o, c, ho, rfl, _⟩ := hx
      exact ⟨_, by simp [Builtin.len_, run_underlying hu, goInt]; rfl, by simp only [V.rel]⟩
    · rename_i nil size l sz hsz
      obtain ⟨h0, h⟩ := gd_some h
      rw [Bool.and_eq_true] at h0
      have h2 : 0 < sz := by simpa [Nat.blt_eq] using h0.1
      refine ⟨_, h, fun E x hx w => ?_⟩
      have hx := rel_isl_size h0.2 hx
      simp only [V.rel] at hx
      rcases hx with ⟨_, rfl, rfl⟩ | ⟨_, _, b, o, cs, c, len, ho, rfl, hle, hlen, _, hl⟩
      · exact ⟨.int .i64 0, by simp [Builtin.len_, run_underlying hu, goInt], by simp [V.rel]⟩
      · refine ⟨.int .i64 len, by simp [Builtin.len_, run_underlying hu, goInt], ?_⟩
        simp only [V.rel]
        rw [hlen, Nat.mul_div_cancel _ h2]
    · cases h
  · cases h

def minK (isMax : Bool) : V → List V → (V → Option R) → Option R
  | v, [], K => K v
  | v, u :: l, K => match v, u with
    | .int k a, .int _ b => minK isMax (.int k (bif isMax then imax a b else imin a b)) l K
    | _, _ => none

theorem minK_some {isMax : Bool} : ∀ {l : List V} {v : V} {K : V → Option R} {r : R}, minK isMax v l K = some r →
    ∃ u, K u = some r ∧ ∀ E x xs, V.rel E v x → V.relL E l xs → Gives P (xs.foldlM (bif isMax then Builtin.max2 else Builtin.min2) x) u E
  | [], v, K, r, h => ⟨v, h, fun E x xs hx hl w => by
      cases xs with
      | nil => exact ⟨x, rfl, hx⟩
      | cons => simp only [V.relL] at hl⟩
  | u :: l, v, K, r, h => by
    unfold minK at h
    split at h
    · rename_i k a k' b
      obtain ⟨u, h1, h2⟩ := minK_some h
      refine ⟨u, h1, fun E x xs hx hl w => ?_⟩
      cases xs with
      | nil => simp only [V.relL] at hl
      | cons y ys =>
        simp only [V.relL] at hl
        obtain ⟨hy, hl⟩ := hl
        simp only [V.rel] at hx hy; subst hx; subst hy
        obtain ⟨z, g1, g2⟩ := h2 E (.int k (bif isMax then imax a b else imin a b)) ys (by simp only [V.rel]) hl w
        refine ⟨z, ?_, g2⟩
        rw [List.foldlM_cons, Sem.run_bind]
        cases isMax
        · simp only [cond_false, Builtin.min2, Sem.run_pure, Result.andThen_ok] at g1 ⊢
          exact g1
        · simp only [cond_true, Builtin.max2, Sem.run_pure, Result.andThen_ok] at g1 ⊢
          exact g1
    · cases h

/-- The bytes of a text from its begin, as cells. -/
def byteCells (s : List UInt8) (n : Nat) : List V := (List.range n).map fun (i : Nat) => V.int .u8 (bt s (i : Int))

theorem byteCells_rel {E : Env} {s : List UInt8} {n : Nat} (h : n ≤ s.length) : V.relL E (byteCells s n) ((s.take n).map fun b => Value.int .u8 b.toNat) := by
  refine relL_of_get (by simp [byteCells]; omega) fun i v x hv hx => ?_
  simp only [byteCells, List.getElem?_map, List.getElem?_range', Option.map_eq_some_iff] at hv hx
  obtain ⟨j, hj, rfl⟩ := hv
  obtain ⟨c, hc, rfl⟩ := hx
  rw [List.getElem?_take] at hc
  split at hc
  · rename_i hi
    rw [List.getElem?_range hi] at hj
    cases hj
    simp only [V.rel, bt, Int.toNat_natCast, List.getD, hc, Option.getD_some]
  · cases hc

/-- copy, where all of the place is filled. -/
def copyK (P : Program) (t : TypeId) (d s : V) (m : Mem) (K : V → Mem → Option R) : Option R :=
  match P.underlying t with
  | some (.slice e) => match szOf P e, d with
    | some 1, .sl id _ off len _ => match m.at id with
      | .cells l => match s with
        | .str b => gd (Nat.ble len b.length && Nat.ble (off + len) l.length) (K (.int .i64 len) (m.set id (.cells (splice l off (byteCells b len)))))
        | _ => none
      | _ => none
    | _, _ => none
  | _ => none

theorem copyK_some {t t' ty : TypeId} {d s : V} {m : Mem} {K : V → Mem → Option R} {r : R} (h : copyK P t d s m K = some r) :
    ∃ u m', K u m' = some r ∧ ∀ x y : Value, Does P m (Builtin.copy_ #[t, t'] ty #[x, y]) u m' fun E => V.rel E d x ∧ V.rel E s y := by
  unfold copyK at h
  split at h
  · rename_i e hu
    split at h
    · rename_i id sz off len cap hsz
      split at h
      · rename_i l hl
        split at h
        · rename_i b
          obtain ⟨h0, h⟩ := gd_some h
          rw [Bool.and_eq_true] at h0
          have h1 := Nat.le_of_ble_eq_true h0.1
          have h2 := Nat.le_of_ble_eq_true h0.2
          refine ⟨_, _, h, fun x y E B w hm ⟨hx, hy⟩ => ?_⟩
          simp only [V.rel] at hx hy
          obtain ⟨g, o, c, ho, rfl, _⟩ := hx
          subst hy
          have hb : byteCells b len = byteCells b len := rfl
          have hrel : V.relL E (byteCells b len) ((b.take len).map fun q => Value.int .u8 q.toNat) := byteCells_rel h1
          have hlen : (byteCells b len).length = len := by simp [byteCells]
          have hlen' : ((b.take len).map fun q => Value.int .u8 q.toNat).length = len := by simp; omega
          obtain ⟨k1, k2⟩ := hm.store hl (by rw [hlen]; exact h2) hrel ho
          obtain ⟨g', o', ho', hca⟩ := hm.cells id l hl
          rw [ho] at ho'; cases ho'
          have hst := run_storeCells_cells (P := P) g (o + off) ((b.take len).map fun q => Value.int .u8 q.toNat) 0 w (fun j hj => by
              obtain ⟨z, hz, _⟩ := hca.1 (off + j) (l[off + j]'(by omega)) (by simp)
              rw [show o + off + 0 + j = o + (off + j) by omega, hz]; rfl)
            (fun j hj => by
              rw [show o + off + 0 + j = o + (off + j) by omega]
              exact hca.2 _ (by omega)) (by intro v hv; simp only [List.mem_map] at hv; obtain ⟨q, _, rfl⟩ := hv; rfl)
          refine ⟨.int .i64 len, w.setCells g (o + off) _, E, ?_, by simp only [V.rel], k1, k2⟩
          have hmin : Nat.min (⟨⟨b⟩⟩ : ByteArray).size len = len := by show Nat.min b.length len = len; exact Nat.min_eq_right h1
          have hcells : (((⟨⟨b⟩⟩ : ByteArray).extract 0 len).data.map fun q => Value.int .u8 q.toNat).toList = (b.take len).map fun q => Value.int .u8 q.toNat := by
            rw [ByteArray.data_extract, Array.toList_map, Array.toList_extract, List.extract_eq_take_drop]
            simp
          simp only [Builtin.copy_, Sem.run_bind, run_underlying hu, Result.andThen_ok, Builtin.lenOf, Sem.run_pure, hmin, run_sizeOf' hsz, Builtin.firstCells]
          have hg1 : (#[t, t'] : Array TypeId)[0]? = some t := rfl
          have hg2 : (#[Value.slice (some ⟨g, o + off, none⟩) len c, Value.string ⟨⟨b⟩⟩] : Array Value)[0]? = some (.slice (some ⟨g, o + off, none⟩) len c) := rfl
          have hg3 : (#[Value.slice (some ⟨g, o + off, none⟩) len c, Value.string ⟨⟨b⟩⟩] : Array Value)[1]? = some (.string ⟨⟨b⟩⟩) := rfl
          simp only [hg1, hg2, hg3, Sem.run_bind, run_underlying hu, Result.andThen_ok, Sem.run_pure, hmin, run_sizeOf' hsz, hcells, hst, Nat.add_zero, goInt]
        · cases h
      · cases h
    · cases h
  · cases h

end
end Go.Rx
