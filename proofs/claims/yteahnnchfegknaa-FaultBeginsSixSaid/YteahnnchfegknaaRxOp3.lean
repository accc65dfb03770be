/- Operations on numbers, texts, places and slices. -/
import Derived.Test.YteahnnchfegknaaRxOp2
set_option linter.unusedVariables false
set_option linter.unusedSimpArgs false
namespace Go.Rx
open Go.RowKit (Below)

/-- A pure operation: what its model does at related operands. -/
def Gives (P : Program) (s : Sem Value) (u : V) (E : Env) : Prop := ∀ w, ∃ y, s.run P w = .ok y w ∧ V.rel E u y

section
variable {R : Type} {P : Program}

def fieldAddrK (P : Program) (s : TypeId) (v : V) (f : Nat) (K : V → Option R) : Option R :=
  match P.underlying s with
  | some (.struct fs) => match fs[f]? with
    | some fd => match szOf P fd.type with
      | some n => match v with
        | .ptr id off => gd (Nat.blt 0 n) (K (.ptr id (off + fd.offset)))
        | .ibox l off => gd (Nat.blt 0 n) (K (.ibox l (off + fd.offset)))
        | _ => none
      | none => none
    | none => none
  | _ => none

theorem fieldAddrK_some {s : TypeId} {v : V} {f : Nat} {K : V → Option R} {r : R} (h : fieldAddrK P s v f K = some r) :
    ∃ u, K u = some r ∧ ∀ E x, V.rel E v x → Gives P (Instr.fieldAt s x f) u E := by
  unfold fieldAddrK at h
  split at h
  · rename_i fs hu
    split at h
    · rename_i fd hf
      split at h
      · rename_i n hn
        have key : ∀ (b o off : Nat) (w : World), Nat.blt 0 n = true → (Instr.fieldAt s (.pointer (some ⟨b, o + off, none⟩)) f).run P w = .ok (.pointer (some ⟨b, o + (off + fd.offset), none⟩)) w := by
          intro b o off w h0
          have h0 : 0 < n := by simpa [Nat.blt_eq] using h0
          have hne : ¬ n = 0 := by omega
          simp only [Instr.fieldAt, Sem.run_bind, run_underlying hu, Result.andThen_ok, hf, Instr.sureAddr, Sem.run_pure, fieldPlace, run_sizeOf' hn, hne, if_false, addr_add, Nat.add_assoc]
        split at h
        · obtain ⟨h0, h⟩ := gd_some h
          refine ⟨_, h, fun E x hx w => ?_⟩
          simp only [V.rel] at hx
          obtain ⟨b, o, ho, rfl⟩ := hx
          exact ⟨_, key b o _ w h0, by simp only [V.rel]; exact ⟨b, o, ho, rfl⟩⟩
        · obtain ⟨h0, h⟩ := gd_some h
          refine ⟨_, h, fun E x hx w => ?_⟩
          simp only [V.rel] at hx
          obtain ⟨b, o, cs, ho, rfl, hl⟩ := hx
          exact ⟨_, key b o _ w h0, by simp only [V.rel]; exact ⟨b, o, cs, ho, rfl, hl⟩⟩
        · cases h
      · cases h
    · cases h
  · cases h

def fieldK (P : Program) (t : TypeId) (v : V) (f : Nat) (K : V → Option R) : Option R :=
  match P.underlying t with
  | some (.struct fs) => match fs[f]? with
    | some fd => aggK v fun l => varK P fd.type (l.drop fd.offset) K
    | none => none
  | _ => none

theorem fieldK_some {t : TypeId} {v : V} {f : Nat} {K : V → Option R} {r : R} (h : fieldK P t v f K = some r) :
    ∃ u, K u = some r ∧ ∀ E x, V.rel E v x → Gives P (Instr.field t x f) u E := by
  unfold fieldK at h
  split at h
  · rename_i fs hu
    split at h
    · rename_i fd hf
      obtain ⟨l, rfl, h⟩ := aggK_some h
      obtain ⟨u, h, hv⟩ := varK_core h
      refine ⟨u, h, fun E x hx w => ?_⟩
      simp only [V.rel] at hx
      obtain ⟨cs, rfl, hl⟩ := hx
      obtain ⟨y, h1, h2⟩ := hv.part (w := w) hl
      exact ⟨y, by simp only [Instr.field, Sem.run_bind, run_underlying hu, Result.andThen_ok, hf, asAgg, Sem.run_pure, h1], h2⟩
    · cases h
  · cases h

/-- Is an index within a length? -/
def inB (i : Int) (n : Nat) : Bool := leI 0 i && ltI i n

theorem inB_iff {i : Int} {n : Nat} : inB i n = true ↔ 0 ≤ i ∧ i < n := by simp [inB, ltI_eq, leI_eq]

def indexAddrK (P : Program) (t : TypeId) (v ix : V) (K : V → Option R) : Option R :=
  match ix with
  | .int _ i => match P.underlying t with
    | some (.array n e) => match szOf P e with
      | some sz => match v with
        | .ptr id off => gd (inB i n) (K (.ptr id (off + i.toNat * sz)))
        | .ibox l off => gd (inB i n) (K (.ibox l (off + i.toNat * sz)))
        | _ => none
      | none => none
    | some (.slice e) => match szOf P e with
      | some sz => match v with
        | .sl id size off len _ => gd (inB i len) (K (.ptr id (off + i.toNat * sz)))
        | .isl _ size l => gd (Nat.beq size sz && inB (i * size) l.length) (K (.ibox ((l.drop (i.toNat * sz)).take sz) 0))
        | _ => none
      | none => none
    | _ => none
  | _ => none

theorem indexAddrK_some {t : TypeId} {v ix : V} {K : V → Option R} {r : R} (h : indexAddrK P t v ix K = some r) :
    ∃ u, K u = some r ∧ ∀ E x y, V.rel E v x → V.rel E ix y → Gives P (Instr.indexAt t x y) u E := by
  unfold indexAddrK at h
  split at h
  · rename_i k i
    split at h
    · rename_i n e hu
      split at h
      · rename_i sz hsz
        have key : ∀ (b o off : Nat) (w : World), inB i n = true → (Instr.indexAt t (.pointer (some ⟨b, o + off, none⟩)) (.int k i)).run P w = .ok (.pointer (some ⟨b, o + (off + i.toNat * sz), none⟩)) w := by
          intro b o off w h0
          rw [inB_iff] at h0
          simp only [Instr.indexAt, Sem.run_bind, asIntOf, Sem.run_pure, run_underlying hu, Result.andThen_ok, Instr.sureAddr, h0, and_self, if_true, run_sizeOf' hsz, addr_add, Nat.add_assoc]
        split at h
        · obtain ⟨h0, h⟩ := gd_some h
          refine ⟨_, h, fun E x y hx hy w => ?_⟩
          simp only [V.rel] at hx hy
          obtain ⟨b, o, ho, rfl⟩ := hx
          subst hy
          exact ⟨_, key b o _ w h0, by simp only [V.rel]; exact ⟨b, o, ho, rfl⟩⟩
        · obtain ⟨h0, h⟩ := gd_some h
          refine ⟨_, h, fun E x y hx hy w => ?_⟩
          simp only [V.rel] at hx hy
          obtain ⟨b, o, cs, ho, rfl, hl⟩ := hx
          subst hy
          exact ⟨_, key b o _ w h0, by simp only [V.rel]; exact ⟨b, o, cs, ho, rfl, hl⟩⟩
        · cases h
      · cases h
    · rename_i e hu
      split at h
      · rename_i sz hsz
        have key : ∀ (b o off len c : Nat) (w : World), inB i len = true → (Instr.indexAt t (.slice (some ⟨b, o + off, none⟩) len c) (.int k i)).run P w = .ok (.pointer (some ⟨b, o + (off + i.toNat * sz), none⟩)) w := by
          intro b o off len c w h0
          rw [inB_iff] at h0
          simp only [Instr.indexAt, Sem.run_bind, asIntOf, Sem.run_pure, run_underlying hu, Result.andThen_ok, h0, and_self, if_true, run_sizeOf' hsz, addr_add, Nat.add_assoc]
        split at h
        · obtain ⟨h0, h⟩ := gd_some h
          refine ⟨_, h, fun E x y hx hy w => ?_⟩
          simp only [V.rel] at hx hy
          obtain ⟨b, o, c, ho, rfl, _⟩ := hx
          subst hy
          exact ⟨_, key b o _ _ c w h0, by simp only [V.rel]; exact ⟨b, o, ho, rfl⟩⟩
        · rename_i nil size l
          obtain ⟨h0, h⟩ := gd_some h
          rw [Bool.and_eq_true] at h0
          obtain ⟨h1, h0⟩ := h0
          have h1 := Nat.eq_of_beq_eq_true h1
          subst h1
          refine ⟨_, h, fun E x y hx hy w => ?_⟩
          simp only [V.rel] at hx hy
          subst hy
          rw [inB_iff] at h0
          rcases hx with ⟨_, rfl, _⟩ | ⟨_, hs, b, o, cs, c, len, ho, rfl, hlc, hlen, hpu, hl⟩
          · simp at h0; omega
          · have hi0 : 0 ≤ i := by
              rcases Int.lt_or_le i 0 with hn | hn
              · have := Int.mul_neg_of_neg_of_pos hn (Int.natCast_pos.2 hs); omega
              · exact hn
            obtain ⟨j, rfl⟩ := Int.eq_ofNat_of_zero_le hi0
            have hj : j < len := by
              have h2 := h0.2
              rw [hlen] at h2
              have h3 : j * size < len * size := by exact_mod_cast h2
              exact Nat.lt_of_mul_lt_mul_right h3
            refine ⟨.pointer (some ⟨b, o + j * size, none⟩), ?_, ?_⟩
            · exact (by have := key b o 0 len c w (by rw [inB_iff]; exact ⟨by omega, by exact_mod_cast hj⟩); simpa using this)
            · simp only [V.rel, Int.toNat_natCast]
              refine ⟨b, o + j * size, cs, ho, by simp, pureL_take (pureL_drop hpu), ?_⟩
              have hle : j * size + size ≤ len * size := by rw [← Nat.succ_mul]; exact Nat.mul_le_mul_right _ hj
              have hle : j * size + size ≤ l.length := by omega
              have h4 := relL_take (relL_drop hl (j * size)) size
              rw [List.length_take, List.length_drop, Nat.min_eq_left (by omega)]
              rw [List.drop_take, List.take_take, Nat.min_eq_left (by omega), List.drop_drop] at h4
              exact h4
        · cases h
      · cases h
    · cases h
  · cases h

/-- The byte at a place. -/
def bt (s : List UInt8) (i : Int) : Int := ((s.getD i.toNat 0).toNat : Nat)

def indexK (P : Program) (t : TypeId) (v ix : V) (K : V → Option R) : Option R :=
  match ix with
  | .int _ i => match P.underlying t with
    | some .string => strK v fun s => gd (inB i s.length) (K (.int .u8 (bt s i)))
    | some (.array n e) => match szOf P e with
      | some sz => aggK v fun l => gd (inB i n) (varK P e (l.drop (i.toNat * sz)) K)
      | none => none
    | _ => none
  | _ => none

theorem indexK_some {t : TypeId} {v ix : V} {K : V → Option R} {r : R} (h : indexK P t v ix K = some r) :
    ∃ u, K u = some r ∧ ∀ E x y, V.rel E v x → V.rel E ix y → Gives P (Instr.index t x y) u E := by
  unfold indexK at h
  split at h
  · rename_i k i
    split at h
    · rename_i hu
      obtain ⟨s, rfl, h⟩ := strK_some h
      obtain ⟨h0, h⟩ := gd_some h
      refine ⟨_, h, fun E x y hx hy w => ?_⟩
      simp only [V.rel] at hx hy
      subst hx; subst hy
      rw [inB_iff] at h0
      have hlt : i.toNat < s.length := by omega
      refine ⟨.int .u8 (bt s i), ?_, by simp only [V.rel]⟩
      have h2 : (⟨⟨s⟩⟩ : ByteArray)[i.toNat]? = some s[i.toNat] := by
        show (if h : i.toNat < s.length then some _ else none) = _
        rw [dif_pos hlt]; rfl
      simp only [Instr.index, Sem.run_bind, asIntOf, Sem.run_pure, run_underlying hu, Result.andThen_ok, h0.1, if_true, h2, bt, List.getD, List.getElem?_eq_getElem hlt, Option.getD_some]
    · rename_i n e hu
      split at h
      · rename_i sz hsz
        obtain ⟨l, rfl, h⟩ := aggK_some h
        obtain ⟨h0, h⟩ := gd_some h
        obtain ⟨u, h, hv⟩ := varK_core h
        refine ⟨u, h, fun E x y hx hy w => ?_⟩
        simp only [V.rel] at hx hy
        obtain ⟨cs, rfl, hl⟩ := hx
        subst hy
        rw [inB_iff] at h0
        obtain ⟨z, h1, h2⟩ := hv.part (w := w) hl
        exact ⟨z, by simp only [Instr.index, Sem.run_bind, asIntOf, Sem.run_pure, run_underlying hu, Result.andThen_ok, h0, and_self, if_true, run_sizeOf' hsz, h1], h2⟩
      · cases h
    · cases h
  · cases h

/-- An optional bound. -/
def bndK (v : Option V) (d : Int) (K : Int → Option R) : Option R :=
  match v with
  | none => K d
  | some (.int _ i) => K i
  | _ => none

def OptRel (E : Env) : Option V → Option Value → Prop
  | none, none => True
  | some v, some x => V.rel E v x
  | _, _ => False

/-- So many bytes of a text; its length is known, whatever the text. -/
def cutL : Nat → List UInt8 → List UInt8
  | 0, _ => []
  | n + 1, s => s.headD 0 :: cutL n s.tail

theorem cutL_eq : ∀ (n : Nat) (s : List UInt8), n ≤ s.length → cutL n s = s.take n
  | 0, s, _ => by simp [cutL]
  | n + 1, [], h => by simp at h
  | n + 1, b :: s, h => by
    simp only [cutL, List.headD_cons, List.tail_cons, List.take_succ_cons]
    rw [cutL_eq n s (by simpa using h)]

/-- A text's part. -/
def sub (s : List UInt8) (lo hi : Option V) (l h : Nat) : List UInt8 :=
  match lo, hi with
  | none, none => s
  | none, some _ => cutL h s
  | some _, none => s.drop l
  | some _, some _ => cutL (h - l) (s.drop l)

theorem sub_eq (s : List UInt8) (lo hi : Option V) (l h : Nat) (hl : lo = none → l = 0) (hh : hi = none → h = s.length) (hle : h ≤ s.length) : sub s lo hi l h = (s.drop l).take (h - l) := by
  cases lo <;> cases hi <;> simp only [sub]
  · rw [hl rfl, hh rfl]; simp
  · rw [hl rfl, cutL_eq _ _ hle]; simp
  · rw [hh rfl, List.take_of_length_le (by simp)]
  · rw [cutL_eq _ _ (by rw [List.length_drop]; omega)]

/-- Are the bounds of a part in order? -/
def ordB (l h : Int) (n : Nat) : Bool := leI 0 l && (leI l h && leI h n)
theorem ordB_iff {l h : Int} {n : Nat} : ordB l h n = true ↔ 0 ≤ l ∧ l ≤ h ∧ h ≤ n := by simp [ordB, leI_eq]

def sliceStrK (s : List UInt8) (lo hi mx : Option V) (K : V → Option R) : Option R :=
  match mx with
  | none => bndK lo 0 fun l => bndK hi s.length fun h => gd (ordB l h s.length) (K (.str (sub s lo hi l.toNat h.toNat)))
  | some _ => none

theorem run_sliceBound {P : Program} {k : IntKind} {i : Int} {y : Nat} {c : BoundsCode} (h0 : 0 ≤ i) (h1 : i ≤ y) (w : World) : (Instr.sliceBound (.int k i) y c).run P w = .ok i.toNat w := by
  simp only [Instr.sliceBound, asIntOf, Sem.run_bind, Sem.run_pure, Result.andThen_ok, h0, h1, and_self, if_true]

theorem bndK_some {v : Option V} {d : Int} {K : Int → Option R} {r : R} (h : bndK v d K = some r) : ∃ i, K i = some r ∧ (v = none → i = d) ∧ (∀ u, v = some u → ∃ k, u = .int k i) := by
  unfold bndK at h
  split at h
  · exact ⟨d, h, fun _ => rfl, fun u hu => by cases hu⟩
  · rename_i k i; exact ⟨i, h, fun hu => (by cases hu), fun u hu => by cases hu; exact ⟨k, rfl⟩⟩
  · cases h

/-- The bounds of a part without a third one, as the model reckons them. -/
theorem run_sliceBounds2 {E : Env} {isSlice : Bool} {len cap : Nat} {lo hi : Option V} {xlo xhi : Option Value} {l h : Int} (hlen : len ≤ cap)
    (hlo : lo = none → l = 0) (hlo' : ∀ u, lo = some u → ∃ k, u = .int k l) (hhi : hi = none → h = len) (hhi' : ∀ u, hi = some u → ∃ k, u = .int k h)
    (rlo : OptRel E lo xlo) (rhi : OptRel E hi xhi) (h0 : 0 ≤ l) (h1 : l ≤ h) (h2 : h ≤ cap) (w : World) :
    (Instr.sliceBounds isSlice len cap xlo xhi none).run P w = .ok (l.toNat, h.toNat, cap) w := by
  have e1 : ∀ (c : BoundsCode), (match xlo with | some v => Instr.sliceBound v h.toNat c | none => pure 0 : Sem Nat).run P w = .ok l.toNat w := by
    intro c
    cases lo with
    | none => cases xlo with
      | none => simp [hlo rfl]
      | some => exact rlo.elim
    | some u => cases xlo with
      | none => exact rlo.elim
      | some x =>
        obtain ⟨k, rfl⟩ := hlo' u rfl
        simp only [OptRel, V.rel] at rlo
        subst rlo
        exact run_sliceBound h0 (by omega) w
  have e2 : ∀ (c : BoundsCode), (match xhi with | some v => Instr.sliceBound v cap c | none => pure len : Sem Nat).run P w = .ok h.toNat w := by
    intro c
    cases hi with
    | none => cases xhi with
      | none => simp [hhi rfl]
      | some => exact rhi.elim
    | some u => cases xhi with
      | none => exact rhi.elim
      | some x =>
        obtain ⟨k, rfl⟩ := hhi' u rfl
        simp only [OptRel, V.rel] at rhi
        subst rhi
        exact run_sliceBound (by omega) h2 w
  cases xlo <;> cases xhi <;> simp_all [Instr.sliceBounds]

theorem sliceStrK_some {t : TypeId} (hu : P.underlying t = some .string) {s : List UInt8} {lo hi mx : Option V} {K : V → Option R} {r : R} (h : sliceStrK s lo hi mx K = some r) :
    ∃ u, K u = some r ∧ ∀ E x xlo xhi xmx, V.rel E (.str s) x → OptRel E lo xlo → OptRel E hi xhi → OptRel E mx xmx → Gives P (Instr.sliceAt t x xlo xhi xmx) u E := by
  unfold sliceStrK at h
  split at h
  · obtain ⟨l, h, g1, g2⟩ := bndK_some h
    obtain ⟨hh, h, g3, g4⟩ := bndK_some h
    obtain ⟨h0, h⟩ := gd_some h
    rw [ordB_iff] at h0
    refine ⟨_, h, fun E x xlo xhi xmx hx rlo rhi rmx w => ?_⟩
    simp only [V.rel] at hx
    subst hx
    obtain rfl : xmx = none := by cases xmx with | none => rfl | some => exact rmx.elim
    refine ⟨.string ⟨⟨sub s lo hi l.toNat hh.toNat⟩⟩, ?_, by simp only [V.rel]⟩
    have hb := run_sliceBounds2 (P := P) (isSlice := false) (len := s.length) (cap := s.length) (Nat.le_refl _) g1 g2 g3 g4 rlo rhi h0.1 h0.2.1 h0.2.2 w
    have hsz : (⟨⟨s⟩⟩ : ByteArray).size = s.length := rfl
    simp only [Instr.sliceAt, Instr.slice, Sem.run_bind, run_underlying hu, Result.andThen_ok, Option.isSome_none, Bool.false_eq_true, if_false, hsz, hb, Sem.run_pure]
    rw [sub_eq s lo hi _ _ (fun e => by rw [g1 e]; rfl) (fun e => by rw [g3 e]; simp) (by omega)]
    congr 2
    apply ByteArray.ext
    rw [ByteArray.data_extract]
    apply Array.ext'
    rw [Array.toList_extract, List.extract_eq_take_drop]
  · cases h

/-- Has a row of the call's own so many cells? -/
def Mem.holds (m : Mem) (id n : Nat) : Bool := match m.at id with | .cells l => Nat.ble n l.length | _ => false

/-- Parts of arrays and slices. -/
def sliceK (P : Program) (t : TypeId) (v : V) (lo hi mx : Option V) (m : Mem) (K : V → Option R) : Option R :=
  match P.underlying t with
  | some .string => strK v fun s => sliceStrK s lo hi mx K
  | some (.array n e) => match szOf P e, v, mx with
    | some sz, .ptr id off, none => bndK lo 0 fun l => bndK hi n fun h => gd (ordB l h n && decide (l < (n : Int)) && m.holds id (off + n * sz)) (K (.sl id sz (off + l.toNat * sz) (h.toNat - l.toNat) (some (n - l.toNat))))
    | some sz, .ibox c off, none => bndK lo 0 fun l => bndK hi n fun h => gd (ordB l h n && decide (l < (n : Int)) && Nat.blt 0 sz && Nat.ble (off + h.toNat * sz) c.length) (K (.isl false sz ((c.drop (off + l.toNat * sz)).take ((h.toNat - l.toNat) * sz))))
    | _, _, _ => none
  | some (.slice e) => match szOf P e, v, mx with
    | some sz, .sl id size off len cap, none => bndK lo 0 fun l => bndK hi len fun h => gd (Nat.beq size sz && ordB l h len && (Nat.beq l.toNat 0 || decide (l < h))) (K (.sl id sz (off + l.toNat * sz) (h.toNat - l.toNat) (cap.map (· - l.toNat))))
    | some sz, .isl nil size c, none => bndK lo 0 fun l => bndK hi (c.length / sz : Nat) fun h => gd ((Nat.beq size sz || nil) && Nat.blt 0 sz && ordB l h (c.length / sz)) (K (.isl nil sz (islSub c sz lo hi l.toNat h.toNat)))
    | _, _, _ => none
  | _ => none
where
  islSub (c : List V) (sz : Nat) (lo hi : Option V) (l h : Nat) : List V :=
    match lo, hi with
    | none, none => c
    | none, some _ => c.take (h * sz)
    | some _, none => c.drop (l * sz)
    | some _, some _ => (c.drop (l * sz)).take ((h - l) * sz)

theorem islSub_eq (c : List V) (sz : Nat) (lo hi : Option V) (l h : Nat) (hl : lo = none → l = 0) (hh : hi = none → h * sz = c.length) : sliceK.islSub c sz lo hi l h = (c.drop (l * sz)).take ((h - l) * sz) := by
  cases lo <;> cases hi <;> simp only [sliceK.islSub]
  · rw [hl rfl]; simp [hh rfl]
  · rw [hl rfl]; simp
  · rw [List.take_of_length_le]; rw [List.length_drop, Nat.sub_mul, hh rfl]; exact Nat.le_refl _

theorem sliceK_some {t : TypeId} {v : V} {lo hi mx : Option V} {m : Mem} {K : V → Option R} {r : R} (h : sliceK P t v lo hi mx m K = some r) :
    ∃ u, K u = some r ∧ ∀ E B w0 x xlo xhi xmx, MemRel E B m w0 → V.rel E v x → OptRel E lo xlo → OptRel E hi xhi → OptRel E mx xmx → Gives P (Instr.sliceAt t x xlo xhi xmx) u E := by
  unfold sliceK at h
  split at h
  · rename_i hu
    obtain ⟨s, rfl, h⟩ := strK_some h
    obtain ⟨u, h1, h2⟩ := sliceStrK_some (P := P) hu h
    exact ⟨u, h1, fun E B w0 x xlo xhi xmx _ => h2 E x xlo xhi xmx⟩
  · rename_i n e hu
    split at h
    · rename_i sz id off hsz
      obtain ⟨l, h, g1, g2⟩ := bndK_some h
      obtain ⟨hh, h, g3, g4⟩ := bndK_some h
      obtain ⟨h0, h⟩ := gd_some h
      rw [Bool.and_eq_true, Bool.and_eq_true, ordB_iff, decide_eq_true_eq] at h0
      obtain ⟨h0, hh0⟩ := h0
      refine ⟨_, h, fun E B w0 x xlo xhi xmx hm hx rlo rhi rmx w => ?_⟩
      obtain rfl : xmx = none := by cases xmx with | none => rfl | some => exact rmx.elim
      simp only [V.rel] at hx
      obtain ⟨b, o, ho, rfl⟩ := hx
      have hb := run_sliceBounds2 (P := P) (isSlice := false) (len := n) (cap := n) (Nat.le_refl _) g1 g2 g3 g4 rlo rhi h0.1.1 h0.1.2.1 h0.1.2.2 w
      have hne : ¬ n = l.toNat := by omega
      refine ⟨.slice (some ⟨b, o + off + l.toNat * sz, none⟩) (hh.toNat - l.toNat) (n - l.toNat), ?_, ?_⟩
      · simp only [Instr.sliceAt, Sem.run_bind, run_underlying hu, Result.andThen_ok, Instr.sureAddr, Sem.run_pure, hb, run_sizeOf' hsz, hne, if_false, addr_add]
      · simp only [V.rel]
        refine ⟨b, o, _, ho, by rw [Nat.add_assoc], by omega, ?_, fun k hk => by cases hk; rfl⟩
        unfold Mem.holds at hh0
        split at hh0
        · rename_i cl hcl
          have h7 := Nat.le_of_ble_eq_true hh0
          have h8 := (hm.tot id cl b o hcl ho).1
          have h9 : l.toNat * sz + (n - l.toNat) * sz = n * sz := by rw [← Nat.add_mul, Nat.add_sub_of_le (by omega)]
          omega
        · cases hh0
    · rename_i sz c off hsz
      obtain ⟨l, h, g1, g2⟩ := bndK_some h
      obtain ⟨hh, h, g3, g4⟩ := bndK_some h
      obtain ⟨h0, h⟩ := gd_some h
      rw [Bool.and_eq_true, Bool.and_eq_true, Bool.and_eq_true, ordB_iff, decide_eq_true_eq] at h0
      obtain ⟨⟨⟨h0, h1⟩, h2⟩, h3⟩ := h0
      have h2 : 0 < sz := by simpa [Nat.blt_eq] using h2
      have h3 := Nat.le_of_ble_eq_true h3
      refine ⟨_, h, fun E B w0 x xlo xhi xmx hm hx rlo rhi rmx w => ?_⟩
      obtain rfl : xmx = none := by cases xmx with | none => rfl | some => exact rmx.elim
      simp only [V.rel] at hx
      obtain ⟨b, o, cs, ho, rfl, hpu, hl⟩ := hx
      have hb := run_sliceBounds2 (P := P) (isSlice := false) (len := n) (cap := n) (Nat.le_refl _) g1 g2 g3 g4 rlo rhi h0.1 h0.2.1 h0.2.2 w
      have hne : ¬ n = l.toNat := by omega
      refine ⟨.slice (some ⟨b, o + off + l.toNat * sz, none⟩) (hh.toNat - l.toNat) (n - l.toNat), ?_, ?_⟩
      · simp only [Instr.sliceAt, Sem.run_bind, run_underlying hu, Result.andThen_ok, Instr.sureAddr, Sem.run_pure, hb, run_sizeOf' hsz, hne, if_false, addr_add]
      · have hmul : (hh.toNat - l.toNat) * sz = hh.toNat * sz - l.toNat * sz := Nat.sub_mul ..
        have hmle : l.toNat * sz ≤ hh.toNat * sz := Nat.mul_le_mul_right _ (by omega)
        have hlen : ((c.drop (off + l.toNat * sz)).take ((hh.toNat - l.toNat) * sz)).length = (hh.toNat - l.toNat) * sz := by
          rw [List.length_take, List.length_drop]; omega
        simp only [V.rel]
        refine .inr ⟨trivial, h2, b, o + (off + l.toNat * sz), cs, n - l.toNat, hh.toNat - l.toNat, ho, by rw [Nat.add_assoc], by omega, hlen, pureL_take (pureL_drop hpu), ?_⟩
        have h4 := relL_take (relL_drop hl (off + l.toNat * sz)) ((hh.toNat - l.toNat) * sz)
        rw [hlen]
        rw [List.drop_take, List.take_take, Nat.min_eq_left (by omega), List.drop_drop] at h4
        exact h4
    · cases h
  · rename_i e hu
    split at h
    · rename_i sz id size off len cap hsz
      obtain ⟨l, h, g1, g2⟩ := bndK_some h
      obtain ⟨hh, h, g3, g4⟩ := bndK_some h
      obtain ⟨h0, h⟩ := gd_some h
      rw [Bool.and_eq_true, Bool.and_eq_true, ordB_iff] at h0
      obtain ⟨⟨h0, h1⟩, h2⟩ := h0
      refine ⟨_, h, fun E B w0 x xlo xhi xmx hm hx rlo rhi rmx w => ?_⟩
      obtain rfl : xmx = none := by cases xmx with | none => rfl | some => exact rmx.elim
      simp only [V.rel] at hx
      obtain ⟨b, o, c, ho, rfl, hle, htot, hc⟩ := hx
      have hb := run_sliceBounds2 (P := P) (isSlice := true) (len := len) (cap := c) hle g1 g2 g3 g4 rlo rhi h1.1 h1.2.1 (by omega) w
      refine ⟨.slice (some ⟨b, o + off + l.toNat * sz, none⟩) (hh.toNat - l.toNat) (c - l.toNat), ?_, ?_⟩
      · have hadr : (if c = l.toNat then some (⟨b, o + off, none⟩ : Addr) else (some (⟨b, o + off, none⟩ : Addr)).map (·.add (l.toNat * sz))) = some ⟨b, o + off + l.toNat * sz, none⟩ := by
          by_cases hcl : c = l.toNat
          · rw [if_pos hcl]
            have h20 : l.toNat = 0 := by
              rw [Bool.or_eq_true] at h2
              rcases h2 with h2 | h2
              · exact Nat.eq_of_beq_eq_true h2
              · rw [decide_eq_true_eq] at h2; omega
            rw [h20]; simp
          · rw [if_neg hcl]; simp [addr_add]
        simp only [Instr.sliceAt, Instr.slice, Sem.run_bind, run_underlying hu, Result.andThen_ok, hb, run_sizeOf' hsz, Sem.run_pure, hadr]
      · simp only [V.rel]
        have h9 : (c - l.toNat) * size + l.toNat * size = c * size := by rw [← Nat.add_mul, Nat.sub_add_cancel (by omega)]
        refine ⟨b, o, _, ho, by rw [Nat.add_assoc], by omega, ?_, fun k hk => ?_⟩
        · have hsize := Nat.eq_of_beq_eq_true h0
          subst hsize; omega
        cases hcap : cap with
        | none => rw [hcap] at hk; cases hk
        | some c' => rw [hcap] at hk; cases hk; rw [hc c' hcap]
    · rename_i sz nil size cl hsz
      obtain ⟨l, h, g1, g2⟩ := bndK_some h
      obtain ⟨hh, h, g3, g4⟩ := bndK_some h
      obtain ⟨h0, h⟩ := gd_some h
      rw [Bool.and_eq_true, Bool.and_eq_true, ordB_iff] at h0
      obtain ⟨⟨h0, h2⟩, h1⟩ := h0
      have h2 : 0 < sz := by simpa [Nat.blt_eq] using h2
      refine ⟨_, h, fun E B w0 x xlo xhi xmx hm hx rlo rhi rmx w => ?_⟩
      obtain rfl : xmx = none := by cases xmx with | none => rfl | some => exact rmx.elim
      have hx := rel_isl_size h0 hx
      simp only [V.rel] at hx
      rcases hx with ⟨rfl, rfl, rfl⟩ | ⟨rfl, _, b, o, cs, c, len, ho, rfl, hle, hlen, hpu, hl⟩
      · simp only [List.length_nil, Nat.zero_div] at h1 g3
        have hb := run_sliceBounds2 (P := P) (isSlice := true) (len := 0) (cap := 0) (Nat.le_refl _) g1 g2 g3 g4 rlo rhi h1.1 h1.2.1 h1.2.2 w
        have hl0 : l.toNat = 0 := by omega
        have hh0 : hh.toNat = 0 := by omega
        rw [hl0, hh0] at hb ⊢
        refine ⟨.slice none 0 0, ?_, ?_⟩
        · simp only [Instr.sliceAt, Instr.slice, Sem.run_bind, run_underlying hu, Result.andThen_ok, hb, run_sizeOf' hsz, Sem.run_pure, if_true]
        · simp only [V.rel]
          refine .inl ⟨trivial, ?_, trivial⟩
          cases lo <;> cases hi <;> simp [sliceK.islSub]
      · have hdiv : cl.length / sz = len := by rw [hlen]; exact Nat.mul_div_cancel _ h2
        rw [hdiv] at h1 g3
        have hb := run_sliceBounds2 (P := P) (isSlice := true) (len := len) (cap := c) hle g1 g2 g3 g4 rlo rhi h1.1 h1.2.1 (by omega) w
        have hmul : (hh.toNat - l.toNat) * sz = hh.toNat * sz - l.toNat * sz := Nat.sub_mul ..
        have hmle : l.toNat * sz ≤ hh.toNat * sz := Nat.mul_le_mul_right _ (by omega)
        have hmle2 : hh.toNat * sz ≤ len * sz := Nat.mul_le_mul_right _ (by omega)
        have hlen2 : ((cl.drop (l.toNat * sz)).take ((hh.toNat - l.toNat) * sz)).length = (hh.toNat - l.toNat) * sz := by
          rw [List.length_take, List.length_drop]; omega
        refine ⟨.slice (if c = l.toNat then some ⟨b, o, none⟩ else some ⟨b, o + l.toNat * sz, none⟩) (hh.toNat - l.toNat) (c - l.toNat), ?_, ?_⟩
        · have hadr : (if c = l.toNat then some (⟨b, o, none⟩ : Addr) else (some (⟨b, o, none⟩ : Addr)).map (·.add (l.toNat * sz))) = if c = l.toNat then some ⟨b, o, none⟩ else some ⟨b, o + l.toNat * sz, none⟩ := by
            simp [addr_add]
          simp only [Instr.sliceAt, Instr.slice, Sem.run_bind, run_underlying hu, Result.andThen_ok, hb, run_sizeOf' hsz, Sem.run_pure, hadr]
        · rw [islSub_eq cl sz lo hi _ _ (fun e => by rw [g1 e]; rfl) (fun e => by rw [g3 e]; simp; omega)]
          simp only [V.rel]
          by_cases hcl : c = l.toNat
          · rw [if_pos hcl]
            have hz : hh.toNat - l.toNat = 0 := by omega
            refine .inr ⟨trivial, h2, b, o, cs, c - l.toNat, hh.toNat - l.toNat, ho, rfl, by omega, hlen2, pureL_take (pureL_drop hpu), ?_⟩
            rw [hz]; simp [V.relL]
          · rw [if_neg hcl]
            refine .inr ⟨trivial, h2, b, o + l.toNat * sz, cs, c - l.toNat, hh.toNat - l.toNat, ho, rfl, by omega, hlen2, pureL_take (pureL_drop hpu), ?_⟩
            have h4 := relL_take (relL_drop hl (l.toNat * sz)) ((hh.toNat - l.toNat) * sz)
            rw [hlen2]
            rw [List.drop_take, List.take_take, Nat.min_eq_left (by omega), List.drop_drop] at h4
            exact h4
    · cases h
  · cases h

end
end Go.Rx
