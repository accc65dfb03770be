/- Plain laws of interpreterlaw15's functions: ip4.Parse (for FaultFits). -/
import Derived.Test.YteahnnchfegknaaP15q
set_option linter.unusedVariables false
set_option linter.unusedSimpArgs false
set_option maxHeartbeats 1000000
set_option maxRecDepth 100000
namespace Go.Rx.L15F
open Go.Rx

/-- Why a packet may not be. -/
def why4 (p : Ip4) : Int :=
  if ¬ ((0 ≤ p.Tos ∧ p.Tos ≤ 255) ∧ (0 ≤ p.Ttl ∧ p.Ttl ≤ 255) ∧ (0 ≤ p.Proto ∧ p.Proto ≤ 255) ∧ (0 ≤ p.Id ∧ p.Id ≤ 65535) ∧ (0 ≤ p.At ∧ p.At ≤ 65528) ∧ p.At.tmod 8 = 0) then 13
  else if 40 < p.Options.length ∨ p.Options.length % 4 ≠ 0 ∨ p.More = true ∧ (p.Data = [] ∨ p.Data.length % 8 ≠ 0) then 8
  else if 65515 - (p.Options.length : Int) - p.At < p.Data.length then 3 else 0

theorem F63_spec {p : Ip4} (ho : p.Options.length ≤ 1000000) (hd : p.Data.length ≤ 1000000) : F63 p = some (why4 p) := by
  unfold F63 why4
  simp only [within1, Option.bind_some, wand, cc, Bool.and_true]
  have hfit : (!(decide (0 ≤ p.Tos ∧ p.Tos ≤ 255) && (decide (0 ≤ p.Ttl ∧ p.Ttl ≤ 255) && decide (0 ≤ p.Proto ∧ p.Proto ≤ 255))) || (ltI p.Id 0 || (ltI 65535 p.Id || (ltI p.At 0 || (ltI 65528 p.At || !p.At.tmod 8 == 0))))) =
      decide (¬ ((0 ≤ p.Tos ∧ p.Tos ≤ 255) ∧ (0 ≤ p.Ttl ∧ p.Ttl ≤ 255) ∧ (0 ≤ p.Proto ∧ p.Proto ≤ 255) ∧ (0 ≤ p.Id ∧ p.Id ≤ 65535) ∧ (0 ≤ p.At ∧ p.At ≤ 65528) ∧ p.At.tmod 8 = 0)) := by
    rw [Bool.eq_iff_iff]
    simp only [ltI_eq, beq_dec, Bool.or_eq_true, Bool.not_eq_true', Bool.and_eq_false_iff, decide_eq_true_eq, decide_eq_false_iff_not]
    omega
  rw [hfit]
  by_cases c1 : ¬ ((0 ≤ p.Tos ∧ p.Tos ≤ 255) ∧ (0 ≤ p.Ttl ∧ p.Ttl ≤ 255) ∧ (0 ≤ p.Proto ∧ p.Proto ≤ 255) ∧ (0 ≤ p.Id ∧ p.Id ≤ 65535) ∧ (0 ≤ p.At ∧ p.At ≤ 65528) ∧ p.At.tmod 8 = 0)
  · rw [decide_eq_true c1, cond_true, if_pos c1]
  rw [decide_eq_false c1, cond_false, if_neg c1]
  have hAt : 0 ≤ p.At ∧ p.At ≤ 65528 := (Classical.byContradiction c1 : _ ∧ _).2.2.2.2.1
  have hb : (bif ltI 40 (p.Options.length : Int) then some true else bif !(p.Options.length : Int).tmod 4 == 0 then some true else bif p.More then bif p.Data == [] then some true else some (!(p.Data.length : Int).tmod 8 == 0) else some false) =
      some (decide (40 < p.Options.length ∨ p.Options.length % 4 ≠ 0 ∨ p.More = true ∧ (p.Data = [] ∨ p.Data.length % 8 ≠ 0))) := by
    rw [Int.tmod_eq_emod_of_nonneg (by omega), Int.tmod_eq_emod_of_nonneg (by omega), beq_dec, beq_dec]
    by_cases k1 : 40 < p.Options.length
    · rw [ltI_t (by omega), cond_true, decide_eq_true (.inl k1)]
    rw [ltI_f (by omega), cond_false]
    by_cases k2 : p.Options.length % 4 ≠ 0
    · rw [decide_eq_false (by omega), Bool.not_false, cond_true, decide_eq_true (.inr (.inl k2))]
    rw [decide_eq_true (by omega), Bool.not_true, cond_false]
    cases hm : p.More with
    | false => rw [cond_false, decide_eq_false]; simp; omega
    | true =>
      rw [cond_true]
      by_cases k3 : p.Data = []
      · rw [show (p.Data == []) = true by rw [k3]; rfl, cond_true, decide_eq_true]; exact .inr (.inr ⟨rfl, .inl k3⟩)
      · rw [show (p.Data == []) = false by rw [beq_eq_false_iff_ne]; exact k3, cond_false]
        congr 1; rw [Bool.eq_iff_iff, Bool.not_eq_true', decide_eq_false_iff_not, decide_eq_true_eq]
        constructor
        · intro h; exact .inr (.inr ⟨rfl, .inr (by omega)⟩)
        · rintro (h | h | ⟨_, h | h⟩)
          · omega
          · omega
          · exact absurd h k3
          · omega
  rw [cc] at hb
  rw [hb, Option.bind_some]
  by_cases c2 : 40 < p.Options.length ∨ p.Options.length % 4 ≠ 0 ∨ p.More = true ∧ (p.Data = [] ∨ p.Data.length % 8 ≠ 0)
  · rw [decide_eq_true c2, cond_true, if_pos c2]
  rw [decide_eq_false c2, cond_false, if_neg c2, wrap_i64 (n := 65515 - (p.Options.length : Int)) (by omega) (by omega), wrap_i64 (n := 65515 - (p.Options.length : Int) - p.At) (by omega) (by omega), ltI_eq]
  by_cases c3 : 65515 - (p.Options.length : Int) - p.At < p.Data.length
  · rw [decide_eq_true c3, cond_true, if_pos c3]
  · rw [decide_eq_false c3, cond_false, if_neg c3]
end Go.Rx.L15F
namespace Go.Rx.L15F
open Go.Rx

theorem F62_spec {s : List UInt8} {i : Nat} (h : i + 1 < s.length) (hs : s.length ≤ 1000000000) : F62 i s = some (two s i) := by
  have h1 := bt_range s i
  have h2 := bt_range s (i + 1 : Nat)
  unfold F62
  rw [gd_true (inB_iff.2 ⟨by omega, by omega⟩), wrap_i64 (n := (i : Int) + 1) (by omega) (by omega), gd_true (inB_iff.2 ⟨by omega, by omega⟩)]
  rw [show ((i : Int) + 1) = ((i + 1 : Nat) : Int) by omega]
  rw [wrap_i64 (n := bt s i) (by omega) (by omega), wrap_i64 (n := bt s i * 256) (by omega) (by omega), wrap_i64 (n := bt s (i + 1 : Nat)) (by omega) (by omega), ior_256 (by omega) (by omega) (by omega) (by omega)]
  rfl

/-- A packet of IPv4, read. -/
def par24 (s : List UInt8) : Ip4 × Err × Unit :=
  if s.length < 20 then (none4, some (7, 0), ())
  else if bt s 0 / 16 ≠ 4 ∨ hl s < 20 then (none4, some (8, 0), ())
  else if s.length < hl s then (none4, some (7, 0), ())
  else if fold1 (ws false false (s.take (hl s))) ≠ 65535 then (none4, some (9, 0), ())
  else if two s 2 < hl s then (none4, some (8, 0), ())
  else if (s.length : Int) < two s 2 then (none4, some (7, 0), ())
  else if two s 6 ≥ 32768 ∨ why4 (ip4of s) ≠ 0 then (none4, some (8, 0), ())
  else (ip4of s, none, ())

theorem F24_spec {s : List UInt8} (hs : s.length ≤ 1000000) : F24 s = some (par24 s) := by
  have b0 := bt_range s 0
  have hn : IntKind.i64.wrap (IntKind.i64.wrap (iand IntKind.u8 (bt s 0) 15) * 4) = (hl s : Int) := by
    have e := iand_mask_u8 (n := bt s 0) 4 (by omega) (by omega) (by omega)
    rw [show (((2 : Nat) ^ 4 - 1 : Nat) : Int) = 15 from rfl, show (((2 : Nat) ^ 4 : Nat) : Int) = 16 from rfl] at e
    rw [e, hl_eq, wrap_i64 (n := bt s 0 % 16) (by omega) (by omega), wrap_i64 (by omega) (by omega)]
  have hh := hl_le s
  have h2 := two_range s 2
  have h6 := two_range s 6
  unfold F24 par24
  simp only [hn, F61, errK, Option.bind_some]
  by_cases c1 : s.length < 20
  · rw [ltI_t (by omega), cond_true, if_pos c1]; rfl
  rw [ltI_f (by omega), cond_false, if_neg c1]
  have i0 : inB 0 s.length = true := inB_iff.2 ⟨by omega, by omega⟩
  rw [gd_true i0, gd_true i0, Int.fdiv_eq_ediv_of_nonneg _ (by omega), ltI_eq]
  have hb : (bif !bt s 0 / 16 == 4 then some true else some (decide ((hl s : Int) < 20))) = some (decide (bt s 0 / 16 ≠ 4 ∨ hl s < 20)) := by
    rw [beq_dec]
    by_cases k : bt s 0 / 16 = 4
    · rw [decide_eq_true k, Bool.not_true, cond_false]; congr 1; rw [Bool.eq_iff_iff, decide_eq_true_eq, decide_eq_true_eq]; omega
    · rw [decide_eq_false k, Bool.not_false, cond_true, decide_eq_true (.inl k)]
  rw [hb, Option.bind_some]
  by_cases c2 : bt s 0 / 16 ≠ 4 ∨ hl s < 20
  · rw [decide_eq_true c2, cond_true, if_pos c2]; rfl
  rw [decide_eq_false c2, cond_false, if_neg c2]
  by_cases c3 : s.length < hl s
  · rw [ltI_t (by omega), cond_true, if_pos c3]; rfl
  rw [ltI_f (by omega), cond_false, if_neg c3, gd_ord (by omega), Int.toNat_natCast, sub_ns (by omega)]
  have hw := ws_range false (s.take (hl s)) false
  have hlen : (s.take (hl s)).length ≤ 60 := by rw [List.length_take]; omega
  have hf := fold1_range hw.1
  rw [F93_0 (by omega), Option.bind_some, F92_spec (by omega) (by omega)]
  simp only [Option.bind_some]
  rw [wrap_i64 (n := 65535 - _) (by omega) (by omega), beq_dec]
  by_cases c4 : fold1 (ws false false (s.take (hl s))) ≠ 65535
  · rw [decide_eq_false (by omega), Bool.not_false, cond_true, if_pos c4]; rfl
  rw [decide_eq_true (by omega), Bool.not_true, cond_false, if_neg c4]
  have g2 := F62_spec (s := s) (i := 2) (by omega) (by omega)
  have g6 := F62_spec (s := s) (i := 6) (by omega) (by omega)
  have g4 := F62_spec (s := s) (i := 4) (by omega) (by omega)
  rw [show ((2 : Nat) : Int) = 2 from rfl] at g2
  rw [show ((6 : Nat) : Int) = 6 from rfl] at g6
  rw [show ((4 : Nat) : Int) = 4 from rfl] at g4
  rw [g2, Option.bind_some, g6, Option.bind_some]
  by_cases c5 : two s 2 < hl s
  · rw [ltI_t c5, cond_true, if_pos c5]; rfl
  rw [ltI_f c5, cond_false, if_neg c5]
  by_cases c6 : (s.length : Int) < two s 2
  · rw [ltI_t c6, cond_true, if_pos c6]; rfl
  rw [ltI_f c6, cond_false, if_neg c6]
  have b1 := bt_range s 1
  have b8 := bt_range s 8
  have b9 := bt_range s 9
  have e12 : ∀ (k : Nat) (v : V), sub s (some v) none k (s.length : Int).toNat = s.drop k := fun k v => rfl
  rw [gd_in (by omega), g4, Option.bind_some, gd_in (by omega), gd_in (by omega), gd_ord (by omega), gd_ord (by omega), gd_ord (by omega), e12, e12, gd_true (by rw [Bool.and_true]; exact Nat.ble_eq_true_of_le (by rw [List.length_drop]; omega)), gd_ord (by omega),
    gd_true (by rw [Bool.and_true]; exact Nat.ble_eq_true_of_le (by rw [List.length_drop]; omega))]
  rw [wrap_i64 (n := bt s 1) (by omega) (by omega), wrap_i64 (n := bt s 8) (by omega) (by omega), wrap_i64 (n := bt s 9) (by omega) (by omega), iand_13 h6.1 h6.2, iand_14 h6.1 h6.2, iand_13b h6.1 h6.2, iand_15 h6.1 h6.2, Bool.not_not, Bool.not_not, wrap_i64 (n := two s 6 % 8192 * 8) (by omega) (by omega)]
  have eo : sub s (some (V.int IntKind.i64 20)) (some (V.int IntKind.i64 (hl s))) 20 (hl s) = (s.drop 20).take (hl s - 20) := sub_ss (by omega)
  have ed : sub s (some (V.int IntKind.i64 (hl s))) (some (V.int IntKind.i64 (two s 2))) (hl s) (two s 2).toNat = data4 s := by
    rw [sub_ss (by omega)]; unfold data4; congr 1; omega
  have d0 : bt (s.drop 12) 0 = bt s 12 := bt_drop s 12 0
  have d1 : bt (s.drop 12) 1 = bt s 13 := bt_drop s 12 1
  have d2 : bt (s.drop 12) 2 = bt s 14 := bt_drop s 12 2
  have d3 : bt (s.drop 12) 3 = bt s 15 := bt_drop s 12 3
  have d4 : bt (s.drop 16) 0 = bt s 16 := bt_drop s 16 0
  have d5 : bt (s.drop 16) 1 = bt s 17 := bt_drop s 16 1
  have d6 : bt (s.drop 16) 2 = bt s 18 := bt_drop s 16 2
  have d7 : bt (s.drop 16) 3 = bt s 19 := bt_drop s 16 3
  have ep : ({ Tos := bt s 1, Id := two s 4, Ttl := bt s 8, Proto := bt s 9, At := two s 6 % 8192 * 8, DF := decide (two s 6 / 16384 % 2 = 1), More := decide (two s 6 / 8192 % 2 = 1), From := { b0 := bt (s.drop 12) 0, b1 := bt (s.drop 12) 1, b2 := bt (s.drop 12) 2, b3 := bt (s.drop 12) 3 }, To := { b0 := bt (s.drop 16) 0, b1 := bt (s.drop 16) 1, b2 := bt (s.drop 16) 2, b3 := bt (s.drop 16) 3 }, Options := sub s (some (V.int IntKind.i64 20)) (some (V.int IntKind.i64 (hl s))) 20 (hl s), Data := sub s (some (V.int IntKind.i64 (hl s))) (some (V.int IntKind.i64 (two s 2))) (hl s) (two s 2).toNat } : Ip4) = ip4of s := by
    rw [eo, ed, d0, d1, d2, d3, d4, d5, d6, d7]; rfl
  rw [ep]
  have hol : (ip4of s).Options.length ≤ 1000000 := by
    show ((s.drop 20).take (hl s - 20)).length ≤ _
    rw [List.length_take]; omega
  have hdl : (ip4of s).Data.length ≤ 1000000 := by
    have := data4_len s
    show (data4 s).length ≤ _
    omega
  rw [F63_spec hol hdl, Option.bind_some]
  have hb2 : (bif !decide (two s 6 < 32768) then some true else some (!why4 (ip4of s) == 0)) = some (decide (two s 6 ≥ 32768 ∨ why4 (ip4of s) ≠ 0)) := by
    rw [beq_dec]
    by_cases k : two s 6 < 32768
    · rw [decide_eq_true k, Bool.not_true, cond_false]; congr 1; rw [Bool.eq_iff_iff, Bool.not_eq_true', decide_eq_false_iff_not, decide_eq_true_eq]; omega
    · rw [decide_eq_false k, Bool.not_false, cond_true, decide_eq_true (.inl (by omega))]
  rw [hb2, Option.bind_some]
  by_cases c7 : two s 6 ≥ 32768 ∨ why4 (ip4of s) ≠ 0
  · rw [decide_eq_true c7, cond_true, if_pos c7]; rfl
  · rw [decide_eq_false c7, cond_false, if_neg c7]
end Go.Rx.L15F
