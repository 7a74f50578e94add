/-
  The law FnExactIsInvolutive answers true, and leaves what was there as it was: at every pair of lists of lists of integers.
-/
import Derived.Test.YtbljjjhppojnaaaT1
import Derived.Deep.RegionHeld3
namespace Go.Proofs.Ytbljjjhppojnaaa
open Go.RowKit

def ivF (A B : List (List Int)) (x y : Nat) : Bool := decide (val2 A (val2 A x y) (val2 B x y) = x) && decide (val2 B (val2 A x y) (val2 B x y) = y)
def involL (A B : List (List Int)) : Bool := all2 A.length (ivF A B)

set_option maxHeartbeats 800000 in
theorem c_l02Twice (v0 u0 : Value) (A B : List (List Int)) (w : World) (hA : Sol w v0 u0 A B) (hp : isPM A B = true) :
    Calls Try.prog 63 #[.agg #[v0, u0]] w (RVal w (.bool (involL A B))) := by
  obtain ⟨n0, b0, o0, c0, rb0, ro0, rc0, b0s, o0s, c0s, rb0s, ro0s, rc0s, rfl, rfl, hl0, hl0s, hn0, hx0, hc0, hm0, hc0s, hm0s, t0, t0s⟩ := hA.tabs hp
  have HL0 := Lib.hid hl0; clear hl0
  have HL0s := Lib.hid hl0s; clear hl0s
  go_enter Try.func63, Try.ntmps63
  go_wp2
  obtain ⟨f0, hW0, hsz⟩ := boxes1 w [.slice (some ⟨b0, o0, none⟩) n0 c0, .slice (some ⟨b0s, o0s, none⟩) n0 c0s] 28
  obtain ⟨W0, hW⟩ : ∃ W, (w.alloc (.cells #[.slice (some ⟨b0, o0, none⟩) n0 c0, .slice (some ⟨b0s, o0s, none⟩) n0 c0s] 28)) = W := ⟨_, rfl⟩
  rw [hW] at f0 hW0 hsz ⊢
  clear hW hsz
  obtain ⟨cA0, cB0, -, -⟩ := two_cells f0
  replace t0 := t0.below hW0; replace t0s := t0s.below hW0
  have HT := Lib.hid t0; have HTs := Lib.hid t0s; have HW := Lib.hid hW0; have HF := Lib.hid f0
  clear t0 t0s hA hp hW0 f0 cA0 cB0
  go_loopw [3, 4, 5, 6] (fun x _ _ _ wr => ∃ k : Nat, k ≤ n0 ∧ x = .int .i64 k ∧ Hid (Below W0.heap.size W0 wr) ∧ Hid (∀ x, x < k → ∀ y, y < n0 → ivF A B x y = true)) (fun x _ _ _ _ => n0 - (intOf x).toNat)
  case atStart => exact ⟨0, Nat.zero_le _, rfl, Lib.hid (Below.refl _ _), Lib.hid (by intro x hx; omega)⟩
  case round =>
    obtain ⟨k, hk, rfl, HB1, HA⟩ := hrel
    obtain ⟨wo, rfl⟩ : ∃ wo : World, wo = wr := ⟨_, rfl⟩
    obtain ⟨cA1, cB1, -, -⟩ := two_cells (HF.out.under HB1.out)
    by_cases hlt : k < n0
    · go_wp2
      go_loopw [4, 5, 6] (fun y _ _ wi => ∃ j : Nat, j ≤ n0 ∧ y = .int .i64 j ∧ Hid (Below W0.heap.size W0 wi) ∧ Hid (∀ y, y < j → ivF A B k y = true)) (fun y _ _ _ => n0 - (intOf y).toNat)
      case atStart => exact ⟨0, Nat.zero_le _, rfl, HB1, Lib.hid (by intro x hx; omega)⟩
      case round =>
        clear cA1 cB1
        obtain ⟨j, hj, rfl, HB2, HA2⟩ := hrel
        obtain ⟨cA2, cB2, -, -⟩ := two_cells (HF.out.under HB2.out)
        by_cases hlj : j < n0
        · have T := HT.out.below HB2.out; have Ts := HTs.out.below HB2.out
          have r1 := T.row k hlt; have x1 := T.val k j hlt hlj; have r2 := Ts.row k hlt; have x2 := Ts.val k j hlt hlj
          obtain ⟨hu0, hu1⟩ := T.rng k j (by omega) (by omega) (by omega) (by omega)
          obtain ⟨hv0, hv1⟩ := Ts.rng k j (by omega) (by omega) (by omega) (by omega)
          have r3 := T.rowi (val2 A k j) hu0 hu1; have x3 := T.vali (val2 A k j) (val2 B k j) hu0 hu1 hv0 hv1
          have r4 := Ts.rowi (val2 A k j) hu0 hu1; have x4 := Ts.vali (val2 A k j) (val2 B k j) hu0 hu1 hv0 hv1
          have hk0 : (0 : Int) ≤ k := by omega
          have hk1 : (k : Int) < n0 := by omega
          have hj0 : (0 : Int) ≤ j := by omega
          have hj1 : (j : Int) < n0 := by omega
          clear T Ts
          by_cases h1 : val2 A (val2 A k j) (val2 B k j) = k
          · have e1 : (val2 A (val2 A k j) (val2 B k j) != (k : Int)) = false := by simp [h1]
            by_cases h2 : val2 B (val2 A k j) (val2 B k j) = j
            · have e2 : (val2 B (val2 A k j) (val2 B k j) != (j : Int)) = false := by simp [h2]
              have H1 := Lib.hid h1; have H2 := Lib.hid h2; clear h1 h2
              go_wp2
              go_quiet (fail)
              go_wp2
              go_roundw
              case rel => exact ⟨j + 1, by omega, by go_num, Lib.hid (below_drewN HB2.out _), Lib.hid (lt_snoc HA2.out (by simp [ivF, H1.out, H2.out]))⟩
              case measure => simp [intOf]; omega
            · have e2 : (val2 B (val2 A k j) (val2 B k j) != (j : Int)) = true := by simp [h2]
              have H2 := Lib.hid h2; clear h1 h2
              go_wp2
              go_quiet (fail)
              go_wp2
              go_ret
              exact ⟨ret_bool (by simp [involL, HL0.out, all2_no hlt hlj (P := ivF A B) (by simp [ivF, H2.out])]), bb HW.out (below_drewN HB2.out _)⟩
          · have e1 : (val2 A (val2 A k j) (val2 B k j) != (k : Int)) = true := by simp [h1]
            have H1 := Lib.hid h1; clear h1
            go_wp2
            go_quiet (fail)
            go_wp2
            go_ret
            exact ⟨ret_bool (by simp [involL, HL0.out, all2_no hlt hlj (P := ivF A B) (by simp [ivF, H1.out])]), bb HW.out (below_drewN HB2.out _)⟩
        · obtain rfl : j = n0 := by omega
          go_wp2
          go_roundw
          case rel => exact ⟨k + 1, by omega, by go_num, HB2, Lib.hid (lt_snoc HA.out HA2.out)⟩
          case measure => simp [intOf]; omega
    · obtain rfl : k = n0 := by omega
      go_wp2
      go_ret
      exact ⟨ret_bool (by simp [involL, HL0.out, all2_iff.2 HA.out]), bb HW.out HB1.out⟩

set_option maxHeartbeats 800000 in
theorem c_isInvolutive (v0 u0 : Value) (A B : List (List Int)) (w : World) (hA : Sol w v0 u0 A B) (hp : isPM A B = true) :
    Calls Try.prog 64 #[.agg #[v0, u0]] w (RVal w (.bool (involL A B))) := by
  obtain ⟨n0, b0, o0, c0, rb0, ro0, rc0, b0s, o0s, c0s, rb0s, ro0s, rc0s, rfl, rfl, hl0, hl0s, hn0, hx0, hc0, hm0, hc0s, hm0s, t0, t0s⟩ := hA.tabs hp
  have HL0 := Lib.hid hl0; clear hl0
  have HL0s := Lib.hid hl0s; clear hl0s
  go_enter Try.func64, Try.ntmps64
  go_wp2
  obtain ⟨f0, hW0, hsz⟩ := boxes1 w [.slice (some ⟨b0, o0, none⟩) n0 c0, .slice (some ⟨b0s, o0s, none⟩) n0 c0s] 28
  obtain ⟨W0, hW⟩ : ∃ W, (w.alloc (.cells #[.slice (some ⟨b0, o0, none⟩) n0 c0, .slice (some ⟨b0s, o0s, none⟩) n0 c0s] 28)) = W := ⟨_, rfl⟩
  rw [hW] at f0 hW0 hsz ⊢
  clear hW hsz
  obtain ⟨cA0, cB0, -, -⟩ := two_cells f0
  replace t0 := t0.below hW0; replace t0s := t0s.below hW0
  have HT := Lib.hid t0; have HTs := Lib.hid t0s; have HW := Lib.hid hW0; have HF := Lib.hid f0
  clear t0 t0s hA hp hW0 f0
  go_loop [11, 3, 4, 5, 6, 7] (fun i _ _ _ _ _ => ∃ k : Nat, k ≤ n0 ∧ i = .int .i64 k ∧ Hid (∀ x, x < k → ∀ y, y < n0 → ivF A B x y = true)) (fun i _ _ _ _ _ => n0 - (intOf i).toNat)
  case atStart => exact ⟨0, Nat.zero_le _, rfl, Lib.hid (by intro x hx; omega)⟩
  case round =>
    obtain ⟨k, hk, rfl, HA⟩ := hrel
    by_cases hlt : k < n0
    · have r1 := HT.out.row k hlt
      go_wp2
      go_loop [18, 5, 6, 7] (fun i _ _ _ => ∃ j : Nat, j ≤ n0 ∧ i = .int .i64 j ∧ Hid (∀ y, y < j → ivF A B k y = true)) (fun i _ _ _ => n0 - (intOf i).toNat)
      case atStart => exact ⟨0, Nat.zero_le _, rfl, Lib.hid (by intro x hx; omega)⟩
      case round =>
        obtain ⟨j, hj, rfl, HA2⟩ := hrel
        by_cases hlj : j < n0
        · have T := HT.out; have Ts := HTs.out
          have x1 := T.val k j hlt hlj; have r2 := Ts.row k hlt; have x2 := Ts.val k j hlt hlj
          obtain ⟨hu0, hu1⟩ := T.rng k j (by omega) (by omega) (by omega) (by omega)
          obtain ⟨hv0, hv1⟩ := Ts.rng k j (by omega) (by omega) (by omega) (by omega)
          have r3 := T.rowi (val2 A k j) hu0 hu1; have x3 := T.vali (val2 A k j) (val2 B k j) hu0 hu1 hv0 hv1
          have r4 := Ts.rowi (val2 A k j) hu0 hu1; have x4 := Ts.vali (val2 A k j) (val2 B k j) hu0 hu1 hv0 hv1
          clear T Ts
          by_cases h1 : val2 A (val2 A k j) (val2 B k j) = k
          · have e1 : (val2 A (val2 A k j) (val2 B k j) != (k : Int)) = false := by simp [h1]
            by_cases h2 : val2 B (val2 A k j) (val2 B k j) = j
            · have e2 : (val2 B (val2 A k j) (val2 B k j) != (j : Int)) = false := by simp [h2]
              have H1 := Lib.hid h1; have H2 := Lib.hid h2; clear h1 h2
              go_wp2
              go_round
              case rel => exact ⟨j + 1, by omega, by go_num, Lib.hid (lt_snoc HA2.out (by simp [ivF, H1.out, H2.out]))⟩
              case measure => simp [intOf]; omega
            · have e2 : (val2 B (val2 A k j) (val2 B k j) != (j : Int)) = true := by simp [h2]
              have H2 := Lib.hid h2; clear h1 h2
              go_wp2
              go_ret
              exact ⟨ret_bool (by simp [involL, HL0.out, all2_no hlt hlj (P := ivF A B) (by simp [ivF, H2.out])]), HW.out⟩
          · have e1 : (val2 A (val2 A k j) (val2 B k j) != (k : Int)) = true := by simp [h1]
            have H1 := Lib.hid h1; clear h1
            go_wp2
            go_ret
            exact ⟨ret_bool (by simp [involL, HL0.out, all2_no hlt hlj (P := ivF A B) (by simp [ivF, H1.out])]), HW.out⟩
        · obtain rfl : j = n0 := by omega
          go_wp2
          go_round
          case rel => exact ⟨k + 1, by omega, by go_num, Lib.hid (lt_snoc HA.out HA2.out)⟩
          case measure => simp [intOf]; omega
    · obtain rfl : k = n0 := by omega
      go_wp2
      go_ret
      exact ⟨ret_bool (by simp [involL, HL0.out, all2_iff.2 HA.out]), HW.out⟩

def pmCode' (A B : List (List Int)) : Int := if isPM A B then 0 else 1
def involRes (A B : List (List Int)) : Bool := if isPM A B then involL A B else false
set_option maxHeartbeats 800000 in
theorem c_specIsInvolutive (v0 u0 : Value) (A B : List (List Int)) (w : World) (hA : Sol w v0 u0 A B) :
    Calls Try.prog 25 #[.agg #[v0, u0]] w (RVal w (.tuple #[.bool (involRes A B), .int .i64 (pmCode' A B)])) := by
  obtain ⟨a0, c0, rfl, _, _⟩ := hA.1.shape
  obtain ⟨a0s, c0s, rfl, _, _⟩ := hA.2.shape
  by_cases hp0 : isPM A B = true
  case neg =>
    have hq0 : isPM A B = false := by simpa using hp0
    have HQ := Lib.hid hq0; clear hp0
    go_enter Try.func25, Try.ntmps25
    go_wp2_with fail
    obtain ⟨f0, hW0, hsz⟩ := boxes1 w [.slice a0 A.length c0, .slice a0s B.length c0s] 28
    obtain ⟨W0, hW⟩ : ∃ W, (w.alloc (.cells #[.slice a0 A.length c0, .slice a0s B.length c0s] 28)) = W := ⟨_, rfl⟩
    rw [hW] at f0 hW0 hsz ⊢
    clear hW hsz
    refine (c_l02Map _ _ _ _ _ (hA.below hW0)).mono ?_; rintro e g0 ⟨rfl, hbg0⟩
    have hB0 := bb hW0 hbg0
    replace f0 := f0.under hbg0
    obtain ⟨cA0, cB0, -, -⟩ := two_cells f0
    clear hbg0
    have HB := Lib.hid hB0
    clear hB0 f0 hW0 hA
    go_wp2
    go_ret2
    exact ⟨by simp [involRes, pmCode', HQ.out], HB.out⟩
  have HP0 := Lib.hid hp0
  go_enter Try.func25, Try.ntmps25
  go_wp2_with fail
  obtain ⟨f0, hW0, hsz⟩ := boxes1 w [.slice a0 A.length c0, .slice a0s B.length c0s] 28
  obtain ⟨W0, hW⟩ : ∃ W, (w.alloc (.cells #[.slice a0 A.length c0, .slice a0s B.length c0s] 28)) = W := ⟨_, rfl⟩
  rw [hW] at f0 hW0 hsz ⊢
  clear hW hsz
  refine (c_l02Map _ _ _ _ _ (hA.below hW0)).mono ?_; rintro e g0 ⟨rfl, hbg0⟩
  have hB0 := bb hW0 hbg0
  replace f0 := f0.under hbg0
  obtain ⟨cA0, cB0, -, -⟩ := two_cells f0
  clear hbg0
  go_wp2_with fail
  refine (c_l02Twice _ _ _ _ _ (hA.below hB0) HP0.out).mono ?_; rintro e wz ⟨rfl, hb⟩
  have HB := Lib.hid (bb hB0 hb)
  clear hb hB0 f0 hW0 hA
  go_wp2
  go_ret2
  exact ⟨by simp [involRes, pmCode', HP0.out], HB.out⟩
set_option maxHeartbeats 800000 in
theorem c_IsInvolutive (v0 u0 : Value) (A B : List (List Int)) (w : World) (hA : Sol w v0 u0 A B) :
    Calls Try.prog 26 #[.agg #[v0, u0]] w (RVal w (.tuple #[.bool (involRes A B), .int .i64 (pmCode' A B)])) := by
  obtain ⟨a0, c0, rfl, _, _⟩ := hA.1.shape
  obtain ⟨a0s, c0s, rfl, _, _⟩ := hA.2.shape
  by_cases hp0 : isPM A B = true
  case neg =>
    have hq0 : isPM A B = false := by simpa using hp0
    have HQ := Lib.hid hq0; clear hp0
    go_enter Try.func26, Try.ntmps26
    go_wp2_with fail
    obtain ⟨f0, hW0, hsz⟩ := boxes1 w [.slice a0 A.length c0, .slice a0s B.length c0s] 28
    obtain ⟨W0, hW⟩ : ∃ W, (w.alloc (.cells #[.slice a0 A.length c0, .slice a0s B.length c0s] 28)) = W := ⟨_, rfl⟩
    rw [hW] at f0 hW0 hsz ⊢
    clear hW hsz
    refine (c_IsPairMap _ _ _ _ _ (hA.below hW0)).mono ?_; rintro e g0 ⟨rfl, hbg0⟩
    have hB0 := bb hW0 hbg0
    replace f0 := f0.under hbg0
    obtain ⟨cA0, cB0, -, -⟩ := two_cells f0
    clear hbg0
    have HB := Lib.hid hB0
    clear hB0 f0 hW0 hA
    go_wp2
    go_ret2
    exact ⟨by simp [involRes, pmCode', HQ.out], HB.out⟩
  have HP0 := Lib.hid hp0
  go_enter Try.func26, Try.ntmps26
  go_wp2_with fail
  obtain ⟨f0, hW0, hsz⟩ := boxes1 w [.slice a0 A.length c0, .slice a0s B.length c0s] 28
  obtain ⟨W0, hW⟩ : ∃ W, (w.alloc (.cells #[.slice a0 A.length c0, .slice a0s B.length c0s] 28)) = W := ⟨_, rfl⟩
  rw [hW] at f0 hW0 hsz ⊢
  clear hW hsz
  refine (c_IsPairMap _ _ _ _ _ (hA.below hW0)).mono ?_; rintro e g0 ⟨rfl, hbg0⟩
  have hB0 := bb hW0 hbg0
  replace f0 := f0.under hbg0
  obtain ⟨cA0, cB0, -, -⟩ := two_cells f0
  clear hbg0
  go_wp2_with fail
  refine (c_isInvolutive _ _ _ _ _ (hA.below hB0) HP0.out).mono ?_; rintro e wz ⟨rfl, hb⟩
  have HB := Lib.hid (bb hB0 hb)
  clear hb hB0 f0 hW0 hA
  go_wp2
  go_ret2
  exact ⟨by simp [involRes, pmCode', HP0.out], HB.out⟩
set_option maxHeartbeats 4000000 in
theorem law_IsInvolutive (v0 u0 : Value) (x0 y0 : List (List Int)) (w : World) (hr0 : Rows w v0 x0) (hr0' : Rows w u0 y0) :
    Calls Try.prog 5 #[.agg #[v0, u0]] w (RVal w (.bool true)) := by
  obtain ⟨a0, c0, rfl, hc0, hm0⟩ := hr0.shape
  obtain ⟨a0s, c0s, rfl, hc0s, hm0s⟩ := hr0'.shape
  have hx0 : Sol w (.slice a0 x0.length c0) (.slice a0s y0.length c0s) x0 y0 := ⟨hr0, hr0'⟩
  clear hr0 hr0'
  go_enter Try.func5, Try.ntmps5
  go_wp2_with fail
  obtain ⟨bx0, BW, hsz0⟩ := boxes1 w [.slice a0 x0.length c0, .slice a0s y0.length c0s] 24
  obtain ⟨W0, hW0⟩ : ∃ W, (w.alloc (.cells #[.slice a0 x0.length c0, .slice a0s y0.length c0s] 24)) = W := ⟨_, rfl⟩
  rw [hW0] at bx0 BW hsz0 ⊢
  have hs0 : w.heap.size + 1 ≤ W0.heap.size := by omega
  clear hW0 hsz0
  refine (c_szSolution _ _ _ _ _ _ (hx0.below BW) (by omega) (by omega)).mono ?_; rintro e w1 ⟨rfl, hb1⟩
  have hs1 := hb1.size
  replace BW := bb BW hb1
  replace bx0 := bx0.under hb1
  obtain ⟨cA0, cB0, -, -⟩ := two_cells bx0
  clear hb1
  by_cases hg0 : leftS x0 y0 (1048576) < 0
  case pos =>
    have HB := Lib.hid BW; clear BW
    go_wp2
    go_ret
    exact ⟨rfl, HB.out⟩
  have hf0 := leftS_fits (left := 1048576) (by omega) (by omega) hg0
  have Hf0 := Lib.hid hf0
  clear hf0
  have hf0 : (x0.length ≤ 1048576 ∧ total x0 ≤ 1048576) ∧ (y0.length ≤ 1048576 ∧ total y0 ≤ 1048576) ∧ 0 ≤ leftS x0 y0 (1048576) ∧ leftS x0 y0 (1048576) ≤ 1048576 := ⟨⟨Hf0.out.1.1, Hf0.out.1.2.2⟩, ⟨Hf0.out.2.1.1, Hf0.out.2.1.2.2⟩, Hf0.out.2.2⟩
  obtain ⟨R0, hR0⟩ : ∃ z, z = involRes x0 y0 := ⟨_, rfl⟩
  obtain ⟨R1, hR1⟩ : ∃ z, z = pmCode' x0 y0 := ⟨_, rfl⟩
  have HR0 := Lib.hid hR0
  clear hR0
  have HR1 := Lib.hid hR1
  clear hR1
  have hk0 : (R0 != R0) = false := by simp
  have hk1 : (R1 != R1) = false := by simp
  have hda0 : decide (x0 = x0 ∧ y0 = y0) = true := by simp
  go_wp2_with fail
  refine (c_toSolution _ _ _ _ _ (hx0.below BW) hf0.1.1 Hf0.out.1.2.1 hf0.2.1.1 Hf0.out.2.1.2.1).mono ?_; rintro e w2 ⟨t11, t12, rfl, ot1, hb2⟩
  have hs2 := hb2.size
  replace BW := bb BW hb2
  replace bx0 := bx0.under hb2
  clear cA0 cB0
  obtain ⟨cA0, cB0, -, -⟩ := two_cells bx0
  clear hb2
  go_wp2_with fail
  refine (c_specIsInvolutive _ _ _ _ _ (ot1.sol)).mono ?_
  rw [← HR0.out, ← HR1.out]
  rintro e w3 ⟨rfl, hb3⟩
  have hs3 := hb3.size
  replace ot1 := ot1.under hb3
  replace BW := bb BW hb3
  replace bx0 := bx0.under hb3
  clear cA0 cB0
  obtain ⟨cA0, cB0, -, -⟩ := two_cells bx0
  clear ot1
  clear hb3
  go_wp2_with fail
  refine (c_toSolution _ _ _ _ _ (hx0.below BW) hf0.1.1 Hf0.out.1.2.1 hf0.2.1.1 Hf0.out.2.1.2.1).mono ?_; rintro e w4 ⟨z01, z02, rfl, oz0, hb4⟩
  have hs4 := hb4.size
  replace BW := bb BW hb4
  replace bx0 := bx0.under hb4
  clear cA0 cB0
  obtain ⟨cA0, cB0, -, -⟩ := two_cells bx0
  clear hb4
  obtain ⟨saz0, scz0, hvz0, _, _⟩ := oz0.sol.1.shape
  subst hvz0
  obtain ⟨sbz0, sdz0, hvz0, _, _⟩ := oz0.sol.2.shape
  subst hvz0
  go_wp2_with fail
  obtain ⟨bxz0, hb5, hz5⟩ := boxes1 w4 [.slice saz0 x0.length scz0, .slice sbz0 y0.length sdz0] 28
  obtain ⟨w5, hW5⟩ : ∃ W, w4.alloc (.cells #[.slice saz0 x0.length scz0, .slice sbz0 y0.length sdz0] 28) = W := ⟨_, rfl⟩
  rw [hW5] at bxz0 hb5 hz5 ⊢
  have hs5 : w4.heap.size + 1 ≤ w5.heap.size := by omega
  clear hW5 hz5
  replace oz0 := oz0.under hb5
  replace BW := bb BW hb5
  replace bx0 := bx0.under hb5
  clear cA0 cB0
  obtain ⟨cA0, cB0, -, -⟩ := two_cells bx0
  obtain ⟨cAz0, cBz0, -, -⟩ := two_cells bxz0
  clear hb5
  refine (c_IsInvolutive _ _ _ _ _ (oz0.sol)).mono ?_
  rw [← HR0.out, ← HR1.out]
  rintro e w6 ⟨rfl, hb6⟩
  have hs6 := hb6.size
  replace oz0 := oz0.under hb6
  replace BW := bb BW hb6
  replace bx0 := bx0.under hb6
  clear cA0 cB0
  obtain ⟨cA0, cB0, -, -⟩ := two_cells bx0
  replace bxz0 := bxz0.under hb6
  clear cAz0 cBz0
  obtain ⟨cAz0, cBz0, -, -⟩ := two_cells bxz0
  clear hb6
  go_wp2_with fail
  have BWd := BW.drew
  have oz0d := oz0.keep ((Keep.refl (fun _ => False) w6).drew) (fun _ _ _ h => h)
  have bx0d := bx0.drew
  have bxz0d := bxz0.drew
  go_region_held3 (fun w' => w'.cell? ⟨w.heap.size, 0, none⟩ = some (.slice a0 x0.length c0) ∧ w'.cell? ⟨w.heap.size, 1, none⟩ = some (.slice a0s y0.length c0s) ∧ w'.cell? ⟨w4.heap.size, 0, none⟩ = some (.slice saz0 x0.length scz0) ∧ w'.cell? ⟨w4.heap.size, 1, none⟩ = some (.slice sbz0 y0.length sdz0))
    (first | go_keep | exact ⟨(two_cells (bx0d.under hb7)).1, (two_cells (bx0d.under hb7)).2.1, (two_cells (bxz0d.under hb7)).1, (two_cells (bxz0d.under hb7)).2.1⟩ | exact ⟨(two_cells ((bx0d.under hb7).under hb8)).1, (two_cells ((bx0d.under hb7).under hb8)).2.1, (two_cells ((bxz0d.under hb7).under hb8)).1, (two_cells ((bxz0d.under hb7).under hb8)).2.1⟩)
    ((first | (go_at_call 17; refine (c_toSolution _ _ _ _ _ (hx0.below BWd) hf0.1.1 Hf0.out.1.2.1 hf0.2.1.1 Hf0.out.2.1.2.1).mono ?_; rintro e w7 ⟨t71, t72, rfl, ot7, hb7⟩) | (go_at_call 19; refine (c_eqS _ _ _ _ _ _ _ _ _ (oz0d.under hb7).sol ot7.sol).mono ?_; rintro e w8 ⟨rfl, hb8⟩)))
  have hb8z : Below w6.heap.size w6 w8 := (Below.refl _ _).drew.trans (bb hb7 hb8)
  have hs8 : w6.heap.size ≤ w8.heap.size := hb8z.size
  replace oz0 := oz0.under hb8z
  replace BW := bb BW hb8z
  replace bx0 := bx0.under hb8z
  clear cA0 cB0
  obtain ⟨cA0, cB0, -, -⟩ := two_cells bx0
  replace bxz0 := bxz0.under hb8z
  clear cAz0 cBz0
  obtain ⟨cAz0, cBz0, -, -⟩ := two_cells bxz0
  clear BWd oz0d bx0d bxz0d ot7 hb7 hb8 hb8z
  have HB := Lib.hid BW
  clear BW oz0 hx0 bx0 bxz0
  go_wp2
  go_ret
  exact ⟨rfl, HB.out⟩
end Go.Proofs.Ytbljjjhppojnaaa
