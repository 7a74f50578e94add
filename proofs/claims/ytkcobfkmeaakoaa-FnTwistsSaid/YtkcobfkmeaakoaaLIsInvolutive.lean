/-
  The law FnExactIsInvolutive answers true, and leaves what was there as it was: at every pair of lists of lists of integers.
-/
import Derived.Test.YtkcobfkmeaakoaaT1
import Derived.Deep.RegionHeld3
namespace Go.Proofs.Ytkcobfkmeaakoaa
open Go.RowKit

def ivF (A B : List (List Int)) (x y : Nat) : Bool := decide (val2 A (val2 A x y) (val2 B x y) = x) && decide (val2 B (val2 A x y) (val2 B x y) = y)
def involL (A B : List (List Int)) : Bool := all2 A.length (ivF A B)


set_option maxRecDepth 100000 in
set_option maxHeartbeats 800000 in
theorem c_isInvolutive (v0 u0 : Value) (A B : List (List Int)) (w : World) (hA : Sol w v0 u0 A B) (hp : isPM A B = true) :
    Calls Try.prog 105 #[.agg #[v0, u0]] w (RVal w (.bool (involL A B))) := by
  obtain ⟨n0, b0, o0, c0, rb0, ro0, rc0, b0s, o0s, c0s, rb0s, ro0s, rc0s, rfl, rfl, hl0, hl0s, hn0, hx0, hc0, hm0, hc0s, hm0s, t0, t0s⟩ := hA.tabs hp
  have HL0 := Lib.hid hl0; clear hl0
  have HL0s := Lib.hid hl0s; clear hl0s
  go_enter Try.func105, Try.ntmps105
  go_wp2
  obtain ⟨f0, hW0, hsz⟩ := boxes1 w [.slice (some ⟨b0, o0, none⟩) n0 c0, .slice (some ⟨b0s, o0s, none⟩) n0 c0s] 27
  obtain ⟨W0, hW⟩ : ∃ W, (w.alloc (.cells #[.slice (some ⟨b0, o0, none⟩) n0 c0, .slice (some ⟨b0s, o0s, none⟩) n0 c0s] 27)) = W := ⟨_, rfl⟩
  rw [hW] at f0 hW0 hsz ⊢
  have HSZ := Lib.hid hsz
  clear hW hsz
  obtain ⟨cA0, cB0, -, -⟩ := two_cells f0
  replace t0 := t0.below hW0; replace t0s := t0s.below hW0
  have HT := Lib.hid t0; have HTs := Lib.hid t0s; have HW := Lib.hid hW0; have HF := Lib.hid f0
  clear t0 t0s hA hp hW0 f0
  go_loop [11, 3, 4, 5, 6, 7] (fun i _ _ _ _ _ => ∃ k : Nat, k ≤ n0 ∧ i = .int .i64 k ∧ Hid (∀ x, x < k → ∀ y, y < n0 → ivF A B x y = true)) (fun i _ _ _ _ _ => n0 - (intOf i).toNat)
  case atStart => exact ⟨0, Nat.zero_le _, rfl, Lib.hid (by intro x hx; omega)⟩
  case round =>
    obtain ⟨k, hk, rfl, HA⟩ := hrel
    by_cases hlt : k < n0
    · have r1 := HT.out.row k hlt
      go_wp2
      go_loop [18, 5, 6, 7] (fun i _ _ _ => ∃ j : Nat, j ≤ n0 ∧ i = .int .i64 j ∧ Hid (∀ y, y < j → ivF A B k y = true)) (fun i _ _ _ => n0 - (intOf i).toNat)
      case atStart => exact ⟨0, Nat.zero_le _, rfl, Lib.hid (by intro x hx; omega)⟩
      case round =>
        obtain ⟨j, hj, rfl, HA2⟩ := hrel
        by_cases hlj : j < n0
        · have T := HT.out; have Ts := HTs.out
          have x1 := T.val k j hlt hlj; have r2 := Ts.row k hlt; have x2 := Ts.val k j hlt hlj
          obtain ⟨hu0, hu1⟩ := T.rng k j (by omega) (by omega) (by omega) (by omega)
          obtain ⟨hv0, hv1⟩ := Ts.rng k j (by omega) (by omega) (by omega) (by omega)
          have r3 := T.rowi (val2 A k j) hu0 hu1; have x3 := T.vali (val2 A k j) (val2 B k j) hu0 hu1 hv0 hv1
          have r4 := Ts.rowi (val2 A k j) hu0 hu1; have x4 := Ts.vali (val2 A k j) (val2 B k j) hu0 hu1 hv0 hv1
          clear T Ts
          by_cases h1 : val2 A (val2 A k j) (val2 B k j) = k
          · have e1 : (val2 A (val2 A k j) (val2 B k j) != (k : Int)) = false := by simp [h1]
            by_cases h2 : val2 B (val2 A k j) (val2 B k j) = j
            · have e2 : (val2 B (val2 A k j) (val2 B k j) != (j : Int)) = false := by simp [h2]
              have H1 := Lib.hid h1; have H2 := Lib.hid h2; clear h1 h2
              go_wp2
              go_round
              case rel => exact ⟨j + 1, by omega, by go_num, Lib.hid (lt_snoc HA2.out (by simp [ivF, H1.out, H2.out]))⟩
              case measure => simp [intOf]; omega
            · have e2 : (val2 B (val2 A k j) (val2 B k j) != (j : Int)) = true := by simp [h2]
              have H2 := Lib.hid h2; clear h1 h2
              go_wp2
              go_ret
              exact ⟨ret_bool (by simp [involL, HL0.out, all2_no hlt hlj (P := ivF A B) (by simp [ivF, H2.out])]), HW.out⟩
          · have e1 : (val2 A (val2 A k j) (val2 B k j) != (k : Int)) = true := by simp [h1]
            have H1 := Lib.hid h1; clear h1
            go_wp2
            go_ret
            exact ⟨ret_bool (by simp [involL, HL0.out, all2_no hlt hlj (P := ivF A B) (by simp [ivF, H1.out])]), HW.out⟩
        · obtain rfl : j = n0 := by omega
          go_wp2
          go_round
          case rel => exact ⟨k + 1, by omega, by go_num, Lib.hid (lt_snoc HA.out HA2.out)⟩
          case measure => simp [intOf]; omega
    · obtain rfl : k = n0 := by omega
      go_wp2
      go_ret
      exact ⟨ret_bool (by simp [involL, HL0.out, all2_iff.2 HA.out]), HW.out⟩

def pmCode' (A B : List (List Int)) : Int := if isPM A B then 0 else 1
def involRes (A B : List (List Int)) : Bool := if isPM A B then involL A B else false
set_option maxHeartbeats 800000 in
theorem c_IsInvolutive (v0 u0 : Value) (A B : List (List Int)) (w : World) (hA : Sol w v0 u0 A B) :
    Calls Try.prog 33 #[.agg #[v0, u0]] w (RVal w (.tuple #[.bool (involRes A B), .int .i64 (pmCode' A B)])) := by
  obtain ⟨a0, c0, rfl, _, _⟩ := hA.1.shape
  obtain ⟨a0s, c0s, rfl, _, _⟩ := hA.2.shape
  by_cases hp0 : isPM A B = true
  case neg =>
    have hq0 : isPM A B = false := by simpa using hp0
    have HQ := Lib.hid hq0; clear hp0
    go_enter Try.func33, Try.ntmps33
    go_wp2_with fail
    obtain ⟨f0, hW0, hsz⟩ := boxes1 w [.slice a0 A.length c0, .slice a0s B.length c0s] 27
    obtain ⟨W0, hW⟩ : ∃ W, (w.alloc (.cells #[.slice a0 A.length c0, .slice a0s B.length c0s] 27)) = W := ⟨_, rfl⟩
    rw [hW] at f0 hW0 hsz ⊢
    clear hW hsz
    refine (c_IsPairMap _ _ _ _ _ (hA.below hW0)).mono ?_; rintro e g0 ⟨rfl, hbg0⟩
    have hB0 := bb hW0 hbg0
    replace f0 := f0.under hbg0
    obtain ⟨cA0, cB0, -, -⟩ := two_cells f0
    clear hbg0
    have HB := Lib.hid hB0
    clear hB0 f0 hW0 hA
    go_wp2
    go_ret2
    exact ⟨by simp [involRes, pmCode', HQ.out], HB.out⟩
  have HP0 := Lib.hid hp0
  go_enter Try.func33, Try.ntmps33
  go_wp2_with fail
  obtain ⟨f0, hW0, hsz⟩ := boxes1 w [.slice a0 A.length c0, .slice a0s B.length c0s] 27
  obtain ⟨W0, hW⟩ : ∃ W, (w.alloc (.cells #[.slice a0 A.length c0, .slice a0s B.length c0s] 27)) = W := ⟨_, rfl⟩
  rw [hW] at f0 hW0 hsz ⊢
  clear hW hsz
  refine (c_IsPairMap _ _ _ _ _ (hA.below hW0)).mono ?_; rintro e g0 ⟨rfl, hbg0⟩
  have hB0 := bb hW0 hbg0
  replace f0 := f0.under hbg0
  obtain ⟨cA0, cB0, -, -⟩ := two_cells f0
  clear hbg0
  go_wp2_with fail
  refine (c_isInvolutive _ _ _ _ _ (hA.below hB0) HP0.out).mono ?_; rintro e wz ⟨rfl, hb⟩
  have HB := Lib.hid (bb hB0 hb)
  clear hb hB0 f0 hW0 hA
  go_wp2
  go_ret2
  exact ⟨by simp [involRes, pmCode', HP0.out], HB.out⟩
end Go.Proofs.Ytkcobfkmeaakoaa
