/-
  The law FnExactIsMedialRack answers true, and leaves what was there as it was: at every list of lists of integers.
-/
import Derived.Test.YtdhbleiioagmlaaI8
import Derived.Test.YtdhbleiioagmlaaLawD
import Derived.Test.YtdhbleiioagmlaaT1
namespace Go.Proofs.Ytdhbleiioagmlaa
open Go.RowKit

def rkCodeM (T : List (List Int)) : Int := if isRk T then 0 else 1
def mdP (T : List (List Int)) (x y z w : Nat) : Bool := decide (val2 T (val2 T x y) (val2 T z w) = val2 T (val2 T x z) (val2 T y w))
def mdAll (T : List (List Int)) : Bool := decide (∀ x, x < T.length → ∀ y, y < T.length → ∀ z, z < T.length → ∀ w, w < T.length → mdP T x y z w = true)
def mdRes (T : List (List Int)) : Bool := if isRk T then mdAll T else false
theorem mdAll_no {T : List (List Int)} {x y z w : Nat} (hx : x < T.length) (hy : y < T.length) (hz : z < T.length) (hw : w < T.length) (h : mdP T x y z w = false) : mdAll T = false := by
  unfold mdAll
  rw [decide_eq_false_iff_not]
  intro hall
  rw [hall x hx y hy z hz w hw] at h; cases h

set_option maxRecDepth 100000 in
set_option maxHeartbeats 2000000 in
theorem c_specIsMedialRack (v0 : Value) (T : List (List Int)) (w : World) (hT : Rows w v0 T)  :
    Calls Try.prog 30 #[.agg #[v0]] w (RVal w (.tuple #[.bool (mdRes T), .int .i64 (rkCodeM T)])) := by
  by_cases hp0 : isRk T = true
  case neg =>
    have hq0 : isRk T = false := by simpa using hp0
    have HQ := Lib.hid hq0; clear hp0
    obtain ⟨a0, c0, rfl, _, _⟩ := hT.shape
    go_enter Try.func30, Try.ntmps30
    go_wp2_with fail
    obtain ⟨f0, hW0, hsz⟩ := boxes1 w [.slice a0 T.length c0] 45
    obtain ⟨W0, hW⟩ : ∃ W, (w.alloc (.cells #[.slice a0 T.length c0] 45)) = W := ⟨_, rfl⟩
    rw [hW] at f0 hW0 hsz ⊢
    clear hW hsz
    refine (c_l03Is _ _ _ (hT.below hW0)).mono ?_; rintro e g0 ⟨rfl, hbg0⟩
    have hB0 := bb hW0 hbg0
    replace f0 := f0.under hbg0
    have cA0 := one_cell f0
    clear hbg0
    have HB := Lib.hid hB0
    clear hB0 hW0
    go_wp2
    go_ret2
    exact ⟨by simp [mdRes, rkCodeM, HQ.out], HB.out⟩
  have HP0 := Lib.hid hp0
  obtain ⟨n0, b0, o0, c0, rb0, ro0, rc0, rfl, hl0, hn0, hx0, hc0, hm0, t0⟩ := hT.tab (isRk_tab hp0)
  have HL0 := Lib.hid hl0; clear hl0
  go_enter Try.func30, Try.ntmps30
  go_wp2_with fail
  obtain ⟨f0, hW0, hsz⟩ := boxes1 w [.slice (some ⟨b0, o0, none⟩) n0 c0] 45
  obtain ⟨W0, hW⟩ : ∃ W, (w.alloc (.cells #[.slice (some ⟨b0, o0, none⟩) n0 c0] 45)) = W := ⟨_, rfl⟩
  rw [hW] at f0 hW0 hsz ⊢
  clear hW hsz
  refine (c_l03Is _ _ _ (hT.below hW0)).mono ?_; rintro e g0 ⟨rfl, hbg0⟩
  have hB0 := bb hW0 hbg0
  replace f0 := f0.under hbg0
  have cA0 := one_cell f0
  clear hbg0
  have HT := Lib.hid (t0.below hB0); have HBg := Lib.hid hB0
  clear hB0 hW0 t0 f0 hT
  go_wp2
  go_loopw [5, 6, 7, 8] (fun a _ _ _ wr => ∃ k1 : Nat, k1 ≤ n0 ∧ a = .int .i64 k1 ∧ Hid (Below g0.heap.size g0 wr) ∧ Hid (∀ x1, x1 < k1 → ∀ x2, x2 < n0 → ∀ x3, x3 < n0 → ∀ x4, x4 < n0 → mdP T x1 x2 x3 x4 = true)) (fun a _ _ _ _ => n0 - (intOf a).toNat)
  case atStart => exact ⟨0, Nat.zero_le _, rfl, Lib.hid (Below.refl _ _), Lib.hid (by intro x hx; omega)⟩
  case round =>
    obtain ⟨k1, hk1, rfl, HB1, HA1⟩ := hrel
    obtain ⟨wo1, rfl⟩ : ∃ wo : World, wo = wr := ⟨_, rfl⟩
    by_cases hlt1 : k1 < n0
    · go_wp2
      go_loopw [6, 7, 8] (fun a _ _ wr => ∃ k2 : Nat, k2 ≤ n0 ∧ a = .int .i64 k2 ∧ Hid (Below g0.heap.size g0 wr) ∧ Hid (∀ x2, x2 < k2 → ∀ x3, x3 < n0 → ∀ x4, x4 < n0 → mdP T k1 x2 x3 x4 = true)) (fun a _ _ _ => n0 - (intOf a).toNat)
      case atStart => exact ⟨0, Nat.zero_le _, rfl, HB1, Lib.hid (by intro x hx; omega)⟩
      case round =>
        obtain ⟨k2, hk2, rfl, HB2, HA2⟩ := hrel
        obtain ⟨wo2, rfl⟩ : ∃ wo : World, wo = wr := ⟨_, rfl⟩
        by_cases hlt2 : k2 < n0
        · go_wp2
          go_loopw [7, 8] (fun a _ wr => ∃ k3 : Nat, k3 ≤ n0 ∧ a = .int .i64 k3 ∧ Hid (Below g0.heap.size g0 wr) ∧ Hid (∀ x3, x3 < k3 → ∀ x4, x4 < n0 → mdP T k1 k2 x3 x4 = true)) (fun a _ _ => n0 - (intOf a).toNat)
          case atStart => exact ⟨0, Nat.zero_le _, rfl, HB2, Lib.hid (by intro x hx; omega)⟩
          case round =>
            obtain ⟨k3, hk3, rfl, HB3, HA3⟩ := hrel
            obtain ⟨wo3, rfl⟩ : ∃ wo : World, wo = wr := ⟨_, rfl⟩
            by_cases hlt3 : k3 < n0
            · go_wp2
              go_loopw [8] (fun a wr => ∃ k4 : Nat, k4 ≤ n0 ∧ a = .int .i64 k4 ∧ Hid (Below g0.heap.size g0 wr) ∧ Hid (∀ x4, x4 < k4 → mdP T k1 k2 k3 x4 = true)) (fun a _ => n0 - (intOf a).toNat)
              case atStart => exact ⟨0, Nat.zero_le _, rfl, HB3, Lib.hid (by intro x hx; omega)⟩
              case round =>
                obtain ⟨k4, hk4, rfl, HB4, HA4⟩ := hrel
                by_cases hlt4 : k4 < n0
                · have T' := HT.out.below HB4.out
                  have r1 := T'.row k1 hlt1; have r2 := T'.row k2 hlt2; have r3 := T'.row k3 hlt3
                  have x1 := T'.val k1 k2 hlt1 hlt2; have x2 := T'.val k3 k4 hlt3 hlt4; have x3 := T'.val k1 k3 hlt1 hlt3; have x4 := T'.val k2 k4 hlt2 hlt4
                  obtain ⟨d1, d2⟩ := T'.rng k1 k2 (by omega) (by omega) (by omega) (by omega)
                  obtain ⟨d3, d4⟩ := T'.rng k3 k4 (by omega) (by omega) (by omega) (by omega)
                  obtain ⟨d5, d6⟩ := T'.rng k1 k3 (by omega) (by omega) (by omega) (by omega)
                  obtain ⟨d7, d8⟩ := T'.rng k2 k4 (by omega) (by omega) (by omega) (by omega)
                  obtain ⟨a1, h1⟩ : ∃ z, z = val2 T k1 k2 := ⟨_, rfl⟩
                  obtain ⟨a2, h2⟩ : ∃ z, z = val2 T k3 k4 := ⟨_, rfl⟩
                  obtain ⟨a3, h3⟩ : ∃ z, z = val2 T k1 k3 := ⟨_, rfl⟩
                  obtain ⟨a4, h4⟩ : ∃ z, z = val2 T k2 k4 := ⟨_, rfl⟩
                  rw [← h1] at x1 d1 d2; rw [← h2] at x2 d3 d4; rw [← h3] at x3 d5 d6; rw [← h4] at x4 d7 d8
                  have r4 := T'.rowi a1 d1 d2; have r5 := T'.rowi a3 d5 d6
                  have x5 := T'.vali a1 a2 d1 d2 d3 d4; have x6 := T'.vali a3 a4 d5 d6 d7 d8
                  have HY : Hid (mdP T k1 k2 k3 k4 = decide (val2 T a1 a2 = val2 T a3 a4)) := by show _ = _; subst h1 h2 h3 h4; rfl
                  have q1 : (0 : Int) ≤ k1 ∧ (k1 : Int) < n0 := by omega
                  have q2 : (0 : Int) ≤ k2 ∧ (k2 : Int) < n0 := by omega
                  have q3 : (0 : Int) ≤ k3 ∧ (k3 : Int) < n0 := by omega
                  have q4 : (0 : Int) ≤ k4 ∧ (k4 : Int) < n0 := by omega
                  obtain ⟨q10, q11⟩ := q1; obtain ⟨q20, q21⟩ := q2; obtain ⟨q30, q31⟩ := q3; obtain ⟨q40, q41⟩ := q4
                  clear T' h1 h2 h3 h4
                  by_cases e1 : val2 T a1 a2 = val2 T a3 a4
                  · have g1 : (val2 T a1 a2 != val2 T a3 a4) = false := by simp [e1]
                    have E1 := Lib.hid e1; clear e1
                    go_wp2
                    go_quiet (fail)
                    go_wp2
                    go_roundw
                    case rel => exact ⟨k4 + 1, by omega, by go_num, Lib.hid (below_drewN HB4.out _), Lib.hid (lt_snoc HA4.out (by rw [HY.out]; simp [E1.out]))⟩
                    case measure => simp [intOf]; omega
                  · have g1 : (val2 T a1 a2 != val2 T a3 a4) = true := by simp [e1]
                    have E1 := Lib.hid e1; clear e1
                    go_wp2
                    go_quiet (fail)
                    go_wp2
                    go_ret2
                    have hr : mdAll T = false := mdAll_no (by rw [HL0.out]; exact hlt1) (by rw [HL0.out]; exact hlt2) (by rw [HL0.out]; exact hlt3) (by rw [HL0.out]; exact hlt4) (by rw [HY.out]; simp [E1.out])
                    exact ⟨by simp [mdRes, rkCodeM, HP0.out, hr], bb HBg.out (below_drewN HB4.out _)⟩
                · obtain rfl : k4 = n0 := by omega
                  go_wp2
                  go_roundw
                  case rel => exact ⟨k3 + 1, by omega, by go_num, HB4, Lib.hid (lt_snoc HA3.out HA4.out)⟩
                  case measure => simp [intOf]; omega
            · obtain rfl : k3 = n0 := by omega
              go_wp2
              go_roundw
              case rel => exact ⟨k2 + 1, by omega, by go_num, HB3, Lib.hid (lt_snoc HA2.out HA3.out)⟩
              case measure => simp [intOf]; omega
        · obtain rfl : k2 = n0 := by omega
          go_wp2
          go_roundw
          case rel => exact ⟨k1 + 1, by omega, by go_num, HB2, Lib.hid (lt_snoc HA1.out HA2.out)⟩
          case measure => simp [intOf]; omega
    · obtain rfl : k1 = n0 := by omega
      go_wp2
      go_ret2
      have hr : mdAll T = true := by
        unfold mdAll
        rw [decide_eq_true_eq, HL0.out]
        exact HA1.out
      exact ⟨by simp [mdRes, rkCodeM, HP0.out, hr], bb HBg.out HB1.out⟩
set_option maxRecDepth 100000 in
set_option maxHeartbeats 2000000 in
theorem c_IsMedialRack (v0 : Value) (T : List (List Int)) (w : World) (hT : Rows w v0 T)  :
    Calls Try.prog 32 #[.agg #[v0]] w (RVal w (.tuple #[.bool (mdRes T), .int .i64 (rkCodeM T)])) := by
  by_cases hp0 : isRk T = true
  case neg =>
    have hq0 : isRk T = false := by simpa using hp0
    have HQ := Lib.hid hq0; clear hp0
    obtain ⟨a0, c0, rfl, _, _⟩ := hT.shape
    go_enter Try.func32, Try.ntmps32
    go_wp2_with fail
    obtain ⟨f0, hW0, hsz⟩ := boxes1 w [.slice a0 T.length c0] 45
    obtain ⟨W0, hW⟩ : ∃ W, (w.alloc (.cells #[.slice a0 T.length c0] 45)) = W := ⟨_, rfl⟩
    rw [hW] at f0 hW0 hsz ⊢
    clear hW hsz
    refine (c_IsRack _ _ _ (hT.below hW0)).mono ?_; rintro e g0 ⟨rfl, hbg0⟩
    have hB0 := bb hW0 hbg0
    replace f0 := f0.under hbg0
    have cA0 := one_cell f0
    clear hbg0
    have HB := Lib.hid hB0
    clear hB0 hW0
    go_wp2
    go_ret2
    exact ⟨by simp [mdRes, rkCodeM, HQ.out], HB.out⟩
  have HP0 := Lib.hid hp0
  obtain ⟨n0, b0, o0, c0, rb0, ro0, rc0, rfl, hl0, hn0, hx0, hc0, hm0, t0⟩ := hT.tab (isRk_tab hp0)
  have HL0 := Lib.hid hl0; clear hl0
  go_enter Try.func32, Try.ntmps32
  go_wp2_with fail
  obtain ⟨f0, hW0, hsz⟩ := boxes1 w [.slice (some ⟨b0, o0, none⟩) n0 c0] 45
  obtain ⟨W0, hW⟩ : ∃ W, (w.alloc (.cells #[.slice (some ⟨b0, o0, none⟩) n0 c0] 45)) = W := ⟨_, rfl⟩
  rw [hW] at f0 hW0 hsz ⊢
  clear hW hsz
  refine (c_IsRack _ _ _ (hT.below hW0)).mono ?_; rintro e g0 ⟨rfl, hbg0⟩
  have hB0 := bb hW0 hbg0
  replace f0 := f0.under hbg0
  have cA0 := one_cell f0
  clear hbg0
  have HT := Lib.hid (t0.below hB0); have HBg := Lib.hid hB0
  clear hB0 hW0 t0 f0 hT
  go_wp2
  go_loopw [16, 5, 6, 7, 8] (fun a _ _ _ _ wr => ∃ k1 : Nat, k1 ≤ n0 ∧ a = .int .i64 k1 ∧ Hid (Below g0.heap.size g0 wr) ∧ Hid (∀ x1, x1 < k1 → ∀ x2, x2 < n0 → ∀ x3, x3 < n0 → ∀ x4, x4 < n0 → mdP T x1 x2 x3 x4 = true)) (fun a _ _ _ _ _ => n0 - (intOf a).toNat)
  case atStart => exact ⟨0, Nat.zero_le _, rfl, Lib.hid (Below.refl _ _), Lib.hid (by intro x hx; omega)⟩
  case round =>
    obtain ⟨k1, hk1, rfl, HB1, HA1⟩ := hrel
    obtain ⟨wo1, rfl⟩ : ∃ wo : World, wo = wr := ⟨_, rfl⟩
    by_cases hlt1 : k1 < n0
    · go_wp2
      go_loopw [21, 6, 7, 8] (fun a _ _ _ wr => ∃ k2 : Nat, k2 ≤ n0 ∧ a = .int .i64 k2 ∧ Hid (Below g0.heap.size g0 wr) ∧ Hid (∀ x2, x2 < k2 → ∀ x3, x3 < n0 → ∀ x4, x4 < n0 → mdP T k1 x2 x3 x4 = true)) (fun a _ _ _ _ => n0 - (intOf a).toNat)
      case atStart => exact ⟨0, Nat.zero_le _, rfl, HB1, Lib.hid (by intro x hx; omega)⟩
      case round =>
        obtain ⟨k2, hk2, rfl, HB2, HA2⟩ := hrel
        obtain ⟨wo2, rfl⟩ : ∃ wo : World, wo = wr := ⟨_, rfl⟩
        by_cases hlt2 : k2 < n0
        · go_wp2
          go_loopw [26, 7, 8] (fun a _ _ wr => ∃ k3 : Nat, k3 ≤ n0 ∧ a = .int .i64 k3 ∧ Hid (Below g0.heap.size g0 wr) ∧ Hid (∀ x3, x3 < k3 → ∀ x4, x4 < n0 → mdP T k1 k2 x3 x4 = true)) (fun a _ _ _ => n0 - (intOf a).toNat)
          case atStart => exact ⟨0, Nat.zero_le _, rfl, HB2, Lib.hid (by intro x hx; omega)⟩
          case round =>
            obtain ⟨k3, hk3, rfl, HB3, HA3⟩ := hrel
            obtain ⟨wo3, rfl⟩ : ∃ wo : World, wo = wr := ⟨_, rfl⟩
            by_cases hlt3 : k3 < n0
            · go_wp2
              go_loopw [31, 8] (fun a _ wr => ∃ k4 : Nat, k4 ≤ n0 ∧ a = .int .i64 k4 ∧ Hid (Below g0.heap.size g0 wr) ∧ Hid (∀ x4, x4 < k4 → mdP T k1 k2 k3 x4 = true)) (fun a _ _ => n0 - (intOf a).toNat)
              case atStart => exact ⟨0, Nat.zero_le _, rfl, HB3, Lib.hid (by intro x hx; omega)⟩
              case round =>
                obtain ⟨k4, hk4, rfl, HB4, HA4⟩ := hrel
                by_cases hlt4 : k4 < n0
                · have T' := HT.out.below HB4.out
                  have r1 := T'.row k1 hlt1; have r2 := T'.row k2 hlt2; have r3 := T'.row k3 hlt3
                  have x1 := T'.val k1 k2 hlt1 hlt2; have x2 := T'.val k3 k4 hlt3 hlt4; have x3 := T'.val k1 k3 hlt1 hlt3; have x4 := T'.val k2 k4 hlt2 hlt4
                  obtain ⟨d1, d2⟩ := T'.rng k1 k2 (by omega) (by omega) (by omega) (by omega)
                  obtain ⟨d3, d4⟩ := T'.rng k3 k4 (by omega) (by omega) (by omega) (by omega)
                  obtain ⟨d5, d6⟩ := T'.rng k1 k3 (by omega) (by omega) (by omega) (by omega)
                  obtain ⟨d7, d8⟩ := T'.rng k2 k4 (by omega) (by omega) (by omega) (by omega)
                  obtain ⟨a1, h1⟩ : ∃ z, z = val2 T k1 k2 := ⟨_, rfl⟩
                  obtain ⟨a2, h2⟩ : ∃ z, z = val2 T k3 k4 := ⟨_, rfl⟩
                  obtain ⟨a3, h3⟩ : ∃ z, z = val2 T k1 k3 := ⟨_, rfl⟩
                  obtain ⟨a4, h4⟩ : ∃ z, z = val2 T k2 k4 := ⟨_, rfl⟩
                  rw [← h1] at x1 d1 d2; rw [← h2] at x2 d3 d4; rw [← h3] at x3 d5 d6; rw [← h4] at x4 d7 d8
                  have r4 := T'.rowi a1 d1 d2; have r5 := T'.rowi a3 d5 d6
                  have x5 := T'.vali a1 a2 d1 d2 d3 d4; have x6 := T'.vali a3 a4 d5 d6 d7 d8
                  have HY : Hid (mdP T k1 k2 k3 k4 = decide (val2 T a1 a2 = val2 T a3 a4)) := by show _ = _; subst h1 h2 h3 h4; rfl
                  have q1 : (0 : Int) ≤ k1 ∧ (k1 : Int) < n0 := by omega
                  have q2 : (0 : Int) ≤ k2 ∧ (k2 : Int) < n0 := by omega
                  have q3 : (0 : Int) ≤ k3 ∧ (k3 : Int) < n0 := by omega
                  have q4 : (0 : Int) ≤ k4 ∧ (k4 : Int) < n0 := by omega
                  obtain ⟨q10, q11⟩ := q1; obtain ⟨q20, q21⟩ := q2; obtain ⟨q30, q31⟩ := q3; obtain ⟨q40, q41⟩ := q4
                  clear T' h1 h2 h3 h4
                  by_cases e1 : val2 T a1 a2 = val2 T a3 a4
                  · have g1 : (val2 T a1 a2 != val2 T a3 a4) = false := by simp [e1]
                    have E1 := Lib.hid e1; clear e1
                    go_wp2
                    go_quiet (fail)
                    go_wp2
                    go_roundw
                    case rel => exact ⟨k4 + 1, by omega, by go_num, Lib.hid (below_drewN HB4.out _), Lib.hid (lt_snoc HA4.out (by rw [HY.out]; simp [E1.out]))⟩
                    case measure => simp [intOf]; omega
                  · have g1 : (val2 T a1 a2 != val2 T a3 a4) = true := by simp [e1]
                    have E1 := Lib.hid e1; clear e1
                    go_wp2
                    go_quiet (fail)
                    go_wp2
                    go_ret2
                    have hr : mdAll T = false := mdAll_no (by rw [HL0.out]; exact hlt1) (by rw [HL0.out]; exact hlt2) (by rw [HL0.out]; exact hlt3) (by rw [HL0.out]; exact hlt4) (by rw [HY.out]; simp [E1.out])
                    exact ⟨by simp [mdRes, rkCodeM, HP0.out, hr], bb HBg.out (below_drewN HB4.out _)⟩
                · obtain rfl : k4 = n0 := by omega
                  go_wp2
                  go_roundw
                  case rel => exact ⟨k3 + 1, by omega, by go_num, HB4, Lib.hid (lt_snoc HA3.out HA4.out)⟩
                  case measure => simp [intOf]; omega
            · obtain rfl : k3 = n0 := by omega
              go_wp2
              go_roundw
              case rel => exact ⟨k2 + 1, by omega, by go_num, HB3, Lib.hid (lt_snoc HA2.out HA3.out)⟩
              case measure => simp [intOf]; omega
        · obtain rfl : k2 = n0 := by omega
          go_wp2
          go_roundw
          case rel => exact ⟨k1 + 1, by omega, by go_num, HB2, Lib.hid (lt_snoc HA1.out HA2.out)⟩
          case measure => simp [intOf]; omega
    · obtain rfl : k1 = n0 := by omega
      go_wp2
      go_ret2
      have hr : mdAll T = true := by
        unfold mdAll
        rw [decide_eq_true_eq, HL0.out]
        exact HA1.out
      exact ⟨by simp [mdRes, rkCodeM, HP0.out, hr], bb HBg.out HB1.out⟩
set_option maxHeartbeats 4000000 in
theorem law_IsMedialRack (v0 : Value) (x0 : List (List Int)) (w : World) (hx0 : Rows w v0 x0) :
    Calls Try.prog 6 #[.agg #[v0]] w (RVal w (.bool true)) := by
  obtain ⟨a0, c0, rfl, hc0, hm0⟩ := hx0.shape
  go_enter Try.func6, Try.ntmps6
  go_wp2_with fail
  obtain ⟨bx0, BW, hsz0⟩ := boxes1 w [.slice a0 x0.length c0] 42
  obtain ⟨W0, hW0⟩ : ∃ W, (w.alloc (.cells #[.slice a0 x0.length c0] 42)) = W := ⟨_, rfl⟩
  rw [hW0] at bx0 BW hsz0 ⊢
  have hs0 : w.heap.size + 1 ≤ W0.heap.size := by omega
  clear hW0 hsz0
  refine (c_szRack _ _ _ _ (hx0.below BW) (by omega) (by omega)).mono ?_; rintro e w1 ⟨rfl, hb1⟩
  have hs1 := hb1.size
  replace BW := bb BW hb1
  replace bx0 := bx0.under hb1
  have cA0 := bx0.cell (i := 0) (by simp)
  simp only [List.getElem_cons_zero] at cA0
  clear hb1
  by_cases hg0 : leftR x0 (1048576) < 0
  case pos =>
    have HB := Lib.hid BW; clear BW
    go_wp2
    go_ret
    exact ⟨rfl, HB.out⟩
  have hf0 := leftR_fits (left := 1048576) (by omega) (by omega) hg0
  have Hf0 := Lib.hid hf0
  clear hf0
  have hf0 : x0.length ≤ 1048576 ∧ total x0 ≤ 1048576 ∧ 0 ≤ leftR x0 (1048576) ∧ leftR x0 (1048576) ≤ 1048576 := ⟨Hf0.out.1, Hf0.out.2.2⟩
  obtain ⟨R0, hR0⟩ : ∃ z, z = mdRes x0 := ⟨_, rfl⟩
  obtain ⟨R1, hR1⟩ : ∃ z, z = rkCodeM x0 := ⟨_, rfl⟩
  have HR0 := Lib.hid hR0
  clear hR0
  have HR1 := Lib.hid hR1
  clear hR1
  have hk0 : (R0 != R0) = false := by simp
  have hk1 : (R1 != R1) = false := by simp
  have hda0 : decide (x0 = x0) = true := by simp
  go_wp2_with fail
  refine (c_toRack _ _ _ (hx0.below BW) hf0.1 Hf0.out.2.1).mono ?_; rintro e w2 ⟨t1, rfl, ot1r, hb2⟩
  have hs2 := hb2.size
  replace BW := bb BW hb2
  replace bx0 := bx0.under hb2
  clear cA0
  have cA0 := bx0.cell (i := 0) (by simp)
  simp only [List.getElem_cons_zero] at cA0
  have ot1 := ot1r.inn
  clear ot1r
  clear hb2
  go_wp2_with fail
  refine (c_specIsMedialRack _ _ _ (ot1.rows)).mono ?_
  rw [← HR0.out, ← HR1.out]
  rintro e w3 ⟨rfl, hb3⟩
  have hs3 := hb3.size
  replace ot1 := ot1.under hb3
  replace BW := bb BW hb3
  replace bx0 := bx0.under hb3
  clear cA0
  have cA0 := bx0.cell (i := 0) (by simp)
  simp only [List.getElem_cons_zero] at cA0
  clear ot1
  clear hb3
  go_wp2_with fail
  refine (c_toRack _ _ _ (hx0.below BW) hf0.1 Hf0.out.2.1).mono ?_; rintro e w4 ⟨z0, rfl, oz0r, hb4⟩
  have hs4 := hb4.size
  replace BW := bb BW hb4
  replace bx0 := bx0.under hb4
  clear cA0
  have cA0 := bx0.cell (i := 0) (by simp)
  simp only [List.getElem_cons_zero] at cA0
  have oz0 := oz0r.inn
  clear oz0r
  clear hb4
  obtain ⟨saz0, scz0, hvz0, _, _⟩ := oz0.rows.shape
  subst hvz0
  have cA0z := one_cell (bx0.alloc (.cells #[.slice saz0 x0.length scz0] 45))
  go_wp2_with fail
  clear cA0z
  obtain ⟨bxz0, hb5, hz5⟩ := boxes1 w4 [.slice saz0 x0.length scz0] 45
  obtain ⟨w5, hW5⟩ : ∃ W, w4.alloc (.cells #[.slice saz0 x0.length scz0] 45) = W := ⟨_, rfl⟩
  rw [hW5] at bxz0 hb5 hz5 ⊢
  have hs5 : w4.heap.size + 1 ≤ w5.heap.size := by omega
  clear hW5 hz5
  replace oz0 := oz0.under hb5
  replace BW := bb BW hb5
  replace bx0 := bx0.under hb5
  clear cA0
  have cA0 := bx0.cell (i := 0) (by simp)
  simp only [List.getElem_cons_zero] at cA0
  have cAz0 := bxz0.cell (i := 0) (by simp)
  simp only [List.getElem_cons_zero] at cAz0
  clear hb5
  refine (c_IsMedialRack _ _ _ (oz0.rows)).mono ?_
  rw [← HR0.out, ← HR1.out]
  rintro e w6 ⟨rfl, hb6⟩
  have hs6 := hb6.size
  replace oz0 := oz0.under hb6
  replace BW := bb BW hb6
  replace bx0 := bx0.under hb6
  clear cA0
  have cA0 := bx0.cell (i := 0) (by simp)
  simp only [List.getElem_cons_zero] at cA0
  replace bxz0 := bxz0.under hb6
  clear cAz0
  have cAz0 := bxz0.cell (i := 0) (by simp)
  simp only [List.getElem_cons_zero] at cAz0
  clear hb6
  go_wp2_with fail
  have BWd := BW.drew
  have oz0d := oz0.keep ((Keep.refl (fun _ => False) w6).drew) (fun _ _ _ h => h)
  have bx0d := bx0.drew
  have bxz0d := bxz0.drew
  go_region_held3 (fun w' => w'.cell? ⟨w.heap.size, 0, none⟩ = some (.slice a0 x0.length c0) ∧ w'.cell? ⟨w4.heap.size, 0, none⟩ = some (.slice saz0 x0.length scz0))
    (first | go_keep | exact ⟨one_cell (bx0d.under hb7), one_cell (bxz0d.under hb7)⟩ | exact ⟨one_cell ((bx0d.under hb7).under hb8), one_cell ((bxz0d.under hb7).under hb8)⟩)
    ((first | (go_at_call 31; refine (c_toRack _ _ _ (hx0.below BWd) hf0.1 Hf0.out.2.1).mono ?_; rintro e w7 ⟨t7, rfl, ot7, hb7⟩) | (go_at_call 33; refine (c_eqK _ _ _ _ _ (oz0d.under hb7).rows ot7.rows).mono ?_; rintro e w8 ⟨rfl, hb8⟩)))
  have hb8z : Below w6.heap.size w6 w8 := (Below.refl _ _).drew.trans (bb hb7 hb8)
  have hs8 : w6.heap.size ≤ w8.heap.size := hb8z.size
  replace oz0 := oz0.under hb8z
  replace BW := bb BW hb8z
  replace bx0 := bx0.under hb8z
  clear cA0
  have cA0 := bx0.cell (i := 0) (by simp)
  simp only [List.getElem_cons_zero] at cA0
  replace bxz0 := bxz0.under hb8z
  clear cAz0
  have cAz0 := bxz0.cell (i := 0) (by simp)
  simp only [List.getElem_cons_zero] at cAz0
  clear BWd oz0d bx0d bxz0d ot7 hb7 hb8 hb8z
  have HB := Lib.hid BW
  clear BW oz0 hx0 bx0 bxz0
  go_wp2
  go_ret
  exact ⟨rfl, HB.out⟩
end Go.Proofs.Ytdhbleiioagmlaa
