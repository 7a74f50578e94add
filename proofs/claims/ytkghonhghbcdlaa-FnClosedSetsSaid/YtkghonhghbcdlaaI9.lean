/-
  The first list at which a pair map does not satisfy the equation: the program's function. Condition: a pair map.
-/
import Derived.Test.YtkghonhghbcdlaaI7
namespace Go.Proofs.Ytkghonhghbcdlaa
set_option linter.unusedVariables false
set_option linter.unusedSimpArgs false
open Go.RowKit

/-- The six values of both sides of the equation. -/
def yL (A B : List (List Int)) (x y z : Int) : List Int := [val2 A (val2 A x y) (val2 A (val2 B x y) z), val2 B (val2 A x y) (val2 A (val2 B x y) z), val2 B (val2 B x y) z]
def yR (A B : List (List Int)) (x y z : Int) : List Int := [val2 A x (val2 A y z), val2 A (val2 B x (val2 A y z)) (val2 B y z), val2 B (val2 B x (val2 A y z)) (val2 B y z)]
def yP (A B : List (List Int)) (x y z : Nat) : Bool := decide (yL A B x y z ≠ yR A B x y z)
def yF (A B : List (List Int)) : List Int := trip (find3 A.length (yP A B))

set_option maxRecDepth 100000 in
set_option maxHeartbeats 4000000 in
theorem c_equationFault (v0 u0 : Value) (A B : List (List Int)) (w : World) (hA : Sol w v0 u0 A B) (hp : isPM A B = true) :
    Calls Try.prog 57 #[.agg #[v0, u0]] w (RIntsN w (yF A B)) := by
  obtain ⟨n0, b0, o0, c0, rb0, ro0, rc0, b0s, o0s, c0s, rb0s, ro0s, rc0s, rfl, rfl, hl0, hl0s, hn0, hx0, hc0, hm0, hc0s, hm0s, t0, t0s⟩ := hA.tabs hp
  have HL0 := Lib.hid hl0; clear hl0
  have HL0s := Lib.hid hl0s; clear hl0s
  go_enter Try.func57, Try.ntmps57
  go_wp2
  obtain ⟨f0, hW0, hsz⟩ := boxes1 w [.slice (some ⟨b0, o0, none⟩) n0 c0, .slice (some ⟨b0s, o0s, none⟩) n0 c0s] 26
  obtain ⟨W0, hW⟩ : ∃ W, (w.alloc (.cells #[.slice (some ⟨b0, o0, none⟩) n0 c0, .slice (some ⟨b0s, o0s, none⟩) n0 c0s] 26)) = W := ⟨_, rfl⟩
  rw [hW] at f0 hW0 hsz ⊢
  have HSZ := Lib.hid hsz
  clear hW hsz
  obtain ⟨cA0, cB0, -, -⟩ := two_cells f0
  replace t0 := t0.below hW0; replace t0s := t0s.below hW0
  have HT := Lib.hid t0; have HTs := Lib.hid t0s; have HW := Lib.hid hW0; have HF := Lib.hid f0
  clear t0 t0s hA hp hW0 f0 cA0 cB0
  go_loopw [17, 4, 5, 6, 7, 8, 9, 10, 11, 12] (fun a _ _ _ _ _ _ _ _ _ wr => ∃ k : Nat, k ≤ n0 ∧ a = .int .i64 k ∧ Hid (Below W0.heap.size W0 wr) ∧ Hid (∀ x, x < k → ∀ y, y < n0 → ∀ z, z < n0 → yP A B x y z = false)) (fun a _ _ _ _ _ _ _ _ _ _ => n0 - (intOf a).toNat)
  case atStart => exact ⟨0, Nat.zero_le _, rfl, Lib.hid (Below.refl _ _), Lib.hid (by intro x hx; omega)⟩
  case round =>
    obtain ⟨k, hk, rfl, HB1, HA1⟩ := hrel
    obtain ⟨wo, rfl⟩ : ∃ wo : World, wo = wr := ⟨_, rfl⟩
    by_cases hlt : k < n0
    · go_wp2
      go_loopw [21, 5, 6, 7, 8, 9, 10, 11, 12] (fun a _ _ _ _ _ _ _ _ wr => ∃ j : Nat, j ≤ n0 ∧ a = .int .i64 j ∧ Hid (Below W0.heap.size W0 wr) ∧ Hid (∀ y, y < j → ∀ z, z < n0 → yP A B k y z = false)) (fun a _ _ _ _ _ _ _ _ _ => n0 - (intOf a).toNat)
      case atStart => exact ⟨0, Nat.zero_le _, rfl, HB1, Lib.hid (by intro x hx; omega)⟩
      case round =>
        obtain ⟨j, hj, rfl, HB2, HA2⟩ := hrel
        obtain ⟨wp, rfl⟩ : ∃ wp : World, wp = wr := ⟨_, rfl⟩
        by_cases hlj : j < n0
        · go_wp2
          go_loopw [25, 6, 7, 8, 9, 10, 11, 12] (fun a _ _ _ _ _ _ _ wr => ∃ m : Nat, m ≤ n0 ∧ a = .int .i64 m ∧ Hid (Below W0.heap.size W0 wr) ∧ Hid (∀ z, z < m → yP A B k j z = false)) (fun a _ _ _ _ _ _ _ _ => n0 - (intOf a).toNat)
          case atStart => exact ⟨0, Nat.zero_le _, rfl, HB2, Lib.hid (by intro x hx; omega)⟩
          case round =>
            obtain ⟨m, hm, rfl, HB3, HA3⟩ := hrel
            by_cases hlm : m < n0
            · have T := HT.out.below HB3.out; have Ts := HTs.out.below HB3.out
              obtain ⟨cA3, cB3, -, -⟩ := two_cells (HF.out.under HB3.out)
              have p1 := T.row k hlt; have p2 := Ts.row k hlt; have p3 := T.row j hlj; have p4 := Ts.row j hlj
              have x1 := T.val k j hlt hlj; have x2 := Ts.val k j hlt hlj; have x3 := T.val j m hlj hlm; have x4 := Ts.val j m hlj hlm
              obtain ⟨ra0, ra1⟩ := T.rng k j (by omega) (by omega) (by omega) (by omega)
              obtain ⟨rb0, rb1⟩ := Ts.rng k j (by omega) (by omega) (by omega) (by omega)
              obtain ⟨re0, re1⟩ := T.rng j m (by omega) (by omega) (by omega) (by omega)
              obtain ⟨rf0, rf1⟩ := Ts.rng j m (by omega) (by omega) (by omega) (by omega)
              obtain ⟨a1, h1⟩ : ∃ z, z = val2 A k j := ⟨_, rfl⟩
              obtain ⟨b1, h2⟩ : ∃ z, z = val2 B k j := ⟨_, rfl⟩
              obtain ⟨e1, h3⟩ : ∃ z, z = val2 A j m := ⟨_, rfl⟩
              obtain ⟨f1, h4⟩ : ∃ z, z = val2 B j m := ⟨_, rfl⟩
              rw [← h1] at x1 ra0 ra1; rw [← h2] at x2 rb0 rb1; rw [← h3] at x3 re0 re1; rw [← h4] at x4 rf0 rf1
              have q1 := T.rowi b1 rb0 rb1; have q2 := Ts.rowi b1 rb0 rb1; have y1 := T.vin b1 m rb0 rb1 hlm; have y2 := Ts.vin b1 m rb0 rb1 hlm
              obtain ⟨rc0, rc1⟩ := T.rng b1 m rb0 rb1 (by omega) (by omega)
              obtain ⟨b2, h5⟩ : ∃ z, z = val2 A b1 m := ⟨_, rfl⟩
              obtain ⟨c2, h6⟩ : ∃ z, z = val2 B b1 m := ⟨_, rfl⟩
              rw [← h5] at y1 rc0 rc1; rw [← h6] at y2
              have q3 := T.rowi a1 ra0 ra1; have q4 := Ts.rowi a1 ra0 ra1; have y3 := T.vali a1 b2 ra0 ra1 rc0 rc1; have y4 := Ts.vali a1 b2 ra0 ra1 rc0 rc1
              obtain ⟨a2, h7⟩ : ∃ z, z = val2 A a1 b2 := ⟨_, rfl⟩
              obtain ⟨b3, h8⟩ : ∃ z, z = val2 B a1 b2 := ⟨_, rfl⟩
              rw [← h7] at y3; rw [← h8] at y4
              have y5 := T.vni k e1 hlt re0 re1; have y6 := Ts.vni k e1 hlt re0 re1
              obtain ⟨rg0, rg1⟩ := Ts.rng k e1 (by omega) (by omega) re0 re1
              obtain ⟨d1, h9⟩ : ∃ z, z = val2 A k e1 := ⟨_, rfl⟩
              obtain ⟨e2, h10⟩ : ∃ z, z = val2 B k e1 := ⟨_, rfl⟩
              rw [← h9] at y5; rw [← h10] at y6 rg0 rg1
              have q5 := T.rowi e2 rg0 rg1; have q6 := Ts.rowi e2 rg0 rg1; have y7 := T.vali e2 f1 rg0 rg1 rf0 rf1; have y8 := Ts.vali e2 f1 rg0 rg1 rf0 rf1
              obtain ⟨e3, h11⟩ : ∃ z, z = val2 A e2 f1 := ⟨_, rfl⟩
              obtain ⟨f2, h12⟩ : ∃ z, z = val2 B e2 f1 := ⟨_, rfl⟩
              rw [← h11] at y7; rw [← h12] at y8
              have HY : Hid (yP A B k j m = decide ([a2, b3, c2] ≠ [d1, e3, f2])) := by show _ = _; subst h1 h2 h3 h4 h5 h6 h7 h8 h9 h10 h11 h12; rfl
              clear h1 h2 h3 h4 h5 h6 h7 h8 h9 h10 h11 h12 T Ts
              have hk0 : (0 : Int) ≤ k := by omega
              have hk1 : (k : Int) < n0 := by omega
              have hj0 : (0 : Int) ≤ j := by omega
              have hj1 : (j : Int) < n0 := by omega
              have hm0 : (0 : Int) ≤ m := by omega
              have hm1 : (m : Int) < n0 := by omega
              go_wp2
              go_quiet (fail)
              go_wp2
              go_quiet (fail)
              go_wp2
              go_quiet (fail)
              go_wp2
              go_quiet (fail)
              go_wp2
              go_quiet (fail)
              go_wp2
              go_quiet (fail)
              by_cases z1 : a2 = d1
              · by_cases z2 : b3 = e3
                · by_cases z3 : c2 = f2
                  · have g1 : (a2 != d1) = false := by simp [z1]
                    have g2 : (b3 != e3) = false := by simp [z2]
                    have g3 : (c2 != f2) = false := by simp [z3]
                    have Z1 := Lib.hid z1; have Z2 := Lib.hid z2; have Z3 := Lib.hid z3; clear z1 z2 z3
                    go_wp2
                    go_roundw
                    case rel => exact ⟨m + 1, by omega, by go_num, Lib.hid (below_drewN HB3.out _), Lib.hid (lt_snoc HA3.out (by rw [HY.out]; simp [Z1.out, Z2.out, Z3.out]))⟩
                    case measure => simp [intOf]; omega
                  · have g1 : (a2 != d1) = false := by simp [z1]
                    have g2 : (b3 != e3) = false := by simp [z2]
                    have g3 : (c2 != f2) = true := by simp [z3]
                    have Z3 := Lib.hid z3; clear z1 z2 z3
                    go_wp2
                    go_ret
                    have hr : yF A B = [(k : Int), (j : Int), (m : Int)] := by
                      unfold yF
                      rw [HL0.out, find3_hit hlt hlj hlm (P := yP A B) (by rw [HY.out]; simp [Z3.out]) HA1.out HA2.out HA3.out]; rfl
                    rw [hr]
                    exact ⟨_, rfl, Own.of_blk (Blk.new _ [.int .i64 k, .int .i64 j, .int .i64 m] _) (bb HW.out HB3.out).size (by simp [maxLen]) rfl rfl, (bb HW.out (below_drewN HB3.out _)).alloc (bb HW.out HB3.out).size _, fun h => by cases h⟩
                · have g1 : (a2 != d1) = false := by simp [z1]
                  have g2 : (b3 != e3) = true := by simp [z2]
                  have Z2 := Lib.hid z2; clear z1 z2
                  go_wp2
                  go_ret
                  have hr : yF A B = [(k : Int), (j : Int), (m : Int)] := by
                    unfold yF
                    rw [HL0.out, find3_hit hlt hlj hlm (P := yP A B) (by rw [HY.out]; simp [Z2.out]) HA1.out HA2.out HA3.out]; rfl
                  rw [hr]
                  exact ⟨_, rfl, Own.of_blk (Blk.new _ [.int .i64 k, .int .i64 j, .int .i64 m] _) (bb HW.out HB3.out).size (by simp [maxLen]) rfl rfl, (bb HW.out (below_drewN HB3.out _)).alloc (bb HW.out HB3.out).size _, fun h => by cases h⟩
              · have g1 : (a2 != d1) = true := by simp [z1]
                have Z1 := Lib.hid z1; clear z1
                go_wp2
                go_ret
                have hr : yF A B = [(k : Int), (j : Int), (m : Int)] := by
                  unfold yF
                  rw [HL0.out, find3_hit hlt hlj hlm (P := yP A B) (by rw [HY.out]; simp [Z1.out]) HA1.out HA2.out HA3.out]; rfl
                rw [hr]
                exact ⟨_, rfl, Own.of_blk (Blk.new _ [.int .i64 k, .int .i64 j, .int .i64 m] _) (bb HW.out HB3.out).size (by simp [maxLen]) rfl rfl, (bb HW.out (below_drewN HB3.out _)).alloc (bb HW.out HB3.out).size _, fun h => by cases h⟩
            · obtain rfl : m = n0 := by omega
              go_wp2
              go_roundw
              case rel => exact ⟨j + 1, by omega, by go_num, HB3, Lib.hid (lt_snoc HA2.out HA3.out)⟩
              case measure => simp [intOf]; omega
        · obtain rfl : j = n0 := by omega
          go_wp2
          go_roundw
          case rel => exact ⟨k + 1, by omega, by go_num, HB2, Lib.hid (lt_snoc HA1.out HA2.out)⟩
          case measure => simp [intOf]; omega
    · obtain rfl : k = n0 := by omega
      go_wp2
      go_ret
      have hr : yF A B = [] := by
        unfold yF
        rw [HL0.out, find3_none HA1.out]; rfl
      rw [hr]
      exact ⟨_, rfl, Own.nil _ _, bb HW.out HB1.out, fun _ => rfl⟩
end Go.Proofs.Ytkghonhghbcdlaa
