/-
  What the law FnRenamedTables reaches, and the law itself: it answers true, and leaves what was there as it was.
-/
import Derived.Test.YtkcobfkmeaakoaaI6
import Derived.Test.YtkcobfkmeaakoaaS1c
import Derived.StillTailTactics
import Derived.Deep.RegionHeld3
import Derived.Test.YtkcobfkmeaakoaaI3b
import Derived.BigQuiet
import Derived.Test.YtkcobfkmeaakoaaP3
import Derived.Deep.LoopGhost
import Derived.Test.YtkcobfkmeaakoaaT1
import Derived.Test.YtkcobfkmeaakoaaS2b
import Derived.Test.YtkcobfkmeaakoaaLTables
import Derived.Test.YtkcobfkmeaakoaaI14
import Derived.Test.YtkcobfkmeaakoaaC0
import Derived.Test.YtkcobfkmeaakoaaI3d
import Derived.Test.YtkcobfkmeaakoaaP7
import Derived.Test.YtkcobfkmeaakoaaP5
import Derived.Test.YtkcobfkmeaakoaaD7
import Derived.Deep.RegionLaw
import Derived.Test.YtkcobfkmeaakoaaRows
import Derived.Test.YtkcobfkmeaakoaaBase
import Derived.ProofKit
import Derived.OpenShut
import Derived.ShutString
import Derived.ChangeOld
import Derived.Lib.SmallJoins
import Derived.Deep.Slices
import Derived.Test.YtkcobfkmeaakoaaLawC
import Derived.Test.YtkcobfkmeaakoaaLawB
import Derived.Test.YtkcobfkmeaakoaaI1c
import Derived.Test.YtkcobfkmeaakoaaD3
import Derived.Test.YtkcobfkmeaakoaaI24
import Derived.Test.YtkcobfkmeaakoaaI3c
import Derived.RangeFuncNested
import Derived.RangeFuncBound
import Derived.RangeFuncCalls
import Derived.RangeFuncLeaves
import Derived.Shelf.Abstract
import Derived.Shelf.RegionOpen
import Derived.OwnWalkIn
import Derived.TacticsInMore
import Derived.LoopNIn
import Derived.LoopIn
import Derived.RegionTactic
import Derived.BigRegion
import Derived.ChangeAlike
import Derived.Test.YtkcobfkmeaakoaaI4
import Derived.Test.YtkcobfkmeaakoaaS4
import Derived.Test.YtkcobfkmeaakoaaI1
namespace Go.Proofs.Ytkcobfkmeaakoaa
open Go.RowKit

def rkP (T : List (List Int)) (x y z : Nat) : Bool := decide (val2 T x (val2 T y z) ≠ val2 T (val2 T x y) (val2 T x z))
def trip : Option (Nat × Nat × Nat) → List Int
  | none => []
  | some (a, b, c) => [(a : Int), (b : Int), (c : Int)]
def rkL (T : List (List Int)) : List Int := trip (find3 T.length (rkP T))
theorem trip_length (x : Option (Nat × Nat × Nat)) : (trip x).length ≤ 3 := by
  unfold trip; split <;> simp


end Go.Proofs.Ytkcobfkmeaakoaa

namespace Go.Proofs.Ytkcobfkmeaakoaa
open Go.RowKit

/-- The six values of both sides of the equation. -/
def yL (A B : List (List Int)) (x y z : Int) : List Int := [val2 A (val2 A x y) (val2 A (val2 B x y) z), val2 B (val2 A x y) (val2 A (val2 B x y) z), val2 B (val2 B x y) z]
def yR (A B : List (List Int)) (x y z : Int) : List Int := [val2 A x (val2 A y z), val2 A (val2 B x (val2 A y z)) (val2 B y z), val2 B (val2 B x (val2 A y z)) (val2 B y z)]
def yP (A B : List (List Int)) (x y z : Nat) : Bool := decide (yL A B x y z ≠ yR A B x y z)
def yF (A B : List (List Int)) : List Int := trip (find3 A.length (yP A B))

set_option maxRecDepth 100000 in
set_option maxHeartbeats 4000000 in
theorem c_equationFault (v0 u0 : Value) (A B : List (List Int)) (w : World) (hA : Sol w v0 u0 A B) (hp : isPM A B = true) :
    Calls Try.prog 108 #[.agg #[v0, u0]] w (RIntsN w (yF A B)) := by
  obtain ⟨n0, b0, o0, c0, rb0, ro0, rc0, b0s, o0s, c0s, rb0s, ro0s, rc0s, rfl, rfl, hl0, hl0s, hn0, hx0, hc0, hm0, hc0s, hm0s, t0, t0s⟩ := hA.tabs hp
  have HL0 := Lib.hid hl0; clear hl0
  have HL0s := Lib.hid hl0s; clear hl0s
  go_enter Try.func108, Try.ntmps108
  go_wp2
  obtain ⟨f0, hW0, hsz⟩ := boxes1 w [.slice (some ⟨b0, o0, none⟩) n0 c0, .slice (some ⟨b0s, o0s, none⟩) n0 c0s] 27
  obtain ⟨W0, hW⟩ : ∃ W, (w.alloc (.cells #[.slice (some ⟨b0, o0, none⟩) n0 c0, .slice (some ⟨b0s, o0s, none⟩) n0 c0s] 27)) = W := ⟨_, rfl⟩
  rw [hW] at f0 hW0 hsz ⊢
  have HSZ := Lib.hid hsz
  clear hW hsz
  obtain ⟨cA0, cB0, -, -⟩ := two_cells f0
  replace t0 := t0.below hW0; replace t0s := t0s.below hW0
  have HT := Lib.hid t0; have HTs := Lib.hid t0s; have HW := Lib.hid hW0; have HF := Lib.hid f0
  clear t0 t0s hA hp hW0 f0 cA0 cB0
  go_loopw [17, 4, 5, 6, 7, 8, 9, 10, 11, 12] (fun a _ _ _ _ _ _ _ _ _ wr => ∃ k : Nat, k ≤ n0 ∧ a = .int .i64 k ∧ Hid (Below W0.heap.size W0 wr) ∧ Hid (∀ x, x < k → ∀ y, y < n0 → ∀ z, z < n0 → yP A B x y z = false)) (fun a _ _ _ _ _ _ _ _ _ _ => n0 - (intOf a).toNat)
  case atStart => exact ⟨0, Nat.zero_le _, rfl, Lib.hid (Below.refl _ _), Lib.hid (by intro x hx; omega)⟩
  case round =>
    obtain ⟨k, hk, rfl, HB1, HA1⟩ := hrel
    obtain ⟨wo, rfl⟩ : ∃ wo : World, wo = wr := ⟨_, rfl⟩
    by_cases hlt : k < n0
    · go_wp2
      go_loopw [21, 5, 6, 7, 8, 9, 10, 11, 12] (fun a _ _ _ _ _ _ _ _ wr => ∃ j : Nat, j ≤ n0 ∧ a = .int .i64 j ∧ Hid (Below W0.heap.size W0 wr) ∧ Hid (∀ y, y < j → ∀ z, z < n0 → yP A B k y z = false)) (fun a _ _ _ _ _ _ _ _ _ => n0 - (intOf a).toNat)
      case atStart => exact ⟨0, Nat.zero_le _, rfl, HB1, Lib.hid (by intro x hx; omega)⟩
      case round =>
        obtain ⟨j, hj, rfl, HB2, HA2⟩ := hrel
        obtain ⟨wp, rfl⟩ : ∃ wp : World, wp = wr := ⟨_, rfl⟩
        by_cases hlj : j < n0
        · go_wp2
          go_loopw [25, 6, 7, 8, 9, 10, 11, 12] (fun a _ _ _ _ _ _ _ wr => ∃ m : Nat, m ≤ n0 ∧ a = .int .i64 m ∧ Hid (Below W0.heap.size W0 wr) ∧ Hid (∀ z, z < m → yP A B k j z = false)) (fun a _ _ _ _ _ _ _ _ => n0 - (intOf a).toNat)
          case atStart => exact ⟨0, Nat.zero_le _, rfl, HB2, Lib.hid (by intro x hx; omega)⟩
          case round =>
            obtain ⟨m, hm, rfl, HB3, HA3⟩ := hrel
            by_cases hlm : m < n0
            · have T := HT.out.below HB3.out; have Ts := HTs.out.below HB3.out
              obtain ⟨cA3, cB3, -, -⟩ := two_cells (HF.out.under HB3.out)
              have p1 := T.row k hlt; have p2 := Ts.row k hlt; have p3 := T.row j hlj; have p4 := Ts.row j hlj
              have x1 := T.val k j hlt hlj; have x2 := Ts.val k j hlt hlj; have x3 := T.val j m hlj hlm; have x4 := Ts.val j m hlj hlm
              obtain ⟨ra0, ra1⟩ := T.rng k j (by omega) (by omega) (by omega) (by omega)
              obtain ⟨rb0, rb1⟩ := Ts.rng k j (by omega) (by omega) (by omega) (by omega)
              obtain ⟨re0, re1⟩ := T.rng j m (by omega) (by omega) (by omega) (by omega)
              obtain ⟨rf0, rf1⟩ := Ts.rng j m (by omega) (by omega) (by omega) (by omega)
              obtain ⟨a1, h1⟩ : ∃ z, z = val2 A k j := ⟨_, rfl⟩
              obtain ⟨b1, h2⟩ : ∃ z, z = val2 B k j := ⟨_, rfl⟩
              obtain ⟨e1, h3⟩ : ∃ z, z = val2 A j m := ⟨_, rfl⟩
              obtain ⟨f1, h4⟩ : ∃ z, z = val2 B j m := ⟨_, rfl⟩
              rw [← h1] at x1 ra0 ra1; rw [← h2] at x2 rb0 rb1; rw [← h3] at x3 re0 re1; rw [← h4] at x4 rf0 rf1
              have q1 := T.rowi b1 rb0 rb1; have q2 := Ts.rowi b1 rb0 rb1; have y1 := T.vin b1 m rb0 rb1 hlm; have y2 := Ts.vin b1 m rb0 rb1 hlm
              obtain ⟨rc0, rc1⟩ := T.rng b1 m rb0 rb1 (by omega) (by omega)
              obtain ⟨b2, h5⟩ : ∃ z, z = val2 A b1 m := ⟨_, rfl⟩
              obtain ⟨c2, h6⟩ : ∃ z, z = val2 B b1 m := ⟨_, rfl⟩
              rw [← h5] at y1 rc0 rc1; rw [← h6] at y2
              have q3 := T.rowi a1 ra0 ra1; have q4 := Ts.rowi a1 ra0 ra1; have y3 := T.vali a1 b2 ra0 ra1 rc0 rc1; have y4 := Ts.vali a1 b2 ra0 ra1 rc0 rc1
              obtain ⟨a2, h7⟩ : ∃ z, z = val2 A a1 b2 := ⟨_, rfl⟩
              obtain ⟨b3, h8⟩ : ∃ z, z = val2 B a1 b2 := ⟨_, rfl⟩
              rw [← h7] at y3; rw [← h8] at y4
              have y5 := T.vni k e1 hlt re0 re1; have y6 := Ts.vni k e1 hlt re0 re1
              obtain ⟨rg0, rg1⟩ := Ts.rng k e1 (by omega) (by omega) re0 re1
              obtain ⟨d1, h9⟩ : ∃ z, z = val2 A k e1 := ⟨_, rfl⟩
              obtain ⟨e2, h10⟩ : ∃ z, z = val2 B k e1 := ⟨_, rfl⟩
              rw [← h9] at y5; rw [← h10] at y6 rg0 rg1
              have q5 := T.rowi e2 rg0 rg1; have q6 := Ts.rowi e2 rg0 rg1; have y7 := T.vali e2 f1 rg0 rg1 rf0 rf1; have y8 := Ts.vali e2 f1 rg0 rg1 rf0 rf1
              obtain ⟨e3, h11⟩ : ∃ z, z = val2 A e2 f1 := ⟨_, rfl⟩
              obtain ⟨f2, h12⟩ : ∃ z, z = val2 B e2 f1 := ⟨_, rfl⟩
              rw [← h11] at y7; rw [← h12] at y8
              have HY : Hid (yP A B k j m = decide ([a2, b3, c2] ≠ [d1, e3, f2])) := by show _ = _; subst h1 h2 h3 h4 h5 h6 h7 h8 h9 h10 h11 h12; rfl
              clear h1 h2 h3 h4 h5 h6 h7 h8 h9 h10 h11 h12 T Ts
              have hk0 : (0 : Int) ≤ k := by omega
              have hk1 : (k : Int) < n0 := by omega
              have hj0 : (0 : Int) ≤ j := by omega
              have hj1 : (j : Int) < n0 := by omega
              have hm0 : (0 : Int) ≤ m := by omega
              have hm1 : (m : Int) < n0 := by omega
              go_wp2
              go_quiet (fail)
              go_wp2
              go_quiet (fail)
              go_wp2
              go_quiet (fail)
              go_wp2
              go_quiet (fail)
              go_wp2
              go_quiet (fail)
              go_wp2
              go_quiet (fail)
              by_cases z1 : a2 = d1
              · by_cases z2 : b3 = e3
                · by_cases z3 : c2 = f2
                  · have g1 : (a2 != d1) = false := by simp [z1]
                    have g2 : (b3 != e3) = false := by simp [z2]
                    have g3 : (c2 != f2) = false := by simp [z3]
                    have Z1 := Lib.hid z1; have Z2 := Lib.hid z2; have Z3 := Lib.hid z3; clear z1 z2 z3
                    go_wp2
                    go_roundw
                    case rel => exact ⟨m + 1, by omega, by go_num, Lib.hid (below_drewN HB3.out _), Lib.hid (lt_snoc HA3.out (by rw [HY.out]; simp [Z1.out, Z2.out, Z3.out]))⟩
                    case measure => simp [intOf]; omega
                  · have g1 : (a2 != d1) = false := by simp [z1]
                    have g2 : (b3 != e3) = false := by simp [z2]
                    have g3 : (c2 != f2) = true := by simp [z3]
                    have Z3 := Lib.hid z3; clear z1 z2 z3
                    go_wp2
                    go_ret
                    have hr : yF A B = [(k : Int), (j : Int), (m : Int)] := by
                      unfold yF
                      rw [HL0.out, find3_hit hlt hlj hlm (P := yP A B) (by rw [HY.out]; simp [Z3.out]) HA1.out HA2.out HA3.out]; rfl
                    rw [hr]
                    exact ⟨_, rfl, Own.of_blk (Blk.new _ [.int .i64 k, .int .i64 j, .int .i64 m] _) (bb HW.out HB3.out).size (by simp [maxLen]) rfl rfl, (bb HW.out (below_drewN HB3.out _)).alloc (bb HW.out HB3.out).size _, fun h => by cases h⟩
                · have g1 : (a2 != d1) = false := by simp [z1]
                  have g2 : (b3 != e3) = true := by simp [z2]
                  have Z2 := Lib.hid z2; clear z1 z2
                  go_wp2
                  go_ret
                  have hr : yF A B = [(k : Int), (j : Int), (m : Int)] := by
                    unfold yF
                    rw [HL0.out, find3_hit hlt hlj hlm (P := yP A B) (by rw [HY.out]; simp [Z2.out]) HA1.out HA2.out HA3.out]; rfl
                  rw [hr]
                  exact ⟨_, rfl, Own.of_blk (Blk.new _ [.int .i64 k, .int .i64 j, .int .i64 m] _) (bb HW.out HB3.out).size (by simp [maxLen]) rfl rfl, (bb HW.out (below_drewN HB3.out _)).alloc (bb HW.out HB3.out).size _, fun h => by cases h⟩
              · have g1 : (a2 != d1) = true := by simp [z1]
                have Z1 := Lib.hid z1; clear z1
                go_wp2
                go_ret
                have hr : yF A B = [(k : Int), (j : Int), (m : Int)] := by
                  unfold yF
                  rw [HL0.out, find3_hit hlt hlj hlm (P := yP A B) (by rw [HY.out]; simp [Z1.out]) HA1.out HA2.out HA3.out]; rfl
                rw [hr]
                exact ⟨_, rfl, Own.of_blk (Blk.new _ [.int .i64 k, .int .i64 j, .int .i64 m] _) (bb HW.out HB3.out).size (by simp [maxLen]) rfl rfl, (bb HW.out (below_drewN HB3.out _)).alloc (bb HW.out HB3.out).size _, fun h => by cases h⟩
            · obtain rfl : m = n0 := by omega
              go_wp2
              go_roundw
              case rel => exact ⟨j + 1, by omega, by go_num, HB3, Lib.hid (lt_snoc HA2.out HA3.out)⟩
              case measure => simp [intOf]; omega
        · obtain rfl : j = n0 := by omega
          go_wp2
          go_roundw
          case rel => exact ⟨k + 1, by omega, by go_num, HB2, Lib.hid (lt_snoc HA1.out HA2.out)⟩
          case measure => simp [intOf]; omega
    · obtain rfl : k = n0 := by omega
      go_wp2
      go_ret
      have hr : yF A B = [] := by
        unfold yF
        rw [HL0.out, find3_none HA1.out]; rfl
      rw [hr]
      exact ⟨_, rfl, Own.nil _ _, bb HW.out HB1.out, fun _ => rfl⟩
end Go.Proofs.Ytkcobfkmeaakoaa

namespace Go.Proofs.Ytkcobfkmeaakoaa
open Go.RowKit

/-- Doing the pair map at the places i and i + 1. -/
def doL (A B : List (List Int)) (L : List Int) (i : Nat) : List Int := (L.set i (val2 A (nth L i) (nth L ((i : Int) + 1)))).set (i + 1) (val2 B (nth L i) (nth L ((i : Int) + 1)))
def LOk (n : Nat) (L : List Int) : Prop := L.length = 3 ∧ ∀ x ∈ L, 0 ≤ x ∧ x < n
theorem doL_ok {A B : List (List Int)} {n : Nat} {L : List Int} {i : Nat} (h : LOk n L) (hA : ∀ x y : Int, 0 ≤ x → x < n → 0 ≤ y → y < n → 0 ≤ val2 A x y ∧ val2 A x y < n) (hB : ∀ x y : Int, 0 ≤ x → x < n → 0 ≤ y → y < n → 0 ≤ val2 B x y ∧ val2 B x y < n) (hi : i ≤ 1) : LOk n (doL A B L i) := by
  obtain ⟨hl, hr⟩ := h
  have h1 := hr _ (nth_mem (p := L) (x := i) (by omega) (by omega))
  have h2 := hr _ (nth_mem (p := L) (x := (i : Int) + 1) (by omega) (by omega))
  refine ⟨by simp [doL, hl], fun x hx => ?_⟩
  unfold doL at hx
  rcases List.mem_or_eq_of_mem_set hx with hx | rfl
  · rcases List.mem_or_eq_of_mem_set hx with hx | rfl
    · exact hr x hx
    · exact hA _ _ h1.1 h1.2 h2.1 h2.2
  · exact hB _ _ h1.1 h1.2 h2.1 h2.2


set_option maxRecDepth 100000 in
set_option maxHeartbeats 800000 in
theorem c_l02Do (v0 u0 : Value) (A B : List (List Int)) (v1 : Value) (L : List Int) (w : World) (hA : Sol w v0 u0 A B) (hL : Ints w v1 L) (i : Nat) (M : List Int) (hM : doL A B L i = M) (hp : isPM A B = true) (hok : LOk A.length L) (hi : i ≤ 1) :
    Calls Try.prog 175 #[.agg #[v0, u0], v1, .int .i64 i] w (RInts w M) := by
  obtain ⟨n0, b0, o0, c0, rb0, ro0, rc0, b0s, o0s, c0s, rb0s, ro0s, rc0s, rfl, rfl, hl0, hl0s, hn0, hx0, hc0, hm0, hc0s, hm0s, t0, t0s⟩ := hA.tabs hp
  have HL0 := Lib.hid hl0; clear hl0
  have HL0s := Lib.hid hl0s; clear hl0s
  obtain ⟨a1, c1, rfl, hc1, hm1⟩ := hL.shape
  go_enter Try.func175, Try.ntmps175
  go_wp2_with fail
  obtain ⟨f0, hW0, hsz⟩ := boxes1 w [.slice (some ⟨b0, o0, none⟩) n0 c0, .slice (some ⟨b0s, o0s, none⟩) n0 c0s] 27
  obtain ⟨W0, hW⟩ : ∃ W, (w.alloc (.cells #[.slice (some ⟨b0, o0, none⟩) n0 c0, .slice (some ⟨b0s, o0s, none⟩) n0 c0s] 27)) = W := ⟨_, rfl⟩
  rw [hW] at f0 hW0 hsz ⊢
  have HSZ := Lib.hid hsz
  clear hW hsz
  obtain ⟨cA0, cB0, -, -⟩ := two_cells f0
  replace t0 := t0.below hW0; replace t0s := t0s.below hW0
  have HM := Lib.hid hM; have HOK := Lib.hid hok; have HT := Lib.hid t0; have HTs := Lib.hid t0s; have HW := Lib.hid hW0; have HF := Lib.hid f0
  have hn3 : L.length = 3 := hok.1
  have HN3 := Lib.hid hn3
  have hLW := hL.below hW0
  have hx' := hok.2 _ (nth_mem (p := L) (x := i) (by omega) (by omega))
  have hy' := hok.2 _ (nth_mem (p := L) (x := (i : Int) + 1) (by omega) (by omega))
  rw [HL0.out] at hx' hy'
  have hil : (i : Int) < L.length := by omega
  have hil2 : (i : Int) + 1 < L.length := by omega
  have hL10 : L.length ≤ 3 := by omega
  obtain ⟨bl, ol, rfl, _⟩ := hLW.geti (i : Int) (by omega) hil
  clear hM hok t0 t0s hW0 f0 cA0 cB0 hn3 hA hp
  refine (c_l01Own _ _ _ hLW (by omega)).mono ?_; rintro e w1 ⟨r, rfl, ho, hb1⟩
  rcases ho.open with ⟨_, h0⟩ | ⟨g, cs, hv, hg, hblk, hmx⟩
  · rw [h0] at hil; simp at hil; omega
  subst hv
  have T := HT.out.below hb1
  obtain ⟨cA1, cB1, -, -⟩ := two_cells (HF.out.under hb1)
  have l1 := (hLW.below hb1).at i (by omega)
  have l2 := (hLW.below hb1).ati ((i : Int) + 1) (by omega) hil2
  have e2 : ((i : Int) + 1).toNat = i + 1 := by omega
  rw [e2] at l2
  obtain ⟨x, hx⟩ : ∃ x, x = nth L (i : Int) := ⟨_, rfl⟩
  obtain ⟨y, hy⟩ : ∃ y, y = nth L ((i : Int) + 1) := ⟨_, rfl⟩
  rw [← hx] at l1 hx'; rw [← hy] at l2 hy'
  obtain ⟨hx0', hx1'⟩ := hx'
  obtain ⟨hy0', hy1'⟩ := hy'
  have r1 := T.rowi x hx0' hx1'
  have v1 := T.vali x y hx0' hx1' hy0' hy1'
  have hwr : IntKind.i64.wrap ((i : Int) + 1) = (i : Int) + 1 := IntWalk.i64_in _ (by omega)
  have hi1 : (0 : Int) ≤ (i : Int) + 1 := by omega
  have hlen : (L.map (Value.int .i64) ++ cs).length = L.length + cs.length := by simp
  obtain ⟨u1, s1⟩ : ∃ u, w1.cell? ⟨g, i, none⟩ = some u := fill_cell0 hblk (by omega)
  have s2 := hblk.frozen i
  have HX := Lib.hid hx; have HY := Lib.hid hy; have Hblk := Lib.hid hblk; have HB1 := Lib.hid hb1; have HG := Lib.hid hg; have HMX := Lib.hid hmx; have HLen := Lib.hid hlen
  have HLW := Lib.hid hLW
  have hlc : L.length + cs.length ≤ 9223372036854775807 := by unfold maxLen at hmx; omega
  clear hx hy hblk hb1 ho T hlen hLW hL e2 hmx
  go_wp2
  go_still_tail 18, (by kernel_rfl)
  change wpList _ _ _ _ _ w1.drew
  go_wp2_with fail
  have hb2 := (Hblk.out.set i (.int .i64 (val2 A x y))).drew
  have hB2 := (HB1.out.setCell (p := ⟨g, i, none⟩) HG.out (.int .i64 (val2 A x y))).drew
  obtain ⟨W2, hW2⟩ : ∃ W2, (w1.setCell ⟨g, i, none⟩ (.int .i64 (val2 A x y))).drew = W2 := ⟨_, rfl⟩
  rw [hW2] at hb2 hB2 ⊢
  clear hW2 cA1 cB1 l1 l2 r1 v1 s1 s2
  have T := HTs.out.below hB2
  obtain ⟨cA1, cB1, -, -⟩ := two_cells (HF.out.under hB2)
  have l1 := (HLW.out.below hB2).at i (by omega)
  have l2 := (HLW.out.below hB2).ati ((i : Int) + 1) (by omega) hil2
  have e2 : ((i : Int) + 1).toNat = i + 1 := by omega
  rw [e2] at l2
  rw [← HX.out] at l1; rw [← HY.out] at l2
  have r1 := T.rowi x hx0' hx1'
  have v1 := T.vali x y hx0' hx1' hy0' hy1'
  have hlen : ((L.map (Value.int .i64) ++ cs).set i (.int .i64 (val2 A x y))).length = L.length + cs.length := by simp
  obtain ⟨u2, s1⟩ : ∃ u, W2.cell? ⟨g, i + 1, none⟩ = some u := fill_cell0 hb2 (by omega)
  have s2 := hb2.frozen (i + 1)
  have Hb2 := Lib.hid hb2; have HB2 := Lib.hid hB2
  clear hb2 hB2 T hlen e2
  go_wp2
  go_still_tail 19, (by kernel_rfl)
  change wpList _ _ _ _ _ W2.drew
  clear l1 l2 r1 v1 cA1 cB1
  go_wp2
  go_ret
  have hb3 := (Hb2.out.set (i + 1) (.int .i64 (val2 B x y))).drew
  have hB3 := (HB2.out.setCell (p := ⟨g, i + 1, none⟩) HG.out (.int .i64 (val2 B x y))).drew
  refine ⟨_, rfl, ?_, bb HW.out hB3⟩
  have hMl : M.length = L.length := by rw [← HM.out]; simp [doL]
  have hMe : ((L.map (Value.int .i64) ++ cs).set i (.int .i64 (val2 A x y))).set (i + 1) (.int .i64 (val2 B x y)) = M.map (Value.int .i64) ++ cs := by
    rw [← HM.out, List.set_append, if_pos (by simp; omega), List.set_append, if_pos (by simp; omega), ← List.map_set, ← List.map_set]
    unfold doL
    rw [← HX.out, ← HY.out]
  rw [hMe] at hb3
  exact Own.shut hb3 (Nat.le_trans HW.out.size HG.out) (by rw [hMl]; exact HMX.out) hMl.symm (by rw [hMl])

theorem c_l02Do0 (v0 u0 : Value) (A B : List (List Int)) (v1 : Value) (L : List Int) (w : World) (hA : Sol w v0 u0 A B) (hL : Ints w v1 L) (M : List Int) (hM : doL A B L 0 = M) (hp : isPM A B = true) (hok : LOk A.length L) :
    Calls Try.prog 175 #[.agg #[v0, u0], v1, .int .i64 0] w (RInts w M) := c_l02Do v0 u0 A B v1 L w hA hL 0 M hM hp hok (by omega)
theorem c_l02Do1 (v0 u0 : Value) (A B : List (List Int)) (v1 : Value) (L : List Int) (w : World) (hA : Sol w v0 u0 A B) (hL : Ints w v1 L) (M : List Int) (hM : doL A B L 1 = M) (hp : isPM A B = true) (hok : LOk A.length L) :
    Calls Try.prog 175 #[.agg #[v0, u0], v1, .int .i64 1] w (RInts w M) := c_l02Do v0 u0 A B v1 L w hA hL 1 M hM hp hok (by omega)
set_option maxRecDepth 100000 in
set_option maxHeartbeats 4000000 in
theorem c_l02Fault (v0 u0 : Value) (A B : List (List Int)) (w : World) (hA : Sol w v0 u0 A B) (hp : isPM A B = true) :
    Calls Try.prog 131 #[.agg #[v0, u0]] w (RInts w (yF A B)) := by
  obtain ⟨n0, b0, o0, c0, rb0, ro0, rc0, b0s, o0s, c0s, rb0s, ro0s, rc0s, rfl, rfl, hl0, hl0s, hn0, hx0, hc0, hm0, hc0s, hm0s, t0, t0s⟩ := hA.tabs hp
  have HL0 := Lib.hid hl0; clear hl0
  have HL0s := Lib.hid hl0s; clear hl0s
  go_enter Try.func131, Try.ntmps131
  go_wp2
  obtain ⟨f0, hW0, hsz⟩ := boxes1 w [.slice (some ⟨b0, o0, none⟩) n0 c0, .slice (some ⟨b0s, o0s, none⟩) n0 c0s] 27
  obtain ⟨W0, hW⟩ : ∃ W, (w.alloc (.cells #[.slice (some ⟨b0, o0, none⟩) n0 c0, .slice (some ⟨b0s, o0s, none⟩) n0 c0s] 27)) = W := ⟨_, rfl⟩
  rw [hW] at f0 hW0 hsz ⊢
  have HSZ := Lib.hid hsz
  clear hW hsz
  obtain ⟨cA0, cB0, -, -⟩ := two_cells f0
  replace t0 := t0.below hW0; replace t0s := t0s.below hW0
  have HT := Lib.hid t0; have HTs := Lib.hid t0s; have HW := Lib.hid hW0; have HF := Lib.hid f0; have HS := Lib.hid (hA.below hW0); have HP := Lib.hid hp
  clear t0 t0s hA hp hW0 f0 cA0 cB0
  go_loopw [4, 5, 6, 7] (fun a _ _ _ wr => ∃ k : Nat, k ≤ n0 ∧ a = .int .i64 k ∧ Hid (Below W0.heap.size W0 wr) ∧ Hid (∀ x, x < k → ∀ y, y < n0 → ∀ z, z < n0 → yP A B x y z = false)) (fun a _ _ _ _ => n0 - (intOf a).toNat)
  case atStart => exact ⟨0, Nat.zero_le _, rfl, Lib.hid (Below.refl _ _), Lib.hid (by intro x hx; omega)⟩
  case round =>
    obtain ⟨k, hk, rfl, HB1, HA1⟩ := hrel
    obtain ⟨wo, rfl⟩ : ∃ wo : World, wo = wr := ⟨_, rfl⟩
    by_cases hlt : k < n0
    · go_wp2
      go_loopw [5, 6, 7] (fun a _ _ wr => ∃ j : Nat, j ≤ n0 ∧ a = .int .i64 j ∧ Hid (Below W0.heap.size W0 wr) ∧ Hid (∀ y, y < j → ∀ z, z < n0 → yP A B k y z = false)) (fun a _ _ _ => n0 - (intOf a).toNat)
      case atStart => exact ⟨0, Nat.zero_le _, rfl, HB1, Lib.hid (by intro x hx; omega)⟩
      case round =>
        obtain ⟨j, hj, rfl, HB2, HA2⟩ := hrel
        obtain ⟨wp, rfl⟩ : ∃ wp : World, wp = wr := ⟨_, rfl⟩
        by_cases hlj : j < n0
        · go_wp2
          go_loopw [6, 7] (fun a _ wr => ∃ m : Nat, m ≤ n0 ∧ a = .int .i64 m ∧ Hid (Below W0.heap.size W0 wr) ∧ Hid (∀ z, z < m → yP A B k j z = false)) (fun a _ _ => n0 - (intOf a).toNat)
          case atStart => exact ⟨0, Nat.zero_le _, rfl, HB2, Lib.hid (by intro x hx; omega)⟩
          case round =>
            obtain ⟨m, hm, rfl, HB3, HA3⟩ := hrel
            by_cases hlm : m < n0
            · have hr1 : (0 : Int) ≤ k ∧ (k : Int) < n0 := by omega
              have hr2 : (0 : Int) ≤ j ∧ (j : Int) < n0 := by omega
              have hr3 : (0 : Int) ≤ m ∧ (m : Int) < n0 := by omega
              have hok0 : LOk A.length [(k : Int), (j : Int), (m : Int)] := by
                rw [HL0.out]
                refine ⟨rfl, fun x hx => ?_⟩
                simp only [List.mem_cons, List.not_mem_nil, or_false] at hx
                rcases hx with rfl | rfl | rfl
                · exact hr1
                · exact hr2
                · exact hr3
              have hrA : ∀ x y : Int, 0 ≤ x → x < A.length → 0 ≤ y → y < A.length → 0 ≤ val2 A x y ∧ val2 A x y < A.length := by rw [HL0.out]; exact HT.out.rng
              have hrB : ∀ x y : Int, 0 ≤ x → x < A.length → 0 ≤ y → y < A.length → 0 ≤ val2 B x y ∧ val2 B x y < A.length := by rw [HL0.out]; exact HTs.out.rng
              obtain ⟨M1, E1⟩ : ∃ M, doL A B [(k : Int), (j : Int), (m : Int)] 0 = M := ⟨_, rfl⟩
              obtain ⟨M2, E2⟩ : ∃ M, doL A B M1 1 = M := ⟨_, rfl⟩
              obtain ⟨M3, E3⟩ : ∃ M, doL A B M2 0 = M := ⟨_, rfl⟩
              obtain ⟨N1, E4⟩ : ∃ M, doL A B [(k : Int), (j : Int), (m : Int)] 1 = M := ⟨_, rfl⟩
              obtain ⟨N2, E5⟩ : ∃ M, doL A B N1 0 = M := ⟨_, rfl⟩
              obtain ⟨N3, E6⟩ : ∃ M, doL A B N2 1 = M := ⟨_, rfl⟩
              have hok1 : LOk A.length M1 := by rw [← E1]; exact doL_ok hok0 hrA hrB (by omega)
              have hok2 : LOk A.length M2 := by rw [← E2]; exact doL_ok hok1 hrA hrB (by omega)
              have hok4 : LOk A.length N1 := by rw [← E4]; exact doL_ok hok0 hrA hrB (by omega)
              have hok5 : LOk A.length N2 := by rw [← E5]; exact doL_ok hok4 hrA hrB (by omega)
              have HY : Hid (yP A B k j m = decide (M3 ≠ N3)) := by show _ = _; subst E1 E2 E3 E4 E5 E6; rfl
              have HE1 := Lib.hid E1; have HE2 := Lib.hid E2; have HE3 := Lib.hid E3; have HE4 := Lib.hid E4; have HE5 := Lib.hid E5; have HE6 := Lib.hid E6
              have HO0 := Lib.hid hok0; have HO1 := Lib.hid hok1; have HO2 := Lib.hid hok2; have HO4 := Lib.hid hok4; have HO5 := Lib.hid hok5
              obtain ⟨wi, rfl⟩ : ∃ wi : World, wi = wr := ⟨_, rfl⟩
              obtain ⟨W1, hW1⟩ : ∃ W1, (wi.alloc (.cells #[.int .i64 k, .int .i64 j, .int .i64 m] 2)) = W1 := ⟨_, rfl⟩
              have hbW1 : Below W0.heap.size W0 W1 := by rw [← hW1]; exact HB3.out.alloc HB3.out.size _
              have hl0 : Ints W1 (.slice (some ⟨wi.heap.size, 0, none⟩) 3 3) [(k : Int), (j : Int), (m : Int)] := by
                rw [← hW1]
                exact (Own.of_blk (B := 0) (xs := [(k : Int), (j : Int), (m : Int)]) (Blk.new wi [.int .i64 k, .int .i64 j, .int .i64 m] _) (Nat.zero_le _) (by simp [maxLen]) rfl rfl).ints
              have hbk0 : Blk W1 wi.heap.size 2 [.int .i64 k, .int .i64 j, .int .i64 m] := by rw [← hW1]; exact Blk.new wi _ _
              have HW1 := Lib.hid hW1
              clear hW1 E1 E2 E3 E4 E5 E6 hok0 hok1 hok2 hok4 hok5 hrA hrB hr1 hr2 hr3
              go_wp2_with fail
              rw [HW1.out]
              have HL := Lib.hid (hl0.below (Below.refl _ _).drew); have HBk0 := Lib.hid hbk0.drew
              have HSc := Lib.hid (HS.out.below hbW1.drew)
              have HFc := Lib.hid ((HF.out.under hbW1).drew); have HBc := Lib.hid hbW1.drew
              obtain ⟨cA3, cB3, -, -⟩ := two_cells HFc.out
              clear hl0 hbk0 hbW1
              by_cases q1 : M3 = N3
              · have g1 : decide (M3 = N3) = true := by simp [q1]
                have Q1 := Lib.hid q1; clear q1
                go_region_held3 (fun w' => w'.cell? ⟨w.heap.size, 0, none⟩ = some (.slice (some ⟨b0, o0, none⟩) n0 c0) ∧ w'.cell? ⟨w.heap.size, 1, none⟩ = some (.slice (some ⟨b0s, o0s, none⟩) n0 c0s))
                  (first | go_keep | exact ⟨(two_cells HFc.out).1, (two_cells HFc.out).2.1⟩)
                  ((first | (go_at_call 175; (with_reducible refine (c_l02Do0 _ _ A B _ [(k : Int), (j : Int), (m : Int)] _ HSc.out HL.out M1 HE1.out HP.out HO0.out).mono ?_); rintro e w1 ⟨r1, rfl, ho1, hb1⟩; obtain ⟨ra1, rc1, hv1, _⟩ := ho1.shape; subst hv1; have HI1 := Lib.hid ho1.ints; replace HSc := Lib.hid (HSc.out.below hb1); replace HFc := Lib.hid (HFc.out.under hb1); replace HBc := Lib.hid (bb HBc.out hb1); replace HBk0 := Lib.hid (HBk0.out.under hb1); replace HL := Lib.hid (HL.out.below hb1); clear ho1 hb1) | (go_at_call 175; (with_reducible refine (c_l02Do1 _ _ A B _ M1 _ HSc.out HI1.out M2 HE2.out HP.out HO1.out).mono ?_); rintro e w2 ⟨r2, rfl, ho2, hb2⟩; obtain ⟨ra2, rc2, hv2, _⟩ := ho2.shape; subst hv2; have HI2 := Lib.hid ho2.ints; replace HSc := Lib.hid (HSc.out.below hb2); replace HFc := Lib.hid (HFc.out.under hb2); replace HBc := Lib.hid (bb HBc.out hb2); replace HBk0 := Lib.hid (HBk0.out.under hb2); replace HL := Lib.hid (HL.out.below hb2); clear ho2 hb2) | (go_at_call 175; (with_reducible refine (c_l02Do0 _ _ A B _ M2 _ HSc.out HI2.out M3 HE3.out HP.out HO2.out).mono ?_); rintro e w3 ⟨r3, rfl, ho3, hb3⟩; obtain ⟨ra3, rc3, hv3, _⟩ := ho3.shape; subst hv3; have HI3 := Lib.hid ho3.ints; replace HSc := Lib.hid (HSc.out.below hb3); replace HFc := Lib.hid (HFc.out.under hb3); replace HBc := Lib.hid (bb HBc.out hb3); replace HBk0 := Lib.hid (HBk0.out.under hb3); replace HL := Lib.hid (HL.out.below hb3); clear ho3 hb3) | (go_at_call 175; (with_reducible refine (c_l02Do1 _ _ A B _ [(k : Int), (j : Int), (m : Int)] _ HSc.out HL.out N1 HE4.out HP.out HO0.out).mono ?_); rintro e w4 ⟨r4, rfl, ho4, hb4⟩; obtain ⟨ra4, rc4, hv4, _⟩ := ho4.shape; subst hv4; have HI4 := Lib.hid ho4.ints; replace HSc := Lib.hid (HSc.out.below hb4); replace HFc := Lib.hid (HFc.out.under hb4); replace HBc := Lib.hid (bb HBc.out hb4); replace HBk0 := Lib.hid (HBk0.out.under hb4); replace HI3 := Lib.hid (HI3.out.below hb4); clear ho4 hb4) | (go_at_call 175; (with_reducible refine (c_l02Do0 _ _ A B _ N1 _ HSc.out HI4.out N2 HE5.out HP.out HO4.out).mono ?_); rintro e w5 ⟨r5, rfl, ho5, hb5⟩; obtain ⟨ra5, rc5, hv5, _⟩ := ho5.shape; subst hv5; have HI5 := Lib.hid ho5.ints; replace HSc := Lib.hid (HSc.out.below hb5); replace HFc := Lib.hid (HFc.out.under hb5); replace HBc := Lib.hid (bb HBc.out hb5); replace HBk0 := Lib.hid (HBk0.out.under hb5); replace HI3 := Lib.hid (HI3.out.below hb5); clear ho5 hb5) | (go_at_call 175; (with_reducible refine (c_l02Do1 _ _ A B _ N2 _ HSc.out HI5.out N3 HE6.out HP.out HO5.out).mono ?_); rintro e w6 ⟨r6, rfl, ho6, hb6⟩; obtain ⟨ra6, rc6, hv6, _⟩ := ho6.shape; subst hv6; have HI6 := Lib.hid ho6.ints; replace HSc := Lib.hid (HSc.out.below hb6); replace HFc := Lib.hid (HFc.out.under hb6); replace HBc := Lib.hid (bb HBc.out hb6); replace HBk0 := Lib.hid (HBk0.out.under hb6); replace HI3 := Lib.hid (HI3.out.below hb6); clear ho6 hb6) | (go_at_call 102; refine (c_l01Same _ _ M3 N3 _ HI3.out HI6.out).mono ?_; rintro e w7 hh; obtain ⟨rfl, hb7⟩ := hh.r; replace HBc := Lib.hid (bb HBc.out hb7); replace HBk0 := Lib.hid (HBk0.out.under hb7); replace HFc := Lib.hid (HFc.out.under hb7); clear hh hb7)))
                go_wp2
                go_roundw
                case rel => exact ⟨m + 1, by omega, by go_num, HBc, Lib.hid (lt_snoc HA3.out (by rw [HY.out]; simp [Q1.out]))⟩
                case measure => simp [intOf]; omega
              · have g1 : decide (M3 = N3) = false := by simp [q1]
                have Q1 := Lib.hid q1; clear q1
                go_region_held3 (fun w' => w'.cell? ⟨w.heap.size, 0, none⟩ = some (.slice (some ⟨b0, o0, none⟩) n0 c0) ∧ w'.cell? ⟨w.heap.size, 1, none⟩ = some (.slice (some ⟨b0s, o0s, none⟩) n0 c0s))
                  (first | go_keep | exact ⟨(two_cells HFc.out).1, (two_cells HFc.out).2.1⟩)
                  ((first | (go_at_call 175; (with_reducible refine (c_l02Do0 _ _ A B _ [(k : Int), (j : Int), (m : Int)] _ HSc.out HL.out M1 HE1.out HP.out HO0.out).mono ?_); rintro e w1 ⟨r1, rfl, ho1, hb1⟩; obtain ⟨ra1, rc1, hv1, _⟩ := ho1.shape; subst hv1; have HI1 := Lib.hid ho1.ints; replace HSc := Lib.hid (HSc.out.below hb1); replace HFc := Lib.hid (HFc.out.under hb1); replace HBc := Lib.hid (bb HBc.out hb1); replace HBk0 := Lib.hid (HBk0.out.under hb1); replace HL := Lib.hid (HL.out.below hb1); clear ho1 hb1) | (go_at_call 175; (with_reducible refine (c_l02Do1 _ _ A B _ M1 _ HSc.out HI1.out M2 HE2.out HP.out HO1.out).mono ?_); rintro e w2 ⟨r2, rfl, ho2, hb2⟩; obtain ⟨ra2, rc2, hv2, _⟩ := ho2.shape; subst hv2; have HI2 := Lib.hid ho2.ints; replace HSc := Lib.hid (HSc.out.below hb2); replace HFc := Lib.hid (HFc.out.under hb2); replace HBc := Lib.hid (bb HBc.out hb2); replace HBk0 := Lib.hid (HBk0.out.under hb2); replace HL := Lib.hid (HL.out.below hb2); clear ho2 hb2) | (go_at_call 175; (with_reducible refine (c_l02Do0 _ _ A B _ M2 _ HSc.out HI2.out M3 HE3.out HP.out HO2.out).mono ?_); rintro e w3 ⟨r3, rfl, ho3, hb3⟩; obtain ⟨ra3, rc3, hv3, _⟩ := ho3.shape; subst hv3; have HI3 := Lib.hid ho3.ints; replace HSc := Lib.hid (HSc.out.below hb3); replace HFc := Lib.hid (HFc.out.under hb3); replace HBc := Lib.hid (bb HBc.out hb3); replace HBk0 := Lib.hid (HBk0.out.under hb3); replace HL := Lib.hid (HL.out.below hb3); clear ho3 hb3) | (go_at_call 175; (with_reducible refine (c_l02Do1 _ _ A B _ [(k : Int), (j : Int), (m : Int)] _ HSc.out HL.out N1 HE4.out HP.out HO0.out).mono ?_); rintro e w4 ⟨r4, rfl, ho4, hb4⟩; obtain ⟨ra4, rc4, hv4, _⟩ := ho4.shape; subst hv4; have HI4 := Lib.hid ho4.ints; replace HSc := Lib.hid (HSc.out.below hb4); replace HFc := Lib.hid (HFc.out.under hb4); replace HBc := Lib.hid (bb HBc.out hb4); replace HBk0 := Lib.hid (HBk0.out.under hb4); replace HI3 := Lib.hid (HI3.out.below hb4); clear ho4 hb4) | (go_at_call 175; (with_reducible refine (c_l02Do0 _ _ A B _ N1 _ HSc.out HI4.out N2 HE5.out HP.out HO4.out).mono ?_); rintro e w5 ⟨r5, rfl, ho5, hb5⟩; obtain ⟨ra5, rc5, hv5, _⟩ := ho5.shape; subst hv5; have HI5 := Lib.hid ho5.ints; replace HSc := Lib.hid (HSc.out.below hb5); replace HFc := Lib.hid (HFc.out.under hb5); replace HBc := Lib.hid (bb HBc.out hb5); replace HBk0 := Lib.hid (HBk0.out.under hb5); replace HI3 := Lib.hid (HI3.out.below hb5); clear ho5 hb5) | (go_at_call 175; (with_reducible refine (c_l02Do1 _ _ A B _ N2 _ HSc.out HI5.out N3 HE6.out HP.out HO5.out).mono ?_); rintro e w6 ⟨r6, rfl, ho6, hb6⟩; obtain ⟨ra6, rc6, hv6, _⟩ := ho6.shape; subst hv6; have HI6 := Lib.hid ho6.ints; replace HSc := Lib.hid (HSc.out.below hb6); replace HFc := Lib.hid (HFc.out.under hb6); replace HBc := Lib.hid (bb HBc.out hb6); replace HBk0 := Lib.hid (HBk0.out.under hb6); replace HI3 := Lib.hid (HI3.out.below hb6); clear ho6 hb6) | (go_at_call 102; refine (c_l01Same _ _ M3 N3 _ HI3.out HI6.out).mono ?_; rintro e w7 hh; obtain ⟨rfl, hb7⟩ := hh.r; replace HBc := Lib.hid (bb HBc.out hb7); replace HBk0 := Lib.hid (HBk0.out.under hb7); replace HFc := Lib.hid (HFc.out.under hb7); clear hh hb7)))
                go_wp2
                go_ret
                have hr : yF A B = [(k : Int), (j : Int), (m : Int)] := by
                  unfold yF
                  rw [HL0.out, find3_hit hlt hlj hlm (P := yP A B) (by rw [HY.out]; simp [Q1.out]) HA1.out HA2.out HA3.out]; rfl
                rw [hr]
                exact ⟨_, rfl, Own.of_blk HBk0.out (bb HW.out HB3.out).size (by simp [maxLen]) rfl rfl, bb HW.out HBc.out⟩
            · obtain rfl : m = n0 := by omega
              go_wp2
              go_roundw
              case rel => exact ⟨j + 1, by omega, by go_num, HB3, Lib.hid (lt_snoc HA2.out HA3.out)⟩
              case measure => simp [intOf]; omega
        · obtain rfl : j = n0 := by omega
          go_wp2
          go_roundw
          case rel => exact ⟨k + 1, by omega, by go_num, HB2, Lib.hid (lt_snoc HA1.out HA2.out)⟩
          case measure => simp [intOf]; omega
    · obtain rfl : k = n0 := by omega
      go_wp2
      go_ret
      have hr : yF A B = [] := by
        unfold yF
        rw [HL0.out, find3_none HA1.out]; rfl
      rw [hr]
      exact ⟨_, rfl, Own.made0 _ (bb HW.out HB1.out).size, (bb HW.out HB1.out).alloc (bb HW.out HB1.out).size _⟩
end Go.Proofs.Ytkcobfkmeaakoaa

namespace Go.Proofs.Ytkcobfkmeaakoaa
open Go.RowKit

def isSol (A B : List (List Int)) : Bool := isPM A B && decide (collL A B = []) && decide (yF A B = [])
theorem isSol_pm {A B : List (List Int)} (h : isSol A B = true) : isPM A B = true := by simp [isSol] at h; exact h.1.1
theorem isSol_coll {A B : List (List Int)} (h : isSol A B = true) : collL A B = [] := by simp [isSol] at h; exact h.1.2
theorem isSol_yF {A B : List (List Int)} (h : isSol A B = true) : yF A B = [] := by simp [isSol] at h; exact h.2
theorem eql_nil' (W : World) (a : Option Addr) (n c : Nat) : (binOp .eql 25 (.slice a n c) (.slice none 0 0)).run Try.prog W = .ok (.bool a.isNone) W := Lib.run_eql_slice_nil W _ _ a n c 0 0 Try.underlying25

set_option maxRecDepth 100000 in
set_option maxHeartbeats 800000 in
theorem c_IsSolution (v0 u0 : Value) (A B : List (List Int)) (w : World) (hA : Sol w v0 u0 A B)  :
    Calls Try.prog 35 #[.agg #[v0, u0]] w (RVal w (.bool (isSol A B))) := by
  have hnl := eql_nil'
  by_cases hp0 : isPM A B = true
  case neg =>
    have hq0 : isPM A B = false := by simpa using hp0
    have HQ := Lib.hid hq0; clear hp0
    obtain ⟨a0, c0, rfl, _, _⟩ := hA.1.shape
    obtain ⟨a0s, c0s, rfl, _, _⟩ := hA.2.shape
    go_enter Try.func35, Try.ntmps35
    go_wp2_with fail
    obtain ⟨f0, hW0, hsz⟩ := boxes1 w [.slice a0 A.length c0, .slice a0s B.length c0s] 27
    obtain ⟨W0, hW⟩ : ∃ W, (w.alloc (.cells #[.slice a0 A.length c0, .slice a0s B.length c0s] 27)) = W := ⟨_, rfl⟩
    rw [hW] at f0 hW0 hsz ⊢
    clear hW hsz
    refine (c_IsPairMap _ _ _ _ _ (hA.below hW0)).mono ?_; rintro e g0 ⟨rfl, hbg0⟩
    have hB0 := bb hW0 hbg0
    replace f0 := f0.under hbg0
    obtain ⟨cA0, cB0, -, -⟩ := two_cells f0
    clear hbg0
    have HB := Lib.hid hB0
    clear hB0 hW0
    go_wp2
    go_ret
    exact ⟨ret_bool (by simp [isSol, HQ.out]), HB.out⟩
  have HP0 := Lib.hid hp0
  obtain ⟨a0, c0, rfl, _, _⟩ := hA.1.shape
  obtain ⟨a0s, c0s, rfl, _, _⟩ := hA.2.shape
  go_enter Try.func35, Try.ntmps35
  go_wp2_with fail
  obtain ⟨f0, hW0, hsz⟩ := boxes1 w [.slice a0 A.length c0, .slice a0s B.length c0s] 27
  obtain ⟨W0, hW⟩ : ∃ W, (w.alloc (.cells #[.slice a0 A.length c0, .slice a0s B.length c0s] 27)) = W := ⟨_, rfl⟩
  rw [hW] at f0 hW0 hsz ⊢
  clear hW hsz
  refine (c_IsPairMap _ _ _ _ _ (hA.below hW0)).mono ?_; rintro e g0 ⟨rfl, hbg0⟩
  have hB0 := bb hW0 hbg0
  replace f0 := f0.under hbg0
  obtain ⟨cA0, cB0, -, -⟩ := two_cells f0
  clear hbg0
  go_wp2_with fail
  refine (c_collisionOf _ _ _ _ _ (hA.below hB0) HP0.out).mono ?_; rintro e w2 ⟨r, rfl, ho, hb, hn⟩
  have HO := Lib.hid ho; have HB := Lib.hid (bb hB0 hb); have HN := Lib.hid hn; have HF := Lib.hid (f0.under hb); clear ho hb hn
  by_cases hc : collL A B = []
  · obtain rfl := HN.out hc
    have HC := Lib.hid hc
    have HA := Lib.hid (hA.below HB.out)
    clear hc hB0 hW0 f0 hA cA0 cB0
    obtain ⟨cA0, cB0, -, -⟩ := two_cells HF.out
    go_wp2_with fail
    refine (c_equationFault _ _ _ _ _ HA.out HP0.out).mono ?_; rintro e w3 ⟨r, rfl, ho, hb, hn⟩
    have HO2 := Lib.hid ho; have HB2 := Lib.hid (bb HB.out hb); have HN2 := Lib.hid hn; clear ho hb hn
    by_cases hy : yF A B = []
    · obtain rfl := HN2.out hy
      have HY := Lib.hid hy; clear hy
      go_wp2
      go_ret
      exact ⟨ret_bool (by simp [isSol, HP0.out, HC.out, HY.out]), HB2.out⟩
    · have HY := Lib.hid hy
      rcases HO2.out.open with ⟨_, h0⟩ | ⟨g, cs, hv, _⟩
      · exact absurd h0 hy
      clear hy
      subst hv
      go_wp2
      go_ret
      exact ⟨ret_bool (by simp [isSol, HY.out]), HB2.out⟩
  · have HC := Lib.hid hc
    rcases HO.out.open with ⟨_, h0⟩ | ⟨g, cs, hv, _⟩
    · exact absurd h0 hc
    clear hc hB0 hW0 f0 hA
    subst hv
    go_wp2
    go_ret
    exact ⟨ret_bool (by simp [isSol, HC.out]), HB.out⟩

set_option maxRecDepth 100000 in
set_option maxHeartbeats 800000 in
theorem c_l02Is (v0 u0 : Value) (A B : List (List Int)) (w : World) (hA : Sol w v0 u0 A B)  :
    Calls Try.prog 89 #[.agg #[v0, u0]] w (RVal w (.bool (isSol A B))) := by
  by_cases hp0 : isPM A B = true
  case neg =>
    have hq0 : isPM A B = false := by simpa using hp0
    have HQ := Lib.hid hq0; clear hp0
    obtain ⟨a0, c0, rfl, _, _⟩ := hA.1.shape
    obtain ⟨a0s, c0s, rfl, _, _⟩ := hA.2.shape
    go_enter Try.func89, Try.ntmps89
    go_wp2_with fail
    obtain ⟨f0, hW0, hsz⟩ := boxes1 w [.slice a0 A.length c0, .slice a0s B.length c0s] 27
    obtain ⟨W0, hW⟩ : ∃ W, (w.alloc (.cells #[.slice a0 A.length c0, .slice a0s B.length c0s] 27)) = W := ⟨_, rfl⟩
    rw [hW] at f0 hW0 hsz ⊢
    clear hW hsz
    refine (c_l02Map _ _ _ _ _ (hA.below hW0)).mono ?_; rintro e g0 ⟨rfl, hbg0⟩
    have hB0 := bb hW0 hbg0
    replace f0 := f0.under hbg0
    obtain ⟨cA0, cB0, -, -⟩ := two_cells f0
    clear hbg0
    have HB := Lib.hid hB0
    clear hB0 hW0
    go_wp2
    go_ret
    exact ⟨ret_bool (by simp [isSol, HQ.out]), HB.out⟩
  have HP0 := Lib.hid hp0
  obtain ⟨a0, c0, rfl, _, _⟩ := hA.1.shape
  obtain ⟨a0s, c0s, rfl, _, _⟩ := hA.2.shape
  go_enter Try.func89, Try.ntmps89
  go_wp2_with fail
  obtain ⟨f0, hW0, hsz⟩ := boxes1 w [.slice a0 A.length c0, .slice a0s B.length c0s] 27
  obtain ⟨W0, hW⟩ : ∃ W, (w.alloc (.cells #[.slice a0 A.length c0, .slice a0s B.length c0s] 27)) = W := ⟨_, rfl⟩
  rw [hW] at f0 hW0 hsz ⊢
  clear hW hsz
  refine (c_l02Map _ _ _ _ _ (hA.below hW0)).mono ?_; rintro e g0 ⟨rfl, hbg0⟩
  have hB0 := bb hW0 hbg0
  replace f0 := f0.under hbg0
  obtain ⟨cA0, cB0, -, -⟩ := two_cells f0
  clear hbg0
  go_wp2_with fail
  refine (c_l02Collision _ _ _ _ _ (hA.below hB0) HP0.out).mono ?_; rintro e w2 ⟨r, rfl, ho, hb⟩
  obtain ⟨ra, rc, rfl, _⟩ := ho.shape
  have HB := Lib.hid (bb hB0 hb); have HF := Lib.hid (f0.under hb); clear ho hb
  by_cases hc : collL A B = []
  · have HC := Lib.hid hc; have hl : (((collL A B).length : Int) == 0) = true := by simp [hc]
    have HA := Lib.hid (hA.below HB.out)
    clear hc hB0 hW0 f0 hA cA0 cB0
    obtain ⟨cA0, cB0, -, -⟩ := two_cells HF.out
    go_wp2_with fail
    refine (c_l02Fault _ _ _ _ _ HA.out HP0.out).mono ?_; rintro e w3 ⟨r, rfl, ho, hb⟩
    obtain ⟨rb, rd, rfl, _⟩ := ho.shape
    have HB2 := Lib.hid (bb HB.out hb); clear ho hb
    by_cases hy : yF A B = []
    · have HY := Lib.hid hy; have hl2 : (((yF A B).length : Int) == 0) = true := by simp [hy]
      clear hy
      go_wp2
      go_ret
      exact ⟨ret_bool (by simp [isSol, HP0.out, HC.out, HY.out]), HB2.out⟩
    · have HY := Lib.hid hy; have hl2 : (((yF A B).length : Int) == 0) = false := by simp [hy]
      clear hy
      go_wp2
      go_ret
      exact ⟨ret_bool (by simp [isSol, HY.out]), HB2.out⟩
  · have HC := Lib.hid hc; have hl : (((collL A B).length : Int) == 0) = false := by simp [hc]
    clear hc hB0 hW0 f0 hA
    go_wp2
    go_ret
    exact ⟨ret_bool (by simp [isSol, HC.out]), HB.out⟩
end Go.Proofs.Ytkcobfkmeaakoaa

namespace Go.Proofs.Ytkcobfkmeaakoaa
open Go.RowKit

theorem find2_none' {n m : Nat} {P : Nat → Nat → Bool} (h : find2 n m P = none) {x y : Nat} (hx : x < n) (hy : y < m) : P x y = false := by
  unfold find2 at h
  rw [List.findSome?_eq_none_iff] at h
  have h1 := h x (by simpa using hx)
  rw [Option.map_eq_none_iff, List.find?_eq_none] at h1
  simpa using h1 y (by simpa using hy)

/-- The pair map on the pairs' codes. -/
def pmL (A B : List (List Int)) (n : Nat) : List Int := rowOf (n * n) fun k => val2 A (k / n) (k % n) * n + val2 B (k / n) (k % n)
@[simp] theorem pmL_length (A B : List (List Int)) (n : Nat) : (pmL A B n).length = n * n := by simp [pmL]
theorem code_div {n : Nat} {x y : Int} (hy0 : 0 ≤ y) (hy : y < n) : (x * n + y) / (n : Int) = x ∧ (x * n + y) % (n : Int) = y := by
  have hn : (n : Int) ≠ 0 := by omega
  refine ⟨?_, ?_⟩
  · rw [Int.add_comm, Int.add_mul_ediv_right _ _ hn, Int.ediv_eq_zero_of_lt hy0 hy]; omega
  · rw [Int.add_comm, Int.add_mul_emod_self_right, Int.emod_eq_of_lt hy0 hy]
theorem code_lt {n : Nat} {x y : Int} (hx0 : 0 ≤ x) (hx : x < n) (hy0 : 0 ≤ y) (hy : y < n) : 0 ≤ x * n + y ∧ x * n + y < ((n * n : Nat) : Int) := by
  have h1 : 0 ≤ x * n := Int.mul_nonneg hx0 (by omega)
  have h2 : (x + 1) * n ≤ n * n := Int.mul_le_mul_of_nonneg_right (by omega) (by omega)
  rw [Int.add_mul] at h2
  refine ⟨by omega, ?_⟩
  rw [Int.natCast_mul]; omega
theorem code_inj {n : Nat} {x y u v : Int} (hy0 : 0 ≤ y) (hy : y < n) (hv0 : 0 ≤ v) (hv : v < n) (h : x * n + y = u * n + v) : x = u ∧ y = v := by
  have h1 := code_div (x := x) hy0 hy
  have h2 := code_div (x := u) hv0 hv
  rw [h] at h1
  exact ⟨h1.1.symm.trans h2.1, h1.2.symm.trans h2.2⟩
theorem nth_pmL {A B : List (List Int)} {n : Nat} {x y : Int} (hx0 : 0 ≤ x) (hx : x < n) (hy0 : 0 ≤ y) (hy : y < n) : nth (pmL A B n) (x * n + y) = val2 A x y * n + val2 B x y := by
  obtain ⟨h1, h2⟩ := code_lt hx0 hx hy0 hy
  obtain ⟨h3, h4⟩ := code_div (x := x) hy0 hy
  unfold pmL
  rw [nth_rowOfi _ _ _ h1 h2, h3, h4]
theorem code_ex {n : Nat} {k : Int} (h0 : 0 ≤ k) (h : k < ((n * n : Nat) : Int)) : ∃ x y : Int, (0 ≤ x ∧ x < n) ∧ (0 ≤ y ∧ y < n) ∧ k = x * n + y := by
  have hn : 0 < n := by
    rcases Nat.eq_zero_or_pos n with e | e
    · subst e; simp at h; omega
    · exact e
  refine ⟨k / n, k % n, ⟨Int.ediv_nonneg h0 (by omega), ?_⟩, ⟨Int.emod_nonneg _ (by omega), Int.emod_lt_of_pos _ (by omega)⟩, ?_⟩
  · rw [Int.natCast_mul] at h
    exact Int.ediv_lt_of_lt_mul (by omega) h
  · have := Int.emod_add_mul_ediv k n
    rw [Int.mul_comm] at this; omega
theorem pmL_perm {A B : List (List Int)} (hp : isPM A B = true) (hc : collL A B = []) : Permuted (pmL A B A.length) := by
  obtain ⟨q1, q2, q3⟩ := isPM_parts hp
  have hnone : find2 (A.length * A.length) (A.length * A.length) (colP A B A.length) = none := by
    unfold collL at hc
    cases h : find2 (A.length * A.length) (A.length * A.length) (colP A B A.length) with
    | none => rfl
    | some ab => rw [h] at hc; simp [quad] at hc
  refine ⟨?_, ?_⟩
  · unfold pmL rowOf
    rw [List.nodup_iff_pairwise_ne, List.pairwise_map]
    have hnd : (List.range (A.length * A.length)).Nodup := List.nodup_range
    refine List.Pairwise.imp_of_mem ?_ (List.nodup_iff_pairwise_ne.1 hnd)
    intro a b ha hb hne he
    simp only [List.mem_range] at ha hb
    have hf := find2_none' hnone ha hb
    have hn0 : 1 ≤ A.length := (isTab_len q1).1
    obtain ⟨a1, a2, a3, a4⟩ := divI ha hn0
    obtain ⟨b1, b2, b3, b4⟩ := divI hb hn0
    rw [colP_eq rfl rfl rfl rfl] at hf
    have v1 := val2_lt q2 (x := (a : Int) / (A.length : Int)) (y := (a : Int) % (A.length : Int)) a1 (by omega) a3 (by omega)
    have v2 := val2_lt q2 (x := (b : Int) / (A.length : Int)) (y := (b : Int) % (A.length : Int)) b1 (by omega) b3 (by omega)
    obtain ⟨e1, e2⟩ := code_inj (n := A.length) v1.1 (by omega) v2.1 (by omega) he
    simp [hne, e1, e2] at hf
  · intro z hz
    simp only [pmL, rowOf, List.mem_map, List.mem_range] at hz
    obtain ⟨a, ha, rfl⟩ := hz
    rw [pmL_length]
    obtain ⟨a1, a2, a3, a4⟩ := divI ha (isTab_len q1).1
    have v1 := val2_lt q1 (x := (a : Int) / (A.length : Int)) (y := (a : Int) % (A.length : Int)) a1 a2 a3 a4
    have v2 := val2_lt q2 (x := (a : Int) / (A.length : Int)) (y := (a : Int) % (A.length : Int)) a1 (by omega) a3 (by omega)
    exact code_lt v1.1 v1.2 v2.1 (by omega)

def IsCyc (p : List Int) (k : Int) (r : Nat) : Prop := 1 ≤ r ∧ iter (nth p) r k = k ∧ ∀ j, 1 ≤ j → j < r → iter (nth p) j k ≠ k
theorem IsCyc.eq {p : List Int} {k : Int} {r s : Nat} (h : IsCyc p k r) (h' : IsCyc p k s) : r = s := by
  rcases Nat.lt_trichotomy r s with g | g | g
  · exact absurd h.2.1 (h'.2.2 r h.1 g)
  · exact g
  · exact absurd h'.2.1 (h.2.2 s h'.1 g)
theorem isCyc_ex {p : List Int} (hp : Permuted p) {k : Int} (h0 : 0 ≤ k) (h1 : k < p.length) : ∃ r, IsCyc p k r ∧ r ≤ p.length := by
  obtain ⟨r, hr1, hr2, hr⟩ := comes_back hp h0 h1
  obtain ⟨s, ⟨hs1, hs2⟩, hs3⟩ := exists_least (p := fun r => 1 ≤ r ∧ iter (nth p) r k = k) ⟨r, hr1, hr⟩
  exact ⟨s, ⟨hs1, hs2, fun j j1 j2 e => by have := hs3 j ⟨j1, e⟩; omega⟩, Nat.le_trans (hs3 r ⟨hr1, hr⟩) hr2⟩
open Classical in
noncomputable def cyc (p : List Int) (k : Int) : Nat := if h : ∃ r, IsCyc p k r then Classical.choose h else 1
theorem cyc_eq {p : List Int} {k : Int} {r : Nat} (h : IsCyc p k r) : cyc p k = r := by
  have hex : ∃ r, IsCyc p k r := ⟨r, h⟩
  unfold cyc
  rw [dif_pos hex]
  exact (Classical.choose_spec hex).eq h
theorem cyc_le {p : List Int} (hp : Permuted p) {k : Int} (h0 : 0 ≤ k) (h1 : k < p.length) : 1 ≤ cyc p k ∧ cyc p k ≤ p.length := by
  obtain ⟨r, hr, hl⟩ := isCyc_ex hp h0 h1
  rw [cyc_eq hr]
  exact ⟨hr.1, hl⟩
/-- Behind the last step the value is not yet back before cyc steps: how far a walk can go. -/
theorem cyc_bound {p : List Int} (hp : Permuted p) {k : Int} (h0 : 0 ≤ k) (h1 : k < p.length) {r : Nat} (hr : ∀ j, 1 ≤ j → j < r → iter (nth p) j k ≠ k) (hr1 : 1 ≤ r) : r ≤ cyc p k := by
  obtain ⟨s, hs, _⟩ := isCyc_ex hp h0 h1
  rw [cyc_eq hs]
  rcases Nat.lt_or_ge s r with g | g
  · exact absurd hs.2.1 (hr s hs.1 g)
  · exact g

def gcdI (a b : Int) : Int := (Nat.gcd a.toNat b.toNat : Nat)
theorem gcdI_step {a b : Int} (ha : 0 ≤ a) (hb : 0 < b) : gcdI b (a % b) = gcdI a b := by
  unfold gcdI
  have e : (a % b).toNat = a.toNat % b.toNat := by
    obtain ⟨a', rfl⟩ := Int.eq_ofNat_of_zero_le ha
    obtain ⟨b', rfl⟩ := Int.eq_ofNat_of_zero_le (Int.le_of_lt hb)
    rw [← Int.natCast_emod]; simp only [Int.toNat_natCast]
  rw [e, Nat.gcd_comm b.toNat, ← Nat.gcd_rec, Nat.gcd_comm]
theorem gcdI_zero {a : Int} (ha : 0 ≤ a) : gcdI a 0 = a := by
  unfold gcdI; simp; omega
theorem gcdI_pos {a b : Int} (hb : 0 < b) (ha : 0 < a) : 0 < gcdI a b ∧ gcdI a b ≤ a := by
  unfold gcdI
  have h1 : 0 < Nat.gcd a.toNat b.toNat := Nat.gcd_pos_of_pos_left _ (by omega)
  have h2 := Nat.gcd_le_left b.toNat (show 0 < a.toNat by omega)
  omega
/-- The order behind k codes. -/
noncomputable def ordS (p : List Int) : Nat → Int
  | 0 => 1
  | k + 1 => ordS p k / gcdI (ordS p k) (cyc p k) * cyc p k
theorem ordS_pos {p : List Int} (hp : Permuted p) : ∀ k : Nat, k ≤ p.length → 1 ≤ ordS p k
  | 0, _ => by simp [ordS]
  | k + 1, h => by
    have ih := ordS_pos hp k (by omega)
    have hc := cyc_le hp (k := (k : Int)) (by omega) (by omega)
    obtain ⟨h1, h2⟩ := gcdI_pos (a := ordS p k) (b := (cyc p k : Nat)) (by omega) (by omega)
    have h3 : 1 ≤ ordS p k / gcdI (ordS p k) (cyc p k) := by
      have := Int.le_ediv_of_mul_le (a := 1) (b := ordS p k) h1 (by omega)
      exact this
    have h4 : (1 : Int) * 1 ≤ ordS p k / gcdI (ordS p k) (cyc p k) * cyc p k := Int.mul_le_mul h3 (by omega) (by omega) (by omega)
    simpa [ordS] using h4

set_option maxHeartbeats 400000 in
theorem c_divisorOf (a b : Int) (w : World) (ha0 : 0 ≤ a) (ha : a ≤ 9223372036854775807) (hb0 : 0 ≤ b) (hb : b ≤ 9223372036854775807) :
    Calls Try.prog 142 #[.int .i64 a, .int .i64 b] w (RVal w (.int .i64 (gcdI a b))) := by
  obtain ⟨g, hg⟩ : ∃ g, g = gcdI a b := ⟨_, rfl⟩
  rw [← hg]
  have HG := Lib.hid hg; clear hg
  go_enter Try.func142, Try.ntmps142
  go_wp2
  go_loopw [0, 1] (fun a b wr => ∃ x y n : Int, a = .int .i64 x ∧ b = .int .i64 y ∧ 0 ≤ x ∧ x ≤ 9223372036854775807 ∧ 0 ≤ y ∧ y ≤ 9223372036854775807 ∧ Hid (gcdI x y = g) ∧ Hid (n = 0) ∧ Hid (Below w.heap.size w wr)) (fun _ b _ => (intOf b).toNat)
  case atStart => exact ⟨a, b, 0, rfl, rfl, ha0, ha, hb0, hb, Lib.hid HG.out.symm, rfl, Lib.hid (Below.refl _ _)⟩
  case round =>
    clear ha0 ha hb0 hb HG
    obtain ⟨x, y, _, rfl, rfl, hx0, hx, hy0, hy, HG, -, HB⟩ := hrel
    by_cases hp : 0 < y
    · have hne : (y == 0) = false := by simp; omega
      have h1 := Int.emod_nonneg x (b := y) (by omega)
      have h2 := Int.emod_lt_of_pos x hp
      have HS := Lib.hid (gcdI_step hx0 hp)
      go_wp2
      go_quiet (fail)
      go_wp2
      go_roundw
      case rel => exact ⟨y, x % y, 0, rfl, rfl, hy0, hy, h1, by omega, Lib.hid (HS.out.trans HG.out), rfl, Lib.hid (below_drewN HB.out _)⟩
      case measure => simp [intOf]; omega
    · obtain rfl : y = 0 := by omega
      have hg : x = g := by rw [← HG.out, gcdI_zero hx0]
      have HGG := Lib.hid hg; clear hg
      go_wp2
      go_ret
      exact ⟨ret_int HGG.out, HB.out⟩
end Go.Proofs.Ytkcobfkmeaakoaa

namespace Go.Proofs.Ytkcobfkmeaakoaa
open Go.RowKit

def ivF (A B : List (List Int)) (x y : Nat) : Bool := decide (val2 A (val2 A x y) (val2 B x y) = x) && decide (val2 B (val2 A x y) (val2 B x y) = y)
def involL (A B : List (List Int)) : Bool := all2 A.length (ivF A B)


set_option maxRecDepth 100000 in
set_option maxHeartbeats 800000 in
theorem c_isInvolutive (v0 u0 : Value) (A B : List (List Int)) (w : World) (hA : Sol w v0 u0 A B) (hp : isPM A B = true) :
    Calls Try.prog 105 #[.agg #[v0, u0]] w (RVal w (.bool (involL A B))) := by
  obtain ⟨n0, b0, o0, c0, rb0, ro0, rc0, b0s, o0s, c0s, rb0s, ro0s, rc0s, rfl, rfl, hl0, hl0s, hn0, hx0, hc0, hm0, hc0s, hm0s, t0, t0s⟩ := hA.tabs hp
  have HL0 := Lib.hid hl0; clear hl0
  have HL0s := Lib.hid hl0s; clear hl0s
  go_enter Try.func105, Try.ntmps105
  go_wp2
  obtain ⟨f0, hW0, hsz⟩ := boxes1 w [.slice (some ⟨b0, o0, none⟩) n0 c0, .slice (some ⟨b0s, o0s, none⟩) n0 c0s] 27
  obtain ⟨W0, hW⟩ : ∃ W, (w.alloc (.cells #[.slice (some ⟨b0, o0, none⟩) n0 c0, .slice (some ⟨b0s, o0s, none⟩) n0 c0s] 27)) = W := ⟨_, rfl⟩
  rw [hW] at f0 hW0 hsz ⊢
  have HSZ := Lib.hid hsz
  clear hW hsz
  obtain ⟨cA0, cB0, -, -⟩ := two_cells f0
  replace t0 := t0.below hW0; replace t0s := t0s.below hW0
  have HT := Lib.hid t0; have HTs := Lib.hid t0s; have HW := Lib.hid hW0; have HF := Lib.hid f0
  clear t0 t0s hA hp hW0 f0
  go_loop [11, 3, 4, 5, 6, 7] (fun i _ _ _ _ _ => ∃ k : Nat, k ≤ n0 ∧ i = .int .i64 k ∧ Hid (∀ x, x < k → ∀ y, y < n0 → ivF A B x y = true)) (fun i _ _ _ _ _ => n0 - (intOf i).toNat)
  case atStart => exact ⟨0, Nat.zero_le _, rfl, Lib.hid (by intro x hx; omega)⟩
  case round =>
    obtain ⟨k, hk, rfl, HA⟩ := hrel
    by_cases hlt : k < n0
    · have r1 := HT.out.row k hlt
      go_wp2
      go_loop [18, 5, 6, 7] (fun i _ _ _ => ∃ j : Nat, j ≤ n0 ∧ i = .int .i64 j ∧ Hid (∀ y, y < j → ivF A B k y = true)) (fun i _ _ _ => n0 - (intOf i).toNat)
      case atStart => exact ⟨0, Nat.zero_le _, rfl, Lib.hid (by intro x hx; omega)⟩
      case round =>
        obtain ⟨j, hj, rfl, HA2⟩ := hrel
        by_cases hlj : j < n0
        · have T := HT.out; have Ts := HTs.out
          have x1 := T.val k j hlt hlj; have r2 := Ts.row k hlt; have x2 := Ts.val k j hlt hlj
          obtain ⟨hu0, hu1⟩ := T.rng k j (by omega) (by omega) (by omega) (by omega)
          obtain ⟨hv0, hv1⟩ := Ts.rng k j (by omega) (by omega) (by omega) (by omega)
          have r3 := T.rowi (val2 A k j) hu0 hu1; have x3 := T.vali (val2 A k j) (val2 B k j) hu0 hu1 hv0 hv1
          have r4 := Ts.rowi (val2 A k j) hu0 hu1; have x4 := Ts.vali (val2 A k j) (val2 B k j) hu0 hu1 hv0 hv1
          clear T Ts
          by_cases h1 : val2 A (val2 A k j) (val2 B k j) = k
          · have e1 : (val2 A (val2 A k j) (val2 B k j) != (k : Int)) = false := by simp [h1]
            by_cases h2 : val2 B (val2 A k j) (val2 B k j) = j
            · have e2 : (val2 B (val2 A k j) (val2 B k j) != (j : Int)) = false := by simp [h2]
              have H1 := Lib.hid h1; have H2 := Lib.hid h2; clear h1 h2
              go_wp2
              go_round
              case rel => exact ⟨j + 1, by omega, by go_num, Lib.hid (lt_snoc HA2.out (by simp [ivF, H1.out, H2.out]))⟩
              case measure => simp [intOf]; omega
            · have e2 : (val2 B (val2 A k j) (val2 B k j) != (j : Int)) = true := by simp [h2]
              have H2 := Lib.hid h2; clear h1 h2
              go_wp2
              go_ret
              exact ⟨ret_bool (by simp [involL, HL0.out, all2_no hlt hlj (P := ivF A B) (by simp [ivF, H2.out])]), HW.out⟩
          · have e1 : (val2 A (val2 A k j) (val2 B k j) != (k : Int)) = true := by simp [h1]
            have H1 := Lib.hid h1; clear h1
            go_wp2
            go_ret
            exact ⟨ret_bool (by simp [involL, HL0.out, all2_no hlt hlj (P := ivF A B) (by simp [ivF, H1.out])]), HW.out⟩
        · obtain rfl : j = n0 := by omega
          go_wp2
          go_round
          case rel => exact ⟨k + 1, by omega, by go_num, Lib.hid (lt_snoc HA.out HA2.out)⟩
          case measure => simp [intOf]; omega
    · obtain rfl : k = n0 := by omega
      go_wp2
      go_ret
      exact ⟨ret_bool (by simp [involL, HL0.out, all2_iff.2 HA.out]), HW.out⟩

def pmCode' (A B : List (List Int)) : Int := if isPM A B then 0 else 1
def involRes (A B : List (List Int)) : Bool := if isPM A B then involL A B else false
set_option maxHeartbeats 800000 in
theorem c_IsInvolutive (v0 u0 : Value) (A B : List (List Int)) (w : World) (hA : Sol w v0 u0 A B) :
    Calls Try.prog 33 #[.agg #[v0, u0]] w (RVal w (.tuple #[.bool (involRes A B), .int .i64 (pmCode' A B)])) := by
  obtain ⟨a0, c0, rfl, _, _⟩ := hA.1.shape
  obtain ⟨a0s, c0s, rfl, _, _⟩ := hA.2.shape
  by_cases hp0 : isPM A B = true
  case neg =>
    have hq0 : isPM A B = false := by simpa using hp0
    have HQ := Lib.hid hq0; clear hp0
    go_enter Try.func33, Try.ntmps33
    go_wp2_with fail
    obtain ⟨f0, hW0, hsz⟩ := boxes1 w [.slice a0 A.length c0, .slice a0s B.length c0s] 27
    obtain ⟨W0, hW⟩ : ∃ W, (w.alloc (.cells #[.slice a0 A.length c0, .slice a0s B.length c0s] 27)) = W := ⟨_, rfl⟩
    rw [hW] at f0 hW0 hsz ⊢
    clear hW hsz
    refine (c_IsPairMap _ _ _ _ _ (hA.below hW0)).mono ?_; rintro e g0 ⟨rfl, hbg0⟩
    have hB0 := bb hW0 hbg0
    replace f0 := f0.under hbg0
    obtain ⟨cA0, cB0, -, -⟩ := two_cells f0
    clear hbg0
    have HB := Lib.hid hB0
    clear hB0 f0 hW0 hA
    go_wp2
    go_ret2
    exact ⟨by simp [involRes, pmCode', HQ.out], HB.out⟩
  have HP0 := Lib.hid hp0
  go_enter Try.func33, Try.ntmps33
  go_wp2_with fail
  obtain ⟨f0, hW0, hsz⟩ := boxes1 w [.slice a0 A.length c0, .slice a0s B.length c0s] 27
  obtain ⟨W0, hW⟩ : ∃ W, (w.alloc (.cells #[.slice a0 A.length c0, .slice a0s B.length c0s] 27)) = W := ⟨_, rfl⟩
  rw [hW] at f0 hW0 hsz ⊢
  clear hW hsz
  refine (c_IsPairMap _ _ _ _ _ (hA.below hW0)).mono ?_; rintro e g0 ⟨rfl, hbg0⟩
  have hB0 := bb hW0 hbg0
  replace f0 := f0.under hbg0
  obtain ⟨cA0, cB0, -, -⟩ := two_cells f0
  clear hbg0
  go_wp2_with fail
  refine (c_isInvolutive _ _ _ _ _ (hA.below hB0) HP0.out).mono ?_; rintro e wz ⟨rfl, hb⟩
  have HB := Lib.hid (bb hB0 hb)
  clear hb hB0 f0 hW0 hA
  go_wp2
  go_ret2
  exact ⟨by simp [involRes, pmCode', HP0.out], HB.out⟩
end Go.Proofs.Ytkcobfkmeaakoaa

namespace Go.Proofs.Ytkcobfkmeaakoaa
open Go.RowKit

theorem Rows.any {w : World} {v : Value} {t : List (List Int)} (h : Rows w v t) : ∃ a l c, v = .slice a l c := by
  obtain ⟨a, c, rfl, _, _⟩ := h.shape
  exact ⟨_, _, _, rfl⟩
theorem OwnRows.any {B : Nat} {w : World} {v : Value} {t : List (List Int)} (h : OwnRows B w v t) : ∃ a l c, v = .slice a l c := h.rows.any
theorem storedR {w w2 : World} {r1 r2 : Value} {A B : List (List Int)} {lo q : Nat} (hB : Below w.heap.size w w2) (hs : OwnRows lo w2 r1 A ∧ OwnRows lo w2 r2 B) (hq : w.heap.size ≤ q) (hlo : q < lo) :
    RdSol 0 ((w2.setCell ⟨q, 0, none⟩ r1).setCell ⟨q, 1, none⟩ r2).heap.size ((w2.setCell ⟨q, 0, none⟩ r1).setCell ⟨q, 1, none⟩ r2) r1 r2 A B ∧ Below w.heap.size w ((w2.setCell ⟨q, 0, none⟩ r1).setCell ⟨q, 1, none⟩ r2) := by
  have k : Keep (fun b => b = q) w2 ((w2.setCell ⟨q, 0, none⟩ r1).setCell ⟨q, 1, none⟩ r2) := ((Keep.refl (fun b => b = q) w2).setCell (p := ⟨q, 0, none⟩) (.inl rfl) _).setCell (p := ⟨q, 1, none⟩) (.inl rfl) _
  exact ⟨⟨_, rfl, ⟨(hs.1.keep k (fun b h1 _ h3 => by omega)).rows, (hs.2.keep k (fun b h1 _ h3 => by omega)).rows⟩, Nat.le_refl _, Below.refl _ _⟩, (hB.setCell (p := ⟨q, 0, none⟩) hq _).setCell (p := ⟨q, 1, none⟩) hq _⟩
theorem rsolR_of {w : World} {A B : List (List Int)} {e : Ending} {w' : World} (h : RSol w A B e w') : RSolR w A B e w' := by
  obtain ⟨r1, r2, he, hs, hb⟩ := h
  obtain ⟨lo1, hi1, lo2, hi2, h1, _, h3, _, _, k1, k2⟩ := hs
  exact ⟨r1, r2, he, ⟨k1.out.mono h1, k2.out.mono h3⟩, hb⟩
end Go.Proofs.Ytkcobfkmeaakoaa

namespace Go.Proofs.Ytkcobfkmeaakoaa
open Go.RowKit

set_option maxHeartbeats 400000 in
theorem c_slicesEqual (v1 v2 : Value) (xs ys : List Int) (w : World) (hx : Ints w v1 xs) (hy : Ints w v2 ys) :
    Calls Try.prog 99 #[v1, v2] w (QVal w (.bool (decide (xs = ys)))) := by
  obtain ⟨a, c, rfl, hc, hm, hcell⟩ := hx
  obtain ⟨a2, c2, rfl, hc2, hm2, hcell2⟩ := hy
  have hm' : xs.length ≤ 9223372036854775807 := by unfold maxLen at hm; omega
  have hm2' : ys.length ≤ 9223372036854775807 := by unfold maxLen at hm2; omega
  have HC := Lib.hid hcell; clear hcell
  have HC2 := Lib.hid hcell2; clear hcell2
  clear hm hm2
  by_cases hlen : xs.length = ys.length
  · have hl1 : ((xs.length : Int) == (ys.length : Int)) = true := by simp [hlen]
    have hl2 : ((xs.length : Int) != (ys.length : Int)) = false := by simp [hlen]
    have HL := Lib.hid hlen; clear hlen
    go_enter Try.func99, Try.ntmps99
    go_wp2
    go_loopw [13, 5] (fun i _ wr => ∃ k : Nat, k ≤ xs.length ∧ i = .int .i64 k ∧ Hid (∃ n, wr = w.drewN n) ∧ Hid (xs.take k = ys.take k)) (fun i _ _ => xs.length - (intOf i).toNat)
    case atStart => exact ⟨0, Nat.zero_le _, rfl, Lib.hid ⟨0, rfl⟩, Lib.hid rfl⟩
    case round =>
      obtain ⟨k, hk, rfl, HN, HE⟩ := hrel
      have hb : Below w.heap.size w wr := by obtain ⟨n, hn⟩ := HN.out; rw [hn]; exact below_drewN (Below.refl _ _) n
      by_cases hlt : k < xs.length
      · have hlt2 : k < ys.length := by have := HL.out; omega
        obtain ⟨b, o, rfl, hcell⟩ := HC.out k hlt
        obtain ⟨b2, o2, rfl, hcell2⟩ := HC2.out k hlt2
        have h1 : wr.cell? ⟨b, o + k, none⟩ = some (.int .i64 xs[k]) := cell_under hb hcell
        have h2 : wr.cell? ⟨b2, o2 + k, none⟩ = some (.int .i64 ys[k]) := cell_under hb hcell2
        clear hb hcell hcell2
        have hk0 : (0 : Int) ≤ k := by omega
        have hk1 : (k : Int) < xs.length := by omega
        have hk2 : (k : Int) < ys.length := by omega
        by_cases he : xs[k] = ys[k]
        · have he1 : (xs[k] != ys[k]) = false := by simp [he]
          have HV := Lib.hid he; clear he
          go_wp2
          go_quiet (fail)
          go_wp2
          go_roundw
          case rel => exact ⟨k + 1, by omega, by go_num, by obtain ⟨n, hn⟩ := HN.out; exact Lib.hid ⟨n + _, by rw [hn]; exact drewN_drewN w n _⟩, Lib.hid (eq_snoc hlt hlt2 HE.out HV.out)⟩
          case measure => simp [intOf]; omega
        · have he1 : (xs[k] != ys[k]) = true := by simp [he]
          go_wp2
          go_quiet (fail)
          go_wp2
          go_ret
          refine ⟨ret_bool ?_, by obtain ⟨n, hn⟩ := HN.out; exact ⟨n + _, by rw [hn]; exact drewN_drewN w n _⟩⟩
          simp only [Eq.comm (a := false), decide_eq_false_iff_not]
          rintro rfl
          exact he rfl
      · go_wp2
        go_ret
        refine ⟨ret_bool ?_, HN.out⟩
        have h := HE.out
        rw [List.take_of_length_le (by omega), List.take_of_length_le (by have := HL.out; omega)] at h
        simp [h]
  · have hl1 : ((xs.length : Int) == (ys.length : Int)) = false := by simp; omega
    have hl2 : ((xs.length : Int) != (ys.length : Int)) = true := by simp; omega
    go_enter Try.func99, Try.ntmps99
    go_wp2
    go_ret
    refine ⟨ret_bool ?_, ⟨0, rfl⟩⟩
    simp only [Eq.comm (a := false), decide_eq_false_iff_not]
    rintro rfl
    exact hlen rfl
end Go.Proofs.Ytkcobfkmeaakoaa

namespace Go.Proofs.Ytkcobfkmeaakoaa
open Go.RowKit

def twOk (p q : List Int) : Bool := isPerm p && isPerm q && decide (p.length = q.length)
def twCm (p q : List Int) : Bool := decide (thenL p q = thenL q p)
def twRA (p q : List Int) : List (List Int) := if twOk p q && twCm p q then twA p else []
def twRB (p q : List Int) : List (List Int) := if twOk p q && twCm p q then twB p q else []
def twCode (p q : List Int) : Int := if twOk p q then (if twCm p q then 0 else 5) else 2
theorem twOk_of {p q : List Int} (h1 : isPerm p = true) (h2 : isPerm q = true) (h3 : p.length = q.length) : twOk p q = true := by simp [twOk, h1, h2, h3]
theorem twOk_no1 {p q : List Int} (h1 : isPerm p = false) : twOk p q = false := by simp [twOk, h1]
theorem twOk_no2 {p q : List Int} (h1 : isPerm q = false) : twOk p q = false := by simp [twOk, h1]
theorem twOk_no3 {p q : List Int} (h1 : p.length ≠ q.length) : twOk p q = false := by simp [twOk, h1]
theorem perm_inT {xs : List Int} (h : isPerm xs = true) : (∀ x ∈ xs, 0 ≤ x ∧ x < xs.length) ∧ xs.length ≤ 12 := by
  simp [isPerm, inR] at h; exact ⟨h.2.2, by omega⟩
set_option maxRecDepth 100000 in
set_option maxHeartbeats 4000000 in
theorem c_specTwistSolution (v0 : Value) (p : List Int) (v1 : Value) (q : List Int) (w : World) (hp : Ints w v0 p) (hq : Ints w v1 q)  :
    Calls Try.prog 28 #[v0, v1] w (RSolRC w (twRA p q) (twRB p q) (twCode p q)) := by
  by_cases hp0 : isPerm p = true
  case neg =>
    have hq0 : isPerm p = false := by simpa using hp0
    have HQ := Lib.hid hq0; clear hp0
    obtain ⟨a0, c0, rfl, hc0, hm0⟩ := hp.shape
    obtain ⟨a1, c1, rfl, hc1, hm1⟩ := hq.shape
    go_enter Try.func28, Try.ntmps28
    go_wp2_with fail
    obtain ⟨f2, hW0, hsz⟩ := boxes1 w [.slice none 0 0, .slice none 0 0] 27
    obtain ⟨W0, hW⟩ : ∃ W, (w.alloc (.cells #[.slice none 0 0, .slice none 0 0] 27)) = W := ⟨_, rfl⟩
    rw [hW] at f2 hW0 hsz ⊢
    clear hW hsz
    refine (c_l01PermV _ _ _ (hp.below hW0)).mono ?_; rintro e g0 ⟨rfl, hbg0⟩
    have hB0 := bb hW0 hbg0
    replace f2 := f2.under hbg0
    obtain ⟨cA2, cB2, fA2, fB2⟩ := two_cells f2
    clear hbg0
    have HB := Lib.hid hB0
    clear hB0 hW0
    go_wp2
    refine bodyPost_ret (v := .tuple #[.agg #[.slice none 0 0, .slice none 0 0], .int .i64 2]) (by simp [results, Try.results28, go_sem, cA2, cB2]) rfl ⟨.slice none 0 0, .slice none 0 0, by simp [twRA, twRB, twCode, twOk, HQ.out], ?_, ?_⟩
    · exact ⟨_, rfl, ⟨by simpa [twRA, twRB, twCode, twOk, HQ.out] using (OwnRowsIn.nil0 0 0 _).rows, by simpa [twRA, twRB, twCode, twOk, HQ.out] using (OwnRowsIn.nil0 0 0 _).rows⟩, Nat.le_refl _, Below.refl _ _⟩
    · first | exact HB.out | exact (HB.out.setCell (p := ⟨w.heap.size, 0, none⟩) (by show _ ≤ w.heap.size; omega) _).setCell (p := ⟨w.heap.size, 1, none⟩) (by show _ ≤ w.heap.size; omega) _
  have HP0 := Lib.hid hp0
  by_cases hp1 : isPerm q = true
  case neg =>
    have hq1 : isPerm q = false := by simpa using hp1
    have HQ := Lib.hid hq1; clear hp1
    obtain ⟨a0, c0, rfl, hc0, hm0⟩ := hp.shape
    obtain ⟨a1, c1, rfl, hc1, hm1⟩ := hq.shape
    go_enter Try.func28, Try.ntmps28
    go_wp2_with fail
    obtain ⟨f2, hW0, hsz⟩ := boxes1 w [.slice none 0 0, .slice none 0 0] 27
    obtain ⟨W0, hW⟩ : ∃ W, (w.alloc (.cells #[.slice none 0 0, .slice none 0 0] 27)) = W := ⟨_, rfl⟩
    rw [hW] at f2 hW0 hsz ⊢
    clear hW hsz
    refine (c_l01PermV _ _ _ (hp.below hW0)).mono ?_; rintro e g0 ⟨rfl, hbg0⟩
    have hB0 := bb hW0 hbg0
    replace f2 := f2.under hbg0
    obtain ⟨cA2, cB2, fA2, fB2⟩ := two_cells f2
    clear hbg0
    go_wp2_with fail
    refine (c_l01PermV _ _ _ (hq.below hB0)).mono ?_; rintro e g1 ⟨rfl, hbg1⟩
    have hB1 := bb hB0 hbg1
    replace f2 := f2.under hbg1
    clear cA2 cB2 fA2 fB2
    obtain ⟨cA2, cB2, fA2, fB2⟩ := two_cells f2
    clear hbg1
    have HB := Lib.hid hB1
    clear hB0 hB1 hW0
    go_wp2
    refine bodyPost_ret (v := .tuple #[.agg #[.slice none 0 0, .slice none 0 0], .int .i64 2]) (by simp [results, Try.results28, go_sem, cA2, cB2]) rfl ⟨.slice none 0 0, .slice none 0 0, by simp [twRA, twRB, twCode, twOk, HQ.out, HP0.out], ?_, ?_⟩
    · exact ⟨_, rfl, ⟨by simpa [twRA, twRB, twCode, twOk, HQ.out, HP0.out] using (OwnRowsIn.nil0 0 0 _).rows, by simpa [twRA, twRB, twCode, twOk, HQ.out, HP0.out] using (OwnRowsIn.nil0 0 0 _).rows⟩, Nat.le_refl _, Below.refl _ _⟩
    · first | exact HB.out | exact (HB.out.setCell (p := ⟨w.heap.size, 0, none⟩) (by show _ ≤ w.heap.size; omega) _).setCell (p := ⟨w.heap.size, 1, none⟩) (by show _ ≤ w.heap.size; omega) _
  have HP1 := Lib.hid hp1
  by_cases hp2 : decide (p.length = q.length) = true
  case neg =>
    have hq2 : decide (p.length = q.length) = false := by simpa using hp2
    have hlen : ((p.length : Int) != (q.length : Int)) = true := by have h := hq2; simp at h ⊢; omega
    have HQ := Lib.hid hq2; clear hp2
    obtain ⟨a0, c0, rfl, hc0, hm0⟩ := hp.shape
    obtain ⟨a1, c1, rfl, hc1, hm1⟩ := hq.shape
    go_enter Try.func28, Try.ntmps28
    go_wp2_with fail
    obtain ⟨f2, hW0, hsz⟩ := boxes1 w [.slice none 0 0, .slice none 0 0] 27
    obtain ⟨W0, hW⟩ : ∃ W, (w.alloc (.cells #[.slice none 0 0, .slice none 0 0] 27)) = W := ⟨_, rfl⟩
    rw [hW] at f2 hW0 hsz ⊢
    clear hW hsz
    refine (c_l01PermV _ _ _ (hp.below hW0)).mono ?_; rintro e g0 ⟨rfl, hbg0⟩
    have hB0 := bb hW0 hbg0
    replace f2 := f2.under hbg0
    obtain ⟨cA2, cB2, fA2, fB2⟩ := two_cells f2
    clear hbg0
    go_wp2_with fail
    refine (c_l01PermV _ _ _ (hq.below hB0)).mono ?_; rintro e g1 ⟨rfl, hbg1⟩
    have hB1 := bb hB0 hbg1
    replace f2 := f2.under hbg1
    clear cA2 cB2 fA2 fB2
    obtain ⟨cA2, cB2, fA2, fB2⟩ := two_cells f2
    clear hbg1
    obtain ⟨g2, rfl⟩ : ∃ W : World, W = g1 := ⟨_, rfl⟩
    have hB2 := hB1
    have HB := Lib.hid hB2
    clear hB0 hB1 hB2 hW0
    go_wp2
    refine bodyPost_ret (v := .tuple #[.agg #[.slice none 0 0, .slice none 0 0], .int .i64 2]) (by simp [results, Try.results28, go_sem, cA2, cB2]) rfl ⟨.slice none 0 0, .slice none 0 0, by simp [twRA, twRB, twCode, twOk, HQ.out, HP0.out, HP1.out], ?_, ?_⟩
    · exact ⟨_, rfl, ⟨by simpa [twRA, twRB, twCode, twOk, HQ.out, HP0.out, HP1.out] using (OwnRowsIn.nil0 0 0 _).rows, by simpa [twRA, twRB, twCode, twOk, HQ.out, HP0.out, HP1.out] using (OwnRowsIn.nil0 0 0 _).rows⟩, Nat.le_refl _, Below.refl _ _⟩
    · first | exact HB.out | exact (HB.out.setCell (p := ⟨w.heap.size, 0, none⟩) (by show _ ≤ w.heap.size; omega) _).setCell (p := ⟨w.heap.size, 1, none⟩) (by show _ ≤ w.heap.size; omega) _
  have HP2 := Lib.hid hp2
  have hlen2 : ((p.length : Int) != (q.length : Int)) = false := by have h := hp2; simp at h ⊢; omega
  clear hp2
  obtain ⟨a0, c0, rfl, hc0, hm0⟩ := hp.shape
  obtain ⟨a1, c1, rfl, hc1, hm1⟩ := hq.shape
  go_enter Try.func28, Try.ntmps28
  go_wp2_with fail
  obtain ⟨f2, hW0, hsz⟩ := boxes1 w [.slice none 0 0, .slice none 0 0] 27
  obtain ⟨W0, hW⟩ : ∃ W, (w.alloc (.cells #[.slice none 0 0, .slice none 0 0] 27)) = W := ⟨_, rfl⟩
  rw [hW] at f2 hW0 hsz ⊢
  clear hW hsz
  refine (c_l01PermV _ _ _ (hp.below hW0)).mono ?_; rintro e g0 ⟨rfl, hbg0⟩
  have hB0 := bb hW0 hbg0
  replace f2 := f2.under hbg0
  obtain ⟨cA2, cB2, fA2, fB2⟩ := two_cells f2
  clear hbg0
  go_wp2_with fail
  refine (c_l01PermV _ _ _ (hq.below hB0)).mono ?_; rintro e g1 ⟨rfl, hbg1⟩
  have hB1 := bb hB0 hbg1
  replace f2 := f2.under hbg1
  clear cA2 cB2 fA2 fB2
  obtain ⟨cA2, cB2, fA2, fB2⟩ := two_cells f2
  clear hbg1
  obtain ⟨g2, rfl⟩ : ∃ W : World, W = g1 := ⟨_, rfl⟩
  have hB2 := hB1
  have HOK := Lib.hid (twOk_of HP0.out HP1.out (by simpa using HP2.out))
  obtain ⟨hin, hn⟩ := perm_inT HP0.out
  obtain ⟨hin2, hn2⟩ := perm_inT HP1.out
  have hlen : p.length = q.length := by simpa using HP2.out
  have HI := Lib.hid hin; have HI2 := Lib.hid hin2; have HLn := Lib.hid hlen
  clear hin hin2 hlen
  go_wp2_with fail
  refine (c_l01Then _ _ p q _ (hp.below hB2) (hq.below hB2) (by rw [← HLn.out]; exact HI.out) (by omega)).mono ?_; rintro e w1 ⟨r1, rfl, ho1, hb1⟩
  obtain ⟨x1, y1, hv1, _⟩ := ho1.shape
  rw [thenL_length] at hv1; subst hv1
  have k1 := bb hB2 hb1
  have HF1 := Lib.hid (f2.under hb1)
  have HO1 := Lib.hid ho1; clear ho1 hb1 f2 cA2 cB2 fA2 fB2
  go_wp2_with fail
  refine (c_l01Then _ _ q p _ (hq.below k1) (hp.below k1) (by rw [HLn.out]; exact HI2.out) (by omega)).mono ?_; rintro e w2 ⟨r2, rfl, ho2, hb2⟩
  obtain ⟨x2, y2, hv2, _⟩ := ho2.shape
  rw [thenL_length] at hv2; subst hv2
  have k2 := bb k1 hb2
  have HF2 := Lib.hid (HF1.out.under hb2)
  have HI1 := Lib.hid (HO1.out.ints.below hb2); have HO2 := Lib.hid ho2; clear ho2 hb2
  go_wp2_with fail
  refine (c_l01Same _ _ _ _ _ HI1.out HO2.out.ints).mono ?_; rintro e W3 hh
  obtain ⟨rfl, hb3⟩ := hh.r
  have HB3 := Lib.hid (bb k2 hb3)
  have HF3 := Lib.hid (HF2.out.under hb3)
  clear hh k1 k2 hb3 hB0 hB1 hB2 hW0
  obtain ⟨z0, z1, z2, z3⟩ := two_cells HF3.out
  by_cases hc : twCm p q = true
  case neg =>
    have hc' : twCm p q = false := by simpa using hc
    have hd : decide (thenL p q = thenL q p) = false := hc'
    have HC := Lib.hid hc'; clear hc hc'
    go_wp2
    refine bodyPost_ret (v := .tuple #[.agg #[.slice none 0 0, .slice none 0 0], .int .i64 5]) (by simp [results, Try.results28, go_sem, z0, z1]) rfl ⟨.slice none 0 0, .slice none 0 0, by simp [twCode, HOK.out, HC.out], ?_, ?_⟩
    · exact ⟨_, rfl, ⟨by simpa [twRA, HOK.out, HC.out] using (OwnRowsIn.nil0 0 0 _).rows, by simpa [twRB, HOK.out, HC.out] using (OwnRowsIn.nil0 0 0 _).rows⟩, Nat.le_refl _, Below.refl _ _⟩
    · first | exact HB3.out | exact (HB3.out.setCell (p := ⟨w.heap.size, 0, none⟩) (Nat.le_refl _) _).setCell (p := ⟨w.heap.size, 1, none⟩) (Nat.le_refl _) _
  have hd : decide (thenL p q = thenL q p) = true := hc
  have HC := Lib.hid hc; clear hc
  go_wp2_with fail
  refine (c_l02Twist _ _ p q _ (hp.below HB3.out) (hq.below HB3.out) HLn.out.symm (by omega)).mono ?_; rintro e wz ⟨s1, s2, rfl, hs, hbz⟩
  obtain ⟨sa1, sl1, sc1, rfl⟩ := hs.1.any
  obtain ⟨sa2, sl2, sc2, rfl⟩ := hs.2.any
  clear z0 z1 z2 z3
  obtain ⟨z0, z1, z2, z3⟩ := two_cells (HF3.out.under hbz)
  have HLo := Lib.hid HF3.out.lt; have HS := Lib.hid hs; have HBz := Lib.hid (bb HB3.out hbz)
  clear hs hbz
  go_wp2
  obtain ⟨hA, hB⟩ := storedR (q := w.heap.size) HBz.out HS.out (Nat.le_refl _) HLo.out
  refine bodyPost_ret (v := .tuple #[.agg #[.slice sa1 sl1 sc1, .slice sa2 sl2 sc2], .int .i64 0]) (by simp [results, Try.results28, go_sem, z0, z1]) rfl ⟨_, _, by simp [twCode, HOK.out, HC.out]; exact ⟨rfl, rfl⟩, by simpa [twRA, twRB, HOK.out, HC.out] using hA, hB⟩

set_option maxRecDepth 100000 in
set_option maxHeartbeats 4000000 in
theorem c_TwistSolution (v0 : Value) (p : List Int) (v1 : Value) (q : List Int) (w : World) (hp : Ints w v0 p) (hq : Ints w v1 q)  :
    Calls Try.prog 27 #[v0, v1] w (RSolC w (twRA p q) (twRB p q) (twCode p q)) := by
  by_cases hp0 : isPerm p = true
  case neg =>
    have hq0 : isPerm p = false := by simpa using hp0
    have HQ := Lib.hid hq0; clear hp0
    obtain ⟨a0, c0, rfl, hc0, hm0⟩ := hp.shape
    obtain ⟨a1, c1, rfl, hc1, hm1⟩ := hq.shape
    go_enter Try.func27, Try.ntmps27
    go_wp2_with fail
    obtain ⟨f2, hW0, hsz⟩ := boxes1 w [.slice none 0 0, .slice none 0 0] 27
    obtain ⟨W0, hW⟩ : ∃ W, (w.alloc (.cells #[.slice none 0 0, .slice none 0 0] 27)) = W := ⟨_, rfl⟩
    rw [hW] at f2 hW0 hsz ⊢
    clear hW hsz
    refine (c_IsPermutation _ _ _ (hp.below hW0)).mono ?_; rintro e g0 ⟨rfl, hbg0⟩
    have hB0 := bb hW0 hbg0
    replace f2 := f2.under hbg0
    obtain ⟨cA2, cB2, fA2, fB2⟩ := two_cells f2
    clear hbg0
    have HB := Lib.hid hB0
    clear hB0 hW0
    go_wp2
    refine bodyPost_ret (v := .tuple #[.agg #[.slice none 0 0, .slice none 0 0], .int .i64 2]) (by simp [results, Try.results27, go_sem, cA2, cB2]) rfl ⟨.slice none 0 0, .slice none 0 0, by simp [twRA, twRB, twCode, twOk, HQ.out], ?_, ?_⟩
    · have hz : w.heap.size ≤ g0.heap.size := HB.out.size
      rw [show twRA p q = [] from by simp [twRA, twRB, twCode, twOk, HQ.out], show twRB p q = [] from by simp [twRA, twRB, twCode, twOk, HQ.out]]
      exact OwnSol.nil0 (by first | exact hz | (simp [World.setCell]; exact hz))
    · first | exact HB.out | exact (HB.out.setCell (p := ⟨w.heap.size, 0, none⟩) (by show _ ≤ w.heap.size; omega) _).setCell (p := ⟨w.heap.size, 1, none⟩) (by show _ ≤ w.heap.size; omega) _
  have HP0 := Lib.hid hp0
  by_cases hp1 : isPerm q = true
  case neg =>
    have hq1 : isPerm q = false := by simpa using hp1
    have HQ := Lib.hid hq1; clear hp1
    obtain ⟨a0, c0, rfl, hc0, hm0⟩ := hp.shape
    obtain ⟨a1, c1, rfl, hc1, hm1⟩ := hq.shape
    go_enter Try.func27, Try.ntmps27
    go_wp2_with fail
    obtain ⟨f2, hW0, hsz⟩ := boxes1 w [.slice none 0 0, .slice none 0 0] 27
    obtain ⟨W0, hW⟩ : ∃ W, (w.alloc (.cells #[.slice none 0 0, .slice none 0 0] 27)) = W := ⟨_, rfl⟩
    rw [hW] at f2 hW0 hsz ⊢
    clear hW hsz
    refine (c_IsPermutation _ _ _ (hp.below hW0)).mono ?_; rintro e g0 ⟨rfl, hbg0⟩
    have hB0 := bb hW0 hbg0
    replace f2 := f2.under hbg0
    obtain ⟨cA2, cB2, fA2, fB2⟩ := two_cells f2
    clear hbg0
    go_wp2_with fail
    refine (c_IsPermutation _ _ _ (hq.below hB0)).mono ?_; rintro e g1 ⟨rfl, hbg1⟩
    have hB1 := bb hB0 hbg1
    replace f2 := f2.under hbg1
    clear cA2 cB2 fA2 fB2
    obtain ⟨cA2, cB2, fA2, fB2⟩ := two_cells f2
    clear hbg1
    have HB := Lib.hid hB1
    clear hB0 hB1 hW0
    go_wp2
    refine bodyPost_ret (v := .tuple #[.agg #[.slice none 0 0, .slice none 0 0], .int .i64 2]) (by simp [results, Try.results27, go_sem, cA2, cB2]) rfl ⟨.slice none 0 0, .slice none 0 0, by simp [twRA, twRB, twCode, twOk, HQ.out, HP0.out], ?_, ?_⟩
    · have hz : w.heap.size ≤ g1.heap.size := HB.out.size
      rw [show twRA p q = [] from by simp [twRA, twRB, twCode, twOk, HQ.out, HP0.out], show twRB p q = [] from by simp [twRA, twRB, twCode, twOk, HQ.out, HP0.out]]
      exact OwnSol.nil0 (by first | exact hz | (simp [World.setCell]; exact hz))
    · first | exact HB.out | exact (HB.out.setCell (p := ⟨w.heap.size, 0, none⟩) (by show _ ≤ w.heap.size; omega) _).setCell (p := ⟨w.heap.size, 1, none⟩) (by show _ ≤ w.heap.size; omega) _
  have HP1 := Lib.hid hp1
  by_cases hp2 : decide (p.length = q.length) = true
  case neg =>
    have hq2 : decide (p.length = q.length) = false := by simpa using hp2
    have hlen : ((p.length : Int) != (q.length : Int)) = true := by have h := hq2; simp at h ⊢; omega
    have HQ := Lib.hid hq2; clear hp2
    obtain ⟨a0, c0, rfl, hc0, hm0⟩ := hp.shape
    obtain ⟨a1, c1, rfl, hc1, hm1⟩ := hq.shape
    go_enter Try.func27, Try.ntmps27
    go_wp2_with fail
    obtain ⟨f2, hW0, hsz⟩ := boxes1 w [.slice none 0 0, .slice none 0 0] 27
    obtain ⟨W0, hW⟩ : ∃ W, (w.alloc (.cells #[.slice none 0 0, .slice none 0 0] 27)) = W := ⟨_, rfl⟩
    rw [hW] at f2 hW0 hsz ⊢
    clear hW hsz
    refine (c_IsPermutation _ _ _ (hp.below hW0)).mono ?_; rintro e g0 ⟨rfl, hbg0⟩
    have hB0 := bb hW0 hbg0
    replace f2 := f2.under hbg0
    obtain ⟨cA2, cB2, fA2, fB2⟩ := two_cells f2
    clear hbg0
    go_wp2_with fail
    refine (c_IsPermutation _ _ _ (hq.below hB0)).mono ?_; rintro e g1 ⟨rfl, hbg1⟩
    have hB1 := bb hB0 hbg1
    replace f2 := f2.under hbg1
    clear cA2 cB2 fA2 fB2
    obtain ⟨cA2, cB2, fA2, fB2⟩ := two_cells f2
    clear hbg1
    obtain ⟨g2, rfl⟩ : ∃ W : World, W = g1 := ⟨_, rfl⟩
    have hB2 := hB1
    have HB := Lib.hid hB2
    clear hB0 hB1 hB2 hW0
    go_wp2
    refine bodyPost_ret (v := .tuple #[.agg #[.slice none 0 0, .slice none 0 0], .int .i64 2]) (by simp [results, Try.results27, go_sem, cA2, cB2]) rfl ⟨.slice none 0 0, .slice none 0 0, by simp [twRA, twRB, twCode, twOk, HQ.out, HP0.out, HP1.out], ?_, ?_⟩
    · have hz : w.heap.size ≤ g2.heap.size := HB.out.size
      rw [show twRA p q = [] from by simp [twRA, twRB, twCode, twOk, HQ.out, HP0.out, HP1.out], show twRB p q = [] from by simp [twRA, twRB, twCode, twOk, HQ.out, HP0.out, HP1.out]]
      exact OwnSol.nil0 (by first | exact hz | (simp [World.setCell]; exact hz))
    · first | exact HB.out | exact (HB.out.setCell (p := ⟨w.heap.size, 0, none⟩) (by show _ ≤ w.heap.size; omega) _).setCell (p := ⟨w.heap.size, 1, none⟩) (by show _ ≤ w.heap.size; omega) _
  have HP2 := Lib.hid hp2
  have hlen2 : ((p.length : Int) != (q.length : Int)) = false := by have h := hp2; simp at h ⊢; omega
  clear hp2
  obtain ⟨a0, c0, rfl, hc0, hm0⟩ := hp.shape
  obtain ⟨a1, c1, rfl, hc1, hm1⟩ := hq.shape
  go_enter Try.func27, Try.ntmps27
  go_wp2_with fail
  obtain ⟨f2, hW0, hsz⟩ := boxes1 w [.slice none 0 0, .slice none 0 0] 27
  obtain ⟨W0, hW⟩ : ∃ W, (w.alloc (.cells #[.slice none 0 0, .slice none 0 0] 27)) = W := ⟨_, rfl⟩
  rw [hW] at f2 hW0 hsz ⊢
  clear hW hsz
  refine (c_IsPermutation _ _ _ (hp.below hW0)).mono ?_; rintro e g0 ⟨rfl, hbg0⟩
  have hB0 := bb hW0 hbg0
  replace f2 := f2.under hbg0
  obtain ⟨cA2, cB2, fA2, fB2⟩ := two_cells f2
  clear hbg0
  go_wp2_with fail
  refine (c_IsPermutation _ _ _ (hq.below hB0)).mono ?_; rintro e g1 ⟨rfl, hbg1⟩
  have hB1 := bb hB0 hbg1
  replace f2 := f2.under hbg1
  clear cA2 cB2 fA2 fB2
  obtain ⟨cA2, cB2, fA2, fB2⟩ := two_cells f2
  clear hbg1
  obtain ⟨g2, rfl⟩ : ∃ W : World, W = g1 := ⟨_, rfl⟩
  have hB2 := hB1
  have HOK := Lib.hid (twOk_of HP0.out HP1.out (by simpa using HP2.out))
  obtain ⟨hin, hn⟩ := perm_inT HP0.out
  obtain ⟨hin2, hn2⟩ := perm_inT HP1.out
  have hlen : p.length = q.length := by simpa using HP2.out
  have HI := Lib.hid hin; have HI2 := Lib.hid hin2; have HLn := Lib.hid hlen
  clear hin hin2 hlen
  go_wp2_with fail
  refine (c_then _ _ p q _ (hp.below hB2) (hq.below hB2) (by rw [← HLn.out]; exact HI.out) (by omega)).mono ?_; rintro e w1 ⟨r1, rfl, ho1, hb1⟩
  obtain ⟨x1, y1, hv1, _⟩ := ho1.shape
  rw [thenL_length] at hv1; subst hv1
  have k1 := bb hB2 hb1
  have HF1 := Lib.hid (f2.under hb1)
  have HO1 := Lib.hid ho1; clear ho1 hb1 f2 cA2 cB2 fA2 fB2
  go_wp2_with fail
  refine (c_then _ _ q p _ (hq.below k1) (hp.below k1) (by rw [HLn.out]; exact HI2.out) (by omega)).mono ?_; rintro e w2 ⟨r2, rfl, ho2, hb2⟩
  obtain ⟨x2, y2, hv2, _⟩ := ho2.shape
  rw [thenL_length] at hv2; subst hv2
  have k2 := bb k1 hb2
  have HF2 := Lib.hid (HF1.out.under hb2)
  have HI1 := Lib.hid (HO1.out.ints.below hb2); have HO2 := Lib.hid ho2; clear ho2 hb2
  go_wp2_with fail
  refine (c_slicesEqual _ _ _ _ _ HI1.out HO2.out.ints).mono ?_; rintro e W3 hh
  obtain ⟨rfl, hb3⟩ := hh.r
  have HB3 := Lib.hid (bb k2 hb3)
  have HF3 := Lib.hid (HF2.out.under hb3)
  clear hh k1 k2 hb3 hB0 hB1 hB2 hW0
  obtain ⟨z0, z1, z2, z3⟩ := two_cells HF3.out
  by_cases hc : twCm p q = true
  case neg =>
    have hc' : twCm p q = false := by simpa using hc
    have hd : decide (thenL p q = thenL q p) = false := hc'
    have HC := Lib.hid hc'; clear hc hc'
    go_wp2
    refine bodyPost_ret (v := .tuple #[.agg #[.slice none 0 0, .slice none 0 0], .int .i64 5]) (by simp [results, Try.results27, go_sem, z0, z1]) rfl ⟨.slice none 0 0, .slice none 0 0, by simp [twCode, HOK.out, HC.out], ?_, ?_⟩
    · have hz : w.heap.size ≤ W3.heap.size := HB3.out.size
      rw [show twRA p q = [] from by simp [twRA, HC.out], show twRB p q = [] from by simp [twRB, HC.out]]
      exact OwnSol.nil0 (by first | exact hz | (simp [World.setCell]; exact hz))
    · first | exact HB3.out | exact (HB3.out.setCell (p := ⟨w.heap.size, 0, none⟩) (Nat.le_refl _) _).setCell (p := ⟨w.heap.size, 1, none⟩) (Nat.le_refl _) _
  have hd : decide (thenL p q = thenL q p) = true := hc
  have HC := Lib.hid hc; clear hc
  go_wp2_with fail
  refine (c_twist _ _ p q _ (hp.below HB3.out) (hq.below HB3.out) HLn.out.symm (by omega)).mono ?_; rintro e wz ⟨s1, s2, rfl, hs, hbz⟩
  obtain ⟨sa1, sl1, sc1, rfl⟩ := hs.sol.1.any
  obtain ⟨sa2, sl2, sc2, rfl⟩ := hs.sol.2.any
  clear z0 z1 z2 z3
  obtain ⟨z0, z1, z2, z3⟩ := two_cells (HF3.out.under hbz)
  have HLo := Lib.hid HF3.out.lt; have HS := Lib.hid hs; have HBz := Lib.hid (bb HB3.out hbz)
  clear hs hbz
  go_wp2
  obtain ⟨hA, hB⟩ := stored (q := w.heap.size) HBz.out HS.out (Nat.le_refl _) HLo.out
  refine bodyPost_ret (v := .tuple #[.agg #[.slice sa1 sl1 sc1, .slice sa2 sl2 sc2], .int .i64 0]) (by simp [results, Try.results27, go_sem, z0, z1]) rfl ⟨_, _, by simp [twCode, HOK.out, HC.out]; exact ⟨rfl, rfl⟩, by simpa [twRA, twRB, HOK.out, HC.out] using hA, hB⟩

theorem tw_total (p q : List Int) : total (twRA p q) ≤ 144 ∧ total (twRB p q) ≤ 144 := by
  unfold twRA twRB
  split
  · rename_i h
    have hl : p.length ≤ 12 := by simp [twOk, isPerm, inR] at h; omega
    have h1 := total_le _ (tab_rows (g := fun _ y => nth p y) hl)
    have h2 := total_le _ (tab_rows (g := fun x _ => nth q x) hl)
    rw [tabOf_length] at h1 h2
    unfold twA twB
    omega
  · simp [total]
end Go.Proofs.Ytkcobfkmeaakoaa

namespace Go.Proofs.Ytkcobfkmeaakoaa
open Go.RowKit

theorem val2_tabOf' {n : Nat} {g : Int → Int → Int} {x y : Int} (hx0 : 0 ≤ x) (hx : x < n) (hy0 : 0 ≤ y) (hy : y < n) : val2 (tabOf n g) x y = g x y := by
  show nth (row (tabOf n g) x) y = _
  rw [row_tabOfi _ _ _ hx0 hx, nth_rowOfi _ _ _ hy0 hy]
theorem perm_lt {p : List Int} (h : Permuted p) {x : Int} (h0 : 0 ≤ x) (h1 : x < p.length) : 0 ≤ nth p x ∧ nth p x < p.length := h.2 _ (nth_mem h0 h1)
theorem perm_inj {p : List Int} (h : Permuted p) {x y : Int} (h0 : 0 ≤ x) (h1 : x < p.length) (g0 : 0 ≤ y) (g1 : y < p.length) (e : nth p x = nth p y) : x = y := by
  rw [← nth_invL h h0 h1, e, nth_invL h g0 g1]
theorem isPerm_parts {p : List Int} (h : isPerm p = true) : 1 ≤ p.length ∧ p.length ≤ 12 ∧ Permuted p := by
  simp only [isPerm, Bool.and_eq_true, inR, decide_eq_true_eq] at h
  exact ⟨by omega, by omega, h.2⟩

section
variable {p q : List Int} (hp : Permuted p) (hq : Permuted q) (hl : q.length = p.length) (h1 : 1 ≤ p.length) (h12 : p.length ≤ 12)
include hp hq hl h1 h12
omit hp hq hl h1 h12 in
theorem tw_A0 {x y : Int} (hx0 : 0 ≤ x) (hx : x < p.length) (hy0 : 0 ≤ y) (hy : y < p.length) : val2 (twA p) x y = nth p y := val2_tabOf' hx0 hx hy0 hy
omit hp hq hl h1 h12 in
theorem tw_B0 {x y : Int} (hx0 : 0 ≤ x) (hx : x < p.length) (hy0 : 0 ≤ y) (hy : y < p.length) : val2 (twB p q) x y = nth q x := val2_tabOf' hx0 hx hy0 hy
theorem tw_pm : isPM (twA p) (twB p q) = true := by
  have ha : isTab (twA p) = true := isTab_tabOf h1 h12 fun x y hx hy => perm_lt hp (by omega) (by omega)
  have hb : isTab (twB p q) = true := isTab_tabOf h1 h12 fun x y hx hy => by have := perm_lt hq (x := x) (by omega) (by omega); omega
  have hab : (twA p).length = (twB p q).length := by simp [twA, twB]
  simp [isPM, ha, hb, hab]
theorem tw_coll : collL (twA p) (twB p q) = [] := by
  have hla : (twA p).length = p.length := by simp [twA]
  unfold collL
  refine quad_none (find2_none fun a ha b hb => ?_)
  rw [hla] at ha hb ⊢
  unfold colP
  have a1 := div_lt_sq ha; have a2 := Nat.mod_lt a (show 0 < p.length by omega)
  have b1 := div_lt_sq hb; have b2 := Nat.mod_lt b (show 0 < p.length by omega)
  have g1 := Nat.div_add_mod a p.length
  have g2 := Nat.div_add_mod b p.length
  generalize a / p.length = x1 at a1 g1 ⊢
  generalize a % p.length = y1 at a2 g1 ⊢
  generalize b / p.length = x2 at b1 g2 ⊢
  generalize b % p.length = y2 at b2 g2 ⊢
  rw [tw_A0 (by omega) (by omega) (by omega) (by omega), tw_A0 (by omega) (by omega) (by omega) (by omega), tw_B0 (by omega) (by omega) (by omega) (by omega), tw_B0 (by omega) (by omega) (by omega) (by omega)]
  by_cases e1 : nth p (y1 : Int) = nth p (y2 : Int)
  · by_cases e2 : nth q (x1 : Int) = nth q (x2 : Int)
    · have f1 := perm_inj hp (by omega) (by omega) (by omega) (by omega) e1
      have f2 := perm_inj hq (by omega) (by omega) (by omega) (by omega) e2
      have : a = b := by
        rw [← g1, ← g2, show x1 = x2 by omega, show y1 = y2 by omega]
      simp [this]
    · simp [e2]
  · simp [e1]
theorem tw_nd : nondegL (twA p) (twB p q) = true := by
  have e : ∀ {n : Nat} {g : Int → Int → Int} {r : List Int}, isPerm r = true → (∀ x : Nat, x < n → rowOf n (g x) = r) → permRows (tabOf n g) = true := by
    intro n g r hr hg
    unfold permRows tabOf
    rw [List.all_eq_true]
    intro s hs
    rw [List.mem_map] at hs
    obtain ⟨x, hx, rfl⟩ := hs
    have e := hg x (by simpa using hx)
    show isPerm (rowOf n (g x)) = true
    rw [e]; exact hr
  have ip : isPerm p = true := by simp [isPerm, inR, hp]; omega
  have iq : isPerm q = true := by simp [isPerm, inR, hq]; omega
  unfold nondegL
  rw [Bool.and_eq_true]
  refine ⟨e ip fun x hx => rowOf_self p, ?_⟩
  have hlb : (twB p q).length = p.length := by simp [twB]
  unfold transL
  rw [hlb]
  refine e iq fun x hx => ?_
  have : rowOf p.length (fun y => val2 (twB p q) y x) = rowOf p.length (nth q) := rowOf_congr fun y hy => tw_B0 (by omega) (by omega) (by omega) (by omega)
  rw [this, ← hl, rowOf_self]
theorem tw_inv : involL (twA p) (twB p q) = decide (invL p = q) := by
  have hla : (twA p).length = p.length := by simp [twA]
  have key : ∀ x y : Nat, x < p.length → y < p.length → ivF (twA p) (twB p q) x y = (decide (nth p (nth q x) = x) && decide (nth q (nth p y) = y)) := by
    intro x y hx hy
    have a := perm_lt hp (x := y) (by omega) (by omega)
    have b := perm_lt hq (x := x) (by omega) (by omega)
    unfold ivF
    rw [tw_A0 (x := x) (y := y) (by omega) (by omega) (by omega) (by omega), tw_B0 (x := x) (y := y) (by omega) (by omega) (by omega) (by omega),
      tw_A0 (by omega) (by omega) (by omega) (by omega), tw_B0 (by omega) (by omega) (by omega) (by omega)]
  rw [Bool.eq_iff_iff]
  unfold involL
  rw [all2_iff, hla, decide_eq_true_eq]
  constructor
  · intro h
    apply ext_nth (by simp; omega)
    intro k hk
    simp at hk
    obtain ⟨x, x0, x1, ex⟩ := ex_pre hp (y := (k : Int)) (by omega) (by omega)
    have := h 0 (by omega) x.toNat (by omega)
    rw [key _ _ (by omega) (by omega)] at this
    simp only [Bool.and_eq_true, decide_eq_true_eq] at this
    have e := this.2
    rw [show ((x.toNat : Nat) : Int) = x by omega, ex] at e
    rw [e, ← ex, nth_invL hp x0 x1]
  · intro h x hx y hy
    rw [key x y hx hy, ← h]
    have e2 := nth_invL hp (x := (y : Int)) (by omega) (by omega)
    obtain ⟨z, z0, z1, ez⟩ := ex_pre hp (y := (x : Int)) (by omega) (by omega)
    have e1 : nth p (nth (invL p) x) = x := by rw [← ez, nth_invL hp z0 z1]
    simp [e1, e2]
theorem tw_sol (hc : thenL p q = thenL q p) : isSol (twA p) (twB p q) = true := by
  have hla : (twA p).length = p.length := by simp [twA]
  have hcom : ∀ y : Int, 0 ≤ y → y < p.length → nth q (nth p y) = nth p (nth q y) := by
    intro y y0 y1
    have e : nth (thenL p q) y = nth (thenL q p) y := by rw [hc]
    rw [nth_thenL _ _ _ y0 y1, nth_thenL _ _ _ y0 (by omega)] at e
    exact e
  have hyF : yF (twA p) (twB p q) = [] := by
    unfold yF
    have : find3 (twA p).length (yP (twA p) (twB p q)) = none := find3_none fun x hx y hy z hz => by
      rw [hla] at hx hy hz
      have px := perm_lt hp (x := x) (by omega) (by omega)
      have py := perm_lt hp (x := y) (by omega) (by omega)
      have pz := perm_lt hp (x := z) (by omega) (by omega)
      have qx := perm_lt hq (x := x) (by omega) (by omega)
      have qy := perm_lt hq (x := y) (by omega) (by omega)
      have tA := fun (x y : Int) (a : 0 ≤ x) (b : x < p.length) (c : 0 ≤ y) (d : y < p.length) => tw_A0 (p := p) (x := x) (y := y) a b c d
      have tB := fun (x y : Int) (a : 0 ≤ x) (b : x < p.length) (c : 0 ≤ y) (d : y < p.length) => tw_B0 (p := p) (q := q) (x := x) (y := y) a b c d
      unfold yP yL yR
      rw [tA x y (by omega) (by omega) (by omega) (by omega), tB x y (by omega) (by omega) (by omega) (by omega), tA y z (by omega) (by omega) (by omega) (by omega), tB y z (by omega) (by omega) (by omega) (by omega),
        tA (nth q x) z (by omega) (by omega) (by omega) (by omega), tB (nth q x) z (by omega) (by omega) (by omega) (by omega), tA x (nth p z) (by omega) (by omega) (by omega) (by omega), tB x (nth p z) (by omega) (by omega) (by omega) (by omega),
        tA (nth p y) (nth p z) (by omega) (by omega) (by omega) (by omega), tB (nth p y) (nth p z) (by omega) (by omega) (by omega) (by omega), tA (nth q x) (nth q y) (by omega) (by omega) (by omega) (by omega), tB (nth q x) (nth q y) (by omega) (by omega) (by omega) (by omega), hcom y (by omega) (by omega)]
      simp
    rw [this]; rfl
  simp [isSol, tw_pm hp hq hl h1 h12, tw_coll hp hq hl h1 h12, hyF]
end
theorem then_back {p : List Int} (hp : Permuted p) : thenL p (invL p) = iota p.length := by
  apply ext_nth (by simp)
  intro k hk
  simp at hk
  rw [nth_thenL _ _ _ (by omega) (by omega), nth_invL hp (by omega) (by omega)]
  rw [nth_nat _ _ (by simpa using hk)]
  simp [iota]
end Go.Proofs.Ytkcobfkmeaakoaa

namespace Go.Proofs.Ytkcobfkmeaakoaa

/-- The least number of steps that lead x back. -/
def MinPer (p : List Int) (x : Int) (c : Nat) : Prop := 1 ≤ c ∧ iter (nth p) c x = x ∧ ∀ r, 1 ≤ r → r < c → iter (nth p) r x ≠ x
theorem minPer_ex {p : List Int} (hp : Permuted p) {x : Int} (h0 : 0 ≤ x) (h1 : x < p.length) : ∃ c, MinPer p x c ∧ c ≤ p.length := by
  obtain ⟨r, r1, r2, r3⟩ := comes_back hp h0 h1
  have key : ∀ d, d ≤ p.length + 1 → (∃ c, MinPer p x c ∧ c ≤ p.length) ∨ (∀ j, 1 ≤ j → j < d → iter (nth p) j x ≠ x) := by
    intro d
    induction d with
    | zero => exact fun _ => .inr fun j h1 h2 => by omega
    | succ d ih =>
      intro hd1
      rcases ih (by omega) with h | h
      · exact .inl h
      · by_cases hd : 1 ≤ d ∧ iter (nth p) d x = x
        · exact .inl ⟨d, ⟨hd.1, hd.2, h⟩, by omega⟩
        · refine .inr fun j h1 h2 => ?_
          by_cases e : j = d
          · subst e; exact fun e2 => hd ⟨h1, e2⟩
          · exact h j h1 (by omega)
  rcases key (p.length + 1) (Nat.le_refl _) with h | h
  · exact h
  · exact absurd r3 (h r r1 (by omega))
theorem MinPer.uniq {p : List Int} {x : Int} {a b : Nat} (ha : MinPer p x a) (hb : MinPer p x b) : a = b := by
  rcases Nat.lt_trichotomy a b with h | h | h
  · exact absurd ha.2.1 (hb.2.2 a ha.1 h)
  · exact h
  · exact absurd hb.2.1 (ha.2.2 b hb.1 h)
theorem iter_comm (f : Int → Int) (a b : Nat) (x : Int) : iter f a (iter f b x) = iter f b (iter f a x) := by rw [← iter_add, ← iter_add, Nat.add_comm]
theorem MinPer.step {p : List Int} (hp : Permuted p) {x : Int} (h0 : 0 ≤ x) (h1 : x < p.length) {c : Nat} (h : MinPer p x c) (k : Nat) : MinPer p (iter (nth p) k x) c := by
  refine ⟨h.1, by rw [iter_comm, h.2.1], fun r r1 r2 e => ?_⟩
  rw [iter_comm] at e
  exact h.2.2 r r1 r2 (iter_inj hp (iter_lt hp h0 h1 r).1 (iter_lt hp h0 h1 r).2 h0 h1 k e)
theorem MinPer.nodup {p : List Int} (hp : Permuted p) {x : Int} (h0 : 0 ≤ x) (h1 : x < p.length) {c : Nat} (h : MinPer p x c) : ((List.range c).map fun k => iter (nth p) k x).Nodup := by
  rw [List.Nodup, List.pairwise_map, List.pairwise_iff_getElem]
  intro i j hi hj hij e
  simp only [List.getElem_range] at e
  simp at hj
  refine h.2.2 (j - i) (by omega) (by omega) ?_
  have e2 : iter (nth p) i (iter (nth p) (j - i) x) = iter (nth p) i x := by rw [← iter_add, show i + (j - i) = j from by omega, e]
  exact iter_inj hp (iter_lt hp h0 h1 _).1 (iter_lt hp h0 h1 _).2 h0 h1 i e2

/-- Sums and least common multiples of the numbers of D from 1 to k. -/
def sumD (D : Nat → Bool) : Nat → Nat
  | 0 => 0
  | k + 1 => sumD D k + if D (k + 1) then k + 1 else 0
def lcmD (D : Nat → Bool) : Nat → Nat → Nat
  | 0, l => l
  | k + 1, l => lcmD D k (if D (k + 1) then Nat.lcm l (k + 1) else l)
def chkD : Nat → Nat → Nat → Bool
  | 0, _, l => decide (l ≤ 60)
  | k + 1, b, l => chkD k b l && (if k + 1 ≤ b then chkD k (b - (k + 1)) (Nat.lcm l (k + 1)) else true)
theorem chkD_ok (D : Nat → Bool) : ∀ (k b l : Nat), chkD k b l = true → sumD D k ≤ b → lcmD D k l ≤ 60
  | 0, b, l, h, _ => by simpa [chkD, lcmD] using h
  | k + 1, b, l, h, hs => by
    simp only [chkD, Bool.and_eq_true] at h
    unfold lcmD
    unfold sumD at hs
    by_cases hd : D (k + 1) = true
    · rw [if_pos hd] at hs ⊢
      have h2 := h.2
      rw [if_pos (show k + 1 ≤ b by omega)] at h2
      exact chkD_ok D k _ _ h2 (by omega)
    · rw [if_neg hd] at hs ⊢
      exact chkD_ok D k b l h.1 (by omega)
theorem chk12 : chkD 12 12 1 = true := by decide +kernel
theorem lcmD_dvd (D : Nat → Bool) : ∀ (k l : Nat), l ∣ lcmD D k l
  | 0, l => Nat.dvd_refl _
  | k + 1, l => by
    unfold lcmD
    refine Nat.dvd_trans ?_ (lcmD_dvd D k _)
    split
    · exact Nat.dvd_lcm_left _ _
    · exact Nat.dvd_refl _
theorem lcmD_mem (D : Nat → Bool) : ∀ (k l d : Nat), 1 ≤ d → d ≤ k → D d = true → d ∣ lcmD D k l
  | 0, l, d, h1, h2, _ => by omega
  | k + 1, l, d, h1, h2, hd => by
    unfold lcmD
    by_cases e : d = k + 1
    · subst e
      rw [if_pos hd]
      exact Nat.dvd_trans (Nat.dvd_lcm_right _ _) (lcmD_dvd D k _)
    · exact lcmD_mem D k _ d h1 (by omega) hd
theorem lcmD_pos (D : Nat → Bool) : ∀ (k l : Nat), 0 < l → 0 < lcmD D k l
  | 0, l, h => h
  | k + 1, l, h => by
    unfold lcmD
    refine lcmD_pos D k _ ?_
    split
    · exact Nat.lcm_pos h (by omega)
    · exact h

open Classical in
theorem ord_le {p : List Int} (hp : Permuted p) (hn : p.length ≤ 12) : ∃ L, 1 ≤ L ∧ L ≤ 60 ∧ pw p (L - 1) = iota p.length := by
  let D : Nat → Bool := fun d => decide (∃ x : Int, 0 ≤ x ∧ x < p.length ∧ MinPer p x d)
  have hD : ∀ d, D d = true → ∃ x : Int, 0 ≤ x ∧ x < p.length ∧ MinPer p x d := fun d h => by simpa [D] using h
  have hx : ∀ d, ∃ x : Int, D d = true → 0 ≤ x ∧ x < p.length ∧ MinPer p x d := fun d => by
    by_cases h : D d = true
    · obtain ⟨x, hx⟩ := hD d h; exact ⟨x, fun _ => hx⟩
    · exact ⟨0, fun h2 => absurd h2 h⟩
  let X : Nat → Int := fun d => Classical.choose (hx d)
  have hX : ∀ d, D d = true → 0 ≤ X d ∧ X d < p.length ∧ MinPer p (X d) d := fun d => Classical.choose_spec (hx d)
  -- the orbits, one for each length
  have key : ∀ k, ∃ U : List Int, U.length = sumD D k ∧ U.Nodup ∧ (∀ y ∈ U, 0 ≤ y ∧ y < p.length ∧ ∃ d, d ≤ k ∧ MinPer p y d) := by
    intro k
    induction k with
    | zero => exact ⟨[], rfl, List.nodup_nil, by simp⟩
    | succ k ih =>
      obtain ⟨U, h1, h2, h3⟩ := ih
      by_cases hd : D (k + 1) = true
      · obtain ⟨x0, x1, hm⟩ := hX (k + 1) hd
        refine ⟨U ++ (List.range (k + 1)).map fun j => iter (nth p) j (X (k + 1)), ?_, ?_, ?_⟩
        · unfold sumD; rw [if_pos hd, List.length_append, h1]; simp
        · rw [List.nodup_append]
          refine ⟨h2, hm.nodup hp x0 x1, fun a ha b hb e => ?_⟩
          rw [List.mem_map] at hb
          obtain ⟨j, _, rfl⟩ := hb
          obtain ⟨_, _, d, hdk, hmd⟩ := h3 a ha
          rw [e] at hmd
          have := hmd.uniq (hm.step hp x0 x1 j)
          omega
        · intro y hy
          rcases List.mem_append.1 hy with hy | hy
          · obtain ⟨a, b, d, c, e⟩ := h3 y hy; exact ⟨a, b, d, by omega, e⟩
          · rw [List.mem_map] at hy
            obtain ⟨j, _, rfl⟩ := hy
            have := iter_lt hp x0 x1 j
            exact ⟨this.1, this.2, k + 1, Nat.le_refl _, hm.step hp x0 x1 j⟩
      · refine ⟨U, ?_, h2, fun y hy => ?_⟩
        · unfold sumD; rw [if_neg hd, h1]; rfl
        · obtain ⟨a, b, d, c, e⟩ := h3 y hy; exact ⟨a, b, d, by omega, e⟩
  obtain ⟨U, u1, u2, u3⟩ := key 12
  have hsum : sumD D 12 ≤ 12 := by
    have hsub : U ⊆ iota p.length := fun y hy => (mem_iota _ _).2 ⟨(u3 y hy).1, (u3 y hy).2.1⟩
    have := List.Nodup.length_le_of_subset u2 hsub
    rw [iota_length] at this; omega
  have hL := chkD_ok D 12 12 1 chk12 hsum
  have hpos := lcmD_pos D 12 1 (by omega)
  refine ⟨lcmD D 12 1, hpos, hL, ?_⟩
  apply ext_nth (by simp)
  intro k hk
  have hk' : k < p.length := by simpa using hk
  rw [nth_pw p k (by omega) (by omega), nth_iota _ _ (by omega) (by omega)]
  obtain ⟨c, hc, hcl⟩ := minPer_ex hp (x := (k : Int)) (by omega) (by omega)
  have hDc : D c = true := by
    have : ∃ x : Int, 0 ≤ x ∧ x < p.length ∧ MinPer p x c := ⟨k, by omega, by omega, hc⟩
    simpa [D] using this
  obtain ⟨m, hm⟩ := lcmD_mem D 12 1 c hc.1 (by omega) hDc
  rw [show lcmD D 12 1 - 1 + 1 = c * m by omega]
  exact iter_mul _ _ _ hc.2.1 m

theorem sum_perm {l m : List Int} (h : l.Perm m) : l.sum = m.sum := by
  induction h with
  | nil => rfl
  | cons x _ ih => simp [ih]
  | swap x y l => simp; omega
  | trans _ _ ih1 ih2 => exact ih1.trans ih2
theorem sum_set : ∀ (l : List Int) (i : Nat) (v : Int) (h : i < l.length), (l.set i v).sum = l.sum - l[i] + v
  | a :: l, 0, v, h => by simp; omega
  | a :: l, i + 1, v, h => by
    have := sum_set l i v (by simpa using h)
    simp only [List.set_cons_succ, List.sum_cons, this, List.getElem_cons_succ]; omega
  | [], i, v, h => by simp at h
theorem cnt_sum {X : List Int} {n : Nat} (hX : ∀ x ∈ X, 0 ≤ x ∧ x < n) : ∀ k, k ≤ X.length → (cnt X n k).sum = k
  | 0, _ => by rw [cnt_zero]; simp
  | k + 1, h => by
    have hx := hX _ (nth_mem (p := X) (x := k) (by omega) (by omega))
    rw [← cnt_step (by omega) hx.1 hx.2, sum_set _ _ _ (by simp; omega), cnt_sum hX k (by omega)]
    have := nth_nat (cnt X n k) (nth X k).toNat (by simp; omega)
    rw [show (((nth X k).toNat : Nat) : Int) = nth X k by omega] at this
    rw [this]; omega
theorem cyL_sum {p : List Int} (hs : SysOk p.length [p]) : (cyL p).sum = p.length := by
  have h1 := sum_perm (csort_perm (cyM_range p))
  rw [csort_cyc, List.sum_append] at h1
  have h2 : (List.replicate ((cyM p).count 0) (0 : Int)).sum = 0 := by simp
  have h3 : (cyM p).sum = p.length := cnt_sum (fun x hx => orbL_mem hs hx) p.length (by rw [orbL_len]; exact Nat.le_refl _)
  unfold cyL; omega
theorem inv_then {p q : List Int} (hp : Permuted p) (hq : Permuted q) (hl : q.length = p.length) (hpq : Permuted (thenL p q)) : invL (thenL p q) = thenL (invL q) (invL p) := by
  apply ext_nth (by simp; omega)
  intro k hk
  simp at hk
  obtain ⟨x, x0, x1, e⟩ := ex_pre hpq (y := (k : Int)) (by omega) (by simpa using hk)
  simp at x1
  have hx := perm_lt hp x0 x1
  rw [nth_thenL _ _ _ (by omega) (by simp; omega), ← e, nth_invL hpq x0 (by simpa using x1), nth_thenL _ _ _ x0 x1, nth_invL hq hx.1 (by omega), nth_invL hp x0 x1]
theorem then_perm {p q : List Int} (hp : Permuted p) (hq : Permuted q) (hl : q.length = p.length) : Permuted (thenL p q) := by
  rw [permuted_iff]
  intro x x0 x1
  rw [thenL_length] at x1
  obtain ⟨y, y0, y1, e⟩ := ex_pre hq (y := x) x0 (by omega)
  obtain ⟨z, z0, z1, e2⟩ := ex_pre hp (y := y) y0 (by omega)
  rw [← e, ← e2, ← nth_thenL p q z z0 z1]
  exact nth_mem z0 (by simpa using z1)
end Go.Proofs.Ytkcobfkmeaakoaa

namespace Go.Proofs.Ytkcobfkmeaakoaa

/-- A table of n rows with one entry changed. -/
theorem tabOf_put (n : Nat) (g : Int → Int → Int) (u v z : Int) (hu0 : 0 ≤ u) (hu : u < n) (hv0 : 0 ≤ v) (hv : v < n) :
    (tabOf n g).set u.toNat ((row (tabOf n g) u).set v.toNat z) = tabOf n fun a b => if a = u ∧ b = v then z else g a b := by
  apply ext_row (by simp)
  intro a ha
  simp at ha
  have hR := row_tabOf n (fun a b => if a = u ∧ b = v then z else g a b) a ha
  rw [row_set _ _ _ _ hu0 (by simpa using hu) (by omega), hR]
  by_cases e : (a : Int) = u
  · rw [if_pos e, row_tabOfi _ _ _ hu0 hu]
    apply ext_nth (by simp)
    intro b hb
    simp at hb
    have hQ := nth_rowOf n (fun b => if (a : Int) = u ∧ b = v then z else g a b) b hb
    rw [nth_set _ _ _ _ hv0 (by simpa using hv) (by omega), nth_rowOf _ _ _ hb]
    refine Eq.trans ?_ hQ.symm
    show _ = if (a : Int) = u ∧ (b : Int) = v then z else g a b
    by_cases e2 : (b : Int) = v
    · rw [if_pos e2, if_pos ⟨e, e2⟩]
    · rw [if_neg e2, if_neg (fun h => e2 h.2), e]
  · rw [if_neg e, row_tabOf _ _ _ ha]
    exact rowOf_congr fun b _ => by rw [if_neg (fun h => e h.1)]

/-- The entry (u, v) after k pairs: what z says of the pair that leads there, where that pair is among the first k. -/
def ivG (A B : List (List Int)) (n : Nat) (z : Int → Int) (ini : Int → Int → Int) (k : Nat) (u v : Int) : Int :=
  if nth (invL (pmL A B n)) (u * n + v) < k then z (nth (invL (pmL A B n)) (u * n + v)) else ini u v
def ivT (A B : List (List Int)) (n : Nat) (z : Int → Int) (ini : Int → Int → Int) (k : Nat) : List (List Int) := tabOf n (ivG A B n z ini k)
@[simp] theorem ivT_length (A B : List (List Int)) (n : Nat) (z : Int → Int) (ini : Int → Int → Int) (k : Nat) : (ivT A B n z ini k).length = n := by simp [ivT]
/-- The inverse's two tables. -/
def ivA (A B : List (List Int)) (n : Nat) : List (List Int) := tabOf n fun u v => nth (invL (pmL A B n)) (u * n + v) / n
def ivB (A B : List (List Int)) (n : Nat) : List (List Int) := tabOf n fun u v => nth (invL (pmL A B n)) (u * n + v) % n

/-- Where a pair's code leads back to. -/
theorem iv_range {A B : List (List Int)} {n : Nat} (hP : Permuted (pmL A B n)) {u v : Int} (hu0 : 0 ≤ u) (hu : u < n) (hv0 : 0 ≤ v) (hv : v < n) :
    0 ≤ nth (invL (pmL A B n)) (u * n + v) ∧ nth (invL (pmL A B n)) (u * n + v) < ((n * n : Nat) : Int) ∧ nth (pmL A B n) (nth (invL (pmL A B n)) (u * n + v)) = u * n + v := by
  obtain ⟨h0, h1⟩ := code_lt hu0 hu hv0 hv
  obtain ⟨x, x0, x1, e⟩ := ex_pre hP (y := u * n + v) h0 (by simpa using h1)
  rw [← e, nth_invL hP x0 x1]
  exact ⟨x0, by simpa using x1, rfl⟩
theorem ivT_zero {A B : List (List Int)} {n : Nat} (hP : Permuted (pmL A B n)) (z : Int → Int) (ini : Int → Int → Int) : ivT A B n z ini 0 = tabOf n ini := by
  refine tabOf_congr fun u v hu hv => ?_
  obtain ⟨h0, _, _⟩ := iv_range hP (u := u) (v := v) (by omega) (by omega) (by omega) (by omega)
  unfold ivG
  rw [if_neg (by omega)]
theorem ivT_done {A B : List (List Int)} {n : Nat} (hP : Permuted (pmL A B n)) (z : Int → Int) (ini : Int → Int → Int) : ivT A B n z ini (n * n) = tabOf n fun u v => z (nth (invL (pmL A B n)) (u * n + v)) := by
  refine tabOf_congr fun u v hu hv => ?_
  obtain ⟨_, h1, _⟩ := iv_range hP (u := u) (v := v) (by omega) (by omega) (by omega) (by omega)
  unfold ivG
  rw [if_pos h1]
/-- One pair more. -/
theorem ivT_step {A B : List (List Int)} {n : Nat} (hP : Permuted (pmL A B n)) (z : Int → Int) (ini : Int → Int → Int) {x y : Nat} (hx : x < n) (hy : y < n)
    (hA0 : 0 ≤ val2 A x y) (hA1 : val2 A x y < n) (hB0 : 0 ≤ val2 B x y) (hB1 : val2 B x y < n) :
    (ivT A B n z ini (x * n + y)).set (val2 A x y).toNat ((row (ivT A B n z ini (x * n + y)) (val2 A x y)).set (val2 B x y).toNat (z ((x : Int) * n + y))) = ivT A B n z ini (x * n + y + 1) := by
  unfold ivT
  rw [tabOf_put _ _ _ _ _ hA0 hA1 hB0 hB1]
  refine tabOf_congr fun u v hu hv => ?_
  obtain ⟨h0, h1, h2⟩ := iv_range hP (u := u) (v := v) (by omega) (by omega) (by omega) (by omega)
  have hc : nth (pmL A B n) ((x : Int) * n + y) = val2 A x y * n + val2 B x y := nth_pmL (by omega) (by omega) (by omega) (by omega)
  obtain ⟨c0, c1⟩ := code_lt (n := n) (x := x) (y := y) (by omega) (by omega) (by omega) (by omega)
  have hcast : ((x * n + y : Nat) : Int) = (x : Int) * n + y := by push_cast; rfl
  unfold ivG
  by_cases e : (u : Int) = val2 A x y ∧ (v : Int) = val2 B x y
  · rw [if_pos e]
    have e3 : nth (invL (pmL A B n)) ((u : Int) * n + v) = (x : Int) * n + y := by
      rw [e.1, e.2, ← hc, nth_invL hP c0 (by simpa using c1)]
    rw [e3, if_pos (by omega)]
  · rw [if_neg e]
    have hne : nth (invL (pmL A B n)) ((u : Int) * n + v) ≠ (x : Int) * n + y := by
      intro h
      rw [h, hc] at h2
      obtain ⟨g1, g2⟩ := code_inj hB0 hB1 (by omega) (by omega) h2
      exact e ⟨g1.symm, g2.symm⟩
    by_cases hl : nth (invL (pmL A B n)) ((u : Int) * n + v) < ((x * n + y : Nat) : Int)
    · rw [if_pos hl, if_pos (by omega)]
    · rw [if_neg hl, if_neg (by omega)]
theorem tabOf_val2 {t : List (List Int)} (h : isTab t = true) : tabOf t.length (val2 t) = t := by
  apply ext_row (by simp)
  intro k hk
  simp at hk
  have hr := isTab_row h (x := k) (by omega) (by omega)
  rw [row_tabOf _ _ _ hk]
  apply ext_nth (by simp; omega)
  intro j hj
  simp at hj
  rw [nth_rowOf _ _ _ hj]; rfl
theorem ivA_eq {A B : List (List Int)} {n : Nat} (hP : Permuted (pmL A B n)) (ini : Int → Int → Int) : ivT A B n (fun c => c / n) ini (n * n) = ivA A B n := ivT_done hP _ _
theorem ivB_eq {A B : List (List Int)} {n : Nat} (hP : Permuted (pmL A B n)) (ini : Int → Int → Int) : ivT A B n (fun c => c % n) ini (n * n) = ivB A B n := ivT_done hP _ _
end Go.Proofs.Ytkcobfkmeaakoaa

namespace Go.Proofs.Ytkcobfkmeaakoaa
open Go.RowKit

theorem ren_val {t : List (List Int)} {p : List Int} {x y : Int} (hx0 : 0 ≤ x) (hx : x < t.length) (hy0 : 0 ≤ y) (hy : y < t.length) : val2 (renL t p) x y = nth p (val2 t (nth (invL p) x) (nth (invL p) y)) := val2_tabOf' hx0 hx hy0 hy
theorem ren_then {t : List (List Int)} {p q : List Int} (h : RenOk t p) (hq : Permuted q) (hl : q.length = t.length) : renL (renL t p) q = renL t (thenL p q) := by
  obtain ⟨ht, hp, hpl⟩ := h
  have hpq := then_perm hp hq (by omega)
  unfold renL
  rw [tabOf_length]
  refine tabOf_congr fun x y hx hy => ?_
  have a := invL_lt hq (y := x) (by omega) (by omega)
  have b := invL_lt hq (y := y) (by omega) (by omega)
  have c := invL_lt hp (y := nth (invL q) x) a.1 (by omega)
  have d := invL_lt hp (y := nth (invL q) y) b.1 (by omega)
  have e := val2_lt ht (x := nth (invL p) (nth (invL q) x)) (y := nth (invL p) (nth (invL q) y)) c.1 (by omega) d.1 (by omega)
  have hA : nth (thenL (invL q) (invL p)) x = nth (invL p) (nth (invL q) x) := nth_thenL _ _ _ (by omega) (by rw [invL_length]; omega)
  have hB : nth (thenL (invL q) (invL p)) y = nth (invL p) (nth (invL q) y) := nth_thenL _ _ _ (by omega) (by rw [invL_length]; omega)
  rw [val2_tabOf' a.1 (by omega) b.1 (by omega), inv_then hp hq (by omega) hpq, hA, hB]
  exact (nth_thenL p q _ e.1 (by omega)).symm
theorem ren_one {t : List (List Int)} (ht : isTab t = true) : renL t (iota t.length) = t := by
  have hi : ∀ x : Int, 0 ≤ x → x < t.length → nth (invL (iota t.length)) x = x := fun x h0 h1 => by
    have h := nth_invL (permuted_iota t.length) (x := x) h0 (by simpa using h1)
    rwa [nth_iota _ _ h0 h1] at h
  conv => rhs; rw [← tabOf_val2 ht]
  unfold renL
  refine tabOf_congr fun x y hx hy => ?_
  rw [hi _ (by omega) (by omega), hi _ (by omega) (by omega)]
  have e := val2_lt ht (x := (x : Int)) (y := (y : Int)) (by omega) (by omega) (by omega) (by omega)
  rw [nth_iota _ _ e.1 e.2]
theorem renOk_ren {t : List (List Int)} {p : List Int} (h : RenOk t p) {q : List Int} (hq : Permuted q) (hl : q.length = t.length) : RenOk (renL t p) q := ⟨isTab_renL h, hq, by rw [renL_length]; exact hl⟩

theorem lexR_le_trans {a b c : List (List Int)} (h1 : lexR b a = false) (h2 : lexR c b = false) : lexR c a = false := by
  cases e : lexR c a with
  | false => rfl
  | true =>
    by_cases hab : a = b
    · subst hab; rw [e] at h2; cases h2
    · have h3 := lexR_total (a := b) (b := a) (fun h => hab h.symm) h1
      rw [lexR_trans e h3] at h2; cases h2
theorem bestR_le (f : List Int → List (List Int)) : ∀ (X : List (List Int)) (ps : List (List Int)), lexR X (bestR f X ps) = false ∧ ∀ p ∈ ps, lexR (f p) (bestR f X ps) = false
  | X, [] => ⟨lexR_irrefl X, by simp⟩
  | X, p :: ps => by
    unfold bestR
    obtain ⟨h1, h2⟩ := bestR_le f (if lexR (f p) X then f p else X) ps
    have hX : lexR X (if lexR (f p) X then f p else X) = false := by
      split
      · rename_i h; exact lexR_asymm h
      · exact lexR_irrefl X
    have hp : lexR (f p) (if lexR (f p) X then f p else X) = false := by
      split
      · exact lexR_irrefl _
      · rename_i h; simpa using h
    refine ⟨lexR_le_trans h1 hX, fun q hq => ?_⟩
    rcases List.mem_cons.1 hq with rfl | hq
    · exact lexR_le_trans h1 hp
    · exact h2 q hq
def lsT' (t : List (List Int)) : List (List Int) := bestR (renL t) t (allPerms t.length)
theorem lsT_is {t : List (List Int)} (ht : isTab t = true) : (∃ q, Permuted q ∧ q.length = t.length ∧ lsT' t = renL t q) ∧ ∀ q, Permuted q → q.length = t.length → lexR (renL t q) (lsT' t) = false := by
  refine ⟨?_, fun q hq hl => (bestR_le (renL t) t (allPerms t.length)).2 q (mem_allPerms.2 ⟨hq, hl⟩)⟩
  rcases bestR_mem (renL t) t (allPerms t.length) with h | ⟨q, hq, h⟩
  · exact ⟨iota t.length, permuted_iota _, by simp, by rw [ren_one ht]; exact h⟩
  · obtain ⟨a, b⟩ := mem_allPerms.1 hq
    exact ⟨q, a, b, h⟩
theorem perm_inv {p : List Int} (hp : Permuted p) : Permuted (invL p) := by
  rw [permuted_iff]
  intro x x0 x1
  rw [invL_length] at x1
  have := perm_lt hp x0 x1
  rw [← nth_invL hp x0 x1]
  exact nth_mem this.1 (by rw [invL_length]; exact this.2)
/-- Renamed tables have the same least form. -/
theorem lsT_ren {t : List (List Int)} {p : List Int} (h : RenOk t p) : lsT' (renL t p) = lsT' t := by
  obtain ⟨ht, hp, hpl⟩ := h
  have h : RenOk t p := ⟨ht, hp, hpl⟩
  obtain ⟨⟨q1, a1, b1, e1⟩, m1⟩ := lsT_is ht
  obtain ⟨⟨q2, a2, b2, e2⟩, m2⟩ := lsT_is (isTab_renL h)
  rw [renL_length] at b2 m2
  -- each is among the other's
  have f2 : lsT' (renL t p) = renL t (thenL p q2) := by rw [e2, ren_then h a2 b2]
  have hip := perm_inv hp
  have hback : thenL p (thenL (invL p) q1) = q1 := by
    apply ext_nth (by simp; omega)
    intro k hk
    simp at hk
    rw [nth_thenL _ _ _ (by omega) (by omega), nth_thenL _ _ _ (perm_lt hp (by omega) (by omega)).1 (by rw [invL_length]; exact (perm_lt hp (by omega) (by omega)).2), nth_invL hp (by omega) (by omega)]
  have f1 : lsT' t = renL (renL t p) (thenL (invL p) q1) := by
    rw [ren_then h (then_perm hip a1 (by simp; omega)) (by simp; omega), hback, e1]
  have g1 := m1 (thenL p q2) (then_perm hp a2 (by omega)) (by simp; omega)
  have g2 := m2 (thenL (invL p) q1) (then_perm hip a1 (by simp; omega)) (by simp; omega)
  rw [← f2] at g1
  rw [← f1] at g2
  apply Classical.byContradiction
  intro hne
  rw [lexR_total hne g1] at g2
  cases g2

theorem row_renL {t : List (List Int)} {p : List Int} (h : RenOk t p) {x : Nat} (hx : x < t.length) : row (renL t p) x = thenL (thenL (invL p) (row t (nth (invL p) x))) p := by
  obtain ⟨ht, hp, hpl⟩ := h
  have hix := invL_lt hp (y := (x : Int)) (by omega) (by omega)
  have hrl := isTab_row ht hix.1 (by omega)
  have hrr := isTab_row (isTab_renL (t := t) (p := p) ⟨ht, hp, hpl⟩) (x := (x : Int)) (by omega) (by simp; omega)
  rw [renL_length] at hrr
  apply ext_nth (by simp; omega)
  intro y hy
  have hy' : y < t.length := by omega
  have hiy := invL_lt hp (y := (y : Int)) (by omega) (by omega)
  have hv := val2_lt ht (x := nth (invL p) x) (y := nth (invL p) y) hix.1 (by omega) hiy.1 (by omega)
  have e1 : nth (row (renL t p) x) y = nth p (val2 t (nth (invL p) x) (nth (invL p) y)) := ren_val (by omega) (by omega) (by omega) (by omega)
  rw [e1, nth_thenL _ _ _ (by omega) (by simp; omega), nth_thenL _ _ _ (by omega) (by simp; omega)]
  rfl
theorem permRows_iff {t : List (List Int)} (ht : isTab t = true) : permRows t = true ↔ ∀ x : Nat, x < t.length → Permuted (row t x) := by
  obtain ⟨h1, h2⟩ := isTab_len ht
  unfold permRows
  rw [List.all_eq_true]
  constructor
  · intro h x hx
    have := h _ (row_mem (t := t) (x := (x : Int)) (by omega) (by omega))
    exact (isPerm_parts this).2.2
  · intro h r hr
    obtain ⟨x, hx, rfl⟩ := List.getElem_of_mem hr
    have hp := h x hx
    have hl := isTab_row ht (x := (x : Int)) (by omega) (by omega)
    rw [row_nat _ _ hx] at hp hl
    simp [isPerm, inR, hp]
    omega
/-- Renaming keeps 'all rows are permutations'. -/
theorem permRows_ren {t : List (List Int)} {p : List Int} (h : RenOk t p) (hr : permRows t = true) : permRows (renL t p) = true := by
  obtain ⟨ht, hp, hpl⟩ := h
  have h : RenOk t p := ⟨ht, hp, hpl⟩
  rw [permRows_iff (isTab_renL h)]
  rw [permRows_iff ht] at hr
  intro x hx
  rw [renL_length] at hx
  have hix := invL_lt hp (y := (x : Int)) (by omega) (by omega)
  have hrow := hr (nth (invL p) x).toNat (by omega)
  rw [show (((nth (invL p) x).toNat : Nat) : Int) = nth (invL p) x by omega] at hrow
  have hrl := isTab_row ht hix.1 (by omega)
  rw [row_renL h hx]
  have h1 := then_perm (perm_inv hp) hrow (by simp; omega)
  exact then_perm h1 hp (by first | (simp; omega) | simp [hpl] | omega)
theorem trans_ren {t : List (List Int)} {p : List Int} (h : RenOk t p) : transL (renL t p) = renL (transL t) p := by
  obtain ⟨ht, hp, hpl⟩ := h
  unfold transL
  rw [renL_length]
  unfold renL
  rw [tabOf_length]
  refine tabOf_congr fun x y hx hy => ?_
  have a := invL_lt hp (y := (x : Int)) (by omega) (by omega)
  have b := invL_lt hp (y := (y : Int)) (by omega) (by omega)
  rw [val2_tabOf' (by omega) (by omega) (by omega) (by omega), val2_tabOf' a.1 (by omega) b.1 (by omega)]
theorem ren_back {t : List (List Int)} {p : List Int} (h : RenOk t p) : renL (renL t p) (invL p) = t := by
  obtain ⟨ht, hp, hpl⟩ := h
  have h : RenOk t p := ⟨ht, hp, hpl⟩
  rw [ren_then h (perm_inv hp) (by simp; omega), then_back hp, hpl, ren_one ht]
theorem permRows_ren_iff {t : List (List Int)} {p : List Int} (h : RenOk t p) : permRows (renL t p) = permRows t := by
  rw [Bool.eq_iff_iff]
  constructor
  · intro hr
    have h2 := permRows_ren (renOk_ren h (perm_inv h.2.1) (by have := h.2.2; simp; omega)) hr
    rwa [ren_back h] at h2
  · exact permRows_ren h
/-- Renaming keeps latin tables and tables with permutations as rows. -/
theorem lat_ren {t : List (List Int)} {p : List Int} (h : RenOk t p) : latRes (renL t p) = latRes t := by
  have h2 : RenOk (transL t) p := ⟨isTab_transL h.1, h.2.1, by simp; exact h.2.2⟩
  unfold latRes
  rw [if_pos (isTab_renL h), if_pos h.1, permRows_ren_iff h, trans_ren h, permRows_ren_iff h2]
theorem trans_trans {t : List (List Int)} (ht : isTab t = true) : transL (transL t) = t := by
  conv => rhs; rw [← tabOf_val2 ht]
  unfold transL
  rw [tabOf_length]
  refine tabOf_congr fun x y hx hy => ?_
  exact val2_tabOf' (by omega) (by omega) (by omega) (by omega)
end Go.Proofs.Ytkcobfkmeaakoaa

namespace Go.Proofs.Ytkcobfkmeaakoaa
open Go Go.RowKit

/-- 'append(s, src...)' at an operation, s of the call's own from m on. -/
theorem wp_app_intsM {o : Oper} {a : Act} {K : Act → World → Prop} {Q : Exit → Act → World → Prop} (m : Nat) (w : World) (v u : Value) (xs ys : List Int) (s x : Operand)
    (ho : o.op = .call { callee := .builtin .append, args := #[s, x], argTypes := #[25, 25] })
    (hs : a.eval s = v) (hown : Own m w v xs) (hx : a.eval x = u) (hu : Ints w u ys) (hn : xs.length + ys.length ≤ 1099511627776) (hm : m ≤ w.heap.size)
    (h : ∀ a' c' w', Own m w' (.slice a' (xs.length + ys.length) c') (xs ++ ys) → Keep (fun b => v.ownBlock = some b) w w' → K (a.put o.dst (.slice a' (xs.length + ys.length) c')) w') : o.wp Try.prog a w K Q := by
  obtain ⟨i0, hi, hz0, hz1, hz2⟩ := info_parts inf_int64
  obtain ⟨ad, c, rfl, hc, hmx, hcell⟩ := hu
  cases ad with
  | none =>
    have h0 : ys = [] := by
      cases ys with
      | nil => rfl
      | cons y ys => obtain ⟨b, o, e, _⟩ := hcell 0 (by simp); cases e
    subst h0
    obtain ⟨sa, sc, rfl, hsc⟩ := hown.shape
    have hr : (Builtin.append_ #[25, 25] o.type #[.slice sa xs.length sc, .slice none 0 c]).run Try.prog w = .ok (.slice sa xs.length sc) w := by
      rcases hown.2 with ⟨e, _⟩ | ⟨g, cap, cur, e, _, _, hnc, _⟩
      · simp [Builtin.append_, run_underlying Try.underlying25, sizeOf, typeInfo, hi, Builtin.lenOf, Builtin.firstCells, e]
      · simp [Builtin.append_, run_underlying Try.underlying25, sizeOf, typeInfo, hi, Builtin.lenOf, Builtin.firstCells, hnc, storeCells, e]
    unfold Oper.wp
    have hx' : a.eval x = .slice none 0 c := by simpa using hx
    simp [execOp, ho, resolve, invoke, builtin, hs, hx', hr, Result.andThen]
    show K (a.put o.dst (.slice sa xs.length sc)) w
    simpa using h sa sc w (by simpa using hown) (Keep.refl _ _)
  | some ad =>
    refine wp_append_own _ s x 25 ho m 2 i0 (.int .i64 0) 1 8 Try.underlying25 hi hz0 hz1 hz2 rfl (by decide) v xs.length (xs.map (Value.int .i64)) hs hown ad ys.length c (ys.map (Value.int .i64)) hx (by simp) ?_ (by intro u hu; simp at hu; obtain ⟨z, _, rfl⟩ := hu; rfl) (by unfold maxLen; omega) (by omega) hm ?_
    · intro j u hj
      have hjl : j < ys.length := by
        rcases Nat.lt_or_ge j ys.length with h | h
        · exact h
        · simp [List.getElem?_eq_none (show (ys.map (Value.int .i64)).length ≤ j by simpa using h)] at hj
      obtain ⟨b, o, e, hcl⟩ := hcell j hjl
      cases e
      rw [Go.WideShapes.add_plain, hcl]
      simp [List.getElem?_eq_getElem hjl] at hj
      rw [hj]
    · intro v' w' h1 h2 _
      have hO : Own m w' v' (xs ++ ys) := by simpa [Own] using h1
      obtain ⟨a', c', rfl, _⟩ := hO.shape
      rw [List.length_append] at hO ⊢
      exact h a' c' w' hO (Keep.of_grown h2)
theorem step_app_intsM {ops : Array Oper} {o : Oper} {a : Act} {K : Act → World → Prop} {Q : Exit → Act → World → Prop} {E : Prop} (m : Nat) (w : World) (v u : Value) (xs ys : List Int) (L : Nat) (hL : xs.length + ys.length = L) (s x : Operand) (hgd : o.guard = none)
    (ho : o.op = .call { callee := .builtin .append, args := #[s, x], argTypes := #[25, 25] })
    (hs : a.eval s = v) (hown : Own m w v xs) (hx : a.eval x = u) (hu : Ints w u ys) (hn : L ≤ 1099511627776) (hm : m ≤ w.heap.size)
    (h : ∀ a' c' w', Own m w' (.slice a' L c') (xs ++ ys) → Keep (fun b => v.ownBlock = some b) w w' → K (a.put o.dst (.slice a' L c')) w') :
    if Region.wanted o (yielded ops a.tmps) = true then Oper.wp Try.prog o a w K Q else E := by
  subst hL
  have hw : Region.wanted o (yielded ops a.tmps) = true := by simp [Region.wanted, hgd]
  rw [if_pos hw]
  exact wp_app_intsM m w v u xs ys s x ho hs hown hx hu hn hm h

/-- x put in at place k. -/
def insK (p : List Int) (k : Nat) (x : Int) : List Int := p.take k ++ [x] ++ p.drop k
theorem insK_length (p : List Int) (k : Nat) (x : Int) (h : k ≤ p.length) : (insK p k x).length = p.length + 1 := by
  simp [insK]; omega
theorem insK_perm {p : List Int} {k : Nat} {n : Nat} (hk : k ≤ n) (h : Permuted p) (hl : p.length = n) : Permuted (insK p k n) := by
  have hp : (insK p k (n : Int)).Perm ((n : Int) :: p) := by
    unfold insK
    refine (List.Perm.append_right _ List.perm_append_comm).trans ?_
    simp only [List.cons_append, List.nil_append, List.singleton_append]
    rw [List.take_append_drop]
  refine ⟨hp.nodup_iff.2 (List.nodup_cons.2 ⟨fun hm => ?_, h.1⟩), fun x hx => ?_⟩
  · have := h.2 _ hm; omega
  · rw [insK_length _ _ _ (by omega)]
    rcases List.mem_cons.1 (hp.subset hx) with rfl | hx
    · omega
    · have := h.2 x hx; omega
theorem ints_one (w : World) (x : Int) : Ints (w.alloc (.cells #[.int .i64 x] 2)) (.slice (some ⟨w.heap.size, 0, none⟩) 1 1) [x] :=
  (Own.shut (cs := []) (by simpa using Blk.new w [.int .i64 x] 2) (Nat.le_refl _) (by simp [maxLen]) (by simp) (by simp) : Own w.heap.size _ _ [x]).ints
/-- The front and the rest of a list of the call's own. -/
theorem Own.front {B : Nat} {w : World} {a : Option Addr} {c : Nat} {xs : List Int} (h : Ints w (.slice a xs.length c) xs) (k : Nat) (hk : k ≤ xs.length) : Ints w (.slice a k c) (xs.take k) := by
  obtain ⟨a', c', hv, h1, h2, hc⟩ := h
  injection hv with e1 e2 e3
  subst e1 e3
  refine ⟨a, c, by simp; omega, by simp; omega, h2, fun i hi => ?_⟩
  simp at hi
  obtain ⟨b, o, ha, hcell⟩ := hc i (by omega)
  exact ⟨b, o, ha, by rw [List.getElem_take]; exact hcell⟩
theorem ints_rest {w : World} {b o c : Nat} {xs : List Int} (h : Ints w (.slice (some ⟨b, o, none⟩) xs.length c) xs) (k : Nat) (hk : k ≤ xs.length) {n m : Nat} (hn : n = xs.length - k) (hm : m = c - k) : Ints w (.slice (some ⟨b, o + k, none⟩) n m) (xs.drop k) := by
  obtain ⟨a', c', hv, h1, h2, hc⟩ := h
  injection hv with e1 e2 e3
  subst e1 e3 hn hm
  refine ⟨some ⟨b, o + k, none⟩, c - k, by simp, by simp; omega, by omega, fun i hi => ?_⟩
  simp at hi
  obtain ⟨b', o', ha, hcell⟩ := hc (k + i) (by omega)
  injection ha with ha; injection ha with ha1 ha2; subst ha1 ha2
  exact ⟨b, o + k, rfl, by rw [List.getElem_drop, Nat.add_assoc]; exact hcell⟩

theorem ints_keep1 {S : Nat → Prop} {w w' : World} {g : Nat} {x : Int} (h : Blk w g 2 [.int .i64 x]) (k : Keep S w w') (hg : ¬ S g) : Ints w' (.slice (some ⟨g, 0, none⟩) 1 1) [x] :=
  (Own.shut (cs := []) (by simpa using h.of_block (k.block g h.lt hg)) (Nat.le_refl _) (by simp [maxLen]) (by simp) (by simp) : Own g w' _ [x]).ints
theorem below_keepP {m : Nat} {w w1 w2 : World} {v : Value} (h : Below m w w1) (k : Keep (fun b => v.ownBlock = some b) w1 w2) (hm : m ≤ w.heap.size) (hv : ∀ b, v.ownBlock = some b → m ≤ b) : Below m w w2 :=
  h.trans (k.below fun x hx => ⟨by have := h.size; omega, fun e => by have := hv x e; omega⟩)
theorem Own.blk_ge {m : Nat} {w : World} {v : Value} {xs : List Int} (h : Own m w v xs) : ∀ b, v.ownBlock = some b → m ≤ b := fun b e => (h.lt e).1

set_option maxRecDepth 100000 in
set_option maxHeartbeats 4000000 in
theorem c_perm5 (b n : Nat) (w : World) (hs : Dice w b) (h2 : n ≤ 1000) :
    Calls Try.prog 50 #[.pointer (some ⟨b, 0, none⟩), .int .i64 n] w (fun e w' => ∃ (r : Value) (q : List Int), e = .returned r ∧ q.length = n ∧ Permuted q ∧ Own w.heap.size w' r q ∧ Rolled b w w') := by
  have hbl := hs.lt
  have hbel : Below w.heap.size w (w.alloc (.cells #[] 2)) := (Below.refl _ _).alloc (Nat.le_refl _) _
  have HD0 := Lib.hid ((Rolled.refl hs).under hbel)
  have HO0 := Lib.hid (Own.made0 w (Nat.le_refl w.heap.size))
  clear hs hbel
  go_enter Try.func50, Try.ntmps50
  go_wp2
  go_loopw [5, 6] (fun p x wr => ∃ (k : Nat) (q : List Int) (gp pc : Nat), k ≤ n ∧ x = .int .i64 k ∧ p = .slice (some ⟨gp, 0, none⟩) k pc ∧ Hid (q.length = k ∧ Permuted q) ∧ Hid (Own w.heap.size wr (.slice (some ⟨gp, 0, none⟩) k pc) q) ∧ Hid (Rolled b w wr)) (fun _ x _ => n - (intOf x).toNat)
  case atStart => exact ⟨0, [], _, _, Nat.zero_le _, rfl, rfl, Lib.hid ⟨rfl, by decide⟩, HO0, HD0⟩
  case round =>
    clear HO0 HD0
    obtain ⟨k, q, gp, pc, hk, rfl, rfl, HQ, HO, HD⟩ := hrel
    obtain ⟨wo, rfl⟩ : ∃ wo : World, wo = wr := ⟨_, rfl⟩
    by_cases hlt : k < n
    · go_wp2_with fail
      refine (c_below b ((k : Int) + 1) _ HD.out.1 (by omega) (by omega)).mono ?_; rintro e w2 ⟨z, rfl, z0, z1, hd⟩
      obtain ⟨j, rfl⟩ : ∃ j : Nat, z = j := ⟨z.toNat, by omega⟩
      have hjk : j ≤ k := by omega
      have HD2 := Lib.hid (HD.out.trans hd)
      have HO2 := Lib.hid (hd.own HO.out hbl)
      have hw2 := HD2.out.2.size
      clear hd HO HD
      have hql := HQ.out.1
      have hI := HO2.out.ints
      obtain ⟨_, _, hv, hkc, hcm, -⟩ := hI
      injection hv with e1 e2 e3
      subst e1 e3
      clear e2
      rw [hql] at hkc
      have hkc' : (k : Int) ≤ (pc : Int) := by omega
      have hjc : (j : Int) ≤ (pc : Int) := by omega
      have hjk' : (j : Int) ≤ (k : Int) := by omega
      have hIq : Ints w2 (.slice (some ⟨gp, 0, none⟩) q.length pc) q := by rw [hql]; exact HO2.out.ints
      have hFr : Ints w2 (.slice (some ⟨gp, 0, none⟩) j pc) (q.take j) := Own.front (B := 0) hIq j (by omega)
      have hRe : Ints w2 (.slice (some ⟨gp, 0 + j, none⟩) (k - j) (pc - j)) (q.drop j) := ints_rest hIq j (by omega) (by omega) rfl
      rw [Nat.zero_add] at hRe
      have HFr := Lib.hid hFr; have HRe := Lib.hid hRe
      have hgl := (HO2.out.lt (k := gp) rfl).2
      clear hIq hFr hRe
      have Ba : Below w2.heap.size w2 ((w2.alloc (.cells #[] 2)).alloc (.cells #[.int .i64 k] 2)).drew := (((Below.refl _ _).alloc (Nat.le_refl _) _).alloc (by simp) _).drew
      have Bb : Below w2.heap.size w2 ((w2.alloc (.cells #[.int .i64 k] 2)).alloc (.cells #[] 2)).drew := (((Below.refl _ _).alloc (Nat.le_refl _) _).alloc (by simp) _).drew
      have Bc : Below w2.heap.size w2 (w2.alloc (.cells #[] 2)).drew := ((Below.refl _ _).alloc (Nat.le_refl _) _).drew
      have HOc : Hid (Own w2.heap.size (w2.alloc (.cells #[] 2)).drew (.slice (some ⟨w2.heap.size, 0, none⟩) 0 0) []) := Lib.hid ((Own.made0 w2 (Nat.le_refl _)).under (Below.refl _ _).drew)
      have HOa : Hid (Own w2.heap.size ((w2.alloc (.cells #[] 2)).alloc (.cells #[.int .i64 k] 2)).drew (.slice (some ⟨w2.heap.size, 0, none⟩) 0 0) []) := Lib.hid ((Own.made0 w2 (Nat.le_refl _)).under (((Below.refl _ _).alloc (Nat.le_refl _) _).drew))
      have HOb : Hid (Own w2.heap.size ((w2.alloc (.cells #[.int .i64 k] 2)).alloc (.cells #[] 2)).drew (.slice (some ⟨w2.heap.size + 1, 0, none⟩) 0 0) []) := Lib.hid (by
        have := (Own.made0 (B := w2.heap.size) (w2.alloc (.cells #[.int .i64 k] 2)) (by simp)).under (Below.refl _ _).drew
        simpa using this)
      have HA1a : Hid (Blk ((w2.alloc (.cells #[] 2)).alloc (.cells #[.int .i64 k] 2)).drew (w2.heap.size + 1) 2 [.int .i64 k]) := Lib.hid (by
        have := (Blk.new (w2.alloc (.cells #[] 2)) [.int .i64 k] 2).drew
        simpa using this)
      have HA1b : Hid (Blk ((w2.alloc (.cells #[.int .i64 k] 2)).alloc (.cells #[] 2)).drew w2.heap.size 2 [.int .i64 k]) := Lib.hid ((Blk.new w2 [.int .i64 k] 2).alloc _).drew
      have hq1 : (q.take j).length = j := by simp; omega
      have hq2 : (q.drop j).length = k - j := by simp; omega
      have HQ1 := Lib.hid hq1; have HQ2 := Lib.hid hq2
      have HFa := Lib.hid (HFr.out.below Ba); have HFb := Lib.hid (HFr.out.below Bb); have HFc := Lib.hid (HFr.out.below Bc)
      by_cases hpj : pc = j
      · have hjk2 : j = k := by omega
        subst hjk2
        subst hpj
        have hq0 : q.drop pc = [] := List.drop_eq_nil_of_le (by rw [hql]; exact Nat.le_refl _)
        have HRe : Hid (Ints w2 (.slice (some ⟨gp, 0, none⟩) 0 0) (q.drop pc)) := Lib.hid (by
          rw [hq0]
          exact ⟨some ⟨gp, 0, none⟩, 0, rfl, Nat.le_refl _, by decide, fun i hi => absurd hi (by simp)⟩)
        clear hq0
        clear hql hq1 hq2
        go_wp2
        go_region_law (first
          | (refine step_app_intsM w2.heap.size _ _ _ [] (q.take pc) pc (by rw [HQ1.out]; simp) (.tmp 18) (.tmp 21) rfl rfl rfl (by first | exact HOa.out | exact HOb.out | exact HOc.out) rfl (by first | exact HFa.out | exact HFb.out | exact HFc.out) (by omega) (by first | exact Ba.size | exact Bb.size | exact Bc.size) ?_
             intro a1 c1 w3 hown1 hk1
             have HW1 := Lib.hid hown1
             first
              | (have BB := Lib.hid (below_keepP Ba hk1 (Nat.le_refl _) HOa.out.blk_ge); have HX1 := Lib.hid (ints_keep1 (S := fun b => (Value.slice (some ⟨w2.heap.size, 0, none⟩) 0 0).ownBlock = some b) HA1a.out hk1 (by simp [Value.ownBlock])))
              | (have BB := Lib.hid (below_keepP Bb hk1 (Nat.le_refl _) HOb.out.blk_ge); have HX1 := Lib.hid (ints_keep1 (S := fun b => (Value.slice (some ⟨w2.heap.size + 1, 0, none⟩) 0 0).ownBlock = some b) HA1b.out hk1 (by simp [Value.ownBlock])))
              | (have BB := Lib.hid (below_keepP Bc hk1 (Nat.le_refl _) HOc.out.blk_ge); have HX1 := Lib.hid (ints_one w3 (pc : Int)); have HW1b := Lib.hid (hown1.under ((Below.refl w3.heap.size w3).alloc (Nat.le_refl _) (.cells #[.int .i64 pc] 2))); have BBb := Lib.hid (BB.out.alloc BB.out.size (.cells #[.int .i64 pc] 2)))
             clear hown1 hk1)
          | (refine step_app_intsM w2.heap.size _ _ _ ([] ++ q.take pc) [(pc : Int)] (pc + 1) (by have h := HQ1.out; simp only [List.length_append, List.length_nil, List.length_singleton]; omega) (.tmp 22) (.tmp 24) rfl rfl rfl (by first | exact HW1b.out | exact HW1.out) rfl (by exact HX1.out) (by omega) (by first | exact BBb.out.size | exact BB.out.size) ?_
             intro a2 c2 w4 hown2 hk2
             have HW2 := Lib.hid hown2
             first
              | (have BB2 := Lib.hid (below_keepP (v := .slice a1 pc c1) BBb.out hk2 (Nat.le_refl _) HW1.out.blk_ge))
              | (have BB2 := Lib.hid (below_keepP (v := .slice a1 pc c1) BB.out hk2 (Nat.le_refl _) HW1.out.blk_ge))
             clear hown2 hk2)
          | (refine step_app_intsM w2.heap.size _ _ _ ([] ++ q.take pc ++ [(pc : Int)]) (q.drop pc) (pc + 1) (by have h := HQ1.out; have h' := HQ2.out; simp only [List.length_append, List.length_nil, List.length_singleton]; omega) (.tmp 25) (.tmp 28) rfl rfl rfl HW2.out rfl (HRe.out.below BB2.out) (by omega) BB2.out.size ?_
             intro a3 c3 w5 hown3 hk3
             have BB3 := Lib.hid (below_keepP (v := .slice a2 (pc + 1) c2) BB2.out hk3 (Nat.le_refl _) HW2.out.blk_ge)
             rcases hown3.open with ⟨_, h0⟩ | ⟨g3, cs3, hv3, _, _, _⟩
             · exact absurd (congrArg List.length h0) (by simp)
             injection hv3 with f1 f2 f3
             subst f1
             clear f2 f3
             have HW3 : Hid (Own w2.heap.size w5 (.slice (some ⟨g3, 0, none⟩) (pc + 1) c3) (insK q pc pc)) := Lib.hid (by simpa [insK] using hown3)
             clear hown3 hk3))
        all_goals
          go_wp2
          go_roundw
          case rel => exact ⟨pc + 1, insK q pc pc, g3, c3, by omega, by go_num, rfl, Lib.hid ⟨by rw [insK_length _ _ _ (by rw [HQ.out.1]; exact Nat.le_refl _), HQ.out.1], insK_perm (Nat.le_refl _) HQ.out.2 HQ.out.1⟩, Lib.hid (HW3.out.mono hw2), Lib.hid (HD2.out.under BB3.out)⟩
          case measure => simp [intOf]; omega
      have hpj' : ¬ (pc - j = 0) := by omega
      clear hql hq1 hq2
      go_wp2
      go_region_law (first
        | (refine step_app_intsM w2.heap.size _ _ _ [] (q.take j) j (by rw [HQ1.out]; simp) (.tmp 18) (.tmp 21) rfl rfl rfl (by first | exact HOa.out | exact HOb.out | exact HOc.out) rfl (by first | exact HFa.out | exact HFb.out | exact HFc.out) (by omega) (by first | exact Ba.size | exact Bb.size | exact Bc.size) ?_
           intro a1 c1 w3 hown1 hk1
           have HW1 := Lib.hid hown1
           first
            | (have BB := Lib.hid (below_keepP Ba hk1 (Nat.le_refl _) HOa.out.blk_ge); have HX1 := Lib.hid (ints_keep1 (S := fun b => (Value.slice (some ⟨w2.heap.size, 0, none⟩) 0 0).ownBlock = some b) HA1a.out hk1 (by simp [Value.ownBlock])))
            | (have BB := Lib.hid (below_keepP Bb hk1 (Nat.le_refl _) HOb.out.blk_ge); have HX1 := Lib.hid (ints_keep1 (S := fun b => (Value.slice (some ⟨w2.heap.size + 1, 0, none⟩) 0 0).ownBlock = some b) HA1b.out hk1 (by simp [Value.ownBlock])))
            | (have BB := Lib.hid (below_keepP Bc hk1 (Nat.le_refl _) HOc.out.blk_ge); have HX1 := Lib.hid (ints_one w3 (k : Int)); have HW1b := Lib.hid (hown1.under ((Below.refl w3.heap.size w3).alloc (Nat.le_refl _) (.cells #[.int .i64 k] 2))); have BBb := Lib.hid (BB.out.alloc BB.out.size (.cells #[.int .i64 k] 2)))
           clear hown1 hk1)
        | (refine step_app_intsM w2.heap.size _ _ _ ([] ++ q.take j) [(k : Int)] (j + 1) (by have h := HQ1.out; simp only [List.length_append, List.length_nil, List.length_singleton]; omega) (.tmp 22) (.tmp 24) rfl rfl rfl (by first | exact HW1b.out | exact HW1.out) rfl (by exact HX1.out) (by omega) (by first | exact BBb.out.size | exact BB.out.size) ?_
           intro a2 c2 w4 hown2 hk2
           have HW2 := Lib.hid hown2
           first
            | (have BB2 := Lib.hid (below_keepP (v := .slice a1 j c1) BBb.out hk2 (Nat.le_refl _) HW1.out.blk_ge))
            | (have BB2 := Lib.hid (below_keepP (v := .slice a1 j c1) BB.out hk2 (Nat.le_refl _) HW1.out.blk_ge))
           clear hown2 hk2)
        | (refine step_app_intsM w2.heap.size _ _ _ ([] ++ q.take j ++ [(k : Int)]) (q.drop j) (k + 1) (by have h := HQ1.out; have h' := HQ2.out; simp only [List.length_append, List.length_nil, List.length_singleton]; omega) (.tmp 25) (.tmp 28) rfl rfl rfl HW2.out rfl (HRe.out.below BB2.out) (by omega) BB2.out.size ?_
           intro a3 c3 w5 hown3 hk3
           have BB3 := Lib.hid (below_keepP (v := .slice a2 (j + 1) c2) BB2.out hk3 (Nat.le_refl _) HW2.out.blk_ge)
           rcases hown3.open with ⟨_, h0⟩ | ⟨g3, cs3, hv3, _, _, _⟩
           · exact absurd (congrArg List.length h0) (by simp)
           injection hv3 with f1 f2 f3
           subst f1
           clear f2 f3
           have HW3 : Hid (Own w2.heap.size w5 (.slice (some ⟨g3, 0, none⟩) (k + 1) c3) (insK q j k)) := Lib.hid (by simpa [insK] using hown3)
           clear hown3 hk3))
      all_goals
        go_wp2
        go_roundw
        case rel => exact ⟨k + 1, insK q j k, g3, c3, by omega, by go_num, rfl, Lib.hid ⟨by rw [insK_length _ _ _ (by rw [HQ.out.1]; exact hjk), HQ.out.1], insK_perm hjk HQ.out.2 HQ.out.1⟩, Lib.hid (HW3.out.mono hw2), Lib.hid (HD2.out.under BB3.out)⟩
        case measure => simp [intOf]; omega
    · obtain rfl : n = k := by omega
      go_wp2
      go_ret
      exact ⟨_, q, rfl, HQ.out.1, HQ.out.2, HO.out, HD.out⟩
end Go.Proofs.Ytkcobfkmeaakoaa

namespace Go.Proofs.Ytkcobfkmeaakoaa
open Go.ChangeShapes Go.WideShapes Go.ChangeAt Go.RowKit

theorem own_knob : ownKnob Try.prog.godebug = none := by kernel_rfl
theorem laid_out : laidOutB Try.prog = true := by kernel_rfl
theorem cells_int64 : Try.prog.cellsOf 2 = 1 := by kernel_rfl
theorem cells_ints : Try.prog.cellsOf 25 = 1 := by kernel_rfl

section
variable {H : Type} {enc : TypeId × Value → H} {w : World} {base : Nat} {spare : Nat → Bool} {held : Bool}

theorem ints_of_trod {fuel : Nat} {u : Value} {x : DataW H × List MemPlace} (h : DataW.trod enc Try.prog w base spare held fuel 25 [u] = some x) : ∃ xs, Ints w u xs := by
  rcases open_ints Try.underlying25 Try.underlying2 cells_int64 h with ⟨hcs, _⟩ | ⟨a, len, cap, zs, hcs, _, hl, hm, hz, _, hcell, _⟩
  · simp at hcs; subst hcs
    exact ⟨[], Ints.nil w⟩
  · simp at hcs; subst hcs
    have hge : len ≤ zs.length := by rw [hz]; split <;> omega
    have hlen : (zs.take len).length = len := by simp; omega
    refine ⟨zs.take len, some a, cap, by rw [hlen], by rw [hlen]; exact hl, hm, fun i hi => ?_⟩
    have hi' : i < zs.length := by omega
    obtain ⟨b, off, rfl, hc⟩ := ints_at hcell (by omega)
    refine ⟨b, off, rfl, ?_⟩
    rw [hc i hi']
    simp [hi']

theorem rows_of_trod {fuel : Nat} {u : Value} {x : DataW H × List MemPlace} (h : DataW.trod enc Try.prog w base spare held fuel 22 [u] = some x) : ∃ xss, Rows w u xss := by
  rcases Deep.open_slice1 Try.underlying22 cells_ints h with ⟨hcs, _⟩ | ⟨a, len, cap, m, n, V, D, Pl, hcs, _, hl, hm, hmm, _, hx⟩
  · simp at hcs; subst hcs
    exact ⟨[], Rows.nil w⟩
  · simp at hcs; subst hcs
    have hge : len ≤ m := by rw [hmm]; split <;> omega
    have each : ∀ i, i < len → ∃ xs, Ints w (V i) xs := fun i hi => ints_of_trod (hx i (by omega)).2
    obtain ⟨Z, hZ⟩ := Deep.choose_lt each
    refine ⟨(List.range len).map Z, some a, cap, by simp, by simpa using hl, hm, fun i hi => ?_⟩
    have hi' : i < len := by simpa using hi
    have h0 := (hx 0 (by omega)).1
    obtain ⟨b, off, spot⟩ := a
    have hspot : spot = none := by simpa [Addr.add] using World.cell?_spot h0
    subst hspot
    refine ⟨b, off, V i, rfl, ?_, ?_⟩
    · have := (hx i (by omega)).1
      rwa [Go.WideShapes.add_plain] at this
    · simpa using hZ i hi'

end
end Go.Proofs.Ytkcobfkmeaakoaa

namespace Go.Proofs.Ytkcobfkmeaakoaa
open Go.RowKit

def pmCodeN (A B : List (List Int)) : Int := if isPM A B then 0 else 1
def ndRes (A B : List (List Int)) : Bool := if isPM A B then nondegL A B else false
set_option maxHeartbeats 800000 in
theorem c_IsNondegenerate (v0 u0 : Value) (A B : List (List Int)) (w : World) (hA : Sol w v0 u0 A B) :
    Calls Try.prog 34 #[.agg #[v0, u0]] w (RVal w (.tuple #[.bool (ndRes A B), .int .i64 (pmCodeN A B)])) := by
  obtain ⟨a0, c0, rfl, _, _⟩ := hA.1.shape
  obtain ⟨a0s, c0s, rfl, _, _⟩ := hA.2.shape
  by_cases hp0 : isPM A B = true
  case neg =>
    have hq0 : isPM A B = false := by simpa using hp0
    have HQ := Lib.hid hq0; clear hp0
    go_enter Try.func34, Try.ntmps34
    go_wp2_with fail
    obtain ⟨f0, hW0, hsz⟩ := boxes1 w [.slice a0 A.length c0, .slice a0s B.length c0s] 27
    obtain ⟨W0, hW⟩ : ∃ W, (w.alloc (.cells #[.slice a0 A.length c0, .slice a0s B.length c0s] 27)) = W := ⟨_, rfl⟩
    rw [hW] at f0 hW0 hsz ⊢
    clear hW hsz
    refine (c_IsPairMap _ _ _ _ _ (hA.below hW0)).mono ?_; rintro e g0 ⟨rfl, hbg0⟩
    have hB0 := bb hW0 hbg0
    replace f0 := f0.under hbg0
    obtain ⟨cA0, cB0, -, -⟩ := two_cells f0
    clear hbg0
    have HB := Lib.hid hB0
    clear hB0 f0 hW0 hA
    go_wp2
    go_ret2
    exact ⟨by simp [ndRes, pmCodeN, HQ.out], HB.out⟩
  have HP0 := Lib.hid hp0
  go_enter Try.func34, Try.ntmps34
  go_wp2_with fail
  obtain ⟨f0, hW0, hsz⟩ := boxes1 w [.slice a0 A.length c0, .slice a0s B.length c0s] 27
  obtain ⟨W0, hW⟩ : ∃ W, (w.alloc (.cells #[.slice a0 A.length c0, .slice a0s B.length c0s] 27)) = W := ⟨_, rfl⟩
  rw [hW] at f0 hW0 hsz ⊢
  clear hW hsz
  refine (c_IsPairMap _ _ _ _ _ (hA.below hW0)).mono ?_; rintro e g0 ⟨rfl, hbg0⟩
  have hB0 := bb hW0 hbg0
  replace f0 := f0.under hbg0
  obtain ⟨cA0, cB0, -, -⟩ := two_cells f0
  clear hbg0
  go_wp2_with fail
  refine (c_isNondegenerate _ _ _ _ _ (hA.below hB0) HP0.out).mono ?_; rintro e wz ⟨rfl, hb⟩
  have HB := Lib.hid (bb hB0 hb)
  clear hb hB0 f0 hW0 hA
  go_wp2
  go_ret2
  exact ⟨by simp [ndRes, pmCodeN, HP0.out], HB.out⟩
end Go.Proofs.Ytkcobfkmeaakoaa

namespace Go.Proofs.Ytkcobfkmeaakoaa
open Go.RowKit

def flN (n : Int) : List Int := iota n.toNat
def flA (n : Int) : List (List Int) := if inR n 1 12 then twA (flN n) else []
def flB (n : Int) : List (List Int) := if inR n 1 12 then twB (flN n) (flN n) else []
def flCode (n : Int) : Int := if inR n 1 12 then 0 else 2

set_option maxHeartbeats 400000 in
theorem c_l02Flip (n : Nat) (w : World) (hn : n ≤ 1048576) :
    Calls Try.prog 196 #[.int .i64 n] w (RSolR w (twA (iota n)) (twB (iota n) (iota n))) := by
  obtain ⟨f0, hW0, hsz⟩ := boxes1 w [.slice none 0 0, .slice none 0 0] 27
  have HF := Lib.hid f0; have HW := Lib.hid hW0; clear f0 hW0
  go_enter Try.func196, Try.ntmps196
  go_wp2_with fail
  refine (c_l01Unit n _ hn).mono ?_; rintro e w1 ⟨r1, rfl, ho1, hb1⟩
  have HO := Lib.hid ho1; have HB1 := Lib.hid hb1; clear ho1 hb1
  go_wp2_with fail
  refine (c_l02Twist _ _ (iota n) (iota n) _ HO.out.ints HO.out.ints rfl (by rw [iota_length]; exact hn)).mono ?_; rintro e w2 ⟨s1, s2, rfl, hs, hb2⟩
  obtain ⟨a1, c1, rfl, _⟩ := OwnRows.shape' hs.1
  obtain ⟨a2, c2, rfl, _⟩ := OwnRows.shape' hs.2
  obtain ⟨g0, g1, g2, g3⟩ := two_cells ((HF.out.under HB1.out).under hb2)
  have HS := Lib.hid hs; have HB2 := Lib.hid hb2; have HZ := Lib.hid hsz; clear hs hb2 hsz
  go_wp2
  have hz := HZ.out
  have hs1 : (w.alloc (.cells #[.slice none 0 0, .slice none 0 0] 27)).heap.size ≤ w1.heap.size := HB1.out.size
  refine bodyPost_ret (v := .agg #[.slice a1 (twA (iota n)).length c1, .slice a2 (twB (iota n) (iota n)).length c2]) (by simp [results, Try.results196, go_sem, g0, g1]) rfl ⟨_, _, rfl, ⟨?_, ?_⟩, ((bb (bb HW.out HB1.out) HB2.out).setCell (p := ⟨w.heap.size, 0, none⟩) (Nat.le_refl _) _).setCell (p := ⟨w.heap.size, 1, none⟩) (Nat.le_refl _) _⟩
  · exact ((HS.out.1.keep (keep1 _ w.heap.size 0 _) (fun b h1 h2 h3 => by have h3 : b = w.heap.size := h3; omega)).keep (keep1 _ w.heap.size 1 _) (fun b h1 h2 h3 => by have h3 : b = w.heap.size := h3; omega)).mono (by omega)
  · exact ((HS.out.2.keep (keep1 _ w.heap.size 0 _) (fun b h1 h2 h3 => by have h3 : b = w.heap.size := h3; omega)).keep (keep1 _ w.heap.size 1 _) (fun b h1 h2 h3 => by have h3 : b = w.heap.size := h3; omega)).mono (by omega)

set_option maxHeartbeats 400000 in
theorem c_FlipSolution (n : Int) (w : World) (hlo : -9223372036854775808 ≤ n) (hhi : n ≤ 9223372036854775807) :
    Calls Try.prog 36 #[.int .i64 n] w (RSolC w (flA n) (flB n) (flCode n)) := by
  obtain ⟨f0, hW0, hsz⟩ := boxes1 w [.slice none 0 0, .slice none 0 0] 27
  have HF := Lib.hid f0; have HW := Lib.hid hW0; have HZ := Lib.hid hsz; clear f0 hW0 hsz
  by_cases h : inR n 1 12 = true
  · have HN := Lib.hid h
    obtain ⟨m, rfl⟩ : ∃ m : Nat, n = m := ⟨n.toNat, by simp [inR] at h; omega⟩
    have hm : m ≤ 1048576 := by simp [inR] at h; omega
    go_enter Try.func36, Try.ntmps36
    go_wp2_with fail
    refine (c_within _ _ _ _).mono ?_; rintro e w' ⟨rfl, rfl⟩
    clear h
    have h := HN.out
    go_wp2_with fail
    refine (c_identity m _ hm).mono ?_; rintro e w1 ⟨r1, rfl, ho1, hb1⟩
    have HO1 := Lib.hid ho1; have HB1 := Lib.hid hb1; clear ho1 hb1
    go_wp2_with fail
    refine (c_identity m _ hm).mono ?_; rintro e w2 ⟨r2, rfl, ho2, hb2⟩
    have HO2 := Lib.hid ho2; have HB2 := Lib.hid hb2; clear ho2 hb2
    go_wp2_with fail
    refine (c_twist _ _ (iota m) (iota m) _ (HO1.out.ints.below HB2.out) HO2.out.ints rfl (by rw [iota_length]; exact hm)).mono ?_; rintro e w3 ⟨s1, s2, rfl, hs, hb3⟩
    obtain ⟨a1, c1, rfl, _, _⟩ := hs.sol.1.shape
    obtain ⟨a2, c2, rfl, _, _⟩ := hs.sol.2.shape
    obtain ⟨g0, g1, g2, g3⟩ := two_cells (((HF.out.under HB1.out).under HB2.out).under hb3)
    have HS := Lib.hid hs; have HB3 := Lib.hid hb3; clear hs hb3
    go_wp2
    have hz := HZ.out
    have hs1 := HB1.out.size
    have hs2 := HB2.out.size
    obtain ⟨hA, hB⟩ := stored (q := w.heap.size) (bb (bb (bb HW.out HB1.out) HB2.out) HB3.out) HS.out (Nat.le_refl _) (by omega)
    refine bodyPost_ret (v := .tuple #[.agg #[.slice a1 (twA (iota m)).length c1, .slice a2 (twB (iota m) (iota m)).length c2], .int .i64 0]) (by simp [results, Try.results36, go_sem, g0, g1]) rfl ⟨.slice a1 (twA (iota m)).length c1, .slice a2 (twB (iota m) (iota m)).length c2, by simp [flCode, HN.out], ?_, hB⟩
    have e1 : flA m = twA (iota m) := by simp [flA, flN, HN.out]
    have e2 : flB m = twB (iota m) (iota m) := by simp [flB, flN, HN.out]
    rw [e1, e2]
    exact hA
  · have h' : inR n 1 12 = false := by simpa using h
    have HN := Lib.hid h'
    clear h
    go_enter Try.func36, Try.ntmps36
    go_wp2_with fail
    refine (c_within _ _ _ _).mono ?_; rintro e w' ⟨rfl, rfl⟩
    clear h'
    have h' := HN.out
    obtain ⟨g0, g1, g2, g3⟩ := two_cells HF.out
    go_wp2
    refine bodyPost_ret (v := .tuple #[.agg #[.slice none 0 0, .slice none 0 0], .int .i64 2]) (by simp [results, Try.results36, go_sem, g0, g1]) rfl ⟨.slice none 0 0, .slice none 0 0, by simp [flCode, HN.out], ?_, ?_⟩
    · rw [show flA n = [] from by simp [flA, HN.out], show flB n = [] from by simp [flB, HN.out]]
      exact OwnSol.nil0 (by simp [World.setCell])
    · first | exact HW.out | exact (HW.out.setCell (p := ⟨w.heap.size, 0, none⟩) (Nat.le_refl _) _).setCell (p := ⟨w.heap.size, 1, none⟩) (Nat.le_refl _) _

theorem fl_total (n : Int) : total (flA n) ≤ 144 ∧ total (flB n) ≤ 144 := by
  unfold flA flB
  split
  · rename_i h
    have hl : (flN n).length ≤ 12 := by simp [inR] at h; simp [flN]; omega
    have h1 := total_le _ (tab_rows (g := fun _ y => nth (flN n) y) hl)
    have h2 := total_le _ (tab_rows (g := fun x _ => nth (flN n) x) hl)
    rw [tabOf_length] at h1 h2
    unfold twA twB
    omega
  · simp [total]

end Go.Proofs.Ytkcobfkmeaakoaa

namespace Go.Proofs.Ytkcobfkmeaakoaa
open Go.RowKit

theorem isPerm_in {xs : List Int} (h : isPerm xs = true) : (∀ x ∈ xs, 0 ≤ x ∧ x < xs.length) ∧ xs.length ≤ 1048576 := by
  simp [isPerm, inR] at h; exact ⟨h.2.2, by omega⟩

def invRes (xs : List Int) : List Int := if isPerm xs then invL xs else []
def invCode (xs : List Int) : Int := if isPerm xs then 0 else 1
theorem invRes_length (xs : List Int) : (invRes xs).length ≤ xs.length := by unfold invRes; split <;> simp


set_option maxHeartbeats 400000 in
theorem c_InversePermutation (v : Value) (xs : List Int) (w : World) (hx : Ints w v xs) :
    Calls Try.prog 32 #[v] w (RIntsC w (invRes xs) (invCode xs)) := by
  by_cases hp : isPerm xs = true
  · have HP := Lib.hid hp
    obtain ⟨h1, h2⟩ := isPerm_in hp
    have HR := Lib.hid h1; clear h1
    go_enter Try.func32, Try.ntmps32
    go_wp2_with fail
    refine (c_IsPermutation _ _ _ hx).mono ?_; rintro e w1 ⟨rfl, hb1⟩
    go_wp2_with fail
    refine (c_inverse _ _ _ (hx.below hb1) HR.out h2).mono ?_; rintro e w' ⟨r, rfl, ho, hb⟩
    have HB := Lib.hid (bb hb1 hb); have HO := Lib.hid (ho.mono hb1.size); clear hb ho hp hb1
    go_wp2
    go_ret2
    exact ⟨r, by simp [invCode, HP.out], by simpa [invRes, HP.out] using HO.out, HB.out⟩
  · have hp' : isPerm xs = false := by simpa using hp
    have HP := Lib.hid hp'
    clear hp
    go_enter Try.func32, Try.ntmps32
    go_wp2_with fail
    refine (c_IsPermutation _ _ _ hx).mono ?_; rintro e w1 ⟨rfl, hb1⟩
    have HB := Lib.hid hb1; clear hb1
    go_wp2
    go_ret2
    exact ⟨.slice none 0 0, by simp [invCode, HP.out], by simpa [invRes, HP.out] using Own.nil _ _, HB.out⟩

end Go.Proofs.Ytkcobfkmeaakoaa

namespace Go.Proofs.Ytkcobfkmeaakoaa
open Go Go.RowKit Go.ChangeShapes Go.WideShapes Go.ChangeAt

section
variable {H : Type} {enc : TypeId × Value → H} {w : World} {base : Nat} {spare : Nat → Bool} {held : Bool}
theorem cells_u8 : Try.prog.cellsOf 5 = 1 := by kernel_rfl
theorem bytes_of_trod {fuel : Nat} {u : Value} {x : DataW H × List MemPlace} (h : DataW.trod enc Try.prog w base spare held fuel 39 [u] = some x) : ∃ bs, Bytes w u bs := by
  rcases open_ints Try.underlying39 Try.underlying5 cells_u8 h with ⟨hcs, _⟩ | ⟨a, len, cap, zs, hcs, _, hl, hm, hz, _, hcell, hwf⟩
  · simp at hcs; subst hcs
    exact ⟨[], none, 0, rfl, Nat.le_refl _, by decide, fun i hi => absurd hi (by simp)⟩
  · simp at hcs; subst hcs
    have hge : len ≤ zs.length := by rw [hz]; split <;> omega
    have hlen : (zs.take len).length = len := by simp; omega
    refine ⟨zs.take len, some a, cap, by rw [hlen], by rw [hlen]; exact hl, hm, fun i hi => ?_⟩
    have hi' : i < zs.length := by omega
    obtain ⟨b, off, rfl, hc⟩ := ints_at hcell (by omega)
    have hr := hwf (zs.getD i 0) (by simp [List.getD, hi'])
    have hci := hc i hi'
    generalize zs.getD i 0 = z at hr hci
    simp [Lit.wf, IntKind.min, IntKind.max, IntKind.signed, IntKind.bits] at hr
    exact ⟨b, off, z, rfl, hci, by omega, by omega⟩
end

structure TwF (w W : World) (v1 v2 : Value) (p q : List Int) (sb : Nat) (r1 r2 : Value) (A B : List (List Int)) : Prop where
  hp : Ints W v1 p
  hq : Ints W v2 q
  hs : Blk W sb 27 [r1, r2]
  hsol : Sol W r1 r2 A B
  hb : Below w.heap.size w W
theorem TwF.under {w W W' : World} {v1 v2 : Value} {p q : List Int} {sb : Nat} {r1 r2 : Value} {A B : List (List Int)} (h : TwF w W v1 v2 p q sb r1 r2 A B) (k : Below W.heap.size W W') : TwF w W' v1 v2 p q sb r1 r2 A B :=
  ⟨h.hp.below k, h.hq.below k, h.hs.under k, h.hsol.below k, h.hb.trans (k.mono h.hb.size)⟩
theorem TwF.new {w W : World} {v1 v2 : Value} {p q : List Int} {sb : Nat} {r1 r2 : Value} {A B : List (List Int)} (h : TwF w W v1 v2 p q sb r1 r2 A B) (o : Obj) : TwF w (W.alloc o) v1 v2 p q sb r1 r2 A B := h.under ((Below.refl _ _).alloc (Nat.le_refl _) o)

theorem tw_cases (p q : List Int) : twCode p q = 2 ∨ (twCode p q = 5 ∧ thenRes p q ≠ thenRes q p) ∨
    (twCode p q = 0 ∧ isPerm p = true ∧ isPerm q = true ∧ q.length = p.length ∧ thenL p q = thenL q p ∧ twRA p q = twA p ∧ twRB p q = twB p q) := by
  by_cases h1 : isPerm p = true
  · by_cases h2 : isPerm q = true
    · by_cases h3 : p.length = q.length
      · by_cases h4 : thenL p q = thenL q p
        · exact .inr (.inr ⟨by simp [twCode, twOk, twCm, h1, h2, h3, h4], h1, h2, h3.symm, h4, by simp [twRA, twOk, twCm, h1, h2, h3, h4], by simp [twRB, twOk, twCm, h1, h2, h3, h4]⟩)
        · refine .inr (.inl ⟨by simp [twCode, twOk, twCm, h1, h2, h3, h4], ?_⟩)
          simp [thenRes, okThen, h1, h2, h3, h4]
      · exact .inl (by simp [twCode, twOk, h3])
    · exact .inl (by simp [twCode, twOk, h2])
  · exact .inl (by simp [twCode, twOk, h1])

theorem inv_perm {p : List Int} (h : isPerm p = true) : isPerm (invL p) = true := by
  obtain ⟨⟨h1, h2⟩, hp⟩ := isPerm_in' h
  have : Permuted (invL p) := by
    rw [permuted_iff]
    intro x x0 x1
    rw [invL_length] at x1
    have := perm_lt hp x0 x1
    rw [← nth_invL hp x0 x1]
    exact nth_mem this.1 (by rw [invL_length]; exact this.2)
  simp [isPerm, inR, this]; omega
theorem iota_perm {n : Nat} (h1 : 1 ≤ n) (h2 : n ≤ 12) : isPerm (iota n) = true := by
  have : Permuted (iota n) := ⟨iota_nodup n, fun x hx => by simpa using (mem_iota n x).1 hx⟩
  simp [isPerm, inR, this]; omega
theorem then_unit {p : List Int} (h : isPerm p = true) : thenRes p (invL p) = iota p.length := by
  have h2 := inv_perm h
  simp only [thenRes, okThen, h, h2, invL_length]
  simpa using then_back (isPerm_in' h).2
theorem flip_unit {n : Nat} (h1 : 1 ≤ n) (h2 : n ≤ 12) : flA n = twA (iota n) ∧ flB n = twB (iota n) (iota n) ∧ flCode n = 0 := by
  have h : inR n 1 12 = true := by simp [inR]; omega
  exact ⟨by simp [flA, flN, h], by simp [flB, flN, h], by simp [flCode, h]⟩
theorem twist_unit {n : Nat} (h1 : 1 ≤ n) (h2 : n ≤ 12) : twRA (iota n) (iota n) = twA (iota n) ∧ twRB (iota n) (iota n) = twB (iota n) (iota n) ∧ twCode (iota n) (iota n) = 0 := by
  have h := iota_perm h1 h2
  exact ⟨by simp [twRA, twOk, twCm, h], by simp [twRB, twOk, twCm, h], by simp [twCode, twOk, twCm, h]⟩
set_option maxRecDepth 100000 in
set_option maxHeartbeats 8000000 in
theorem law_Twists (v : Value) (bs : List Int) (w : World) (hv : Bytes w v bs) : Calls Try.prog 5 #[v] w (RVal w (.bool true)) := by
  have HV : Hid (BytesR w v bs.length) := Lib.hid hv
  obtain ⟨a, c, hva, -⟩ := hv
  subst hva
  go_enter Try.func5, Try.ntmps5
  go_wp2_with fail
  refine (c_big a bs.length c _).mono ?_; rintro e w' ⟨rfl, rfl⟩
  by_cases hbig : 4096 < bs.length
  case pos =>
    have hd : decide (4096 < bs.length) = true := by simpa using hbig
    rw [hd]; clear hd hbig
    go_wp2
    go_ret
    exact ⟨rfl, Below.refl _ _⟩
  have hd : decide (4096 < bs.length) = false := by simpa using hbig
  rw [hd]; clear hd
  go_wp2_with fail
  refine (c_DrawTwist _ bs.length _ HV.out (by omega)).mono ?_; rintro e w1 ⟨v1, v2, p, q, rfl, hp, hq, hpl, hql, hb1⟩
  have HP := Lib.hid hp; have HQ := Lib.hid hq; have HB1 := Lib.hid hb1
  clear hp hq hb1 HV hbig
  go_wp2_with fail
  refine (c_TwistSolution _ p _ q _ HP.out HQ.out).mono ?_; rintro e w2 ⟨r1, r2, rfl, hs2, hb2⟩
  have HF := Lib.hid (TwF.mk (w := w) (W := w2.alloc (.cells #[r1, r2] 27)) (sb := w2.heap.size) ((HP.out.below hb2).below ((Below.refl _ _).alloc (Nat.le_refl _) _)) ((HQ.out.below hb2).below ((Below.refl _ _).alloc (Nat.le_refl _) _)) (Blk.new w2 [r1, r2] 27) (hs2.sol.below ((Below.refl _ _).alloc (Nat.le_refl _) _)) ((HB1.out.trans (hb2.mono HB1.out.size)).alloc (by have := HB1.out.size; have := hb2.size; omega) _))
  clear hs2 hb2
  obtain ⟨ra1, rl1, rc1, hr1⟩ := HF.out.hsol.1.any
  obtain ⟨ra2, rl2, rc2, hr2⟩ := HF.out.hsol.2.any
  subst hr1 hr2
  obtain ⟨cd, hcd⟩ : ∃ cd, twCode p q = cd := ⟨_, rfl⟩
  have hcc : (cd != cd) = false := by simp
  have HCd := Lib.hid hcd
  rw [hcd]
  clear hcd
  go_wp2_with fail
  refine (c_specTwistSolution _ p _ q _ HF.out.hp HF.out.hq).mono ?_; rintro e w3 ⟨t1, t2, rfl, hs3, hb3⟩
  rw [HCd.out]
  obtain ⟨ta1, tl1, tc1, ht1⟩ := hs3.sol.1.any
  obtain ⟨ta2, tl2, tc2, ht2⟩ := hs3.sol.2.any
  subst ht1 ht2
  have HF3 := Lib.hid ((HF.out.under hb3).new (.cells #[.slice ta1 tl1 tc1, .slice ta2 tl2 tc2] 27))
  have HT3 := Lib.hid (hs3.sol.below ((Below.refl _ _).alloc (Nat.le_refl _) (.cells #[.slice ta1 tl1 tc1, .slice ta2 tl2 tc2] 27)))
  have HQ3 := Lib.hid (Blk.new w3 [.slice ta1 tl1 tc1, .slice ta2 tl2 tc2] 27)
  clear hs3 hb3
  obtain ⟨x0, x1, -, -⟩ := two_cells HF3.out.hs
  obtain ⟨y0, y1, -, -⟩ := two_cells HQ3.out
  go_wp2_with fail
  refine (c_likeSolution5 _ _ _ _ _ _ _ _ _ HF3.out.hsol HT3.out).mono ?_; rintro e w4 ⟨rfl, hb4⟩
  rw [show (decide (twRA p q = twRA p q) && decide (twRB p q = twRB p q)) = true from by simp]
  have HF4 := Lib.hid (HF3.out.under hb4)
  clear hb4 x0 x1 y0 y1 hcc
  rcases tw_cases p q with h2 | ⟨h5, hne⟩ | ⟨h0, hip, hiq, hlq, hcom, hRA, hRB⟩
  · have e : cd = 2 := by rw [← HCd.out]; exact h2
    subst e
    clear h2
    go_wp2
    go_ret
    exact ⟨rfl, HF4.out.hb⟩
  · have e : cd = 5 := by rw [← HCd.out]; exact h5
    subst e
    have HNE := Lib.hid hne
    clear h5 hne
    go_wp2_with fail
    refine (c_then5 _ _ p q _ HF4.out.hp HF4.out.hq).mono ?_; rintro e w5 ⟨r5, rfl, ho5, hb5⟩
    have HF5 := Lib.hid (HF4.out.under hb5); have HO5 := Lib.hid ho5
    clear ho5 hb5
    go_wp2_with fail
    refine (c_then5 _ _ q p _ HF5.out.hq HF5.out.hp).mono ?_; rintro e w6 ⟨r6, rfl, ho6, hb6⟩
    have HF6 := Lib.hid (HF5.out.under hb6); have HO6 := Lib.hid ho6; have HO5' := Lib.hid (HO5.out.ints.below hb6)
    clear ho6 hb6
    go_wp2_with fail
    refine (c_likeInts _ _ (thenRes p q) (thenRes q p) _ HO5'.out HO6.out.ints).mono ?_; rintro e w7 ⟨rfl, hb7⟩
    rw [show decide (thenRes p q = thenRes q p) = false from by simp [HNE.out]]
    have HF7 := Lib.hid (HF6.out.under (below_of_drewN hb7))
    clear hb7
    go_wp2
    go_ret
    exact ⟨rfl, HF7.out.hb⟩
  have e : cd = 0 := by rw [← HCd.out]; exact h0
  subst e
  obtain ⟨⟨hl1, hl12⟩, hpp⟩ := isPerm_in' hip
  obtain ⟨-, hpq⟩ := isPerm_in' hiq
  rw [hRA, hRB] at HF4
  have HPP := Lib.hid hpp; have HPQ := Lib.hid hpq; have HLQ := Lib.hid hlq; have HCom := Lib.hid hcom; have HIP := Lib.hid hip; have HIQ := Lib.hid hiq
  have HPM := Lib.hid (tw_pm hpp hpq hlq hl1 hl12)
  have HInv := Lib.hid (show involRes (twA p) (twB p q) = decide (invL p = q) by rw [involRes, if_pos HPM.out]; exact tw_inv hpp hpq hlq hl1 hl12)
  have HNd := Lib.hid (show ndRes (twA p) (twB p q) = true by rw [ndRes, if_pos HPM.out]; exact tw_nd hpp hpq hlq hl1 hl12)
  have HSol := Lib.hid (tw_sol hpp hpq hlq hl1 hl12 hcom)
  have HC1 := Lib.hid (show pmCode' (twA p) (twB p q) = 0 by simp [pmCode', HPM.out])
  have HC2 := Lib.hid (show pmCodeN (twA p) (twB p q) = 0 by simp [pmCodeN, HPM.out])
  have HIv := Lib.hid (show invRes p = invL p by simp [invRes, hip])
  have HIc := Lib.hid (show invCode p = 0 by simp [invCode, hip])
  clear h0 hip hiq hpp hpq hlq hcom hRA hRB HF3 HT3 HQ3
  go_wp2_with fail
  refine (c_InversePermutation _ p _ HF4.out.hp).mono ?_; rintro e w5 ⟨bk, rfl, ho5, hb5⟩
  rw [HIv.out] at ho5
  rw [HIc.out]
  have HF5 := Lib.hid (HF4.out.under hb5); have HK5 := Lib.hid ho5.ints
  clear ho5 hb5
  obtain ⟨x0, x1, -, -⟩ := two_cells HF5.out.hs
  go_wp2_with fail
  refine (c_IsInvolutive _ _ _ _ _ HF5.out.hsol).mono ?_; rintro e w6 ⟨rfl, hb6⟩
  rw [HInv.out, HC1.out]
  have HF6 := Lib.hid (HF5.out.under hb6); have HK6 := Lib.hid (HK5.out.below hb6)
  clear hb6 x0 x1
  obtain ⟨x0, x1, -, -⟩ := two_cells HF6.out.hs
  go_wp2_with fail
  refine (c_IsNondegenerate _ _ _ _ _ HF6.out.hsol).mono ?_; rintro e w7 ⟨rfl, hb7⟩
  rw [HNd.out, HC2.out]
  have HF7 := Lib.hid (HF6.out.under hb7); have HK7 := Lib.hid (HK6.out.below hb7)
  clear hb7 x0 x1
  obtain ⟨x0, x1, -, -⟩ := two_cells HF7.out.hs
  go_wp2_with fail
  refine (c_IsSolution _ _ _ _ _ HF7.out.hsol).mono ?_; rintro e w8 ⟨rfl, hb8⟩
  rw [HSol.out]
  have HF8 := Lib.hid (HF7.out.under hb8); have HK8 := Lib.hid (HK7.out.below hb8)
  clear hb8 x0 x1
  obtain ⟨dv, hdv⟩ : ∃ d, decide (invL p = q) = d := ⟨_, rfl⟩
  have HDv := Lib.hid hdv
  rw [hdv]
  have hdd : (dv != dv) = false := by simp
  clear hdv
  go_wp2_with fail
  refine (c_likeInts _ _ (invL p) q _ HK8.out HF8.out.hq).mono ?_; rintro e w9 ⟨rfl, hb9⟩
  rw [HDv.out]
  have HF9 := Lib.hid (HF8.out.under (below_of_drewN hb9)); have HK9 := Lib.hid (HK8.out.below (below_of_drewN hb9))
  clear hb9
  obtain ⟨pa, pc, hv1, _, _⟩ := HF9.out.hp.shape
  subst hv1
  obtain ⟨N, hN⟩ : ∃ N, p.length = N := ⟨_, rfl⟩
  have HN := Lib.hid hN
  rw [hN] at hl1 hl12
  have HTU := Lib.hid (then_unit HIP.out)
  have HFU := Lib.hid (flip_unit hl1 hl12); have HWU := Lib.hid (twist_unit hl1 hl12)
  clear hN hdd
  go_wp2_with fail
  refine (c_then5 _ _ p (invL p) _ HF9.out.hp HK9.out).mono ?_; rintro e w10 ⟨un, rfl, ho10, hb10⟩
  rw [HTU.out, HN.out] at ho10
  have HF10 := Lib.hid (HF9.out.under hb10); have HU10 := Lib.hid ho10.ints
  clear ho10 hb10
  go_wp2_with fail
  rw [HN.out]
  refine (c_FlipSolution (N : Int) _ (by omega) (by omega)).mono ?_; rintro e w11 ⟨f1, f2, rfl, hs11, hb11⟩
  rw [HFU.out.1, HFU.out.2.1] at hs11
  rw [HFU.out.2.2]
  obtain ⟨fa1, fl1, fc1, hf1⟩ := hs11.sol.1.any
  obtain ⟨fa2, fl2, fc2, hf2⟩ := hs11.sol.2.any
  subst hf1 hf2
  have HB11 := Lib.hid (((HF10.out.under hb11).new (.cells #[.slice fa1 fl1 fc1, .slice fa2 fl2 fc2] 27)).hb)
  have HU11 := Lib.hid ((HU10.out.below hb11).below ((Below.refl _ _).alloc (Nat.le_refl _) (.cells #[.slice fa1 fl1 fc1, .slice fa2 fl2 fc2] 27)))
  have HS11 := Lib.hid (hs11.sol.below ((Below.refl _ _).alloc (Nat.le_refl _) (.cells #[.slice fa1 fl1 fc1, .slice fa2 fl2 fc2] 27)))
  have HQ11 := Lib.hid (Blk.new w11 [.slice fa1 fl1 fc1, .slice fa2 fl2 fc2] 27)
  clear hs11 hb11
  go_wp2_with fail
  refine (c_TwistSolution _ (iota N) _ (iota N) _ HU11.out HU11.out).mono ?_; rintro e w12 ⟨g1, g2, rfl, hs12, hb12⟩
  rw [HWU.out.1, HWU.out.2.1] at hs12
  rw [HWU.out.2.2]
  obtain ⟨ga1, gl1, gc1, hg1⟩ := hs12.sol.1.any
  obtain ⟨ga2, gl2, gc2, hg2⟩ := hs12.sol.2.any
  subst hg1 hg2
  have HB12 := Lib.hid ((HB11.out.trans (hb12.mono HB11.out.size)).alloc (by have := HB11.out.size; have := hb12.size; omega) (.cells #[.slice ga1 gl1 gc1, .slice ga2 gl2 gc2] 27))
  have HS12 := Lib.hid (hs12.sol.below ((Below.refl _ _).alloc (Nat.le_refl _) (.cells #[.slice ga1 gl1 gc1, .slice ga2 gl2 gc2] 27)))
  have HS11b := Lib.hid ((HS11.out.below hb12).below ((Below.refl _ _).alloc (Nat.le_refl _) (.cells #[.slice ga1 gl1 gc1, .slice ga2 gl2 gc2] 27)))
  have HQ12 := Lib.hid (Blk.new w12 [.slice ga1 gl1 gc1, .slice ga2 gl2 gc2] 27)
  have HQ11b := Lib.hid ((HQ11.out.under hb12).alloc (.cells #[.slice ga1 gl1 gc1, .slice ga2 gl2 gc2] 27))
  clear hs12 hb12
  obtain ⟨x0, x1, -, -⟩ := two_cells HQ11b.out
  obtain ⟨y0, y1, -, -⟩ := two_cells HQ12.out
  go_wp2_with fail
  refine (c_likeSolution5 _ _ _ _ _ _ _ _ _ HS11b.out HS12.out).mono ?_; rintro e w13 ⟨rfl, hb13⟩
  rw [show (decide (twA (iota N) = twA (iota N)) && decide (twB (iota N) (iota N) = twB (iota N) (iota N))) = true from by simp]
  have HB13 := Lib.hid (HB12.out.trans (hb13.mono HB12.out.size))
  clear hb13 x0 x1 y0 y1
  go_wp2
  go_ret
  exact ⟨rfl, HB13.out⟩
end Go.Proofs.Ytkcobfkmeaakoaa

namespace Go.Proofs.Ytkcobfkmeaakoaa
open Go.RowKit

theorem eql_nilC (W : World) (a : Option Addr) (n c : Nat) : (binOp .eql 25 (.slice a n c) (.slice none 0 0)).run Try.prog W = .ok (.bool a.isNone) W := Lib.run_eql_slice_nil W _ _ a n c 0 0 Try.underlying25

set_option maxHeartbeats 800000 in
theorem c_Clone (v : Value) (xs : List Int) (w : World) (hx : Ints w v xs) (hn : xs.length ≤ 1048576) :
    Calls Try.prog 137 #[v] w (RInts w xs) := by
  obtain ⟨a, c, rfl, hc, hm, hcell⟩ := hx
  have hnl := eql_nilC
  cases a with
  | none =>
    have hl : xs = [] := by
      rcases Nat.eq_zero_or_pos xs.length with h | h
      · exact List.eq_nil_of_length_eq_zero h
      · obtain ⟨_, _, h1, _⟩ := hcell 0 h; cases h1
    subst hl
    go_enter Try.func137, Try.ntmps137
    go_wp2
    go_ret
    exact ⟨_, rfl, Own.nil _ _, Below.refl _ _⟩
  | some ad =>
    have h0 : Hid (Own w.heap.size (w.alloc (.cells #[] 2)) (.slice (some ⟨w.heap.size, 0, none⟩) 0 0) []) := Lib.hid (Own.made0 w (Nat.le_refl _))
    have hb0 : Hid (Below w.heap.size w (w.alloc (.cells #[] 2))) := Lib.hid ((Below.refl _ _).alloc (Nat.le_refl _) _)
    have hnews : Hid (∀ j u, (xs.map (Value.int .i64))[j]? = some u → (w.alloc (.cells #[] 2)).cell? (ad.add j) = some u) := by
      intro j u hj
      obtain ⟨hj1, rfl⟩ := List.getElem?_eq_some_iff.1 hj
      obtain ⟨b, o, h1, h2⟩ := hcell j (by simpa using hj1)
      cases h1
      have e : Addr.add ⟨b, o, none⟩ j = ⟨b, o + j, none⟩ := by simp [Addr.add]
      rw [e]
      simpa using cell_under hb0.out h2
    have hlen : (xs.map (Value.int .i64)).length = xs.length := by simp
    have HC := Lib.hid hcell; clear hcell
    have HLn := Lib.hid hlen; clear hlen
    go_enter Try.func137, Try.ntmps137
    obtain ⟨i0, hi, hz0, hz1, hz2⟩ := info_parts inf_int64
    have HInf := Lib.hid (And.intro hi (And.intro hz0 (And.intro hz1 hz2)))
    clear hi hz0 hz1 hz2
    have hxl : Hid (0 + xs.length ≤ maxLen) := by show _ ≤ _; unfold maxLen; omega
    have hxb : Hid ((0 + xs.length) * 8 ≤ 140737488355328) := by show _ ≤ _; omega
    have hone : Hid (∀ u ∈ xs.map (Value.int .i64), u.oneCell' = true) := by
      intro u hu
      obtain ⟨x, _, rfl⟩ := List.mem_map.1 hu
      rfl
    go_wp2_with (at_builtin; go_must (refine wpList_append_own _ rfl _ _ 25 rfl w.heap.size 2 i0 (.int .i64 0) 1 8 Try.underlying25 HInf.out.1 HInf.out.2.1 HInf.out.2.2.1 HInf.out.2.2.2 rfl (by decide) (.slice (some ⟨w.heap.size, 0, none⟩) 0 0) 0 [] rfl h0.out ad xs.length c (xs.map (Value.int .i64)) rfl (by simp) hnews.out hone.out hxl.out hxb.out hb0.out.size ?_); intro v' w' hown' hg hnil; have HO := Lib.hid hown'; have HG := Lib.hid hg; clear hown' hg hnil)
    go_ret
    refine ⟨_, rfl, ?_, ?_⟩
    · have := HO.out
      simpa [Own] using this
    · refine hb0.out.trans ((Keep.of_grown HG.out).below fun k hk => ⟨Nat.lt_of_lt_of_le hk hb0.out.size, fun e => ?_⟩)
      have e' : w.heap.size = k := by simpa [Value.ownBlock] using e
      omega
end Go.Proofs.Ytkcobfkmeaakoaa

namespace Go.Proofs.Ytkcobfkmeaakoaa
open Go.RowKit

set_option maxHeartbeats 1600000 in
theorem c_cloneTable (v : Value) (t : List (List Int)) (w : World) (hx : Rows w v t) (hn : t.length ≤ 1048576) (hr : ∀ r ∈ t, r.length ≤ 1048576) :
    Calls Try.prog 91 #[v] w (RRows w t) := by
  obtain ⟨a, c, rfl, hc, hm⟩ := hx.shape
  have hmk := run_make_row' (P := Try.prog) 22 25 (.slice none 0 0) 24 Try.underlying22 inf_ints rfl .i64 .i64 t.length (by omega) (by omega)
  have HR := Lib.hid hr; clear hr
  have hB0 : Hid (Below w.heap.size w (w.alloc (.cells (madeCells #[.slice none 0 0] t.length) 25))) := Lib.hid ((Below.refl _ _).alloc (Nat.le_refl _) _)
  have hK0 : Hid (Blk (w.alloc (.cells (madeCells #[.slice none 0 0] t.length) 25)) w.heap.size 25 ([] ++ (List.replicate t.length (Value.slice none 0 0)).drop 0)) := by
    show Blk _ _ _ _
    simpa using Blk.made w (.slice none 0 0) t.length 25
  go_enter Try.func91, Try.ntmps91
  go_wp2
  clear hmk
  go_loopw [11, 4, 5] (fun i _ _ wr => ∃ (k : Nat) (us : List Value), k ≤ t.length ∧ i = .int .i64 k ∧ Hid (Below w.heap.size w wr) ∧ Hid (Blk wr w.heap.size 25 (us ++ (List.replicate t.length (Value.slice none 0 0)).drop k)) ∧ Hid (RowVals w.heap.size wr us (t.take k))) (fun i _ _ _ => t.length - (intOf i).toNat)
  case atStart => exact ⟨0, [], Nat.zero_le _, rfl, hB0, hK0, Lib.hid (RowVals.nil _ _)⟩
  case round =>
    clear hB0 hK0
    obtain ⟨k, us, hk, rfl, HB, HBk, HV⟩ := hrel
    obtain ⟨wo, rfl⟩ : ∃ wo : World, wo = wr := ⟨_, rfl⟩
    have hul : us.length = k := by rw [HV.out.len]; simp; omega
    by_cases hlt : k < t.length
    · obtain ⟨b, o, ra, rc, rfl, hcell, hu⟩ := (hx.below HB.out).getS k hlt
      have hrl : (row t k).length ≤ 1048576 := HR.out _ (row_mem (by omega) (by omega))
      have HU := Lib.hid hu; have HUl := Lib.hid hul
      clear hu hul
      go_wp2_with fail
      refine (c_Clone _ _ _ HU.out hrl).mono ?_; rintro e w1 ⟨r1, rfl, ho1, hb1⟩
      obtain ⟨x1, y1, hv1, _⟩ := ho1.shape
      subst hv1
      have hbk1 := HBk.out.under hb1
      obtain ⟨z, h2⟩ := fill_cell0 hbk1 (k := k) (by have := HUl.out; simp; omega)
      have h3 := hbk1.frozen k
      have hset := hbk1.set k (.slice x1 (row t k).length y1)
      rw [vals_set0 _ _ _ _ _ HUl.out hlt] at hset
      have hV1 := HV.out.snoc hb1 ho1 (Nat.le_trans (Below.size HB.out) (Nat.le_refl _))
      have hV2 := hV1.store hbk1 (by decide) k (.slice x1 (row t k).length y1)
      have HB1 := Lib.hid ((bb HB.out hb1).setCell (p := ⟨w.heap.size, k, none⟩) (Nat.le_refl _) (.slice x1 (row t k).length y1))
      have HS := Lib.hid hset; have HV2 := Lib.hid hV2
      clear hb1 hbk1 hset hV1 hV2 hcell ho1
      go_wp2
      go_roundw
      case rel =>
        refine ⟨k + 1, us ++ [.slice x1 (row t k).length y1], by omega, by go_num, HB1, HS, ?_⟩
        rw [take_snoc_row _ _ hlt]; exact HV2
      case measure => simp [intOf]; omega
    · obtain rfl : k = t.length := by omega
      have hv := HV.out
      rw [List.take_of_length_le (Nat.le_refl _)] at hv
      have hkk := HBk.out
      rw [List.drop_of_length_le (by simp), List.append_nil] at hkk
      have H1 := Lib.hid hv; have H2 := Lib.hid hkk; have HUl := Lib.hid hul
      clear hv hkk hul
      go_wp2
      go_ret
      exact ⟨_, rfl, ⟨us, ownsRow_blk H2.out (Nat.le_refl _) HUl.out.symm HUl.out.symm (by rw [HUl.out]; unfold maxLen; omega), H1.out⟩, HB.out⟩

set_option maxHeartbeats 1600000 in
theorem c_l01Own2 (v : Value) (t : List (List Int)) (w : World) (hx : Rows w v t) (hn : t.length ≤ 1048576) (hr : ∀ r ∈ t, r.length ≤ 1048576) :
    Calls Try.prog 114 #[v] w (RRows w t) := by
  obtain ⟨a, c, rfl, hc, hm⟩ := hx.shape
  have HR := Lib.hid hr; clear hr
  go_enter Try.func114, Try.ntmps114
  go_wp2
  go_loopw [3, 4] (fun s i wr => ∃ (k : Nat) (sa : Option Addr) (sc : Nat), k ≤ t.length ∧ i = .int .i64 k ∧ s = .slice sa k sc ∧ Below w.heap.size w wr ∧ OwnRows w.heap.size wr (.slice sa k sc) (t.take k)) (fun _ i _ => t.length - (intOf i).toNat)
  case atStart => exact ⟨0, _, _, Nat.zero_le _, rfl, rfl, (Below.refl _ _).alloc (Nat.le_refl _) _, OwnRows.made0 w (Nat.le_refl _)⟩
  case round =>
    obtain ⟨k, sa, sc, hk, rfl, rfl, hb, hown⟩ := hrel
    have hlen : (t.take k).length = k := by simp; omega
    by_cases hlt : k < t.length
    · obtain ⟨b, o, ra, rc, rfl, hcell, hu⟩ := (hx.below hb).getS k hlt
      have hrl : (row t k).length ≤ 1048576 := HR.out _ (row_mem (by omega) (by omega))
      have Hb := Lib.hid hb; have Ho := Lib.hid hown; have Hl := Lib.hid hlen; have Hs := Lib.hid hb.size; have HU := Lib.hid hu; clear hb hown hlen hu
      obtain ⟨wo, rfl⟩ : ∃ wo : World, wo = wr := ⟨_, rfl⟩
      go_wp2_with fail
      refine (c_l01Own _ _ _ HU.out hrl).mono ?_; rintro e w1 ⟨r, rfl, hor, hb1⟩
      obtain ⟨qa, qc, hqv, _⟩ := hor.shape
      subst hqv
      have HRr := Lib.hid hor; have HB1 := Lib.hid hb1; clear hor hb1 hcell
      go_wp2_with (at_builtin; refine wpList_app_row w.heap.size wo w1 _ (t.take k) _ (row t k) _ _ rfl rfl rfl Ho.out HB1.out HRr.out rfl (by rw [Hl.out]; omega) Hs.out ?_; intro a' c' w' hown' hkeep; rw [Hl.out]; have Hk := Lib.hid hkeep; have Ho' := Lib.hid hown'; clear hkeep hown')
      go_roundw
      case rel =>
        have h1 := Ho'.out
        rw [Hl.out, ← take_snoc_row _ _ hlt] at h1
        exact ⟨k + 1, a', c', by omega, by go_num, rfl, OwnRows.frame Ho.out (bb Hb.out HB1.out) (Nat.le_refl _) (Nat.le_trans Hs.out HB1.out.size) Hk.out, h1⟩
      case measure => simp [intOf]; omega
    · have Hb := Lib.hid hb; have Ho := Lib.hid hown; clear hb hown hlen
      obtain rfl : k = t.length := by omega
      go_wp2
      go_ret
      exact ⟨_, rfl, by have := Ho.out; rwa [List.take_of_length_le (Nat.le_refl _)] at this, Hb.out⟩

set_option maxHeartbeats 1600000 in
theorem c_l01Less2 (v1 v2 : Value) (xs ys : List (List Int)) (w : World) (hx : Rows w v1 xs) (hy : Rows w v2 ys) :
    Calls Try.prog 116 #[v1, v2] w (RVal w (.bool (lexR xs ys))) := by
  obtain ⟨a, c, rfl, hc, hm⟩ := hx.shape
  obtain ⟨a2, c2, rfl, hc2, hm2⟩ := hy.shape
  go_enter Try.func116, Try.ntmps116
  go_wp2
  go_loopw [5] (fun i wr => ∃ k : Nat, k ≤ xs.length ∧ k ≤ ys.length ∧ i = .int .i64 k ∧ Hid (Below w.heap.size w wr) ∧ Hid (xs.take k = ys.take k)) (fun i _ => xs.length - (intOf i).toNat)
  case atStart => exact ⟨0, Nat.zero_le _, Nat.zero_le _, rfl, Lib.hid (Below.refl _ _), Lib.hid rfl⟩
  case round =>
    obtain ⟨k, hk, hk2, rfl, HB, HE⟩ := hrel
    obtain ⟨wo, rfl⟩ : ∃ wo : World, wo = wr := ⟨_, rfl⟩
    by_cases hlt : k < xs.length
    · by_cases hlt2 : k < ys.length
      · obtain ⟨b, o, ra, rc, rfl, hcell, hu⟩ := (hx.below HB.out).getS k hlt
        obtain ⟨b2, o2, ra2, rc2, rfl, hcell2, hu2⟩ := (hy.below HB.out).getS k hlt2
        have HU := Lib.hid hu; have HU2 := Lib.hid hu2; clear hu hu2
        have hk0 : (0 : Int) ≤ k := by omega
        have hk1 : (k : Int) < xs.length := by omega
        have hkk : (k : Int) < ys.length := by omega
        have HCs : Hid (∀ w' : World, Below wo.heap.size wo w' → w'.cell? ⟨b, o + k, none⟩ = some (.slice ra (row xs k).length rc) ∧ w'.cell? ⟨b2, o2 + k, none⟩ = some (.slice ra2 (row ys k).length rc2)) := Lib.hid (fun w' hb => ⟨cell_under hb hcell, cell_under hb hcell2⟩)
        by_cases he : row xs k = row ys k
        · have hd : decide (row xs k = row ys k) = true := by simp [he]
          have HV := Lib.hid he; clear he
          go_wp2
          go_region_held3 (fun w' => w'.cell? ⟨b, o + k, none⟩ = some (.slice ra (row xs k).length rc) ∧ w'.cell? ⟨b2, o2 + k, none⟩ = some (.slice ra2 (row ys k).length rc2)) (first | go_keep | exact HCs.out _ (Below.refl _ _).drew | exact HCs.out _ HX.out)
            ((go_at_call 102; (with_reducible refine (c_l01Same _ _ _ _ _ (HU.out.below (Below.refl _ _).drew) (HU2.out.below (Below.refl _ _).drew)).mono ?_); rintro e w1 hh; obtain ⟨rfl, hb1⟩ := hh.r; have HX := Lib.hid (bb (Below.refl wo.heap.size wo).drew hb1); have HB1 := Lib.hid (bb HB.out HX.out); clear hb1 hh))
          go_wp2
          go_roundw
          case rel => exact ⟨k + 1, by omega, by omega, by go_num, HB1, Lib.hid (take_succ_eqR hlt hlt2 HE.out HV.out)⟩
          case measure => simp [intOf]; omega
        · have hd : decide (row xs k = row ys k) = false := by simp [he]
          have HR : Hid (lexB (row xs k) (row ys k) = lexR xs ys) := Lib.hid (lexR_at hlt hlt2 HE.out he).symm
          clear he
          go_wp2
          go_region_held3 (fun w' => w'.cell? ⟨b, o + k, none⟩ = some (.slice ra (row xs k).length rc) ∧ w'.cell? ⟨b2, o2 + k, none⟩ = some (.slice ra2 (row ys k).length rc2)) (first | go_keep | exact HCs.out _ (Below.refl _ _).drew | exact HCs.out _ HX.out)
            ((go_at_call 102; (with_reducible refine (c_l01Same _ _ _ _ _ (HU.out.below (Below.refl _ _).drew) (HU2.out.below (Below.refl _ _).drew)).mono ?_); rintro e w1 hh; obtain ⟨rfl, hb1⟩ := hh.r; have HX := Lib.hid (bb (Below.refl wo.heap.size wo).drew hb1); have HB1 := Lib.hid (bb HB.out HX.out); clear hb1 hh))
          have hcc := HCs.out _ HX.out
          obtain ⟨hcell3, hcell4⟩ := hcc
          go_wp2
          go_region_held3 (fun w' => w'.cell? ⟨b, o + k, none⟩ = some (.slice ra (row xs k).length rc) ∧ w'.cell? ⟨b2, o2 + k, none⟩ = some (.slice ra2 (row ys k).length rc2)) (first | go_keep | exact HCs.out _ (bb HX.out (Below.refl _ _).drew) | exact HCs.out _ HX2.out)
            ((go_at_call 159; (with_reducible refine (c_l01Less _ _ _ _ _ (HU.out.below (bb HX.out (Below.refl _ _).drew)) (HU2.out.below (bb HX.out (Below.refl _ _).drew))).mono ?_); rintro e w2 ⟨rfl, nq, rfl⟩; have HX2 := Lib.hid (bb (bb HX.out (Below.refl w1.heap.size w1).drew) (below_drewN (Below.refl _ _) nq)); have HB2 := Lib.hid (bb HB.out HX2.out)))
          go_wp2
          go_ret
          exact ⟨ret_bool HR.out, below_drewN (bb HB.out HX.out) _⟩
      · obtain rfl : k = ys.length := by omega
        have HR : Hid (decide (xs.length < ys.length) = lexR xs ys) := by
          show _ = _
          have := HE.out
          rw [List.take_length] at this
          rw [lexR_pre (this.trans (List.take_of_length_le (by omega)).symm)]
        go_wp2
        go_ret
        exact ⟨ret_bool HR.out, HB.out⟩
    · obtain rfl : k = xs.length := by omega
      have HR : Hid (decide (xs.length < ys.length) = lexR xs ys) := by
        show _ = _
        have := HE.out
        rw [List.take_length] at this
        rw [lexR_pre ((List.take_of_length_le hk2).trans this)]
      go_wp2
      go_ret
      exact ⟨ret_bool HR.out, HB.out⟩
end Go.Proofs.Ytkcobfkmeaakoaa

namespace Go.Proofs.Ytkcobfkmeaakoaa
open Go Go.RowKit

variable {F : Fence} {n : Nat} {P : Program}

/-- The iterator's contract: it hands the rows of T, one after the other, in a slice that lies in blocks [size at its start, hi); between two rounds it writes these blocks alone. J hi k: what the caller keeps when k rows have come. -/
def SeqRows (F : Fence) (n : Nat) (P : Program) (g : Nat) (lb : Array Value) (T : List (List Int)) (w : World) : Prop :=
  ∀ (l : Nat) (J Jx : Nat → Nat → World → Prop) (W1 : World), Below w.heap.size w W1 →
    (∀ hi k W W', J hi k W → Keep (fun b => W1.heap.size ≤ b ∧ b < hi) W W' → J hi k W') →
    (∀ hi k W W', Jx hi k W → Keep (fun b => W1.heap.size ≤ b ∧ b < hi) W W' → Jx hi k W') →
    (∀ W', Below W1.heap.size W1 W' → J W'.heap.size 0 W') →
    (∀ hi k u W, J hi k W → W1.heap.size ≤ hi → hi ≤ W.heap.size → k < T.length → Ints W u (row T k) → YieldAt F (n - 1) P l #[u] W fun e W' =>
      (e = .returned (.bool true) ∧ J hi (k + 1) W' ∧ Keep (fun b => b < W1.heap.size ∨ hi ≤ b) W W') ∨ (e = .returned (.bool false) ∧ Jx hi (k + 1) W')) →
    CallsIn F n P g (#[.func (.yield l) #[] #[]] ++ lb) W1 fun e W' => (∃ v, e = .returned v) ∧ ((∃ hi, J hi T.length W') ∨ (∃ hi k, Jx hi k W'))

def rowsPost (S0 : Nat → Prop) (I : Nat → Nat → World → Prop) (Ix : Code → Nat → Nat → World → Prop) (hi k : Nat) (W : World) : Exit → Act → World → Prop
  | .normal, _, W' => Keep (fun b => S0 b ∨ hi ≤ b) W W' ∧ I hi k W'
  | .ret, _, W' => Keep (fun b => S0 b ∨ hi ≤ b) W W' ∧ Ix .ret hi k W'
  | .exit id, _, W' => Keep (fun b => S0 b ∨ hi ≤ b) W W' ∧ Ix (.exit id) hi k W'
  | .goto t, _, W' => Keep (fun b => S0 b ∨ hi ≤ b) W W' ∧ Ix (.goto t) hi k W'
  | .panic _, _, _ => False
  | .outgrown, _, _ => False

theorem keep_putObj (W : World) (l : Nat) (o : Obj) : Keep (fun b => b = l) W (W.putObj l o) :=
  (Keep.of_grown (grownBy_putObj' W l o)).mono fun k _ h => by cases h; rfl

theorem wpIn_rangeFunc_rows {g : Operand} {ps : Array Tmp} {assign body : Code} {Q : Exit → Act → World → Prop} {a : Act} {w : World}
    (hro : F.round = none) (h1 : 1 ≤ n) {gf : Nat} {lb : Array Value} (hg : a.eval g = .func (.func gf) #[] lb) (hFg : F.fn gf) (eg : ∀ args w, (callFunc gf args).run P w = .ok (.enter gf args) w)
    (S0 : Nat → Prop) (hS0 : ∀ b, S0 b → b < w.heap.size) {T : List (List Int)} (hseq : SeqRows F (n - 1) P gf lb T w) (hps : ps.size = 1)
    (I : Nat → Nat → World → Prop) (Ix : Code → Nat → Nat → World → Prop)
    (hI : ∀ hi k W W', I hi k W → Keep (fun b => w.heap.size ≤ b ∧ b < hi) W W' → I hi k W')
    (hIx : ∀ c hi k W W', Ix c hi k W → Keep (fun b => w.heap.size ≤ b ∧ b < hi) W W' → Ix c hi k W')
    (h0 : ∀ W', Below w.heap.size w W' → I W'.heap.size 0 W') (a₁ : Value → Act)
    (hassign : ∀ (l : Nat) (u : Value) (W : World) (K : Act → World → Prop), K (a₁ u) W →
      assign.wpIn (F.inRound l) (n - 1 - 1) P (Exit.then K (fun _ _ _ => False)) { tmps := (ps.zip #[u]).foldl (fun t (p, v) => t.setIfInBounds p v) a.tmps, defers := [] } W)
    (hbody : ∀ (l hi k : Nat) (u : Value) (W : World), I hi k W → w.heap.size ≤ hi → hi ≤ W.heap.size → k < T.length → Ints W u (row T k) → body.wpIn (F.inRound l) (n - 1 - 1) P (rowsPost S0 I Ix hi (k + 1) W) (a₁ u) W)
    (hdone : ∀ (D hi : Nat) (W : World), w.heap.size ≤ D → D < hi → I hi T.length W → W.heap[D]? = some (.deferred (some [])) → Q .normal { a with defers := { target := .collected D, args := #[] } :: a.defers } W)
    (hstop : ∀ (D hi k : Nat) (c : Code) (W : World), w.heap.size ≤ D → D < hi → Ix c hi k W → W.heap[D]? = some (.deferred (some [])) → c.wpIn F n P Q { a with defers := { target := .collected D, args := #[] } :: a.defers } W) :
    (Code.rangeFunc g ps assign body).wpIn F n P Q a w := by
  refine wpIn_rangeFunc ?_
  intro fn hfn
  rw [hro]
  obtain ⟨rec, hrec⟩ : ∃ rec : LoopState → Option Code → Loop, rec = fun st pe => { state := st, pending := pe, fn, tmps := a.tmps, params := ps, assign, body, defers := w.heap.size } := ⟨_, rfl⟩
  obtain ⟨W1, hW1⟩ : ∃ W1, (w.alloc (.deferred (some []))).alloc (.loop (rec .ready none)) = W1 := ⟨_, rfl⟩
  have hL1 : W1.heap[w.heap.size + 1]? = some (.loop (rec .ready none)) := by
    rw [← hW1]; have := World.alloc_heap_new (w.alloc (.deferred (some []))) (.loop (rec .ready none)); rwa [World.size_alloc] at this
  have hK1 : W1.heap[w.heap.size]? = some (.deferred (some [])) := by
    rw [← hW1]; exact (Below.heap_alloc _ _ _ (by simp)).trans (World.alloc_heap_new w _)
  have hsz : W1.heap.size = w.heap.size + 2 := by rw [← hW1]; simp
  have hb1 : Below w.heap.size w W1 := by
    rw [← hW1]; exact ((Below.refl _ w).alloc (Nat.le_refl _) _).alloc (by simp) _
  refine ⟨w.heap.size + 1, [{ target := .collected w.heap.size, args := #[] }], W1, { target := .fn (.func gf) lb, args := #[.func (.yield (w.heap.size + 1)) #[] #[]] }, W1, gf,
    #[.func (.yield (w.heap.size + 1)) #[] #[]] ++ lb, W1, ?_, ?_, ?_, ?_, fun _ => h1, ?_⟩
  · rw [← hW1, hrec]; exact run_enterLoop_outer _ _ _ _ _
  · simp only [resolve, hg]
    simp [go_sem]
  · intro f' hf'; simp [Target.leads] at hf'; subst hf'; exact hFg
  · simp [invoke, go_sem, eg]
  · have stepI : ∀ {hi k : Nat} {W : World} (o : Obj), w.heap.size + 2 ≤ hi → I hi k W → I hi k (W.putObj (w.heap.size + 1) o) := fun o hh h =>
      hI _ _ _ _ h ((keep_putObj _ _ _).mono fun b _ e => by subst e; omega)
    have stepIx : ∀ {c : Code} {hi k : Nat} {W : World} (o : Obj), w.heap.size + 2 ≤ hi → Ix c hi k W → Ix c hi k (W.putObj (w.heap.size + 1) o) := fun o hh h =>
      hIx _ _ _ _ _ h ((keep_putObj _ _ _).mono fun b _ e => by subst e; omega)
    have keptAt : ∀ {hi b : Nat} {W W' : World}, b < W1.heap.size → W1.heap.size ≤ W.heap.size → Keep (fun b => W1.heap.size ≤ b ∧ b < hi) W W' → W'.heap[b]? = W.heap[b]? := fun hb hW hk =>
      hk.block _ (by omega) (by omega)
    refine (hseq (w.heap.size + 1)
      (fun hi k W => I hi k W ∧ W.heap[w.heap.size + 1]? = some (.loop (rec .ready none)) ∧ W.heap[w.heap.size]? = some (.deferred (some [])) ∧ w.heap.size + 2 ≤ hi ∧ W1.heap.size ≤ W.heap.size)
      (fun hi k W => ∃ c, Ix c hi k W ∧ W.heap[w.heap.size + 1]? = some (.loop (rec .done (some c))) ∧ W.heap[w.heap.size]? = some (.deferred (some [])) ∧ w.heap.size + 2 ≤ hi ∧ W1.heap.size ≤ W.heap.size)
      W1 hb1 ?_ ?_ ?_ ?_).mono ?_
    · rintro hi k W W' ⟨h, hl, hk, hh, hs⟩ hkeep
      exact ⟨hI _ _ _ _ h (hkeep.mono fun b _ hb => ⟨by omega, hb.2⟩), (keptAt (by omega) hs hkeep).trans hl, (keptAt (by omega) hs hkeep).trans hk, hh, Nat.le_trans hs hkeep.size⟩
    · rintro hi k W W' ⟨c, h, hl, hk, hh, hs⟩ hkeep
      exact ⟨c, hIx _ _ _ _ _ h (hkeep.mono fun b _ hb => ⟨by omega, hb.2⟩), (keptAt (by omega) hs hkeep).trans hl, (keptAt (by omega) hs hkeep).trans hk, hh, Nat.le_trans hs hkeep.size⟩
    · intro W' hb
      exact ⟨h0 W' (bb hb1 hb), (hb.block _ (by omega)).trans hL1, (hb.block _ (by omega)).trans hK1, by have := hb.size; omega, hb.size⟩
    · -- ONE ROUND
      rintro hi k u W ⟨hi0, hl, hk, hh, hs⟩ hlo hhi hlen hu
      have hlt : w.heap.size + 1 < W.heap.size := (Array.getElem?_eq_some_iff.1 hl).1
      have hy := run_yield (P := P) (args := #[u]) hl (by rw [hrec]; simpa using hps.symm)
      rw [hrec] at hy
      refine ⟨fn, _, assign, body, hy, roundIn_of_wpIn hfn (hassign _ u W _ ⟨_, run_beginRound hl (by rw [hrec]), ?_⟩)⟩
      obtain ⟨W2, hW2⟩ : ∃ W2, W.putObj (w.heap.size + 1) (.loop { rec .ready none with state := .busy }) = W2 := ⟨_, rfl⟩
      have hl2 : W2.heap[w.heap.size + 1]? = some (.loop { rec .ready none with state := .busy }) := by rw [← hW2]; exact World.putObj_heap_same hlt
      have hk2 : W2.heap[w.heap.size]? = some (.deferred (some [])) := by rw [← hW2]; exact (World.putObj_heap_other (by omega)).trans hk
      have kp2 : Keep (fun b => b = w.heap.size + 1) W W2 := by rw [← hW2]; exact keep_putObj _ _ _
      have hi2 : I hi k W2 := by rw [← hW2]; exact stepI _ hh hi0
      have hu2 : Ints W2 u (row T k) := by
        obtain ⟨ua, uc, hv, huc, hum, hcell⟩ := hu
        refine ⟨ua, uc, hv, huc, hum, fun i hi' => ?_⟩
        obtain ⟨b, o, e, hc⟩ := hcell i hi'
        refine ⟨b, o, e, ?_⟩
        have hb : b ≠ w.heap.size + 1 := by
          rintro rfl
          simp [World.cell?, hl] at hc
        have hblt : b < W.heap.size := by
          rcases Nat.lt_or_ge b W.heap.size with h | h
          · exact h
          · simp [World.cell?, Array.getElem?_eq_none h] at hc
        simp only [World.cell?] at hc ⊢
        rw [kp2.block b hblt hb]
        exact hc
      rw [hW2]
      refine wpIn_mono (hbody _ hi k u W2 hi2 (by omega) (Nat.le_trans hhi kp2.size) hlen hu2) ?_
      have fin : ∀ (jump : Option Code) (W3 : World), Keep (fun b => S0 b ∨ hi ≤ b) W2 W3 →
          (Instr.endRound (w.heap.size + 1) jump).run P W3 = .ok (.bool jump.isNone) (W3.putObj (w.heap.size + 1) (.loop (rec (if jump.isNone then .ready else .done) jump))) ∧
          (W3.putObj (w.heap.size + 1) (.loop (rec (if jump.isNone then .ready else .done) jump))).heap[w.heap.size + 1]? = some (.loop (rec (if jump.isNone then .ready else .done) jump)) ∧
          (W3.putObj (w.heap.size + 1) (.loop (rec (if jump.isNone then .ready else .done) jump))).heap[w.heap.size]? = some (.deferred (some [])) ∧ W1.heap.size ≤ (W3.putObj (w.heap.size + 1) (.loop (rec (if jump.isNone then .ready else .done) jump))).heap.size ∧
          Keep (fun b => b < W1.heap.size ∨ hi ≤ b) W (W3.putObj (w.heap.size + 1) (.loop (rec (if jump.isNone then .ready else .done) jump))) := fun jump W3 hk3 => by
        have hno : ∀ b, w.heap.size ≤ b → b < w.heap.size + 2 → ¬ (S0 b ∨ hi ≤ b) := fun b h1 h2 h => by
          rcases h with h | h
          · have := hS0 b h; omega
          · omega
        have hsz2 : W2.heap.size = W.heap.size := by rw [← hW2]; simp [World.putObj]
        have hl3 := (hk3.block (w.heap.size + 1) (by omega) (hno _ (by omega) (by omega))).trans hl2
        have hd3 := (hk3.block (w.heap.size) (by omega) (hno _ (by omega) (by omega))).trans hk2
        have := run_endRound (P := P) jump hl3
        rw [hrec] at this ⊢
        refine ⟨this, World.putObj_heap_same (Array.getElem?_eq_some_iff.1 hl3).1, (World.putObj_heap_other (by omega)).trans hd3, Nat.le_trans hs (Nat.le_trans kp2.size (Nat.le_trans hk3.size (keep_putObj _ _ _).size)), ?_⟩
        refine ((kp2.mono (fun b _ e => ?_)).trans (hk3.mono (fun b _ e => ?_))).trans ((keep_putObj _ _ _).mono (fun b _ e => ?_))
        · exact .inl (by subst e; omega)
        · rcases e with e | e
          · exact .inl (by have := hS0 b e; omega)
          · exact .inr e
        · exact .inl (by subst e; omega)
      rintro e a3 W3 hp
      cases e with
      | normal =>
        obtain ⟨hk3, hi3⟩ := hp
        obtain ⟨hr, hl4, hk4, hs4, hkk⟩ := fin none W3 hk3
        exact ⟨_, _, hr, .inl ⟨rfl, ⟨stepI _ hh hi3, hl4, hk4, hh, hs4⟩, hkk⟩⟩
      | ret =>
        obtain ⟨hk3, hi3⟩ := hp
        obtain ⟨hr, hl4, hk4, hs4, hkk⟩ := fin (some .ret) W3 hk3
        exact ⟨_, _, hr, .inr ⟨rfl, .ret, stepIx _ hh hi3, hl4, hk4, hh, hs4⟩⟩
      | exit id =>
        obtain ⟨hk3, hi3⟩ := hp
        obtain ⟨hr, hl4, hk4, hs4, hkk⟩ := fin (some (.exit id)) W3 hk3
        exact ⟨_, _, hr, .inr ⟨rfl, .exit id, stepIx _ hh hi3, hl4, hk4, hh, hs4⟩⟩
      | goto t =>
        obtain ⟨hk3, hi3⟩ := hp
        obtain ⟨hr, hl4, hk4, hs4, hkk⟩ := fin (some (.goto t)) W3 hk3
        exact ⟨_, _, hr, .inr ⟨rfl, .goto t, stepIx _ hh hi3, hl4, hk4, hh, hs4⟩⟩
      | panic ch => exact hp.elim
      | outgrown => exact hp.elim
    · -- BEHIND THE ITERATOR
      rintro e W2 ⟨⟨v, rfl⟩, (⟨hi, h, hl, hk, hh, hs⟩ | ⟨hi, k, c, h, hl, hk, hh, hs⟩)⟩
      · exact ⟨none, _, by have := run_endLoop (P := P) hl (by rw [hrec]; simp); rw [hrec] at this; exact this, hdone _ hi _ (Nat.le_refl _) (by omega) (stepI _ hh h) ((World.putObj_heap_other (by omega)).trans hk)⟩
      · exact ⟨some c, _, by have := run_endLoop (P := P) hl (by rw [hrec]; simp); rw [hrec] at this; exact this, hstop _ hi k c _ (Nat.le_refl _) (by omega) (stepIx _ hh h) ((World.putObj_heap_other (by omega)).trans hk)⟩
end Go.Proofs.Ytkcobfkmeaakoaa

namespace Go.Proofs.Ytkcobfkmeaakoaa
open Go.RowKit

theorem rowOf_set (n : Nat) (g : Int → Int) (k : Nat) (v : Int) : (rowOf n g).set k v = rowOf n (fun x => if x = k then v else g x) := by
  apply List.ext_getElem (by simp)
  intro i h1 h2
  have hi : i < n := by simpa using h2
  rw [List.getElem_set]
  simp only [rowOf, List.getElem_map, List.getElem_range]
  by_cases e : k = i
  · subst e; simp
  · rw [if_neg e, if_neg (by omega)]
/-- The list after r exchanges. -/
def revG (mid : List Int) (r : Nat) (x : Int) : Int := if x < r ∨ (mid.length : Int) - r ≤ x then nth mid (mid.length - 1 - x) else nth mid x
theorem revG_zero (mid : List Int) : rowOf mid.length (revG mid 0) = mid := by
  apply ext_nth (by simp)
  intro k hk
  have hk' : k < mid.length := by simpa using hk
  rw [nth_rowOf _ _ _ hk']
  unfold revG
  rw [if_neg (by omega)]
theorem revG_done (mid : List Int) (r : Nat) (h : (mid.length : Int) - 1 - r ≤ r) : rowOf mid.length (revG mid r) = mid.reverse := by
  apply ext_nth (by simp)
  intro k hk
  have hk' : k < mid.length := by simpa using hk
  rw [nth_rowOf _ _ _ hk', nth_nat _ _ (by simpa using hk'), List.getElem_reverse]
  have e : nth mid ((mid.length : Int) - 1 - k) = mid[mid.length - 1 - k] := by
    rw [show (mid.length : Int) - 1 - k = ((mid.length - 1 - k : Nat) : Int) from by omega, nth_nat]
  unfold revG
  by_cases c : (k : Int) < r ∨ (mid.length : Int) - r ≤ k
  · rw [if_pos c, e]
  · rw [if_neg c]
    have : (k : Int) = (mid.length : Int) - 1 - k := by omega
    rw [this, e]
theorem revG_step (mid : List Int) (r q : Nat) (hq : (q : Int) = (mid.length : Int) - 1 - r) (hlt : r < q) :
    rowOf mid.length (fun x => if x = q then revG mid r r else if x = r then revG mid r q else revG mid r x) = rowOf mid.length (revG mid (r + 1)) := by
  apply rowOf_congr
  intro y hy
  have e1 : revG mid r r = nth mid r := by unfold revG; rw [if_neg (by omega)]
  have e2 : revG mid r q = nth mid q := by unfold revG; rw [if_neg (by omega)]
  by_cases c1 : (y : Int) = q
  · rw [if_pos c1, e1]
    unfold revG
    rw [if_pos (by omega)]
    congr 1; omega
  · rw [if_neg c1]
    by_cases c2 : (y : Int) = r
    · rw [if_pos c2, e2]
      unfold revG
      rw [if_pos (by omega)]
      congr 1; omega
    · rw [if_neg c2]
      unfold revG
      by_cases c3 : (y : Int) < r ∨ (mid.length : Int) - r ≤ y
      · rw [if_pos c3, if_pos (by omega)]
      · rw [if_neg c3, if_neg (by omega)]

/-- The cell of the middle part of a block. -/
theorem Blk.mid {w : World} {b : Nat} {t : TypeId} {pre post : List Value} {m : Nat} {g : Int → Int} (h : Blk w b t (pre ++ ((rowOf m g).map (Value.int .i64) ++ post))) {o : Nat} (ho : o = pre.length) (k : Nat) (hk : k < m) :
    w.cell? ⟨b, o + k, none⟩ = some (.int .i64 (g k)) := by
  subst ho
  rw [h.cell (by simp; omega), List.getElem_append_right (by omega), List.getElem_append_left (by simp; omega)]
  simp [rowOf]
theorem Blk.midSet {w : World} {b : Nat} {t : TypeId} {pre post : List Value} {m : Nat} {g : Int → Int} (h : Blk w b t (pre ++ ((rowOf m g).map (Value.int .i64) ++ post))) {o : Nat} (ho : o = pre.length) (k : Nat) (hk : k < m) (v : Int) :
    Blk (w.setCell ⟨b, o + k, none⟩ (.int .i64 v)) b t (pre ++ ((rowOf m (fun x => if x = k then v else g x)).map (Value.int .i64) ++ post)) := by
  have := h.set (o + k) (.int .i64 v)
  subst ho
  rw [List.set_append, if_neg (by omega), show pre.length + k - pre.length = k from by omega, List.set_append, if_pos (by simp; omega), ← List.map_set, rowOf_set] at this
  exact this

set_option maxRecDepth 100000 in
set_option maxHeartbeats 1000000 in
theorem c_Reverse (b o c : Nat) (mid : List Int) (pre post : List Value) (w : World) (ho : o = pre.length) (hm : mid.length ≤ 1048576) (hc : mid.length ≤ c) (hc2 : c ≤ 1048576) (h : Blk w b 2 (pre ++ (mid.map (Value.int .i64) ++ post))) :
    Calls Try.prog 179 #[.slice (some ⟨b, o, none⟩) mid.length c] w fun e w' => (∃ v, e = .returned v) ∧ Blk w' b 2 (pre ++ (mid.reverse.map (Value.int .i64) ++ post)) ∧ Keep (fun x => x = b) w w' := by
  rw [← revG_zero mid] at h
  have HO := Lib.hid ho
  go_enter Try.func179, Try.ntmps179
  go_wp2
  have HB0 := Lib.hid h; clear h ho
  go_loopw [2, 3] (fun i j wr => ∃ (r : Nat) (J : Int), i = .int .i64 r ∧ j = .int .i64 J ∧ Hid (J = mid.length - 1 - r) ∧ r ≤ mid.length ∧ -2000000 ≤ J ∧ J ≤ 1048576 ∧ Hid (Blk wr b 2 (pre ++ ((rowOf mid.length (revG mid r)).map (Value.int .i64) ++ post))) ∧ Hid (Keep (fun x => x = b) w wr)) (fun i _ _ => mid.length - (intOf i).toNat)
  case atStart => exact ⟨0, _, rfl, rfl, Lib.hid (by omega), by omega, by omega, by omega, HB0, Lib.hid (Keep.refl _ _)⟩
  case round =>
    clear HB0
    obtain ⟨r, J, rfl, rfl, HJ, hr, hJ0, hJ1, HB, HK⟩ := hrel
    by_cases hlt : (r : Int) < J
    · obtain ⟨q, rfl⟩ : ∃ q : Nat, J = q := ⟨J.toNat, by omega⟩
      have hq1 : q < mid.length := by have := HJ.out; omega
      have hr1 : r < mid.length := by omega
      have h1 := HB.out.mid HO.out r hr1
      have h2 := HB.out.mid HO.out q hq1
      have f1 := HB.out.frozen (o + r)
      have f2 := HB.out.frozen (o + q)
      go_wp2
      go_region
      go_wp2
      go_roundw
      case rel =>
        refine ⟨r + 1, _, by go_num, rfl, Lib.hid (by have := HJ.out; omega), by omega, by omega, by omega, Lib.hid ?_, Lib.hid ?_⟩
        · have hb2 := (HB.out.midSet HO.out r hr1 (revG mid r q)).midSet HO.out q hq1 (revG mid r r)
          rw [revG_step mid r q HJ.out (by omega)] at hb2
          exact hb2
        · exact ((HK.out.setCell (p := ⟨b, o + r, none⟩) (.inl rfl) _).setCell (p := ⟨b, o + q, none⟩) (.inl rfl) _).drew
      case measure => simp [intOf]; omega
    · have hge : J ≤ (r : Int) := by omega
      clear hlt
      go_wp2
      go_end0
      refine ⟨⟨_, rfl⟩, ?_, HK.out⟩
      have := HB.out
      rwa [revG_done mid r (by have := HJ.out; omega)] at this
theorem c_Reverse' (b o c L : Nat) (mid : List Int) (pre post : List Value) (w : World) (hL : mid.length = L) (ho : o = pre.length) (hm : mid.length ≤ 1048576) (hc : mid.length ≤ c) (hc2 : c ≤ 1048576) (h : Blk w b 2 (pre ++ (mid.map (Value.int .i64) ++ post))) :
    Calls Try.prog 179 #[.slice (some ⟨b, o, none⟩) L c] w fun e w' => (∃ v, e = .returned v) ∧ Blk w' b 2 (pre ++ (mid.reverse.map (Value.int .i64) ++ post)) ∧ Keep (fun x => x = b) w w' := by
  subst hL; exact c_Reverse b o c mid pre post w ho hm hc hc2 h

theorem split_at (p : List Int) (m q : Nat) (h1 : m < q) (h2 : q < p.length) :
    ∃ (u d1 d2 : List Int) (a b : Int), p = u ++ a :: (d1 ++ b :: d2) ∧ u.length = m ∧ d1.length = q - m - 1 ∧ a = nth p m ∧ b = nth p q ∧ ∀ x ∈ d2, ∃ j : Nat, q < j ∧ j < p.length ∧ nth p j = x := by
  refine ⟨p.take m, (p.drop (m + 1)).take (q - m - 1), p.drop (q + 1), nth p m, nth p q, ?_, by simp; omega, by simp; omega, rfl, rfl, fun x hx => ?_⟩
  · have e1 : p = p.take m ++ p.drop m := (List.take_append_drop m p).symm
    have e2 : p.drop m = nth p m :: p.drop (m + 1) := by rw [List.drop_eq_getElem_cons (by omega), nth_nat _ _ (by omega)]
    have e3 : p.drop (m + 1) = (p.drop (m + 1)).take (q - m - 1) ++ (p.drop (m + 1)).drop (q - m - 1) := (List.take_append_drop _ _).symm
    have e4 : (p.drop (m + 1)).drop (q - m - 1) = nth p q :: p.drop (q + 1) := by
      rw [List.drop_drop, show m + 1 + (q - m - 1) = q from by omega, List.drop_eq_getElem_cons h2, nth_nat _ _ h2]
    rw [e4] at e3
    rw [e3] at e2
    rw [e2] at e1
    exact e1
  · obtain ⟨k, hk, rfl⟩ := List.getElem_of_mem hx
    have hk' : q + 1 + k < p.length := by simp at hk; omega
    refine ⟨q + 1 + k, by omega, hk', ?_⟩
    rw [nth_nat _ _ hk', List.getElem_drop]
theorem swap_split {p u d1 d2 : List Int} {a b : Int} {m q : Nat} (hpe : p = u ++ a :: (d1 ++ b :: d2)) (hu : u.length = m) (hd : d1.length = q - m - 1) (h : m < q) :
    ((p.map (Value.int .i64)).set m (.int .i64 b)).set q (.int .i64 a) = (u ++ [b]).map (Value.int .i64) ++ ((d1 ++ a :: d2).map (Value.int .i64) ++ []) := by
  subst hpe hu
  obtain rfl : q = u.length + (d1.length + 1) := by omega
  simp [List.set_append]
theorem drop_split {p u r : List Int} {a : Int} {m : Nat} (hpe : p = u ++ a :: r) (hu : u.length = m) : p.drop (m + 1) = r := by
  subst hpe hu
  rw [List.drop_append, List.drop_of_length_le (by omega), show u.length + 1 - u.length = 1 from by omega]
  rfl

def NextPost (b : Nat) (p : List Int) (w0 : World) (e : Ending) (w' : World) : Prop :=
  (∃ q, IsNext p q ∧ e = .returned (.bool true) ∧ Blk w' b 2 (q.map (Value.int .i64)) ∧ Keep (fun x => x = b) w0 w') ∨ (Desc p ∧ e = .returned (.bool false) ∧ Keep (fun x => x = b) w0 w')
theorem desc_step {p : List Int} {m : Nat} (h : m + 1 < p.length) (hd : Desc (p.drop (m + 1))) (hgt : nth p (m + 1 : Nat) < nth p m) : Desc (p.drop m) := by
  rw [List.drop_eq_getElem_cons (by omega)]
  refine List.pairwise_cons.2 ⟨fun x hx => ?_, hd⟩
  have h0 := hd
  rw [List.drop_eq_getElem_cons h] at hx h0
  rw [nth_nat _ _ h, nth_nat _ _ (by omega)] at hgt
  rcases List.mem_cons.1 hx with e | e
  · subst e; exact hgt
  · have := (List.pairwise_cons.1 h0).1 x e; omega

set_option maxRecDepth 100000 in
set_option maxHeartbeats 2000000 in
theorem c_nextPermutation (b : Nat) (p : List Int) (w : World) (hp : Permuted p) (h1 : 1 ≤ p.length) (hn : p.length ≤ 1048576) (h : Blk w b 2 (p.map (Value.int .i64))) :
    Calls Try.prog 161 #[.slice (some ⟨b, 0, none⟩) p.length p.length] w (NextPost b p w) := by
  have HP := Lib.hid hp; have HBk := Lib.hid h; clear h hp
  go_enter Try.func161, Try.ntmps161
  go_wp2
  go_loopw [3] (fun i wr => ∃ I : Int, i = .int .i64 I ∧ -1 ≤ I ∧ I ≤ (p.length : Int) - 2 ∧ Hid (∃ n, wr = w.drewN n) ∧ Hid (Desc (p.drop (I + 1).toNat))) (fun i _ => (intOf i + 1).toNat)
  case atStart =>
    refine ⟨_, rfl, by omega, by omega, Lib.hid ⟨0, rfl⟩, Lib.hid ?_⟩
    rw [show ((p.length : Int) - 2 + 1).toNat = p.length - 1 from by omega, List.drop_eq_getElem_cons (by omega), List.drop_of_length_le (by omega)]
    exact List.pairwise_singleton _ _
  case round =>
    obtain ⟨I, rfl, hI0, hI1, HN, HD⟩ := hrel
    by_cases h0 : 0 ≤ I
    · obtain ⟨m, rfl⟩ : ∃ m : Nat, I = m := ⟨I.toNat, by omega⟩
      have hb : Blk wr b 2 (p.map (Value.int .i64)) := by obtain ⟨n, hn⟩ := HN.out; rw [hn]; exact HBk.out.drewN n
      have k1 : wr.cell? ⟨b, m, none⟩ = some (.int .i64 (nth p m)) := by rw [hb.cell (by simp; omega)]; simp [nth_nat _ _ (show m < p.length by omega)]
      have k2 : wr.cell? ⟨b, m + 1, none⟩ = some (.int .i64 (nth p ((m : Int) + 1))) := by
        rw [hb.cell (by simp; omega), show (m : Int) + 1 = ((m + 1 : Nat) : Int) from by omega, nth_nat _ _ (show m + 1 < p.length by omega)]; simp
      have hm1 : (m : Int) < p.length := by omega
      have hm2 : (m : Int) + 1 < p.length := by omega
      have hm3 : (0 : Int) ≤ (m : Int) + 1 := by omega
      have Hb := Lib.hid hb
      clear hb
      obtain ⟨wo, rfl⟩ : ∃ wo : World, wo = wr := ⟨_, rfl⟩
      by_cases hc : nth p ((m : Int) + 1) < nth p m
      · have hc1 : decide (nth p ((m : Int) + 1) < nth p m) = true := by simp [hc]
        have HC := Lib.hid hc; clear hc
        go_wp2
        go_quiet (fail)
        go_wp2
        go_roundw
        case rel =>
          refine ⟨_, rfl, by omega, by omega, by obtain ⟨n, hn⟩ := HN.out; exact Lib.hid ⟨n + _, by rw [hn]; exact World.drewN_drewN w n _⟩, Lib.hid ?_⟩
          rw [show ((m : Int) - 1 + 1).toNat = m from by omega]
          refine desc_step (by omega) ?_ ?_
          · have h := HD.out; rwa [show ((m : Int) + 1).toNat = m + 1 from by omega] at h
          · have h := HC.out; rwa [show ((m + 1 : Nat) : Int) = (m : Int) + 1 from by omega]
        case measure => simp [intOf] <;> omega
      · have hc1 : decide (nth p ((m : Int) + 1) < nth p m) = false := by simp; omega
        have HC := Lib.hid hc; clear hc
        go_wp2
        go_quiet (fail)
        go_wp2
        go_loopw [4] (fun kk wr => ∃ q : Nat, kk = .int .i64 q ∧ m + 1 ≤ q ∧ q < p.length ∧ Hid (∃ n, wr = wo.drewN n) ∧ Hid (∀ j : Nat, q < j → j < p.length → nth p j < nth p m)) (fun kk _ => (intOf kk).toNat)
        case atStart => exact ⟨p.length - 1, by congr 1; omega, by omega, by omega, Lib.hid ⟨_, rfl⟩, Lib.hid (by intro j h1 h2; omega)⟩
        case round =>
          obtain ⟨q, rfl, hq0, hq1, HN2, HA⟩ := hrel
          have hb2 : Blk wr b 2 (p.map (Value.int .i64)) := by obtain ⟨n, hn⟩ := HN2.out; rw [hn]; exact Hb.out.drewN n
          have k1 : wr.cell? ⟨b, m, none⟩ = some (.int .i64 (nth p m)) := by rw [hb2.cell (by simp; omega)]; simp [nth_nat _ _ (show m < p.length by omega)]
          have k3 : wr.cell? ⟨b, q, none⟩ = some (.int .i64 (nth p q)) := by rw [hb2.cell (by simp; omega)]; simp [nth_nat _ _ (show q < p.length by omega)]
          have f1 := hb2.frozen m
          have f3 := hb2.frozen q
          have Hb2 := Lib.hid hb2; clear hb2
          by_cases hd : nth p q < nth p m
          · have hd1 : decide (nth p q < nth p m) = true := by simp [hd]
            have hq2 : m + 1 < q := by
              rcases Nat.lt_or_ge (m + 1) q with h | h
              · exact h
              · have : q = m + 1 := by omega
                subst this
                have h2 := HC.out
                rw [show ((m + 1 : Nat) : Int) = (m : Int) + 1 from by omega] at hd
                omega
            have HD2 := Lib.hid hd; clear hd
            go_wp2
            go_quiet (fail)
            go_wp2
            go_roundw
            case rel =>
              refine ⟨q - 1, by congr 1; omega, by omega, by omega, by obtain ⟨n, hn⟩ := HN2.out; exact Lib.hid ⟨n + _, by rw [hn]; exact World.drewN_drewN wo n _⟩, Lib.hid fun j h1 h2 => ?_⟩
              by_cases e : j = q
              · subst e; exact HD2.out
              · exact HA.out j (by omega) h2
            case measure => simp [intOf]; omega
          · have hd1 : decide (nth p q < nth p m) = false := by simp; omega
            have HD2 := Lib.hid hd; clear hd
            go_wp2
            go_quiet (fail)
            obtain ⟨W, hW⟩ : ∃ W, wr.drewN nq = W := ⟨_, rfl⟩
            have hbW : Blk W b 2 (p.map (Value.int .i64)) := by rw [← hW]; exact Hb2.out.drewN nq
            have hkW : Keep (fun x => x = b) w W := by
              obtain ⟨n1, e1⟩ := HN.out; obtain ⟨n2, e2⟩ := HN2.out
              rw [← hW, e2, e1]; exact (((Keep.refl _ w).drewN n1).drewN n2).drewN nq
            rw [hW]
            clear k1 k2 k3 f1 f3 hW
            have g1 : W.cell? ⟨b, m, none⟩ = some (.int .i64 (nth p m)) := by rw [hbW.cell (by simp; omega)]; simp [nth_nat _ _ (show m < p.length by omega)]
            have g3 : W.cell? ⟨b, q, none⟩ = some (.int .i64 (nth p q)) := by rw [hbW.cell (by simp; omega)]; simp [nth_nat _ _ (show q < p.length by omega)]
            have f1 := hbW.frozen m
            have f3 := hbW.frozen q
            have hqI : (q : Int) < p.length := by omega
            obtain ⟨u, d1, d2, a, c, hpe, hu, hdl, rfl, rfl, hlt⟩ := split_at p m q (by omega) hq1
            have hac : nth p m < nth p q := by
              have h1 := HD2.out
              have h2 : nth p m ≠ nth p q := fun e => by
                have := HP.out.inj (x := m) (y := q) (by omega) (by omega) (by omega) (by omega) e
                omega
              omega
            have hnext : IsNext p (u ++ nth p q :: (d1 ++ nth p m :: d2).reverse) := by
              refine ⟨u, d1, d2, _, _, hpe, rfl, ?_, hac, fun x hx => ?_⟩
              · have h := HD.out
                rw [show ((m : Int) + 1).toNat = m + 1 from by omega, drop_split hpe hu] at h
                exact h
              · obtain ⟨j, h1, h2, rfl⟩ := hlt x hx
                exact HA.out j h1 h2
            have hset := (hbW.set m (.int .i64 (nth p q))).set q (.int .i64 (nth p m))
            rw [swap_split hpe hu hdl (by omega)] at hset
            have hml : (d1 ++ nth p m :: d2).length = p.length - (m + 1) := by
              have := congrArg List.length hpe
              simp at this ⊢; omega
            have HX := Lib.hid hnext; have HS := Lib.hid hset.drew; have HM := Lib.hid hml; have HKW := Lib.hid hkW
            have hpl : ((u ++ [nth p q]).map (Value.int .i64)).length = m + 1 := by simp [hu]
            have HPL := Lib.hid hpl; skip
            clear hpe hu hdl hlt hac hnext hset hml hpl hbW hkW
            go_wp2
            go_region
            have e1 : p.length - (m + 1) = p.length - (m + 1) := rfl
            obtain ⟨W2, hW2⟩ : ∃ W2, ((W.setCell ⟨b, m, none⟩ (.int .i64 (nth p q))).setCell ⟨b, q, none⟩ (.int .i64 (nth p m))).drew = W2 := ⟨_, rfl⟩
            have HK2 : Hid (Keep (fun x => x = b) w W2) := by
              show Keep _ _ _
              rw [← hW2]
              exact ((HKW.out.setCell (p := ⟨b, m, none⟩) (.inl rfl) _).setCell (p := ⟨b, q, none⟩) (.inl rfl) _).drew
            rw [hW2] at HS ⊢
            clear hW2 g1 g3 f1 f3
            go_wp2_with fail
            refine (c_Reverse' b (m + 1) _ _ (d1 ++ nth p m :: d2) ((u ++ [nth p q]).map (Value.int .i64)) [] W2 HM.out HPL.out.symm (by rw [HM.out]; omega) (by rw [HM.out]; omega) (by omega) HS.out).mono ?_; rintro e w' ⟨⟨v, rfl⟩, hbk, hkk⟩
            have HBK := Lib.hid hbk; have HKK := Lib.hid hkk; clear hbk hkk
            go_wp2
            go_ret
            refine .inl ⟨_, HX.out, rfl, by simpa using HBK.out, HK2.out.trans ?_⟩
            exact HKK.out
    · have hd : decide (0 ≤ I) = false := by simp; omega
      have hlt : I < 0 := by omega
      have HI : Hid (I = -1) := by show _ = _; omega
      clear h0
      go_wp2
      go_quiet (fail)
      go_wp2
      go_ret
      refine .inr ⟨?_, rfl, ?_⟩
      · have h := HD.out; rw [HI.out] at h; simpa using h
      · obtain ⟨n1, e1⟩ := HN.out; rw [e1]; exact ((Keep.refl _ w).drewN n1).drewN _
end Go.Proofs.Ytkcobfkmeaakoaa

namespace Go.Proofs.Ytkcobfkmeaakoaa
open Go Go.RowKit Go.Shelf
attribute [local go_sem] Oper.semAt_some

set_option maxHeartbeats 400000 in
theorem c_identityB (n : Nat) (w : World) (hn : n ≤ 1048576) :
    Calls Try.prog 110 #[.int .i64 n] w (fun e w' => ∃ g, e = .returned (.slice (some ⟨g, 0, none⟩) n n) ∧ w.heap.size ≤ g ∧ Blk w' g 2 ((iota n).map (Value.int .i64)) ∧ Below w.heap.size w w') := by
  have hmk := run_make_row' (P := Try.prog) 25 2 (.int .i64 0) 8 Try.underlying25 inf_int64 rfl .i64 .i64 n (by omega) (by omega)
  go_enter Try.func110, Try.ntmps110
  go_wp2
  have hB0 : Below w.heap.size w (w.alloc (.cells (madeCells #[.int .i64 0] n) 2)) := (Below.refl _ _).alloc (Nat.le_refl _) _
  have hK0 : Blk (w.alloc (.cells (madeCells #[.int .i64 0] n) 2)) w.heap.size 2 (((iota n).take 0).map (Value.int .i64) ++ (List.replicate n (Value.int .i64 0)).drop 0) := by
    simpa using Blk.made w (.int .i64 0) n 2
  clear hmk
  go_loopw [9, 4] (fun i _ wr => ∃ k : Nat, k ≤ n ∧ i = .int .i64 k ∧ Below w.heap.size w wr ∧ Blk wr w.heap.size 2 (((iota n).take k).map (Value.int .i64) ++ (List.replicate n (Value.int .i64 0)).drop k)) (fun i _ _ => n - (intOf i).toNat)
  case atStart => exact ⟨0, Nat.zero_le _, rfl, hB0, hK0⟩
  case round =>
    clear hB0 hK0
    obtain ⟨k, hk, rfl, hb, hblk⟩ := hrel
    by_cases hlt : k < n
    · obtain ⟨u, h2⟩ := fill_cell0 hblk (k := k) (by simp; omega)
      have h3 := hblk.frozen k
      have hk0 : (0 : Int) ≤ k := by omega
      have hk1 : (k : Int) < n := by omega
      have Hb := Lib.hid hb; have Hblk := Lib.hid hblk; clear hb hblk
      go_wp2
      go_roundw
      case rel =>
        refine ⟨k + 1, by omega, by go_num, Hb.out.setCell (p := ⟨w.heap.size, k, none⟩) (Nat.le_refl _) _, ?_⟩
        have := Hblk.out.set k (.int .i64 k)
        rwa [fill_set _ _ (by simpa using hlt) _ (by simp) _ (nth_iota n k hk0 hk1).symm] at this
      case measure => simp [intOf]; omega
    · have Hb := Lib.hid hb; have Hblk := Lib.hid hblk; clear hb hblk
      obtain rfl : k = n := by omega
      go_wp2
      go_ret
      have hr := Hblk.out
      rw [fill_done _ _ (by simp)] at hr
      exact ⟨_, rfl, Nat.le_refl _, hr, Hb.out⟩

theorem allPerms_inj {n i j : Nat} (hi : i < (allPerms n).length) (hj : j < (allPerms n).length) (h : row (allPerms n) i = row (allPerms n) j) : i = j := by
  rcases Nat.lt_trichotomy i j with g | g | g
  · have := allPerms_lt g hj; rw [h, lexB_irrefl] at this; cases this
  · exact g
  · have := allPerms_lt g hi; rw [h, lexB_irrefl] at this; cases this
/-- Which permutation lies in block b? -/
noncomputable def permAt (n b : Nat) (W : World) : Nat := Classical.epsilon fun k => k < (allPerms n).length ∧ Blk W b 2 ((row (allPerms n) k).map (Value.int .i64))
theorem permAt_eq {n b k : Nat} {W : World} (hk : k < (allPerms n).length) (h : Blk W b 2 ((row (allPerms n) k).map (Value.int .i64))) : permAt n b W = k := by
  have hs := Classical.epsilon_spec (p := fun k => k < (allPerms n).length ∧ Blk W b 2 ((row (allPerms n) k).map (Value.int .i64))) ⟨k, hk, h⟩
  refine allPerms_inj hs.1 hk ?_
  have h1 : some (Obj.cells ((row (allPerms n) (permAt n b W : Nat)).map (Value.int .i64)).toArray 2 (0, 0)) = some (Obj.cells ((row (allPerms n) k).map (Value.int .i64)).toArray 2 (0, 0)) := hs.2.symm.trans h
  simp only [Option.some.injEq, Obj.cells.injEq, and_true] at h1
  have h2 := congrArg Array.toList h1
  simp only at h2
  exact (List.map_inj_right (fun a b e => by injection e)).1 h2

set_option maxRecDepth 100000 in
set_option maxHeartbeats 1600000 in
theorem c_perms1 (N : Nat) (hN0 : 1 ≤ N) (hN : N ≤ 1048576) (n Bs : Nat) (w : World) (hbox : w.cell? ⟨Bs, 0, none⟩ = some (.int .i64 N)) :
    SeqRows Fence.wide n Try.prog 160 #[.pointer (some ⟨Bs, 0, none⟩)] (allPerms N) w := by
  intro l J Jx W1 hb hJ hJx h0 hY
  have hbox1 := cell_under hb hbox
  refine callsIn_of_wp Try.func160 rfl trivial ?_ rfl
  simp only [Try.ntmps160, List.size_toArray, List.length_cons, List.length_nil, Nat.reduceAdd, Nat.reduceSub, Array.replicate_succ, Array.replicate_zero, List.push_toArray, List.append_toArray, List.nil_append, List.cons_append]
  gi_wp2_with (refine ⟨trivial, fun h => (by cases h), ?_⟩; gi_at_call 110; refine (callsIn_wide.2 (c_identityB N _ hN)).mono ?_; rintro e W2 ⟨pb, rfl, hpb, hblk, hb2⟩)
  have hfirst := allPerms_first N
  have hJ0 := h0 W2 hb2
  have hlt := hblk.lt
  have hlen0 : ∀ k : Nat, k < (allPerms N).length → (row (allPerms N) k).length = N := fun k hk => (allPerms_row hk).2
  have hblk0 : Blk W2 pb 2 ((row (allPerms N) (0 : Nat)).map (Value.int .i64)) := by rw [hfirst.2]; exact hblk
  have HJ := Lib.hid hJ0; have HBk := Lib.hid hblk0; have HF := Lib.hid hfirst; have HLen := Lib.hid hlen0; have HSt := Lib.hid hJ; have HY := Lib.hid hY; have HSz := Lib.hid hb2.size
  clear hJ0 hblk0 hfirst hlen0 hJ hJx h0 hY hbox hbox1 hb hb2 hblk
  obtain ⟨hi, HHi⟩ : ∃ hi, Hid (hi = W2.heap.size) := ⟨_, rfl⟩
  rw [← HHi.out] at hlt HJ HSz
  gi_loopw [] (fun wr => ∃ k : Nat, Hid (k < (allPerms N).length) ∧ Hid (J hi k wr) ∧ Hid (Blk wr pb 2 ((row (allPerms N) k).map (Value.int .i64))) ∧ Hid (hi ≤ wr.heap.size)) (fun wr => (allPerms N).length - permAt N pb wr)
  case atStart => exact ⟨0, Lib.hid HF.out.1, HJ, HBk, Lib.hid (by rw [HHi.out]; exact Nat.le_refl _)⟩
  case round =>
    clear HJ HBk HF
    obtain ⟨k, HK, HJ, HBk, HS⟩ := hrel
    have hInts : Ints wr (.slice (some ⟨pb, 0, none⟩) N N) (row (allPerms N) k) := by
      have hl := HLen.out k HK.out
      exact (Own.of_blk HBk.out hpb (by rw [hl]; simp [maxLen]; omega) hl.symm hl.symm).ints
    obtain ⟨fn, tmps, assign, body, hy, hR⟩ := HY.out hi k _ wr HJ.out HSz.out HS.out HK.out hInts
    have HM := Lib.hid (permAt_eq HK.out HBk.out)
    clear hInts
    gi_wp2
    refine ⟨fun h => (by cases h), hR.mono ?_⟩
    rintro e W3 (⟨rfl, hJ3, hk3⟩ | ⟨rfl, hJx3⟩)
    · have hblk3 : Blk W3 pb 2 ((row (allPerms N) k).map (Value.int .i64)) := HBk.out.of_block (hk3.block pb HBk.out.lt (by omega))
      have HB3 := Lib.hid hblk3; have HJ3 := Lib.hid hJ3; have HS3 := Lib.hid (Nat.le_trans HS.out hk3.size)
      clear hblk3 hJ3 hk3 hR hy
      have hnx := fun (h : (row (allPerms N) k).length = N) => by
        have := c_nextPermutation pb (row (allPerms N) k) W3 (allPerms_row HK.out).1 (by omega) (by omega) HB3.out
        rw [h] at this
        exact this
      have HN := Lib.hid (hnx (HLen.out k HK.out))
      clear hnx
      gi_wp2_with (refine ⟨trivial, fun h => (by cases h), ?_⟩; gi_at_call 161; refine (callsIn_wide.2 HN.out).mono ?_; rintro e W4 (⟨q, hq, rfl, hblk4, hk4⟩ | ⟨hd, rfl, hk4⟩))
      · obtain ⟨h1, h2⟩ := allPerms_next HK.out hq
        have hJ4 := HSt.out hi (k + 1) W3 W4 HJ3.out (hk4.mono fun b _ e => by subst e; exact ⟨hpb, hlt⟩)
        rw [← h2] at hblk4
        have HM4 := Lib.hid (permAt_eq h1 hblk4)
        have HB4 := Lib.hid hblk4; have HJ4 := Lib.hid hJ4; have HS4 := Lib.hid (Nat.le_trans HS3.out hk4.size); have HK4 := Lib.hid h1
        clear hq hblk4 hk4 h1 h2 hJ4
        gi_wp2
        go_roundw
        case rel => exact ⟨k + 1, HK4, HJ4, HB4, HS4⟩
        case measure => rw [HM.out, HM4.out]; have := HK4.out; omega
      · have hl := allPerms_last HK.out hd
        have hJ4 := HSt.out hi (k + 1) W3 W4 HJ3.out (hk4.mono fun b _ e => by subst e; exact ⟨hpb, hlt⟩)
        rw [hl] at hJ4
        have HJ4 := Lib.hid hJ4
        clear hJ4 hl hd hk4
        gi_wp2
        refine bodyPost_ret (results_none rfl _ _ _) rfl ?_
        exact ⟨⟨_, rfl⟩, .inl ⟨hi, HJ4.out⟩⟩
    · have HJx3 := Lib.hid hJx3
      clear hJx3
      gi_wp2
      go_end0
      exact ⟨⟨_, rfl⟩, .inr ⟨hi, k + 1, HJx3.out⟩⟩
end Go.Proofs.Ytkcobfkmeaakoaa

namespace Go.Proofs.Ytkcobfkmeaakoaa
open Go Go.RowKit Go.Shelf
attribute [local go_sem] Oper.semAt_some

theorem eg_permutations1 : ∀ args w, (callFunc 160 args).run Try.prog w = .ok (.enter 160 args) w := Go.Proofs.enters_of Try.func160 (by kernel_rfl) rfl
set_option maxHeartbeats 400000 in
theorem c_permutations (n : Int) (w : World) :
    Calls Try.prog 117 #[.int .i64 n] w (fun e w' => ∃ g, e = .returned (.func (.func 160) #[] #[.pointer (some ⟨g, 0, none⟩)]) ∧ w.heap.size ≤ g ∧ w'.cell? ⟨g, 0, none⟩ = some (.int .i64 n) ∧ Below w.heap.size w w') := by
  obtain ⟨f0, hW0, hsz⟩ := boxes1' w [.int .i64 n] 3
  have hf := one_cell f0
  have HW := Lib.hid hW0; have HF := Lib.hid hf
  clear f0 hW0 hsz hf
  go_enter Try.func117, Try.ntmps117
  go_wp2
  go_ret
  exact ⟨w.heap.size, rfl, Nat.le_refl _, HF.out, HW.out⟩

theorem stepIn_append {F : Fence} {n : Nat} {P : Program} {ops : Array Oper} {o : Oper} {a : Act} {K : Act → World → Prop} {Q : Exit → Act → World → Prop} {E : Prop} {W W' : World} {v' : Value} (hgd : o.guard = none) (hF : ∀ f, F.fn f) (s x : Operand) (t : TypeId)
    (ho : o.op = .call { callee := .builtin .append, args := #[s, x], argTypes := #[t, t] }) (hrun : (Builtin.append_ #[t, t] o.type #[a.eval s, a.eval x]).run P W = .ok v' W') (h : K (a.put o.dst v') W') :
    if Region.wanted o (yielded ops a.tmps) = true then Oper.wpIn F n P o a W K Q else E := by
  have hw : Region.wanted o (yielded ops a.tmps) = true := by simp [Region.wanted, hgd]
  rw [if_pos hw]
  refine ⟨fun f _ => hF f, ?_⟩
  rw [Oper.semAt_eq _ _ _ (by rw [ho]; intro c hc; cases hc)]
  unfold execOp
  simp only [ho, resolve, invoke, builtin, Sem.run_bind, Sem.run_pure, Result.andThen_ok, List.map_toArray, List.map_cons, List.map_nil, hrun]
  exact h

/-- 'append(s, u)' of one row: the run. -/
theorem run_app_row2 (B m : Nat) (w : World) (ty : TypeId) (v : Value) (xss : List (List Int)) (u : Value) (xs : List Int) (hown : OwnRowsIn B m w v xss) (hu : Own m w u xs) (hn : xss.length ≤ 1099511627776) (hB : B ≤ m) (hB2 : B ≤ w.heap.size) :
    ∃ g c' w', (Builtin.append_ #[22, 22] ty #[v, .slice (some ⟨w.heap.size, 0, none⟩) 1 1]).run Try.prog (w.alloc (.cells #[u] 25)) = .ok (.slice (some ⟨g, 0, none⟩) (xss.length + 1) c') w' ∧ OwnRows B w' (.slice (some ⟨g, 0, none⟩) (xss.length + 1) c') (xss ++ [xs]) ∧ Keep (fun b => v.ownBlock = some b) w w' := by
  obtain ⟨us, h1, h2, _, hlt⟩ := hown
  have h2' := rowvals_snoc h2 hlt hu hB
  have hlen := h2.len
  obtain ⟨ua, uc, hu1, _⟩ := hu.shape
  obtain ⟨i0, hi, hz0, hz1, hz2⟩ := info_parts inf_ints
  obtain ⟨g, cap, w', hr, h3, h4, h5, _⟩ := run_append_lies (P := Try.prog) (w.alloc (.cells #[u] 25)) 22 ty B 25 i0 (.slice none 0 0) 1 24 Try.underlying22 hi hz0 hz1 hz2 rfl (by decide) v us.length us (h1.alloc _) ⟨w.heap.size, 0, none⟩ 1 1 [u] rfl
    (by
      intro j u' hj
      match j, hj with
      | 0, hj => simp at hj; subst hj; simp [Addr.add])
    (by intro u' hu'; simp at hu'; subst hu'; subst hu1; rfl) (by decide) (by unfold maxLen; omega) (by omega) (by simp; omega) (w.heap.size + 1) (by simp)
  have hk := Keep.of_grown h4
  have hk2 : Keep (fun b => v.ownBlock = some b) w w' := ((Keep.refl _ w).alloc _).trans hk
  rw [hlen] at h3 hr
  exact ⟨g, cap, w', hr, ⟨us ++ [u], by simpa [hlen] using h3, rowvals_keepT h2' h1 hk2⟩, hk2⟩

end Go.Proofs.Ytkcobfkmeaakoaa
