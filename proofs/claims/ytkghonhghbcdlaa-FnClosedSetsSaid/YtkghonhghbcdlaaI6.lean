/-
  The first collision of a pair map: the program's and the reference's functions. Condition: a pair map.
-/
import Derived.Test.YtkghonhghbcdlaaT1
import Derived.Deep.RegionHeld3
namespace Go.Proofs.Ytkghonhghbcdlaa
set_option linter.unusedVariables false
set_option linter.unusedSimpArgs false
open Go.RowKit

def colP (A B : List (List Int)) (n a b : Nat) : Bool :=
  decide (a ≠ b) && (decide (val2 A (a / n : Nat) (a % n : Nat) = val2 A (b / n : Nat) (b % n : Nat)) && decide (val2 B (a / n : Nat) (a % n : Nat) = val2 B (b / n : Nat) (b % n : Nat)))
def quad (n : Nat) : Option (Nat × Nat) → List Int
  | none => []
  | some (a, b) => [((a / n : Nat) : Int), ((a % n : Nat) : Int), ((b / n : Nat) : Int), ((b % n : Nat) : Int)]
def collL (A B : List (List Int)) : List Int := quad A.length (find2 (A.length * A.length) (A.length * A.length) (colP A B A.length))
theorem quad_none {n : Nat} {x : Option (Nat × Nat)} (h : x = none) : quad n x = [] := by rw [h]; rfl
theorem collL_length (A B : List (List Int)) : (collL A B).length ≤ 4 := by
  unfold collL quad; split <;> simp

/-- A new list, nil if it is empty. -/
def RIntsN (w0 : World) (xs : List Int) (e : Ending) (w' : World) : Prop := ∃ r, e = .returned r ∧ Own w0.heap.size w' r xs ∧ Below w0.heap.size w0 w' ∧ (xs = [] → r = .slice none 0 0)

theorem div_lt_sq {a n : Nat} (h : a < n * n) : a / n < n := Nat.div_lt_of_lt_mul h
theorem divI {k n : Nat} (h : k < n * n) (hn : 1 ≤ n) : 0 ≤ (k : Int) / (n : Int) ∧ (k : Int) / (n : Int) < n ∧ 0 ≤ (k : Int) % (n : Int) ∧ (k : Int) % (n : Int) < n := by
  have h1 := div_lt_sq h
  have h2 := Nat.mod_lt k (show 0 < n by omega)
  have e1 : (k : Int) / (n : Int) = ((k / n : Nat) : Int) := (Int.natCast_ediv k n).symm
  have e2 : (k : Int) % (n : Int) = ((k % n : Nat) : Int) := (Int.natCast_emod k n).symm
  rw [e1, e2]; exact ⟨Int.natCast_nonneg _, Int.ofNat_lt.2 h1, Int.natCast_nonneg _, Int.ofNat_lt.2 h2⟩
theorem colP_eq {A B : List (List Int)} {n a b : Nat} {x y u v : Int} (h1 : x = (a : Int) / (n : Int)) (h2 : y = (a : Int) % (n : Int)) (h3 : u = (b : Int) / (n : Int)) (h4 : v = (b : Int) % (n : Int)) :
    colP A B n a b = (decide (a ≠ b) && (decide (val2 A x y = val2 A u v) && decide (val2 B x y = val2 B u v))) := by
  subst h1 h2 h3 h4
  unfold colP
  rw [Int.natCast_ediv, Int.natCast_emod, Int.natCast_ediv, Int.natCast_emod]
theorem quad_eq {n a b : Nat} {x y u v : Int} (h1 : x = (a : Int) / (n : Int)) (h2 : y = (a : Int) % (n : Int)) (h3 : u = (b : Int) / (n : Int)) (h4 : v = (b : Int) % (n : Int)) : quad n (some (a, b)) = [x, y, u, v] := by
  subst h1 h2 h3 h4
  unfold quad
  simp only [Int.natCast_ediv, Int.natCast_emod]
theorem nz_of {n : Nat} (h : 1 ≤ n) : ((n : Int) == 0) = false := by simp; omega

set_option maxRecDepth 100000 in
set_option maxHeartbeats 800000 in
theorem c_l02Collision (v0 u0 : Value) (A B : List (List Int)) (w : World) (hA : Sol w v0 u0 A B) (hp : isPM A B = true) :
    Calls Try.prog 93 #[.agg #[v0, u0]] w (RInts w (collL A B)) := by
  obtain ⟨n0, b0, o0, c0, rb0, ro0, rc0, b0s, o0s, c0s, rb0s, ro0s, rc0s, rfl, rfl, hl0, hl0s, hn0, hx0, hc0, hm0, hc0s, hm0s, t0, t0s⟩ := hA.tabs hp
  have HL0 := Lib.hid hl0; clear hl0
  have HL0s := Lib.hid hl0s; clear hl0s
  go_enter Try.func93, Try.ntmps93
  go_wp2
  obtain ⟨f0, hW0, hsz⟩ := boxes1 w [.slice (some ⟨b0, o0, none⟩) n0 c0, .slice (some ⟨b0s, o0s, none⟩) n0 c0s] 26
  obtain ⟨W0, hW⟩ : ∃ W, (w.alloc (.cells #[.slice (some ⟨b0, o0, none⟩) n0 c0, .slice (some ⟨b0s, o0s, none⟩) n0 c0s] 26)) = W := ⟨_, rfl⟩
  rw [hW] at f0 hW0 hsz ⊢
  have HSZ := Lib.hid hsz
  clear hW hsz
  obtain ⟨cA0, cB0, -, -⟩ := two_cells f0
  replace t0 := t0.below hW0; replace t0s := t0s.below hW0
  have HT := Lib.hid t0; have HTs := Lib.hid t0s; have HW := Lib.hid hW0; have HF := Lib.hid f0
  clear t0 t0s hA hp hW0 f0 cA0 cB0
  have hnn : n0 * n0 ≤ 144 := Nat.mul_le_mul hx0 hx0
  have hnnI : (n0 : Int) * n0 ≤ 144 := by exact_mod_cast hnn
  have hnnJ : (0 : Int) ≤ (n0 : Int) * n0 := by exact_mod_cast Nat.zero_le _
  go_loopw [4, 5, 6, 7, 8, 9] (fun a _ _ _ _ _ wr => ∃ k : Nat, k ≤ n0 * n0 ∧ a = .int .i64 k ∧ Hid (Below W0.heap.size W0 wr) ∧ Hid (∀ x, x < k → ∀ y, y < n0 * n0 → colP A B n0 x y = false)) (fun x _ _ _ _ _ _ => n0 * n0 - (intOf x).toNat)
  case atStart => exact ⟨0, Nat.zero_le _, rfl, Lib.hid (Below.refl _ _), Lib.hid (by intro x hx; omega)⟩
  case round =>
    obtain ⟨k, hk, rfl, HB1, HA⟩ := hrel
    obtain ⟨wo, rfl⟩ : ∃ wo : World, wo = wr := ⟨_, rfl⟩
    by_cases hlt : k < n0 * n0
    · have hltI : (k : Int) < (n0 : Int) * n0 := by exact_mod_cast hlt
      go_wp2
      go_loopw [5, 6, 7, 8, 9] (fun b _ _ _ _ wr => ∃ j : Nat, j ≤ n0 * n0 ∧ b = .int .i64 j ∧ Hid (Below W0.heap.size W0 wr) ∧ Hid (∀ y, y < j → colP A B n0 k y = false)) (fun x _ _ _ _ _ => n0 * n0 - (intOf x).toNat)
      case atStart => exact ⟨0, Nat.zero_le _, rfl, HB1, Lib.hid (by intro x hx; omega)⟩
      case round =>
        obtain ⟨j, hj, rfl, HB2, HA2⟩ := hrel
        by_cases hlj : j < n0 * n0
        · have hljI : (j : Int) < (n0 : Int) * n0 := by exact_mod_cast hlj
          obtain ⟨d1, d2, d3, d4⟩ := divI hlt hn0
          obtain ⟨d5, d6, d7, d8⟩ := divI hlj hn0
          go_wp2
          go_quiet (fail)
          obtain ⟨x, hx⟩ : ∃ x : Int, x = (k : Int) / (n0 : Int) := ⟨_, rfl⟩
          obtain ⟨y, hy⟩ : ∃ x : Int, x = (k : Int) % (n0 : Int) := ⟨_, rfl⟩
          obtain ⟨u, hu⟩ : ∃ x : Int, x = (j : Int) / (n0 : Int) := ⟨_, rfl⟩
          obtain ⟨v, hv⟩ : ∃ x : Int, x = (j : Int) % (n0 : Int) := ⟨_, rfl⟩
          rw [← hx] at d1 d2; rw [← hy] at d3 d4; rw [← hu] at d5 d6; rw [← hv] at d7 d8
          rw [← hx, ← hy, ← hu, ← hv]
          have HC := Lib.hid (colP_eq (A := A) (B := B) hx hy hu hv)
          have HQ := Lib.hid (quad_eq hx hy hu hv)
          clear hx hy hu hv
          have T := HT.out.below HB2.out; have Ts := HTs.out.below HB2.out
          have r1 := T.rowi x d1 d2; have r2 := T.rowi u d5 d6; have r3 := Ts.rowi x d1 d2; have r4 := Ts.rowi u d5 d6
          have x1 := T.vali x y d1 d2 d3 d4; have x2 := T.vali u v d5 d6 d7 d8; have x3 := Ts.vali x y d1 d2 d3 d4; have x4 := Ts.vali u v d5 d6 d7 d8
          obtain ⟨cA2, cB2, -, -⟩ := two_cells (HF.out.under HB2.out)
          clear T Ts
          by_cases e1 : k = j
          · have g1 : ((k : Int) != (j : Int)) = false := by simp [e1]
            have E1 := Lib.hid e1; clear e1
            go_wp2
            go_quiet (fail)
            go_wp2
            go_roundw
            case rel => exact ⟨j + 1, by omega, by go_num, Lib.hid (below_drewN HB2.out _), Lib.hid (lt_snoc HA2.out (by rw [HC.out]; simp [E1.out]))⟩
            case measure => simp [intOf]; omega
          · have g1 : ((k : Int) != (j : Int)) = true := by simp; omega
            have E1 := Lib.hid e1; clear e1
            by_cases e2 : val2 A x y = val2 A u v
            · have g2 : (val2 A x y == val2 A u v) = true := by simp [e2]
              have E2 := Lib.hid e2; clear e2
              by_cases e3 : val2 B x y = val2 B u v
              · have g3 : (val2 B x y == val2 B u v) = true := by simp [e3]
                have E3 := Lib.hid e3; clear e3
                go_wp2
                go_quiet (fail)
                go_wp2
                go_ret
                have hr : collL A B = [x, y, u, v] := by
                  unfold collL
                  rw [HL0.out, find2_hit hlt hlj (P := colP A B n0) (by rw [HC.out]; simp [E1.out, E2.out, E3.out]) HA.out HA2.out, HQ.out]
                rw [hr]
                exact ⟨_, rfl, Own.of_blk (Blk.new _ [.int .i64 x, .int .i64 y, .int .i64 u, .int .i64 v] _) (bb HW.out HB2.out).size (by simp [maxLen]) rfl rfl, (bb HW.out (below_drewN HB2.out _)).alloc (bb HW.out HB2.out).size _⟩
              · have g3 : (val2 B x y == val2 B u v) = false := by simp [e3]
                have E3 := Lib.hid e3; clear e3
                go_wp2
                go_quiet (fail)
                go_wp2
                go_roundw
                case rel => exact ⟨j + 1, by omega, by go_num, Lib.hid (below_drewN HB2.out _), Lib.hid (lt_snoc HA2.out (by rw [HC.out]; simp [E3.out]))⟩
                case measure => simp [intOf]; omega
            · have g2 : (val2 A x y == val2 A u v) = false := by simp [e2]
              have E2 := Lib.hid e2; clear e2
              go_wp2
              go_quiet (fail)
              go_wp2
              go_roundw
              case rel => exact ⟨j + 1, by omega, by go_num, Lib.hid (below_drewN HB2.out _), Lib.hid (lt_snoc HA2.out (by rw [HC.out]; simp [E2.out]))⟩
              case measure => simp [intOf]; omega
        · have e : j = n0 * n0 := by omega
          have hljI : ¬ ((j : Int) < (n0 : Int) * n0) := by rw [e]; push_cast; omega
          have HE := Lib.hid e; have HJ := Lib.hid hlj; have HLT := Lib.hid hlt
          clear hlj e hj
          go_wp2
          go_roundw
          case rel => exact ⟨k + 1, HLT.out, by go_num, HB2, Lib.hid (lt_snoc HA.out (by have h := HA2.out; rw [HE.out] at h; exact h))⟩
          case measure => have h := HLT.out; simp [intOf]; omega
    · go_wp2
      go_ret
      obtain rfl : k = n0 * n0 := by omega
      have hr : collL A B = [] := by
        unfold collL
        rw [HL0.out, find2_none HA.out]; rfl
      rw [hr]
      exact ⟨_, rfl, Own.made0 wo (bb HW.out HB1.out).size, (bb HW.out HB1.out).alloc (bb HW.out HB1.out).size _⟩

set_option maxRecDepth 100000 in
set_option maxHeartbeats 800000 in
theorem c_collisionOf (v0 u0 : Value) (A B : List (List Int)) (w : World) (hA : Sol w v0 u0 A B) (hp : isPM A B = true) :
    Calls Try.prog 56 #[.agg #[v0, u0]] w (RIntsN w (collL A B)) := by
  obtain ⟨n0, b0, o0, c0, rb0, ro0, rc0, b0s, o0s, c0s, rb0s, ro0s, rc0s, rfl, rfl, hl0, hl0s, hn0, hx0, hc0, hm0, hc0s, hm0s, t0, t0s⟩ := hA.tabs hp
  have HL0 := Lib.hid hl0; clear hl0
  have HL0s := Lib.hid hl0s; clear hl0s
  have hnn : n0 * n0 ≤ 144 := Nat.mul_le_mul hx0 hx0
  have hnnI : (n0 : Int) * n0 ≤ 144 := by exact_mod_cast hnn
  have hnnJ : (0 : Int) ≤ (n0 : Int) * n0 := by exact_mod_cast Nat.zero_le _
  go_enter Try.func56, Try.ntmps56
  go_wp2
  obtain ⟨f0, hW0, hsz⟩ := boxes1 w [.slice (some ⟨b0, o0, none⟩) n0 c0, .slice (some ⟨b0s, o0s, none⟩) n0 c0s] 26
  obtain ⟨W0, hW⟩ : ∃ W, (w.alloc (.cells #[.slice (some ⟨b0, o0, none⟩) n0 c0, .slice (some ⟨b0s, o0s, none⟩) n0 c0s] 26)) = W := ⟨_, rfl⟩
  rw [hW] at f0 hW0 hsz ⊢
  have HSZ := Lib.hid hsz
  clear hW hsz
  obtain ⟨cA0, cB0, -, -⟩ := two_cells f0
  replace t0 := t0.below hW0; replace t0s := t0s.below hW0
  have HT := Lib.hid t0; have HTs := Lib.hid t0s; have HW := Lib.hid hW0; have HF := Lib.hid f0
  clear t0 t0s hA hp hW0 f0 cA0 cB0
  go_loopw [16, 4, 5, 6, 7, 8, 9] (fun a _ _ _ _ _ _ wr => ∃ k : Nat, k ≤ n0 * n0 ∧ a = .int .i64 k ∧ Hid (Below W0.heap.size W0 wr) ∧ Hid (∀ x, x < k → ∀ y, y < n0 * n0 → colP A B n0 x y = false)) (fun x _ _ _ _ _ _ _ => n0 * n0 - (intOf x).toNat)
  case atStart => exact ⟨0, Nat.zero_le _, rfl, Lib.hid (Below.refl _ _), Lib.hid (by intro x hx; omega)⟩
  case round =>
    obtain ⟨k, hk, rfl, HB1, HA⟩ := hrel
    obtain ⟨wo, rfl⟩ : ∃ wo : World, wo = wr := ⟨_, rfl⟩
    by_cases hlt : k < n0 * n0
    · have hltI : (k : Int) < (n0 : Int) * n0 := by exact_mod_cast hlt
      obtain ⟨d1, d2, d3, d4⟩ := divI hlt hn0
      go_wp2
      go_quiet (fail)
      obtain ⟨x, hx⟩ : ∃ x : Int, x = (k : Int) / (n0 : Int) := ⟨_, rfl⟩
      obtain ⟨y, hy⟩ : ∃ x : Int, x = (k : Int) % (n0 : Int) := ⟨_, rfl⟩
      rw [← hx] at d1 d2; rw [← hy] at d3 d4
      rw [← hx, ← hy]
      have HX := Lib.hid hx; have HY := Lib.hid hy; clear hx hy
      go_wp2
      go_loopw [28, 7, 8, 9] (fun b _ _ _ wr => ∃ j : Nat, j ≤ n0 * n0 ∧ b = .int .i64 j ∧ Hid (Below W0.heap.size W0 wr) ∧ Hid (∀ y, y < j → colP A B n0 k y = false)) (fun x _ _ _ _ => n0 * n0 - (intOf x).toNat)
      case atStart => exact ⟨0, Nat.zero_le _, rfl, Lib.hid (below_drewN HB1.out _), Lib.hid (by intro x hx; omega)⟩
      case round =>
        obtain ⟨j, hj, rfl, HB2, HA2⟩ := hrel
        by_cases hlj : j < n0 * n0
        · have hljI : (j : Int) < (n0 : Int) * n0 := by exact_mod_cast hlj
          obtain ⟨d5, d6, d7, d8⟩ := divI hlj hn0
          go_wp2
          go_quiet (fail)
          obtain ⟨u, hu⟩ : ∃ x : Int, x = (j : Int) / (n0 : Int) := ⟨_, rfl⟩
          obtain ⟨v, hv⟩ : ∃ x : Int, x = (j : Int) % (n0 : Int) := ⟨_, rfl⟩
          rw [← hu] at d5 d6; rw [← hv] at d7 d8
          rw [← hu, ← hv]
          have HC := Lib.hid (colP_eq (A := A) (B := B) HX.out HY.out hu hv)
          have HQ := Lib.hid (quad_eq HX.out HY.out hu hv)
          clear hu hv
          have T := HT.out.below HB2.out; have Ts := HTs.out.below HB2.out
          have r1 := T.rowi x d1 d2; have r2 := T.rowi u d5 d6; have r3 := Ts.rowi x d1 d2; have r4 := Ts.rowi u d5 d6
          have x1 := T.vali x y d1 d2 d3 d4; have x2 := T.vali u v d5 d6 d7 d8; have x3 := Ts.vali x y d1 d2 d3 d4; have x4 := Ts.vali u v d5 d6 d7 d8
          obtain ⟨cA2, cB2, -, -⟩ := two_cells (HF.out.under HB2.out)
          clear T Ts
          by_cases e1 : k = j
          · have g1 : ((k : Int) != (j : Int)) = false := by simp [e1]
            have E1 := Lib.hid e1; clear e1
            go_wp2
            go_quiet (fail)
            go_wp2
            go_roundw
            case rel => exact ⟨j + 1, by omega, by go_num, Lib.hid (below_drewN HB2.out _), Lib.hid (lt_snoc HA2.out (by rw [HC.out]; simp [E1.out]))⟩
            case measure => simp [intOf]; omega
          · have g1 : ((k : Int) != (j : Int)) = true := by simp; omega
            have E1 := Lib.hid e1; clear e1
            by_cases e2 : val2 A x y = val2 A u v
            · have g2 : (val2 A x y == val2 A u v) = true := by simp [e2]
              have E2 := Lib.hid e2; clear e2
              by_cases e3 : val2 B x y = val2 B u v
              · have g3 : (val2 B x y == val2 B u v) = true := by simp [e3]
                have E3 := Lib.hid e3; clear e3
                go_wp2
                go_quiet (fail)
                go_wp2
                go_ret
                have hr : collL A B = [x, y, u, v] := by
                  unfold collL
                  rw [HL0.out, find2_hit hlt hlj (P := colP A B n0) (by rw [HC.out]; simp [E1.out, E2.out, E3.out]) HA.out HA2.out, HQ.out]
                rw [hr]
                exact ⟨_, rfl, Own.of_blk (Blk.new _ [.int .i64 x, .int .i64 y, .int .i64 u, .int .i64 v] _) (bb HW.out HB2.out).size (by simp [maxLen]) rfl rfl, (bb HW.out (below_drewN HB2.out _)).alloc (bb HW.out HB2.out).size _, fun h => by cases h⟩
              · have g3 : (val2 B x y == val2 B u v) = false := by simp [e3]
                have E3 := Lib.hid e3; clear e3
                go_wp2
                go_quiet (fail)
                go_wp2
                go_roundw
                case rel => exact ⟨j + 1, by omega, by go_num, Lib.hid (below_drewN HB2.out _), Lib.hid (lt_snoc HA2.out (by rw [HC.out]; simp [E3.out]))⟩
                case measure => simp [intOf]; omega
            · have g2 : (val2 A x y == val2 A u v) = false := by simp [e2]
              have E2 := Lib.hid e2; clear e2
              go_wp2
              go_quiet (fail)
              go_wp2
              go_roundw
              case rel => exact ⟨j + 1, by omega, by go_num, Lib.hid (below_drewN HB2.out _), Lib.hid (lt_snoc HA2.out (by rw [HC.out]; simp [E2.out]))⟩
              case measure => simp [intOf]; omega
        · have e : j = n0 * n0 := by omega
          have hljI : ¬ ((j : Int) < (n0 : Int) * n0) := by rw [e]; push_cast; omega
          have HE := Lib.hid e; have HJ := Lib.hid hlj; have HLT := Lib.hid hlt
          clear hlj e hj
          go_wp2
          go_roundw
          case rel => exact ⟨k + 1, HLT.out, by go_num, HB2, Lib.hid (lt_snoc HA.out (by have h := HA2.out; rw [HE.out] at h; exact h))⟩
          case measure => have h := HLT.out; simp [intOf]; omega
    · go_wp2
      go_ret
      obtain rfl : k = n0 * n0 := by omega
      have hr : collL A B = [] := by
        unfold collL
        rw [HL0.out, find2_none HA.out]; rfl
      rw [hr]
      exact ⟨_, rfl, Own.nil _ _, bb HW.out HB1.out, fun _ => rfl⟩
end Go.Proofs.Ytkghonhghbcdlaa
