/-
  The first fault of a table of a rack: the program's and the reference's functions. Condition: a table.
-/
import Derived.Test.YtdhbleiioagmlaaI6
namespace Go.Proofs.Ytdhbleiioagmlaa
open Go.RowKit

def rkP (T : List (List Int)) (x y z : Nat) : Bool := decide (val2 T x (val2 T y z) ≠ val2 T (val2 T x y) (val2 T x z))
def trip : Option (Nat × Nat × Nat) → List Int
  | none => []
  | some (a, b, c) => [(a : Int), (b : Int), (c : Int)]
def rkL (T : List (List Int)) : List Int := trip (find3 T.length (rkP T))
theorem trip_length (x : Option (Nat × Nat × Nat)) : (trip x).length ≤ 3 := by
  unfold trip; split <;> simp

set_option maxRecDepth 100000 in
set_option maxHeartbeats 800000 in
theorem c_l03Fault (v0 : Value) (T : List (List Int)) (w : World) (hT : Rows w v0 T) (hp : isTab T = true) :
    Calls Try.prog 102 #[v0] w (RIntsN w (rkL T)) := by
  obtain ⟨n0, b0, o0, c0, rb0, ro0, rc0, rfl, hl0, hn0, hx0, hc0, hm0, t0⟩ := hT.tab hp
  have HL0 := Lib.hid hl0; clear hl0
  go_enter Try.func102, Try.ntmps102
  go_wp2
  have HT := Lib.hid t0
  clear t0 hT hp
  go_loopw [4, 5, 6] (fun a _ _ wr => ∃ k : Nat, k ≤ n0 ∧ a = .int .i64 k ∧ Hid (Below w.heap.size w wr) ∧ Hid (∀ x, x < k → ∀ y, y < n0 → ∀ z, z < n0 → rkP T x y z = false)) (fun a _ _ _ => n0 - (intOf a).toNat)
  case atStart => exact ⟨0, Nat.zero_le _, rfl, Lib.hid (Below.refl _ _), Lib.hid (by intro x hx; omega)⟩
  case round =>
    obtain ⟨k, hk, rfl, HB1, HA1⟩ := hrel
    obtain ⟨wo, rfl⟩ : ∃ wo : World, wo = wr := ⟨_, rfl⟩
    by_cases hlt : k < n0
    · go_wp2
      go_loopw [5, 6] (fun a _ wr => ∃ j : Nat, j ≤ n0 ∧ a = .int .i64 j ∧ Hid (Below w.heap.size w wr) ∧ Hid (∀ y, y < j → ∀ z, z < n0 → rkP T k y z = false)) (fun a _ _ => n0 - (intOf a).toNat)
      case atStart => exact ⟨0, Nat.zero_le _, rfl, HB1, Lib.hid (by intro x hx; omega)⟩
      case round =>
        obtain ⟨j, hj, rfl, HB2, HA2⟩ := hrel
        obtain ⟨wp, rfl⟩ : ∃ wp : World, wp = wr := ⟨_, rfl⟩
        by_cases hlj : j < n0
        · go_wp2
          go_loopw [6] (fun a wr => ∃ m : Nat, m ≤ n0 ∧ a = .int .i64 m ∧ Hid (Below w.heap.size w wr) ∧ Hid (∀ z, z < m → rkP T k j z = false)) (fun a _ => n0 - (intOf a).toNat)
          case atStart => exact ⟨0, Nat.zero_le _, rfl, HB2, Lib.hid (by intro x hx; omega)⟩
          case round =>
            obtain ⟨m, hm, rfl, HB3, HA3⟩ := hrel
            by_cases hlm : m < n0
            · have T' := HT.out.below HB3.out
              have r1 := T'.row k hlt; have r2 := T'.row j hlj
              have x1 := T'.val j m hlj hlm; have x2 := T'.val k j hlt hlj; have x3 := T'.val k m hlt hlm
              obtain ⟨d1, d2⟩ := T'.rng j m (by omega) (by omega) (by omega) (by omega)
              obtain ⟨d3, d4⟩ := T'.rng k j (by omega) (by omega) (by omega) (by omega)
              obtain ⟨d5, d6⟩ := T'.rng k m (by omega) (by omega) (by omega) (by omega)
              have x4 := T'.vni k (val2 T j m) hlt d1 d2
              have r3 := T'.rowi (val2 T k j) d3 d4
              have x5 := T'.vali (val2 T k j) (val2 T k m) d3 d4 d5 d6
              have hk0 : (0 : Int) ≤ k := by omega
              have hk1 : (k : Int) < n0 := by omega
              have hj0 : (0 : Int) ≤ j := by omega
              have hj1 : (j : Int) < n0 := by omega
              have hm0 : (0 : Int) ≤ m := by omega
              have hm1 : (m : Int) < n0 := by omega
              clear T'
              by_cases e1 : val2 T k (val2 T j m) = val2 T (val2 T k j) (val2 T k m)
              · have g1 : (val2 T k (val2 T j m) != val2 T (val2 T k j) (val2 T k m)) = false := by simp [e1]
                have E1 := Lib.hid e1; clear e1
                go_wp2
                go_quiet (fail)
                go_wp2
                go_roundw
                case rel => exact ⟨m + 1, by omega, by go_num, Lib.hid (below_drewN HB3.out _), Lib.hid (lt_snoc HA3.out (by simp [rkP, E1.out]))⟩
                case measure => simp [intOf]; omega
              · have g1 : (val2 T k (val2 T j m) != val2 T (val2 T k j) (val2 T k m)) = true := by simp [e1]
                have E1 := Lib.hid e1; clear e1
                go_wp2
                go_quiet (fail)
                go_wp2
                go_ret
                have hr : rkL T = [(k : Int), (j : Int), (m : Int)] := by
                  unfold rkL
                  rw [HL0.out, find3_hit hlt hlj hlm (P := rkP T) (by simp [rkP, E1.out]) HA1.out HA2.out HA3.out]; rfl
                rw [hr]
                exact ⟨_, rfl, Own.of_blk (Blk.new _ [.int .i64 k, .int .i64 j, .int .i64 m] _) HB3.out.size (by simp [maxLen]) rfl rfl, (below_drewN HB3.out _).alloc HB3.out.size _, fun h => by cases h⟩
            · obtain rfl : m = n0 := by omega
              go_wp2
              go_roundw
              case rel => exact ⟨j + 1, by omega, by go_num, HB3, Lib.hid (lt_snoc HA2.out HA3.out)⟩
              case measure => simp [intOf]; omega
        · obtain rfl : j = n0 := by omega
          go_wp2
          go_roundw
          case rel => exact ⟨k + 1, by omega, by go_num, HB2, Lib.hid (lt_snoc HA1.out HA2.out)⟩
          case measure => simp [intOf]; omega
    · obtain rfl : k = n0 := by omega
      go_wp2
      go_ret
      have hr : rkL T = [] := by
        unfold rkL
        rw [HL0.out, find3_none HA1.out]; rfl
      rw [hr]
      exact ⟨_, rfl, Own.nil _ _, HB1.out, fun _ => rfl⟩

set_option maxRecDepth 100000 in
set_option maxHeartbeats 800000 in
theorem c_rackFault (v0 : Value) (T : List (List Int)) (w : World) (hT : Rows w v0 T) (hp : isTab T = true) :
    Calls Try.prog 103 #[v0] w (RIntsN w (rkL T)) := by
  obtain ⟨n0, b0, o0, c0, rb0, ro0, rc0, rfl, hl0, hn0, hx0, hc0, hm0, t0⟩ := hT.tab hp
  have HL0 := Lib.hid hl0; clear hl0
  go_enter Try.func103, Try.ntmps103
  go_wp2
  have HT := Lib.hid t0
  clear t0 hT hp
  go_loopw [10, 4, 5, 6] (fun a _ _ _ wr => ∃ k : Nat, k ≤ n0 ∧ a = .int .i64 k ∧ Hid (Below w.heap.size w wr) ∧ Hid (∀ x, x < k → ∀ y, y < n0 → ∀ z, z < n0 → rkP T x y z = false)) (fun a _ _ _ _ => n0 - (intOf a).toNat)
  case atStart => exact ⟨0, Nat.zero_le _, rfl, Lib.hid (Below.refl _ _), Lib.hid (by intro x hx; omega)⟩
  case round =>
    obtain ⟨k, hk, rfl, HB1, HA1⟩ := hrel
    obtain ⟨wo, rfl⟩ : ∃ wo : World, wo = wr := ⟨_, rfl⟩
    by_cases hlt : k < n0
    · go_wp2
      go_loopw [14, 5, 6] (fun a _ _ wr => ∃ j : Nat, j ≤ n0 ∧ a = .int .i64 j ∧ Hid (Below w.heap.size w wr) ∧ Hid (∀ y, y < j → ∀ z, z < n0 → rkP T k y z = false)) (fun a _ _ _ => n0 - (intOf a).toNat)
      case atStart => exact ⟨0, Nat.zero_le _, rfl, HB1, Lib.hid (by intro x hx; omega)⟩
      case round =>
        obtain ⟨j, hj, rfl, HB2, HA2⟩ := hrel
        obtain ⟨wp, rfl⟩ : ∃ wp : World, wp = wr := ⟨_, rfl⟩
        by_cases hlj : j < n0
        · go_wp2
          go_loopw [18, 6] (fun a _ wr => ∃ m : Nat, m ≤ n0 ∧ a = .int .i64 m ∧ Hid (Below w.heap.size w wr) ∧ Hid (∀ z, z < m → rkP T k j z = false)) (fun a _ _ => n0 - (intOf a).toNat)
          case atStart => exact ⟨0, Nat.zero_le _, rfl, HB2, Lib.hid (by intro x hx; omega)⟩
          case round =>
            obtain ⟨m, hm, rfl, HB3, HA3⟩ := hrel
            by_cases hlm : m < n0
            · have T' := HT.out.below HB3.out
              have r1 := T'.row k hlt; have r2 := T'.row j hlj
              have x1 := T'.val j m hlj hlm; have x2 := T'.val k j hlt hlj; have x3 := T'.val k m hlt hlm
              obtain ⟨d1, d2⟩ := T'.rng j m (by omega) (by omega) (by omega) (by omega)
              obtain ⟨d3, d4⟩ := T'.rng k j (by omega) (by omega) (by omega) (by omega)
              obtain ⟨d5, d6⟩ := T'.rng k m (by omega) (by omega) (by omega) (by omega)
              have x4 := T'.vni k (val2 T j m) hlt d1 d2
              have r3 := T'.rowi (val2 T k j) d3 d4
              have x5 := T'.vali (val2 T k j) (val2 T k m) d3 d4 d5 d6
              have hk0 : (0 : Int) ≤ k := by omega
              have hk1 : (k : Int) < n0 := by omega
              have hj0 : (0 : Int) ≤ j := by omega
              have hj1 : (j : Int) < n0 := by omega
              have hm0 : (0 : Int) ≤ m := by omega
              have hm1 : (m : Int) < n0 := by omega
              clear T'
              by_cases e1 : val2 T k (val2 T j m) = val2 T (val2 T k j) (val2 T k m)
              · have g1 : (val2 T k (val2 T j m) != val2 T (val2 T k j) (val2 T k m)) = false := by simp [e1]
                have E1 := Lib.hid e1; clear e1
                go_wp2
                go_quiet (fail)
                go_wp2
                go_roundw
                case rel => exact ⟨m + 1, by omega, by go_num, Lib.hid (below_drewN HB3.out _), Lib.hid (lt_snoc HA3.out (by simp [rkP, E1.out]))⟩
                case measure => simp [intOf]; omega
              · have g1 : (val2 T k (val2 T j m) != val2 T (val2 T k j) (val2 T k m)) = true := by simp [e1]
                have E1 := Lib.hid e1; clear e1
                go_wp2
                go_quiet (fail)
                go_wp2
                go_ret
                have hr : rkL T = [(k : Int), (j : Int), (m : Int)] := by
                  unfold rkL
                  rw [HL0.out, find3_hit hlt hlj hlm (P := rkP T) (by simp [rkP, E1.out]) HA1.out HA2.out HA3.out]; rfl
                rw [hr]
                exact ⟨_, rfl, Own.of_blk (Blk.new _ [.int .i64 k, .int .i64 j, .int .i64 m] _) HB3.out.size (by simp [maxLen]) rfl rfl, (below_drewN HB3.out _).alloc HB3.out.size _, fun h => by cases h⟩
            · obtain rfl : m = n0 := by omega
              go_wp2
              go_roundw
              case rel => exact ⟨j + 1, by omega, by go_num, HB3, Lib.hid (lt_snoc HA2.out HA3.out)⟩
              case measure => simp [intOf]; omega
        · obtain rfl : j = n0 := by omega
          go_wp2
          go_roundw
          case rel => exact ⟨k + 1, by omega, by go_num, HB2, Lib.hid (lt_snoc HA1.out HA2.out)⟩
          case measure => simp [intOf]; omega
    · obtain rfl : k = n0 := by omega
      go_wp2
      go_ret
      have hr : rkL T = [] := by
        unfold rkL
        rw [HL0.out, find3_none HA1.out]; rfl
      rw [hr]
      exact ⟨_, rfl, Own.nil _ _, HB1.out, fun _ => rfl⟩
end Go.Proofs.Ytdhbleiioagmlaa
