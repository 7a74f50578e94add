/-
  What slices.Equal returns at lists of integers.
-/
import Derived.Test.YtkghonhghbcdlaaS1c
namespace Go.Proofs.Ytkghonhghbcdlaa
set_option linter.unusedVariables false
set_option linter.unusedSimpArgs false
open Go.RowKit

set_option maxHeartbeats 400000 in
theorem c_slicesEqual (v1 v2 : Value) (xs ys : List Int) (w : World) (hx : Ints w v1 xs) (hy : Ints w v2 ys) :
    Calls Try.prog 110 #[v1, v2] w (QVal w (.bool (decide (xs = ys)))) := by
  obtain ⟨a, c, rfl, hc, hm, hcell⟩ := hx
  obtain ⟨a2, c2, rfl, hc2, hm2, hcell2⟩ := hy
  have hm' : xs.length ≤ 9223372036854775807 := by unfold maxLen at hm; omega
  have hm2' : ys.length ≤ 9223372036854775807 := by unfold maxLen at hm2; omega
  have HC := Lib.hid hcell; clear hcell
  have HC2 := Lib.hid hcell2; clear hcell2
  clear hm hm2
  by_cases hlen : xs.length = ys.length
  · have hl1 : ((xs.length : Int) == (ys.length : Int)) = true := by simp [hlen]
    have hl2 : ((xs.length : Int) != (ys.length : Int)) = false := by simp [hlen]
    have HL := Lib.hid hlen; clear hlen
    go_enter Try.func110, Try.ntmps110
    go_wp2
    go_loopw [13, 5] (fun i _ wr => ∃ k : Nat, k ≤ xs.length ∧ i = .int .i64 k ∧ Hid (∃ n, wr = w.drewN n) ∧ Hid (xs.take k = ys.take k)) (fun i _ _ => xs.length - (intOf i).toNat)
    case atStart => exact ⟨0, Nat.zero_le _, rfl, Lib.hid ⟨0, rfl⟩, Lib.hid rfl⟩
    case round =>
      obtain ⟨k, hk, rfl, HN, HE⟩ := hrel
      have hb : Below w.heap.size w wr := by obtain ⟨n, hn⟩ := HN.out; rw [hn]; exact below_drewN (Below.refl _ _) n
      by_cases hlt : k < xs.length
      · have hlt2 : k < ys.length := by have := HL.out; omega
        obtain ⟨b, o, rfl, hcell⟩ := HC.out k hlt
        obtain ⟨b2, o2, rfl, hcell2⟩ := HC2.out k hlt2
        have h1 : wr.cell? ⟨b, o + k, none⟩ = some (.int .i64 xs[k]) := cell_under hb hcell
        have h2 : wr.cell? ⟨b2, o2 + k, none⟩ = some (.int .i64 ys[k]) := cell_under hb hcell2
        clear hb hcell hcell2
        have hk0 : (0 : Int) ≤ k := by omega
        have hk1 : (k : Int) < xs.length := by omega
        have hk2 : (k : Int) < ys.length := by omega
        by_cases he : xs[k] = ys[k]
        · have he1 : (xs[k] != ys[k]) = false := by simp [he]
          have HV := Lib.hid he; clear he
          go_wp2
          go_quiet (fail)
          go_wp2
          go_roundw
          case rel => exact ⟨k + 1, by omega, by go_num, by obtain ⟨n, hn⟩ := HN.out; exact Lib.hid ⟨n + _, by rw [hn]; exact drewN_drewN w n _⟩, Lib.hid (eq_snoc hlt hlt2 HE.out HV.out)⟩
          case measure => simp [intOf]; omega
        · have he1 : (xs[k] != ys[k]) = true := by simp [he]
          go_wp2
          go_quiet (fail)
          go_wp2
          go_ret
          refine ⟨ret_bool ?_, by obtain ⟨n, hn⟩ := HN.out; exact ⟨n + _, by rw [hn]; exact drewN_drewN w n _⟩⟩
          simp only [Eq.comm (a := false), decide_eq_false_iff_not]
          rintro rfl
          exact he rfl
      · go_wp2
        go_ret
        refine ⟨ret_bool ?_, HN.out⟩
        have h := HE.out
        rw [List.take_of_length_le (by omega), List.take_of_length_le (by have := HL.out; omega)] at h
        simp [h]
  · have hl1 : ((xs.length : Int) == (ys.length : Int)) = false := by simp; omega
    have hl2 : ((xs.length : Int) != (ys.length : Int)) = true := by simp; omega
    go_enter Try.func110, Try.ntmps110
    go_wp2
    go_ret
    refine ⟨ret_bool ?_, ⟨0, rfl⟩⟩
    simp only [Eq.comm (a := false), decide_eq_false_iff_not]
    rintro rfl
    exact hlen rfl
end Go.Proofs.Ytkghonhghbcdlaa
