/-
  The law FnExactIsPermutation answers true, and leaves what was there as it was: at every list of integers.
-/
import Derived.Test.YtejdcdbecnjbcaaLawA
import Derived.Test.YtejdcdbecnjbcaaI1
import Derived.Test.YtejdcdbecnjbcaaS1
namespace Go.Proofs.Ytejdcdbecnjbcaa
open Go.RowKit

set_option maxHeartbeats 400000 in
theorem c_specIsPermutation (v : Value) (xs : List Int) (w : World) (hx : Ints w v xs) :
    Calls Try.prog 15 #[v] w fun e w' => e = .returned (.bool (isPerm xs)) ∧ w = w' := by
  go_enter Try.func15, Try.ntmps15
  go_wp2_with fail
  refine (c_l01Perm _ _ _ hx).mono ?_; rintro e w' ⟨rfl, rfl⟩
  go_wp2
  go_ret
  exact ⟨rfl, rfl⟩

set_option maxHeartbeats 1000000 in
theorem law_IsPermutation (v : Value) (xs : List Int) (w : World) (hx : Ints w v xs) :
    Calls Try.prog 4 #[v] w (RVal w (.bool true)) := by
  obtain ⟨a, c, rfl, hc, hm⟩ := hx.shape
  by_cases hn : xs.length ≤ 1048576
  · go_enter Try.func4, Try.ntmps4
    go_wp2_with fail
    refine (c_toInt64S _ _ _ hx (by omega)).mono ?_; rintro e w1 ⟨r1, rfl, ho1, hb1⟩
    go_wp2_with fail
    refine (c_specIsPermutation _ _ _ ho1.ints).mono ?_; rintro e w' ⟨rfl, rfl⟩
    go_wp2_with fail
    refine (c_toInt64S _ _ _ (hx.below hb1) (by omega)).mono ?_; rintro e w2 ⟨r2, rfl, ho2, hb2⟩
    go_wp2_with fail
    refine (c_IsPermutation _ _ _ ho2.ints).mono ?_; rintro e w3 ⟨rfl, hb3⟩
    have hx3 := ((hx.below hb1).below hb2).below hb3
    have hne : (isPerm xs != isPerm xs) = false := by simp
    go_wp2_with fail
    refine (c_toInt64S _ _ _ hx3 (by omega)).mono ?_; rintro e w4 ⟨r4, rfl, ho4, hb4⟩
    go_wp2_with fail
    refine (c_eqInt64S _ _ _ _ _ (ho2.ints.below hb3 |>.below hb4) ho4.ints).mono ?_; rintro e w5 ⟨rfl, hb5⟩
    have hd : decide (xs = xs) = true := by simp
    have HB := Lib.hid (bb (bb (bb (bb hb1 hb2) hb3) hb4) hb5)
    clear hb1 hb2 hb3 hb4 hb5 hx hx3 ho1 ho2 ho4
    go_wp2
    go_ret
    exact ⟨rfl, HB.out⟩
  · go_enter Try.func4, Try.ntmps4
    go_wp2
    go_ret
    exact ⟨rfl, Below.refl _ _⟩
end Go.Proofs.Ytejdcdbecnjbcaa
