/-
  The law FnExactPermutationText answers true, and leaves what was there as it was: at every list of integers.
-/
import Derived.Test.YtejdcdbecnjbcaaLawA
import Derived.Test.YtejdcdbecnjbcaaS1b
namespace Go.Proofs.Ytejdcdbecnjbcaa
open Go.RowKit

def permText (xs : List Int) : ByteArray := if isPerm xs then textOf xs else ⟨#[]⟩
def permCode (xs : List Int) : Int := if isPerm xs then 0 else 1

theorem isPerm_lt {xs : List Int} (h : isPerm xs = true) : (1 ≤ xs.length ∧ xs.length ≤ 12) ∧ Permuted xs := by
  simp [isPerm, inR] at h; exact ⟨by omega, h.2⟩
theorem isPerm_digits {xs : List Int} (h : isPerm xs = true) : ∀ x ∈ xs, 0 ≤ x ∧ x < 12 := by
  intro x hx
  have h1 := isPerm_lt h
  have := h1.2.2 x hx
  omega

set_option maxHeartbeats 400000 in
theorem c_specPermutationText (v : Value) (xs : List Int) (w : World) (hx : Ints w v xs) :
    Calls Try.prog 19 #[v] w (RVal w (.tuple #[.string (permText xs), .int .i64 (permCode xs)])) := by
  by_cases hp : isPerm xs = true
  · have HP := Lib.hid hp
    have h1 := isPerm_lt hp
    have h2 : xs.length ≤ 1048576 := by omega
    go_enter Try.func19, Try.ntmps19
    go_wp2_with fail
    refine (c_l01Perm _ _ _ hx).mono ?_; rintro e w' ⟨rfl, rfl⟩
    go_wp2_with fail
    refine (c_l01Line _ _ _ hx (isPerm_digits HP.out) h2).mono ?_; rintro e w' ⟨rfl, hb⟩
    have HB := Lib.hid hb; clear hb hp
    go_wp2
    go_ret2
    exact ⟨by simp [permText, permCode, HP.out], HB.out⟩
  · have hp' : isPerm xs = false := by simpa using hp
    have HP := Lib.hid hp'
    clear hp
    go_enter Try.func19, Try.ntmps19
    go_wp2_with fail
    refine (c_l01Perm _ _ _ hx).mono ?_; rintro e w' ⟨rfl, rfl⟩
    go_wp2
    go_ret2
    exact ⟨by simp [permText, permCode, HP.out], Below.refl _ _⟩

set_option maxHeartbeats 400000 in
theorem c_PermutationText (v : Value) (xs : List Int) (w : World) (hx : Ints w v xs) :
    Calls Try.prog 20 #[v] w (RVal w (.tuple #[.string (permText xs), .int .i64 (permCode xs)])) := by
  by_cases hp : isPerm xs = true
  · have HP := Lib.hid hp
    have h1 := isPerm_lt hp
    have h2 : xs.length ≤ 1048576 := by omega
    go_enter Try.func20, Try.ntmps20
    go_wp2_with fail
    refine (c_IsPermutation _ _ _ hx).mono ?_; rintro e w1 ⟨rfl, hb1⟩
    go_wp2_with fail
    refine (c_digitsText _ _ _ (hx.below hb1) (isPerm_digits HP.out) h2).mono ?_; rintro e w2 ⟨rfl, hb2⟩
    have HB := Lib.hid (bb hb1 hb2); clear hb1 hb2 hp
    go_wp2
    go_ret2
    exact ⟨by simp [permText, permCode, HP.out], HB.out⟩
  · have hp' : isPerm xs = false := by simpa using hp
    have HP := Lib.hid hp'
    clear hp
    go_enter Try.func20, Try.ntmps20
    go_wp2_with fail
    refine (c_IsPermutation _ _ _ hx).mono ?_; rintro e w1 ⟨rfl, hb1⟩
    have HB := Lib.hid hb1; clear hb1
    go_wp2
    go_ret2
    exact ⟨by simp [permText, permCode, HP.out], HB.out⟩

set_option maxHeartbeats 1000000 in
theorem law_PermutationText (v : Value) (xs : List Int) (w : World) (hx : Ints w v xs) :
    Calls Try.prog 5 #[v] w (RVal w (.bool true)) := by
  obtain ⟨a, c, rfl, hc, hm⟩ := hx.shape
  by_cases hn : xs.length ≤ 1048576
  · have hs : ((permText xs).toList == (permText xs).toList) = true := by simp
    have hk : (permCode xs != permCode xs) = false := by simp
    have hd : decide (xs = xs) = true := by simp
    go_enter Try.func5, Try.ntmps5
    go_wp2_with fail
    refine (c_toInt64S _ _ _ hx (by omega)).mono ?_; rintro e w1 ⟨r1, rfl, ho1, hb1⟩
    go_wp2_with fail
    refine (c_specPermutationText _ _ _ ho1.ints).mono ?_; rintro e w2 ⟨rfl, hb2⟩
    have hx2 := (hx.below hb1).below hb2
    go_wp2_with fail
    refine (c_toInt64S _ _ _ hx2 (by omega)).mono ?_; rintro e w3 ⟨r3, rfl, ho3, hb3⟩
    go_wp2_with fail
    refine (c_PermutationText _ _ _ ho3.ints).mono ?_; rintro e w4 ⟨rfl, hb4⟩
    have hx4 := (hx2.below hb3).below hb4
    go_wp2_with fail
    refine (c_toInt64S _ _ _ hx4 (by omega)).mono ?_; rintro e w5 ⟨r5, rfl, ho5, hb5⟩
    go_wp2_with fail
    refine (c_eqI _ _ _ _ _ (ho3.ints.below hb4 |>.below hb5) ho5.ints).mono ?_; rintro e w6 ⟨rfl, hb6⟩
    have HB := Lib.hid (bb (bb (bb (bb (bb hb1 hb2) hb3) hb4) hb5) hb6)
    clear hb1 hb2 hb3 hb4 hb5 hb6 hx hx2 hx4 ho1 ho3 ho5
    go_wp2
    go_ret
    exact ⟨rfl, HB.out⟩
  · go_enter Try.func5, Try.ntmps5
    go_wp2
    go_ret
    exact ⟨rfl, Below.refl _ _⟩
end Go.Proofs.Ytejdcdbecnjbcaa
