/-
  The law FnExactInversePermutation answers true, and leaves what was there as it was: at every list of integers.
-/
import Derived.Test.YtkcobfkmeaakoaaLawB
import Derived.Test.YtkcobfkmeaakoaaI1c
namespace Go.Proofs.Ytkcobfkmeaakoaa
open Go.RowKit

theorem isPerm_in {xs : List Int} (h : isPerm xs = true) : (∀ x ∈ xs, 0 ≤ x ∧ x < xs.length) ∧ xs.length ≤ 1048576 := by
  simp [isPerm, inR] at h; exact ⟨h.2.2, by omega⟩

def invRes (xs : List Int) : List Int := if isPerm xs then invL xs else []
def invCode (xs : List Int) : Int := if isPerm xs then 0 else 1
theorem invRes_length (xs : List Int) : (invRes xs).length ≤ xs.length := by unfold invRes; split <;> simp


set_option maxHeartbeats 400000 in
theorem c_InversePermutation (v : Value) (xs : List Int) (w : World) (hx : Ints w v xs) :
    Calls Try.prog 32 #[v] w (RIntsC w (invRes xs) (invCode xs)) := by
  by_cases hp : isPerm xs = true
  · have HP := Lib.hid hp
    obtain ⟨h1, h2⟩ := isPerm_in hp
    have HR := Lib.hid h1; clear h1
    go_enter Try.func32, Try.ntmps32
    go_wp2_with fail
    refine (c_IsPermutation _ _ _ hx).mono ?_; rintro e w1 ⟨rfl, hb1⟩
    go_wp2_with fail
    refine (c_inverse _ _ _ (hx.below hb1) HR.out h2).mono ?_; rintro e w' ⟨r, rfl, ho, hb⟩
    have HB := Lib.hid (bb hb1 hb); have HO := Lib.hid (ho.mono hb1.size); clear hb ho hp hb1
    go_wp2
    go_ret2
    exact ⟨r, by simp [invCode, HP.out], by simpa [invRes, HP.out] using HO.out, HB.out⟩
  · have hp' : isPerm xs = false := by simpa using hp
    have HP := Lib.hid hp'
    clear hp
    go_enter Try.func32, Try.ntmps32
    go_wp2_with fail
    refine (c_IsPermutation _ _ _ hx).mono ?_; rintro e w1 ⟨rfl, hb1⟩
    have HB := Lib.hid hb1; clear hb1
    go_wp2
    go_ret2
    exact ⟨.slice none 0 0, by simp [invCode, HP.out], by simpa [invRes, HP.out] using Own.nil _ _, HB.out⟩

end Go.Proofs.Ytkcobfkmeaakoaa
