/-
  The law FnExactIsNondegenerate answers true, and leaves what was there as it was: at every pair of lists of lists of integers.
-/
import Derived.Test.YtkcobfkmeaakoaaI14
namespace Go.Proofs.Ytkcobfkmeaakoaa
open Go.RowKit

def pmCodeN (A B : List (List Int)) : Int := if isPM A B then 0 else 1
def ndRes (A B : List (List Int)) : Bool := if isPM A B then nondegL A B else false
set_option maxHeartbeats 800000 in
theorem c_IsNondegenerate (v0 u0 : Value) (A B : List (List Int)) (w : World) (hA : Sol w v0 u0 A B) :
    Calls Try.prog 34 #[.agg #[v0, u0]] w (RVal w (.tuple #[.bool (ndRes A B), .int .i64 (pmCodeN A B)])) := by
  obtain ⟨a0, c0, rfl, _, _⟩ := hA.1.shape
  obtain ⟨a0s, c0s, rfl, _, _⟩ := hA.2.shape
  by_cases hp0 : isPM A B = true
  case neg =>
    have hq0 : isPM A B = false := by simpa using hp0
    have HQ := Lib.hid hq0; clear hp0
    go_enter Try.func34, Try.ntmps34
    go_wp2_with fail
    obtain ⟨f0, hW0, hsz⟩ := boxes1 w [.slice a0 A.length c0, .slice a0s B.length c0s] 27
    obtain ⟨W0, hW⟩ : ∃ W, (w.alloc (.cells #[.slice a0 A.length c0, .slice a0s B.length c0s] 27)) = W := ⟨_, rfl⟩
    rw [hW] at f0 hW0 hsz ⊢
    clear hW hsz
    refine (c_IsPairMap _ _ _ _ _ (hA.below hW0)).mono ?_; rintro e g0 ⟨rfl, hbg0⟩
    have hB0 := bb hW0 hbg0
    replace f0 := f0.under hbg0
    obtain ⟨cA0, cB0, -, -⟩ := two_cells f0
    clear hbg0
    have HB := Lib.hid hB0
    clear hB0 f0 hW0 hA
    go_wp2
    go_ret2
    exact ⟨by simp [ndRes, pmCodeN, HQ.out], HB.out⟩
  have HP0 := Lib.hid hp0
  go_enter Try.func34, Try.ntmps34
  go_wp2_with fail
  obtain ⟨f0, hW0, hsz⟩ := boxes1 w [.slice a0 A.length c0, .slice a0s B.length c0s] 27
  obtain ⟨W0, hW⟩ : ∃ W, (w.alloc (.cells #[.slice a0 A.length c0, .slice a0s B.length c0s] 27)) = W := ⟨_, rfl⟩
  rw [hW] at f0 hW0 hsz ⊢
  clear hW hsz
  refine (c_IsPairMap _ _ _ _ _ (hA.below hW0)).mono ?_; rintro e g0 ⟨rfl, hbg0⟩
  have hB0 := bb hW0 hbg0
  replace f0 := f0.under hbg0
  obtain ⟨cA0, cB0, -, -⟩ := two_cells f0
  clear hbg0
  go_wp2_with fail
  refine (c_isNondegenerate _ _ _ _ _ (hA.below hB0) HP0.out).mono ?_; rintro e wz ⟨rfl, hb⟩
  have HB := Lib.hid (bb hB0 hb)
  clear hb hB0 f0 hW0 hA
  go_wp2
  go_ret2
  exact ⟨by simp [ndRes, pmCodeN, HP0.out], HB.out⟩
end Go.Proofs.Ytkcobfkmeaakoaa
