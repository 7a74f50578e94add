/-
  Whether a pair of lists of lists is a pair map: the program's and the reference's functions.
-/
import Derived.Test.YtgmhnjccgldddaaI2
import Derived.Test.YtgmhnjccgldddaaLawC
namespace Go.Proofs.Ytgmhnjccgldddaa
set_option linter.unusedVariables false
set_option linter.unusedSimpArgs false
open Go.RowKit

def isPM (A B : List (List Int)) : Bool := isTab A && isTab B && decide (A.length = B.length)

set_option maxHeartbeats 400000 in
theorem c_l02Map (v1 v2 : Value) (A B : List (List Int)) (w : World) (hx : Sol w v1 v2 A B) :
    Calls Try.prog 32 #[.agg #[v1, v2]] w (RVal w (.bool (isPM A B))) := by
  obtain ⟨a1, c1, rfl, _, _⟩ := hx.1.shape
  obtain ⟨a2, c2, rfl, _, _⟩ := hx.2.shape
  obtain ⟨f0, hW0, hsz⟩ := boxes1 w [.slice a1 A.length c1, .slice a2 B.length c2] 29
  have hy := hx.below hW0
  have HW := Lib.hid hW0
  clear hW0 hsz f0 hx
  by_cases h1 : isTab A = true
  · have H1 := Lib.hid h1
    by_cases h2 : isTab B = true
    · have H2 := Lib.hid h2
      by_cases h3 : A.length = B.length
      · have hb1 : ((A.length : Int) == (B.length : Int)) = true := by simp [h3]
        have H3 := Lib.hid h3; clear h3
        go_enter Try.func32, Try.ntmps32
        go_wp2_with fail
        refine (c_l01Table _ _ _ hy.1).mono ?_; rintro e w' ⟨rfl, rfl⟩
        go_wp2_with fail
        refine (c_l01Table _ _ _ hy.2).mono ?_; rintro e w' ⟨rfl, rfl⟩
        go_wp2
        go_ret
        exact ⟨ret_bool (by simp [isPM, H1.out, H2.out, H3.out]), HW.out⟩
      · have hb1 : ((A.length : Int) == (B.length : Int)) = false := by simp; omega
        have H3 := Lib.hid h3; clear h3
        go_enter Try.func32, Try.ntmps32
        go_wp2_with fail
        refine (c_l01Table _ _ _ hy.1).mono ?_; rintro e w' ⟨rfl, rfl⟩
        go_wp2_with fail
        refine (c_l01Table _ _ _ hy.2).mono ?_; rintro e w' ⟨rfl, rfl⟩
        go_wp2
        go_ret
        exact ⟨ret_bool (by simp [isPM, H3.out]), HW.out⟩
    · have h2' : isTab B = false := by simpa using h2
      have H2 := Lib.hid h2'; clear h2
      go_enter Try.func32, Try.ntmps32
      go_wp2_with fail
      refine (c_l01Table _ _ _ hy.1).mono ?_; rintro e w' ⟨rfl, rfl⟩
      go_wp2_with fail
      refine (c_l01Table _ _ _ hy.2).mono ?_; rintro e w' ⟨rfl, rfl⟩
      go_wp2
      go_ret
      exact ⟨ret_bool (by simp [isPM, H2.out]), HW.out⟩
  · have h1' : isTab A = false := by simpa using h1
    have H1 := Lib.hid h1'; clear h1
    go_enter Try.func32, Try.ntmps32
    go_wp2_with fail
    refine (c_l01Table _ _ _ hy.1).mono ?_; rintro e w' ⟨rfl, rfl⟩
    go_wp2
    go_ret
    exact ⟨ret_bool (by simp [isPM, H1.out]), HW.out⟩

set_option maxHeartbeats 400000 in
theorem c_IsPairMap (v1 v2 : Value) (A B : List (List Int)) (w : World) (hx : Sol w v1 v2 A B) :
    Calls Try.prog 35 #[.agg #[v1, v2]] w (RVal w (.bool (isPM A B))) := by
  obtain ⟨a1, c1, rfl, _, _⟩ := hx.1.shape
  obtain ⟨a2, c2, rfl, _, _⟩ := hx.2.shape
  obtain ⟨f0, hW0, hsz⟩ := boxes1 w [.slice a1 A.length c1, .slice a2 B.length c2] 29
  have hy := hx.below hW0
  obtain ⟨W, hW⟩ : ∃ W, w.alloc (.cells #[.slice a1 A.length c1, .slice a2 B.length c2] 29) = W := ⟨_, rfl⟩
  by_cases h1 : isTab A = true
  · have H1 := Lib.hid h1
    by_cases h2 : isTab B = true
    · have H2 := Lib.hid h2
      by_cases h3 : A.length = B.length
      · have hb1 : ((A.length : Int) == (B.length : Int)) = true := by simp [h3]
        have H3 := Lib.hid h3; clear h3
        have HWn := Lib.hid hW; clear hW
        go_enter Try.func35, Try.ntmps35
        go_wp2_with fail
        rw [HWn.out] at f0 hW0 hsz hy ⊢
        refine (c_IsTable _ _ _ hy.1).mono ?_; rintro e w1 ⟨rfl, hb1'⟩
        obtain ⟨g0, g1, _, _⟩ := two_cells (f0.under hb1')
        go_wp2_with fail
        refine (c_IsTable _ _ _ (hy.2.below hb1')).mono ?_; rintro e w2 ⟨rfl, hb2'⟩
        obtain ⟨k0, k1, _, _⟩ := two_cells ((f0.under hb1').under hb2')
        have HB := Lib.hid (bb (bb hW0 hb1') hb2')
        clear f0 hW0 hsz hy hb1' hb2' hx
        go_wp2
        go_ret
        exact ⟨ret_bool (by simp [isPM, H1.out, H2.out, H3.out]), HB.out⟩
      · have hb1 : ((A.length : Int) == (B.length : Int)) = false := by simp; omega
        have H3 := Lib.hid h3; clear h3
        have HWn := Lib.hid hW; clear hW
        go_enter Try.func35, Try.ntmps35
        go_wp2_with fail
        rw [HWn.out] at f0 hW0 hsz hy ⊢
        refine (c_IsTable _ _ _ hy.1).mono ?_; rintro e w1 ⟨rfl, hb1'⟩
        obtain ⟨g0, g1, _, _⟩ := two_cells (f0.under hb1')
        go_wp2_with fail
        refine (c_IsTable _ _ _ (hy.2.below hb1')).mono ?_; rintro e w2 ⟨rfl, hb2'⟩
        obtain ⟨k0, k1, _, _⟩ := two_cells ((f0.under hb1').under hb2')
        have HB := Lib.hid (bb (bb hW0 hb1') hb2')
        clear f0 hW0 hsz hy hb1' hb2' hx
        go_wp2
        go_ret
        exact ⟨ret_bool (by simp [isPM, H3.out]), HB.out⟩
    · have h2' : isTab B = false := by simpa using h2
      have H2 := Lib.hid h2'; clear h2
      have HWn := Lib.hid hW; clear hW
      go_enter Try.func35, Try.ntmps35
      go_wp2_with fail
      rw [HWn.out] at f0 hW0 hsz hy ⊢
      refine (c_IsTable _ _ _ hy.1).mono ?_; rintro e w1 ⟨rfl, hb1'⟩
      obtain ⟨g0, g1, _, _⟩ := two_cells (f0.under hb1')
      go_wp2_with fail
      refine (c_IsTable _ _ _ (hy.2.below hb1')).mono ?_; rintro e w2 ⟨rfl, hb2'⟩
      have HB := Lib.hid (bb (bb hW0 hb1') hb2')
      clear f0 hW0 hsz hy hb1' hb2' hx
      go_wp2
      go_ret
      exact ⟨ret_bool (by simp [isPM, H2.out]), HB.out⟩
  · have h1' : isTab A = false := by simpa using h1
    have H1 := Lib.hid h1'; clear h1
    have HWn := Lib.hid hW; clear hW
    go_enter Try.func35, Try.ntmps35
    go_wp2_with fail
    rw [HWn.out] at f0 hW0 hsz hy ⊢
    refine (c_IsTable _ _ _ hy.1).mono ?_; rintro e w1 ⟨rfl, hb1'⟩
    have HB := Lib.hid (bb hW0 hb1')
    clear f0 hW0 hsz hy hb1' hx
    go_wp2
    go_ret
    exact ⟨ret_bool (by simp [isPM, H1.out]), HB.out⟩
end Go.Proofs.Ytgmhnjccgldddaa
