/-
  The law FnExactThenPermutation answers true, and leaves what was there as it was: at every two lists of integers.
-/
import Derived.Test.YtgmhnjccgldddaaLawB
import Derived.Test.YtgmhnjccgldddaaI1c
namespace Go.Proofs.Ytgmhnjccgldddaa
set_option linter.unusedVariables false
set_option linter.unusedSimpArgs false
open Go.RowKit

def okThen (p q : List Int) : Bool := isPerm p && isPerm q && decide (p.length = q.length)
def thenRes (p q : List Int) : List Int := if okThen p q then thenL p q else []
def thenCode (p q : List Int) : Int := if okThen p q then 0 else 1
theorem thenRes_length (p q : List Int) : (thenRes p q).length ≤ p.length := by unfold thenRes; split <;> simp
theorem perm_in {xs : List Int} (h : isPerm xs = true) : (∀ x ∈ xs, 0 ≤ x ∧ x < xs.length) ∧ xs.length ≤ 1048576 := by
  simp [isPerm, inR] at h; exact ⟨h.2.2, by omega⟩


set_option maxHeartbeats 400000 in
theorem c_ThenPermutation (v1 v2 : Value) (p q : List Int) (w : World) (hp : Ints w v1 p) (hq : Ints w v2 q) :
    Calls Try.prog 47 #[v1, v2] w (RIntsC w (thenRes p q) (thenCode p q)) := by
  obtain ⟨a, c, rfl, hc, hm⟩ := hp.shape
  obtain ⟨a2, c2, rfl, hc2, hm2⟩ := hq.shape
  by_cases h1 : isPerm p = true
  · by_cases h2 : isPerm q = true
    · by_cases h3 : p.length = q.length
      · have hb1 : ((p.length : Int) != (q.length : Int)) = false := by simp [h3]
        have H1 := Lib.hid h1; have H2 := Lib.hid h2; have H3 := Lib.hid h3
        obtain ⟨hin, hn⟩ := perm_in h1
        have hin' : ∀ x ∈ p, 0 ≤ x ∧ x < q.length := by rw [← h3]; exact hin
        have HI := Lib.hid hin'
        clear h3 hin hin'
        go_enter Try.func47, Try.ntmps47
        go_wp2_with fail
        refine (c_IsPermutation _ _ _ hp).mono ?_; rintro e w1 ⟨rfl, hb1'⟩
        go_wp2_with fail
        refine (c_IsPermutation _ _ _ (hq.below hb1')).mono ?_; rintro e w2 ⟨rfl, hb2'⟩
        go_wp2_with fail
        refine (c_then _ _ _ _ _ ((hp.below hb1').below hb2') ((hq.below hb1').below hb2') HI.out hn).mono ?_; rintro e w3 ⟨r, rfl, ho, hb⟩
        have HB := Lib.hid (bb (bb hb1' hb2') hb); have HO := Lib.hid (ho.mono (bb hb1' hb2').size); clear hb ho hp hq hb1' hb2'
        go_wp2
        go_ret2
        have hok : okThen p q = true := by simp [okThen, H1.out, H2.out, H3.out]
        exact ⟨r, by simp [thenCode, hok], by simpa [thenRes, hok] using HO.out, HB.out⟩
      · have hb1 : ((p.length : Int) != (q.length : Int)) = true := by simp; omega
        have H1 := Lib.hid h1; have H2 := Lib.hid h2; have H3 := Lib.hid h3
        clear h3
        go_enter Try.func47, Try.ntmps47
        go_wp2_with fail
        refine (c_IsPermutation _ _ _ hp).mono ?_; rintro e w1 ⟨rfl, hb1'⟩
        go_wp2_with fail
        refine (c_IsPermutation _ _ _ (hq.below hb1')).mono ?_; rintro e w2 ⟨rfl, hb2'⟩
        have HB := Lib.hid (bb hb1' hb2'); clear hb1' hb2' hp hq
        go_wp2
        go_ret2
        have hok : okThen p q = false := by simp [okThen, H3.out]
        exact ⟨.slice none 0 0, by simp [thenCode, hok], by simpa [thenRes, hok] using Own.nil _ _, HB.out⟩
    · have h2' : isPerm q = false := by simpa using h2
      have H1 := Lib.hid h1; have H2 := Lib.hid h2'
      clear h2
      go_enter Try.func47, Try.ntmps47
      go_wp2_with fail
      refine (c_IsPermutation _ _ _ hp).mono ?_; rintro e w1 ⟨rfl, hb1'⟩
      go_wp2_with fail
      refine (c_IsPermutation _ _ _ (hq.below hb1')).mono ?_; rintro e w2 ⟨rfl, hb2'⟩
      have HB := Lib.hid (bb hb1' hb2'); clear hb1' hb2' hp hq
      go_wp2
      go_ret2
      have hok : okThen p q = false := by simp [okThen, H2.out]
      exact ⟨.slice none 0 0, by simp [thenCode, hok], by simpa [thenRes, hok] using Own.nil _ _, HB.out⟩
  · have h1' : isPerm p = false := by simpa using h1
    have H1 := Lib.hid h1'
    clear h1
    go_enter Try.func47, Try.ntmps47
    go_wp2_with fail
    refine (c_IsPermutation _ _ _ hp).mono ?_; rintro e w1 ⟨rfl, hb1'⟩
    have HB := Lib.hid hb1'; clear hb1' hp hq
    go_wp2
    go_ret2
    have hok : okThen p q = false := by simp [okThen, H1.out]
    exact ⟨.slice none 0 0, by simp [thenCode, hok], by simpa [thenRes, hok] using Own.nil _ _, HB.out⟩

end Go.Proofs.Ytgmhnjccgldddaa
