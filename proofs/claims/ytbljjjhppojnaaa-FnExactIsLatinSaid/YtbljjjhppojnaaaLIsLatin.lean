/-
  The law FnExactIsLatin answers true, and leaves what was there as it was: at every input that can be read.
-/
import Derived.Test.YtbljjjhppojnaaaLTables
namespace Go.Proofs.Ytbljjjhppojnaaa
open Go.RowKit

set_option maxHeartbeats 4000000 in
theorem law_IsLatin (v0 : Value) (x0 : List (List Int)) (w : World) (hx0 : Rows w v0 x0) :
    Calls Try.prog 7 #[v0] w (RVal w (.bool true)) := by
  obtain ⟨a0, c0, rfl, hc0, hm0⟩ := hx0.shape
  go_enter Try.func7, Try.ntmps7
  have BW : Below w.heap.size w w := Below.refl _ _
  go_wp2_with fail
  refine (c_szInt64SS _ _ _ _ (hx0.below BW) (by omega) (by omega)).mono ?_; rintro e w1 ⟨rfl, rfl⟩
  by_cases hg0 : leftR x0 (1048576) < 0
  case pos =>
    have HB := Lib.hid BW; clear BW
    go_wp2
    go_ret
    exact ⟨rfl, HB.out⟩
  have hf0 := leftR_fits (left := 1048576) (by omega) (by omega) hg0
  have Hf0 := Lib.hid hf0
  clear hf0
  have hf0 : x0.length ≤ 1048576 ∧ total x0 ≤ 1048576 ∧ 0 ≤ leftR x0 (1048576) ∧ leftR x0 (1048576) ≤ 1048576 := ⟨Hf0.out.1, Hf0.out.2.2⟩
  obtain ⟨R0, hR0⟩ : ∃ z, z = latRes x0 := ⟨_, rfl⟩
  obtain ⟨R1, hR1⟩ : ∃ z, z = tabCode x0 := ⟨_, rfl⟩
  have HR0 := Lib.hid hR0
  clear hR0
  have HR1 := Lib.hid hR1
  clear hR1
  have hk0 : (R0 != R0) = false := by simp
  have hk1 : (R1 != R1) = false := by simp
  have hda0 : decide (x0 = x0) = true := by simp
  go_wp2_with fail
  refine (c_toInt64SS _ _ _ (hx0.below BW) hf0.1 Hf0.out.2.1).mono ?_; rintro e w1 ⟨t1, rfl, ot1r, hb1⟩
  have hs1 := hb1.size
  replace BW := bb BW hb1
  have ot1 := ot1r.inn
  clear ot1r
  clear hb1
  go_wp2_with fail
  refine (c_specIsLatin _ _ _ (ot1.rows)).mono ?_
  rw [← HR0.out, ← HR1.out]
  rintro e w2 ⟨rfl, hb2⟩
  have hs2 := hb2.size
  replace ot1 := ot1.under hb2
  replace BW := bb BW hb2
  clear ot1
  clear hb2
  go_wp2_with fail
  refine (c_toInt64SS _ _ _ (hx0.below BW) hf0.1 Hf0.out.2.1).mono ?_; rintro e w3 ⟨z0, rfl, oz0r, hb3⟩
  have hs3 := hb3.size
  replace BW := bb BW hb3
  have oz0 := oz0r.inn
  clear oz0r
  clear hb3
  go_wp2_with fail
  refine (c_IsLatin _ _ _ (oz0.rows)).mono ?_
  rw [← HR0.out, ← HR1.out]
  rintro e w4 ⟨rfl, hb4⟩
  have hs4 := hb4.size
  replace oz0 := oz0.under hb4
  replace BW := bb BW hb4
  clear hb4
  go_wp2_with fail
  refine (c_toInt64SS _ _ _ (hx0.below BW) hf0.1 Hf0.out.2.1).mono ?_; rintro e w5 ⟨t2, rfl, ot2r, hb5⟩
  have hs5 := hb5.size
  replace oz0 := oz0.under hb5
  replace BW := bb BW hb5
  have ot2 := ot2r.inn
  clear ot2r
  clear hb5
  go_wp2_with fail
  refine (c_eqR _ _ _ _ _ (oz0.rows) (ot2.rows)).mono ?_; rintro e w6 ⟨rfl, hb6⟩
  have hs6 := hb6.size
  replace oz0 := oz0.under hb6
  replace ot2 := ot2.under hb6
  replace BW := bb BW hb6
  clear hb6
  clear ot2
  have HB := Lib.hid BW
  clear BW oz0 hx0
  go_wp2
  go_ret
  exact ⟨rfl, HB.out⟩
end Go.Proofs.Ytbljjjhppojnaaa
