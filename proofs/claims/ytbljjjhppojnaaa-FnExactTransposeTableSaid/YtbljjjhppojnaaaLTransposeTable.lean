/-
  The law FnExactTransposeTable answers true, and leaves what was there as it was: at every input that can be read.
-/
import Derived.Test.YtbljjjhppojnaaaLTables
namespace Go.Proofs.Ytbljjjhppojnaaa
open Go.RowKit

set_option maxHeartbeats 4000000 in
theorem law_TransposeTable (v0 : Value) (x0 : List (List Int)) (w : World) (hx0 : Rows w v0 x0) :
    Calls Try.prog 6 #[v0] w (RVal w (.bool true)) := by
  obtain ⟨a0, c0, rfl, hc0, hm0⟩ := hx0.shape
  go_enter Try.func6, Try.ntmps6
  have BW : Below w.heap.size w w := Below.refl _ _
  go_wp2_with fail
  refine (c_szInt64SS _ _ _ _ (hx0.below BW) (by omega) (by omega)).mono ?_; rintro e w1 ⟨rfl, rfl⟩
  by_cases hg0 : leftR x0 (1048576) < 0
  case pos =>
    have HB := Lib.hid BW; clear BW
    go_wp2
    go_ret
    exact ⟨rfl, HB.out⟩
  have hf0 := leftR_fits (left := 1048576) (by omega) (by omega) hg0
  have Hf0 := Lib.hid hf0
  clear hf0
  have hf0 : x0.length ≤ 1048576 ∧ total x0 ≤ 1048576 ∧ 0 ≤ leftR x0 (1048576) ∧ leftR x0 (1048576) ≤ 1048576 := ⟨Hf0.out.1, Hf0.out.2.2⟩
  have hB0 : total (transRes x0) ≤ 1152921504606846976 := by exact total_transRes x0
  obtain ⟨R0, hR0⟩ : ∃ z, z = transRes x0 := ⟨_, rfl⟩
  obtain ⟨R1, hR1⟩ : ∃ z, z = tabCode x0 := ⟨_, rfl⟩
  rw [← hR0] at hB0
  have HR0 := Lib.hid hR0
  clear hR0
  have HR1 := Lib.hid hR1
  clear hR1
  have hd0 : decide (R0 = R0) = true := by simp
  have hk1 : (R1 != R1) = false := by simp
  have hda0 : decide (x0 = x0) = true := by simp
  have hq0 : ((1 + (total R0 : Int)) != (1 + (total R0 : Int))) = false := by simp
  go_wp2_with fail
  refine (c_toInt64SS _ _ _ (hx0.below BW) hf0.1 Hf0.out.2.1).mono ?_; rintro e w1 ⟨t1, rfl, ot1r, hb1⟩
  have hs1 := hb1.size
  replace BW := bb BW hb1
  have ot1 := ot1r.inn
  clear ot1r
  clear hb1
  go_wp2_with fail
  refine (c_specTransposeTable _ _ _ (ot1.rows)).mono ?_
  rw [← HR0.out, ← HR1.out]
  rintro e w2 ⟨s0, rfl, os0r, hb2⟩
  have hs2 := hb2.size
  replace ot1 := ot1.under hb2
  replace BW := bb BW hb2
  clear ot1
  have hS := os0r.rows
  clear os0r
  have BS : Below w2.heap.size w2 w2 := Below.refl _ _
  clear hb2
  go_wp2_with fail
  refine (c_toInt64SS _ _ _ (hx0.below BW) hf0.1 Hf0.out.2.1).mono ?_; rintro e w3 ⟨z0, rfl, oz0r, hb3⟩
  have hs3 := hb3.size
  replace BW := bb BW hb3
  replace BS := bb BS hb3
  have oz0 := oz0r.inn
  clear oz0r
  clear hb3
  go_wp2_with fail
  refine (c_TransposeTable _ _ _ (oz0.rows)).mono ?_
  rw [← HR0.out, ← HR1.out]
  rintro e w4 ⟨g0, rfl, og0r, hb4⟩
  have hs4 := hb4.size
  replace oz0 := oz0.under hb4
  replace BW := bb BW hb4
  replace BS := bb BS hb4
  have og0 := og0r.inn
  clear og0r
  clear hb4
  go_wp2_with fail
  refine (c_eqR _ _ _ _ _ (og0.rows) (hS.below BS)).mono ?_; rintro e w5 ⟨rfl, hb5⟩
  have hs5 := hb5.size
  replace oz0 := oz0.under hb5
  replace og0 := og0.under hb5
  replace BW := bb BW hb5
  replace BS := bb BS hb5
  clear hb5
  go_wp2_with fail
  refine (c_toInt64SS _ _ _ (hx0.below BW) hf0.1 Hf0.out.2.1).mono ?_; rintro e w6 ⟨t2, rfl, ot2r, hb6⟩
  have hs6 := hb6.size
  replace oz0 := oz0.under hb6
  replace og0 := og0.under hb6
  replace BW := bb BW hb6
  replace BS := bb BS hb6
  have ot2 := ot2r.inn
  clear ot2r
  clear hb6
  go_wp2_with fail
  refine (c_eqR _ _ _ _ _ (oz0.rows) (ot2.rows)).mono ?_; rintro e w7 ⟨rfl, hb7⟩
  have hs7 := hb7.size
  replace oz0 := oz0.under hb7
  replace og0 := og0.under hb7
  replace ot2 := ot2.under hb7
  replace BW := bb BW hb7
  replace BS := bb BS hb7
  clear hb7
  clear ot2
  go_wp2_with fail
  refine (c_markR _ _ _ _ _ _ oz0 (by omega) (by omega)).mono ?_; rintro e w8 ⟨rfl, oz0m, hkw8⟩
  have hs8 := hkw8.size
  replace og0 := og0.keep hkw8 (fun b p q r => by omega)
  replace BW := below_keep BW hkw8 (by omega)
  replace BS := below_keep BS hkw8 (by omega)
  clear oz0
  have oz0 := oz0m
  clear oz0m hkw8
  clear oz0
  go_wp2_with fail
  refine (c_eqR _ _ _ _ _ (og0.rows) (hS.below BS)).mono ?_; rintro e w9 ⟨rfl, hb9⟩
  have hs9 := hb9.size
  replace og0 := og0.under hb9
  replace BW := bb BW hb9
  replace BS := bb BS hb9
  clear hb9
  go_wp2_with fail
  refine (c_markR _ _ _ _ _ _ og0 (by omega) (by omega)).mono ?_; rintro e w10 ⟨rfl, og0m, hkw10⟩
  have hs10 := hkw10.size
  replace BW := below_keep BW hkw10 (by omega)
  replace BS := below_keep BS hkw10 (by omega)
  clear og0
  have og0 := og0m
  clear og0m hkw10
  go_wp2_with fail
  refine (c_heldR _ _ _ _ (og0.rows) (by omega) (by omega)).mono ?_; rintro e w11 ⟨rfl, hb11⟩
  have hs11 := hb11.size
  replace og0 := og0.under hb11
  replace BW := bb BW hb11
  replace BS := bb BS hb11
  clear hb11
  go_wp2_with fail
  refine (c_toInt64SS _ _ _ (hx0.below BW) hf0.1 Hf0.out.2.1).mono ?_; rintro e w12 ⟨t3, rfl, ot3r, hb12⟩
  have hs12 := hb12.size
  replace og0 := og0.under hb12
  replace BW := bb BW hb12
  replace BS := bb BS hb12
  have ot3 := ot3r.inn
  clear ot3r
  clear hb12
  go_wp2_with fail
  refine (c_TransposeTable _ _ _ (ot3.rows)).mono ?_
  rw [← HR0.out, ← HR1.out]
  rintro e w13 ⟨h0, rfl, oh0r, hb13⟩
  have hs13 := hb13.size
  replace og0 := og0.under hb13
  replace ot3 := ot3.under hb13
  replace BW := bb BW hb13
  replace BS := bb BS hb13
  have oh0 := oh0r.inn
  clear oh0r
  clear ot3
  clear hb13
  go_wp2_with fail
  refine (c_eqR _ _ _ _ _ (oh0.rows) (hS.below BS)).mono ?_; rintro e w14 ⟨rfl, hb14⟩
  have hs14 := hb14.size
  replace og0 := og0.under hb14
  replace oh0 := oh0.under hb14
  replace BW := bb BW hb14
  replace BS := bb BS hb14
  clear hb14
  go_wp2_with fail
  refine (c_heldR _ _ _ _ (og0.rows) (by omega) (by omega)).mono ?_; rintro e w15 ⟨rfl, hb15⟩
  have hs15 := hb15.size
  replace og0 := og0.under hb15
  replace oh0 := oh0.under hb15
  replace BW := bb BW hb15
  replace BS := bb BS hb15
  clear hb15
  have HB := Lib.hid BW
  clear BW BS hS og0 oh0 hx0
  go_wp2
  go_ret
  exact ⟨rfl, HB.out⟩
end Go.Proofs.Ytbljjjhppojnaaa
