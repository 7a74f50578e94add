/-
  The law FnExactRenameTable answers true, and leaves what was there as it was: at every input that can be read.
-/
import Derived.Test.YtbljjjhppojnaaaLTables
namespace Go.Proofs.Ytbljjjhppojnaaa
open Go.RowKit

set_option maxHeartbeats 4000000 in
theorem law_RenameTable (v0 : Value) (x0 : List (List Int)) (v1 : Value) (x1 : List Int) (w : World) (hx0 : Rows w v0 x0) (hx1 : Ints w v1 x1) :
    Calls Try.prog 11 #[v0, v1] w (RVal w (.bool true)) := by
  obtain ⟨a0, c0, rfl, hc0, hm0⟩ := hx0.shape
  obtain ⟨a1, c1, rfl, hc1, hm1⟩ := hx1.shape
  by_cases hn1 : x1.length ≤ 1048576
  case neg =>
    go_enter Try.func11, Try.ntmps11
    go_wp2
    go_ret
    exact ⟨rfl, by first | exact Below.refl _ _ | exact (Below.refl _ _).alloc (Nat.le_refl _) _ | exact ((Below.refl _ _).alloc (Nat.le_refl _) _).alloc (by simp) _⟩
  go_enter Try.func11, Try.ntmps11
  have BW : Below w.heap.size w w := Below.refl _ _
  go_wp2_with fail
  refine (c_szInt64SS _ _ _ _ (hx0.below BW) (by omega) (by omega)).mono ?_; rintro e w1 ⟨rfl, rfl⟩
  by_cases hg0 : leftR x0 (1048576) < 0
  case pos =>
    have HB := Lib.hid BW; clear BW
    go_wp2
    go_ret
    exact ⟨rfl, HB.out⟩
  have hf0 := leftR_fits (left := 1048576) (by omega) (by omega) hg0
  have Hf0 := Lib.hid hf0
  clear hf0
  have hf0 : x0.length ≤ 1048576 ∧ total x0 ≤ 1048576 ∧ 0 ≤ leftR x0 (1048576) ∧ leftR x0 (1048576) ≤ 1048576 := ⟨Hf0.out.1, Hf0.out.2.2⟩
  have hB0 : total (renRes x0 x1) ≤ 1152921504606846976 := by exact total_renRes x0 x1
  obtain ⟨R0, hR0⟩ : ∃ z, z = renRes x0 x1 := ⟨_, rfl⟩
  obtain ⟨R1, hR1⟩ : ∃ z, z = renCode x0 x1 := ⟨_, rfl⟩
  rw [← hR0] at hB0
  have HR0 := Lib.hid hR0
  clear hR0
  have HR1 := Lib.hid hR1
  clear hR1
  have hd0 : decide (R0 = R0) = true := by simp
  have hk1 : (R1 != R1) = false := by simp
  have hda0 : decide (x0 = x0) = true := by simp
  have hda1 : decide (x1 = x1) = true := by simp
  have hq0 : ((1 + (total R0 : Int)) != (1 + (total R0 : Int))) = false := by simp
  go_wp2_with fail
  refine (c_toInt64SS _ _ _ (hx0.below BW) hf0.1 Hf0.out.2.1).mono ?_; rintro e w1 ⟨t1, rfl, ot1r, hb1⟩
  have hs1 := hb1.size
  replace BW := bb BW hb1
  have ot1 := ot1r.inn
  clear ot1r
  clear hb1
  go_wp2_with fail
  refine (c_toInt64S _ _ _ (hx1.below BW) (by omega)).mono ?_; rintro e w2 ⟨t2, rfl, ot2r, hb2⟩
  have hs2 := hb2.size
  replace ot1 := ot1.under hb2
  replace BW := bb BW hb2
  have ot2 := ot2r.inn
  clear ot2r
  clear hb2
  go_wp2_with fail
  refine (c_specRenameTable _ _ _ _ _ (ot1.rows) (ot2.ints)).mono ?_
  rw [← HR0.out, ← HR1.out]
  rintro e w3 ⟨s0, rfl, os0r, hb3⟩
  have hs3 := hb3.size
  replace ot1 := ot1.under hb3
  replace ot2 := ot2.under hb3
  replace BW := bb BW hb3
  clear ot1
  clear ot2
  have hS := os0r.rows
  clear os0r
  have BS : Below w3.heap.size w3 w3 := Below.refl _ _
  clear hb3
  go_wp2_with fail
  refine (c_toInt64SS _ _ _ (hx0.below BW) hf0.1 Hf0.out.2.1).mono ?_; rintro e w4 ⟨z0, rfl, oz0r, hb4⟩
  have hs4 := hb4.size
  replace BW := bb BW hb4
  replace BS := bb BS hb4
  have oz0 := oz0r.inn
  clear oz0r
  clear hb4
  go_wp2_with fail
  refine (c_toInt64S _ _ _ (hx1.below BW) (by omega)).mono ?_; rintro e w5 ⟨z1, rfl, oz1r, hb5⟩
  have hs5 := hb5.size
  replace oz0 := oz0.under hb5
  replace BW := bb BW hb5
  replace BS := bb BS hb5
  have oz1 := oz1r.inn
  clear oz1r
  clear hb5
  go_wp2_with fail
  refine (c_RenameTable _ _ _ _ _ (oz0.rows) (oz1.ints)).mono ?_
  rw [← HR0.out, ← HR1.out]
  rintro e w6 ⟨g0, rfl, og0r, hb6⟩
  have hs6 := hb6.size
  replace oz0 := oz0.under hb6
  replace oz1 := oz1.under hb6
  replace BW := bb BW hb6
  replace BS := bb BS hb6
  have og0 := og0r.inn
  clear og0r
  clear hb6
  go_wp2_with fail
  refine (c_eqR _ _ _ _ _ (og0.rows) (hS.below BS)).mono ?_; rintro e w7 ⟨rfl, hb7⟩
  have hs7 := hb7.size
  replace oz0 := oz0.under hb7
  replace oz1 := oz1.under hb7
  replace og0 := og0.under hb7
  replace BW := bb BW hb7
  replace BS := bb BS hb7
  clear hb7
  go_wp2_with fail
  refine (c_toInt64SS _ _ _ (hx0.below BW) hf0.1 Hf0.out.2.1).mono ?_; rintro e w8 ⟨t3, rfl, ot3r, hb8⟩
  have hs8 := hb8.size
  replace oz0 := oz0.under hb8
  replace oz1 := oz1.under hb8
  replace og0 := og0.under hb8
  replace BW := bb BW hb8
  replace BS := bb BS hb8
  have ot3 := ot3r.inn
  clear ot3r
  clear hb8
  go_wp2_with fail
  refine (c_eqR _ _ _ _ _ (oz0.rows) (ot3.rows)).mono ?_; rintro e w9 ⟨rfl, hb9⟩
  have hs9 := hb9.size
  replace oz0 := oz0.under hb9
  replace oz1 := oz1.under hb9
  replace og0 := og0.under hb9
  replace ot3 := ot3.under hb9
  replace BW := bb BW hb9
  replace BS := bb BS hb9
  clear hb9
  clear ot3
  go_wp2_with fail
  refine (c_toInt64S _ _ _ (hx1.below BW) (by omega)).mono ?_; rintro e w10 ⟨t4, rfl, ot4r, hb10⟩
  have hs10 := hb10.size
  replace oz0 := oz0.under hb10
  replace oz1 := oz1.under hb10
  replace og0 := og0.under hb10
  replace BW := bb BW hb10
  replace BS := bb BS hb10
  have ot4 := ot4r.inn
  clear ot4r
  clear hb10
  go_wp2_with fail
  refine (c_eqI _ _ _ _ _ (oz1.ints) (ot4.ints)).mono ?_; rintro e w11 ⟨rfl, hb11⟩
  have hs11 := hb11.size
  replace oz0 := oz0.under hb11
  replace oz1 := oz1.under hb11
  replace og0 := og0.under hb11
  replace ot4 := ot4.under hb11
  replace BW := bb BW hb11
  replace BS := bb BS hb11
  clear hb11
  clear ot4
  go_wp2_with fail
  refine (c_markR _ _ _ _ _ _ oz0 (by omega) (by omega)).mono ?_; rintro e w12 ⟨rfl, oz0m, hkw12⟩
  have hs12 := hkw12.size
  replace oz1 := oz1.keep hkw12 (fun b p q r => by omega)
  replace og0 := og0.keep hkw12 (fun b p q r => by omega)
  replace BW := below_keep BW hkw12 (by omega)
  replace BS := below_keep BS hkw12 (by omega)
  clear oz0
  have oz0 := oz0m
  clear oz0m hkw12
  clear oz0
  go_wp2_with fail
  refine (c_markI _ _ _ _ _ _ oz1 (by omega) (by omega)).mono ?_; rintro e w13 ⟨rfl, oz1m, hkw13⟩
  have hs13 := hkw13.size
  replace og0 := og0.keep hkw13 (fun b p q r => by omega)
  replace BW := below_keep BW hkw13 (by omega)
  replace BS := below_keep BS hkw13 (by omega)
  clear oz1
  have oz1 := oz1m
  clear oz1m hkw13
  clear oz1
  go_wp2_with fail
  refine (c_eqR _ _ _ _ _ (og0.rows) (hS.below BS)).mono ?_; rintro e w14 ⟨rfl, hb14⟩
  have hs14 := hb14.size
  replace og0 := og0.under hb14
  replace BW := bb BW hb14
  replace BS := bb BS hb14
  clear hb14
  go_wp2_with fail
  refine (c_markR _ _ _ _ _ _ og0 (by omega) (by omega)).mono ?_; rintro e w15 ⟨rfl, og0m, hkw15⟩
  have hs15 := hkw15.size
  replace BW := below_keep BW hkw15 (by omega)
  replace BS := below_keep BS hkw15 (by omega)
  clear og0
  have og0 := og0m
  clear og0m hkw15
  go_wp2_with fail
  refine (c_heldR _ _ _ _ (og0.rows) (by omega) (by omega)).mono ?_; rintro e w16 ⟨rfl, hb16⟩
  have hs16 := hb16.size
  replace og0 := og0.under hb16
  replace BW := bb BW hb16
  replace BS := bb BS hb16
  clear hb16
  go_wp2_with fail
  refine (c_toInt64SS _ _ _ (hx0.below BW) hf0.1 Hf0.out.2.1).mono ?_; rintro e w17 ⟨t5, rfl, ot5r, hb17⟩
  have hs17 := hb17.size
  replace og0 := og0.under hb17
  replace BW := bb BW hb17
  replace BS := bb BS hb17
  have ot5 := ot5r.inn
  clear ot5r
  clear hb17
  go_wp2_with fail
  refine (c_toInt64S _ _ _ (hx1.below BW) (by omega)).mono ?_; rintro e w18 ⟨t6, rfl, ot6r, hb18⟩
  have hs18 := hb18.size
  replace og0 := og0.under hb18
  replace ot5 := ot5.under hb18
  replace BW := bb BW hb18
  replace BS := bb BS hb18
  have ot6 := ot6r.inn
  clear ot6r
  clear hb18
  go_wp2_with fail
  refine (c_RenameTable _ _ _ _ _ (ot5.rows) (ot6.ints)).mono ?_
  rw [← HR0.out, ← HR1.out]
  rintro e w19 ⟨h0, rfl, oh0r, hb19⟩
  have hs19 := hb19.size
  replace og0 := og0.under hb19
  replace ot5 := ot5.under hb19
  replace ot6 := ot6.under hb19
  replace BW := bb BW hb19
  replace BS := bb BS hb19
  have oh0 := oh0r.inn
  clear oh0r
  clear ot5
  clear ot6
  clear hb19
  go_wp2_with fail
  refine (c_eqR _ _ _ _ _ (oh0.rows) (hS.below BS)).mono ?_; rintro e w20 ⟨rfl, hb20⟩
  have hs20 := hb20.size
  replace og0 := og0.under hb20
  replace oh0 := oh0.under hb20
  replace BW := bb BW hb20
  replace BS := bb BS hb20
  clear hb20
  go_wp2_with fail
  refine (c_heldR _ _ _ _ (og0.rows) (by omega) (by omega)).mono ?_; rintro e w21 ⟨rfl, hb21⟩
  have hs21 := hb21.size
  replace og0 := og0.under hb21
  replace oh0 := oh0.under hb21
  replace BW := bb BW hb21
  replace BS := bb BS hb21
  clear hb21
  have HB := Lib.hid BW
  clear BW BS hS og0 oh0 hx0 hx1
  go_wp2
  go_ret
  exact ⟨rfl, HB.out⟩
end Go.Proofs.Ytbljjjhppojnaaa
