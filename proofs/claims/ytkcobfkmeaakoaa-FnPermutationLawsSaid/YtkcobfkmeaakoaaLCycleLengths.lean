/-
  The law FnExactCycleLengths answers true, and leaves what was there as it was: at every list of integers.
-/
import Derived.Test.YtkcobfkmeaakoaaLawB
import Derived.Test.YtkcobfkmeaakoaaC3
namespace Go.Proofs.Ytkcobfkmeaakoaa
open Go.RowKit

theorem clRes_length (p : List Int) : (clRes p).length ≤ p.length := by
  unfold clRes
  split
  · have h := cycS_length (cyM p) p.length
    have hl : (cyM p).length = p.length := by simp [cyM]
    unfold cyL; omega
  · simp
theorem cut_waysCycleLengths {p G : Prop} (k : Hid p → G) (h : p) : G := k (Lib.hid h)
set_option maxHeartbeats 16000000 in
theorem law_CycleLengths (v0 : Value) (x0 : List Int) (w : World) (hx0 : Ints w v0 x0) :
    Calls Try.prog 10 #[v0] w (RVal w (.bool true)) := by
  obtain ⟨a0, c0, rfl, hc0, hm0⟩ := hx0.shape
  by_cases hn0 : x0.length ≤ 1048576
  case neg =>
    go_enter Try.func10, Try.ntmps10
    go_wp2
    go_ret
    exact ⟨rfl, by first | exact Below.refl _ _ | exact (Below.refl _ _).alloc (Nat.le_refl _) _ | exact ((Below.refl _ _).alloc (Nat.le_refl _) _).alloc (by simp) _⟩
  go_enter Try.func10, Try.ntmps10
  have BW : Below w.heap.size w w := Below.refl _ _
  have hB0 : (clRes x0).length ≤ 1152921504606846976 := by have := clRes_length x0; omega
  obtain ⟨R0, hR0⟩ : ∃ z, z = clRes x0 := ⟨_, rfl⟩
  obtain ⟨R1, hR1⟩ : ∃ z, z = clCode x0 := ⟨_, rfl⟩
  rw [← hR0] at hB0
  have HR0 := Lib.hid hR0
  clear hR0
  have HR1 := Lib.hid hR1
  clear hR1
  have hd0 : decide (R0 = R0) = true := by simp
  have hk1 : (R1 != R1) = false := by simp
  have hda0 : decide (x0 = x0) = true := by simp
  have hq0 : ((1 + (R0.length : Int)) != (1 + (R0.length : Int))) = false := by simp
  go_wp2_with fail
  refine (c_toInt64S _ _ _ (hx0.below BW) (by omega)).mono ?_; rintro e w1 ⟨t1, rfl, ot1r, hb1⟩
  have hs1 := hb1.size
  replace BW := bb BW hb1
  have ot1 := ot1r.inn
  clear ot1r
  clear hb1
  go_wp2_with fail
  refine (c_specCycleLengths _ _ _ (ot1.ints)).mono ?_
  rw [← HR0.out, ← HR1.out]
  rintro e w2 ⟨s0, rfl, os0r, hb2⟩
  have hs2 := hb2.size
  replace ot1 := ot1.under hb2
  replace BW := bb BW hb2
  clear ot1
  have hS := os0r.ints
  clear os0r
  have BS : Below w2.heap.size w2 w2 := Below.refl _ _
  clear hb2
  go_wp2_with fail
  refine (c_toInt64S _ _ _ (hx0.below BW) (by omega)).mono ?_; rintro e w3 ⟨z0, rfl, oz0r, hb3⟩
  have hs3 := hb3.size
  replace BW := bb BW hb3
  replace BS := bb BS hb3
  have oz0 := oz0r.inn
  clear oz0r
  clear hb3
  go_wp2_with fail
  refine (c_CycleLengths _ _ _ (oz0.ints)).mono ?_
  rw [← HR0.out, ← HR1.out]
  rintro e w4 ⟨g0, rfl, og0r, hb4⟩
  have hs4 := hb4.size
  replace oz0 := oz0.under hb4
  replace BW := bb BW hb4
  replace BS := bb BS hb4
  have og0 := og0r.inn
  clear og0r
  clear hb4
  go_wp2_with fail
  refine (c_eqI _ _ _ _ _ (og0.ints) (hS.below BS)).mono ?_; rintro e w5 ⟨rfl, hb5⟩
  have hs5 := hb5.size
  replace oz0 := oz0.under hb5
  replace og0 := og0.under hb5
  replace BW := bb BW hb5
  replace BS := bb BS hb5
  clear hb5
  go_wp2_with fail
  refine (c_toInt64S _ _ _ (hx0.below BW) (by omega)).mono ?_; rintro e w6 ⟨t2, rfl, ot2r, hb6⟩
  have hs6 := hb6.size
  replace oz0 := oz0.under hb6
  replace og0 := og0.under hb6
  replace BW := bb BW hb6
  replace BS := bb BS hb6
  have ot2 := ot2r.inn
  clear ot2r
  clear hb6
  go_wp2_with fail
  refine (c_eqI _ _ _ _ _ (oz0.ints) (ot2.ints)).mono ?_; rintro e w7 ⟨rfl, hb7⟩
  have hs7 := hb7.size
  replace oz0 := oz0.under hb7
  replace og0 := og0.under hb7
  replace ot2 := ot2.under hb7
  replace BW := bb BW hb7
  replace BS := bb BS hb7
  clear hb7
  clear ot2
  go_wp2_with fail
  refine (c_markI _ _ _ _ _ _ oz0 (by omega) (by omega)).mono ?_; rintro e w8 ⟨rfl, oz0m, hkw8⟩
  have hs8 := hkw8.size
  replace og0 := og0.keep hkw8 (fun b p q r => by omega)
  replace BW := below_keep BW hkw8 (by omega)
  replace BS := below_keep BS hkw8 (by omega)
  clear oz0
  have oz0 := oz0m
  clear oz0m hkw8
  clear oz0
  go_wp2_with fail
  refine (c_eqI _ _ _ _ _ (og0.ints) (hS.below BS)).mono ?_; rintro e w9 ⟨rfl, hb9⟩
  have hs9 := hb9.size
  replace og0 := og0.under hb9
  replace BW := bb BW hb9
  replace BS := bb BS hb9
  clear hb9
  go_wp2_with fail
  refine (c_markI _ _ _ _ _ _ og0 (by omega) (by omega)).mono ?_; rintro e w10 ⟨rfl, og0m, hkw10⟩
  have hs10 := hkw10.size
  replace BW := below_keep BW hkw10 (by omega)
  replace BS := below_keep BS hkw10 (by omega)
  clear og0
  have og0 := og0m
  clear og0m hkw10
  go_wp2_with fail
  refine (c_heldInt64S _ _ _ _ (og0.ints) (by omega) (by omega)).mono ?_; rintro e w11 ⟨rfl, hb11⟩
  have hs11 := hb11.size
  replace og0 := og0.under hb11
  replace BW := bb BW hb11
  replace BS := bb BS hb11
  clear hb11
  go_wp2_with fail
  refine (c_toInt64S _ _ _ (hx0.below BW) (by omega)).mono ?_; rintro e w12 ⟨t3, rfl, ot3r, hb12⟩
  have hs12 := hb12.size
  replace og0 := og0.under hb12
  replace BW := bb BW hb12
  replace BS := bb BS hb12
  have ot3 := ot3r.inn
  clear ot3r
  clear hb12
  go_wp2_with fail
  refine (c_CycleLengths _ _ _ (ot3.ints)).mono ?_
  rw [← HR0.out, ← HR1.out]
  rintro e w13 ⟨h0, rfl, oh0r, hb13⟩
  have hs13 := hb13.size
  replace og0 := og0.under hb13
  replace ot3 := ot3.under hb13
  replace BW := bb BW hb13
  replace BS := bb BS hb13
  have oh0 := oh0r.inn
  clear oh0r
  clear ot3
  clear hb13
  go_wp2_with fail
  refine (c_eqI _ _ _ _ _ (oh0.ints) (hS.below BS)).mono ?_; rintro e w14 ⟨rfl, hb14⟩
  have hs14 := hb14.size
  replace og0 := og0.under hb14
  replace oh0 := oh0.under hb14
  replace BW := bb BW hb14
  replace BS := bb BS hb14
  clear hb14
  go_wp2_with fail
  refine (c_heldInt64S _ _ _ _ (og0.ints) (by omega) (by omega)).mono ?_; rintro e w15 ⟨rfl, hb15⟩
  have hs15 := hb15.size
  replace og0 := og0.under hb15
  replace oh0 := oh0.under hb15
  replace BW := bb BW hb15
  replace BS := bb BS hb15
  clear hb15
  have HB := Lib.hid BW
  clear BW BS hS og0 oh0 hx0
  go_wp2
  go_ret
  exact ⟨rfl, HB.out⟩
end Go.Proofs.Ytkcobfkmeaakoaa
