/-
  The law FnExactFlipSolution answers true, and leaves what was there as it was: at every number.
-/
import Derived.Test.YtejdcdbecnjbcaaS2b
import Derived.Test.YtejdcdbecnjbcaaLawC
namespace Go.Proofs.Ytejdcdbecnjbcaa
open Go.RowKit

def flN (n : Int) : List Int := iota n.toNat
def flA (n : Int) : List (List Int) := if inR n 1 12 then twA (flN n) else []
def flB (n : Int) : List (List Int) := if inR n 1 12 then twB (flN n) (flN n) else []
def flCode (n : Int) : Int := if inR n 1 12 then 0 else 2

set_option maxHeartbeats 400000 in
theorem c_l02Flip (n : Nat) (w : World) (hn : n ≤ 1048576) :
    Calls Try.prog 74 #[.int .i64 n] w (RSolR w (twA (iota n)) (twB (iota n) (iota n))) := by
  obtain ⟨f0, hW0, hsz⟩ := boxes1 w [.slice none 0 0, .slice none 0 0] 46
  have HF := Lib.hid f0; have HW := Lib.hid hW0; clear f0 hW0
  go_enter Try.func74, Try.ntmps74
  go_wp2_with fail
  refine (c_l01Unit n _ hn).mono ?_; rintro e w1 ⟨r1, rfl, ho1, hb1⟩
  have HO := Lib.hid ho1; have HB1 := Lib.hid hb1; clear ho1 hb1
  go_wp2_with fail
  refine (c_l02Twist _ _ (iota n) (iota n) _ HO.out.ints HO.out.ints rfl (by rw [iota_length]; exact hn)).mono ?_; rintro e w2 ⟨s1, s2, rfl, hs, hb2⟩
  obtain ⟨a1, c1, rfl, _⟩ := OwnRows.shape' hs.1
  obtain ⟨a2, c2, rfl, _⟩ := OwnRows.shape' hs.2
  obtain ⟨g0, g1, g2, g3⟩ := two_cells ((HF.out.under HB1.out).under hb2)
  have HS := Lib.hid hs; have HB2 := Lib.hid hb2; have HZ := Lib.hid hsz; clear hs hb2 hsz
  go_wp2
  have hz := HZ.out
  have hs1 : (w.alloc (.cells #[.slice none 0 0, .slice none 0 0] 46)).heap.size ≤ w1.heap.size := HB1.out.size
  refine bodyPost_ret (v := .agg #[.slice a1 (twA (iota n)).length c1, .slice a2 (twB (iota n) (iota n)).length c2]) (by simp [results, Try.results74, go_sem, g0, g1]) rfl ⟨_, _, rfl, ⟨?_, ?_⟩, ((bb (bb HW.out HB1.out) HB2.out).setCell (p := ⟨w.heap.size, 0, none⟩) (Nat.le_refl _) _).setCell (p := ⟨w.heap.size, 1, none⟩) (Nat.le_refl _) _⟩
  · exact ((HS.out.1.keep (keep1 _ w.heap.size 0 _) (fun b h1 h2 h3 => by have h3 : b = w.heap.size := h3; omega)).keep (keep1 _ w.heap.size 1 _) (fun b h1 h2 h3 => by have h3 : b = w.heap.size := h3; omega)).mono (by omega)
  · exact ((HS.out.2.keep (keep1 _ w.heap.size 0 _) (fun b h1 h2 h3 => by have h3 : b = w.heap.size := h3; omega)).keep (keep1 _ w.heap.size 1 _) (fun b h1 h2 h3 => by have h3 : b = w.heap.size := h3; omega)).mono (by omega)

set_option maxHeartbeats 400000 in
theorem c_FlipSolution (n : Int) (w : World) (hlo : -9223372036854775808 ≤ n) (hhi : n ≤ 9223372036854775807) :
    Calls Try.prog 46 #[.int .i64 n] w (RSolC w (flA n) (flB n) (flCode n)) := by
  obtain ⟨f0, hW0, hsz⟩ := boxes1 w [.slice none 0 0, .slice none 0 0] 46
  have HF := Lib.hid f0; have HW := Lib.hid hW0; have HZ := Lib.hid hsz; clear f0 hW0 hsz
  by_cases h : inR n 1 12 = true
  · have HN := Lib.hid h
    obtain ⟨m, rfl⟩ : ∃ m : Nat, n = m := ⟨n.toNat, by simp [inR] at h; omega⟩
    have hm : m ≤ 1048576 := by simp [inR] at h; omega
    go_enter Try.func46, Try.ntmps46
    go_wp2_with fail
    refine (c_within _ _ _ _).mono ?_; rintro e w' ⟨rfl, rfl⟩
    clear h
    have h := HN.out
    go_wp2_with fail
    refine (c_identity m _ hm).mono ?_; rintro e w1 ⟨r1, rfl, ho1, hb1⟩
    have HO1 := Lib.hid ho1; have HB1 := Lib.hid hb1; clear ho1 hb1
    go_wp2_with fail
    refine (c_identity m _ hm).mono ?_; rintro e w2 ⟨r2, rfl, ho2, hb2⟩
    have HO2 := Lib.hid ho2; have HB2 := Lib.hid hb2; clear ho2 hb2
    go_wp2_with fail
    refine (c_twist _ _ (iota m) (iota m) _ (HO1.out.ints.below HB2.out) HO2.out.ints rfl (by rw [iota_length]; exact hm)).mono ?_; rintro e w3 ⟨s1, s2, rfl, hs, hb3⟩
    obtain ⟨a1, c1, rfl, _, _⟩ := hs.sol.1.shape
    obtain ⟨a2, c2, rfl, _, _⟩ := hs.sol.2.shape
    obtain ⟨g0, g1, g2, g3⟩ := two_cells (((HF.out.under HB1.out).under HB2.out).under hb3)
    have HS := Lib.hid hs; have HB3 := Lib.hid hb3; clear hs hb3
    go_wp2
    have hz := HZ.out
    have hs1 := HB1.out.size
    have hs2 := HB2.out.size
    obtain ⟨hA, hB⟩ := stored (q := w.heap.size) (bb (bb (bb HW.out HB1.out) HB2.out) HB3.out) HS.out (Nat.le_refl _) (by omega)
    refine bodyPost_ret (v := .tuple #[.agg #[.slice a1 (twA (iota m)).length c1, .slice a2 (twB (iota m) (iota m)).length c2], .int .i64 0]) (by simp [results, Try.results46, go_sem, g0, g1]) rfl ⟨.slice a1 (twA (iota m)).length c1, .slice a2 (twB (iota m) (iota m)).length c2, by simp [flCode, HN.out], ?_, hB⟩
    have e1 : flA m = twA (iota m) := by simp [flA, flN, HN.out]
    have e2 : flB m = twB (iota m) (iota m) := by simp [flB, flN, HN.out]
    rw [e1, e2]
    exact hA
  · have h' : inR n 1 12 = false := by simpa using h
    have HN := Lib.hid h'
    clear h
    go_enter Try.func46, Try.ntmps46
    go_wp2_with fail
    refine (c_within _ _ _ _).mono ?_; rintro e w' ⟨rfl, rfl⟩
    clear h'
    have h' := HN.out
    obtain ⟨g0, g1, g2, g3⟩ := two_cells HF.out
    go_wp2
    refine bodyPost_ret (v := .tuple #[.agg #[.slice none 0 0, .slice none 0 0], .int .i64 2]) (by simp [results, Try.results46, go_sem, g0, g1]) rfl ⟨.slice none 0 0, .slice none 0 0, by simp [flCode, HN.out], ?_, ?_⟩
    · rw [show flA n = [] from by simp [flA, HN.out], show flB n = [] from by simp [flB, HN.out]]
      exact OwnSol.nil0 (by simp [World.setCell])
    · first | exact HW.out | exact (HW.out.setCell (p := ⟨w.heap.size, 0, none⟩) (Nat.le_refl _) _).setCell (p := ⟨w.heap.size, 1, none⟩) (Nat.le_refl _) _

set_option maxHeartbeats 400000 in
theorem c_specFlipSolution (n : Int) (w : World) (hlo : -9223372036854775808 ≤ n) (hhi : n ≤ 9223372036854775807) :
    Calls Try.prog 45 #[.int .i64 n] w (RSolRC w (flA n) (flB n) (flCode n)) := by
  obtain ⟨f0, hW0, hsz⟩ := boxes1 w [.slice none 0 0, .slice none 0 0] 46
  have HF := Lib.hid f0; have HW := Lib.hid hW0; have HZ := Lib.hid hsz; clear f0 hW0 hsz
  by_cases h : inR n 1 12 = true
  · have HN := Lib.hid h
    obtain ⟨m, rfl⟩ : ∃ m : Nat, n = m := ⟨n.toNat, by simp [inR] at h; omega⟩
    have hm : m ≤ 1048576 := by simp [inR] at h; omega
    go_enter Try.func45, Try.ntmps45
    go_wp2_with fail
    refine (c_l01In _ _ _ _).mono ?_; rintro e w' ⟨rfl, rfl⟩
    clear h
    have h := HN.out
    go_wp2_with fail
    refine (c_l02Flip m _ hm).mono ?_; rintro e w3 ⟨s1, s2, rfl, hs, hb3⟩
    obtain ⟨a1, c1, rfl, _⟩ := OwnRows.shape' hs.1
    obtain ⟨a2, c2, rfl, _⟩ := OwnRows.shape' hs.2
    obtain ⟨g0, g1, g2, g3⟩ := two_cells (HF.out.under hb3)
    have HS := Lib.hid hs; have HB3 := Lib.hid hb3; clear hs hb3
    go_wp2
    have hz := HZ.out
    have e1 : flA m = twA (iota m) := by simp [flA, flN, HN.out]
    have e2 : flB m = twB (iota m) (iota m) := by simp [flB, flN, HN.out]
    refine bodyPost_ret (v := .tuple #[.agg #[.slice a1 (twA (iota m)).length c1, .slice a2 (twB (iota m) (iota m)).length c2], .int .i64 0]) (by simp [results, Try.results45, go_sem, g0, g1]) rfl ⟨.slice a1 (twA (iota m)).length c1, .slice a2 (twB (iota m) (iota m)).length c2, by simp [flCode, HN.out], ⟨_, rfl, ⟨?_, ?_⟩, Nat.le_refl _, Below.refl _ _⟩, ((bb HW.out HB3.out).setCell (p := ⟨w.heap.size, 0, none⟩) (Nat.le_refl _) _).setCell (p := ⟨w.heap.size, 1, none⟩) (Nat.le_refl _) _⟩
    · rw [e1]
      exact ((HS.out.1.keep (keep1 _ w.heap.size 0 _) (fun b h1 h2 h3 => by have h3 : b = w.heap.size := h3; omega)).keep (keep1 _ w.heap.size 1 _) (fun b h1 h2 h3 => by have h3 : b = w.heap.size := h3; omega)).rows
    · rw [e2]
      exact ((HS.out.2.keep (keep1 _ w.heap.size 0 _) (fun b h1 h2 h3 => by have h3 : b = w.heap.size := h3; omega)).keep (keep1 _ w.heap.size 1 _) (fun b h1 h2 h3 => by have h3 : b = w.heap.size := h3; omega)).rows
  · have h' : inR n 1 12 = false := by simpa using h
    have HN := Lib.hid h'
    clear h
    go_enter Try.func45, Try.ntmps45
    go_wp2_with fail
    refine (c_l01In _ _ _ _).mono ?_; rintro e w' ⟨rfl, rfl⟩
    clear h'
    have h' := HN.out
    obtain ⟨g0, g1, g2, g3⟩ := two_cells HF.out
    go_wp2
    refine bodyPost_ret (v := .tuple #[.agg #[.slice none 0 0, .slice none 0 0], .int .i64 2]) (by simp [results, Try.results45, go_sem, g0, g1]) rfl ⟨.slice none 0 0, .slice none 0 0, by simp [flCode, HN.out], ⟨_, rfl, ⟨?_, ?_⟩, Nat.le_refl _, Below.refl _ _⟩, ?_⟩
    · rw [show flA n = [] from by simp [flA, HN.out]]
      exact (OwnRowsIn.nil0 0 0 _).rows
    · rw [show flB n = [] from by simp [flB, HN.out]]
      exact (OwnRowsIn.nil0 0 0 _).rows
    · first | exact HW.out | exact (HW.out.setCell (p := ⟨w.heap.size, 0, none⟩) (Nat.le_refl _) _).setCell (p := ⟨w.heap.size, 1, none⟩) (Nat.le_refl _) _
theorem fl_total (n : Int) : total (flA n) ≤ 144 ∧ total (flB n) ≤ 144 := by
  unfold flA flB
  split
  · rename_i h
    have hl : (flN n).length ≤ 12 := by simp [inR] at h; simp [flN]; omega
    have h1 := total_le _ (tab_rows (g := fun _ y => nth (flN n) y) hl)
    have h2 := total_le _ (tab_rows (g := fun x _ => nth (flN n) x) hl)
    rw [tabOf_length] at h1 h2
    unfold twA twB
    omega
  · simp [total]

set_option maxHeartbeats 4000000 in
theorem law_FlipSolution (n0 : Int) (w : World) (hl0 : -9223372036854775808 ≤ n0) (hu0 : n0 ≤ 9223372036854775807) :
    Calls Try.prog 13 #[.int .i64 n0] w (RVal w (.bool true)) := by
  go_enter Try.func13, Try.ntmps13
  have BW : Below w.heap.size w w := Below.refl _ _
  have hB0 : total (flA n0) + total (flB n0) ≤ 1152921504606846976 := by have := fl_total n0; omega
  obtain ⟨RA0, hRA0⟩ : ∃ z, z = flA n0 := ⟨_, rfl⟩
  obtain ⟨RB0, hRB0⟩ : ∃ z, z = flB n0 := ⟨_, rfl⟩
  obtain ⟨R1, hR1⟩ : ∃ z, z = flCode n0 := ⟨_, rfl⟩
  rw [← hRA0, ← hRB0] at hB0
  have HRA0 := Lib.hid hRA0
  clear hRA0
  have HRB0 := Lib.hid hRB0
  clear hRB0
  have HR1 := Lib.hid hR1
  clear hR1
  have hd0 : decide (RA0 = RA0 ∧ RB0 = RB0) = true := by simp
  have hk1 : (R1 != R1) = false := by simp
  have hq0 : ((1 + (total RA0 : Int) + (total RB0 : Int)) != (1 + (total RA0 : Int) + (total RB0 : Int))) = false := by simp
  go_wp2_with fail
  refine (c_specFlipSolution _ _ hl0 hu0).mono ?_
  rw [← HRA0.out, ← HRB0.out, ← HR1.out]
  rintro e w1 ⟨s01, s02, rfl, os0, hb1⟩
  have hs1 := hb1.size
  replace BW := bb BW hb1
  have hS := os0.sol
  clear os0
  obtain ⟨sas0, scs0, hvs0, _, _⟩ := hS.1.shape
  subst hvs0
  obtain ⟨sbs0, sds0, hvs0, _, _⟩ := hS.2.shape
  subst hvs0
  have BS : Below w1.heap.size w1 w1 := Below.refl _ _
  clear hb1
  go_wp2_with fail
  obtain ⟨bxs0, hb2, hz2⟩ := boxes1 w1 [.slice sas0 RA0.length scs0, .slice sbs0 RB0.length sds0] 46
  obtain ⟨w2, hW2⟩ : ∃ W, w1.alloc (.cells #[.slice sas0 RA0.length scs0, .slice sbs0 RB0.length sds0] 46) = W := ⟨_, rfl⟩
  rw [hW2] at bxs0 hb2 hz2 ⊢
  have hs2 : w1.heap.size + 1 ≤ w2.heap.size := by omega
  clear hW2 hz2
  replace BW := bb BW hb2
  replace BS := bb BS hb2
  obtain ⟨cAs0, cBs0, -, -⟩ := two_cells bxs0
  clear hb2
  refine (c_FlipSolution _ _ hl0 hu0).mono ?_
  rw [← HRA0.out, ← HRB0.out, ← HR1.out]
  rintro e w3 ⟨g01, g02, rfl, og0, hb3⟩
  have hs3 := hb3.size
  replace BW := bb BW hb3
  replace BS := bb BS hb3
  replace bxs0 := bxs0.under hb3
  clear cAs0 cBs0
  obtain ⟨cAs0, cBs0, -, -⟩ := two_cells bxs0
  obtain ⟨sag0, scg0, hvg0, _, _⟩ := og0.sol.1.shape
  subst hvg0
  obtain ⟨sbg0, sdg0, hvg0, _, _⟩ := og0.sol.2.shape
  subst hvg0
  clear hb3
  obtain ⟨cAs0z, cBs0z, -, -⟩ := two_cells (bxs0.alloc (.cells #[.slice sag0 RA0.length scg0, .slice sbg0 RB0.length sdg0] 46))
  go_wp2_with fail
  clear cAs0z cBs0z
  obtain ⟨bxg0, hb4, hz4⟩ := boxes1 w3 [.slice sag0 RA0.length scg0, .slice sbg0 RB0.length sdg0] 46
  obtain ⟨w4, hW4⟩ : ∃ W, w3.alloc (.cells #[.slice sag0 RA0.length scg0, .slice sbg0 RB0.length sdg0] 46) = W := ⟨_, rfl⟩
  rw [hW4] at bxg0 hb4 hz4 ⊢
  have hs4 : w3.heap.size + 1 ≤ w4.heap.size := by omega
  clear hW4 hz4
  replace og0 := og0.under hb4
  replace BW := bb BW hb4
  replace BS := bb BS hb4
  replace bxs0 := bxs0.under hb4
  clear cAs0 cBs0
  obtain ⟨cAs0, cBs0, -, -⟩ := two_cells bxs0
  obtain ⟨cAg0, cBg0, -, -⟩ := two_cells bxg0
  clear hb4
  refine (c_eqS _ _ _ _ _ _ _ _ _ (og0.sol) (hS.below BS)).mono ?_; rintro e w5 ⟨rfl, hb5⟩
  have hs5 := hb5.size
  replace og0 := og0.under hb5
  replace BW := bb BW hb5
  replace BS := bb BS hb5
  replace bxs0 := bxs0.under hb5
  clear cAs0 cBs0
  obtain ⟨cAs0, cBs0, -, -⟩ := two_cells bxs0
  replace bxg0 := bxg0.under hb5
  clear cAg0 cBg0
  obtain ⟨cAg0, cBg0, -, -⟩ := two_cells bxg0
  clear hb5
  go_wp2_with fail
  refine (c_markS _ _ _ _ _ _ _ _ og0 (by omega) (by omega) (by omega)).mono ?_; rintro e w6 ⟨rfl, og0m, hkw6⟩
  have hs6 := hkw6.size
  replace bxs0 := bxs0.of_block (hkw6.block _ (by omega) (by omega))
  clear cAs0 cBs0
  obtain ⟨cAs0, cBs0, -, -⟩ := two_cells bxs0
  replace bxg0 := bxg0.of_block (hkw6.block _ (by omega) (by omega))
  clear cAg0 cBg0
  obtain ⟨cAg0, cBg0, -, -⟩ := two_cells bxg0
  replace BW := below_keep BW hkw6 (by omega)
  replace BS := below_keep BS hkw6 (by omega)
  clear og0
  have og0 := og0m
  clear og0m hkw6
  go_wp2_with fail
  refine (c_heldS _ _ _ _ _ _ (og0.sol) (by omega) (by omega)).mono ?_; rintro e w7 ⟨rfl, hb7⟩
  have hs7 := hb7.size
  replace og0 := og0.under hb7
  replace BW := bb BW hb7
  replace BS := bb BS hb7
  replace bxs0 := bxs0.under hb7
  clear cAs0 cBs0
  obtain ⟨cAs0, cBs0, -, -⟩ := two_cells bxs0
  replace bxg0 := bxg0.under hb7
  clear cAg0 cBg0
  obtain ⟨cAg0, cBg0, -, -⟩ := two_cells bxg0
  clear hb7
  go_wp2_with fail
  refine (c_FlipSolution _ _ hl0 hu0).mono ?_
  rw [← HRA0.out, ← HRB0.out, ← HR1.out]
  rintro e w8 ⟨h01, h02, rfl, oh0, hb8⟩
  have hs8 := hb8.size
  replace og0 := og0.under hb8
  replace BW := bb BW hb8
  replace BS := bb BS hb8
  replace bxs0 := bxs0.under hb8
  clear cAs0 cBs0
  obtain ⟨cAs0, cBs0, -, -⟩ := two_cells bxs0
  replace bxg0 := bxg0.under hb8
  clear cAg0 cBg0
  obtain ⟨cAg0, cBg0, -, -⟩ := two_cells bxg0
  obtain ⟨sah0, sch0, hvh0, _, _⟩ := oh0.sol.1.shape
  subst hvh0
  obtain ⟨sbh0, sdh0, hvh0, _, _⟩ := oh0.sol.2.shape
  subst hvh0
  clear hb8
  obtain ⟨cAs0z, cBs0z, -, -⟩ := two_cells (bxs0.alloc (.cells #[.slice sah0 RA0.length sch0, .slice sbh0 RB0.length sdh0] 46))
  go_wp2_with fail
  clear cAs0z cBs0z
  obtain ⟨bxh0, hb9, hz9⟩ := boxes1 w8 [.slice sah0 RA0.length sch0, .slice sbh0 RB0.length sdh0] 46
  obtain ⟨w9, hW9⟩ : ∃ W, w8.alloc (.cells #[.slice sah0 RA0.length sch0, .slice sbh0 RB0.length sdh0] 46) = W := ⟨_, rfl⟩
  rw [hW9] at bxh0 hb9 hz9 ⊢
  have hs9 : w8.heap.size + 1 ≤ w9.heap.size := by omega
  clear hW9 hz9
  replace og0 := og0.under hb9
  replace oh0 := oh0.under hb9
  replace BW := bb BW hb9
  replace BS := bb BS hb9
  replace bxs0 := bxs0.under hb9
  clear cAs0 cBs0
  obtain ⟨cAs0, cBs0, -, -⟩ := two_cells bxs0
  replace bxg0 := bxg0.under hb9
  clear cAg0 cBg0
  obtain ⟨cAg0, cBg0, -, -⟩ := two_cells bxg0
  obtain ⟨cAh0, cBh0, -, -⟩ := two_cells bxh0
  clear hb9
  refine (c_eqS _ _ _ _ _ _ _ _ _ (oh0.sol) (hS.below BS)).mono ?_; rintro e w10 ⟨rfl, hb10⟩
  have hs10 := hb10.size
  replace og0 := og0.under hb10
  replace oh0 := oh0.under hb10
  replace BW := bb BW hb10
  replace BS := bb BS hb10
  replace bxs0 := bxs0.under hb10
  clear cAs0 cBs0
  obtain ⟨cAs0, cBs0, -, -⟩ := two_cells bxs0
  replace bxg0 := bxg0.under hb10
  clear cAg0 cBg0
  obtain ⟨cAg0, cBg0, -, -⟩ := two_cells bxg0
  replace bxh0 := bxh0.under hb10
  clear cAh0 cBh0
  obtain ⟨cAh0, cBh0, -, -⟩ := two_cells bxh0
  clear hb10
  go_wp2_with fail
  refine (c_heldS _ _ _ _ _ _ (og0.sol) (by omega) (by omega)).mono ?_; rintro e w11 ⟨rfl, hb11⟩
  have hs11 := hb11.size
  replace og0 := og0.under hb11
  replace oh0 := oh0.under hb11
  replace BW := bb BW hb11
  replace BS := bb BS hb11
  replace bxs0 := bxs0.under hb11
  clear cAs0 cBs0
  obtain ⟨cAs0, cBs0, -, -⟩ := two_cells bxs0
  replace bxg0 := bxg0.under hb11
  clear cAg0 cBg0
  obtain ⟨cAg0, cBg0, -, -⟩ := two_cells bxg0
  replace bxh0 := bxh0.under hb11
  clear cAh0 cBh0
  obtain ⟨cAh0, cBh0, -, -⟩ := two_cells bxh0
  clear hb11
  have HB := Lib.hid BW
  clear BW BS hS og0 oh0 bxs0 bxg0 bxh0
  go_wp2
  go_ret
  exact ⟨rfl, HB.out⟩
end Go.Proofs.Ytejdcdbecnjbcaa
