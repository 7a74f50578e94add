/-
  The law FnExactProductSolution answers true, and leaves what was there as it was.
-/
import Derived.Test.YtdhbleiioagmlaaI26
import Derived.Test.YtdhbleiioagmlaaT2
import Derived.Test.YtdhbleiioagmlaaS5
import Derived.Deep.RegionHeld3
namespace Go.Proofs.Ytdhbleiioagmlaa
open Go.RowKit

theorem cut_waysProductSolution {p G : Prop} (k : Hid p → G) (h : p) : G := k (Lib.hid h)
set_option maxHeartbeats 16000000 in
theorem law_ProductSolution (v0 u0 : Value) (x0 y0 : List (List Int)) (v1 u1 : Value) (x1 y1 : List (List Int)) (w : World) (hr0 : Rows w v0 x0) (hr0' : Rows w u0 y0) (hr1 : Rows w v1 x1) (hr1' : Rows w u1 y1) :
    Calls Try.prog 10 #[.agg #[v0, u0], .agg #[v1, u1]] w (RVal w (.bool true)) := by
  obtain ⟨a0, c0, rfl, hc0, hm0⟩ := hr0.shape
  obtain ⟨a0s, c0s, rfl, hc0s, hm0s⟩ := hr0'.shape
  have hx0 : Sol w (.slice a0 x0.length c0) (.slice a0s y0.length c0s) x0 y0 := ⟨hr0, hr0'⟩
  clear hr0 hr0'
  obtain ⟨a1, c1, rfl, hc1, hm1⟩ := hr1.shape
  obtain ⟨a1s, c1s, rfl, hc1s, hm1s⟩ := hr1'.shape
  have hx1 : Sol w (.slice a1 x1.length c1) (.slice a1s y1.length c1s) x1 y1 := ⟨hr1, hr1'⟩
  clear hr1 hr1'
  go_enter Try.func10, Try.ntmps10
  go_wp2_with fail
  obtain ⟨bx0, bx1, BW, hsz0⟩ := boxes2 w [.slice a0 x0.length c0, .slice a0s y0.length c0s] [.slice a1 x1.length c1, .slice a1s y1.length c1s] 24 24
  obtain ⟨W0, hW0⟩ : ∃ W, ((w.alloc (.cells #[.slice a0 x0.length c0, .slice a0s y0.length c0s] 24)).alloc (.cells #[.slice a1 x1.length c1, .slice a1s y1.length c1s] 24)) = W := ⟨_, rfl⟩
  rw [hW0] at bx0 bx1 BW hsz0 ⊢
  have hs0 : w.heap.size + 2 ≤ W0.heap.size := by omega
  clear hW0 hsz0
  refine (c_szSolution _ _ _ _ _ _ (hx0.below BW) (by omega) (by omega)).mono ?_; rintro e w1 ⟨rfl, hb1⟩
  have hs1 := hb1.size
  replace BW := bb BW hb1
  replace bx0 := bx0.under hb1
  obtain ⟨cA0, cB0, -, -⟩ := two_cells bx0
  replace bx1 := bx1.under hb1
  obtain ⟨cA1, cB1, -, -⟩ := two_cells bx1
  clear hb1
  by_cases hg0 : leftS x0 y0 (1048576) < 0
  case pos =>
    have HB := Lib.hid BW; clear BW
    go_wp2
    go_ret
    exact ⟨rfl, HB.out⟩
  have hf0 := leftS_fits (left := 1048576) (by omega) (by omega) hg0
  have Hf0 := Lib.hid hf0
  clear hf0
  have hf0 : (x0.length ≤ 1048576 ∧ total x0 ≤ 1048576) ∧ (y0.length ≤ 1048576 ∧ total y0 ≤ 1048576) ∧ 0 ≤ leftS x0 y0 (1048576) ∧ leftS x0 y0 (1048576) ≤ 1048576 := ⟨⟨Hf0.out.1.1, Hf0.out.1.2.2⟩, ⟨Hf0.out.2.1.1, Hf0.out.2.1.2.2⟩, Hf0.out.2.2⟩
  go_wp2_with fail
  refine (c_szSolution _ _ _ _ _ _ (hx1.below BW) (by omega) (by omega)).mono ?_; rintro e w2 ⟨rfl, hb2⟩
  have hs2 := hb2.size
  replace BW := bb BW hb2
  replace bx0 := bx0.under hb2
  clear cA0 cB0
  obtain ⟨cA0, cB0, -, -⟩ := two_cells bx0
  replace bx1 := bx1.under hb2
  clear cA1 cB1
  obtain ⟨cA1, cB1, -, -⟩ := two_cells bx1
  clear hb2
  by_cases hg1 : leftS x1 y1 (leftS x0 y0 (1048576)) < 0
  case pos =>
    have HB := Lib.hid BW; clear BW
    go_wp2
    go_ret
    exact ⟨rfl, HB.out⟩
  have hf1 := leftS_fits (left := leftS x0 y0 (1048576)) (by omega) (by omega) hg1
  have Hf1 := Lib.hid hf1
  clear hf1
  have hf1 : (x1.length ≤ 1048576 ∧ total x1 ≤ 1048576) ∧ (y1.length ≤ 1048576 ∧ total y1 ≤ 1048576) ∧ 0 ≤ leftS x1 y1 (leftS x0 y0 (1048576)) ∧ leftS x1 y1 (leftS x0 y0 (1048576)) ≤ 1048576 := ⟨⟨Hf1.out.1.1, Hf1.out.1.2.2⟩, ⟨Hf1.out.2.1.1, Hf1.out.2.1.2.2⟩, Hf1.out.2.2⟩
  have hB0 : total (prRA x0 y0 x1 y1) + total (prRB x0 y0 x1 y1) ≤ 1152921504606846976 := by have := pr_total x0 y0 x1 y1; omega
  obtain ⟨RA0, hRA0⟩ : ∃ z, z = prRA x0 y0 x1 y1 := ⟨_, rfl⟩
  obtain ⟨RB0, hRB0⟩ : ∃ z, z = prRB x0 y0 x1 y1 := ⟨_, rfl⟩
  obtain ⟨R1, hR1⟩ : ∃ z, z = prCode x0 y0 x1 y1 := ⟨_, rfl⟩
  rw [← hRA0, ← hRB0] at hB0
  have HRA0 := Lib.hid hRA0
  clear hRA0
  have HRB0 := Lib.hid hRB0
  clear hRB0
  have HR1 := Lib.hid hR1
  clear hR1
  have hd0 : decide (RA0 = RA0 ∧ RB0 = RB0) = true := by simp
  have hk1 : (R1 != R1) = false := by simp
  have hda0 : decide (x0 = x0 ∧ y0 = y0) = true := by simp
  have hda1 : decide (x1 = x1 ∧ y1 = y1) = true := by simp
  have hq0 : ((1 + (total RA0 : Int) + (total RB0 : Int)) != (1 + (total RA0 : Int) + (total RB0 : Int))) = false := by simp
  go_wp2_with fail
  have hdd : Below w2.heap.size w2 w2.drew := (Below.refl _ _).drew
  replace BW := bb BW hdd
  replace bx0 := bx0.under hdd
  clear cA0 cB0
  obtain ⟨cA0, cB0, -, -⟩ := two_cells bx0
  replace bx1 := bx1.under hdd
  clear cA1 cB1
  obtain ⟨cA1, cB1, -, -⟩ := two_cells bx1
  clear hdd
  have HSk : Hid (∀ w' : World, Below w2.drew.heap.size w2.drew w' → w'.cell? ⟨w.heap.size, 0, none⟩ = some (.slice a0 x0.length c0) ∧ w'.cell? ⟨w.heap.size, 1, none⟩ = some (.slice a0s y0.length c0s) ∧ w'.cell? ⟨w.heap.size + 1, 0, none⟩ = some (.slice a1 x1.length c1) ∧ w'.cell? ⟨w.heap.size + 1, 1, none⟩ = some (.slice a1s y1.length c1s)) := Lib.hid (fun w' hb => ⟨(two_cells (bx0.under hb)).1, (two_cells (bx0.under hb)).2.1, (two_cells (bx1.under hb)).1, (two_cells (bx1.under hb)).2.1⟩)
  have HX0 := Lib.hid (show Sol w2.drew _ _ x0 y0 from hx0.below BW)
  have HX1 := Lib.hid (show Sol w2.drew _ _ x1 y1 from hx1.below BW)
  have HBX0 := Lib.hid bx0
  have HBX1 := Lib.hid bx1
  have HBW0 := Lib.hid BW
  clear BW bx0 bx1
  have BC0 : Below w2.drew.heap.size w2.drew w2.drew := Below.refl _ _
  have BCd : Below w2.drew.heap.size w2.drew (w2.alloc (.cells #[.slice none 0 0, .slice none 0 0] 28)).drew := (Below.refl w2.drew.heap.size w2.drew).alloc (Nat.le_refl _) (.cells #[.slice none 0 0, .slice none 0 0] 28)
  have zz := HSk.out _ BC0
  have zd := HSk.out _ BCd
  obtain ⟨mzs0, hmz1s0, hmz2s0⟩ : ∃ z : Nat, z ≤ w2.heap.size ∧ w2.heap.size ≤ z := ⟨_, Nat.le_refl _, Nat.le_refl _⟩
  apply cut_waysProductSolution
  · intro key
    go_region_held3 (fun w' => w'.cell? ⟨w.heap.size, 0, none⟩ = some (.slice a0 x0.length c0) ∧ w'.cell? ⟨w.heap.size, 1, none⟩ = some (.slice a0s y0.length c0s) ∧ w'.cell? ⟨w.heap.size + 1, 0, none⟩ = some (.slice a1 x1.length c1) ∧ w'.cell? ⟨w.heap.size + 1, 1, none⟩ = some (.slice a1s y1.length c1s))
      (first | go_keep | exact HSk.out _ BC0 | exact HSk.out _ BC1 | exact HSk.out _ BC2 | exact HSk.out _ BC3 | exact HSk.out _ BCd | exact HSk.out _ (BC1.alloc BC1.size _) | exact HSk.out _ (BC2.alloc BC2.size _) | exact HSk.out _ (BC3.alloc BC3.size _) | exact HSk.out _ ((BC3.setCell (p := ⟨w4.heap.size, 0, none⟩) BC2.size _).setCell (p := ⟨w4.heap.size, 1, none⟩) BC2.size _) | exact HSk.out _ ((BC3.setCell (p := ⟨w3.heap.size, 0, none⟩) BC1.size _).setCell (p := ⟨w3.heap.size, 1, none⟩) BC1.size _) | exact HSk.out _ ((BC3.setCell (p := ⟨w2.heap.size, 0, none⟩) (Nat.le_refl _) _).setCell (p := ⟨w2.heap.size, 1, none⟩) (Nat.le_refl _) _))
      ((first
        | (go_at_call 17; (with_reducible refine (c_toSolution _ _ _ _ _ (HX0.out.below (by first | exact Below.refl _ _ | exact BCd)) hf0.1.1 Hf0.out.1.2.1 hf0.2.1.1 Hf0.out.2.1.2.1).mono ?_); rintro e w3 ⟨tt1, tt2, rfl, ott, hb1z⟩; have st1 := ott.sol; have BC1 : Below w2.drew.heap.size w2.drew w3 := bb (by first | exact BC0 | exact BCd) hb1z; clear ott; try (have HQ1 : Blk w3 w2.heap.size 28 [.slice none 0 0, .slice none 0 0] := ((Blk.new w2 [.slice none 0 0, .slice none 0 0] 28).drew).under hb1z))
        | (go_at_call 17; (with_reducible refine (c_toSolution _ _ _ _ _ (HX1.out.below (bb BC1 (by first | exact Below.refl _ _ | exact (Below.refl _ _).alloc (Nat.le_refl _) _))) hf1.1.1 Hf1.out.1.2.1 hf1.2.1.1 Hf1.out.2.1.2.1).mono ?_); rintro e w4 ⟨tu1, tu2, rfl, otu, hb2z⟩; have st2 := otu.sol; have BC12 : Below w3.heap.size w3 w4 := bb (by first | exact Below.refl _ _ | exact (Below.refl _ _).alloc (Nat.le_refl _) _) hb2z; have BC2 := bb BC1 BC12; clear otu; first | (have HQ2 : Blk w4 w2.heap.size 28 [.slice none 0 0, .slice none 0 0] := HQ1.under BC12) | (have HQ2 : Blk w4 w3.heap.size 28 [.slice none 0 0, .slice none 0 0] := (Blk.new w3 [.slice none 0 0, .slice none 0 0] 28).under hb2z) | skip)
        | (go_at_call 43; (with_reducible refine (c_specProductSolution _ _ _ _ _ _ _ _ _ (st1.below (by first | exact BC12 | exact BC12.alloc BC12.size _)) (st2.below (by first | exact Below.refl _ _ | exact (Below.refl _ _).alloc (Nat.le_refl _) _))).mono ?_); rw [← HRA0.out, ← HRB0.out, ← HR1.out]; rintro e w5 ⟨r1z, r2z, rfl, orz, hb3z⟩; obtain ⟨sas0, scs0, hvz, -, -⟩ := orz.1.rows.shape; subst hvz; obtain ⟨sbs0, sds0, hvz, -, -⟩ := orz.2.rows.shape; subst hvz; have BC23 : Below w4.heap.size w4 w5 := bb (by first | exact Below.refl _ _ | exact (Below.refl _ _).alloc (Nat.le_refl _) _) hb3z; have BC3 := bb BC2 BC23; first | (have HQ3 : Blk w5 w2.heap.size 28 [.slice none 0 0, .slice none 0 0] := HQ2.under BC23; have hzz := two_cells HQ3; obtain ⟨zq1, zq2, zq3, zq4⟩ := hzz) | (have HQ3 : Blk w5 w3.heap.size 28 [.slice none 0 0, .slice none 0 0] := HQ2.under BC23; have hzz := two_cells HQ3; obtain ⟨zq1, zq2, zq3, zq4⟩ := hzz) | (have HQ3 : Blk w5 w4.heap.size 28 [.slice none 0 0, .slice none 0 0] := (Blk.new w4 [.slice none 0 0, .slice none 0 0] 28).under hb3z; have hzz := two_cells HQ3; obtain ⟨zq1, zq2, zq3, zq4⟩ := hzz) | skip)))
    all_goals
      have hz1 : w2.heap.size ≤ w3.heap.size := BC1.size
      have hz2 : w3.heap.size ≤ w4.heap.size := BC12.size
      have hz3 : w4.heap.size ≤ w5.heap.size := BC23.size
      have e0z : w2.drew.heap.size = w2.heap.size := rfl
      have e2z : (w4.alloc (.cells #[.slice none 0 0, .slice none 0 0] 28)).heap.size = w4.heap.size + 1 := by simp
      first
        | (obtain ⟨w6, hV⟩ : ∃ V, w5.alloc (.cells #[.slice sas0 RA0.length scs0, .slice sbs0 RB0.length sds0] 28) = V := ⟨_, rfl⟩
           rw [hV]
           have hkk : Keep (fun k => k = w5.heap.size) w5 w6 := by rw [← hV]; exact keep_late _ _
           have bxs0 : Blk w6 (w5.heap.size) 28 [.slice sas0 RA0.length scs0, .slice sbs0 RB0.length sds0] := by rw [← hV]; exact Blk.new w5 [.slice sas0 RA0.length scs0, .slice sbs0 RB0.length sds0] 28
           have hS : Sol w6 (.slice sas0 RA0.length scs0) (.slice sbs0 RB0.length sds0) RA0 RB0 := ⟨orz.1.rows.below (by rw [← hV]; exact (Below.refl _ _).alloc (Nat.le_refl _) _), orz.2.rows.below (by rw [← hV]; exact (Below.refl _ _).alloc (Nat.le_refl _) _)⟩
           have hqz : mzs0 ≤ w5.heap.size := by omega
           have BZ : Below w2.drew.heap.size w2.drew w6 := BC3.trans (hkk.below fun k hk => ⟨by omega, by omega⟩)
           have hsz := BZ.size
           clear hkk hV
           generalize w5.heap.size = qzs0 at bxs0 hqz ⊢)
        | (obtain ⟨w6, hV⟩ : ∃ V, (w5.setCell ⟨w4.heap.size, 0, none⟩ (.slice sas0 RA0.length scs0)).setCell ⟨w4.heap.size, 1, none⟩ (.slice sbs0 RB0.length sds0) = V := ⟨_, rfl⟩
           rw [hV]
           have hkk : Keep (fun k => k = w4.heap.size) w5 w6 := by rw [← hV]; exact keep_early _ _ _ _
           have bxs0 : Blk w6 (w4.heap.size) 28 [.slice sas0 RA0.length scs0, .slice sbs0 RB0.length sds0] := by rw [← hV]; exact box_early HQ3
           have hS : Sol w6 (.slice sas0 RA0.length scs0) (.slice sbs0 RB0.length sds0) RA0 RB0 := ⟨(orz.1.keep hkk (fun x x1 _ x3 => by omega)).rows, (orz.2.keep hkk (fun x x1 _ x3 => by omega)).rows⟩
           have hqz : mzs0 ≤ w4.heap.size := by omega
           have BZ : Below w2.drew.heap.size w2.drew w6 := BC3.trans (hkk.below fun k hk => ⟨by omega, by omega⟩)
           have hsz := BZ.size
           clear hkk hV
           generalize w4.heap.size = qzs0 at bxs0 hqz ⊢)
        | (obtain ⟨w6, hV⟩ : ∃ V, (w5.setCell ⟨w3.heap.size, 0, none⟩ (.slice sas0 RA0.length scs0)).setCell ⟨w3.heap.size, 1, none⟩ (.slice sbs0 RB0.length sds0) = V := ⟨_, rfl⟩
           rw [hV]
           have hql := HQ2.lt
           have hkk : Keep (fun k => k = w3.heap.size) w5 w6 := by rw [← hV]; exact keep_early _ _ _ _
           have bxs0 : Blk w6 (w3.heap.size) 28 [.slice sas0 RA0.length scs0, .slice sbs0 RB0.length sds0] := by rw [← hV]; exact box_early HQ3
           have hS : Sol w6 (.slice sas0 RA0.length scs0) (.slice sbs0 RB0.length sds0) RA0 RB0 := ⟨(orz.1.keep hkk (fun x x1 _ x3 => by omega)).rows, (orz.2.keep hkk (fun x x1 _ x3 => by omega)).rows⟩
           have hqz : mzs0 ≤ w3.heap.size := by omega
           have BZ : Below w2.drew.heap.size w2.drew w6 := BC3.trans (hkk.below fun k hk => ⟨by omega, by omega⟩)
           have hsz := BZ.size
           clear hkk hV
           generalize w3.heap.size = qzs0 at bxs0 hqz ⊢)
        | (obtain ⟨w6, hV⟩ : ∃ V, (w5.setCell ⟨w2.heap.size, 0, none⟩ (.slice sas0 RA0.length scs0)).setCell ⟨w2.heap.size, 1, none⟩ (.slice sbs0 RB0.length sds0) = V := ⟨_, rfl⟩
           rw [hV]
           have hql := HQ1.lt
           have hkk : Keep (fun k => k = w2.heap.size) w5 w6 := by rw [← hV]; exact keep_early _ _ _ _
           have bxs0 : Blk w6 (w2.heap.size) 28 [.slice sas0 RA0.length scs0, .slice sbs0 RB0.length sds0] := by rw [← hV]; exact box_early HQ3
           have hS : Sol w6 (.slice sas0 RA0.length scs0) (.slice sbs0 RB0.length sds0) RA0 RB0 := ⟨(orz.1.keep hkk (fun x x1 _ x3 => by omega)).rows, (orz.2.keep hkk (fun x x1 _ x3 => by omega)).rows⟩
           have hqz : mzs0 ≤ w2.heap.size := by omega
           have BZ : Below w2.drew.heap.size w2.drew w6 := BC3.trans (hkk.below fun k hk => ⟨by omega, by omega⟩)
           have hsz := BZ.size
           clear hkk hV
           generalize w2.heap.size = qzs0 at bxs0 hqz ⊢)
      clear st1 st2 orz
      rename_i hHz
      clear hHz
      have pk := And.intro bxs0 (And.intro hS (And.intro hqz (And.intro BZ hsz)))
      clear bxs0 hS hqz BZ hsz
      revert pk
      revert qzs0
      revert w6
      revert sds0
      revert sbs0
      revert scs0
      revert sas0
      revert tu2
      revert tu1
      revert tt2
      revert tt1
      exact key.out
  rintro tt1 tt2 tu1 tu2 sas0 scs0 sbs0 sds0 w6 qzs0 ⟨bxs0, hS, hqz, BZ, hsz⟩
  have BW := bb HBW0.out BZ
  have hs6 : w2.heap.size ≤ w6.heap.size := hsz
  have bx0 := HBX0.out.under BZ
  have bx1 := HBX1.out.under BZ
  have hqlts0 := bxs0.lt
  obtain ⟨cA0, cB0, -, -⟩ := two_cells bx0
  obtain ⟨cA1, cB1, -, -⟩ := two_cells bx1
  clear BZ zz zd BC0 BCd HSk
  have BS : Below w6.heap.size w6 w6 := Below.refl _ _
  obtain ⟨cAs0, cBs0, -, -⟩ := two_cells bxs0
  go_wp2_with fail
  refine (c_toSolution _ _ _ _ _ (hx0.below BW) hf0.1.1 Hf0.out.1.2.1 hf0.2.1.1 Hf0.out.2.1.2.1).mono ?_; rintro e w7 ⟨z01, z02, rfl, oz0, hb7⟩
  have hs7 := hb7.size
  replace BW := bb BW hb7
  replace BS := bb BS hb7
  replace bx0 := bx0.under hb7
  clear cA0 cB0
  obtain ⟨cA0, cB0, -, -⟩ := two_cells bx0
  replace bx1 := bx1.under hb7
  clear cA1 cB1
  obtain ⟨cA1, cB1, -, -⟩ := two_cells bx1
  replace bxs0 := bxs0.under hb7
  clear cAs0 cBs0
  obtain ⟨cAs0, cBs0, -, -⟩ := two_cells bxs0
  clear hb7
  obtain ⟨saz0, scz0, hvz0, _, _⟩ := oz0.sol.1.shape
  subst hvz0
  obtain ⟨sbz0, sdz0, hvz0, _, _⟩ := oz0.sol.2.shape
  subst hvz0
  obtain ⟨cA0z, cB0z, -, -⟩ := two_cells (bx0.alloc (.cells #[.slice saz0 x0.length scz0, .slice sbz0 y0.length sdz0] 28))
  obtain ⟨cA1z, cB1z, -, -⟩ := two_cells (bx1.alloc (.cells #[.slice saz0 x0.length scz0, .slice sbz0 y0.length sdz0] 28))
  obtain ⟨cAs0z, cBs0z, -, -⟩ := two_cells (bxs0.alloc (.cells #[.slice saz0 x0.length scz0, .slice sbz0 y0.length sdz0] 28))
  go_wp2_with fail
  clear cA0z cB0z
  clear cA1z cB1z
  clear cAs0z cBs0z
  obtain ⟨bxz0, hb8, hz8⟩ := boxes1 w7 [.slice saz0 x0.length scz0, .slice sbz0 y0.length sdz0] 28
  obtain ⟨w8, hW8⟩ : ∃ W, w7.alloc (.cells #[.slice saz0 x0.length scz0, .slice sbz0 y0.length sdz0] 28) = W := ⟨_, rfl⟩
  rw [hW8] at bxz0 hb8 hz8 ⊢
  have hs8 : w7.heap.size + 1 ≤ w8.heap.size := by omega
  clear hW8 hz8
  replace oz0 := oz0.under hb8
  replace BW := bb BW hb8
  replace BS := bb BS hb8
  replace bx0 := bx0.under hb8
  clear cA0 cB0
  obtain ⟨cA0, cB0, -, -⟩ := two_cells bx0
  replace bx1 := bx1.under hb8
  clear cA1 cB1
  obtain ⟨cA1, cB1, -, -⟩ := two_cells bx1
  replace bxs0 := bxs0.under hb8
  clear cAs0 cBs0
  obtain ⟨cAs0, cBs0, -, -⟩ := two_cells bxs0
  obtain ⟨cAz0, cBz0, -, -⟩ := two_cells bxz0
  clear hb8
  refine (c_toSolution _ _ _ _ _ (hx1.below BW) hf1.1.1 Hf1.out.1.2.1 hf1.2.1.1 Hf1.out.2.1.2.1).mono ?_; rintro e w9 ⟨z11, z12, rfl, oz1, hb9⟩
  have hs9 := hb9.size
  replace oz0 := oz0.under hb9
  replace BW := bb BW hb9
  replace BS := bb BS hb9
  replace bx0 := bx0.under hb9
  clear cA0 cB0
  obtain ⟨cA0, cB0, -, -⟩ := two_cells bx0
  replace bx1 := bx1.under hb9
  clear cA1 cB1
  obtain ⟨cA1, cB1, -, -⟩ := two_cells bx1
  replace bxs0 := bxs0.under hb9
  clear cAs0 cBs0
  obtain ⟨cAs0, cBs0, -, -⟩ := two_cells bxs0
  replace bxz0 := bxz0.under hb9
  clear cAz0 cBz0
  obtain ⟨cAz0, cBz0, -, -⟩ := two_cells bxz0
  clear hb9
  obtain ⟨saz1, scz1, hvz1, _, _⟩ := oz1.sol.1.shape
  subst hvz1
  obtain ⟨sbz1, sdz1, hvz1, _, _⟩ := oz1.sol.2.shape
  subst hvz1
  obtain ⟨cA0z, cB0z, -, -⟩ := two_cells (bx0.alloc (.cells #[.slice saz1 x1.length scz1, .slice sbz1 y1.length sdz1] 28))
  obtain ⟨cA1z, cB1z, -, -⟩ := two_cells (bx1.alloc (.cells #[.slice saz1 x1.length scz1, .slice sbz1 y1.length sdz1] 28))
  obtain ⟨cAs0z, cBs0z, -, -⟩ := two_cells (bxs0.alloc (.cells #[.slice saz1 x1.length scz1, .slice sbz1 y1.length sdz1] 28))
  obtain ⟨cAz0z, cBz0z, -, -⟩ := two_cells (bxz0.alloc (.cells #[.slice saz1 x1.length scz1, .slice sbz1 y1.length sdz1] 28))
  go_wp2_with fail
  clear cA0z cB0z
  clear cA1z cB1z
  clear cAs0z cBs0z
  clear cAz0z cBz0z
  obtain ⟨bxz1, hb10, hz10⟩ := boxes1 w9 [.slice saz1 x1.length scz1, .slice sbz1 y1.length sdz1] 28
  obtain ⟨w10, hW10⟩ : ∃ W, w9.alloc (.cells #[.slice saz1 x1.length scz1, .slice sbz1 y1.length sdz1] 28) = W := ⟨_, rfl⟩
  rw [hW10] at bxz1 hb10 hz10 ⊢
  have hs10 : w9.heap.size + 1 ≤ w10.heap.size := by omega
  clear hW10 hz10
  replace oz0 := oz0.under hb10
  replace oz1 := oz1.under hb10
  replace BW := bb BW hb10
  replace BS := bb BS hb10
  replace bx0 := bx0.under hb10
  clear cA0 cB0
  obtain ⟨cA0, cB0, -, -⟩ := two_cells bx0
  replace bx1 := bx1.under hb10
  clear cA1 cB1
  obtain ⟨cA1, cB1, -, -⟩ := two_cells bx1
  replace bxs0 := bxs0.under hb10
  clear cAs0 cBs0
  obtain ⟨cAs0, cBs0, -, -⟩ := two_cells bxs0
  replace bxz0 := bxz0.under hb10
  clear cAz0 cBz0
  obtain ⟨cAz0, cBz0, -, -⟩ := two_cells bxz0
  obtain ⟨cAz1, cBz1, -, -⟩ := two_cells bxz1
  clear hb10
  refine (c_ProductSolution _ _ _ _ _ _ _ _ _ (oz0.sol) (oz1.sol)).mono ?_
  rw [← HRA0.out, ← HRB0.out, ← HR1.out]
  rintro e w11 ⟨g01, g02, rfl, og0, hb11⟩
  have hs11 := hb11.size
  replace oz0 := oz0.under hb11
  replace oz1 := oz1.under hb11
  replace BW := bb BW hb11
  replace BS := bb BS hb11
  replace bx0 := bx0.under hb11
  clear cA0 cB0
  obtain ⟨cA0, cB0, -, -⟩ := two_cells bx0
  replace bx1 := bx1.under hb11
  clear cA1 cB1
  obtain ⟨cA1, cB1, -, -⟩ := two_cells bx1
  replace bxs0 := bxs0.under hb11
  clear cAs0 cBs0
  obtain ⟨cAs0, cBs0, -, -⟩ := two_cells bxs0
  replace bxz0 := bxz0.under hb11
  clear cAz0 cBz0
  obtain ⟨cAz0, cBz0, -, -⟩ := two_cells bxz0
  replace bxz1 := bxz1.under hb11
  clear cAz1 cBz1
  obtain ⟨cAz1, cBz1, -, -⟩ := two_cells bxz1
  obtain ⟨sag0, scg0, hvg0, _, _⟩ := og0.sol.1.shape
  subst hvg0
  obtain ⟨sbg0, sdg0, hvg0, _, _⟩ := og0.sol.2.shape
  subst hvg0
  clear hb11
  obtain ⟨cA0z, cB0z, -, -⟩ := two_cells (bx0.alloc (.cells #[.slice sag0 RA0.length scg0, .slice sbg0 RB0.length sdg0] 28))
  obtain ⟨cA1z, cB1z, -, -⟩ := two_cells (bx1.alloc (.cells #[.slice sag0 RA0.length scg0, .slice sbg0 RB0.length sdg0] 28))
  obtain ⟨cAs0z, cBs0z, -, -⟩ := two_cells (bxs0.alloc (.cells #[.slice sag0 RA0.length scg0, .slice sbg0 RB0.length sdg0] 28))
  obtain ⟨cAz0z, cBz0z, -, -⟩ := two_cells (bxz0.alloc (.cells #[.slice sag0 RA0.length scg0, .slice sbg0 RB0.length sdg0] 28))
  obtain ⟨cAz1z, cBz1z, -, -⟩ := two_cells (bxz1.alloc (.cells #[.slice sag0 RA0.length scg0, .slice sbg0 RB0.length sdg0] 28))
  go_wp2_with fail
  clear cA0z cB0z
  clear cA1z cB1z
  clear cAs0z cBs0z
  clear cAz0z cBz0z
  clear cAz1z cBz1z
  obtain ⟨bxg0, hb12, hz12⟩ := boxes1 w11 [.slice sag0 RA0.length scg0, .slice sbg0 RB0.length sdg0] 28
  obtain ⟨w12, hW12⟩ : ∃ W, w11.alloc (.cells #[.slice sag0 RA0.length scg0, .slice sbg0 RB0.length sdg0] 28) = W := ⟨_, rfl⟩
  rw [hW12] at bxg0 hb12 hz12 ⊢
  have hs12 : w11.heap.size + 1 ≤ w12.heap.size := by omega
  clear hW12 hz12
  replace oz0 := oz0.under hb12
  replace oz1 := oz1.under hb12
  replace og0 := og0.under hb12
  replace BW := bb BW hb12
  replace BS := bb BS hb12
  replace bx0 := bx0.under hb12
  clear cA0 cB0
  obtain ⟨cA0, cB0, -, -⟩ := two_cells bx0
  replace bx1 := bx1.under hb12
  clear cA1 cB1
  obtain ⟨cA1, cB1, -, -⟩ := two_cells bx1
  replace bxs0 := bxs0.under hb12
  clear cAs0 cBs0
  obtain ⟨cAs0, cBs0, -, -⟩ := two_cells bxs0
  replace bxz0 := bxz0.under hb12
  clear cAz0 cBz0
  obtain ⟨cAz0, cBz0, -, -⟩ := two_cells bxz0
  replace bxz1 := bxz1.under hb12
  clear cAz1 cBz1
  obtain ⟨cAz1, cBz1, -, -⟩ := two_cells bxz1
  obtain ⟨cAg0, cBg0, -, -⟩ := two_cells bxg0
  clear hb12
  refine (c_eqS _ _ _ _ _ _ _ _ _ (og0.sol) (hS.below BS)).mono ?_; rintro e w13 ⟨rfl, hb13⟩
  have hs13 := hb13.size
  replace oz0 := oz0.under hb13
  replace oz1 := oz1.under hb13
  replace og0 := og0.under hb13
  replace BW := bb BW hb13
  replace BS := bb BS hb13
  replace bx0 := bx0.under hb13
  clear cA0 cB0
  obtain ⟨cA0, cB0, -, -⟩ := two_cells bx0
  replace bx1 := bx1.under hb13
  clear cA1 cB1
  obtain ⟨cA1, cB1, -, -⟩ := two_cells bx1
  replace bxs0 := bxs0.under hb13
  clear cAs0 cBs0
  obtain ⟨cAs0, cBs0, -, -⟩ := two_cells bxs0
  replace bxz0 := bxz0.under hb13
  clear cAz0 cBz0
  obtain ⟨cAz0, cBz0, -, -⟩ := two_cells bxz0
  replace bxz1 := bxz1.under hb13
  clear cAz1 cBz1
  obtain ⟨cAz1, cBz1, -, -⟩ := two_cells bxz1
  replace bxg0 := bxg0.under hb13
  clear cAg0 cBg0
  obtain ⟨cAg0, cBg0, -, -⟩ := two_cells bxg0
  clear hb13
  go_wp2_with fail
  have BWd := BW.drew
  have oz0d := oz0.keep ((Keep.refl (fun _ => False) w13).drew) (fun _ _ _ h => h)
  have bx0d := bx0.drew
  have bxz0d := bxz0.drew
  go_region_held3 (fun w' => w'.cell? ⟨w.heap.size, 0, none⟩ = some (.slice a0 x0.length c0) ∧ w'.cell? ⟨w.heap.size, 1, none⟩ = some (.slice a0s y0.length c0s) ∧ w'.cell? ⟨w7.heap.size, 0, none⟩ = some (.slice saz0 x0.length scz0) ∧ w'.cell? ⟨w7.heap.size, 1, none⟩ = some (.slice sbz0 y0.length sdz0))
    (first | go_keep | exact ⟨(two_cells (bx0d.under hb14)).1, (two_cells (bx0d.under hb14)).2.1, (two_cells (bxz0d.under hb14)).1, (two_cells (bxz0d.under hb14)).2.1⟩ | exact ⟨(two_cells ((bx0d.under hb14).under hb15)).1, (two_cells ((bx0d.under hb14).under hb15)).2.1, (two_cells ((bxz0d.under hb14).under hb15)).1, (two_cells ((bxz0d.under hb14).under hb15)).2.1⟩)
    ((first | (go_at_call 17; refine (c_toSolution _ _ _ _ _ (hx0.below BWd) hf0.1.1 Hf0.out.1.2.1 hf0.2.1.1 Hf0.out.2.1.2.1).mono ?_; rintro e w14 ⟨t141, t142, rfl, ot14, hb14⟩) | (go_at_call 19; refine (c_eqS _ _ _ _ _ _ _ _ _ (oz0d.under hb14).sol ot14.sol).mono ?_; rintro e w15 ⟨rfl, hb15⟩)))
  have hb15z : Below w13.heap.size w13 w15 := (Below.refl _ _).drew.trans (bb hb14 hb15)
  have hs15 : w13.heap.size ≤ w15.heap.size := hb15z.size
  replace oz0 := oz0.under hb15z
  replace oz1 := oz1.under hb15z
  replace og0 := og0.under hb15z
  replace BW := bb BW hb15z
  replace BS := bb BS hb15z
  replace bx0 := bx0.under hb15z
  clear cA0 cB0
  obtain ⟨cA0, cB0, -, -⟩ := two_cells bx0
  replace bx1 := bx1.under hb15z
  clear cA1 cB1
  obtain ⟨cA1, cB1, -, -⟩ := two_cells bx1
  replace bxs0 := bxs0.under hb15z
  clear cAs0 cBs0
  obtain ⟨cAs0, cBs0, -, -⟩ := two_cells bxs0
  replace bxz0 := bxz0.under hb15z
  clear cAz0 cBz0
  obtain ⟨cAz0, cBz0, -, -⟩ := two_cells bxz0
  replace bxz1 := bxz1.under hb15z
  clear cAz1 cBz1
  obtain ⟨cAz1, cBz1, -, -⟩ := two_cells bxz1
  replace bxg0 := bxg0.under hb15z
  clear cAg0 cBg0
  obtain ⟨cAg0, cBg0, -, -⟩ := two_cells bxg0
  clear BWd oz0d bx0d bxz0d ot14 hb14 hb15 hb15z
  go_wp2_with fail
  have BWd := BW.drew
  have oz1d := oz1.keep ((Keep.refl (fun _ => False) w15).drew) (fun _ _ _ h => h)
  have bx1d := bx1.drew
  have bxz1d := bxz1.drew
  go_region_held3 (fun w' => w'.cell? ⟨w.heap.size + 1, 0, none⟩ = some (.slice a1 x1.length c1) ∧ w'.cell? ⟨w.heap.size + 1, 1, none⟩ = some (.slice a1s y1.length c1s) ∧ w'.cell? ⟨w9.heap.size, 0, none⟩ = some (.slice saz1 x1.length scz1) ∧ w'.cell? ⟨w9.heap.size, 1, none⟩ = some (.slice sbz1 y1.length sdz1))
    (first | go_keep | exact ⟨(two_cells (bx1d.under hb16)).1, (two_cells (bx1d.under hb16)).2.1, (two_cells (bxz1d.under hb16)).1, (two_cells (bxz1d.under hb16)).2.1⟩ | exact ⟨(two_cells ((bx1d.under hb16).under hb17)).1, (two_cells ((bx1d.under hb16).under hb17)).2.1, (two_cells ((bxz1d.under hb16).under hb17)).1, (two_cells ((bxz1d.under hb16).under hb17)).2.1⟩)
    ((first | (go_at_call 17; refine (c_toSolution _ _ _ _ _ (hx1.below BWd) hf1.1.1 Hf1.out.1.2.1 hf1.2.1.1 Hf1.out.2.1.2.1).mono ?_; rintro e w16 ⟨t161, t162, rfl, ot16, hb16⟩) | (go_at_call 19; refine (c_eqS _ _ _ _ _ _ _ _ _ (oz1d.under hb16).sol ot16.sol).mono ?_; rintro e w17 ⟨rfl, hb17⟩)))
  have hb17z : Below w15.heap.size w15 w17 := (Below.refl _ _).drew.trans (bb hb16 hb17)
  have hs17 : w15.heap.size ≤ w17.heap.size := hb17z.size
  replace oz0 := oz0.under hb17z
  replace oz1 := oz1.under hb17z
  replace og0 := og0.under hb17z
  replace BW := bb BW hb17z
  replace BS := bb BS hb17z
  replace bx0 := bx0.under hb17z
  clear cA0 cB0
  obtain ⟨cA0, cB0, -, -⟩ := two_cells bx0
  replace bx1 := bx1.under hb17z
  clear cA1 cB1
  obtain ⟨cA1, cB1, -, -⟩ := two_cells bx1
  replace bxs0 := bxs0.under hb17z
  clear cAs0 cBs0
  obtain ⟨cAs0, cBs0, -, -⟩ := two_cells bxs0
  replace bxz0 := bxz0.under hb17z
  clear cAz0 cBz0
  obtain ⟨cAz0, cBz0, -, -⟩ := two_cells bxz0
  replace bxz1 := bxz1.under hb17z
  clear cAz1 cBz1
  obtain ⟨cAz1, cBz1, -, -⟩ := two_cells bxz1
  replace bxg0 := bxg0.under hb17z
  clear cAg0 cBg0
  obtain ⟨cAg0, cBg0, -, -⟩ := two_cells bxg0
  clear BWd oz1d bx1d bxz1d ot16 hb16 hb17 hb17z
  go_wp2_with fail
  refine (c_markS _ _ _ _ _ _ _ _ oz0 (by omega) (by omega) (by omega)).mono ?_; rintro e w18 ⟨rfl, oz0m, hkw18⟩
  have hs18 := hkw18.size
  replace oz1 := oz1.keep hkw18 (fun b p q r => by omega)
  replace og0 := og0.keep hkw18 (fun b p q r => by omega)
  replace bx0 := bx0.of_block (hkw18.block _ (by omega) (by omega))
  clear cA0 cB0
  obtain ⟨cA0, cB0, -, -⟩ := two_cells bx0
  replace bx1 := bx1.of_block (hkw18.block _ (by omega) (by omega))
  clear cA1 cB1
  obtain ⟨cA1, cB1, -, -⟩ := two_cells bx1
  replace bxs0 := bxs0.of_block (hkw18.block _ (by omega) (by omega))
  clear cAs0 cBs0
  obtain ⟨cAs0, cBs0, -, -⟩ := two_cells bxs0
  replace bxz0 := bxz0.of_block (hkw18.block _ (by omega) (by omega))
  clear cAz0 cBz0
  obtain ⟨cAz0, cBz0, -, -⟩ := two_cells bxz0
  replace bxz1 := bxz1.of_block (hkw18.block _ (by omega) (by omega))
  clear cAz1 cBz1
  obtain ⟨cAz1, cBz1, -, -⟩ := two_cells bxz1
  replace bxg0 := bxg0.of_block (hkw18.block _ (by omega) (by omega))
  clear cAg0 cBg0
  obtain ⟨cAg0, cBg0, -, -⟩ := two_cells bxg0
  replace BW := below_keep BW hkw18 (by omega)
  replace BS := below_keep BS hkw18 (by omega)
  clear oz0
  have oz0 := oz0m
  clear oz0m hkw18
  clear oz0
  go_wp2_with fail
  refine (c_markS _ _ _ _ _ _ _ _ oz1 (by omega) (by omega) (by omega)).mono ?_; rintro e w19 ⟨rfl, oz1m, hkw19⟩
  have hs19 := hkw19.size
  replace og0 := og0.keep hkw19 (fun b p q r => by omega)
  replace bx0 := bx0.of_block (hkw19.block _ (by omega) (by omega))
  clear cA0 cB0
  obtain ⟨cA0, cB0, -, -⟩ := two_cells bx0
  replace bx1 := bx1.of_block (hkw19.block _ (by omega) (by omega))
  clear cA1 cB1
  obtain ⟨cA1, cB1, -, -⟩ := two_cells bx1
  replace bxs0 := bxs0.of_block (hkw19.block _ (by omega) (by omega))
  clear cAs0 cBs0
  obtain ⟨cAs0, cBs0, -, -⟩ := two_cells bxs0
  replace bxz0 := bxz0.of_block (hkw19.block _ (by omega) (by omega))
  clear cAz0 cBz0
  obtain ⟨cAz0, cBz0, -, -⟩ := two_cells bxz0
  replace bxz1 := bxz1.of_block (hkw19.block _ (by omega) (by omega))
  clear cAz1 cBz1
  obtain ⟨cAz1, cBz1, -, -⟩ := two_cells bxz1
  replace bxg0 := bxg0.of_block (hkw19.block _ (by omega) (by omega))
  clear cAg0 cBg0
  obtain ⟨cAg0, cBg0, -, -⟩ := two_cells bxg0
  replace BW := below_keep BW hkw19 (by omega)
  replace BS := below_keep BS hkw19 (by omega)
  clear oz1
  have oz1 := oz1m
  clear oz1m hkw19
  clear oz1
  go_wp2_with fail
  refine (c_eqS _ _ _ _ _ _ _ _ _ (og0.sol) (hS.below BS)).mono ?_; rintro e w20 ⟨rfl, hb20⟩
  have hs20 := hb20.size
  replace og0 := og0.under hb20
  replace BW := bb BW hb20
  replace BS := bb BS hb20
  replace bx0 := bx0.under hb20
  clear cA0 cB0
  obtain ⟨cA0, cB0, -, -⟩ := two_cells bx0
  replace bx1 := bx1.under hb20
  clear cA1 cB1
  obtain ⟨cA1, cB1, -, -⟩ := two_cells bx1
  replace bxs0 := bxs0.under hb20
  clear cAs0 cBs0
  obtain ⟨cAs0, cBs0, -, -⟩ := two_cells bxs0
  replace bxz0 := bxz0.under hb20
  clear cAz0 cBz0
  obtain ⟨cAz0, cBz0, -, -⟩ := two_cells bxz0
  replace bxz1 := bxz1.under hb20
  clear cAz1 cBz1
  obtain ⟨cAz1, cBz1, -, -⟩ := two_cells bxz1
  replace bxg0 := bxg0.under hb20
  clear cAg0 cBg0
  obtain ⟨cAg0, cBg0, -, -⟩ := two_cells bxg0
  clear hb20
  go_wp2_with fail
  refine (c_markS _ _ _ _ _ _ _ _ og0 (by omega) (by omega) (by omega)).mono ?_; rintro e w21 ⟨rfl, og0m, hkw21⟩
  have hs21 := hkw21.size
  replace bx0 := bx0.of_block (hkw21.block _ (by omega) (by omega))
  clear cA0 cB0
  obtain ⟨cA0, cB0, -, -⟩ := two_cells bx0
  replace bx1 := bx1.of_block (hkw21.block _ (by omega) (by omega))
  clear cA1 cB1
  obtain ⟨cA1, cB1, -, -⟩ := two_cells bx1
  replace bxs0 := bxs0.of_block (hkw21.block _ (by omega) (by omega))
  clear cAs0 cBs0
  obtain ⟨cAs0, cBs0, -, -⟩ := two_cells bxs0
  replace bxz0 := bxz0.of_block (hkw21.block _ (by omega) (by omega))
  clear cAz0 cBz0
  obtain ⟨cAz0, cBz0, -, -⟩ := two_cells bxz0
  replace bxz1 := bxz1.of_block (hkw21.block _ (by omega) (by omega))
  clear cAz1 cBz1
  obtain ⟨cAz1, cBz1, -, -⟩ := two_cells bxz1
  replace bxg0 := bxg0.of_block (hkw21.block _ (by omega) (by omega))
  clear cAg0 cBg0
  obtain ⟨cAg0, cBg0, -, -⟩ := two_cells bxg0
  replace BW := below_keep BW hkw21 (by omega)
  replace BS := below_keep BS hkw21 (by omega)
  clear og0
  have og0 := og0m
  clear og0m hkw21
  go_wp2_with fail
  refine (c_heldS _ _ _ _ _ _ (og0.sol) (by omega) (by omega)).mono ?_; rintro e w22 ⟨rfl, hb22⟩
  have hs22 := hb22.size
  replace og0 := og0.under hb22
  replace BW := bb BW hb22
  replace BS := bb BS hb22
  replace bx0 := bx0.under hb22
  clear cA0 cB0
  obtain ⟨cA0, cB0, -, -⟩ := two_cells bx0
  replace bx1 := bx1.under hb22
  clear cA1 cB1
  obtain ⟨cA1, cB1, -, -⟩ := two_cells bx1
  replace bxs0 := bxs0.under hb22
  clear cAs0 cBs0
  obtain ⟨cAs0, cBs0, -, -⟩ := two_cells bxs0
  replace bxz0 := bxz0.under hb22
  clear cAz0 cBz0
  obtain ⟨cAz0, cBz0, -, -⟩ := two_cells bxz0
  replace bxz1 := bxz1.under hb22
  clear cAz1 cBz1
  obtain ⟨cAz1, cBz1, -, -⟩ := two_cells bxz1
  replace bxg0 := bxg0.under hb22
  clear cAg0 cBg0
  obtain ⟨cAg0, cBg0, -, -⟩ := two_cells bxg0
  clear hb22
  go_wp2_with fail
  have hdd : Below w22.heap.size w22 w22.drew := (Below.refl _ _).drew
  replace og0 := og0.under hdd
  replace BW := bb BW hdd
  replace BS := bb BS hdd
  replace bx0 := bx0.under hdd
  clear cA0 cB0
  obtain ⟨cA0, cB0, -, -⟩ := two_cells bx0
  replace bx1 := bx1.under hdd
  clear cA1 cB1
  obtain ⟨cA1, cB1, -, -⟩ := two_cells bx1
  replace bxs0 := bxs0.under hdd
  clear cAs0 cBs0
  obtain ⟨cAs0, cBs0, -, -⟩ := two_cells bxs0
  replace bxz0 := bxz0.under hdd
  clear cAz0 cBz0
  obtain ⟨cAz0, cBz0, -, -⟩ := two_cells bxz0
  replace bxz1 := bxz1.under hdd
  clear cAz1 cBz1
  obtain ⟨cAz1, cBz1, -, -⟩ := two_cells bxz1
  replace bxg0 := bxg0.under hdd
  clear cAg0 cBg0
  obtain ⟨cAg0, cBg0, -, -⟩ := two_cells bxg0
  clear hdd
  have HSk : Hid (∀ w' : World, Below w22.drew.heap.size w22.drew w' → w'.cell? ⟨w.heap.size, 0, none⟩ = some (.slice a0 x0.length c0) ∧ w'.cell? ⟨w.heap.size, 1, none⟩ = some (.slice a0s y0.length c0s) ∧ w'.cell? ⟨w.heap.size + 1, 0, none⟩ = some (.slice a1 x1.length c1) ∧ w'.cell? ⟨w.heap.size + 1, 1, none⟩ = some (.slice a1s y1.length c1s)) := Lib.hid (fun w' hb => ⟨(two_cells (bx0.under hb)).1, (two_cells (bx0.under hb)).2.1, (two_cells (bx1.under hb)).1, (two_cells (bx1.under hb)).2.1⟩)
  have HX0 := Lib.hid (show Sol w22.drew _ _ x0 y0 from hx0.below BW)
  have HX1 := Lib.hid (show Sol w22.drew _ _ x1 y1 from hx1.below BW)
  have HBX0 := Lib.hid bx0
  have HBX1 := Lib.hid bx1
  have HBXs0 := Lib.hid bxs0
  have HBXz0 := Lib.hid bxz0
  have HBXz1 := Lib.hid bxz1
  have HBXg0 := Lib.hid bxg0
  have HOg0 := Lib.hid og0
  have HBS0 := Lib.hid BS
  have HBW0 := Lib.hid BW
  clear BW bx0 bx1 bxs0 bxz0 bxz1 bxg0 BS og0
  have BC0 : Below w22.drew.heap.size w22.drew w22.drew := Below.refl _ _
  have BCd : Below w22.drew.heap.size w22.drew (w22.alloc (.cells #[.slice none 0 0, .slice none 0 0] 28)).drew := (Below.refl w22.drew.heap.size w22.drew).alloc (Nat.le_refl _) (.cells #[.slice none 0 0, .slice none 0 0] 28)
  have zz := HSk.out _ BC0
  have zd := HSk.out _ BCd
  obtain ⟨mzh0, hmz1h0, hmz2h0⟩ : ∃ z : Nat, z ≤ w22.heap.size ∧ w22.heap.size ≤ z := ⟨_, Nat.le_refl _, Nat.le_refl _⟩
  apply cut_waysProductSolution
  · intro key
    go_region_held3 (fun w' => w'.cell? ⟨w.heap.size, 0, none⟩ = some (.slice a0 x0.length c0) ∧ w'.cell? ⟨w.heap.size, 1, none⟩ = some (.slice a0s y0.length c0s) ∧ w'.cell? ⟨w.heap.size + 1, 0, none⟩ = some (.slice a1 x1.length c1) ∧ w'.cell? ⟨w.heap.size + 1, 1, none⟩ = some (.slice a1s y1.length c1s))
      (first | go_keep | exact HSk.out _ BC0 | exact HSk.out _ BC1 | exact HSk.out _ BC2 | exact HSk.out _ BC3 | exact HSk.out _ BCd | exact HSk.out _ (BC1.alloc BC1.size _) | exact HSk.out _ (BC2.alloc BC2.size _) | exact HSk.out _ (BC3.alloc BC3.size _) | exact HSk.out _ ((BC3.setCell (p := ⟨w24.heap.size, 0, none⟩) BC2.size _).setCell (p := ⟨w24.heap.size, 1, none⟩) BC2.size _) | exact HSk.out _ ((BC3.setCell (p := ⟨w23.heap.size, 0, none⟩) BC1.size _).setCell (p := ⟨w23.heap.size, 1, none⟩) BC1.size _) | exact HSk.out _ ((BC3.setCell (p := ⟨w22.heap.size, 0, none⟩) (Nat.le_refl _) _).setCell (p := ⟨w22.heap.size, 1, none⟩) (Nat.le_refl _) _))
      ((first
        | (go_at_call 17; (with_reducible refine (c_toSolution _ _ _ _ _ (HX0.out.below (by first | exact Below.refl _ _ | exact BCd)) hf0.1.1 Hf0.out.1.2.1 hf0.2.1.1 Hf0.out.2.1.2.1).mono ?_); rintro e w23 ⟨tt1, tt2, rfl, ott, hb1z⟩; have st1 := ott.sol; have BC1 : Below w22.drew.heap.size w22.drew w23 := bb (by first | exact BC0 | exact BCd) hb1z; clear ott; try (have HQ1 : Blk w23 w22.heap.size 28 [.slice none 0 0, .slice none 0 0] := ((Blk.new w22 [.slice none 0 0, .slice none 0 0] 28).drew).under hb1z))
        | (go_at_call 17; (with_reducible refine (c_toSolution _ _ _ _ _ (HX1.out.below (bb BC1 (by first | exact Below.refl _ _ | exact (Below.refl _ _).alloc (Nat.le_refl _) _))) hf1.1.1 Hf1.out.1.2.1 hf1.2.1.1 Hf1.out.2.1.2.1).mono ?_); rintro e w24 ⟨tu1, tu2, rfl, otu, hb2z⟩; have st2 := otu.sol; have BC12 : Below w23.heap.size w23 w24 := bb (by first | exact Below.refl _ _ | exact (Below.refl _ _).alloc (Nat.le_refl _) _) hb2z; have BC2 := bb BC1 BC12; clear otu; first | (have HQ2 : Blk w24 w22.heap.size 28 [.slice none 0 0, .slice none 0 0] := HQ1.under BC12) | (have HQ2 : Blk w24 w23.heap.size 28 [.slice none 0 0, .slice none 0 0] := (Blk.new w23 [.slice none 0 0, .slice none 0 0] 28).under hb2z) | skip)
        | (go_at_call 44; (with_reducible refine (c_ProductSolution _ _ _ _ _ _ _ _ _ (st1.below (by first | exact BC12 | exact BC12.alloc BC12.size _)) (st2.below (by first | exact Below.refl _ _ | exact (Below.refl _ _).alloc (Nat.le_refl _) _))).mono ?_); rw [← HRA0.out, ← HRB0.out, ← HR1.out]; rintro e w25 ⟨r1z, r2z, rfl, orz, hb3z⟩; obtain ⟨sah0, sch0, hvz, -, -⟩ := orz.sol.1.shape; subst hvz; obtain ⟨sbh0, sdh0, hvz, -, -⟩ := orz.sol.2.shape; subst hvz; have BC23 : Below w24.heap.size w24 w25 := bb (by first | exact Below.refl _ _ | exact (Below.refl _ _).alloc (Nat.le_refl _) _) hb3z; have BC3 := bb BC2 BC23; first | (have HQ3 : Blk w25 w22.heap.size 28 [.slice none 0 0, .slice none 0 0] := HQ2.under BC23; have hzz := two_cells HQ3; obtain ⟨zq1, zq2, zq3, zq4⟩ := hzz) | (have HQ3 : Blk w25 w23.heap.size 28 [.slice none 0 0, .slice none 0 0] := HQ2.under BC23; have hzz := two_cells HQ3; obtain ⟨zq1, zq2, zq3, zq4⟩ := hzz) | (have HQ3 : Blk w25 w24.heap.size 28 [.slice none 0 0, .slice none 0 0] := (Blk.new w24 [.slice none 0 0, .slice none 0 0] 28).under hb3z; have hzz := two_cells HQ3; obtain ⟨zq1, zq2, zq3, zq4⟩ := hzz) | skip)))
    all_goals
      have hz1 : w22.heap.size ≤ w23.heap.size := BC1.size
      have hz2 : w23.heap.size ≤ w24.heap.size := BC12.size
      have hz3 : w24.heap.size ≤ w25.heap.size := BC23.size
      have e0z : w22.drew.heap.size = w22.heap.size := rfl
      have e2z : (w24.alloc (.cells #[.slice none 0 0, .slice none 0 0] 28)).heap.size = w24.heap.size + 1 := by simp
      first
        | (obtain ⟨w26, hV⟩ : ∃ V, w25.alloc (.cells #[.slice sah0 RA0.length sch0, .slice sbh0 RB0.length sdh0] 28) = V := ⟨_, rfl⟩
           rw [hV]
           have hkk : Keep (fun k => k = w25.heap.size) w25 w26 := by rw [← hV]; exact keep_late _ _
           have bxh0 : Blk w26 (w25.heap.size) 28 [.slice sah0 RA0.length sch0, .slice sbh0 RB0.length sdh0] := by rw [← hV]; exact Blk.new w25 [.slice sah0 RA0.length sch0, .slice sbh0 RB0.length sdh0] 28
           have hS : ∃ lo hi, OwnSol lo hi w26 (.slice sah0 RA0.length sch0) (.slice sbh0 RB0.length sdh0) RA0 RB0 := ⟨_, _, (orz.under (by rw [← hV]; exact (Below.refl _ _).alloc (Nat.le_refl _) _))⟩
           have hqz : mzh0 ≤ w25.heap.size := by omega
           have BZ : Below w22.drew.heap.size w22.drew w26 := BC3.trans (hkk.below fun k hk => ⟨by omega, by omega⟩)
           have hsz := BZ.size
           clear hkk hV
           generalize w25.heap.size = qzh0 at bxh0 hqz ⊢)
        | (obtain ⟨w26, hV⟩ : ∃ V, (w25.setCell ⟨w24.heap.size, 0, none⟩ (.slice sah0 RA0.length sch0)).setCell ⟨w24.heap.size, 1, none⟩ (.slice sbh0 RB0.length sdh0) = V := ⟨_, rfl⟩
           rw [hV]
           have hkk : Keep (fun k => k = w24.heap.size) w25 w26 := by rw [← hV]; exact keep_early _ _ _ _
           have bxh0 : Blk w26 (w24.heap.size) 28 [.slice sah0 RA0.length sch0, .slice sbh0 RB0.length sdh0] := by rw [← hV]; exact box_early HQ3
           have hS : ∃ lo hi, OwnSol lo hi w26 (.slice sah0 RA0.length sch0) (.slice sbh0 RB0.length sdh0) RA0 RB0 := ⟨_, _, (orz.keep hkk (fun x x1 _ x3 => by omega))⟩
           have hqz : mzh0 ≤ w24.heap.size := by omega
           have BZ : Below w22.drew.heap.size w22.drew w26 := BC3.trans (hkk.below fun k hk => ⟨by omega, by omega⟩)
           have hsz := BZ.size
           clear hkk hV
           generalize w24.heap.size = qzh0 at bxh0 hqz ⊢)
        | (obtain ⟨w26, hV⟩ : ∃ V, (w25.setCell ⟨w23.heap.size, 0, none⟩ (.slice sah0 RA0.length sch0)).setCell ⟨w23.heap.size, 1, none⟩ (.slice sbh0 RB0.length sdh0) = V := ⟨_, rfl⟩
           rw [hV]
           have hql := HQ2.lt
           have hkk : Keep (fun k => k = w23.heap.size) w25 w26 := by rw [← hV]; exact keep_early _ _ _ _
           have bxh0 : Blk w26 (w23.heap.size) 28 [.slice sah0 RA0.length sch0, .slice sbh0 RB0.length sdh0] := by rw [← hV]; exact box_early HQ3
           have hS : ∃ lo hi, OwnSol lo hi w26 (.slice sah0 RA0.length sch0) (.slice sbh0 RB0.length sdh0) RA0 RB0 := ⟨_, _, (orz.keep hkk (fun x x1 _ x3 => by omega))⟩
           have hqz : mzh0 ≤ w23.heap.size := by omega
           have BZ : Below w22.drew.heap.size w22.drew w26 := BC3.trans (hkk.below fun k hk => ⟨by omega, by omega⟩)
           have hsz := BZ.size
           clear hkk hV
           generalize w23.heap.size = qzh0 at bxh0 hqz ⊢)
        | (obtain ⟨w26, hV⟩ : ∃ V, (w25.setCell ⟨w22.heap.size, 0, none⟩ (.slice sah0 RA0.length sch0)).setCell ⟨w22.heap.size, 1, none⟩ (.slice sbh0 RB0.length sdh0) = V := ⟨_, rfl⟩
           rw [hV]
           have hql := HQ1.lt
           have hkk : Keep (fun k => k = w22.heap.size) w25 w26 := by rw [← hV]; exact keep_early _ _ _ _
           have bxh0 : Blk w26 (w22.heap.size) 28 [.slice sah0 RA0.length sch0, .slice sbh0 RB0.length sdh0] := by rw [← hV]; exact box_early HQ3
           have hS : ∃ lo hi, OwnSol lo hi w26 (.slice sah0 RA0.length sch0) (.slice sbh0 RB0.length sdh0) RA0 RB0 := ⟨_, _, (orz.keep hkk (fun x x1 _ x3 => by omega))⟩
           have hqz : mzh0 ≤ w22.heap.size := by omega
           have BZ : Below w22.drew.heap.size w22.drew w26 := BC3.trans (hkk.below fun k hk => ⟨by omega, by omega⟩)
           have hsz := BZ.size
           clear hkk hV
           generalize w22.heap.size = qzh0 at bxh0 hqz ⊢)
      clear st1 st2 orz
      rename_i hHz
      clear hHz
      have pk := And.intro bxh0 (And.intro hS (And.intro hqz (And.intro BZ hsz)))
      clear bxh0 hS hqz BZ hsz
      revert pk
      revert qzh0
      revert w26
      revert sdh0
      revert sbh0
      revert sch0
      revert sah0
      revert tu2
      revert tu1
      revert tt2
      revert tt1
      exact key.out
  rintro tt1 tt2 tu1 tu2 sah0 sch0 sbh0 sdh0 w26 qzh0 ⟨bxh0, hSh, hqz, BZ, hsz⟩
  obtain ⟨loz, hiz, oh0⟩ := hSh
  have BW := bb HBW0.out BZ
  have hs26 : w22.heap.size ≤ w26.heap.size := hsz
  have bx0 := HBX0.out.under BZ
  have bx1 := HBX1.out.under BZ
  have bxs0 := HBXs0.out.under BZ
  have bxz0 := HBXz0.out.under BZ
  have bxz1 := HBXz1.out.under BZ
  have bxg0 := HBXg0.out.under BZ
  have og0 := HOg0.out.under BZ
  have BS := bb HBS0.out BZ
  have hqlth0 := bxh0.lt
  obtain ⟨cA0, cB0, -, -⟩ := two_cells bx0
  obtain ⟨cA1, cB1, -, -⟩ := two_cells bx1
  clear cAs0 cBs0
  obtain ⟨cAs0, cBs0, -, -⟩ := two_cells bxs0
  clear cAz0 cBz0
  obtain ⟨cAz0, cBz0, -, -⟩ := two_cells bxz0
  clear cAz1 cBz1
  obtain ⟨cAz1, cBz1, -, -⟩ := two_cells bxz1
  clear cAg0 cBg0
  obtain ⟨cAg0, cBg0, -, -⟩ := two_cells bxg0
  clear BZ zz zd BC0 BCd HSk
  obtain ⟨cAh0, cBh0, -, -⟩ := two_cells bxh0
  go_wp2_with fail
  refine (c_eqS _ _ _ _ _ _ _ _ _ (oh0.sol) (hS.below BS)).mono ?_; rintro e w27 ⟨rfl, hb27⟩
  have hs27 := hb27.size
  replace og0 := og0.under hb27
  replace oh0 := oh0.under hb27
  replace BW := bb BW hb27
  replace BS := bb BS hb27
  replace bx0 := bx0.under hb27
  clear cA0 cB0
  obtain ⟨cA0, cB0, -, -⟩ := two_cells bx0
  replace bx1 := bx1.under hb27
  clear cA1 cB1
  obtain ⟨cA1, cB1, -, -⟩ := two_cells bx1
  replace bxs0 := bxs0.under hb27
  clear cAs0 cBs0
  obtain ⟨cAs0, cBs0, -, -⟩ := two_cells bxs0
  replace bxz0 := bxz0.under hb27
  clear cAz0 cBz0
  obtain ⟨cAz0, cBz0, -, -⟩ := two_cells bxz0
  replace bxz1 := bxz1.under hb27
  clear cAz1 cBz1
  obtain ⟨cAz1, cBz1, -, -⟩ := two_cells bxz1
  replace bxg0 := bxg0.under hb27
  clear cAg0 cBg0
  obtain ⟨cAg0, cBg0, -, -⟩ := two_cells bxg0
  replace bxh0 := bxh0.under hb27
  clear cAh0 cBh0
  obtain ⟨cAh0, cBh0, -, -⟩ := two_cells bxh0
  clear hb27
  go_wp2_with fail
  refine (c_heldS _ _ _ _ _ _ (og0.sol) (by omega) (by omega)).mono ?_; rintro e w28 ⟨rfl, hb28⟩
  have hs28 := hb28.size
  replace og0 := og0.under hb28
  replace oh0 := oh0.under hb28
  replace BW := bb BW hb28
  replace BS := bb BS hb28
  replace bx0 := bx0.under hb28
  clear cA0 cB0
  obtain ⟨cA0, cB0, -, -⟩ := two_cells bx0
  replace bx1 := bx1.under hb28
  clear cA1 cB1
  obtain ⟨cA1, cB1, -, -⟩ := two_cells bx1
  replace bxs0 := bxs0.under hb28
  clear cAs0 cBs0
  obtain ⟨cAs0, cBs0, -, -⟩ := two_cells bxs0
  replace bxz0 := bxz0.under hb28
  clear cAz0 cBz0
  obtain ⟨cAz0, cBz0, -, -⟩ := two_cells bxz0
  replace bxz1 := bxz1.under hb28
  clear cAz1 cBz1
  obtain ⟨cAz1, cBz1, -, -⟩ := two_cells bxz1
  replace bxg0 := bxg0.under hb28
  clear cAg0 cBg0
  obtain ⟨cAg0, cBg0, -, -⟩ := two_cells bxg0
  replace bxh0 := bxh0.under hb28
  clear cAh0 cBh0
  obtain ⟨cAh0, cBh0, -, -⟩ := two_cells bxh0
  clear hb28
  have HB := Lib.hid BW
  clear BW BS hS og0 oh0 hx0 hx1 bx0 bx1 bxs0 bxz0 bxz1 bxg0 bxh0
  go_wp2
  go_ret
  exact ⟨rfl, HB.out⟩
end Go.Proofs.Ytdhbleiioagmlaa
