/-
  The law FnExactApplyPair answers true, and leaves what was there as it was: at every pair of lists of lists of integers and every two numbers.
-/
import Derived.Test.YtejdcdbecnjbcaaI2b
import Derived.Test.YtejdcdbecnjbcaaI3
import Derived.Deep.RegionHeld3
namespace Go.Proofs.Ytejdcdbecnjbcaa
open Go.RowKit

def apOk (A B : List (List Int)) (x y : Int) : Bool := isPM A B && (inR x 0 ((A.length : Int) - 1) && inR y 0 ((A.length : Int) - 1))
def apV (A B T : List (List Int)) (x y : Int) : Int := if apOk A B x y then val2 T x y else 0
def apC (A B : List (List Int)) (x y : Int) : Int := if isPM A B then (if apOk A B x y then 0 else 2) else 1

theorem isPM_parts {A B : List (List Int)} (h : isPM A B = true) : isTab A = true ∧ isTab B = true ∧ A.length = B.length := by
  simp [isPM] at h; exact ⟨h.1.1, h.1.2, h.2⟩

set_option maxHeartbeats 400000 in
theorem c_areElements (n : Int) (v : Value) (xs : List Int) (w : World) (hx : Ints w v xs) (h0 : 0 ≤ n) (h1 : n ≤ 1048576) :
    Calls Try.prog 77 #[.int .i64 n, v] w fun e w' => e = .returned (.bool (xs.all fun x => inR x 0 (n - 1))) ∧ w = w' := by
  go_enter Try.func77, Try.ntmps77
  go_wp2_with fail
  refine (c_allWithin _ _ _ _ _ hx).mono ?_; rintro e w' ⟨rfl, rfl⟩
  go_wp2
  go_ret
  exact ⟨rfl, rfl⟩


set_option maxHeartbeats 1600000 in
theorem c_specApplyPair (v1 v2 : Value) (A B : List (List Int)) (x y : Int) (w : World) (hx : Sol w v1 v2 A B) (hl0 : -9223372036854775808 ≤ x) (hu0 : x ≤ 9223372036854775807) (hl1 : -9223372036854775808 ≤ y) (hu1 : y ≤ 9223372036854775807) :
    Calls Try.prog 49 #[.agg #[v1, v2], .int .i64 x, .int .i64 y] w (RVal w (.tuple #[.int .i64 (apV A B A x y), .int .i64 (apV A B B x y), .int .i64 (apC A B x y)])) := by
  obtain ⟨a1, c1, rfl, _, _⟩ := hx.1.shape
  obtain ⟨a2, c2, rfl, _, _⟩ := hx.2.shape
  obtain ⟨f0, hW0, hsz⟩ := boxes1 w [.slice a1 A.length c1, .slice a2 B.length c2] 46
  have hy := hx.below hW0
  obtain ⟨W, hW⟩ : ∃ W, w.alloc (.cells #[.slice a1 A.length c1, .slice a2 B.length c2] 46) = W := ⟨_, rfl⟩
  by_cases h1 : isPM A B = true
  case neg =>
    have h1' : isPM A B = false := by simpa using h1
    have H1 := Lib.hid h1'; clear h1
    have HWn := Lib.hid hW; clear hW
    go_enter Try.func49, Try.ntmps49
    go_wp2_with fail
    rw [HWn.out] at f0 hW0 hsz hy ⊢
    refine (c_l02Map _ _ _ _ _ hy).mono ?_; rintro e w1 ⟨rfl, hb1'⟩
    have HB := Lib.hid (bb hW0 hb1')
    clear f0 hW0 hsz hy hb1' hx
    go_wp2
    go_ret3
    have hok : apOk A B x y = false := by simp [apOk, H1.out]
    exact ⟨by simp [apV, apC, hok, H1.out], HB.out⟩
  have H1 := Lib.hid h1
  obtain ⟨ht1, ht2, hlen⟩ := isPM_parts h1
  have hl := isTab_len ht1
  have HT1 := Lib.hid ht1; have HT2 := Lib.hid ht2; have HL := Lib.hid hlen
  clear ht1 ht2 hlen
  by_cases h2 : inR x 0 ((A.length : Int) - 1) = true
  case neg =>
    have h2' : inR x 0 ((A.length : Int) - 1) = false := by simpa using h2
    have H2 := Lib.hid h2'; clear h2
    have HWn := Lib.hid hW; clear hW
    go_enter Try.func49, Try.ntmps49
    go_wp2_with fail
    rw [HWn.out] at f0 hW0 hsz hy ⊢
    refine (c_l02Map _ _ _ _ _ hy).mono ?_; rintro e w1 ⟨rfl, hb1'⟩
    obtain ⟨g0, g1, -, -⟩ := two_cells (f0.under hb1')
    have HB := Lib.hid (bb hW0 hb1')
    clear f0 hW0 hsz hy hb1' hx
    go_wp2_with fail
    refine (c_l01In _ _ _ _).mono ?_; rintro e w' ⟨rfl, rfl⟩
    go_wp2
    go_ret3
    have hok : apOk A B x y = false := by simp [apOk, H2.out]
    exact ⟨by simp [apV, apC, hok, H1.out], HB.out⟩
  by_cases h3 : inR y 0 ((A.length : Int) - 1) = true
  case neg =>
    have h3' : inR y 0 ((A.length : Int) - 1) = false := by simpa using h3
    have H3 := Lib.hid h3'; clear h3
    have HWn := Lib.hid hW; clear hW
    go_enter Try.func49, Try.ntmps49
    go_wp2_with fail
    rw [HWn.out] at f0 hW0 hsz hy ⊢
    refine (c_l02Map _ _ _ _ _ hy).mono ?_; rintro e w1 ⟨rfl, hb1'⟩
    obtain ⟨g0, g1, -, -⟩ := two_cells (f0.under hb1')
    have HB := Lib.hid (bb hW0 hb1')
    clear f0 hW0 hsz hy hb1' hx
    go_wp2_with fail
    refine (c_l01In _ _ _ _).mono ?_; rintro e w' ⟨rfl, rfl⟩
    go_wp2_with fail
    refine (c_l01In _ _ _ _).mono ?_; rintro e w' ⟨rfl, rfl⟩
    go_wp2
    go_ret3
    have hok : apOk A B x y = false := by simp [apOk, H3.out]
    exact ⟨by simp [apV, apC, hok, H1.out], HB.out⟩
  have hxx : 0 ≤ x ∧ x < A.length := by simp [inR] at h2; omega
  have hyy : 0 ≤ y ∧ y < A.length := by simp [inR] at h3; omega
  obtain ⟨hx0, hx1⟩ := hxx
  obtain ⟨hy0, hy1⟩ := hyy
  have H2 := Lib.hid h2; have H3 := Lib.hid h3
  have HWn := Lib.hid hW; clear hW
  go_enter Try.func49, Try.ntmps49
  go_wp2_with fail
  rw [HWn.out] at f0 hW0 hsz hy ⊢
  refine (c_l02Map _ _ _ _ _ hy).mono ?_; rintro e w1 ⟨rfl, hb1'⟩
  obtain ⟨g0, g1, -, -⟩ := two_cells (f0.under hb1')
  go_wp2_with fail
  refine (c_l01In _ _ _ _).mono ?_; rintro e w' ⟨rfl, rfl⟩
  go_wp2_with fail
  refine (c_l01In _ _ _ _).mono ?_; rintro e w' ⟨rfl, rfl⟩
  have hA := hy.1.below hb1'
  have hB := hy.2.below hb1'
  obtain ⟨b, o, ra, rc, rfl, hcell, hu⟩ := hA.getSi x hx0 hx1
  have e1 := isTab_row HT1.out hx0 hx1
  obtain ⟨b3, o3, rfl, hcell3⟩ := hu.geti y hy0 (by omega)
  have hx1' : x < B.length := by rw [← HL.out]; exact hx1
  obtain ⟨b2, o2, ra2, rc2, rfl, hcell2, hu2⟩ := hB.getSi x hx0 hx1'
  have e2 := isTab_row HT2.out hx0 hx1'
  have hy1' : y < (row B x).length := by rw [e2, ← HL.out]; exact hy1
  have hy1'' : y < (row A x).length := by rw [e1]; exact hy1
  obtain ⟨b4, o4, rfl, hcell4⟩ := hu2.geti y hy0 hy1'
  have HB := Lib.hid (bb hW0 hb1')
  clear f0 hW0 hsz hy hb1' hx hA hB hu hu2 e1 e2
  go_wp2
  go_quiet (fail)
  go_wp2
  go_ret3
  have hok : apOk A B x y = true := by simp [apOk, H1.out, H2.out, H3.out]
  exact ⟨by simp [apV, apC, hok, H1.out, val2], below_drewN HB.out _⟩

theorem all_two (x y lo hi : Int) : ([x, y].all fun z => inR z lo hi) = (inR x lo hi && inR y lo hi) := by simp

set_option maxHeartbeats 1600000 in
theorem c_ApplyPair (v1 v2 : Value) (A B : List (List Int)) (x y : Int) (w : World) (hx : Sol w v1 v2 A B) (hl0 : -9223372036854775808 ≤ x) (hu0 : x ≤ 9223372036854775807) (hl1 : -9223372036854775808 ≤ y) (hu1 : y ≤ 9223372036854775807) :
    Calls Try.prog 50 #[.agg #[v1, v2], .int .i64 x, .int .i64 y] w (RVal w (.tuple #[.int .i64 (apV A B A x y), .int .i64 (apV A B B x y), .int .i64 (apC A B x y)])) := by
  obtain ⟨a1, c1, rfl, _, _⟩ := hx.1.shape
  obtain ⟨a2, c2, rfl, _, _⟩ := hx.2.shape
  obtain ⟨f0, hW0, hsz⟩ := boxes1 w [.slice a1 A.length c1, .slice a2 B.length c2] 46
  have hy := hx.below hW0
  obtain ⟨W, hW⟩ : ∃ W, w.alloc (.cells #[.slice a1 A.length c1, .slice a2 B.length c2] 46) = W := ⟨_, rfl⟩
  by_cases h1 : isPM A B = true
  case neg =>
    have h1' : isPM A B = false := by simpa using h1
    have H1 := Lib.hid h1'; clear h1
    have HWn := Lib.hid hW; clear hW
    go_enter Try.func50, Try.ntmps50
    go_wp2_with fail
    rw [HWn.out] at f0 hW0 hsz hy ⊢
    refine (c_IsPairMap _ _ _ _ _ hy).mono ?_; rintro e w1 ⟨rfl, hb1'⟩
    have HB := Lib.hid (bb hW0 hb1')
    clear f0 hW0 hsz hy hb1' hx
    go_wp2
    go_ret3
    have hok : apOk A B x y = false := by simp [apOk, H1.out]
    exact ⟨by simp [apV, apC, hok, H1.out], HB.out⟩
  have H1 := Lib.hid h1
  obtain ⟨ht1, ht2, hlen⟩ := isPM_parts h1
  have hl := isTab_len ht1
  have HT1 := Lib.hid ht1; have HT2 := Lib.hid ht2; have HL := Lib.hid hlen
  clear ht1 ht2 hlen
  have hal := all_two x y 0 ((A.length : Int) - 1)
  by_cases h2 : (inR x 0 ((A.length : Int) - 1) && inR y 0 ((A.length : Int) - 1)) = true
  case neg =>
    have h2' : (inR x 0 ((A.length : Int) - 1) && inR y 0 ((A.length : Int) - 1)) = false := by simpa using h2
    rw [h2'] at hal
    have H2 := Lib.hid h2'; have HAl := Lib.hid hal; clear h2 h2' hal
    have HWn := Lib.hid hW; clear hW
    go_enter Try.func50, Try.ntmps50
    go_wp2_with fail
    rw [HWn.out] at f0 hW0 hsz hy ⊢
    refine (c_IsPairMap _ _ _ _ _ hy).mono ?_; rintro e w1 ⟨rfl, hb1'⟩
    obtain ⟨g0, g1, -, -⟩ := two_cells (f0.under hb1')
    obtain ⟨k0, hk0, -⟩ := boxes1' w1 [.int .i64 x, .int .i64 y] 2
    have hown : Own w1.heap.size (w1.alloc (.cells #[.int .i64 x, .int .i64 y] 2)) (.slice (some ⟨w1.heap.size, 0, none⟩) 2 2) [x, y] := Own.of_blk k0 (Nat.le_refl _) (by simp [maxLen]) rfl rfl
    have HO := Lib.hid hown.ints
    have HB := Lib.hid (bb (bb hW0 hb1') hk0)
    clear f0 hW0 hsz hy hb1' hx k0 hk0 hown
    go_wp2_with fail
    refine (c_areElements _ _ [x, y] _ HO.out (by omega) (by omega)).mono ?_
    rw [HAl.out]
    rintro e w' ⟨rfl, rfl⟩
    go_wp2
    go_ret3
    have hok : apOk A B x y = false := by unfold apOk; rw [H2.out]; simp
    exact ⟨by simp [apV, apC, hok, H1.out], HB.out⟩
  rw [h2] at hal
  have hxx : 0 ≤ x ∧ x < A.length := by simp [inR] at h2; omega
  have hyy : 0 ≤ y ∧ y < A.length := by simp [inR] at h2; omega
  obtain ⟨hx0, hx1⟩ := hxx
  obtain ⟨hy0, hy1⟩ := hyy
  have H2 := Lib.hid h2; have HAl := Lib.hid hal; clear h2 hal
  have HWn := Lib.hid hW; clear hW
  go_enter Try.func50, Try.ntmps50
  go_wp2_with fail
  rw [HWn.out] at f0 hW0 hsz hy ⊢
  refine (c_IsPairMap _ _ _ _ _ hy).mono ?_; rintro e w1 ⟨rfl, hb1'⟩
  obtain ⟨g0, g1, -, -⟩ := two_cells (f0.under hb1')
  obtain ⟨k0, hk0, -⟩ := boxes1' w1 [.int .i64 x, .int .i64 y] 2
  have hown : Own w1.heap.size (w1.alloc (.cells #[.int .i64 x, .int .i64 y] 2)) (.slice (some ⟨w1.heap.size, 0, none⟩) 2 2) [x, y] := Own.of_blk k0 (Nat.le_refl _) (by simp [maxLen]) rfl rfl
  have HO := Lib.hid hown.ints
  have hA := (hy.1.below hb1').below hk0
  have hB := (hy.2.below hb1').below hk0
  obtain ⟨g2, g3, -, -⟩ := two_cells ((f0.under hb1').under hk0)
  obtain ⟨b, o, ra, rc, rfl, hcell, hu⟩ := hA.getSi x hx0 hx1
  have e1 := isTab_row HT1.out hx0 hx1
  obtain ⟨b3, o3, rfl, hcell3⟩ := hu.geti y hy0 (by omega)
  have hx1' : x < B.length := by rw [← HL.out]; exact hx1
  obtain ⟨b2, o2, ra2, rc2, rfl, hcell2, hu2⟩ := hB.getSi x hx0 hx1'
  have e2 := isTab_row HT2.out hx0 hx1'
  have hy1' : y < (row B x).length := by rw [e2, ← HL.out]; exact hy1
  have hy1'' : y < (row A x).length := by rw [e1]; exact hy1
  obtain ⟨b4, o4, rfl, hcell4⟩ := hu2.geti y hy0 hy1'
  have HB := Lib.hid (bb (bb hW0 hb1') hk0)
  have HC := Lib.hid hcell; have HC2 := Lib.hid hcell2; have HC3 := Lib.hid hcell3; have HC4 := Lib.hid hcell4; have G2 := Lib.hid g2; have G3 := Lib.hid g3
  clear f0 hW0 hsz hy hb1' hx hA hB hu hu2 e1 e2 k0 hk0 hown hcell hcell2 hcell3 hcell4 g2 g3
  go_wp2_with fail
  refine (c_areElements _ _ [x, y] _ HO.out (by omega) (by omega)).mono ?_
  rw [HAl.out]
  obtain ⟨W2, hW2⟩ : ∃ W2, w1.alloc (.cells #[.int .i64 x, .int .i64 y] 2) = W2 := ⟨_, rfl⟩
  rw [hW2] at HB HC HC2 HC3 HC4 G2 G3 ⊢
  clear HO hW2 g0 g1
  rintro e w' ⟨rfl, rfl⟩
  have hcell := HC.out; have hcell2 := HC2.out; have hcell3 := HC3.out; have hcell4 := HC4.out; have g2 := G2.out; have g3 := G3.out
  go_wp2
  go_quiet (fail)
  go_wp2
  go_ret3
  have hok : apOk A B x y = true := by unfold apOk; rw [H1.out, H2.out]; rfl
  exact ⟨by simp [apV, apC, hok, H1.out, val2], below_drewN HB.out _⟩

set_option maxHeartbeats 4000000 in
theorem law_ApplyPair (v0 u0 : Value) (x0 y0 : List (List Int)) (n1 : Int) (n2 : Int) (w : World) (hr0 : Rows w v0 x0) (hr0' : Rows w u0 y0) (hl1 : -9223372036854775808 ≤ n1) (hu1 : n1 ≤ 9223372036854775807) (hl2 : -9223372036854775808 ≤ n2) (hu2 : n2 ≤ 9223372036854775807) :
    Calls Try.prog 14 #[.agg #[v0, u0], .int .i64 n1, .int .i64 n2] w (RVal w (.bool true)) := by
  obtain ⟨a0, c0, rfl, hc0, hm0⟩ := hr0.shape
  obtain ⟨a0s, c0s, rfl, hc0s, hm0s⟩ := hr0'.shape
  have hx0 : Sol w (.slice a0 x0.length c0) (.slice a0s y0.length c0s) x0 y0 := ⟨hr0, hr0'⟩
  clear hr0 hr0'
  go_enter Try.func14, Try.ntmps14
  go_wp2_with fail
  obtain ⟨bx0, BW, hsz0⟩ := boxes1 w [.slice a0 x0.length c0, .slice a0s y0.length c0s] 43
  obtain ⟨W0, hW0⟩ : ∃ W, (w.alloc (.cells #[.slice a0 x0.length c0, .slice a0s y0.length c0s] 43)) = W := ⟨_, rfl⟩
  rw [hW0] at bx0 BW hsz0 ⊢
  have hs0 : w.heap.size + 1 ≤ W0.heap.size := by omega
  clear hW0 hsz0
  refine (c_szSolution _ _ _ _ _ _ (hx0.below BW) (by omega) (by omega)).mono ?_; rintro e w1 ⟨rfl, hb1⟩
  have hs1 := hb1.size
  replace BW := bb BW hb1
  replace bx0 := bx0.under hb1
  obtain ⟨cA0, cB0, -, -⟩ := two_cells bx0
  clear hb1
  by_cases hg0 : leftS x0 y0 (1048576) < 0
  case pos =>
    have HB := Lib.hid BW; clear BW
    go_wp2
    go_ret
    exact ⟨rfl, HB.out⟩
  have hf0 := leftS_fits (left := 1048576) (by omega) (by omega) hg0
  have Hf0 := Lib.hid hf0
  clear hf0
  have hf0 : (x0.length ≤ 1048576 ∧ total x0 ≤ 1048576) ∧ (y0.length ≤ 1048576 ∧ total y0 ≤ 1048576) ∧ 0 ≤ leftS x0 y0 (1048576) ∧ leftS x0 y0 (1048576) ≤ 1048576 := ⟨⟨Hf0.out.1.1, Hf0.out.1.2.2⟩, ⟨Hf0.out.2.1.1, Hf0.out.2.1.2.2⟩, Hf0.out.2.2⟩
  obtain ⟨R0, hR0⟩ : ∃ z, z = apV x0 y0 x0 n1 n2 := ⟨_, rfl⟩
  obtain ⟨R1, hR1⟩ : ∃ z, z = apV x0 y0 y0 n1 n2 := ⟨_, rfl⟩
  obtain ⟨R2, hR2⟩ : ∃ z, z = apC x0 y0 n1 n2 := ⟨_, rfl⟩
  have HR0 := Lib.hid hR0
  clear hR0
  have HR1 := Lib.hid hR1
  clear hR1
  have HR2 := Lib.hid hR2
  clear hR2
  have hk0 : (R0 != R0) = false := by simp
  have hk1 : (R1 != R1) = false := by simp
  have hk2 : (R2 != R2) = false := by simp
  have hda0 : decide (x0 = x0 ∧ y0 = y0) = true := by simp
  go_wp2_with fail
  refine (c_toSolution _ _ _ _ _ (hx0.below BW) hf0.1.1 Hf0.out.1.2.1 hf0.2.1.1 Hf0.out.2.1.2.1).mono ?_; rintro e w2 ⟨t11, t12, rfl, ot1, hb2⟩
  have hs2 := hb2.size
  replace BW := bb BW hb2
  replace bx0 := bx0.under hb2
  clear cA0 cB0
  obtain ⟨cA0, cB0, -, -⟩ := two_cells bx0
  clear hb2
  go_wp2_with fail
  refine (c_specApplyPair _ _ _ _ _ _ _ (ot1.sol) hl1 hu1 hl2 hu2).mono ?_
  rw [← HR0.out, ← HR1.out, ← HR2.out]
  rintro e w3 ⟨rfl, hb3⟩
  have hs3 := hb3.size
  replace ot1 := ot1.under hb3
  replace BW := bb BW hb3
  replace bx0 := bx0.under hb3
  clear cA0 cB0
  obtain ⟨cA0, cB0, -, -⟩ := two_cells bx0
  clear ot1
  clear hb3
  go_wp2_with fail
  refine (c_toSolution _ _ _ _ _ (hx0.below BW) hf0.1.1 Hf0.out.1.2.1 hf0.2.1.1 Hf0.out.2.1.2.1).mono ?_; rintro e w4 ⟨z01, z02, rfl, oz0, hb4⟩
  have hs4 := hb4.size
  replace BW := bb BW hb4
  replace bx0 := bx0.under hb4
  clear cA0 cB0
  obtain ⟨cA0, cB0, -, -⟩ := two_cells bx0
  clear hb4
  obtain ⟨saz0, scz0, hvz0, _, _⟩ := oz0.sol.1.shape
  subst hvz0
  obtain ⟨sbz0, sdz0, hvz0, _, _⟩ := oz0.sol.2.shape
  subst hvz0
  go_wp2_with fail
  obtain ⟨bxz0, hb5, hz5⟩ := boxes1 w4 [.slice saz0 x0.length scz0, .slice sbz0 y0.length sdz0] 46
  obtain ⟨w5, hW5⟩ : ∃ W, w4.alloc (.cells #[.slice saz0 x0.length scz0, .slice sbz0 y0.length sdz0] 46) = W := ⟨_, rfl⟩
  rw [hW5] at bxz0 hb5 hz5 ⊢
  have hs5 : w4.heap.size + 1 ≤ w5.heap.size := by omega
  clear hW5 hz5
  replace oz0 := oz0.under hb5
  replace BW := bb BW hb5
  replace bx0 := bx0.under hb5
  clear cA0 cB0
  obtain ⟨cA0, cB0, -, -⟩ := two_cells bx0
  obtain ⟨cAz0, cBz0, -, -⟩ := two_cells bxz0
  clear hb5
  refine (c_ApplyPair _ _ _ _ _ _ _ (oz0.sol) hl1 hu1 hl2 hu2).mono ?_
  rw [← HR0.out, ← HR1.out, ← HR2.out]
  rintro e w6 ⟨rfl, hb6⟩
  have hs6 := hb6.size
  replace oz0 := oz0.under hb6
  replace BW := bb BW hb6
  replace bx0 := bx0.under hb6
  clear cA0 cB0
  obtain ⟨cA0, cB0, -, -⟩ := two_cells bx0
  replace bxz0 := bxz0.under hb6
  clear cAz0 cBz0
  obtain ⟨cAz0, cBz0, -, -⟩ := two_cells bxz0
  clear hb6
  go_wp2_with fail
  have BWd := BW.drew
  have oz0d := oz0.keep ((Keep.refl (fun _ => False) w6).drew) (fun _ _ _ h => h)
  have bx0d := bx0.drew
  have bxz0d := bxz0.drew
  go_region_held3 (fun w' => w'.cell? ⟨w.heap.size, 0, none⟩ = some (.slice a0 x0.length c0) ∧ w'.cell? ⟨w.heap.size, 1, none⟩ = some (.slice a0s y0.length c0s) ∧ w'.cell? ⟨w4.heap.size, 0, none⟩ = some (.slice saz0 x0.length scz0) ∧ w'.cell? ⟨w4.heap.size, 1, none⟩ = some (.slice sbz0 y0.length sdz0))
    (first | go_keep | exact ⟨(two_cells (bx0d.under hb7)).1, (two_cells (bx0d.under hb7)).2.1, (two_cells (bxz0d.under hb7)).1, (two_cells (bxz0d.under hb7)).2.1⟩ | exact ⟨(two_cells ((bx0d.under hb7).under hb8)).1, (two_cells ((bx0d.under hb7).under hb8)).2.1, (two_cells ((bxz0d.under hb7).under hb8)).1, (two_cells ((bxz0d.under hb7).under hb8)).2.1⟩)
    ((first | (go_at_call 38; refine (c_toSolution _ _ _ _ _ (hx0.below BWd) hf0.1.1 Hf0.out.1.2.1 hf0.2.1.1 Hf0.out.2.1.2.1).mono ?_; rintro e w7 ⟨t71, t72, rfl, ot7, hb7⟩) | (go_at_call 40; refine (c_eqS _ _ _ _ _ _ _ _ _ (oz0d.under hb7).sol ot7.sol).mono ?_; rintro e w8 ⟨rfl, hb8⟩)))
  have hb8z : Below w6.heap.size w6 w8 := (Below.refl _ _).drew.trans (bb hb7 hb8)
  have hs8 : w6.heap.size ≤ w8.heap.size := hb8z.size
  replace oz0 := oz0.under hb8z
  replace BW := bb BW hb8z
  replace bx0 := bx0.under hb8z
  clear cA0 cB0
  obtain ⟨cA0, cB0, -, -⟩ := two_cells bx0
  replace bxz0 := bxz0.under hb8z
  clear cAz0 cBz0
  obtain ⟨cAz0, cBz0, -, -⟩ := two_cells bxz0
  clear BWd oz0d bx0d bxz0d ot7 hb7 hb8 hb8z
  have HB := Lib.hid BW
  clear BW oz0 hx0 bx0 bxz0
  go_wp2
  go_ret
  exact ⟨rfl, HB.out⟩
end Go.Proofs.Ytejdcdbecnjbcaa
