/-
  The law FnExactIsClosedSet answers true, and leaves what was there as it was: at every pair of lists of lists of integers and every list of integers.
-/
import Derived.Test.YtbljjjhppojnaaaI11
import Derived.Deep.RegionHeld3
namespace Go.Proofs.Ytbljjjhppojnaaa
open Go.RowKit

def clRes (A B : List (List Int)) (L : List Int) : Bool := if isPM A B && setOk A.length L then closL A B L else false

set_option maxRecDepth 100000 in
set_option maxHeartbeats 800000 in
theorem c_IsClosedSet (v0 u0 : Value) (A B : List (List Int)) (v1 : Value) (L : List Int) (w : World) (hA : Sol w v0 u0 A B) (hL : Ints w v1 L)  :
    Calls Try.prog 55 #[.agg #[v0, u0], v1] w (RVal w (.tuple #[.bool (clRes A B L), .int .i64 (setCode A B L)])) := by
  by_cases hp0 : isPM A B = true
  case neg =>
    have hq0 : isPM A B = false := by simpa using hp0
    have HQ := Lib.hid hq0; clear hp0
    obtain ⟨a0, c0, rfl, _, _⟩ := hA.1.shape
    obtain ⟨a0s, c0s, rfl, _, _⟩ := hA.2.shape
    obtain ⟨a1, c1, rfl, hc1, hm1⟩ := hL.shape
    go_enter Try.func55, Try.ntmps55
    go_wp2_with fail
    obtain ⟨f0, hW0, hsz⟩ := boxes1 w [.slice a0 A.length c0, .slice a0s B.length c0s] 28
    obtain ⟨W0, hW⟩ : ∃ W, (w.alloc (.cells #[.slice a0 A.length c0, .slice a0s B.length c0s] 28)) = W := ⟨_, rfl⟩
    rw [hW] at f0 hW0 hsz ⊢
    clear hW hsz
    refine (c_IsPairMap _ _ _ _ _ (hA.below hW0)).mono ?_; rintro e g0 ⟨rfl, hbg0⟩
    have hB0 := bb hW0 hbg0
    replace f0 := f0.under hbg0
    obtain ⟨cA0, cB0, -, -⟩ := two_cells f0
    clear hbg0
    have HB := Lib.hid hB0
    clear hB0 hW0
    go_wp2
    go_ret2
    exact ⟨by simp [clRes, setCode, HQ.out], HB.out⟩
  have HP0 := Lib.hid hp0
  have hl12 := isTab_len (isPM_parts HP0.out).1
  by_cases hp1 : setOk A.length L = true
  case neg =>
    have hq1 : setOk A.length L = false := by simpa using hp1
    have HQ := Lib.hid hq1; clear hp1
    obtain ⟨a0, c0, rfl, _, _⟩ := hA.1.shape
    obtain ⟨a0s, c0s, rfl, _, _⟩ := hA.2.shape
    obtain ⟨a1, c1, rfl, hc1, hm1⟩ := hL.shape
    go_enter Try.func55, Try.ntmps55
    go_wp2_with fail
    obtain ⟨f0, hW0, hsz⟩ := boxes1 w [.slice a0 A.length c0, .slice a0s B.length c0s] 28
    obtain ⟨W0, hW⟩ : ∃ W, (w.alloc (.cells #[.slice a0 A.length c0, .slice a0s B.length c0s] 28)) = W := ⟨_, rfl⟩
    rw [hW] at f0 hW0 hsz ⊢
    clear hW hsz
    refine (c_IsPairMap _ _ _ _ _ (hA.below hW0)).mono ?_; rintro e g0 ⟨rfl, hbg0⟩
    have hB0 := bb hW0 hbg0
    replace f0 := f0.under hbg0
    obtain ⟨cA0, cB0, -, -⟩ := two_cells f0
    clear hbg0
    go_wp2_with fail
    refine (c_isSet _ _ _ _ (hL.below hB0) (by omega) (by omega)).mono ?_; rintro e g1 ⟨rfl, hbg1⟩
    have hB1 := bb hB0 hbg1
    replace f0 := f0.under hbg1
    clear cA0 cB0
    obtain ⟨cA0, cB0, -, -⟩ := two_cells f0
    clear hbg1
    have HB := Lib.hid hB1
    clear hB0 hB1 hW0
    go_wp2
    go_ret2
    exact ⟨by simp [clRes, setCode, HQ.out, HP0.out], HB.out⟩
  have HP1 := Lib.hid hp1
  obtain ⟨a0, c0, rfl, _, _⟩ := hA.1.shape
  obtain ⟨a0s, c0s, rfl, _, _⟩ := hA.2.shape
  obtain ⟨a1, c1, rfl, hc1, hm1⟩ := hL.shape
  go_enter Try.func55, Try.ntmps55
  go_wp2_with fail
  obtain ⟨f0, hW0, hsz⟩ := boxes1 w [.slice a0 A.length c0, .slice a0s B.length c0s] 28
  obtain ⟨W0, hW⟩ : ∃ W, (w.alloc (.cells #[.slice a0 A.length c0, .slice a0s B.length c0s] 28)) = W := ⟨_, rfl⟩
  rw [hW] at f0 hW0 hsz ⊢
  clear hW hsz
  refine (c_IsPairMap _ _ _ _ _ (hA.below hW0)).mono ?_; rintro e g0 ⟨rfl, hbg0⟩
  have hB0 := bb hW0 hbg0
  replace f0 := f0.under hbg0
  obtain ⟨cA0, cB0, -, -⟩ := two_cells f0
  clear hbg0
  go_wp2_with fail
  refine (c_isSet _ _ _ _ (hL.below hB0) (by omega) (by omega)).mono ?_; rintro e g1 ⟨rfl, hbg1⟩
  have hB1 := bb hB0 hbg1
  replace f0 := f0.under hbg1
  clear cA0 cB0
  obtain ⟨cA0, cB0, -, -⟩ := two_cells f0
  clear hbg1
  go_wp2_with fail
  refine (c_isClosed _ _ _ _ _ _ _ (hA.below hB1) (hL.below hB1) HP0.out HP1.out).mono ?_; rintro e w2 ⟨rfl, hb⟩
  have HB := Lib.hid (bb hB1 hb); clear hb hB0 hB1 hW0 f0 hA hL
  go_wp2
  go_ret2
  exact ⟨by simp [clRes, setCode, HP0.out, HP1.out], HB.out⟩

set_option maxHeartbeats 1000000 in
theorem c_specIsClosedSet (v0 u0 : Value) (A B : List (List Int)) (v1 : Value) (L : List Int) (w : World) (hA : Sol w v0 u0 A B) (hL : Ints w v1 L) :
    Calls Try.prog 54 #[.agg #[v0, u0], v1] w (RVal w (.tuple #[.bool (clRes A B L), .int .i64 (setCode A B L)])) := by
  obtain ⟨a0, c0, rfl, _, _⟩ := hA.1.shape
  obtain ⟨a0s, c0s, rfl, _, _⟩ := hA.2.shape
  obtain ⟨a1, c1, rfl, _, _⟩ := hL.shape
  obtain ⟨f0, hW0, hsz⟩ := boxes1 w [.slice a0 A.length c0, .slice a0s B.length c0s] 28
  obtain ⟨W0, hW⟩ : ∃ W, w.alloc (.cells #[.slice a0 A.length c0, .slice a0s B.length c0s] 28) = W := ⟨_, rfl⟩
  rw [hW] at f0 hW0
  have hcase : (isPM A B = true ∧ setOk A.length L = true ∧ setCode A B L = 0) ∨ ((setCode A B L = 1 ∨ setCode A B L = 2) ∧ clRes A B L = false) := by
    unfold setCode clRes
    by_cases h1 : isPM A B = true
    · by_cases h2 : setOk A.length L = true
      · exact .inl ⟨h1, h2, by simp [h1, h2]⟩
      · simp [h1, h2]
    · simp [h1]
  have HC := Lib.hid hcase; have HW := Lib.hid hW; clear hcase hW hsz
  go_enter Try.func54, Try.ntmps54
  go_wp2_with fail
  rw [HW.out]
  refine (c_l02SetCode _ _ _ _ _ _ _ (hA.below hW0) (hL.below hW0)).mono ?_; rintro e w1 ⟨rfl, hb⟩
  have HB := Lib.hid (bb hW0 hb); obtain ⟨cA, cB, -, -⟩ := two_cells (f0.under hb)
  clear hb
  rcases HC.out with ⟨h1, h2, h3⟩ | ⟨h1, h2⟩
  · have H1 := Lib.hid h1; have H2 := Lib.hid h2; have H3 := Lib.hid h3
    rw [h3]
    clear h1 h2 h3
    go_wp2_with fail
    refine (c_l02Closed _ _ _ _ _ _ _ (hA.below HB.out) (hL.below HB.out) H1.out H2.out).mono ?_; rintro e w2 ⟨rfl, hb⟩
    have HB2 := Lib.hid (bb HB.out hb); clear hb hA hL f0 hW0
    go_wp2
    go_ret2
    exact ⟨by simp [clRes, H1.out, H2.out, H3.out], HB2.out⟩
  · have H2 := Lib.hid h2
    rcases h1 with h1 | h1
    · have H1 := Lib.hid h1
      rw [h1]
      clear h1 h2 hA hL f0 hW0
      go_wp2
      go_ret2
      exact ⟨by simp [H1.out, H2.out], HB.out⟩
    · have H1 := Lib.hid h1
      rw [h1]
      clear h1 h2 hA hL f0 hW0
      go_wp2
      go_ret2
      exact ⟨by simp [H1.out, H2.out], HB.out⟩
set_option maxHeartbeats 4000000 in
theorem law_IsClosedSet (v0 u0 : Value) (x0 y0 : List (List Int)) (v1 : Value) (x1 : List Int) (w : World) (hr0 : Rows w v0 x0) (hr0' : Rows w u0 y0) (hx1 : Ints w v1 x1) :
    Calls Try.prog 14 #[.agg #[v0, u0], v1] w (RVal w (.bool true)) := by
  obtain ⟨a0, c0, rfl, hc0, hm0⟩ := hr0.shape
  obtain ⟨a0s, c0s, rfl, hc0s, hm0s⟩ := hr0'.shape
  have hx0 : Sol w (.slice a0 x0.length c0) (.slice a0s y0.length c0s) x0 y0 := ⟨hr0, hr0'⟩
  clear hr0 hr0'
  obtain ⟨a1, c1, rfl, hc1, hm1⟩ := hx1.shape
  by_cases hn1 : x1.length ≤ 1048576
  case neg =>
    go_enter Try.func14, Try.ntmps14
    go_wp2
    go_ret
    exact ⟨rfl, by first | exact Below.refl _ _ | exact (Below.refl _ _).alloc (Nat.le_refl _) _ | exact ((Below.refl _ _).alloc (Nat.le_refl _) _).alloc (by simp) _⟩
  go_enter Try.func14, Try.ntmps14
  go_wp2_with fail
  obtain ⟨bx0, BW, hsz0⟩ := boxes1 w [.slice a0 x0.length c0, .slice a0s y0.length c0s] 24
  obtain ⟨W0, hW0⟩ : ∃ W, (w.alloc (.cells #[.slice a0 x0.length c0, .slice a0s y0.length c0s] 24)) = W := ⟨_, rfl⟩
  rw [hW0] at bx0 BW hsz0 ⊢
  have hs0 : w.heap.size + 1 ≤ W0.heap.size := by omega
  clear hW0 hsz0
  refine (c_szSolution _ _ _ _ _ _ (hx0.below BW) (by omega) (by omega)).mono ?_; rintro e w1 ⟨rfl, hb1⟩
  have hs1 := hb1.size
  replace BW := bb BW hb1
  replace bx0 := bx0.under hb1
  obtain ⟨cA0, cB0, -, -⟩ := two_cells bx0
  clear hb1
  by_cases hg0 : leftS x0 y0 (1048576) < 0
  case pos =>
    have HB := Lib.hid BW; clear BW
    go_wp2
    go_ret
    exact ⟨rfl, HB.out⟩
  have hf0 := leftS_fits (left := 1048576) (by omega) (by omega) hg0
  have Hf0 := Lib.hid hf0
  clear hf0
  have hf0 : (x0.length ≤ 1048576 ∧ total x0 ≤ 1048576) ∧ (y0.length ≤ 1048576 ∧ total y0 ≤ 1048576) ∧ 0 ≤ leftS x0 y0 (1048576) ∧ leftS x0 y0 (1048576) ≤ 1048576 := ⟨⟨Hf0.out.1.1, Hf0.out.1.2.2⟩, ⟨Hf0.out.2.1.1, Hf0.out.2.1.2.2⟩, Hf0.out.2.2⟩
  obtain ⟨R0, hR0⟩ : ∃ z, z = clRes x0 y0 x1 := ⟨_, rfl⟩
  obtain ⟨R1, hR1⟩ : ∃ z, z = setCode x0 y0 x1 := ⟨_, rfl⟩
  have HR0 := Lib.hid hR0
  clear hR0
  have HR1 := Lib.hid hR1
  clear hR1
  have hk0 : (R0 != R0) = false := by simp
  have hk1 : (R1 != R1) = false := by simp
  have hda0 : decide (x0 = x0 ∧ y0 = y0) = true := by simp
  have hda1 : decide (x1 = x1) = true := by simp
  go_wp2_with fail
  refine (c_toSolution _ _ _ _ _ (hx0.below BW) hf0.1.1 Hf0.out.1.2.1 hf0.2.1.1 Hf0.out.2.1.2.1).mono ?_; rintro e w2 ⟨t11, t12, rfl, ot1, hb2⟩
  have hs2 := hb2.size
  replace BW := bb BW hb2
  replace bx0 := bx0.under hb2
  clear cA0 cB0
  obtain ⟨cA0, cB0, -, -⟩ := two_cells bx0
  clear hb2
  go_wp2_with fail
  refine (c_toInt64S _ _ _ (hx1.below BW) (by omega)).mono ?_; rintro e w3 ⟨t2, rfl, ot2r, hb3⟩
  have hs3 := hb3.size
  replace ot1 := ot1.under hb3
  replace BW := bb BW hb3
  replace bx0 := bx0.under hb3
  clear cA0 cB0
  obtain ⟨cA0, cB0, -, -⟩ := two_cells bx0
  have ot2 := ot2r.inn
  clear ot2r
  clear hb3
  go_wp2_with fail
  refine (c_specIsClosedSet _ _ _ _ _ _ _ (ot1.sol) (ot2.ints)).mono ?_
  rw [← HR0.out, ← HR1.out]
  rintro e w4 ⟨rfl, hb4⟩
  have hs4 := hb4.size
  replace ot1 := ot1.under hb4
  replace ot2 := ot2.under hb4
  replace BW := bb BW hb4
  replace bx0 := bx0.under hb4
  clear cA0 cB0
  obtain ⟨cA0, cB0, -, -⟩ := two_cells bx0
  clear ot1
  clear ot2
  clear hb4
  go_wp2_with fail
  refine (c_toSolution _ _ _ _ _ (hx0.below BW) hf0.1.1 Hf0.out.1.2.1 hf0.2.1.1 Hf0.out.2.1.2.1).mono ?_; rintro e w5 ⟨z01, z02, rfl, oz0, hb5⟩
  have hs5 := hb5.size
  replace BW := bb BW hb5
  replace bx0 := bx0.under hb5
  clear cA0 cB0
  obtain ⟨cA0, cB0, -, -⟩ := two_cells bx0
  clear hb5
  obtain ⟨saz0, scz0, hvz0, _, _⟩ := oz0.sol.1.shape
  subst hvz0
  obtain ⟨sbz0, sdz0, hvz0, _, _⟩ := oz0.sol.2.shape
  subst hvz0
  go_wp2_with fail
  obtain ⟨bxz0, hb6, hz6⟩ := boxes1 w5 [.slice saz0 x0.length scz0, .slice sbz0 y0.length sdz0] 28
  obtain ⟨w6, hW6⟩ : ∃ W, w5.alloc (.cells #[.slice saz0 x0.length scz0, .slice sbz0 y0.length sdz0] 28) = W := ⟨_, rfl⟩
  rw [hW6] at bxz0 hb6 hz6 ⊢
  have hs6 : w5.heap.size + 1 ≤ w6.heap.size := by omega
  clear hW6 hz6
  replace oz0 := oz0.under hb6
  replace BW := bb BW hb6
  replace bx0 := bx0.under hb6
  clear cA0 cB0
  obtain ⟨cA0, cB0, -, -⟩ := two_cells bx0
  obtain ⟨cAz0, cBz0, -, -⟩ := two_cells bxz0
  clear hb6
  refine (c_toInt64S _ _ _ (hx1.below BW) (by omega)).mono ?_; rintro e w7 ⟨z1, rfl, oz1r, hb7⟩
  have hs7 := hb7.size
  replace oz0 := oz0.under hb7
  replace BW := bb BW hb7
  replace bx0 := bx0.under hb7
  clear cA0 cB0
  obtain ⟨cA0, cB0, -, -⟩ := two_cells bx0
  replace bxz0 := bxz0.under hb7
  clear cAz0 cBz0
  obtain ⟨cAz0, cBz0, -, -⟩ := two_cells bxz0
  have oz1 := oz1r.inn
  clear oz1r
  clear hb7
  go_wp2_with fail
  refine (c_IsClosedSet _ _ _ _ _ _ _ (oz0.sol) (oz1.ints)).mono ?_
  rw [← HR0.out, ← HR1.out]
  rintro e w8 ⟨rfl, hb8⟩
  have hs8 := hb8.size
  replace oz0 := oz0.under hb8
  replace oz1 := oz1.under hb8
  replace BW := bb BW hb8
  replace bx0 := bx0.under hb8
  clear cA0 cB0
  obtain ⟨cA0, cB0, -, -⟩ := two_cells bx0
  replace bxz0 := bxz0.under hb8
  clear cAz0 cBz0
  obtain ⟨cAz0, cBz0, -, -⟩ := two_cells bxz0
  clear hb8
  go_wp2_with fail
  have BWd := BW.drew
  have oz0d := oz0.keep ((Keep.refl (fun _ => False) w8).drew) (fun _ _ _ h => h)
  have bx0d := bx0.drew
  have bxz0d := bxz0.drew
  go_region_held3 (fun w' => w'.cell? ⟨w.heap.size, 0, none⟩ = some (.slice a0 x0.length c0) ∧ w'.cell? ⟨w.heap.size, 1, none⟩ = some (.slice a0s y0.length c0s) ∧ w'.cell? ⟨w5.heap.size, 0, none⟩ = some (.slice saz0 x0.length scz0) ∧ w'.cell? ⟨w5.heap.size, 1, none⟩ = some (.slice sbz0 y0.length sdz0))
    (first | go_keep | exact ⟨(two_cells (bx0d.under hb9)).1, (two_cells (bx0d.under hb9)).2.1, (two_cells (bxz0d.under hb9)).1, (two_cells (bxz0d.under hb9)).2.1⟩ | exact ⟨(two_cells ((bx0d.under hb9).under hb10)).1, (two_cells ((bx0d.under hb9).under hb10)).2.1, (two_cells ((bxz0d.under hb9).under hb10)).1, (two_cells ((bxz0d.under hb9).under hb10)).2.1⟩)
    ((first | (go_at_call 17; refine (c_toSolution _ _ _ _ _ (hx0.below BWd) hf0.1.1 Hf0.out.1.2.1 hf0.2.1.1 Hf0.out.2.1.2.1).mono ?_; rintro e w9 ⟨t91, t92, rfl, ot9, hb9⟩) | (go_at_call 19; refine (c_eqS _ _ _ _ _ _ _ _ _ (oz0d.under hb9).sol ot9.sol).mono ?_; rintro e w10 ⟨rfl, hb10⟩)))
  have hb10z : Below w8.heap.size w8 w10 := (Below.refl _ _).drew.trans (bb hb9 hb10)
  have hs10 : w8.heap.size ≤ w10.heap.size := hb10z.size
  replace oz0 := oz0.under hb10z
  replace oz1 := oz1.under hb10z
  replace BW := bb BW hb10z
  replace bx0 := bx0.under hb10z
  clear cA0 cB0
  obtain ⟨cA0, cB0, -, -⟩ := two_cells bx0
  replace bxz0 := bxz0.under hb10z
  clear cAz0 cBz0
  obtain ⟨cAz0, cBz0, -, -⟩ := two_cells bxz0
  clear BWd oz0d bx0d bxz0d ot9 hb9 hb10 hb10z
  go_wp2_with fail
  refine (c_toInt64S _ _ _ (hx1.below BW) (by omega)).mono ?_; rintro e w11 ⟨t3, rfl, ot3r, hb11⟩
  have hs11 := hb11.size
  replace oz0 := oz0.under hb11
  replace oz1 := oz1.under hb11
  replace BW := bb BW hb11
  replace bx0 := bx0.under hb11
  clear cA0 cB0
  obtain ⟨cA0, cB0, -, -⟩ := two_cells bx0
  replace bxz0 := bxz0.under hb11
  clear cAz0 cBz0
  obtain ⟨cAz0, cBz0, -, -⟩ := two_cells bxz0
  have ot3 := ot3r.inn
  clear ot3r
  clear hb11
  go_wp2_with fail
  refine (c_eqI _ _ _ _ _ (oz1.ints) (ot3.ints)).mono ?_; rintro e w12 ⟨rfl, hb12⟩
  have hs12 := hb12.size
  replace oz0 := oz0.under hb12
  replace oz1 := oz1.under hb12
  replace ot3 := ot3.under hb12
  replace BW := bb BW hb12
  replace bx0 := bx0.under hb12
  clear cA0 cB0
  obtain ⟨cA0, cB0, -, -⟩ := two_cells bx0
  replace bxz0 := bxz0.under hb12
  clear cAz0 cBz0
  obtain ⟨cAz0, cBz0, -, -⟩ := two_cells bxz0
  clear hb12
  clear ot3
  have HB := Lib.hid BW
  clear BW oz0 oz1 hx0 hx1 bx0 bxz0
  go_wp2
  go_ret
  exact ⟨rfl, HB.out⟩
end Go.Proofs.Ytbljjjhppojnaaa
