/-
  The law FnExactSolutionText answers true, and leaves what was there as it was. (NOT BUILT YET at the end of session 2.)
-/
import Derived.Test.YtdhbleiioagmlaaI23
import Derived.Test.YtdhbleiioagmlaaT2
import Derived.Test.YtdhbleiioagmlaaLTables
import Derived.Deep.RegionHeld3
namespace Go.Proofs.Ytdhbleiioagmlaa
open Go.RowKit

def stTxt (A B : List (List Int)) : ByteArray := tabText A ++ ⟨#[124]⟩ ++ tabText B
def stRes (A B : List (List Int)) : ByteArray := if isPM A B then stTxt A B else ⟨#[]⟩
def stCode (A B : List (List Int)) : Int := if isPM A B then 0 else 1
theorem tabText_small {t : List (List Int)} (ht : isTab t = true) : (tabText t).size ≤ 156 := by
  obtain ⟨_, h12⟩ := isTab_len ht
  have := tabText_size (t := t) (n := 12) (fun r hr => by
    obtain ⟨j, hj, rfl⟩ := List.getElem_of_mem hr
    have := isTab_row ht (x := j) (by omega) (by omega)
    rw [row_nat _ _ hj] at this; omega)
  have h3 := Nat.mul_le_mul h12 (show 12 + 1 ≤ 13 by omega)
  omega

set_option maxRecDepth 100000 in
set_option maxHeartbeats 2000000 in
theorem c_SolutionText (v0 u0 : Value) (A B : List (List Int)) (w : World) (hA : Sol w v0 u0 A B)  :
    Calls Try.prog 48 #[.agg #[v0, u0]] w (RVal w (.tuple #[.string (stRes A B), .int .i64 (stCode A B)])) := by
  by_cases hp0 : isPM A B = true
  case neg =>
    have hq0 : isPM A B = false := by simpa using hp0
    have HQ := Lib.hid hq0; clear hp0
    obtain ⟨a0, c0, rfl, _, _⟩ := hA.1.shape
    obtain ⟨a0s, c0s, rfl, _, _⟩ := hA.2.shape
    go_enter Try.func48, Try.ntmps48
    go_wp2_with fail
    obtain ⟨f0, hW0, hsz⟩ := boxes1 w [.slice a0 A.length c0, .slice a0s B.length c0s] 28
    obtain ⟨W0, hW⟩ : ∃ W, (w.alloc (.cells #[.slice a0 A.length c0, .slice a0s B.length c0s] 28)) = W := ⟨_, rfl⟩
    rw [hW] at f0 hW0 hsz ⊢
    clear hW hsz
    refine (c_IsPairMap _ _ _ _ _ (hA.below hW0)).mono ?_; rintro e g0 ⟨rfl, hbg0⟩
    have hB0 := bb hW0 hbg0
    replace f0 := f0.under hbg0
    obtain ⟨cA0, cB0, -, -⟩ := two_cells f0
    clear hbg0
    have HB := Lib.hid hB0
    clear hB0 hW0
    go_wp2
    go_ret2
    exact ⟨by simp [stRes, stCode, HQ.out], HB.out⟩
  have HP0 := Lib.hid hp0
  obtain ⟨a0, c0, rfl, _, _⟩ := hA.1.shape
  obtain ⟨a0s, c0s, rfl, _, _⟩ := hA.2.shape
  go_enter Try.func48, Try.ntmps48
  go_wp2_with fail
  obtain ⟨f0, hW0, hsz⟩ := boxes1 w [.slice a0 A.length c0, .slice a0s B.length c0s] 28
  obtain ⟨W0, hW⟩ : ∃ W, (w.alloc (.cells #[.slice a0 A.length c0, .slice a0s B.length c0s] 28)) = W := ⟨_, rfl⟩
  rw [hW] at f0 hW0 hsz ⊢
  clear hW hsz
  refine (c_IsPairMap _ _ _ _ _ (hA.below hW0)).mono ?_; rintro e g0 ⟨rfl, hbg0⟩
  have hB0 := bb hW0 hbg0
  replace f0 := f0.under hbg0
  obtain ⟨cA0, cB0, -, -⟩ := two_cells f0
  clear hbg0
  obtain ⟨q1, q2, -⟩ := isPM_parts HP0.out
  have hs1 := tabText_small q1; have hs2 := tabText_small q2
  have hs3 : (tabText A ++ ⟨#[124]⟩).size ≤ 157 := by rw [ByteArray.size_append]; have : (ByteArray.mk #[124]).size = 1 := rfl; omega
  have hbar : (ByteArray.mk #[124]).size = 1 := rfl
  have hq1 : ¬ ((tabText A).size + (ByteArray.mk #[124]).size > 9223372036854775807) := by omega
  have hq2 : ¬ (9223372036854775807 < (tabText A).size + 1) := by omega
  have hq3 : ¬ ((tabText A ++ ⟨#[124]⟩).size + (tabText B).size > 9223372036854775807) := by omega
  have hq4 : ¬ (9223372036854775807 < (tabText A).size + 1 + (tabText B).size) := by omega
  have HRA := Lib.hid ((hA.1.below hB0).below (Below.refl _ _).drew); have HRB := Lib.hid ((hA.2.below hB0).below (Below.refl _ _).drew)
  have HFc := Lib.hid f0.drew; have HBc := Lib.hid hB0.drew
  clear hA hB0 hW0 f0
  go_wp2
  go_region_held3 (fun w' => w'.cell? ⟨w.heap.size, 0, none⟩ = some (.slice a0 A.length c0) ∧ w'.cell? ⟨w.heap.size, 1, none⟩ = some (.slice a0s B.length c0s))
    (first | go_keep | exact ⟨(two_cells HFc.out).1, (two_cells HFc.out).2.1⟩)
    ((first | (go_at_call 62; (with_reducible refine (c_tableText _ A _ HRA.out q1).mono ?_); rintro e w1 ⟨rfl, hb1⟩; replace HFc := Lib.hid (HFc.out.under hb1); replace HBc := Lib.hid (bb HBc.out hb1); replace HRB := Lib.hid (HRB.out.below hb1); clear hb1) | (go_at_call 62; (with_reducible refine (c_tableText _ B _ HRB.out q2).mono ?_); rintro e w2 ⟨rfl, hb2⟩; replace HFc := Lib.hid (HFc.out.under hb2); have HB2 := Lib.hid (bb HBc.out hb2); clear hb2)))
  all_goals
    go_wp2
    go_ret2
    exact ⟨by simp [stRes, stCode, stTxt, HP0.out], HB2.out⟩

set_option maxRecDepth 100000 in
set_option maxHeartbeats 2000000 in
theorem c_l02Text (v0 u0 : Value) (A B : List (List Int)) (w : World) (hA : Sol w v0 u0 A B) (hp : isPM A B = true) :
    Calls Try.prog 81 #[.agg #[v0, u0]] w (RVal w (.string (stTxt A B))) := by
  obtain ⟨a0, c0, rfl, _, _⟩ := hA.1.shape
  obtain ⟨a0s, c0s, rfl, _, _⟩ := hA.2.shape
  go_enter Try.func81, Try.ntmps81
  go_wp2
  obtain ⟨f0, hW0, hsz⟩ := boxes1 w [.slice a0 A.length c0, .slice a0s B.length c0s] 28
  obtain ⟨W0, hW⟩ : ∃ W, (w.alloc (.cells #[.slice a0 A.length c0, .slice a0s B.length c0s] 28)) = W := ⟨_, rfl⟩
  rw [hW] at f0 hW0 hsz ⊢
  have HSZ := Lib.hid hsz
  clear hW hsz
  obtain ⟨cA0, cB0, -, -⟩ := two_cells f0
  obtain ⟨q1, q2, -⟩ := isPM_parts hp
  have hs1 := tabText_small q1; have hs2 := tabText_small q2
  have hs3 : (tabText A ++ ⟨#[124]⟩).size ≤ 157 := by rw [ByteArray.size_append]; have : (ByteArray.mk #[124]).size = 1 := rfl; omega
  have hbar : (ByteArray.mk #[124]).size = 1 := rfl
  have hq1 : ¬ ((tabText A).size + (ByteArray.mk #[124]).size > 9223372036854775807) := by omega
  have hq2 : ¬ (9223372036854775807 < (tabText A).size + 1) := by omega
  have hq3 : ¬ ((tabText A ++ ⟨#[124]⟩).size + (tabText B).size > 9223372036854775807) := by omega
  have hq4 : ¬ (9223372036854775807 < (tabText A).size + 1 + (tabText B).size) := by omega
  have HRA := Lib.hid ((hA.1.below hW0).below (Below.refl _ _).drew); have HRB := Lib.hid ((hA.2.below hW0).below (Below.refl _ _).drew)
  have HFc := Lib.hid f0.drew; have HBc := Lib.hid hW0.drew
  clear hA hW0 f0
  go_region_held3 (fun w' => w'.cell? ⟨w.heap.size, 0, none⟩ = some (.slice a0 A.length c0) ∧ w'.cell? ⟨w.heap.size, 1, none⟩ = some (.slice a0s B.length c0s))
    (first | go_keep | exact ⟨(two_cells HFc.out).1, (two_cells HFc.out).2.1⟩)
    ((first | (go_at_call 60; (with_reducible refine (c_l01Text _ A _ HRA.out q1).mono ?_); rintro e w1 ⟨rfl, hb1⟩; replace HFc := Lib.hid (HFc.out.under hb1); replace HBc := Lib.hid (bb HBc.out hb1); replace HRB := Lib.hid (HRB.out.below hb1); clear hb1) | (go_at_call 60; (with_reducible refine (c_l01Text _ B _ HRB.out q2).mono ?_); rintro e w2 ⟨rfl, hb2⟩; replace HFc := Lib.hid (HFc.out.under hb2); have HB2 := Lib.hid (bb HBc.out hb2); clear hb2)))
  all_goals
    go_wp2
    go_ret
    exact ⟨rfl, HB2.out⟩

set_option maxRecDepth 100000 in
set_option maxHeartbeats 2000000 in
theorem c_specSolutionText (v0 u0 : Value) (A B : List (List Int)) (w : World) (hA : Sol w v0 u0 A B)  :
    Calls Try.prog 47 #[.agg #[v0, u0]] w (RVal w (.tuple #[.string (stRes A B), .int .i64 (stCode A B)])) := by
  by_cases hp0 : isPM A B = true
  case neg =>
    have hq0 : isPM A B = false := by simpa using hp0
    have HQ := Lib.hid hq0; clear hp0
    obtain ⟨a0, c0, rfl, _, _⟩ := hA.1.shape
    obtain ⟨a0s, c0s, rfl, _, _⟩ := hA.2.shape
    go_enter Try.func47, Try.ntmps47
    go_wp2_with fail
    obtain ⟨f0, hW0, hsz⟩ := boxes1 w [.slice a0 A.length c0, .slice a0s B.length c0s] 28
    obtain ⟨W0, hW⟩ : ∃ W, (w.alloc (.cells #[.slice a0 A.length c0, .slice a0s B.length c0s] 28)) = W := ⟨_, rfl⟩
    rw [hW] at f0 hW0 hsz ⊢
    clear hW hsz
    refine (c_l02Map _ _ _ _ _ (hA.below hW0)).mono ?_; rintro e g0 ⟨rfl, hbg0⟩
    have hB0 := bb hW0 hbg0
    replace f0 := f0.under hbg0
    obtain ⟨cA0, cB0, -, -⟩ := two_cells f0
    clear hbg0
    have HB := Lib.hid hB0
    clear hB0 hW0
    go_wp2
    go_ret2
    exact ⟨by simp [stRes, stCode, HQ.out], HB.out⟩
  have HP0 := Lib.hid hp0
  obtain ⟨a0, c0, rfl, _, _⟩ := hA.1.shape
  obtain ⟨a0s, c0s, rfl, _, _⟩ := hA.2.shape
  go_enter Try.func47, Try.ntmps47
  go_wp2_with fail
  obtain ⟨f0, hW0, hsz⟩ := boxes1 w [.slice a0 A.length c0, .slice a0s B.length c0s] 28
  obtain ⟨W0, hW⟩ : ∃ W, (w.alloc (.cells #[.slice a0 A.length c0, .slice a0s B.length c0s] 28)) = W := ⟨_, rfl⟩
  rw [hW] at f0 hW0 hsz ⊢
  clear hW hsz
  refine (c_l02Map _ _ _ _ _ (hA.below hW0)).mono ?_; rintro e g0 ⟨rfl, hbg0⟩
  have hB0 := bb hW0 hbg0
  replace f0 := f0.under hbg0
  obtain ⟨cA0, cB0, -, -⟩ := two_cells f0
  clear hbg0
  go_wp2_with fail
  refine (c_l02Text _ _ _ _ _ (hA.below hB0) HP0.out).mono ?_; rintro e w2 ⟨rfl, hb⟩
  have HB := Lib.hid (bb hB0 hb); clear hb hB0 hW0 f0 hA
  go_wp2
  go_ret2
  exact ⟨by simp [stRes, stCode, HP0.out], HB.out⟩
set_option maxHeartbeats 4000000 in
theorem law_SolutionText (v0 u0 : Value) (x0 y0 : List (List Int)) (w : World) (hr0 : Rows w v0 x0) (hr0' : Rows w u0 y0) :
    Calls Try.prog 12 #[.agg #[v0, u0]] w (RVal w (.bool true)) := by
  obtain ⟨a0, c0, rfl, hc0, hm0⟩ := hr0.shape
  obtain ⟨a0s, c0s, rfl, hc0s, hm0s⟩ := hr0'.shape
  have hx0 : Sol w (.slice a0 x0.length c0) (.slice a0s y0.length c0s) x0 y0 := ⟨hr0, hr0'⟩
  clear hr0 hr0'
  go_enter Try.func12, Try.ntmps12
  go_wp2_with fail
  obtain ⟨bx0, BW, hsz0⟩ := boxes1 w [.slice a0 x0.length c0, .slice a0s y0.length c0s] 24
  obtain ⟨W0, hW0⟩ : ∃ W, (w.alloc (.cells #[.slice a0 x0.length c0, .slice a0s y0.length c0s] 24)) = W := ⟨_, rfl⟩
  rw [hW0] at bx0 BW hsz0 ⊢
  have hs0 : w.heap.size + 1 ≤ W0.heap.size := by omega
  clear hW0 hsz0
  refine (c_szSolution _ _ _ _ _ _ (hx0.below BW) (by omega) (by omega)).mono ?_; rintro e w1 ⟨rfl, hb1⟩
  have hs1 := hb1.size
  replace BW := bb BW hb1
  replace bx0 := bx0.under hb1
  obtain ⟨cA0, cB0, -, -⟩ := two_cells bx0
  clear hb1
  by_cases hg0 : leftS x0 y0 (1048576) < 0
  case pos =>
    have HB := Lib.hid BW; clear BW
    go_wp2
    go_ret
    exact ⟨rfl, HB.out⟩
  have hf0 := leftS_fits (left := 1048576) (by omega) (by omega) hg0
  have Hf0 := Lib.hid hf0
  clear hf0
  have hf0 : (x0.length ≤ 1048576 ∧ total x0 ≤ 1048576) ∧ (y0.length ≤ 1048576 ∧ total y0 ≤ 1048576) ∧ 0 ≤ leftS x0 y0 (1048576) ∧ leftS x0 y0 (1048576) ≤ 1048576 := ⟨⟨Hf0.out.1.1, Hf0.out.1.2.2⟩, ⟨Hf0.out.2.1.1, Hf0.out.2.1.2.2⟩, Hf0.out.2.2⟩
  obtain ⟨R0, hR0⟩ : ∃ z, z = stRes x0 y0 := ⟨_, rfl⟩
  obtain ⟨R1, hR1⟩ : ∃ z, z = stCode x0 y0 := ⟨_, rfl⟩
  have HR0 := Lib.hid hR0
  clear hR0
  have HR1 := Lib.hid hR1
  clear hR1
  have hk1 : (R1 != R1) = false := by simp
  have hda0 : decide (x0 = x0 ∧ y0 = y0) = true := by simp
  go_wp2_with fail
  refine (c_toSolution _ _ _ _ _ (hx0.below BW) hf0.1.1 Hf0.out.1.2.1 hf0.2.1.1 Hf0.out.2.1.2.1).mono ?_; rintro e w2 ⟨t11, t12, rfl, ot1, hb2⟩
  have hs2 := hb2.size
  replace BW := bb BW hb2
  replace bx0 := bx0.under hb2
  clear cA0 cB0
  obtain ⟨cA0, cB0, -, -⟩ := two_cells bx0
  clear hb2
  go_wp2_with fail
  refine (c_specSolutionText _ _ _ _ _ (ot1.sol)).mono ?_
  rw [← HR0.out, ← HR1.out]
  rintro e w3 ⟨rfl, hb3⟩
  have hs3 := hb3.size
  replace ot1 := ot1.under hb3
  replace BW := bb BW hb3
  replace bx0 := bx0.under hb3
  clear cA0 cB0
  obtain ⟨cA0, cB0, -, -⟩ := two_cells bx0
  clear ot1
  clear hb3
  go_wp2_with fail
  refine (c_toSolution _ _ _ _ _ (hx0.below BW) hf0.1.1 Hf0.out.1.2.1 hf0.2.1.1 Hf0.out.2.1.2.1).mono ?_; rintro e w4 ⟨z01, z02, rfl, oz0, hb4⟩
  have hs4 := hb4.size
  replace BW := bb BW hb4
  replace bx0 := bx0.under hb4
  clear cA0 cB0
  obtain ⟨cA0, cB0, -, -⟩ := two_cells bx0
  clear hb4
  obtain ⟨saz0, scz0, hvz0, _, _⟩ := oz0.sol.1.shape
  subst hvz0
  obtain ⟨sbz0, sdz0, hvz0, _, _⟩ := oz0.sol.2.shape
  subst hvz0
  obtain ⟨cA0z, cB0z, -, -⟩ := two_cells (bx0.alloc (.cells #[.slice saz0 x0.length scz0, .slice sbz0 y0.length sdz0] 28))
  go_wp2_with fail
  clear cA0z cB0z
  obtain ⟨bxz0, hb5, hz5⟩ := boxes1 w4 [.slice saz0 x0.length scz0, .slice sbz0 y0.length sdz0] 28
  obtain ⟨w5, hW5⟩ : ∃ W, w4.alloc (.cells #[.slice saz0 x0.length scz0, .slice sbz0 y0.length sdz0] 28) = W := ⟨_, rfl⟩
  rw [hW5] at bxz0 hb5 hz5 ⊢
  have hs5 : w4.heap.size + 1 ≤ w5.heap.size := by omega
  clear hW5 hz5
  replace oz0 := oz0.under hb5
  replace BW := bb BW hb5
  replace bx0 := bx0.under hb5
  clear cA0 cB0
  obtain ⟨cA0, cB0, -, -⟩ := two_cells bx0
  obtain ⟨cAz0, cBz0, -, -⟩ := two_cells bxz0
  clear hb5
  refine (c_SolutionText _ _ _ _ _ (oz0.sol)).mono ?_
  rw [← HR0.out, ← HR1.out]
  rintro e w6 ⟨rfl, hb6⟩
  have hs6 := hb6.size
  replace oz0 := oz0.under hb6
  replace BW := bb BW hb6
  replace bx0 := bx0.under hb6
  clear cA0 cB0
  obtain ⟨cA0, cB0, -, -⟩ := two_cells bx0
  replace bxz0 := bxz0.under hb6
  clear cAz0 cBz0
  obtain ⟨cAz0, cBz0, -, -⟩ := two_cells bxz0
  clear hb6
  go_wp2_with fail
  have BWd := BW.drew
  have oz0d := oz0.keep ((Keep.refl (fun _ => False) w6).drew) (fun _ _ _ h => h)
  have bx0d := bx0.drew
  have bxz0d := bxz0.drew
  go_region_held3 (fun w' => w'.cell? ⟨w.heap.size, 0, none⟩ = some (.slice a0 x0.length c0) ∧ w'.cell? ⟨w.heap.size, 1, none⟩ = some (.slice a0s y0.length c0s) ∧ w'.cell? ⟨w4.heap.size, 0, none⟩ = some (.slice saz0 x0.length scz0) ∧ w'.cell? ⟨w4.heap.size, 1, none⟩ = some (.slice sbz0 y0.length sdz0))
    (first | go_keep | exact ⟨(two_cells (bx0d.under hb7)).1, (two_cells (bx0d.under hb7)).2.1, (two_cells (bxz0d.under hb7)).1, (two_cells (bxz0d.under hb7)).2.1⟩ | exact ⟨(two_cells ((bx0d.under hb7).under hb8)).1, (two_cells ((bx0d.under hb7).under hb8)).2.1, (two_cells ((bxz0d.under hb7).under hb8)).1, (two_cells ((bxz0d.under hb7).under hb8)).2.1⟩)
    ((first | (go_at_call 17; refine (c_toSolution _ _ _ _ _ (hx0.below BWd) hf0.1.1 Hf0.out.1.2.1 hf0.2.1.1 Hf0.out.2.1.2.1).mono ?_; rintro e w7 ⟨t71, t72, rfl, ot7, hb7⟩) | (go_at_call 19; refine (c_eqS _ _ _ _ _ _ _ _ _ (oz0d.under hb7).sol ot7.sol).mono ?_; rintro e w8 ⟨rfl, hb8⟩)))
  have hb8z : Below w6.heap.size w6 w8 := (Below.refl _ _).drew.trans (bb hb7 hb8)
  have hs8 : w6.heap.size ≤ w8.heap.size := hb8z.size
  replace oz0 := oz0.under hb8z
  replace BW := bb BW hb8z
  replace bx0 := bx0.under hb8z
  clear cA0 cB0
  obtain ⟨cA0, cB0, -, -⟩ := two_cells bx0
  replace bxz0 := bxz0.under hb8z
  clear cAz0 cBz0
  obtain ⟨cAz0, cBz0, -, -⟩ := two_cells bxz0
  clear BWd oz0d bx0d bxz0d ot7 hb7 hb8 hb8z
  have HB := Lib.hid BW
  clear BW oz0 hx0 bx0 bxz0
  go_wp2
  go_ret
  exact ⟨rfl, HB.out⟩
end Go.Proofs.Ytdhbleiioagmlaa
