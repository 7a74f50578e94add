/-
  The law FnExactIsRack answers true, and leaves what was there as it was: at every list of lists of integers.
-/
import Derived.Test.YtbljjjhppojnaaaI8
import Derived.Test.YtbljjjhppojnaaaLawD
import Derived.Deep.RegionHeld3
namespace Go.Proofs.Ytbljjjhppojnaaa
open Go.RowKit

set_option maxHeartbeats 400000 in
theorem c_specIsRack (v0 : Value) (T : List (List Int)) (w : World) (hT : Rows w v0 T) :
    Calls Try.prog 34 #[.agg #[v0]] w (RVal w (.bool (isRk T))) := by
  obtain ⟨a0, c0, rfl, _, _⟩ := hT.shape
  obtain ⟨f0, hW0, hsz⟩ := boxes1 w [.slice a0 T.length c0] 43
  have hy := hT.below hW0
  have HW := Lib.hid hW0
  clear hW0 hsz f0 hT
  go_enter Try.func34, Try.ntmps34
  go_wp2_with fail
  refine (c_l03Is _ _ _ hy).mono ?_; rintro e w' ⟨rfl, hb⟩
  have HB := Lib.hid (bb HW.out hb); clear hb hy
  go_wp2
  go_ret
  exact ⟨rfl, HB.out⟩
set_option maxHeartbeats 4000000 in
theorem law_IsRack (v0 : Value) (x0 : List (List Int)) (w : World) (hx0 : Rows w v0 x0) :
    Calls Try.prog 8 #[.agg #[v0]] w (RVal w (.bool true)) := by
  obtain ⟨a0, c0, rfl, hc0, hm0⟩ := hx0.shape
  go_enter Try.func8, Try.ntmps8
  go_wp2_with fail
  obtain ⟨bx0, BW, hsz0⟩ := boxes1 w [.slice a0 x0.length c0] 40
  obtain ⟨W0, hW0⟩ : ∃ W, (w.alloc (.cells #[.slice a0 x0.length c0] 40)) = W := ⟨_, rfl⟩
  rw [hW0] at bx0 BW hsz0 ⊢
  have hs0 : w.heap.size + 1 ≤ W0.heap.size := by omega
  clear hW0 hsz0
  refine (c_szRack _ _ _ _ (hx0.below BW) (by omega) (by omega)).mono ?_; rintro e w1 ⟨rfl, hb1⟩
  have hs1 := hb1.size
  replace BW := bb BW hb1
  replace bx0 := bx0.under hb1
  have cA0 := bx0.cell (i := 0) (by simp)
  simp only [List.getElem_cons_zero] at cA0
  clear hb1
  by_cases hg0 : leftR x0 (1048576) < 0
  case pos =>
    have HB := Lib.hid BW; clear BW
    go_wp2
    go_ret
    exact ⟨rfl, HB.out⟩
  have hf0 := leftR_fits (left := 1048576) (by omega) (by omega) hg0
  have Hf0 := Lib.hid hf0
  clear hf0
  have hf0 : x0.length ≤ 1048576 ∧ total x0 ≤ 1048576 ∧ 0 ≤ leftR x0 (1048576) ∧ leftR x0 (1048576) ≤ 1048576 := ⟨Hf0.out.1, Hf0.out.2.2⟩
  obtain ⟨R0, hR0⟩ : ∃ z, z = isRk x0 := ⟨_, rfl⟩
  have HR0 := Lib.hid hR0
  clear hR0
  have hk0 : (R0 != R0) = false := by simp
  have hda0 : decide (x0 = x0) = true := by simp
  go_wp2_with fail
  refine (c_toRack _ _ _ (hx0.below BW) hf0.1 Hf0.out.2.1).mono ?_; rintro e w2 ⟨t1, rfl, ot1r, hb2⟩
  have hs2 := hb2.size
  replace BW := bb BW hb2
  replace bx0 := bx0.under hb2
  clear cA0
  have cA0 := bx0.cell (i := 0) (by simp)
  simp only [List.getElem_cons_zero] at cA0
  have ot1 := ot1r.inn
  clear ot1r
  clear hb2
  go_wp2_with fail
  refine (c_specIsRack _ _ _ (ot1.rows)).mono ?_
  rw [← HR0.out]
  rintro e w3 ⟨rfl, hb3⟩
  have hs3 := hb3.size
  replace ot1 := ot1.under hb3
  replace BW := bb BW hb3
  replace bx0 := bx0.under hb3
  clear cA0
  have cA0 := bx0.cell (i := 0) (by simp)
  simp only [List.getElem_cons_zero] at cA0
  clear ot1
  clear hb3
  go_wp2_with fail
  refine (c_toRack _ _ _ (hx0.below BW) hf0.1 Hf0.out.2.1).mono ?_; rintro e w4 ⟨z0, rfl, oz0r, hb4⟩
  have hs4 := hb4.size
  replace BW := bb BW hb4
  replace bx0 := bx0.under hb4
  clear cA0
  have cA0 := bx0.cell (i := 0) (by simp)
  simp only [List.getElem_cons_zero] at cA0
  have oz0 := oz0r.inn
  clear oz0r
  clear hb4
  obtain ⟨saz0, scz0, hvz0, _, _⟩ := oz0.rows.shape
  subst hvz0
  go_wp2_with fail
  obtain ⟨bxz0, hb5, hz5⟩ := boxes1 w4 [.slice saz0 x0.length scz0] 43
  obtain ⟨w5, hW5⟩ : ∃ W, w4.alloc (.cells #[.slice saz0 x0.length scz0] 43) = W := ⟨_, rfl⟩
  rw [hW5] at bxz0 hb5 hz5 ⊢
  have hs5 : w4.heap.size + 1 ≤ w5.heap.size := by omega
  clear hW5 hz5
  replace oz0 := oz0.under hb5
  replace BW := bb BW hb5
  replace bx0 := bx0.under hb5
  clear cA0
  have cA0 := bx0.cell (i := 0) (by simp)
  simp only [List.getElem_cons_zero] at cA0
  have cAz0 := bxz0.cell (i := 0) (by simp)
  simp only [List.getElem_cons_zero] at cAz0
  clear hb5
  refine (c_IsRack _ _ _ (oz0.rows)).mono ?_
  rw [← HR0.out]
  rintro e w6 ⟨rfl, hb6⟩
  have hs6 := hb6.size
  replace oz0 := oz0.under hb6
  replace BW := bb BW hb6
  replace bx0 := bx0.under hb6
  clear cA0
  have cA0 := bx0.cell (i := 0) (by simp)
  simp only [List.getElem_cons_zero] at cA0
  replace bxz0 := bxz0.under hb6
  clear cAz0
  have cAz0 := bxz0.cell (i := 0) (by simp)
  simp only [List.getElem_cons_zero] at cAz0
  clear hb6
  go_wp2_with fail
  have BWd := BW.drew
  have oz0d := oz0.keep ((Keep.refl (fun _ => False) w6).drew) (fun _ _ _ h => h)
  have bx0d := bx0.drew
  have bxz0d := bxz0.drew
  go_region_held3 (fun w' => w'.cell? ⟨w.heap.size, 0, none⟩ = some (.slice a0 x0.length c0) ∧ w'.cell? ⟨w4.heap.size, 0, none⟩ = some (.slice saz0 x0.length scz0))
    (first | go_keep | exact ⟨one_cell (bx0d.under hb7), one_cell (bxz0d.under hb7)⟩ | exact ⟨one_cell ((bx0d.under hb7).under hb8), one_cell ((bxz0d.under hb7).under hb8)⟩)
    ((first | (go_at_call 35; refine (c_toRack _ _ _ (hx0.below BWd) hf0.1 Hf0.out.2.1).mono ?_; rintro e w7 ⟨t7, rfl, ot7, hb7⟩) | (go_at_call 37; refine (c_eqK _ _ _ _ _ (oz0d.under hb7).rows ot7.rows).mono ?_; rintro e w8 ⟨rfl, hb8⟩)))
  have hb8z : Below w6.heap.size w6 w8 := (Below.refl _ _).drew.trans (bb hb7 hb8)
  have hs8 : w6.heap.size ≤ w8.heap.size := hb8z.size
  replace oz0 := oz0.under hb8z
  replace BW := bb BW hb8z
  replace bx0 := bx0.under hb8z
  clear cA0
  have cA0 := bx0.cell (i := 0) (by simp)
  simp only [List.getElem_cons_zero] at cA0
  replace bxz0 := bxz0.under hb8z
  clear cAz0
  have cAz0 := bxz0.cell (i := 0) (by simp)
  simp only [List.getElem_cons_zero] at cAz0
  clear BWd oz0d bx0d bxz0d ot7 hb7 hb8 hb8z
  have HB := Lib.hid BW
  clear BW oz0 hx0 bx0 bxz0
  go_wp2
  go_ret
  exact ⟨rfl, HB.out⟩
end Go.Proofs.Ytbljjjhppojnaaa
