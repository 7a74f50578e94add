/-
  The law FnExactEquationFault answers true, and leaves what was there as it was: at every pair of lists of lists of integers.
-/
import Derived.Test.YtdhbleiioagmlaaI12
namespace Go.Proofs.Ytdhbleiioagmlaa
open Go.RowKit

def efRes (A B : List (List Int)) : List Int := if isPM A B then yF A B else []
def efCode (A B : List (List Int)) : Int := if isPM A B then (if yF A B = [] then 4 else 0) else 1
theorem yF_length (A B : List (List Int)) : (yF A B).length ≤ 3 := trip_length _
theorem efRes_length (A B : List (List Int)) : (efRes A B).length ≤ 3 := by
  unfold efRes; split
  · exact yF_length A B
  · simp
theorem eql_nil (W : World) (a : Option Addr) (n c : Nat) : (binOp .eql 49 (.slice a n c) (.slice none 0 0)).run Try.prog W = .ok (.bool a.isNone) W := Lib.run_eql_slice_nil W _ _ a n c 0 0 Try.underlying49

set_option maxRecDepth 100000 in
set_option maxHeartbeats 800000 in
theorem c_specEquationFault (v0 u0 : Value) (A B : List (List Int)) (w : World) (hA : Sol w v0 u0 A B)  :
    Calls Try.prog 38 #[.agg #[v0, u0]] w (RIntsC w (efRes A B) (efCode A B)) := by
  by_cases hp0 : isPM A B = true
  case neg =>
    have hq0 : isPM A B = false := by simpa using hp0
    have HQ := Lib.hid hq0; clear hp0
    obtain ⟨a0, c0, rfl, _, _⟩ := hA.1.shape
    obtain ⟨a0s, c0s, rfl, _, _⟩ := hA.2.shape
    go_enter Try.func38, Try.ntmps38
    go_wp2_with fail
    obtain ⟨f0, hW0, hsz⟩ := boxes1 w [.slice a0 A.length c0, .slice a0s B.length c0s] 28
    obtain ⟨W0, hW⟩ : ∃ W, (w.alloc (.cells #[.slice a0 A.length c0, .slice a0s B.length c0s] 28)) = W := ⟨_, rfl⟩
    rw [hW] at f0 hW0 hsz ⊢
    clear hW hsz
    refine (c_l02Map _ _ _ _ _ (hA.below hW0)).mono ?_; rintro e g0 ⟨rfl, hbg0⟩
    have hB0 := bb hW0 hbg0
    replace f0 := f0.under hbg0
    obtain ⟨cA0, cB0, -, -⟩ := two_cells f0
    clear hbg0
    have HB := Lib.hid hB0
    clear hB0 hW0
    go_wp2
    go_ret2
    exact ⟨.slice none 0 0, by simp [efCode, HQ.out], by simpa [efRes, HQ.out] using Own.nil _ _, HB.out⟩
  have HP0 := Lib.hid hp0
  obtain ⟨a0, c0, rfl, _, _⟩ := hA.1.shape
  obtain ⟨a0s, c0s, rfl, _, _⟩ := hA.2.shape
  go_enter Try.func38, Try.ntmps38
  go_wp2_with fail
  obtain ⟨f0, hW0, hsz⟩ := boxes1 w [.slice a0 A.length c0, .slice a0s B.length c0s] 28
  obtain ⟨W0, hW⟩ : ∃ W, (w.alloc (.cells #[.slice a0 A.length c0, .slice a0s B.length c0s] 28)) = W := ⟨_, rfl⟩
  rw [hW] at f0 hW0 hsz ⊢
  clear hW hsz
  refine (c_l02Map _ _ _ _ _ (hA.below hW0)).mono ?_; rintro e g0 ⟨rfl, hbg0⟩
  have hB0 := bb hW0 hbg0
  replace f0 := f0.under hbg0
  obtain ⟨cA0, cB0, -, -⟩ := two_cells f0
  clear hbg0
  go_wp2_with fail
  refine (c_l02Fault _ _ _ _ _ (hA.below hB0) HP0.out).mono ?_; rintro e w2 ⟨r, rfl, ho, hb⟩
  obtain ⟨ra, rc, rfl, hrc⟩ := ho.shape
  have HO := Lib.hid (ho.mono hB0.size); have HB := Lib.hid (bb hB0 hb); clear ho hb
  by_cases hc : yF A B = []
  · have HC := Lib.hid hc; have hl : (((yF A B).length : Int) == 0) = true := by simp [hc]
    clear hc hB0 hW0 f0 hA
    go_wp2
    go_ret2
    exact ⟨.slice none 0 0, by simp [efCode, HP0.out, HC.out], by simpa [efRes, HP0.out, HC.out] using Own.nil _ _, HB.out⟩
  · have HC := Lib.hid hc; have hl : (((yF A B).length : Int) == 0) = false := by simp [hc]
    clear hc hB0 hW0 f0 hA
    go_wp2
    go_ret2
    exact ⟨_, by simp [efCode, HP0.out, HC.out]; rfl, by simpa [efRes, HP0.out, HC.out] using HO.out, HB.out⟩

set_option maxRecDepth 100000 in
set_option maxHeartbeats 800000 in
theorem c_EquationFault (v0 u0 : Value) (A B : List (List Int)) (w : World) (hA : Sol w v0 u0 A B)  :
    Calls Try.prog 39 #[.agg #[v0, u0]] w (RIntsC w (efRes A B) (efCode A B)) := by
  have hnl := eql_nil
  by_cases hp0 : isPM A B = true
  case neg =>
    have hq0 : isPM A B = false := by simpa using hp0
    have HQ := Lib.hid hq0; clear hp0
    obtain ⟨a0, c0, rfl, _, _⟩ := hA.1.shape
    obtain ⟨a0s, c0s, rfl, _, _⟩ := hA.2.shape
    go_enter Try.func39, Try.ntmps39
    go_wp2_with fail
    obtain ⟨f0, hW0, hsz⟩ := boxes1 w [.slice a0 A.length c0, .slice a0s B.length c0s] 28
    obtain ⟨W0, hW⟩ : ∃ W, (w.alloc (.cells #[.slice a0 A.length c0, .slice a0s B.length c0s] 28)) = W := ⟨_, rfl⟩
    rw [hW] at f0 hW0 hsz ⊢
    clear hW hsz
    refine (c_IsPairMap _ _ _ _ _ (hA.below hW0)).mono ?_; rintro e g0 ⟨rfl, hbg0⟩
    have hB0 := bb hW0 hbg0
    replace f0 := f0.under hbg0
    obtain ⟨cA0, cB0, -, -⟩ := two_cells f0
    clear hbg0
    have HB := Lib.hid hB0
    clear hB0 hW0
    go_wp2
    go_ret2
    exact ⟨.slice none 0 0, by simp [efCode, HQ.out], by simpa [efRes, HQ.out] using Own.nil _ _, HB.out⟩
  have HP0 := Lib.hid hp0
  obtain ⟨a0, c0, rfl, _, _⟩ := hA.1.shape
  obtain ⟨a0s, c0s, rfl, _, _⟩ := hA.2.shape
  go_enter Try.func39, Try.ntmps39
  go_wp2_with fail
  obtain ⟨f0, hW0, hsz⟩ := boxes1 w [.slice a0 A.length c0, .slice a0s B.length c0s] 28
  obtain ⟨W0, hW⟩ : ∃ W, (w.alloc (.cells #[.slice a0 A.length c0, .slice a0s B.length c0s] 28)) = W := ⟨_, rfl⟩
  rw [hW] at f0 hW0 hsz ⊢
  clear hW hsz
  refine (c_IsPairMap _ _ _ _ _ (hA.below hW0)).mono ?_; rintro e g0 ⟨rfl, hbg0⟩
  have hB0 := bb hW0 hbg0
  replace f0 := f0.under hbg0
  obtain ⟨cA0, cB0, -, -⟩ := two_cells f0
  clear hbg0
  go_wp2_with fail
  refine (c_equationFault _ _ _ _ _ (hA.below hB0) HP0.out).mono ?_; rintro e w2 ⟨r, rfl, ho, hb, hn⟩
  have HO := Lib.hid (ho.mono hB0.size); have HB := Lib.hid (bb hB0 hb); have HN := Lib.hid hn; clear ho hb hn
  by_cases hc : yF A B = []
  · obtain rfl := HN.out hc
    have HC := Lib.hid hc
    clear hc hB0 hW0 f0 hA
    go_wp2
    go_ret2
    exact ⟨.slice none 0 0, by simp [efCode, HP0.out, HC.out], by simpa [efRes, HP0.out, HC.out] using Own.nil _ _, HB.out⟩
  · have HC := Lib.hid hc
    rcases HO.out.open with ⟨_, h0⟩ | ⟨g, cs, hv, _⟩
    · exact absurd h0 hc
    clear hc hB0 hW0 f0 hA
    subst hv
    go_wp2
    go_ret2
    exact ⟨_, by simp [efCode, HP0.out, HC.out]; rfl, by simpa [efRes, HP0.out, HC.out] using HO.out, HB.out⟩

set_option maxHeartbeats 4000000 in
theorem law_EquationFault (v0 u0 : Value) (x0 y0 : List (List Int)) (w : World) (hr0 : Rows w v0 x0) (hr0' : Rows w u0 y0) :
    Calls Try.prog 9 #[.agg #[v0, u0]] w (RVal w (.bool true)) := by
  obtain ⟨a0, c0, rfl, hc0, hm0⟩ := hr0.shape
  obtain ⟨a0s, c0s, rfl, hc0s, hm0s⟩ := hr0'.shape
  have hx0 : Sol w (.slice a0 x0.length c0) (.slice a0s y0.length c0s) x0 y0 := ⟨hr0, hr0'⟩
  clear hr0 hr0'
  go_enter Try.func9, Try.ntmps9
  go_wp2_with fail
  obtain ⟨bx0, BW, hsz0⟩ := boxes1 w [.slice a0 x0.length c0, .slice a0s y0.length c0s] 24
  obtain ⟨W0, hW0⟩ : ∃ W, (w.alloc (.cells #[.slice a0 x0.length c0, .slice a0s y0.length c0s] 24)) = W := ⟨_, rfl⟩
  rw [hW0] at bx0 BW hsz0 ⊢
  have hs0 : w.heap.size + 1 ≤ W0.heap.size := by omega
  clear hW0 hsz0
  refine (c_szSolution _ _ _ _ _ _ (hx0.below BW) (by omega) (by omega)).mono ?_; rintro e w1 ⟨rfl, hb1⟩
  have hs1 := hb1.size
  replace BW := bb BW hb1
  replace bx0 := bx0.under hb1
  obtain ⟨cA0, cB0, -, -⟩ := two_cells bx0
  clear hb1
  by_cases hg0 : leftS x0 y0 (1048576) < 0
  case pos =>
    have HB := Lib.hid BW; clear BW
    go_wp2
    go_ret
    exact ⟨rfl, HB.out⟩
  have hf0 := leftS_fits (left := 1048576) (by omega) (by omega) hg0
  have Hf0 := Lib.hid hf0
  clear hf0
  have hf0 : (x0.length ≤ 1048576 ∧ total x0 ≤ 1048576) ∧ (y0.length ≤ 1048576 ∧ total y0 ≤ 1048576) ∧ 0 ≤ leftS x0 y0 (1048576) ∧ leftS x0 y0 (1048576) ≤ 1048576 := ⟨⟨Hf0.out.1.1, Hf0.out.1.2.2⟩, ⟨Hf0.out.2.1.1, Hf0.out.2.1.2.2⟩, Hf0.out.2.2⟩
  have hB0 : (efRes x0 y0).length ≤ 1152921504606846976 := by have := efRes_length x0 y0; omega
  obtain ⟨R0, hR0⟩ : ∃ z, z = efRes x0 y0 := ⟨_, rfl⟩
  obtain ⟨R1, hR1⟩ : ∃ z, z = efCode x0 y0 := ⟨_, rfl⟩
  rw [← hR0] at hB0
  have HR0 := Lib.hid hR0
  clear hR0
  have HR1 := Lib.hid hR1
  clear hR1
  have hd0 : decide (R0 = R0) = true := by simp
  have hk1 : (R1 != R1) = false := by simp
  have hda0 : decide (x0 = x0 ∧ y0 = y0) = true := by simp
  have hq0 : ((1 + (R0.length : Int)) != (1 + (R0.length : Int))) = false := by simp
  go_wp2_with fail
  refine (c_toSolution _ _ _ _ _ (hx0.below BW) hf0.1.1 Hf0.out.1.2.1 hf0.2.1.1 Hf0.out.2.1.2.1).mono ?_; rintro e w2 ⟨t11, t12, rfl, ot1, hb2⟩
  have hs2 := hb2.size
  replace BW := bb BW hb2
  replace bx0 := bx0.under hb2
  clear cA0 cB0
  obtain ⟨cA0, cB0, -, -⟩ := two_cells bx0
  clear hb2
  go_wp2_with fail
  refine (c_specEquationFault _ _ _ _ _ (ot1.sol)).mono ?_
  rw [← HR0.out, ← HR1.out]
  rintro e w3 ⟨s0, rfl, os0r, hb3⟩
  have hs3 := hb3.size
  replace ot1 := ot1.under hb3
  replace BW := bb BW hb3
  replace bx0 := bx0.under hb3
  clear cA0 cB0
  obtain ⟨cA0, cB0, -, -⟩ := two_cells bx0
  clear ot1
  have hS := os0r.ints
  clear os0r
  have BS : Below w3.heap.size w3 w3 := Below.refl _ _
  clear hb3
  go_wp2_with fail
  refine (c_toSolution _ _ _ _ _ (hx0.below BW) hf0.1.1 Hf0.out.1.2.1 hf0.2.1.1 Hf0.out.2.1.2.1).mono ?_; rintro e w4 ⟨z01, z02, rfl, oz0, hb4⟩
  have hs4 := hb4.size
  replace BW := bb BW hb4
  replace BS := bb BS hb4
  replace bx0 := bx0.under hb4
  clear cA0 cB0
  obtain ⟨cA0, cB0, -, -⟩ := two_cells bx0
  clear hb4
  obtain ⟨saz0, scz0, hvz0, _, _⟩ := oz0.sol.1.shape
  subst hvz0
  obtain ⟨sbz0, sdz0, hvz0, _, _⟩ := oz0.sol.2.shape
  subst hvz0
  obtain ⟨cA0z, cB0z, -, -⟩ := two_cells (bx0.alloc (.cells #[.slice saz0 x0.length scz0, .slice sbz0 y0.length sdz0] 28))
  go_wp2_with fail
  clear cA0z cB0z
  obtain ⟨bxz0, hb5, hz5⟩ := boxes1 w4 [.slice saz0 x0.length scz0, .slice sbz0 y0.length sdz0] 28
  obtain ⟨w5, hW5⟩ : ∃ W, w4.alloc (.cells #[.slice saz0 x0.length scz0, .slice sbz0 y0.length sdz0] 28) = W := ⟨_, rfl⟩
  rw [hW5] at bxz0 hb5 hz5 ⊢
  have hs5 : w4.heap.size + 1 ≤ w5.heap.size := by omega
  clear hW5 hz5
  replace oz0 := oz0.under hb5
  replace BW := bb BW hb5
  replace BS := bb BS hb5
  replace bx0 := bx0.under hb5
  clear cA0 cB0
  obtain ⟨cA0, cB0, -, -⟩ := two_cells bx0
  obtain ⟨cAz0, cBz0, -, -⟩ := two_cells bxz0
  clear hb5
  refine (c_EquationFault _ _ _ _ _ (oz0.sol)).mono ?_
  rw [← HR0.out, ← HR1.out]
  rintro e w6 ⟨g0, rfl, og0r, hb6⟩
  have hs6 := hb6.size
  replace oz0 := oz0.under hb6
  replace BW := bb BW hb6
  replace BS := bb BS hb6
  replace bx0 := bx0.under hb6
  clear cA0 cB0
  obtain ⟨cA0, cB0, -, -⟩ := two_cells bx0
  replace bxz0 := bxz0.under hb6
  clear cAz0 cBz0
  obtain ⟨cAz0, cBz0, -, -⟩ := two_cells bxz0
  have og0 := og0r.inn
  clear og0r
  clear hb6
  go_wp2_with fail
  refine (c_eqI _ _ _ _ _ (og0.ints) (hS.below BS)).mono ?_; rintro e w7 ⟨rfl, hb7⟩
  have hs7 := hb7.size
  replace oz0 := oz0.under hb7
  replace og0 := og0.under hb7
  replace BW := bb BW hb7
  replace BS := bb BS hb7
  replace bx0 := bx0.under hb7
  clear cA0 cB0
  obtain ⟨cA0, cB0, -, -⟩ := two_cells bx0
  replace bxz0 := bxz0.under hb7
  clear cAz0 cBz0
  obtain ⟨cAz0, cBz0, -, -⟩ := two_cells bxz0
  clear hb7
  go_wp2_with fail
  have BWd := BW.drew
  have oz0d := oz0.keep ((Keep.refl (fun _ => False) w7).drew) (fun _ _ _ h => h)
  have bx0d := bx0.drew
  have bxz0d := bxz0.drew
  go_region_held3 (fun w' => w'.cell? ⟨w.heap.size, 0, none⟩ = some (.slice a0 x0.length c0) ∧ w'.cell? ⟨w.heap.size, 1, none⟩ = some (.slice a0s y0.length c0s) ∧ w'.cell? ⟨w4.heap.size, 0, none⟩ = some (.slice saz0 x0.length scz0) ∧ w'.cell? ⟨w4.heap.size, 1, none⟩ = some (.slice sbz0 y0.length sdz0))
    (first | go_keep | exact ⟨(two_cells (bx0d.under hb8)).1, (two_cells (bx0d.under hb8)).2.1, (two_cells (bxz0d.under hb8)).1, (two_cells (bxz0d.under hb8)).2.1⟩ | exact ⟨(two_cells ((bx0d.under hb8).under hb9)).1, (two_cells ((bx0d.under hb8).under hb9)).2.1, (two_cells ((bxz0d.under hb8).under hb9)).1, (two_cells ((bxz0d.under hb8).under hb9)).2.1⟩)
    ((first | (go_at_call 17; refine (c_toSolution _ _ _ _ _ (hx0.below BWd) hf0.1.1 Hf0.out.1.2.1 hf0.2.1.1 Hf0.out.2.1.2.1).mono ?_; rintro e w8 ⟨t81, t82, rfl, ot8, hb8⟩) | (go_at_call 19; refine (c_eqS _ _ _ _ _ _ _ _ _ (oz0d.under hb8).sol ot8.sol).mono ?_; rintro e w9 ⟨rfl, hb9⟩)))
  have hb9z : Below w7.heap.size w7 w9 := (Below.refl _ _).drew.trans (bb hb8 hb9)
  have hs9 : w7.heap.size ≤ w9.heap.size := hb9z.size
  replace oz0 := oz0.under hb9z
  replace og0 := og0.under hb9z
  replace BW := bb BW hb9z
  replace BS := bb BS hb9z
  replace bx0 := bx0.under hb9z
  clear cA0 cB0
  obtain ⟨cA0, cB0, -, -⟩ := two_cells bx0
  replace bxz0 := bxz0.under hb9z
  clear cAz0 cBz0
  obtain ⟨cAz0, cBz0, -, -⟩ := two_cells bxz0
  clear BWd oz0d bx0d bxz0d ot8 hb8 hb9 hb9z
  go_wp2_with fail
  refine (c_markS _ _ _ _ _ _ _ _ oz0 (by omega) (by omega) (by omega)).mono ?_; rintro e w10 ⟨rfl, oz0m, hkw10⟩
  have hs10 := hkw10.size
  replace og0 := og0.keep hkw10 (fun b p q r => by omega)
  replace bx0 := bx0.of_block (hkw10.block _ (by omega) (by omega))
  clear cA0 cB0
  obtain ⟨cA0, cB0, -, -⟩ := two_cells bx0
  replace bxz0 := bxz0.of_block (hkw10.block _ (by omega) (by omega))
  clear cAz0 cBz0
  obtain ⟨cAz0, cBz0, -, -⟩ := two_cells bxz0
  replace BW := below_keep BW hkw10 (by omega)
  replace BS := below_keep BS hkw10 (by omega)
  clear oz0
  have oz0 := oz0m
  clear oz0m hkw10
  clear oz0
  go_wp2_with fail
  refine (c_eqI _ _ _ _ _ (og0.ints) (hS.below BS)).mono ?_; rintro e w11 ⟨rfl, hb11⟩
  have hs11 := hb11.size
  replace og0 := og0.under hb11
  replace BW := bb BW hb11
  replace BS := bb BS hb11
  replace bx0 := bx0.under hb11
  clear cA0 cB0
  obtain ⟨cA0, cB0, -, -⟩ := two_cells bx0
  replace bxz0 := bxz0.under hb11
  clear cAz0 cBz0
  obtain ⟨cAz0, cBz0, -, -⟩ := two_cells bxz0
  clear hb11
  go_wp2_with fail
  refine (c_markI _ _ _ _ _ _ og0 (by omega) (by omega)).mono ?_; rintro e w12 ⟨rfl, og0m, hkw12⟩
  have hs12 := hkw12.size
  replace bx0 := bx0.of_block (hkw12.block _ (by omega) (by omega))
  clear cA0 cB0
  obtain ⟨cA0, cB0, -, -⟩ := two_cells bx0
  replace bxz0 := bxz0.of_block (hkw12.block _ (by omega) (by omega))
  clear cAz0 cBz0
  obtain ⟨cAz0, cBz0, -, -⟩ := two_cells bxz0
  replace BW := below_keep BW hkw12 (by omega)
  replace BS := below_keep BS hkw12 (by omega)
  clear og0
  have og0 := og0m
  clear og0m hkw12
  go_wp2_with fail
  refine (c_heldInt64S _ _ _ _ (og0.ints) (by omega) (by omega)).mono ?_; rintro e w13 ⟨rfl, hb13⟩
  have hs13 := hb13.size
  replace og0 := og0.under hb13
  replace BW := bb BW hb13
  replace BS := bb BS hb13
  replace bx0 := bx0.under hb13
  clear cA0 cB0
  obtain ⟨cA0, cB0, -, -⟩ := two_cells bx0
  replace bxz0 := bxz0.under hb13
  clear cAz0 cBz0
  obtain ⟨cAz0, cBz0, -, -⟩ := two_cells bxz0
  clear hb13
  go_wp2_with fail
  refine (c_toSolution _ _ _ _ _ (hx0.below BW) hf0.1.1 Hf0.out.1.2.1 hf0.2.1.1 Hf0.out.2.1.2.1).mono ?_; rintro e w14 ⟨t21, t22, rfl, ot2, hb14⟩
  have hs14 := hb14.size
  replace og0 := og0.under hb14
  replace BW := bb BW hb14
  replace BS := bb BS hb14
  replace bx0 := bx0.under hb14
  clear cA0 cB0
  obtain ⟨cA0, cB0, -, -⟩ := two_cells bx0
  replace bxz0 := bxz0.under hb14
  clear cAz0 cBz0
  obtain ⟨cAz0, cBz0, -, -⟩ := two_cells bxz0
  clear hb14
  go_wp2_with fail
  refine (c_EquationFault _ _ _ _ _ (ot2.sol)).mono ?_
  rw [← HR0.out, ← HR1.out]
  rintro e w15 ⟨h0, rfl, oh0r, hb15⟩
  have hs15 := hb15.size
  replace og0 := og0.under hb15
  replace ot2 := ot2.under hb15
  replace BW := bb BW hb15
  replace BS := bb BS hb15
  replace bx0 := bx0.under hb15
  clear cA0 cB0
  obtain ⟨cA0, cB0, -, -⟩ := two_cells bx0
  replace bxz0 := bxz0.under hb15
  clear cAz0 cBz0
  obtain ⟨cAz0, cBz0, -, -⟩ := two_cells bxz0
  have oh0 := oh0r.inn
  clear oh0r
  clear ot2
  clear hb15
  go_wp2_with fail
  refine (c_eqI _ _ _ _ _ (oh0.ints) (hS.below BS)).mono ?_; rintro e w16 ⟨rfl, hb16⟩
  have hs16 := hb16.size
  replace og0 := og0.under hb16
  replace oh0 := oh0.under hb16
  replace BW := bb BW hb16
  replace BS := bb BS hb16
  replace bx0 := bx0.under hb16
  clear cA0 cB0
  obtain ⟨cA0, cB0, -, -⟩ := two_cells bx0
  replace bxz0 := bxz0.under hb16
  clear cAz0 cBz0
  obtain ⟨cAz0, cBz0, -, -⟩ := two_cells bxz0
  clear hb16
  go_wp2_with fail
  refine (c_heldInt64S _ _ _ _ (og0.ints) (by omega) (by omega)).mono ?_; rintro e w17 ⟨rfl, hb17⟩
  have hs17 := hb17.size
  replace og0 := og0.under hb17
  replace oh0 := oh0.under hb17
  replace BW := bb BW hb17
  replace BS := bb BS hb17
  replace bx0 := bx0.under hb17
  clear cA0 cB0
  obtain ⟨cA0, cB0, -, -⟩ := two_cells bx0
  replace bxz0 := bxz0.under hb17
  clear cAz0 cBz0
  obtain ⟨cAz0, cBz0, -, -⟩ := two_cells bxz0
  clear hb17
  have HB := Lib.hid BW
  clear BW BS hS og0 oh0 hx0 bx0 bxz0
  go_wp2
  go_ret
  exact ⟨rfl, HB.out⟩
end Go.Proofs.Ytdhbleiioagmlaa
