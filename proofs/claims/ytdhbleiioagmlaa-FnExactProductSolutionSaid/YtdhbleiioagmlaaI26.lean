/-
  The product of two pair maps: the reference's exported function; the size of the result.
-/
import Derived.Test.YtdhbleiioagmlaaI25
namespace Go.Proofs.Ytdhbleiioagmlaa
open Go.RowKit

set_option maxRecDepth 100000 in
set_option maxHeartbeats 4000000 in
theorem c_specProductSolution (v0 u0 : Value) (A B : List (List Int)) (v1 u1 : Value) (C D : List (List Int)) (w : World) (hA : Sol w v0 u0 A B) (hC : Sol w v1 u1 C D)  :
    Calls Try.prog 43 #[.agg #[v0, u0], .agg #[v1, u1]] w (RSolRO w (prRA A B C D) (prRB A B C D) (prCode A B C D)) := by
  by_cases hp0 : isPM A B = true
  case neg =>
    have hq0 : isPM A B = false := by simpa using hp0
    have HQ := Lib.hid hq0; clear hp0
    obtain ⟨a0, c0, rfl, _, _⟩ := hA.1.shape
    obtain ⟨a0s, c0s, rfl, _, _⟩ := hA.2.shape
    obtain ⟨a1, c1, rfl, _, _⟩ := hC.1.shape
    obtain ⟨a1s, c1s, rfl, _, _⟩ := hC.2.shape
    go_enter Try.func43, Try.ntmps43
    go_wp2_with fail
    obtain ⟨f0, f1, f2, hW0, hsz⟩ := boxes3 w [.slice a0 A.length c0, .slice a0s B.length c0s] [.slice a1 C.length c1, .slice a1s D.length c1s] [.slice none 0 0, .slice none 0 0] 28 28 28
    obtain ⟨W0, hW⟩ : ∃ W, (((w.alloc (.cells #[.slice a0 A.length c0, .slice a0s B.length c0s] 28)).alloc (.cells #[.slice a1 C.length c1, .slice a1s D.length c1s] 28)).alloc (.cells #[.slice none 0 0, .slice none 0 0] 28)) = W := ⟨_, rfl⟩
    rw [hW] at f0 f1 f2 hW0 hsz ⊢
    clear hW hsz
    refine (c_l02Map _ _ _ _ _ (hA.below hW0)).mono ?_; rintro e g0 ⟨rfl, hbg0⟩
    have hB0 := bb hW0 hbg0
    replace f0 := f0.under hbg0
    obtain ⟨cA0, cB0, -, -⟩ := two_cells f0
    replace f1 := f1.under hbg0
    obtain ⟨cA1, cB1, -, -⟩ := two_cells f1
    replace f2 := f2.under hbg0
    obtain ⟨cA2, cB2, fA2, fB2⟩ := two_cells f2
    clear hbg0
    have HB := Lib.hid hB0
    clear hB0 hW0
    go_wp2
    refine bodyPost_ret (v := .tuple #[.agg #[.slice none 0 0, .slice none 0 0], .int .i64 1]) (by simp [results, Try.results43, go_sem, cA2, cB2]) rfl ⟨.slice none 0 0, .slice none 0 0, by simp [prRA, prRB, prCode, prOk, HQ.out], ?_, ?_⟩
    · exact ⟨by simpa [prRA, prRB, prCode, prOk, HQ.out] using OwnRows.nil _ _, by simpa [prRA, prRB, prCode, prOk, HQ.out] using OwnRows.nil _ _⟩
    · first | exact HB.out | exact (HB.out.setCell (p := ⟨w.heap.size + 1 + 1, 0, none⟩) (by show _ ≤ w.heap.size + 1 + 1; omega) _).setCell (p := ⟨w.heap.size + 1 + 1, 1, none⟩) (by show _ ≤ w.heap.size + 1 + 1; omega) _
  have HP0 := Lib.hid hp0
  by_cases hp1 : isPM C D = true
  case neg =>
    have hq1 : isPM C D = false := by simpa using hp1
    have HQ := Lib.hid hq1; clear hp1
    obtain ⟨a0, c0, rfl, _, _⟩ := hA.1.shape
    obtain ⟨a0s, c0s, rfl, _, _⟩ := hA.2.shape
    obtain ⟨a1, c1, rfl, _, _⟩ := hC.1.shape
    obtain ⟨a1s, c1s, rfl, _, _⟩ := hC.2.shape
    go_enter Try.func43, Try.ntmps43
    go_wp2_with fail
    obtain ⟨f0, f1, f2, hW0, hsz⟩ := boxes3 w [.slice a0 A.length c0, .slice a0s B.length c0s] [.slice a1 C.length c1, .slice a1s D.length c1s] [.slice none 0 0, .slice none 0 0] 28 28 28
    obtain ⟨W0, hW⟩ : ∃ W, (((w.alloc (.cells #[.slice a0 A.length c0, .slice a0s B.length c0s] 28)).alloc (.cells #[.slice a1 C.length c1, .slice a1s D.length c1s] 28)).alloc (.cells #[.slice none 0 0, .slice none 0 0] 28)) = W := ⟨_, rfl⟩
    rw [hW] at f0 f1 f2 hW0 hsz ⊢
    clear hW hsz
    refine (c_l02Map _ _ _ _ _ (hA.below hW0)).mono ?_; rintro e g0 ⟨rfl, hbg0⟩
    have hB0 := bb hW0 hbg0
    replace f0 := f0.under hbg0
    obtain ⟨cA0, cB0, -, -⟩ := two_cells f0
    replace f1 := f1.under hbg0
    obtain ⟨cA1, cB1, -, -⟩ := two_cells f1
    replace f2 := f2.under hbg0
    obtain ⟨cA2, cB2, fA2, fB2⟩ := two_cells f2
    clear hbg0
    go_wp2_with fail
    refine (c_l02Map _ _ _ _ _ (hC.below hB0)).mono ?_; rintro e g1 ⟨rfl, hbg1⟩
    have hB1 := bb hB0 hbg1
    replace f0 := f0.under hbg1
    clear cA0 cB0
    obtain ⟨cA0, cB0, -, -⟩ := two_cells f0
    replace f1 := f1.under hbg1
    clear cA1 cB1
    obtain ⟨cA1, cB1, -, -⟩ := two_cells f1
    replace f2 := f2.under hbg1
    clear cA2 cB2 fA2 fB2
    obtain ⟨cA2, cB2, fA2, fB2⟩ := two_cells f2
    clear hbg1
    have HB := Lib.hid hB1
    clear hB0 hB1 hW0
    go_wp2
    refine bodyPost_ret (v := .tuple #[.agg #[.slice none 0 0, .slice none 0 0], .int .i64 1]) (by simp [results, Try.results43, go_sem, cA2, cB2]) rfl ⟨.slice none 0 0, .slice none 0 0, by simp [prRA, prRB, prCode, prOk, HQ.out, HP0.out], ?_, ?_⟩
    · exact ⟨by simpa [prRA, prRB, prCode, prOk, HQ.out, HP0.out] using OwnRows.nil _ _, by simpa [prRA, prRB, prCode, prOk, HQ.out, HP0.out] using OwnRows.nil _ _⟩
    · first | exact HB.out | exact (HB.out.setCell (p := ⟨w.heap.size + 1 + 1, 0, none⟩) (by show _ ≤ w.heap.size + 1 + 1; omega) _).setCell (p := ⟨w.heap.size + 1 + 1, 1, none⟩) (by show _ ≤ w.heap.size + 1 + 1; omega) _
  have HP1 := Lib.hid hp1
  obtain ⟨a0, c0, rfl, _, _⟩ := hA.1.shape
  obtain ⟨a0s, c0s, rfl, _, _⟩ := hA.2.shape
  obtain ⟨a1, c1, rfl, _, _⟩ := hC.1.shape
  obtain ⟨a1s, c1s, rfl, _, _⟩ := hC.2.shape
  go_enter Try.func43, Try.ntmps43
  go_wp2_with fail
  obtain ⟨f0, f1, f2, hW0, hsz⟩ := boxes3 w [.slice a0 A.length c0, .slice a0s B.length c0s] [.slice a1 C.length c1, .slice a1s D.length c1s] [.slice none 0 0, .slice none 0 0] 28 28 28
  obtain ⟨W0, hW⟩ : ∃ W, (((w.alloc (.cells #[.slice a0 A.length c0, .slice a0s B.length c0s] 28)).alloc (.cells #[.slice a1 C.length c1, .slice a1s D.length c1s] 28)).alloc (.cells #[.slice none 0 0, .slice none 0 0] 28)) = W := ⟨_, rfl⟩
  rw [hW] at f0 f1 f2 hW0 hsz ⊢
  clear hW hsz
  refine (c_l02Map _ _ _ _ _ (hA.below hW0)).mono ?_; rintro e g0 ⟨rfl, hbg0⟩
  have hB0 := bb hW0 hbg0
  replace f0 := f0.under hbg0
  obtain ⟨cA0, cB0, -, -⟩ := two_cells f0
  replace f1 := f1.under hbg0
  obtain ⟨cA1, cB1, -, -⟩ := two_cells f1
  replace f2 := f2.under hbg0
  obtain ⟨cA2, cB2, fA2, fB2⟩ := two_cells f2
  clear hbg0
  go_wp2_with fail
  refine (c_l02Map _ _ _ _ _ (hC.below hB0)).mono ?_; rintro e g1 ⟨rfl, hbg1⟩
  have hB1 := bb hB0 hbg1
  replace f0 := f0.under hbg1
  clear cA0 cB0
  obtain ⟨cA0, cB0, -, -⟩ := two_cells f0
  replace f1 := f1.under hbg1
  clear cA1 cB1
  obtain ⟨cA1, cB1, -, -⟩ := two_cells f1
  replace f2 := f2.under hbg1
  clear cA2 cB2 fA2 fB2
  obtain ⟨cA2, cB2, fA2, fB2⟩ := two_cells f2
  clear hbg1
  have HOK := Lib.hid (prOk_of HP0.out HP1.out)
  have hl12 := isTab_len (isPM_parts HP0.out).1; have hl34 := isTab_len (isPM_parts HP1.out).1
  have hnn : A.length * C.length ≤ 144 := Nat.mul_le_mul hl12.2 hl34.2
  have hnnI : (A.length : Int) * C.length ≤ 144 := by exact_mod_cast hnn
  have hnnJ : (0 : Int) ≤ (A.length : Int) * C.length := by exact_mod_cast Nat.zero_le _
  by_cases hsm : A.length * C.length ≤ 12
  case neg =>
    have hgt : ¬ ((A.length : Int) * C.length ≤ 12) := by intro h; exact hsm (by exact_mod_cast h)
    have hS : prSm A C = false := by unfold prSm; simpa using hsm
    have HS := Lib.hid hS; have HB := Lib.hid hB1
    clear hsm hS hB0 hB1 hW0 f0 f1 f2 hA hC
    go_wp2
    refine bodyPost_ret (v := .tuple #[.agg #[.slice none 0 0, .slice none 0 0], .int .i64 3]) (by simp [results, Try.results43, go_sem, cA2, cB2]) rfl ⟨.slice none 0 0, .slice none 0 0, by simp [prCode, HOK.out, HS.out], ?_, ?_⟩
    · exact ⟨by simpa [prRA, HS.out] using OwnRows.nil _ _, by simpa [prRB, HS.out] using OwnRows.nil _ _⟩
    · first | exact HB.out | exact (HB.out.setCell (p := ⟨w.heap.size + 1 + 1, 0, none⟩) (by show _ ≤ w.heap.size + 1 + 1; omega) _).setCell (p := ⟨w.heap.size + 1 + 1, 1, none⟩) (by show _ ≤ w.heap.size + 1 + 1; omega) _
  have hlt : (A.length : Int) * C.length ≤ 12 := by exact_mod_cast hsm
  have hS : prSm A C = true := by unfold prSm; simpa using hsm
  have HS := Lib.hid hS; clear hS
  go_wp2_with fail
  refine (c_l02Product _ _ A B _ _ C D _ (hA.below hB1) (hC.below hB1) HP0.out HP1.out hsm).mono ?_; rintro e wz ⟨s1, s2, rfl, hs, hbz⟩
  obtain ⟨sa1, sl1, sc1, rfl⟩ := hs.1.any
  obtain ⟨sa2, sl2, sc2, rfl⟩ := hs.2.any
  clear cA2 cB2 fA2 fB2
  obtain ⟨z0, z1, z2, z3⟩ := two_cells (f2.under hbz)
  have HLo := Lib.hid f2.lt; have HSo := Lib.hid hs; have HBz := Lib.hid (bb hB1 hbz)
  clear hs hbz hB0 hB1 hW0 f0 f1 f2 hA hC
  go_wp2
  obtain ⟨hA, hB⟩ := storedO (q := w.heap.size + 1 + 1) HBz.out HSo.out (by omega) HLo.out
  refine bodyPost_ret (v := .tuple #[.agg #[.slice sa1 sl1 sc1, .slice sa2 sl2 sc2], .int .i64 0]) (by simp [results, Try.results43, go_sem, z0, z1]) rfl ⟨_, _, by simp [prCode, HOK.out, HS.out]; exact ⟨rfl, rfl⟩, by simpa [prRA, prRB, HOK.out, HS.out] using hA, hB⟩

theorem pr_total (A B C D : List (List Int)) : total (prRA A B C D) ≤ 144 ∧ total (prRB A B C D) ≤ 144 := by
  have hz : ∀ (n : Nat) (g : Int → Int → Int), n ≤ 12 → total (tabOf n g) ≤ 144 := by
    intro n g h
    have h1 := total_le _ (tab_rows (g := g) h)
    rw [tabOf_length] at h1
    omega
  unfold prRA prRB
  split
  · rename_i h
    have hl : A.length * C.length ≤ 12 := by simp [prOk, prSm] at h; exact h.2
    have hB : B.length * D.length = A.length * C.length := by
      simp only [prOk, Bool.and_eq_true] at h
      rw [(isPM_parts h.1.1).2.2, (isPM_parts h.1.2).2.2]
    exact ⟨hz _ _ hl, hz _ _ (by rw [hB]; exact hl)⟩
  · simp [total]
end Go.Proofs.Ytdhbleiioagmlaa
