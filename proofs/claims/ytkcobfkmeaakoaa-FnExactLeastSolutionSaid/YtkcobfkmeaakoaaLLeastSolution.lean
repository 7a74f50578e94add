/-
  The law FnExactLeastSolution answers true, and leaves what was there as it was.
-/
import Derived.Test.YtkcobfkmeaakoaaI32
import Derived.Test.YtkcobfkmeaakoaaT2
import Derived.Test.YtkcobfkmeaakoaaS5
namespace Go.Proofs.Ytkcobfkmeaakoaa
open Go Go.RowKit Go.Shelf

def lnOk (A B : List (List Int)) : Bool := isPM A B && decide (A.length ≤ 7)
def lnA (A B : List (List Int)) : List (List Int) := if lnOk A B then lsSA A B else []
def lnB (A B : List (List Int)) : List (List Int) := if lnOk A B then lsSB A B else []
def lnCode (A B : List (List Int)) : Int := if isPM A B then (if A.length ≤ 7 then 0 else 3) else 1

set_option maxRecDepth 100000 in
set_option maxHeartbeats 2000000 in
theorem c_LeastSolution (v0 u0 : Value) (A B : List (List Int)) (w : World) (hA : Sol w v0 u0 A B)  :
    Calls Try.prog 56 #[.agg #[v0, u0]] w (RSolC w (lnA A B) (lnB A B) (lnCode A B)) := by
  by_cases hp0 : isPM A B = true
  case neg =>
    have hq0 : isPM A B = false := by simpa using hp0
    have HQ := Lib.hid hq0; clear hp0
    obtain ⟨a0, c0, rfl, _, _⟩ := hA.1.shape
    obtain ⟨a0s, c0s, rfl, _, _⟩ := hA.2.shape
    go_enter Try.func56, Try.ntmps56
    go_wp2_with fail
    obtain ⟨f0, f1, hW0, hsz⟩ := boxes2 w [.slice a0 A.length c0, .slice a0s B.length c0s] [.slice none 0 0, .slice none 0 0] 27 27
    obtain ⟨W0, hW⟩ : ∃ W, ((w.alloc (.cells #[.slice a0 A.length c0, .slice a0s B.length c0s] 27)).alloc (.cells #[.slice none 0 0, .slice none 0 0] 27)) = W := ⟨_, rfl⟩
    rw [hW] at f0 f1 hW0 hsz ⊢
    clear hW hsz
    refine (c_IsPairMap _ _ _ _ _ (hA.below hW0)).mono ?_; rintro e g0 ⟨rfl, hbg0⟩
    have hB0 := bb hW0 hbg0
    replace f0 := f0.under hbg0
    obtain ⟨cA0, cB0, -, -⟩ := two_cells f0
    replace f1 := f1.under hbg0
    obtain ⟨cA1, cB1, fA1, fB1⟩ := two_cells f1
    clear hbg0
    have HB := Lib.hid hB0
    clear hB0 hW0
    go_wp2
    refine bodyPost_ret (v := .tuple #[.agg #[.slice none 0 0, .slice none 0 0], .int .i64 1]) (by simp [results, Try.results56, go_sem, cA1, cB1]) rfl ⟨.slice none 0 0, .slice none 0 0, by simp [lnA, lnB, lnCode, lnOk, HQ.out], ?_, ?_⟩
    · have hz : w.heap.size ≤ g0.heap.size := HB.out.size
      rw [show lnA A B = [] from by simp [lnA, lnB, lnCode, lnOk, HQ.out], show lnB A B = [] from by simp [lnA, lnB, lnCode, lnOk, HQ.out]]
      exact OwnSol.nil0 (by first | exact hz | (simp [World.setCell]; exact hz))
    · first | exact HB.out | exact (HB.out.setCell (p := ⟨w.heap.size + 1, 0, none⟩) (by show _ ≤ w.heap.size + 1; omega) _).setCell (p := ⟨w.heap.size + 1, 1, none⟩) (by show _ ≤ w.heap.size + 1; omega) _
  have HP0 := Lib.hid hp0
  obtain ⟨a0, c0, rfl, _, _⟩ := hA.1.shape
  obtain ⟨a0s, c0s, rfl, _, _⟩ := hA.2.shape
  go_enter Try.func56, Try.ntmps56
  go_wp2_with fail
  obtain ⟨f0, f1, hW0, hsz⟩ := boxes2 w [.slice a0 A.length c0, .slice a0s B.length c0s] [.slice none 0 0, .slice none 0 0] 27 27
  obtain ⟨W0, hW⟩ : ∃ W, ((w.alloc (.cells #[.slice a0 A.length c0, .slice a0s B.length c0s] 27)).alloc (.cells #[.slice none 0 0, .slice none 0 0] 27)) = W := ⟨_, rfl⟩
  rw [hW] at f0 f1 hW0 hsz ⊢
  clear hW hsz
  refine (c_IsPairMap _ _ _ _ _ (hA.below hW0)).mono ?_; rintro e g0 ⟨rfl, hbg0⟩
  have hB0 := bb hW0 hbg0
  replace f0 := f0.under hbg0
  obtain ⟨cA0, cB0, -, -⟩ := two_cells f0
  replace f1 := f1.under hbg0
  obtain ⟨cA1, cB1, fA1, fB1⟩ := two_cells f1
  clear hbg0
  by_cases h7 : A.length ≤ 7
  case neg =>
    have H7 := Lib.hid h7
    have h7' : (7 : Int) < A.length := by omega
    have HB := Lib.hid hB0
    clear h7 hB0
    go_wp2
    refine bodyPost_ret (v := .tuple #[.agg #[.slice none 0 0, .slice none 0 0], .int .i64 3]) (by simp [results, Try.results56, go_sem, cA1, cB1]) rfl ⟨.slice none 0 0, .slice none 0 0, by simp [lnCode, HP0.out, H7.out], ?_, ?_⟩
    · have hz : w.heap.size ≤ g0.heap.size := HB.out.size
      rw [show lnA A B = [] from by simp [lnA, lnOk, H7.out], show lnB A B = [] from by simp [lnB, lnOk, H7.out]]
      exact OwnSol.nil0 (by first | exact hz | (simp [World.setCell]; exact hz))
    · first | exact HB.out | exact (HB.out.setCell (p := ⟨w.heap.size + 1, 0, none⟩) (by show _ ≤ w.heap.size + 1; omega) _).setCell (p := ⟨w.heap.size + 1, 1, none⟩) (by show _ ≤ w.heap.size + 1; omega) _
  have H7 := Lib.hid h7
  have h7' : ¬ ((7 : Int) < A.length) := by omega
  have HSo := Lib.hid (hA.below hB0); have HBW := Lib.hid hB0; have HF1 := Lib.hid f1
  clear hA hB0 hW0 h7
  go_wp2_with fail
  refine (c_leastSolution _ _ A B _ HSo.out HP0.out H7.out).mono ?_; rintro e wz ⟨s1, s2, rfl, hs, hbz⟩
  obtain ⟨sa1, sl1, sc1, rfl⟩ := hs.sol.1.any
  obtain ⟨sa2, sl2, sc2, rfl⟩ := hs.sol.2.any
  clear cA0 cB0 cA1 cB1 fA1 fB1 f0 f1
  obtain ⟨z0, z1, z2, z3⟩ := two_cells (HF1.out.under hbz)
  have HLo := Lib.hid HF1.out.lt; have HS := Lib.hid hs; have HBz := Lib.hid (bb HBW.out hbz); clear hs hbz
  go_wp2
  obtain ⟨hA, hB⟩ := stored (q := w.heap.size + 1) HBz.out HS.out (by omega) HLo.out
  refine bodyPost_ret (v := .tuple #[.agg #[.slice sa1 sl1 sc1, .slice sa2 sl2 sc2], .int .i64 0]) (by simp [results, Try.results56, go_sem, z0, z1]) rfl ⟨_, _, by simp [lnCode, HP0.out, H7.out]; exact ⟨rfl, rfl⟩, by simpa [lnA, lnB, lnOk, HP0.out, H7.out] using hA, hB⟩

set_option maxRecDepth 100000 in
set_option maxHeartbeats 2000000 in
theorem c_specLeastSolution (v0 u0 : Value) (A B : List (List Int)) (w : World) (hA : Sol w v0 u0 A B)  :
    Calls Try.prog 55 #[.agg #[v0, u0]] w (RSolC w (lnA A B) (lnB A B) (lnCode A B)) := by
  by_cases hp0 : isPM A B = true
  case neg =>
    have hq0 : isPM A B = false := by simpa using hp0
    have HQ := Lib.hid hq0; clear hp0
    obtain ⟨a0, c0, rfl, _, _⟩ := hA.1.shape
    obtain ⟨a0s, c0s, rfl, _, _⟩ := hA.2.shape
    go_enter Try.func55, Try.ntmps55
    go_wp2_with fail
    obtain ⟨f0, f1, hW0, hsz⟩ := boxes2 w [.slice a0 A.length c0, .slice a0s B.length c0s] [.slice none 0 0, .slice none 0 0] 27 27
    obtain ⟨W0, hW⟩ : ∃ W, ((w.alloc (.cells #[.slice a0 A.length c0, .slice a0s B.length c0s] 27)).alloc (.cells #[.slice none 0 0, .slice none 0 0] 27)) = W := ⟨_, rfl⟩
    rw [hW] at f0 f1 hW0 hsz ⊢
    clear hW hsz
    refine (c_l02Map _ _ _ _ _ (hA.below hW0)).mono ?_; rintro e g0 ⟨rfl, hbg0⟩
    have hB0 := bb hW0 hbg0
    replace f0 := f0.under hbg0
    obtain ⟨cA0, cB0, -, -⟩ := two_cells f0
    replace f1 := f1.under hbg0
    obtain ⟨cA1, cB1, fA1, fB1⟩ := two_cells f1
    clear hbg0
    have HB := Lib.hid hB0
    clear hB0 hW0
    go_wp2
    refine bodyPost_ret (v := .tuple #[.agg #[.slice none 0 0, .slice none 0 0], .int .i64 1]) (by simp [results, Try.results55, go_sem, cA1, cB1]) rfl ⟨.slice none 0 0, .slice none 0 0, by simp [lnA, lnB, lnCode, lnOk, HQ.out], ?_, ?_⟩
    · have hz : w.heap.size ≤ g0.heap.size := HB.out.size
      rw [show lnA A B = [] from by simp [lnA, lnB, lnCode, lnOk, HQ.out], show lnB A B = [] from by simp [lnA, lnB, lnCode, lnOk, HQ.out]]
      exact OwnSol.nil0 (by first | exact hz | (simp [World.setCell]; exact hz))
    · first | exact HB.out | exact (HB.out.setCell (p := ⟨w.heap.size + 1, 0, none⟩) (by show _ ≤ w.heap.size + 1; omega) _).setCell (p := ⟨w.heap.size + 1, 1, none⟩) (by show _ ≤ w.heap.size + 1; omega) _
  have HP0 := Lib.hid hp0
  obtain ⟨a0, c0, rfl, _, _⟩ := hA.1.shape
  obtain ⟨a0s, c0s, rfl, _, _⟩ := hA.2.shape
  go_enter Try.func55, Try.ntmps55
  go_wp2_with fail
  obtain ⟨f0, f1, hW0, hsz⟩ := boxes2 w [.slice a0 A.length c0, .slice a0s B.length c0s] [.slice none 0 0, .slice none 0 0] 27 27
  obtain ⟨W0, hW⟩ : ∃ W, ((w.alloc (.cells #[.slice a0 A.length c0, .slice a0s B.length c0s] 27)).alloc (.cells #[.slice none 0 0, .slice none 0 0] 27)) = W := ⟨_, rfl⟩
  rw [hW] at f0 f1 hW0 hsz ⊢
  clear hW hsz
  refine (c_l02Map _ _ _ _ _ (hA.below hW0)).mono ?_; rintro e g0 ⟨rfl, hbg0⟩
  have hB0 := bb hW0 hbg0
  replace f0 := f0.under hbg0
  obtain ⟨cA0, cB0, -, -⟩ := two_cells f0
  replace f1 := f1.under hbg0
  obtain ⟨cA1, cB1, fA1, fB1⟩ := two_cells f1
  clear hbg0
  by_cases h7 : A.length ≤ 7
  case neg =>
    have H7 := Lib.hid h7
    have h7' : (7 : Int) < A.length := by omega
    have HB := Lib.hid hB0
    clear h7 hB0
    go_wp2
    refine bodyPost_ret (v := .tuple #[.agg #[.slice none 0 0, .slice none 0 0], .int .i64 3]) (by simp [results, Try.results55, go_sem, cA1, cB1]) rfl ⟨.slice none 0 0, .slice none 0 0, by simp [lnCode, HP0.out, H7.out], ?_, ?_⟩
    · have hz : w.heap.size ≤ g0.heap.size := HB.out.size
      rw [show lnA A B = [] from by simp [lnA, lnOk, H7.out], show lnB A B = [] from by simp [lnB, lnOk, H7.out]]
      exact OwnSol.nil0 (by first | exact hz | (simp [World.setCell]; exact hz))
    · first | exact HB.out | exact (HB.out.setCell (p := ⟨w.heap.size + 1, 0, none⟩) (by show _ ≤ w.heap.size + 1; omega) _).setCell (p := ⟨w.heap.size + 1, 1, none⟩) (by show _ ≤ w.heap.size + 1; omega) _
  have H7 := Lib.hid h7
  have h7' : ¬ ((7 : Int) < A.length) := by omega
  have HSo := Lib.hid (hA.below hB0); have HBW := Lib.hid hB0; have HF1 := Lib.hid f1
  clear hA hB0 hW0 h7
  go_wp2_with fail
  refine (c_l02Least _ _ A B _ HSo.out HP0.out H7.out).mono ?_; rintro e wz ⟨s1, s2, rfl, hs, hbz⟩
  obtain ⟨sa1, sl1, sc1, rfl⟩ := hs.sol.1.any
  obtain ⟨sa2, sl2, sc2, rfl⟩ := hs.sol.2.any
  clear cA0 cB0 cA1 cB1 fA1 fB1 f0 f1
  obtain ⟨z0, z1, z2, z3⟩ := two_cells (HF1.out.under hbz)
  have HLo := Lib.hid HF1.out.lt; have HS := Lib.hid hs; have HBz := Lib.hid (bb HBW.out hbz); clear hs hbz
  go_wp2
  obtain ⟨hA, hB⟩ := stored (q := w.heap.size + 1) HBz.out HS.out (by omega) HLo.out
  refine bodyPost_ret (v := .tuple #[.agg #[.slice sa1 sl1 sc1, .slice sa2 sl2 sc2], .int .i64 0]) (by simp [results, Try.results55, go_sem, z0, z1]) rfl ⟨_, _, by simp [lnCode, HP0.out, H7.out]; exact ⟨rfl, rfl⟩, by simpa [lnA, lnB, lnOk, HP0.out, H7.out] using hA, hB⟩

theorem bestS_mem (A B : List (List Int)) : ∀ (X : Tabs) (ps : List (List Int)), bestS A B X ps = X ∨ ∃ p ∈ ps, bestS A B X ps = (renL A p, renL B p)
  | X, [] => .inl rfl
  | X, p :: ps => by
    unfold bestS; rw [List.foldl_cons]
    rcases bestS_mem A B (stepS A B X p) ps with h | ⟨q, hq, h⟩
    · unfold bestS at h
      rw [h]
      unfold stepS
      split
      · exact .inr ⟨p, by simp, rfl⟩
      · exact .inl rfl
    · exact .inr ⟨q, by simp [hq], h⟩
theorem ln_total (A B : List (List Int)) : total (lnA A B) ≤ 144 ∧ total (lnB A B) ≤ 144 := by
  unfold lnA lnB
  split
  · rename_i h
    simp only [lnOk, Bool.and_eq_true, decide_eq_true_eq] at h
    obtain ⟨h1, h2, h3⟩ := isPM_parts h.1
    have htab : ∀ X : List (List Int), X.length ≤ 7 → (∀ r ∈ X, r.length ≤ 12) → total X ≤ 144 := by
      intro X h1 h2
      have := total_le X h2
      omega
    have hrow : ∀ {t : List (List Int)}, isTab t = true → t.length ≤ 7 → ∀ r ∈ t, r.length ≤ 12 := by
      intro t ht h7 r hr
      obtain ⟨j, hj, rfl⟩ := List.getElem_of_mem hr
      have := isTab_row ht (x := j) (by omega) (by omega)
      rw [row_nat _ _ hj] at this; omega
    have hb7 : B.length ≤ 7 := by omega
    unfold lsSA lsSB
    rcases bestS_mem A B (A, B) (allPerms A.length) with e | ⟨p, hp, e⟩
    · rw [e]
      exact ⟨htab _ h.2 (hrow h1 h.2), htab _ hb7 (hrow h2 hb7)⟩
    · rw [e]
      have h7 := h.2
      have r1 : ∀ r ∈ renL A p, r.length ≤ 12 := tab_rows (n := A.length) (by omega)
      have r2 : ∀ r ∈ renL B p, r.length ≤ 12 := tab_rows (n := B.length) (by omega)
      exact ⟨htab (renL A p) (by simp; omega) r1, htab (renL B p) (by simp; omega) r2⟩
  · simp [total]
set_option maxHeartbeats 4000000 in
theorem law_LeastSolution (v0 u0 : Value) (x0 y0 : List (List Int)) (w : World) (hr0 : Rows w v0 x0) (hr0' : Rows w u0 y0) :
    Calls Try.prog 8 #[.agg #[v0, u0]] w (RVal w (.bool true)) := by
  obtain ⟨a0, c0, rfl, hc0, hm0⟩ := hr0.shape
  obtain ⟨a0s, c0s, rfl, hc0s, hm0s⟩ := hr0'.shape
  have hx0 : Sol w (.slice a0 x0.length c0) (.slice a0s y0.length c0s) x0 y0 := ⟨hr0, hr0'⟩
  clear hr0 hr0'
  go_enter Try.func8, Try.ntmps8
  go_wp2_with fail
  obtain ⟨bx0, BW, hsz0⟩ := boxes1 w [.slice a0 x0.length c0, .slice a0s y0.length c0s] 24
  obtain ⟨W0, hW0⟩ : ∃ W, (w.alloc (.cells #[.slice a0 x0.length c0, .slice a0s y0.length c0s] 24)) = W := ⟨_, rfl⟩
  rw [hW0] at bx0 BW hsz0 ⊢
  have hs0 : w.heap.size + 1 ≤ W0.heap.size := by omega
  clear hW0 hsz0
  refine (c_szSolution _ _ _ _ _ _ (hx0.below BW) (by omega) (by omega)).mono ?_; rintro e w1 ⟨rfl, hb1⟩
  have hs1 := hb1.size
  replace BW := bb BW hb1
  replace bx0 := bx0.under hb1
  obtain ⟨cA0, cB0, -, -⟩ := two_cells bx0
  clear hb1
  by_cases hg0 : leftS x0 y0 (1048576) < 0
  case pos =>
    have HB := Lib.hid BW; clear BW
    go_wp2
    go_ret
    exact ⟨rfl, HB.out⟩
  have hf0 := leftS_fits (left := 1048576) (by omega) (by omega) hg0
  have Hf0 := Lib.hid hf0
  clear hf0
  have hf0 : (x0.length ≤ 1048576 ∧ total x0 ≤ 1048576) ∧ (y0.length ≤ 1048576 ∧ total y0 ≤ 1048576) ∧ 0 ≤ leftS x0 y0 (1048576) ∧ leftS x0 y0 (1048576) ≤ 1048576 := ⟨⟨Hf0.out.1.1, Hf0.out.1.2.2⟩, ⟨Hf0.out.2.1.1, Hf0.out.2.1.2.2⟩, Hf0.out.2.2⟩
  have hB0 : total (lnA x0 y0) + total (lnB x0 y0) ≤ 1152921504606846976 := by have := ln_total x0 y0; omega
  obtain ⟨RA0, hRA0⟩ : ∃ z, z = lnA x0 y0 := ⟨_, rfl⟩
  obtain ⟨RB0, hRB0⟩ : ∃ z, z = lnB x0 y0 := ⟨_, rfl⟩
  obtain ⟨R1, hR1⟩ : ∃ z, z = lnCode x0 y0 := ⟨_, rfl⟩
  rw [← hRA0, ← hRB0] at hB0
  have HRA0 := Lib.hid hRA0
  clear hRA0
  have HRB0 := Lib.hid hRB0
  clear hRB0
  have HR1 := Lib.hid hR1
  clear hR1
  have hd0 : decide (RA0 = RA0 ∧ RB0 = RB0) = true := by simp
  have hk1 : (R1 != R1) = false := by simp
  have hda0 : decide (x0 = x0 ∧ y0 = y0) = true := by simp
  have hq0 : ((1 + (total RA0 : Int) + (total RB0 : Int)) != (1 + (total RA0 : Int) + (total RB0 : Int))) = false := by simp
  go_wp2_with fail
  refine (c_toSolution _ _ _ _ _ (hx0.below BW) hf0.1.1 Hf0.out.1.2.1 hf0.2.1.1 Hf0.out.2.1.2.1).mono ?_; rintro e w2 ⟨t11, t12, rfl, ot1, hb2⟩
  have hs2 := hb2.size
  replace BW := bb BW hb2
  replace bx0 := bx0.under hb2
  clear cA0 cB0
  obtain ⟨cA0, cB0, -, -⟩ := two_cells bx0
  clear hb2
  go_wp2_with fail
  refine (c_specLeastSolution _ _ _ _ _ (ot1.sol)).mono ?_
  rw [← HRA0.out, ← HRB0.out, ← HR1.out]
  rintro e w3 ⟨s01, s02, rfl, os0, hb3⟩
  have hs3 := hb3.size
  replace ot1 := ot1.under hb3
  replace BW := bb BW hb3
  replace bx0 := bx0.under hb3
  clear cA0 cB0
  obtain ⟨cA0, cB0, -, -⟩ := two_cells bx0
  clear ot1
  have hS := os0.sol
  clear os0
  obtain ⟨sas0, scs0, hvs0, _, _⟩ := hS.1.shape
  subst hvs0
  obtain ⟨sbs0, sds0, hvs0, _, _⟩ := hS.2.shape
  subst hvs0
  have BS : Below w3.heap.size w3 w3 := Below.refl _ _
  clear hb3
  obtain ⟨cA0z, cB0z, -, -⟩ := two_cells (bx0.alloc (.cells #[.slice sas0 RA0.length scs0, .slice sbs0 RB0.length sds0] 27))
  go_wp2_with fail
  clear cA0z cB0z
  obtain ⟨bxs0, hb4, hz4⟩ := boxes1 w3 [.slice sas0 RA0.length scs0, .slice sbs0 RB0.length sds0] 27
  obtain ⟨w4, hW4⟩ : ∃ W, w3.alloc (.cells #[.slice sas0 RA0.length scs0, .slice sbs0 RB0.length sds0] 27) = W := ⟨_, rfl⟩
  rw [hW4] at bxs0 hb4 hz4 ⊢
  have hs4 : w3.heap.size + 1 ≤ w4.heap.size := by omega
  clear hW4 hz4
  replace BW := bb BW hb4
  replace BS := bb BS hb4
  replace bx0 := bx0.under hb4
  clear cA0 cB0
  obtain ⟨cA0, cB0, -, -⟩ := two_cells bx0
  obtain ⟨cAs0, cBs0, -, -⟩ := two_cells bxs0
  clear hb4
  refine (c_toSolution _ _ _ _ _ (hx0.below BW) hf0.1.1 Hf0.out.1.2.1 hf0.2.1.1 Hf0.out.2.1.2.1).mono ?_; rintro e w5 ⟨z01, z02, rfl, oz0, hb5⟩
  have hs5 := hb5.size
  replace BW := bb BW hb5
  replace BS := bb BS hb5
  replace bx0 := bx0.under hb5
  clear cA0 cB0
  obtain ⟨cA0, cB0, -, -⟩ := two_cells bx0
  replace bxs0 := bxs0.under hb5
  clear cAs0 cBs0
  obtain ⟨cAs0, cBs0, -, -⟩ := two_cells bxs0
  clear hb5
  obtain ⟨saz0, scz0, hvz0, _, _⟩ := oz0.sol.1.shape
  subst hvz0
  obtain ⟨sbz0, sdz0, hvz0, _, _⟩ := oz0.sol.2.shape
  subst hvz0
  obtain ⟨cA0z, cB0z, -, -⟩ := two_cells (bx0.alloc (.cells #[.slice saz0 x0.length scz0, .slice sbz0 y0.length sdz0] 27))
  obtain ⟨cAs0z, cBs0z, -, -⟩ := two_cells (bxs0.alloc (.cells #[.slice saz0 x0.length scz0, .slice sbz0 y0.length sdz0] 27))
  go_wp2_with fail
  clear cA0z cB0z
  clear cAs0z cBs0z
  obtain ⟨bxz0, hb6, hz6⟩ := boxes1 w5 [.slice saz0 x0.length scz0, .slice sbz0 y0.length sdz0] 27
  obtain ⟨w6, hW6⟩ : ∃ W, w5.alloc (.cells #[.slice saz0 x0.length scz0, .slice sbz0 y0.length sdz0] 27) = W := ⟨_, rfl⟩
  rw [hW6] at bxz0 hb6 hz6 ⊢
  have hs6 : w5.heap.size + 1 ≤ w6.heap.size := by omega
  clear hW6 hz6
  replace oz0 := oz0.under hb6
  replace BW := bb BW hb6
  replace BS := bb BS hb6
  replace bx0 := bx0.under hb6
  clear cA0 cB0
  obtain ⟨cA0, cB0, -, -⟩ := two_cells bx0
  replace bxs0 := bxs0.under hb6
  clear cAs0 cBs0
  obtain ⟨cAs0, cBs0, -, -⟩ := two_cells bxs0
  obtain ⟨cAz0, cBz0, -, -⟩ := two_cells bxz0
  clear hb6
  refine (c_LeastSolution _ _ _ _ _ (oz0.sol)).mono ?_
  rw [← HRA0.out, ← HRB0.out, ← HR1.out]
  rintro e w7 ⟨g01, g02, rfl, og0, hb7⟩
  have hs7 := hb7.size
  replace oz0 := oz0.under hb7
  replace BW := bb BW hb7
  replace BS := bb BS hb7
  replace bx0 := bx0.under hb7
  clear cA0 cB0
  obtain ⟨cA0, cB0, -, -⟩ := two_cells bx0
  replace bxs0 := bxs0.under hb7
  clear cAs0 cBs0
  obtain ⟨cAs0, cBs0, -, -⟩ := two_cells bxs0
  replace bxz0 := bxz0.under hb7
  clear cAz0 cBz0
  obtain ⟨cAz0, cBz0, -, -⟩ := two_cells bxz0
  obtain ⟨sag0, scg0, hvg0, _, _⟩ := og0.sol.1.shape
  subst hvg0
  obtain ⟨sbg0, sdg0, hvg0, _, _⟩ := og0.sol.2.shape
  subst hvg0
  clear hb7
  obtain ⟨cA0z, cB0z, -, -⟩ := two_cells (bx0.alloc (.cells #[.slice sag0 RA0.length scg0, .slice sbg0 RB0.length sdg0] 27))
  obtain ⟨cAs0z, cBs0z, -, -⟩ := two_cells (bxs0.alloc (.cells #[.slice sag0 RA0.length scg0, .slice sbg0 RB0.length sdg0] 27))
  obtain ⟨cAz0z, cBz0z, -, -⟩ := two_cells (bxz0.alloc (.cells #[.slice sag0 RA0.length scg0, .slice sbg0 RB0.length sdg0] 27))
  go_wp2_with fail
  clear cA0z cB0z
  clear cAs0z cBs0z
  clear cAz0z cBz0z
  obtain ⟨bxg0, hb8, hz8⟩ := boxes1 w7 [.slice sag0 RA0.length scg0, .slice sbg0 RB0.length sdg0] 27
  obtain ⟨w8, hW8⟩ : ∃ W, w7.alloc (.cells #[.slice sag0 RA0.length scg0, .slice sbg0 RB0.length sdg0] 27) = W := ⟨_, rfl⟩
  rw [hW8] at bxg0 hb8 hz8 ⊢
  have hs8 : w7.heap.size + 1 ≤ w8.heap.size := by omega
  clear hW8 hz8
  replace oz0 := oz0.under hb8
  replace og0 := og0.under hb8
  replace BW := bb BW hb8
  replace BS := bb BS hb8
  replace bx0 := bx0.under hb8
  clear cA0 cB0
  obtain ⟨cA0, cB0, -, -⟩ := two_cells bx0
  replace bxs0 := bxs0.under hb8
  clear cAs0 cBs0
  obtain ⟨cAs0, cBs0, -, -⟩ := two_cells bxs0
  replace bxz0 := bxz0.under hb8
  clear cAz0 cBz0
  obtain ⟨cAz0, cBz0, -, -⟩ := two_cells bxz0
  obtain ⟨cAg0, cBg0, -, -⟩ := two_cells bxg0
  clear hb8
  refine (c_eqS _ _ _ _ _ _ _ _ _ (og0.sol) (hS.below BS)).mono ?_; rintro e w9 ⟨rfl, hb9⟩
  have hs9 := hb9.size
  replace oz0 := oz0.under hb9
  replace og0 := og0.under hb9
  replace BW := bb BW hb9
  replace BS := bb BS hb9
  replace bx0 := bx0.under hb9
  clear cA0 cB0
  obtain ⟨cA0, cB0, -, -⟩ := two_cells bx0
  replace bxs0 := bxs0.under hb9
  clear cAs0 cBs0
  obtain ⟨cAs0, cBs0, -, -⟩ := two_cells bxs0
  replace bxz0 := bxz0.under hb9
  clear cAz0 cBz0
  obtain ⟨cAz0, cBz0, -, -⟩ := two_cells bxz0
  replace bxg0 := bxg0.under hb9
  clear cAg0 cBg0
  obtain ⟨cAg0, cBg0, -, -⟩ := two_cells bxg0
  clear hb9
  go_wp2_with fail
  have BWd := BW.drew
  have oz0d := oz0.keep ((Keep.refl (fun _ => False) w9).drew) (fun _ _ _ h => h)
  have bx0d := bx0.drew
  have bxz0d := bxz0.drew
  go_region_held3 (fun w' => w'.cell? ⟨w.heap.size, 0, none⟩ = some (.slice a0 x0.length c0) ∧ w'.cell? ⟨w.heap.size, 1, none⟩ = some (.slice a0s y0.length c0s) ∧ w'.cell? ⟨w5.heap.size, 0, none⟩ = some (.slice saz0 x0.length scz0) ∧ w'.cell? ⟨w5.heap.size, 1, none⟩ = some (.slice sbz0 y0.length sdz0))
    (first | go_keep | exact ⟨(two_cells (bx0d.under hb10)).1, (two_cells (bx0d.under hb10)).2.1, (two_cells (bxz0d.under hb10)).1, (two_cells (bxz0d.under hb10)).2.1⟩ | exact ⟨(two_cells ((bx0d.under hb10).under hb11)).1, (two_cells ((bx0d.under hb10).under hb11)).2.1, (two_cells ((bxz0d.under hb10).under hb11)).1, (two_cells ((bxz0d.under hb10).under hb11)).2.1⟩)
    ((first | (go_at_call 15; refine (c_toSolution _ _ _ _ _ (hx0.below BWd) hf0.1.1 Hf0.out.1.2.1 hf0.2.1.1 Hf0.out.2.1.2.1).mono ?_; rintro e w10 ⟨t101, t102, rfl, ot10, hb10⟩) | (go_at_call 18; refine (c_eqS _ _ _ _ _ _ _ _ _ (oz0d.under hb10).sol ot10.sol).mono ?_; rintro e w11 ⟨rfl, hb11⟩)))
  have hb11z : Below w9.heap.size w9 w11 := (Below.refl _ _).drew.trans (bb hb10 hb11)
  have hs11 : w9.heap.size ≤ w11.heap.size := hb11z.size
  replace oz0 := oz0.under hb11z
  replace og0 := og0.under hb11z
  replace BW := bb BW hb11z
  replace BS := bb BS hb11z
  replace bx0 := bx0.under hb11z
  clear cA0 cB0
  obtain ⟨cA0, cB0, -, -⟩ := two_cells bx0
  replace bxs0 := bxs0.under hb11z
  clear cAs0 cBs0
  obtain ⟨cAs0, cBs0, -, -⟩ := two_cells bxs0
  replace bxz0 := bxz0.under hb11z
  clear cAz0 cBz0
  obtain ⟨cAz0, cBz0, -, -⟩ := two_cells bxz0
  replace bxg0 := bxg0.under hb11z
  clear cAg0 cBg0
  obtain ⟨cAg0, cBg0, -, -⟩ := two_cells bxg0
  clear BWd oz0d bx0d bxz0d ot10 hb10 hb11 hb11z
  go_wp2_with fail
  refine (c_markS _ _ _ _ _ _ _ _ oz0 (by omega) (by omega) (by omega)).mono ?_; rintro e w12 ⟨rfl, oz0m, hkw12⟩
  have hs12 := hkw12.size
  replace og0 := og0.keep hkw12 (fun b p q r => by omega)
  replace bx0 := bx0.of_block (hkw12.block _ (by omega) (by omega))
  clear cA0 cB0
  obtain ⟨cA0, cB0, -, -⟩ := two_cells bx0
  replace bxs0 := bxs0.of_block (hkw12.block _ (by omega) (by omega))
  clear cAs0 cBs0
  obtain ⟨cAs0, cBs0, -, -⟩ := two_cells bxs0
  replace bxz0 := bxz0.of_block (hkw12.block _ (by omega) (by omega))
  clear cAz0 cBz0
  obtain ⟨cAz0, cBz0, -, -⟩ := two_cells bxz0
  replace bxg0 := bxg0.of_block (hkw12.block _ (by omega) (by omega))
  clear cAg0 cBg0
  obtain ⟨cAg0, cBg0, -, -⟩ := two_cells bxg0
  replace BW := below_keep BW hkw12 (by omega)
  replace BS := below_keep BS hkw12 (by omega)
  clear oz0
  have oz0 := oz0m
  clear oz0m hkw12
  clear oz0
  go_wp2_with fail
  refine (c_eqS _ _ _ _ _ _ _ _ _ (og0.sol) (hS.below BS)).mono ?_; rintro e w13 ⟨rfl, hb13⟩
  have hs13 := hb13.size
  replace og0 := og0.under hb13
  replace BW := bb BW hb13
  replace BS := bb BS hb13
  replace bx0 := bx0.under hb13
  clear cA0 cB0
  obtain ⟨cA0, cB0, -, -⟩ := two_cells bx0
  replace bxs0 := bxs0.under hb13
  clear cAs0 cBs0
  obtain ⟨cAs0, cBs0, -, -⟩ := two_cells bxs0
  replace bxz0 := bxz0.under hb13
  clear cAz0 cBz0
  obtain ⟨cAz0, cBz0, -, -⟩ := two_cells bxz0
  replace bxg0 := bxg0.under hb13
  clear cAg0 cBg0
  obtain ⟨cAg0, cBg0, -, -⟩ := two_cells bxg0
  clear hb13
  go_wp2_with fail
  refine (c_markS _ _ _ _ _ _ _ _ og0 (by omega) (by omega) (by omega)).mono ?_; rintro e w14 ⟨rfl, og0m, hkw14⟩
  have hs14 := hkw14.size
  replace bx0 := bx0.of_block (hkw14.block _ (by omega) (by omega))
  clear cA0 cB0
  obtain ⟨cA0, cB0, -, -⟩ := two_cells bx0
  replace bxs0 := bxs0.of_block (hkw14.block _ (by omega) (by omega))
  clear cAs0 cBs0
  obtain ⟨cAs0, cBs0, -, -⟩ := two_cells bxs0
  replace bxz0 := bxz0.of_block (hkw14.block _ (by omega) (by omega))
  clear cAz0 cBz0
  obtain ⟨cAz0, cBz0, -, -⟩ := two_cells bxz0
  replace bxg0 := bxg0.of_block (hkw14.block _ (by omega) (by omega))
  clear cAg0 cBg0
  obtain ⟨cAg0, cBg0, -, -⟩ := two_cells bxg0
  replace BW := below_keep BW hkw14 (by omega)
  replace BS := below_keep BS hkw14 (by omega)
  clear og0
  have og0 := og0m
  clear og0m hkw14
  go_wp2_with fail
  refine (c_heldS _ _ _ _ _ _ (og0.sol) (by omega) (by omega)).mono ?_; rintro e w15 ⟨rfl, hb15⟩
  have hs15 := hb15.size
  replace og0 := og0.under hb15
  replace BW := bb BW hb15
  replace BS := bb BS hb15
  replace bx0 := bx0.under hb15
  clear cA0 cB0
  obtain ⟨cA0, cB0, -, -⟩ := two_cells bx0
  replace bxs0 := bxs0.under hb15
  clear cAs0 cBs0
  obtain ⟨cAs0, cBs0, -, -⟩ := two_cells bxs0
  replace bxz0 := bxz0.under hb15
  clear cAz0 cBz0
  obtain ⟨cAz0, cBz0, -, -⟩ := two_cells bxz0
  replace bxg0 := bxg0.under hb15
  clear cAg0 cBg0
  obtain ⟨cAg0, cBg0, -, -⟩ := two_cells bxg0
  clear hb15
  go_wp2_with fail
  refine (c_toSolution _ _ _ _ _ (hx0.below BW) hf0.1.1 Hf0.out.1.2.1 hf0.2.1.1 Hf0.out.2.1.2.1).mono ?_; rintro e w16 ⟨t21, t22, rfl, ot2, hb16⟩
  have hs16 := hb16.size
  replace og0 := og0.under hb16
  replace BW := bb BW hb16
  replace BS := bb BS hb16
  replace bx0 := bx0.under hb16
  clear cA0 cB0
  obtain ⟨cA0, cB0, -, -⟩ := two_cells bx0
  replace bxs0 := bxs0.under hb16
  clear cAs0 cBs0
  obtain ⟨cAs0, cBs0, -, -⟩ := two_cells bxs0
  replace bxz0 := bxz0.under hb16
  clear cAz0 cBz0
  obtain ⟨cAz0, cBz0, -, -⟩ := two_cells bxz0
  replace bxg0 := bxg0.under hb16
  clear cAg0 cBg0
  obtain ⟨cAg0, cBg0, -, -⟩ := two_cells bxg0
  clear hb16
  go_wp2_with fail
  refine (c_LeastSolution _ _ _ _ _ (ot2.sol)).mono ?_
  rw [← HRA0.out, ← HRB0.out, ← HR1.out]
  rintro e w17 ⟨h01, h02, rfl, oh0, hb17⟩
  have hs17 := hb17.size
  replace og0 := og0.under hb17
  replace ot2 := ot2.under hb17
  replace BW := bb BW hb17
  replace BS := bb BS hb17
  replace bx0 := bx0.under hb17
  clear cA0 cB0
  obtain ⟨cA0, cB0, -, -⟩ := two_cells bx0
  replace bxs0 := bxs0.under hb17
  clear cAs0 cBs0
  obtain ⟨cAs0, cBs0, -, -⟩ := two_cells bxs0
  replace bxz0 := bxz0.under hb17
  clear cAz0 cBz0
  obtain ⟨cAz0, cBz0, -, -⟩ := two_cells bxz0
  replace bxg0 := bxg0.under hb17
  clear cAg0 cBg0
  obtain ⟨cAg0, cBg0, -, -⟩ := two_cells bxg0
  obtain ⟨sah0, sch0, hvh0, _, _⟩ := oh0.sol.1.shape
  subst hvh0
  obtain ⟨sbh0, sdh0, hvh0, _, _⟩ := oh0.sol.2.shape
  subst hvh0
  clear ot2
  clear hb17
  obtain ⟨cA0z, cB0z, -, -⟩ := two_cells (bx0.alloc (.cells #[.slice sah0 RA0.length sch0, .slice sbh0 RB0.length sdh0] 27))
  obtain ⟨cAs0z, cBs0z, -, -⟩ := two_cells (bxs0.alloc (.cells #[.slice sah0 RA0.length sch0, .slice sbh0 RB0.length sdh0] 27))
  obtain ⟨cAz0z, cBz0z, -, -⟩ := two_cells (bxz0.alloc (.cells #[.slice sah0 RA0.length sch0, .slice sbh0 RB0.length sdh0] 27))
  obtain ⟨cAg0z, cBg0z, -, -⟩ := two_cells (bxg0.alloc (.cells #[.slice sah0 RA0.length sch0, .slice sbh0 RB0.length sdh0] 27))
  go_wp2_with fail
  clear cA0z cB0z
  clear cAs0z cBs0z
  clear cAz0z cBz0z
  clear cAg0z cBg0z
  obtain ⟨bxh0, hb18, hz18⟩ := boxes1 w17 [.slice sah0 RA0.length sch0, .slice sbh0 RB0.length sdh0] 27
  obtain ⟨w18, hW18⟩ : ∃ W, w17.alloc (.cells #[.slice sah0 RA0.length sch0, .slice sbh0 RB0.length sdh0] 27) = W := ⟨_, rfl⟩
  rw [hW18] at bxh0 hb18 hz18 ⊢
  have hs18 : w17.heap.size + 1 ≤ w18.heap.size := by omega
  clear hW18 hz18
  replace og0 := og0.under hb18
  replace oh0 := oh0.under hb18
  replace BW := bb BW hb18
  replace BS := bb BS hb18
  replace bx0 := bx0.under hb18
  clear cA0 cB0
  obtain ⟨cA0, cB0, -, -⟩ := two_cells bx0
  replace bxs0 := bxs0.under hb18
  clear cAs0 cBs0
  obtain ⟨cAs0, cBs0, -, -⟩ := two_cells bxs0
  replace bxz0 := bxz0.under hb18
  clear cAz0 cBz0
  obtain ⟨cAz0, cBz0, -, -⟩ := two_cells bxz0
  replace bxg0 := bxg0.under hb18
  clear cAg0 cBg0
  obtain ⟨cAg0, cBg0, -, -⟩ := two_cells bxg0
  obtain ⟨cAh0, cBh0, -, -⟩ := two_cells bxh0
  clear hb18
  refine (c_eqS _ _ _ _ _ _ _ _ _ (oh0.sol) (hS.below BS)).mono ?_; rintro e w19 ⟨rfl, hb19⟩
  have hs19 := hb19.size
  replace og0 := og0.under hb19
  replace oh0 := oh0.under hb19
  replace BW := bb BW hb19
  replace BS := bb BS hb19
  replace bx0 := bx0.under hb19
  clear cA0 cB0
  obtain ⟨cA0, cB0, -, -⟩ := two_cells bx0
  replace bxs0 := bxs0.under hb19
  clear cAs0 cBs0
  obtain ⟨cAs0, cBs0, -, -⟩ := two_cells bxs0
  replace bxz0 := bxz0.under hb19
  clear cAz0 cBz0
  obtain ⟨cAz0, cBz0, -, -⟩ := two_cells bxz0
  replace bxg0 := bxg0.under hb19
  clear cAg0 cBg0
  obtain ⟨cAg0, cBg0, -, -⟩ := two_cells bxg0
  replace bxh0 := bxh0.under hb19
  clear cAh0 cBh0
  obtain ⟨cAh0, cBh0, -, -⟩ := two_cells bxh0
  clear hb19
  go_wp2_with fail
  refine (c_heldS _ _ _ _ _ _ (og0.sol) (by omega) (by omega)).mono ?_; rintro e w20 ⟨rfl, hb20⟩
  have hs20 := hb20.size
  replace og0 := og0.under hb20
  replace oh0 := oh0.under hb20
  replace BW := bb BW hb20
  replace BS := bb BS hb20
  replace bx0 := bx0.under hb20
  clear cA0 cB0
  obtain ⟨cA0, cB0, -, -⟩ := two_cells bx0
  replace bxs0 := bxs0.under hb20
  clear cAs0 cBs0
  obtain ⟨cAs0, cBs0, -, -⟩ := two_cells bxs0
  replace bxz0 := bxz0.under hb20
  clear cAz0 cBz0
  obtain ⟨cAz0, cBz0, -, -⟩ := two_cells bxz0
  replace bxg0 := bxg0.under hb20
  clear cAg0 cBg0
  obtain ⟨cAg0, cBg0, -, -⟩ := two_cells bxg0
  replace bxh0 := bxh0.under hb20
  clear cAh0 cBh0
  obtain ⟨cAh0, cBh0, -, -⟩ := two_cells bxh0
  clear hb20
  have HB := Lib.hid BW
  clear BW BS hS og0 oh0 hx0 bx0 bxs0 bxz0 bxg0 bxh0
  go_wp2
  go_ret
  exact ⟨rfl, HB.out⟩
end Go.Proofs.Ytkcobfkmeaakoaa
