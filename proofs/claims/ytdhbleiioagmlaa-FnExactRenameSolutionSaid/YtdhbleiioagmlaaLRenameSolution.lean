/-
  The law FnExactRenameSolution answers true, and leaves what was there as it was.
-/
import Derived.Test.YtdhbleiioagmlaaI19
namespace Go.Proofs.Ytdhbleiioagmlaa
open Go.RowKit

def rnP (A : List (List Int)) (p : List Int) : Bool := decide (p.length = A.length) && isPerm p
def rnA (A B : List (List Int)) (p : List Int) : List (List Int) := if isPM A B && rnP A p then renL A p else []
def rnB (A B : List (List Int)) (p : List Int) : List (List Int) := if isPM A B && rnP A p then renL B p else []
def rnCode (A B : List (List Int)) (p : List Int) : Int := if isPM A B then (if rnP A p then 0 else 2) else 1
theorem rnP_ok {A B : List (List Int)} {p : List Int} (h : isPM A B = true) (hp : rnP A p = true) : RenOk A p ∧ RenOk B p := by
  obtain ⟨q1, q2, q3⟩ := isPM_parts h
  simp only [rnP, Bool.and_eq_true, decide_eq_true_eq, isPerm] at hp
  exact ⟨⟨q1, hp.2.2, hp.1⟩, ⟨q2, hp.2.2, by omega⟩⟩

set_option maxRecDepth 100000 in
set_option maxHeartbeats 2000000 in
theorem c_RenameSolution (v0 u0 : Value) (A B : List (List Int)) (v1 : Value) (p : List Int) (w : World) (hA : Sol w v0 u0 A B) (hp : Ints w v1 p)  :
    Calls Try.prog 51 #[.agg #[v0, u0], v1] w (RSolC w (rnA A B p) (rnB A B p) (rnCode A B p)) := by
  by_cases hp0 : isPM A B = true
  case neg =>
    have hq0 : isPM A B = false := by simpa using hp0
    have HQ := Lib.hid hq0; clear hp0
    obtain ⟨a0, c0, rfl, _, _⟩ := hA.1.shape
    obtain ⟨a0s, c0s, rfl, _, _⟩ := hA.2.shape
    obtain ⟨a1, c1, rfl, hc1, hm1⟩ := hp.shape
    go_enter Try.func51, Try.ntmps51
    go_wp2_with fail
    obtain ⟨f0, f2, hW0, hsz⟩ := boxes2 w [.slice a0 A.length c0, .slice a0s B.length c0s] [.slice none 0 0, .slice none 0 0] 28 28
    obtain ⟨W0, hW⟩ : ∃ W, ((w.alloc (.cells #[.slice a0 A.length c0, .slice a0s B.length c0s] 28)).alloc (.cells #[.slice none 0 0, .slice none 0 0] 28)) = W := ⟨_, rfl⟩
    rw [hW] at f0 f2 hW0 hsz ⊢
    clear hW hsz
    refine (c_IsPairMap _ _ _ _ _ (hA.below hW0)).mono ?_; rintro e g0 ⟨rfl, hbg0⟩
    have hB0 := bb hW0 hbg0
    replace f0 := f0.under hbg0
    obtain ⟨cA0, cB0, -, -⟩ := two_cells f0
    replace f2 := f2.under hbg0
    obtain ⟨cA2, cB2, fA2, fB2⟩ := two_cells f2
    clear hbg0
    have HB := Lib.hid hB0
    clear hB0 hW0
    go_wp2
    refine bodyPost_ret (v := .tuple #[.agg #[.slice none 0 0, .slice none 0 0], .int .i64 1]) (by simp [results, Try.results51, go_sem, cA2, cB2]) rfl ⟨.slice none 0 0, .slice none 0 0, by simp [rnA, rnB, rnCode, HQ.out], ?_, ?_⟩
    · have hz : w.heap.size ≤ g0.heap.size := HB.out.size
      rw [show rnA A B p = [] from by simp [rnA, rnB, rnCode, HQ.out], show rnB A B p = [] from by simp [rnA, rnB, rnCode, HQ.out]]
      exact OwnSol.nil0 (by first | exact hz | (simp [World.setCell]; exact hz))
    · first | exact HB.out | exact (HB.out.setCell (p := ⟨w.heap.size + 1, 0, none⟩) (by show _ ≤ w.heap.size + 1; omega) _).setCell (p := ⟨w.heap.size + 1, 1, none⟩) (by show _ ≤ w.heap.size + 1; omega) _
  have HP0 := Lib.hid hp0
  obtain ⟨a0, c0, rfl, _, _⟩ := hA.1.shape
  obtain ⟨a0s, c0s, rfl, _, _⟩ := hA.2.shape
  obtain ⟨a1, c1, rfl, hc1, hm1⟩ := hp.shape
  go_enter Try.func51, Try.ntmps51
  go_wp2_with fail
  obtain ⟨f0, f2, hW0, hsz⟩ := boxes2 w [.slice a0 A.length c0, .slice a0s B.length c0s] [.slice none 0 0, .slice none 0 0] 28 28
  obtain ⟨W0, hW⟩ : ∃ W, ((w.alloc (.cells #[.slice a0 A.length c0, .slice a0s B.length c0s] 28)).alloc (.cells #[.slice none 0 0, .slice none 0 0] 28)) = W := ⟨_, rfl⟩
  rw [hW] at f0 f2 hW0 hsz ⊢
  clear hW hsz
  refine (c_IsPairMap _ _ _ _ _ (hA.below hW0)).mono ?_; rintro e g0 ⟨rfl, hbg0⟩
  have hB0 := bb hW0 hbg0
  replace f0 := f0.under hbg0
  obtain ⟨cA0, cB0, -, -⟩ := two_cells f0
  replace f2 := f2.under hbg0
  obtain ⟨cA2, cB2, fA2, fB2⟩ := two_cells f2
  clear hbg0
  obtain ⟨q1, q2, -⟩ := isPM_parts HP0.out
  have hlA := isTab_len q1
  by_cases hl : p.length = A.length
  case neg =>
    have hb : ((p.length : Int) != (A.length : Int)) = true := by simp; omega
    have hr : rnP A p = false := by simp [rnP, hl]
    have HR := Lib.hid hr; have HB := Lib.hid hB0
    clear hl hr hB0 hW0 hA hp
    go_wp2
    refine bodyPost_ret (v := .tuple #[.agg #[.slice none 0 0, .slice none 0 0], .int .i64 2]) (by simp [results, Try.results51, go_sem, cA2, cB2]) rfl ⟨.slice none 0 0, .slice none 0 0, by simp [rnCode, HP0.out, HR.out], ?_, ?_⟩
    · have hz : w.heap.size ≤ g0.heap.size := HB.out.size
      rw [show rnA A B p = [] from by simp [rnA, HR.out], show rnB A B p = [] from by simp [rnB, HR.out]]
      exact OwnSol.nil0 (by first | exact hz | (simp [World.setCell]; exact hz))
    · first | exact HB.out | exact (HB.out.setCell (p := ⟨w.heap.size + 1, 0, none⟩) (by show _ ≤ w.heap.size + 1; omega) _).setCell (p := ⟨w.heap.size + 1, 1, none⟩) (by show _ ≤ w.heap.size + 1; omega) _
  have hb : ((p.length : Int) != (A.length : Int)) = false := by simp [hl]
  have hin : inR A.length 1 12 = true := by simp [inR]; omega
  have HL := Lib.hid hl; have HIn := Lib.hid hin
  have hp12 : p.length ≤ 12 := by omega
  clear hl hin
  have HF0 := Lib.hid f0; have HF2 := Lib.hid f2; have HAs := Lib.hid hA
  go_wp2_with fail
  refine (c_isPermuted _ p _ (hp.below hB0) (by omega)).mono ?_; rintro e g1 ⟨rfl, hb1⟩
  have HF2b := Lib.hid (HF2.out.under hb1); have HF0b := Lib.hid (HF0.out.under hb1); have HB := Lib.hid (bb hB0 hb1)
  have HAs1 := Lib.hid ((hA.below hB0).below hb1); have HPp := Lib.hid ((hp.below hB0).below hb1)
  obtain ⟨dA, dB, dF, dG⟩ := two_cells HF2b.out
  obtain ⟨eA, eB, -, -⟩ := two_cells HF0b.out
  clear hA hp hB0 hb1 hW0 f0 f2 HF0 HF2 HAs cA0 cB0 cA2 cB2 fA2 fB2
  by_cases hpm : decide (Permuted p) = true
  case neg =>
    have hpm' : decide (Permuted p) = false := by simpa using hpm
    have hr : rnP A p = false := by simp [rnP, isPerm, HIn.out, HL.out]; simpa using hpm'
    have HR := Lib.hid hr; rw [hpm']
    clear hpm hpm' hr
    go_wp2
    refine bodyPost_ret (v := .tuple #[.agg #[.slice none 0 0, .slice none 0 0], .int .i64 2]) (by simp [results, Try.results51, go_sem, dA, dB]) rfl ⟨.slice none 0 0, .slice none 0 0, by simp [rnCode, HP0.out, HR.out], ?_, ?_⟩
    · have hz : w.heap.size ≤ g1.heap.size := HB.out.size
      rw [show rnA A B p = [] from by simp [rnA, HR.out], show rnB A B p = [] from by simp [rnB, HR.out]]
      exact OwnSol.nil0 (by first | exact hz | (simp [World.setCell]; exact hz))
    · first | exact HB.out | exact (HB.out.setCell (p := ⟨w.heap.size + 1, 0, none⟩) (by show _ ≤ w.heap.size + 1; omega) _).setCell (p := ⟨w.heap.size + 1, 1, none⟩) (by show _ ≤ w.heap.size + 1; omega) _
  have hr : rnP A p = true := by simp [rnP, isPerm, HIn.out, HL.out]; simpa using hpm
  have HR := Lib.hid hr; rw [hpm]
  obtain ⟨k1, k2⟩ := rnP_ok HP0.out hr
  have HK1 := Lib.hid k1; have HK2 := Lib.hid k2
  clear hpm hr k1 k2
  go_wp2_with fail
  refine (c_renamedSolution _ _ _ _ _ p _ HAs1.out HPp.out HK1.out HK2.out).mono ?_; rintro e g2 ⟨r1, r2, rfl, hs, hb2⟩
  have HF3 := Lib.hid (HF2b.out.under hb2); have HB2 := Lib.hid (bb HB.out hb2); have HS := Lib.hid hs; have HLt := Lib.hid HF2b.out.lt
  obtain ⟨zA, zB, zF, zG⟩ := two_cells HF3.out
  clear hs hb2
  obtain ⟨hA, hB⟩ := stored (q := w.heap.size + 1) HB2.out HS.out (by omega) HLt.out
  have HA := Lib.hid hA; have HB3 := Lib.hid hB
  obtain ⟨x1, y1, hv1, _⟩ := HS.out.sol.1.shape
  obtain ⟨x2, y2, hv2, _⟩ := HS.out.sol.2.shape
  rw [renL_length] at hv1 hv2
  subst hv1 hv2
  clear hA hB eA eB dA dB dF dG
  go_wp2
  exact bodyPost_ret (v := .tuple #[.agg #[.slice x1 A.length y1, .slice x2 B.length y2], .int .i64 0]) (by simp [results, Try.results51, go_sem, zA, zB]) rfl ⟨.slice x1 A.length y1, .slice x2 B.length y2, by simp [rnCode, HP0.out, HR.out], by simpa [rnA, rnB, HP0.out, HR.out] using HA.out, HB3.out⟩
set_option maxRecDepth 100000 in
set_option maxHeartbeats 2000000 in
theorem c_specRenameSolution (v0 u0 : Value) (A B : List (List Int)) (v1 : Value) (p : List Int) (w : World) (hA : Sol w v0 u0 A B) (hp : Ints w v1 p)  :
    Calls Try.prog 49 #[.agg #[v0, u0], v1] w (RSolRC w (rnA A B p) (rnB A B p) (rnCode A B p)) := by
  by_cases hp0 : isPM A B = true
  case neg =>
    have hq0 : isPM A B = false := by simpa using hp0
    have HQ := Lib.hid hq0; clear hp0
    obtain ⟨a0, c0, rfl, _, _⟩ := hA.1.shape
    obtain ⟨a0s, c0s, rfl, _, _⟩ := hA.2.shape
    obtain ⟨a1, c1, rfl, hc1, hm1⟩ := hp.shape
    go_enter Try.func49, Try.ntmps49
    go_wp2_with fail
    obtain ⟨f0, f2, hW0, hsz⟩ := boxes2 w [.slice a0 A.length c0, .slice a0s B.length c0s] [.slice none 0 0, .slice none 0 0] 28 28
    obtain ⟨W0, hW⟩ : ∃ W, ((w.alloc (.cells #[.slice a0 A.length c0, .slice a0s B.length c0s] 28)).alloc (.cells #[.slice none 0 0, .slice none 0 0] 28)) = W := ⟨_, rfl⟩
    rw [hW] at f0 f2 hW0 hsz ⊢
    clear hW hsz
    refine (c_l02Map _ _ _ _ _ (hA.below hW0)).mono ?_; rintro e g0 ⟨rfl, hbg0⟩
    have hB0 := bb hW0 hbg0
    replace f0 := f0.under hbg0
    obtain ⟨cA0, cB0, -, -⟩ := two_cells f0
    replace f2 := f2.under hbg0
    obtain ⟨cA2, cB2, fA2, fB2⟩ := two_cells f2
    clear hbg0
    have HB := Lib.hid hB0
    clear hB0 hW0
    go_wp2
    refine bodyPost_ret (v := .tuple #[.agg #[.slice none 0 0, .slice none 0 0], .int .i64 1]) (by simp [results, Try.results49, go_sem, cA2, cB2]) rfl ⟨.slice none 0 0, .slice none 0 0, by simp [rnA, rnB, rnCode, HQ.out], ?_, ?_⟩
    · exact ⟨_, rfl, ⟨by simpa [rnA, rnB, rnCode, HQ.out] using (OwnRowsIn.nil0 0 0 _).rows, by simpa [rnA, rnB, rnCode, HQ.out] using (OwnRowsIn.nil0 0 0 _).rows⟩, Nat.le_refl _, Below.refl _ _⟩
    · first | exact HB.out | exact (HB.out.setCell (p := ⟨w.heap.size + 1, 0, none⟩) (by show _ ≤ w.heap.size + 1; omega) _).setCell (p := ⟨w.heap.size + 1, 1, none⟩) (by show _ ≤ w.heap.size + 1; omega) _
  have HP0 := Lib.hid hp0
  obtain ⟨a0, c0, rfl, _, _⟩ := hA.1.shape
  obtain ⟨a0s, c0s, rfl, _, _⟩ := hA.2.shape
  obtain ⟨a1, c1, rfl, hc1, hm1⟩ := hp.shape
  go_enter Try.func49, Try.ntmps49
  go_wp2_with fail
  obtain ⟨f0, f2, hW0, hsz⟩ := boxes2 w [.slice a0 A.length c0, .slice a0s B.length c0s] [.slice none 0 0, .slice none 0 0] 28 28
  obtain ⟨W0, hW⟩ : ∃ W, ((w.alloc (.cells #[.slice a0 A.length c0, .slice a0s B.length c0s] 28)).alloc (.cells #[.slice none 0 0, .slice none 0 0] 28)) = W := ⟨_, rfl⟩
  rw [hW] at f0 f2 hW0 hsz ⊢
  clear hW hsz
  refine (c_l02Map _ _ _ _ _ (hA.below hW0)).mono ?_; rintro e g0 ⟨rfl, hbg0⟩
  have hB0 := bb hW0 hbg0
  replace f0 := f0.under hbg0
  obtain ⟨cA0, cB0, -, -⟩ := two_cells f0
  replace f2 := f2.under hbg0
  obtain ⟨cA2, cB2, fA2, fB2⟩ := two_cells f2
  clear hbg0
  have HF0 := Lib.hid f0; have HF2 := Lib.hid f2
  go_wp2_with fail
  refine (c_l01PermV _ p _ (hp.below hB0)).mono ?_; rintro e g1 ⟨rfl, hb1⟩
  have HF2b := Lib.hid (HF2.out.under hb1); have HF0b := Lib.hid (HF0.out.under hb1); have HB := Lib.hid (bb hB0 hb1)
  have HAs1 := Lib.hid ((hA.below hB0).below hb1); have HPp := Lib.hid ((hp.below hB0).below hb1)
  obtain ⟨dA, dB, dF, dG⟩ := two_cells HF2b.out
  obtain ⟨eA, eB, -, -⟩ := two_cells HF0b.out
  clear hA hp hB0 hb1 hW0 f0 f2 HF0 HF2 cA0 cB0 cA2 cB2 fA2 fB2
  by_cases hpm : isPerm p = true
  case neg =>
    have hpm' : isPerm p = false := by simpa using hpm
    have hr : rnP A p = false := by simp [rnP, hpm']
    have HR := Lib.hid hr; rw [hpm']
    clear hpm hpm' hr
    go_wp2
    refine bodyPost_ret (v := .tuple #[.agg #[.slice none 0 0, .slice none 0 0], .int .i64 2]) (by simp [results, Try.results49, go_sem, dA, dB]) rfl ⟨.slice none 0 0, .slice none 0 0, by simp [rnCode, HP0.out, HR.out], ?_, ?_⟩
    · exact ⟨_, rfl, ⟨by simpa [rnA, HR.out] using (OwnRowsIn.nil0 0 0 _).rows, by simpa [rnB, HR.out] using (OwnRowsIn.nil0 0 0 _).rows⟩, Nat.le_refl _, Below.refl _ _⟩
    · first | exact HB.out | exact (HB.out.setCell (p := ⟨w.heap.size + 1, 0, none⟩) (by show _ ≤ w.heap.size + 1; omega) _).setCell (p := ⟨w.heap.size + 1, 1, none⟩) (by show _ ≤ w.heap.size + 1; omega) _
  have HPm := Lib.hid hpm; rw [hpm]; clear hpm
  by_cases hl : p.length = A.length
  case neg =>
    have hb : ((p.length : Int) != (A.length : Int)) = true := by simp; omega
    have hr : rnP A p = false := by simp [rnP, hl]
    have HR := Lib.hid hr
    clear hl hr
    go_wp2
    refine bodyPost_ret (v := .tuple #[.agg #[.slice none 0 0, .slice none 0 0], .int .i64 2]) (by simp [results, Try.results49, go_sem, dA, dB]) rfl ⟨.slice none 0 0, .slice none 0 0, by simp [rnCode, HP0.out, HR.out], ?_, ?_⟩
    · exact ⟨_, rfl, ⟨by simpa [rnA, HR.out] using (OwnRowsIn.nil0 0 0 _).rows, by simpa [rnB, HR.out] using (OwnRowsIn.nil0 0 0 _).rows⟩, Nat.le_refl _, Below.refl _ _⟩
    · first | exact HB.out | exact (HB.out.setCell (p := ⟨w.heap.size + 1, 0, none⟩) (by show _ ≤ w.heap.size + 1; omega) _).setCell (p := ⟨w.heap.size + 1, 1, none⟩) (by show _ ≤ w.heap.size + 1; omega) _
  have hb : ((p.length : Int) != (A.length : Int)) = false := by simp [hl]
  have hr : rnP A p = true := by simp [rnP, hl, HPm.out]
  have HR := Lib.hid hr
  obtain ⟨k1, k2⟩ := rnP_ok HP0.out hr
  have HK1 := Lib.hid k1; have HK2 := Lib.hid k2
  clear hl hr k1 k2
  go_wp2_with fail
  refine (c_l02Rename _ _ _ _ _ p _ HAs1.out HPp.out HK1.out HK2.out).mono ?_; rintro e g2 ⟨r1, r2, rfl, hs, hb2⟩
  have HF3 := Lib.hid (HF2b.out.under hb2); have HB2 := Lib.hid (bb HB.out hb2); have HLt := Lib.hid HF2b.out.lt
  obtain ⟨l1, h1, l2, h2, o1, o2, o3, o4, -, o5, o6⟩ := hs
  have HS := Lib.hid (And.intro (o5.out.mono o1) (o6.out.mono o3))
  obtain ⟨zA, zB, zF, zG⟩ := two_cells HF3.out
  clear o5 o6 o1 o2 o3 o4 hb2
  obtain ⟨hA, hB⟩ := storedR (q := w.heap.size + 1) HB2.out HS.out (by omega) HLt.out
  have HA := Lib.hid hA; have HB3 := Lib.hid hB
  obtain ⟨x1, y1, hv1, _⟩ := HS.out.1.rows.shape
  obtain ⟨x2, y2, hv2, _⟩ := HS.out.2.rows.shape
  rw [renL_length] at hv1 hv2
  subst hv1 hv2
  clear hA hB eA eB dA dB dF dG
  go_wp2
  exact bodyPost_ret (v := .tuple #[.agg #[.slice x1 A.length y1, .slice x2 B.length y2], .int .i64 0]) (by simp [results, Try.results49, go_sem, zA, zB]) rfl ⟨.slice x1 A.length y1, .slice x2 B.length y2, by simp [rnCode, HP0.out, HR.out], by simpa [rnA, rnB, HP0.out, HR.out] using HA.out, HB3.out⟩

theorem rn_total (A B : List (List Int)) (p : List Int) : total (rnA A B p) ≤ 144 ∧ total (rnB A B p) ≤ 144 := by
  unfold rnA rnB
  split
  · rename_i h
    simp only [Bool.and_eq_true] at h
    obtain ⟨q1, q2, _⟩ := isPM_parts h.1
    have l1 := isTab_len q1; have l2 := isTab_len q2
    have h1 := total_le _ (tab_rows (n := A.length) (g := fun x y => nth p (val2 A (nth (invL p) x) (nth (invL p) y))) l1.2)
    have h2 := total_le _ (tab_rows (n := B.length) (g := fun x y => nth p (val2 B (nth (invL p) x) (nth (invL p) y))) l2.2)
    rw [tabOf_length] at h1 h2
    unfold renL
    omega
  · simp [total]
set_option maxHeartbeats 4000000 in
theorem law_RenameSolution (v0 u0 : Value) (x0 y0 : List (List Int)) (v1 : Value) (x1 : List Int) (w : World) (hr0 : Rows w v0 x0) (hr0' : Rows w u0 y0) (hx1 : Ints w v1 x1) :
    Calls Try.prog 13 #[.agg #[v0, u0], v1] w (RVal w (.bool true)) := by
  obtain ⟨a0, c0, rfl, hc0, hm0⟩ := hr0.shape
  obtain ⟨a0s, c0s, rfl, hc0s, hm0s⟩ := hr0'.shape
  have hx0 : Sol w (.slice a0 x0.length c0) (.slice a0s y0.length c0s) x0 y0 := ⟨hr0, hr0'⟩
  clear hr0 hr0'
  obtain ⟨a1, c1, rfl, hc1, hm1⟩ := hx1.shape
  by_cases hn1 : x1.length ≤ 1048576
  case neg =>
    go_enter Try.func13, Try.ntmps13
    go_wp2
    go_ret
    exact ⟨rfl, by first | exact Below.refl _ _ | exact (Below.refl _ _).alloc (Nat.le_refl _) _ | exact ((Below.refl _ _).alloc (Nat.le_refl _) _).alloc (by simp) _⟩
  go_enter Try.func13, Try.ntmps13
  go_wp2_with fail
  obtain ⟨bx0, BW, hsz0⟩ := boxes1 w [.slice a0 x0.length c0, .slice a0s y0.length c0s] 24
  obtain ⟨W0, hW0⟩ : ∃ W, (w.alloc (.cells #[.slice a0 x0.length c0, .slice a0s y0.length c0s] 24)) = W := ⟨_, rfl⟩
  rw [hW0] at bx0 BW hsz0 ⊢
  have hs0 : w.heap.size + 1 ≤ W0.heap.size := by omega
  clear hW0 hsz0
  refine (c_szSolution _ _ _ _ _ _ (hx0.below BW) (by omega) (by omega)).mono ?_; rintro e w1 ⟨rfl, hb1⟩
  have hs1 := hb1.size
  replace BW := bb BW hb1
  replace bx0 := bx0.under hb1
  obtain ⟨cA0, cB0, -, -⟩ := two_cells bx0
  clear hb1
  by_cases hg0 : leftS x0 y0 (1048576) < 0
  case pos =>
    have HB := Lib.hid BW; clear BW
    go_wp2
    go_ret
    exact ⟨rfl, HB.out⟩
  have hf0 := leftS_fits (left := 1048576) (by omega) (by omega) hg0
  have Hf0 := Lib.hid hf0
  clear hf0
  have hf0 : (x0.length ≤ 1048576 ∧ total x0 ≤ 1048576) ∧ (y0.length ≤ 1048576 ∧ total y0 ≤ 1048576) ∧ 0 ≤ leftS x0 y0 (1048576) ∧ leftS x0 y0 (1048576) ≤ 1048576 := ⟨⟨Hf0.out.1.1, Hf0.out.1.2.2⟩, ⟨Hf0.out.2.1.1, Hf0.out.2.1.2.2⟩, Hf0.out.2.2⟩
  have hB0 : total (rnA x0 y0 x1) + total (rnB x0 y0 x1) ≤ 1152921504606846976 := by have := rn_total x0 y0 x1; omega
  obtain ⟨RA0, hRA0⟩ : ∃ z, z = rnA x0 y0 x1 := ⟨_, rfl⟩
  obtain ⟨RB0, hRB0⟩ : ∃ z, z = rnB x0 y0 x1 := ⟨_, rfl⟩
  obtain ⟨R1, hR1⟩ : ∃ z, z = rnCode x0 y0 x1 := ⟨_, rfl⟩
  rw [← hRA0, ← hRB0] at hB0
  have HRA0 := Lib.hid hRA0
  clear hRA0
  have HRB0 := Lib.hid hRB0
  clear hRB0
  have HR1 := Lib.hid hR1
  clear hR1
  have hd0 : decide (RA0 = RA0 ∧ RB0 = RB0) = true := by simp
  have hk1 : (R1 != R1) = false := by simp
  have hda0 : decide (x0 = x0 ∧ y0 = y0) = true := by simp
  have hda1 : decide (x1 = x1) = true := by simp
  have hq0 : ((1 + (total RA0 : Int) + (total RB0 : Int)) != (1 + (total RA0 : Int) + (total RB0 : Int))) = false := by simp
  go_wp2_with fail
  refine (c_toSolution _ _ _ _ _ (hx0.below BW) hf0.1.1 Hf0.out.1.2.1 hf0.2.1.1 Hf0.out.2.1.2.1).mono ?_; rintro e w2 ⟨t11, t12, rfl, ot1, hb2⟩
  have hs2 := hb2.size
  replace BW := bb BW hb2
  replace bx0 := bx0.under hb2
  clear cA0 cB0
  obtain ⟨cA0, cB0, -, -⟩ := two_cells bx0
  clear hb2
  go_wp2_with fail
  refine (c_toInt64S _ _ _ (hx1.below BW) (by omega)).mono ?_; rintro e w3 ⟨t2, rfl, ot2r, hb3⟩
  have hs3 := hb3.size
  replace ot1 := ot1.under hb3
  replace BW := bb BW hb3
  replace bx0 := bx0.under hb3
  clear cA0 cB0
  obtain ⟨cA0, cB0, -, -⟩ := two_cells bx0
  have ot2 := ot2r.inn
  clear ot2r
  clear hb3
  go_wp2_with fail
  refine (c_specRenameSolution _ _ _ _ _ _ _ (ot1.sol) (ot2.ints)).mono ?_
  rw [← HRA0.out, ← HRB0.out, ← HR1.out]
  rintro e w4 ⟨s01, s02, rfl, os0, hb4⟩
  have hs4 := hb4.size
  replace ot1 := ot1.under hb4
  replace ot2 := ot2.under hb4
  replace BW := bb BW hb4
  replace bx0 := bx0.under hb4
  clear cA0 cB0
  obtain ⟨cA0, cB0, -, -⟩ := two_cells bx0
  clear ot1
  clear ot2
  have hS := os0.sol
  clear os0
  obtain ⟨sas0, scs0, hvs0, _, _⟩ := hS.1.shape
  subst hvs0
  obtain ⟨sbs0, sds0, hvs0, _, _⟩ := hS.2.shape
  subst hvs0
  have BS : Below w4.heap.size w4 w4 := Below.refl _ _
  clear hb4
  obtain ⟨cA0z, cB0z, -, -⟩ := two_cells (bx0.alloc (.cells #[.slice sas0 RA0.length scs0, .slice sbs0 RB0.length sds0] 28))
  go_wp2_with fail
  clear cA0z cB0z
  obtain ⟨bxs0, hb5, hz5⟩ := boxes1 w4 [.slice sas0 RA0.length scs0, .slice sbs0 RB0.length sds0] 28
  obtain ⟨w5, hW5⟩ : ∃ W, w4.alloc (.cells #[.slice sas0 RA0.length scs0, .slice sbs0 RB0.length sds0] 28) = W := ⟨_, rfl⟩
  rw [hW5] at bxs0 hb5 hz5 ⊢
  have hs5 : w4.heap.size + 1 ≤ w5.heap.size := by omega
  clear hW5 hz5
  replace BW := bb BW hb5
  replace BS := bb BS hb5
  replace bx0 := bx0.under hb5
  clear cA0 cB0
  obtain ⟨cA0, cB0, -, -⟩ := two_cells bx0
  obtain ⟨cAs0, cBs0, -, -⟩ := two_cells bxs0
  clear hb5
  refine (c_toSolution _ _ _ _ _ (hx0.below BW) hf0.1.1 Hf0.out.1.2.1 hf0.2.1.1 Hf0.out.2.1.2.1).mono ?_; rintro e w6 ⟨z01, z02, rfl, oz0, hb6⟩
  have hs6 := hb6.size
  replace BW := bb BW hb6
  replace BS := bb BS hb6
  replace bx0 := bx0.under hb6
  clear cA0 cB0
  obtain ⟨cA0, cB0, -, -⟩ := two_cells bx0
  replace bxs0 := bxs0.under hb6
  clear cAs0 cBs0
  obtain ⟨cAs0, cBs0, -, -⟩ := two_cells bxs0
  clear hb6
  obtain ⟨saz0, scz0, hvz0, _, _⟩ := oz0.sol.1.shape
  subst hvz0
  obtain ⟨sbz0, sdz0, hvz0, _, _⟩ := oz0.sol.2.shape
  subst hvz0
  obtain ⟨cA0z, cB0z, -, -⟩ := two_cells (bx0.alloc (.cells #[.slice saz0 x0.length scz0, .slice sbz0 y0.length sdz0] 28))
  obtain ⟨cAs0z, cBs0z, -, -⟩ := two_cells (bxs0.alloc (.cells #[.slice saz0 x0.length scz0, .slice sbz0 y0.length sdz0] 28))
  go_wp2_with fail
  clear cA0z cB0z
  clear cAs0z cBs0z
  obtain ⟨bxz0, hb7, hz7⟩ := boxes1 w6 [.slice saz0 x0.length scz0, .slice sbz0 y0.length sdz0] 28
  obtain ⟨w7, hW7⟩ : ∃ W, w6.alloc (.cells #[.slice saz0 x0.length scz0, .slice sbz0 y0.length sdz0] 28) = W := ⟨_, rfl⟩
  rw [hW7] at bxz0 hb7 hz7 ⊢
  have hs7 : w6.heap.size + 1 ≤ w7.heap.size := by omega
  clear hW7 hz7
  replace oz0 := oz0.under hb7
  replace BW := bb BW hb7
  replace BS := bb BS hb7
  replace bx0 := bx0.under hb7
  clear cA0 cB0
  obtain ⟨cA0, cB0, -, -⟩ := two_cells bx0
  replace bxs0 := bxs0.under hb7
  clear cAs0 cBs0
  obtain ⟨cAs0, cBs0, -, -⟩ := two_cells bxs0
  obtain ⟨cAz0, cBz0, -, -⟩ := two_cells bxz0
  clear hb7
  refine (c_toInt64S _ _ _ (hx1.below BW) (by omega)).mono ?_; rintro e w8 ⟨z1, rfl, oz1r, hb8⟩
  have hs8 := hb8.size
  replace oz0 := oz0.under hb8
  replace BW := bb BW hb8
  replace BS := bb BS hb8
  replace bx0 := bx0.under hb8
  clear cA0 cB0
  obtain ⟨cA0, cB0, -, -⟩ := two_cells bx0
  replace bxs0 := bxs0.under hb8
  clear cAs0 cBs0
  obtain ⟨cAs0, cBs0, -, -⟩ := two_cells bxs0
  replace bxz0 := bxz0.under hb8
  clear cAz0 cBz0
  obtain ⟨cAz0, cBz0, -, -⟩ := two_cells bxz0
  have oz1 := oz1r.inn
  clear oz1r
  clear hb8
  go_wp2_with fail
  refine (c_RenameSolution _ _ _ _ _ _ _ (oz0.sol) (oz1.ints)).mono ?_
  rw [← HRA0.out, ← HRB0.out, ← HR1.out]
  rintro e w9 ⟨g01, g02, rfl, og0, hb9⟩
  have hs9 := hb9.size
  replace oz0 := oz0.under hb9
  replace oz1 := oz1.under hb9
  replace BW := bb BW hb9
  replace BS := bb BS hb9
  replace bx0 := bx0.under hb9
  clear cA0 cB0
  obtain ⟨cA0, cB0, -, -⟩ := two_cells bx0
  replace bxs0 := bxs0.under hb9
  clear cAs0 cBs0
  obtain ⟨cAs0, cBs0, -, -⟩ := two_cells bxs0
  replace bxz0 := bxz0.under hb9
  clear cAz0 cBz0
  obtain ⟨cAz0, cBz0, -, -⟩ := two_cells bxz0
  obtain ⟨sag0, scg0, hvg0, _, _⟩ := og0.sol.1.shape
  subst hvg0
  obtain ⟨sbg0, sdg0, hvg0, _, _⟩ := og0.sol.2.shape
  subst hvg0
  clear hb9
  obtain ⟨cA0z, cB0z, -, -⟩ := two_cells (bx0.alloc (.cells #[.slice sag0 RA0.length scg0, .slice sbg0 RB0.length sdg0] 28))
  obtain ⟨cAs0z, cBs0z, -, -⟩ := two_cells (bxs0.alloc (.cells #[.slice sag0 RA0.length scg0, .slice sbg0 RB0.length sdg0] 28))
  obtain ⟨cAz0z, cBz0z, -, -⟩ := two_cells (bxz0.alloc (.cells #[.slice sag0 RA0.length scg0, .slice sbg0 RB0.length sdg0] 28))
  go_wp2_with fail
  clear cA0z cB0z
  clear cAs0z cBs0z
  clear cAz0z cBz0z
  obtain ⟨bxg0, hb10, hz10⟩ := boxes1 w9 [.slice sag0 RA0.length scg0, .slice sbg0 RB0.length sdg0] 28
  obtain ⟨w10, hW10⟩ : ∃ W, w9.alloc (.cells #[.slice sag0 RA0.length scg0, .slice sbg0 RB0.length sdg0] 28) = W := ⟨_, rfl⟩
  rw [hW10] at bxg0 hb10 hz10 ⊢
  have hs10 : w9.heap.size + 1 ≤ w10.heap.size := by omega
  clear hW10 hz10
  replace oz0 := oz0.under hb10
  replace oz1 := oz1.under hb10
  replace og0 := og0.under hb10
  replace BW := bb BW hb10
  replace BS := bb BS hb10
  replace bx0 := bx0.under hb10
  clear cA0 cB0
  obtain ⟨cA0, cB0, -, -⟩ := two_cells bx0
  replace bxs0 := bxs0.under hb10
  clear cAs0 cBs0
  obtain ⟨cAs0, cBs0, -, -⟩ := two_cells bxs0
  replace bxz0 := bxz0.under hb10
  clear cAz0 cBz0
  obtain ⟨cAz0, cBz0, -, -⟩ := two_cells bxz0
  obtain ⟨cAg0, cBg0, -, -⟩ := two_cells bxg0
  clear hb10
  refine (c_eqS _ _ _ _ _ _ _ _ _ (og0.sol) (hS.below BS)).mono ?_; rintro e w11 ⟨rfl, hb11⟩
  have hs11 := hb11.size
  replace oz0 := oz0.under hb11
  replace oz1 := oz1.under hb11
  replace og0 := og0.under hb11
  replace BW := bb BW hb11
  replace BS := bb BS hb11
  replace bx0 := bx0.under hb11
  clear cA0 cB0
  obtain ⟨cA0, cB0, -, -⟩ := two_cells bx0
  replace bxs0 := bxs0.under hb11
  clear cAs0 cBs0
  obtain ⟨cAs0, cBs0, -, -⟩ := two_cells bxs0
  replace bxz0 := bxz0.under hb11
  clear cAz0 cBz0
  obtain ⟨cAz0, cBz0, -, -⟩ := two_cells bxz0
  replace bxg0 := bxg0.under hb11
  clear cAg0 cBg0
  obtain ⟨cAg0, cBg0, -, -⟩ := two_cells bxg0
  clear hb11
  go_wp2_with fail
  have BWd := BW.drew
  have oz0d := oz0.keep ((Keep.refl (fun _ => False) w11).drew) (fun _ _ _ h => h)
  have bx0d := bx0.drew
  have bxz0d := bxz0.drew
  go_region_held3 (fun w' => w'.cell? ⟨w.heap.size, 0, none⟩ = some (.slice a0 x0.length c0) ∧ w'.cell? ⟨w.heap.size, 1, none⟩ = some (.slice a0s y0.length c0s) ∧ w'.cell? ⟨w6.heap.size, 0, none⟩ = some (.slice saz0 x0.length scz0) ∧ w'.cell? ⟨w6.heap.size, 1, none⟩ = some (.slice sbz0 y0.length sdz0))
    (first | go_keep | exact ⟨(two_cells (bx0d.under hb12)).1, (two_cells (bx0d.under hb12)).2.1, (two_cells (bxz0d.under hb12)).1, (two_cells (bxz0d.under hb12)).2.1⟩ | exact ⟨(two_cells ((bx0d.under hb12).under hb13)).1, (two_cells ((bx0d.under hb12).under hb13)).2.1, (two_cells ((bxz0d.under hb12).under hb13)).1, (two_cells ((bxz0d.under hb12).under hb13)).2.1⟩)
    ((first | (go_at_call 17; refine (c_toSolution _ _ _ _ _ (hx0.below BWd) hf0.1.1 Hf0.out.1.2.1 hf0.2.1.1 Hf0.out.2.1.2.1).mono ?_; rintro e w12 ⟨t121, t122, rfl, ot12, hb12⟩) | (go_at_call 19; refine (c_eqS _ _ _ _ _ _ _ _ _ (oz0d.under hb12).sol ot12.sol).mono ?_; rintro e w13 ⟨rfl, hb13⟩)))
  have hb13z : Below w11.heap.size w11 w13 := (Below.refl _ _).drew.trans (bb hb12 hb13)
  have hs13 : w11.heap.size ≤ w13.heap.size := hb13z.size
  replace oz0 := oz0.under hb13z
  replace oz1 := oz1.under hb13z
  replace og0 := og0.under hb13z
  replace BW := bb BW hb13z
  replace BS := bb BS hb13z
  replace bx0 := bx0.under hb13z
  clear cA0 cB0
  obtain ⟨cA0, cB0, -, -⟩ := two_cells bx0
  replace bxs0 := bxs0.under hb13z
  clear cAs0 cBs0
  obtain ⟨cAs0, cBs0, -, -⟩ := two_cells bxs0
  replace bxz0 := bxz0.under hb13z
  clear cAz0 cBz0
  obtain ⟨cAz0, cBz0, -, -⟩ := two_cells bxz0
  replace bxg0 := bxg0.under hb13z
  clear cAg0 cBg0
  obtain ⟨cAg0, cBg0, -, -⟩ := two_cells bxg0
  clear BWd oz0d bx0d bxz0d ot12 hb12 hb13 hb13z
  go_wp2_with fail
  refine (c_toInt64S _ _ _ (hx1.below BW) (by omega)).mono ?_; rintro e w14 ⟨t3, rfl, ot3r, hb14⟩
  have hs14 := hb14.size
  replace oz0 := oz0.under hb14
  replace oz1 := oz1.under hb14
  replace og0 := og0.under hb14
  replace BW := bb BW hb14
  replace BS := bb BS hb14
  replace bx0 := bx0.under hb14
  clear cA0 cB0
  obtain ⟨cA0, cB0, -, -⟩ := two_cells bx0
  replace bxs0 := bxs0.under hb14
  clear cAs0 cBs0
  obtain ⟨cAs0, cBs0, -, -⟩ := two_cells bxs0
  replace bxz0 := bxz0.under hb14
  clear cAz0 cBz0
  obtain ⟨cAz0, cBz0, -, -⟩ := two_cells bxz0
  replace bxg0 := bxg0.under hb14
  clear cAg0 cBg0
  obtain ⟨cAg0, cBg0, -, -⟩ := two_cells bxg0
  have ot3 := ot3r.inn
  clear ot3r
  clear hb14
  go_wp2_with fail
  refine (c_eqI _ _ _ _ _ (oz1.ints) (ot3.ints)).mono ?_; rintro e w15 ⟨rfl, hb15⟩
  have hs15 := hb15.size
  replace oz0 := oz0.under hb15
  replace oz1 := oz1.under hb15
  replace og0 := og0.under hb15
  replace ot3 := ot3.under hb15
  replace BW := bb BW hb15
  replace BS := bb BS hb15
  replace bx0 := bx0.under hb15
  clear cA0 cB0
  obtain ⟨cA0, cB0, -, -⟩ := two_cells bx0
  replace bxs0 := bxs0.under hb15
  clear cAs0 cBs0
  obtain ⟨cAs0, cBs0, -, -⟩ := two_cells bxs0
  replace bxz0 := bxz0.under hb15
  clear cAz0 cBz0
  obtain ⟨cAz0, cBz0, -, -⟩ := two_cells bxz0
  replace bxg0 := bxg0.under hb15
  clear cAg0 cBg0
  obtain ⟨cAg0, cBg0, -, -⟩ := two_cells bxg0
  clear hb15
  clear ot3
  go_wp2_with fail
  refine (c_markS _ _ _ _ _ _ _ _ oz0 (by omega) (by omega) (by omega)).mono ?_; rintro e w16 ⟨rfl, oz0m, hkw16⟩
  have hs16 := hkw16.size
  replace oz1 := oz1.keep hkw16 (fun b p q r => by omega)
  replace og0 := og0.keep hkw16 (fun b p q r => by omega)
  replace bx0 := bx0.of_block (hkw16.block _ (by omega) (by omega))
  clear cA0 cB0
  obtain ⟨cA0, cB0, -, -⟩ := two_cells bx0
  replace bxs0 := bxs0.of_block (hkw16.block _ (by omega) (by omega))
  clear cAs0 cBs0
  obtain ⟨cAs0, cBs0, -, -⟩ := two_cells bxs0
  replace bxz0 := bxz0.of_block (hkw16.block _ (by omega) (by omega))
  clear cAz0 cBz0
  obtain ⟨cAz0, cBz0, -, -⟩ := two_cells bxz0
  replace bxg0 := bxg0.of_block (hkw16.block _ (by omega) (by omega))
  clear cAg0 cBg0
  obtain ⟨cAg0, cBg0, -, -⟩ := two_cells bxg0
  replace BW := below_keep BW hkw16 (by omega)
  replace BS := below_keep BS hkw16 (by omega)
  clear oz0
  have oz0 := oz0m
  clear oz0m hkw16
  clear oz0
  go_wp2_with fail
  refine (c_markI _ _ _ _ _ _ oz1 (by omega) (by omega)).mono ?_; rintro e w17 ⟨rfl, oz1m, hkw17⟩
  have hs17 := hkw17.size
  replace og0 := og0.keep hkw17 (fun b p q r => by omega)
  replace bx0 := bx0.of_block (hkw17.block _ (by omega) (by omega))
  clear cA0 cB0
  obtain ⟨cA0, cB0, -, -⟩ := two_cells bx0
  replace bxs0 := bxs0.of_block (hkw17.block _ (by omega) (by omega))
  clear cAs0 cBs0
  obtain ⟨cAs0, cBs0, -, -⟩ := two_cells bxs0
  replace bxz0 := bxz0.of_block (hkw17.block _ (by omega) (by omega))
  clear cAz0 cBz0
  obtain ⟨cAz0, cBz0, -, -⟩ := two_cells bxz0
  replace bxg0 := bxg0.of_block (hkw17.block _ (by omega) (by omega))
  clear cAg0 cBg0
  obtain ⟨cAg0, cBg0, -, -⟩ := two_cells bxg0
  replace BW := below_keep BW hkw17 (by omega)
  replace BS := below_keep BS hkw17 (by omega)
  clear oz1
  have oz1 := oz1m
  clear oz1m hkw17
  clear oz1
  go_wp2_with fail
  refine (c_eqS _ _ _ _ _ _ _ _ _ (og0.sol) (hS.below BS)).mono ?_; rintro e w18 ⟨rfl, hb18⟩
  have hs18 := hb18.size
  replace og0 := og0.under hb18
  replace BW := bb BW hb18
  replace BS := bb BS hb18
  replace bx0 := bx0.under hb18
  clear cA0 cB0
  obtain ⟨cA0, cB0, -, -⟩ := two_cells bx0
  replace bxs0 := bxs0.under hb18
  clear cAs0 cBs0
  obtain ⟨cAs0, cBs0, -, -⟩ := two_cells bxs0
  replace bxz0 := bxz0.under hb18
  clear cAz0 cBz0
  obtain ⟨cAz0, cBz0, -, -⟩ := two_cells bxz0
  replace bxg0 := bxg0.under hb18
  clear cAg0 cBg0
  obtain ⟨cAg0, cBg0, -, -⟩ := two_cells bxg0
  clear hb18
  go_wp2_with fail
  refine (c_markS _ _ _ _ _ _ _ _ og0 (by omega) (by omega) (by omega)).mono ?_; rintro e w19 ⟨rfl, og0m, hkw19⟩
  have hs19 := hkw19.size
  replace bx0 := bx0.of_block (hkw19.block _ (by omega) (by omega))
  clear cA0 cB0
  obtain ⟨cA0, cB0, -, -⟩ := two_cells bx0
  replace bxs0 := bxs0.of_block (hkw19.block _ (by omega) (by omega))
  clear cAs0 cBs0
  obtain ⟨cAs0, cBs0, -, -⟩ := two_cells bxs0
  replace bxz0 := bxz0.of_block (hkw19.block _ (by omega) (by omega))
  clear cAz0 cBz0
  obtain ⟨cAz0, cBz0, -, -⟩ := two_cells bxz0
  replace bxg0 := bxg0.of_block (hkw19.block _ (by omega) (by omega))
  clear cAg0 cBg0
  obtain ⟨cAg0, cBg0, -, -⟩ := two_cells bxg0
  replace BW := below_keep BW hkw19 (by omega)
  replace BS := below_keep BS hkw19 (by omega)
  clear og0
  have og0 := og0m
  clear og0m hkw19
  go_wp2_with fail
  refine (c_heldS _ _ _ _ _ _ (og0.sol) (by omega) (by omega)).mono ?_; rintro e w20 ⟨rfl, hb20⟩
  have hs20 := hb20.size
  replace og0 := og0.under hb20
  replace BW := bb BW hb20
  replace BS := bb BS hb20
  replace bx0 := bx0.under hb20
  clear cA0 cB0
  obtain ⟨cA0, cB0, -, -⟩ := two_cells bx0
  replace bxs0 := bxs0.under hb20
  clear cAs0 cBs0
  obtain ⟨cAs0, cBs0, -, -⟩ := two_cells bxs0
  replace bxz0 := bxz0.under hb20
  clear cAz0 cBz0
  obtain ⟨cAz0, cBz0, -, -⟩ := two_cells bxz0
  replace bxg0 := bxg0.under hb20
  clear cAg0 cBg0
  obtain ⟨cAg0, cBg0, -, -⟩ := two_cells bxg0
  clear hb20
  go_wp2_with fail
  refine (c_toSolution _ _ _ _ _ (hx0.below BW) hf0.1.1 Hf0.out.1.2.1 hf0.2.1.1 Hf0.out.2.1.2.1).mono ?_; rintro e w21 ⟨t41, t42, rfl, ot4, hb21⟩
  have hs21 := hb21.size
  replace og0 := og0.under hb21
  replace BW := bb BW hb21
  replace BS := bb BS hb21
  replace bx0 := bx0.under hb21
  clear cA0 cB0
  obtain ⟨cA0, cB0, -, -⟩ := two_cells bx0
  replace bxs0 := bxs0.under hb21
  clear cAs0 cBs0
  obtain ⟨cAs0, cBs0, -, -⟩ := two_cells bxs0
  replace bxz0 := bxz0.under hb21
  clear cAz0 cBz0
  obtain ⟨cAz0, cBz0, -, -⟩ := two_cells bxz0
  replace bxg0 := bxg0.under hb21
  clear cAg0 cBg0
  obtain ⟨cAg0, cBg0, -, -⟩ := two_cells bxg0
  clear hb21
  go_wp2_with fail
  refine (c_toInt64S _ _ _ (hx1.below BW) (by omega)).mono ?_; rintro e w22 ⟨t5, rfl, ot5r, hb22⟩
  have hs22 := hb22.size
  replace og0 := og0.under hb22
  replace ot4 := ot4.under hb22
  replace BW := bb BW hb22
  replace BS := bb BS hb22
  replace bx0 := bx0.under hb22
  clear cA0 cB0
  obtain ⟨cA0, cB0, -, -⟩ := two_cells bx0
  replace bxs0 := bxs0.under hb22
  clear cAs0 cBs0
  obtain ⟨cAs0, cBs0, -, -⟩ := two_cells bxs0
  replace bxz0 := bxz0.under hb22
  clear cAz0 cBz0
  obtain ⟨cAz0, cBz0, -, -⟩ := two_cells bxz0
  replace bxg0 := bxg0.under hb22
  clear cAg0 cBg0
  obtain ⟨cAg0, cBg0, -, -⟩ := two_cells bxg0
  have ot5 := ot5r.inn
  clear ot5r
  clear hb22
  go_wp2_with fail
  refine (c_RenameSolution _ _ _ _ _ _ _ (ot4.sol) (ot5.ints)).mono ?_
  rw [← HRA0.out, ← HRB0.out, ← HR1.out]
  rintro e w23 ⟨h01, h02, rfl, oh0, hb23⟩
  have hs23 := hb23.size
  replace og0 := og0.under hb23
  replace ot4 := ot4.under hb23
  replace ot5 := ot5.under hb23
  replace BW := bb BW hb23
  replace BS := bb BS hb23
  replace bx0 := bx0.under hb23
  clear cA0 cB0
  obtain ⟨cA0, cB0, -, -⟩ := two_cells bx0
  replace bxs0 := bxs0.under hb23
  clear cAs0 cBs0
  obtain ⟨cAs0, cBs0, -, -⟩ := two_cells bxs0
  replace bxz0 := bxz0.under hb23
  clear cAz0 cBz0
  obtain ⟨cAz0, cBz0, -, -⟩ := two_cells bxz0
  replace bxg0 := bxg0.under hb23
  clear cAg0 cBg0
  obtain ⟨cAg0, cBg0, -, -⟩ := two_cells bxg0
  obtain ⟨sah0, sch0, hvh0, _, _⟩ := oh0.sol.1.shape
  subst hvh0
  obtain ⟨sbh0, sdh0, hvh0, _, _⟩ := oh0.sol.2.shape
  subst hvh0
  clear ot4
  clear ot5
  clear hb23
  obtain ⟨cA0z, cB0z, -, -⟩ := two_cells (bx0.alloc (.cells #[.slice sah0 RA0.length sch0, .slice sbh0 RB0.length sdh0] 28))
  obtain ⟨cAs0z, cBs0z, -, -⟩ := two_cells (bxs0.alloc (.cells #[.slice sah0 RA0.length sch0, .slice sbh0 RB0.length sdh0] 28))
  obtain ⟨cAz0z, cBz0z, -, -⟩ := two_cells (bxz0.alloc (.cells #[.slice sah0 RA0.length sch0, .slice sbh0 RB0.length sdh0] 28))
  obtain ⟨cAg0z, cBg0z, -, -⟩ := two_cells (bxg0.alloc (.cells #[.slice sah0 RA0.length sch0, .slice sbh0 RB0.length sdh0] 28))
  go_wp2_with fail
  clear cA0z cB0z
  clear cAs0z cBs0z
  clear cAz0z cBz0z
  clear cAg0z cBg0z
  obtain ⟨bxh0, hb24, hz24⟩ := boxes1 w23 [.slice sah0 RA0.length sch0, .slice sbh0 RB0.length sdh0] 28
  obtain ⟨w24, hW24⟩ : ∃ W, w23.alloc (.cells #[.slice sah0 RA0.length sch0, .slice sbh0 RB0.length sdh0] 28) = W := ⟨_, rfl⟩
  rw [hW24] at bxh0 hb24 hz24 ⊢
  have hs24 : w23.heap.size + 1 ≤ w24.heap.size := by omega
  clear hW24 hz24
  replace og0 := og0.under hb24
  replace oh0 := oh0.under hb24
  replace BW := bb BW hb24
  replace BS := bb BS hb24
  replace bx0 := bx0.under hb24
  clear cA0 cB0
  obtain ⟨cA0, cB0, -, -⟩ := two_cells bx0
  replace bxs0 := bxs0.under hb24
  clear cAs0 cBs0
  obtain ⟨cAs0, cBs0, -, -⟩ := two_cells bxs0
  replace bxz0 := bxz0.under hb24
  clear cAz0 cBz0
  obtain ⟨cAz0, cBz0, -, -⟩ := two_cells bxz0
  replace bxg0 := bxg0.under hb24
  clear cAg0 cBg0
  obtain ⟨cAg0, cBg0, -, -⟩ := two_cells bxg0
  obtain ⟨cAh0, cBh0, -, -⟩ := two_cells bxh0
  clear hb24
  refine (c_eqS _ _ _ _ _ _ _ _ _ (oh0.sol) (hS.below BS)).mono ?_; rintro e w25 ⟨rfl, hb25⟩
  have hs25 := hb25.size
  replace og0 := og0.under hb25
  replace oh0 := oh0.under hb25
  replace BW := bb BW hb25
  replace BS := bb BS hb25
  replace bx0 := bx0.under hb25
  clear cA0 cB0
  obtain ⟨cA0, cB0, -, -⟩ := two_cells bx0
  replace bxs0 := bxs0.under hb25
  clear cAs0 cBs0
  obtain ⟨cAs0, cBs0, -, -⟩ := two_cells bxs0
  replace bxz0 := bxz0.under hb25
  clear cAz0 cBz0
  obtain ⟨cAz0, cBz0, -, -⟩ := two_cells bxz0
  replace bxg0 := bxg0.under hb25
  clear cAg0 cBg0
  obtain ⟨cAg0, cBg0, -, -⟩ := two_cells bxg0
  replace bxh0 := bxh0.under hb25
  clear cAh0 cBh0
  obtain ⟨cAh0, cBh0, -, -⟩ := two_cells bxh0
  clear hb25
  go_wp2_with fail
  refine (c_heldS _ _ _ _ _ _ (og0.sol) (by omega) (by omega)).mono ?_; rintro e w26 ⟨rfl, hb26⟩
  have hs26 := hb26.size
  replace og0 := og0.under hb26
  replace oh0 := oh0.under hb26
  replace BW := bb BW hb26
  replace BS := bb BS hb26
  replace bx0 := bx0.under hb26
  clear cA0 cB0
  obtain ⟨cA0, cB0, -, -⟩ := two_cells bx0
  replace bxs0 := bxs0.under hb26
  clear cAs0 cBs0
  obtain ⟨cAs0, cBs0, -, -⟩ := two_cells bxs0
  replace bxz0 := bxz0.under hb26
  clear cAz0 cBz0
  obtain ⟨cAz0, cBz0, -, -⟩ := two_cells bxz0
  replace bxg0 := bxg0.under hb26
  clear cAg0 cBg0
  obtain ⟨cAg0, cBg0, -, -⟩ := two_cells bxg0
  replace bxh0 := bxh0.under hb26
  clear cAh0 cBh0
  obtain ⟨cAh0, cBh0, -, -⟩ := two_cells bxh0
  clear hb26
  have HB := Lib.hid BW
  clear BW BS hS og0 oh0 hx0 hx1 bx0 bxs0 bxz0 bxg0 bxh0
  go_wp2
  go_ret
  exact ⟨rfl, HB.out⟩
end Go.Proofs.Ytdhbleiioagmlaa
