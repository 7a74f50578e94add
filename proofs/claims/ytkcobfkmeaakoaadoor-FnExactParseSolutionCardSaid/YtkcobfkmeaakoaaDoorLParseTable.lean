/-
  The law FnExactParseTable answers true, and leaves what was there as it was: at every text, where the library's variable holds some integer.
-/
import Derived.Test.YtkcobfkmeaakoaaDoorQ3
import Derived.Test.YtkcobfkmeaakoaaDoorLawC
namespace Go.Proofs.YtkcobfkmeaakoaaDoor
set_option linter.unusedVariables false
set_option linter.unusedSimpArgs false
open Go Go.RowKit

def ptCode (l : List UInt8) : Int := if tOk l then 0 else 6
theorem tRes_no {l : List UInt8} (h : tOk l = false) : tRes l = [] := by simp [tRes, h]
theorem rtab_end {w : World} {l : List UInt8} {r : Value} {Y : List (List Int)} {w' : World} (ho : OwnRows w.heap.size w' r Y) (hY : tOk l = true → Y = tRes l) (h : tOk l = true) : OwnRows w.heap.size w' r (tRes l) := by
  rw [← hY h]; exact ho

set_option maxHeartbeats 400000 in
theorem c_specParseTable (s : ByteArray) (w : World) (hn : s.size ≤ 1048576) :
    Calls Tryd.prog 5 #[.string s] w (RRowsC w (tRes s.data.toList) (ptCode s.data.toList)) := by
  go_enter Tryd.func5, Tryd.ntmps5
  go_wp2_with fail
  refine (c_l01Parse _ _ hn).mono ?_; rintro e w1 ⟨r, Y, rfl, ho, hY, hb⟩
  have HB := Lib.hid hb
  by_cases h1 : tOk s.data.toList = true
  · have HO := Lib.hid (rtab_end ho hY h1)
    obtain ⟨ra, rc, hr, -⟩ := HO.out.rows.shape
    subst hr
    have H1 := Lib.hid h1
    rw [h1]
    clear ho hY hb h1
    go_wp2
    go_ret2
    exact ⟨_, by simp [ptCode, H1.out], HO.out, HB.out⟩
  · have h2 : tOk s.data.toList = false := by simpa using h1
    have H1 := Lib.hid h2
    obtain ⟨ra, rc, hr, -⟩ := ho.rows.shape
    subst hr
    rw [h2]
    clear ho hY hb h1 h2
    go_wp2
    go_ret2
    exact ⟨.slice none 0 0, by simp [ptCode, H1.out], by rw [tRes_no H1.out]; exact OwnRows.nil _ _, HB.out⟩

set_option maxHeartbeats 400000 in
theorem c_ParseTable (s : ByteArray) (m : Int) (w : World) (hm : w.cell? ⟨0, 0, none⟩ = some (.int .i64 m)) (hn : s.size ≤ 1048576) :
    Calls Tryd.prog 6 #[.string s] w (RRowsC w (tRes s.data.toList) (ptCode s.data.toList)) := by
  have HM := Lib.hid hm; clear hm
  go_enter Tryd.func6, Tryd.ntmps6
  go_wp2_with fail
  refine (c_readTable _ m _ HM.out hn).mono ?_; rintro e w1 ⟨r, Y, rfl, ho, hY, hb⟩
  have HB := Lib.hid hb
  by_cases h1 : tOk s.data.toList = true
  · have HO := Lib.hid (rtab_end ho hY h1)
    obtain ⟨ra, rc, hr, -⟩ := HO.out.rows.shape
    subst hr
    have H1 := Lib.hid h1
    rw [h1]
    clear ho hY hb h1
    go_wp2
    go_ret2
    exact ⟨_, by simp [ptCode, H1.out], HO.out, HB.out⟩
  · have h2 : tOk s.data.toList = false := by simpa using h1
    have H1 := Lib.hid h2
    obtain ⟨ra, rc, hr, -⟩ := ho.rows.shape
    subst hr
    rw [h2]
    clear ho hY hb h1 h2
    go_wp2
    go_ret2
    exact ⟨.slice none 0 0, by simp [ptCode, H1.out], by rw [tRes_no H1.out]; exact OwnRows.nil _ _, HB.out⟩
theorem total_le12 : ∀ (t : List (List Int)), (∀ r ∈ t, r.length ≤ 12) → total t ≤ t.length * 12
  | [], _ => by simp [total]
  | a :: t, h => by
    have h1 := h a (by simp)
    have h2 := total_le12 t fun x hx => h x (by simp [hx])
    simp [total, Nat.add_mul]; omega
theorem tRes_total (l : List UInt8) : total (tRes l) ≤ 144 := by
  cases h : tOk l
  · rw [tRes_no h]; simp [total]
  · have h2 := h
    unfold tOk at h2
    rw [Bool.and_eq_true] at h2
    have ht := h2.2
    rw [← tRes_ok h] at ht
    have hl := isTab_len ht
    have h1 := total_le12 (tRes l) fun r hr => by
      obtain ⟨i, hi, rfl⟩ := List.getElem_of_mem hr
      have := isTab_row ht (x := (i : Int)) (by omega) (by omega)
      rw [row_nat _ _ hi] at this; omega
    omega
theorem cut_waysParseTable {p G : Prop} (k : Hid p → G) (h : p) : G := k (Lib.hid h)
set_option maxHeartbeats 16000000 in
theorem law_ParseTable (s0 : ByteArray) (m : Int) (w : World) (hm : w.cell? ⟨0, 0, none⟩ = some (.int .i64 m)) (hs0 : s0.size ≤ maxLen) :
    Calls Tryd.prog 3 #[.string s0] w (RVal w (.bool true)) := by
  have HM := Lib.hid hm; clear hm
  by_cases hn0 : s0.size ≤ 1048576
  case neg =>
    go_enter Tryd.func3, Tryd.ntmps3
    go_wp2
    go_ret
    exact ⟨rfl, by first | exact Below.refl _ _ | exact (Below.refl _ _).alloc (Nat.le_refl _) _ | exact ((Below.refl _ _).alloc (Nat.le_refl _) _).alloc (by simp) _⟩
  go_enter Tryd.func3, Tryd.ntmps3
  have BW : Below w.heap.size w w := Below.refl _ _
  have hB0 : total (tRes s0.data.toList) ≤ 1152921504606846976 := by have := tRes_total s0.data.toList; omega
  obtain ⟨R0, hR0⟩ : ∃ z, z = tRes s0.data.toList := ⟨_, rfl⟩
  obtain ⟨R1, hR1⟩ : ∃ z, z = ptCode s0.data.toList := ⟨_, rfl⟩
  rw [← hR0] at hB0
  have HR0 := Lib.hid hR0
  clear hR0
  have HR1 := Lib.hid hR1
  clear hR1
  have hd0 : decide (R0 = R0) = true := by simp
  have hk1 : (R1 != R1) = false := by simp
  have hq0 : ((1 + (total R0 : Int)) != (1 + (total R0 : Int))) = false := by simp
  go_wp2_with fail
  refine (c_specParseTable _ _ hn0).mono ?_
  rw [← HR0.out, ← HR1.out]
  rintro e w1 ⟨s0, rfl, os0r, hb1⟩
  have hs1 := hb1.size
  replace BW := bb BW hb1
  have hS := os0r.rows
  clear os0r
  have BS : Below w1.heap.size w1 w1 := Below.refl _ _
  clear hb1
  go_wp2_with fail
  refine (c_ParseTable _ m _ (cell_under BW HM.out) hn0).mono ?_
  rw [← HR0.out, ← HR1.out]
  rintro e w2 ⟨g0, rfl, og0r, hb2⟩
  have hs2 := hb2.size
  replace BW := bb BW hb2
  replace BS := bb BS hb2
  have og0 := og0r.inn
  clear og0r
  clear hb2
  go_wp2_with fail
  refine (c_eqR _ _ _ _ _ (og0.rows) (hS.below BS)).mono ?_; rintro e w3 ⟨rfl, hb3⟩
  have hs3 := hb3.size
  replace og0 := og0.under hb3
  replace BW := bb BW hb3
  replace BS := bb BS hb3
  clear hb3
  go_wp2_with fail
  refine (c_markR _ _ _ _ _ _ og0 (by omega) (by omega)).mono ?_; rintro e w4 ⟨rfl, og0m, hkw4⟩
  have hs4 := hkw4.size
  replace BW := below_keep BW hkw4 (by omega)
  replace BS := below_keep BS hkw4 (by omega)
  clear og0
  have og0 := og0m
  clear og0m hkw4
  go_wp2_with fail
  refine (c_heldR _ _ _ _ (og0.rows) (by omega) (by omega)).mono ?_; rintro e w5 ⟨rfl, hb5⟩
  have hs5 := hb5.size
  replace og0 := og0.under hb5
  replace BW := bb BW hb5
  replace BS := bb BS hb5
  clear hb5
  go_wp2_with fail
  refine (c_ParseTable _ m _ (cell_under BW HM.out) hn0).mono ?_
  rw [← HR0.out, ← HR1.out]
  rintro e w6 ⟨h0, rfl, oh0r, hb6⟩
  have hs6 := hb6.size
  replace og0 := og0.under hb6
  replace BW := bb BW hb6
  replace BS := bb BS hb6
  have oh0 := oh0r.inn
  clear oh0r
  clear hb6
  go_wp2_with fail
  refine (c_eqR _ _ _ _ _ (oh0.rows) (hS.below BS)).mono ?_; rintro e w7 ⟨rfl, hb7⟩
  have hs7 := hb7.size
  replace og0 := og0.under hb7
  replace oh0 := oh0.under hb7
  replace BW := bb BW hb7
  replace BS := bb BS hb7
  clear hb7
  go_wp2_with fail
  refine (c_heldR _ _ _ _ (og0.rows) (by omega) (by omega)).mono ?_; rintro e w8 ⟨rfl, hb8⟩
  have hs8 := hb8.size
  replace og0 := og0.under hb8
  replace oh0 := oh0.under hb8
  replace BW := bb BW hb8
  replace BS := bb BS hb8
  clear hb8
  have HB := Lib.hid BW
  clear BW BS hS og0 oh0
  go_wp2
  go_ret
  exact ⟨rfl, HB.out⟩
end Go.Proofs.YtkcobfkmeaakoaaDoor
