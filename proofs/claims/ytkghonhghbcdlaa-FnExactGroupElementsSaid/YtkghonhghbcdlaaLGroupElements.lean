/-
  The law FnExactGroupElements answers true, and leaves what was there as it was.
-/
import Derived.Test.YtkghonhghbcdlaaG7
import Derived.Test.YtkghonhghbcdlaaI15
namespace Go.Proofs.Ytkghonhghbcdlaa
set_option linter.unusedVariables false
set_option linter.unusedSimpArgs false
open Go.RowKit

noncomputable def grpRes (n : Int) (L : List (List Int)) : List (List Int) := if sysL n L then (if gOk n.toNat L then gSort (gAll n.toNat L) else []) else []
noncomputable def grpCode (n : Int) (L : List (List Int)) : Int := if sysL n L then (if gOk n.toNat L then 0 else 3) else 1
theorem total_le12 : ∀ S : List (List Int), (∀ r ∈ S, r.length ≤ 12) → total S ≤ S.length * 12
  | [], _ => by simp [total]
  | r :: S, h => by
    have h1 := total_le12 S (fun x hx => h x (List.mem_cons_of_mem _ hx))
    have h2 := h r (List.mem_cons_self ..)
    simp only [total, List.length_cons]; omega
theorem total_grpRes (n : Int) (L : List (List Int)) : total (grpRes n L) ≤ 1152921504606846976 := by
  unfold grpRes
  split
  · rename_i h
    split
    · rename_i hok
      have hg := gAt_gr (sysL_ok h) (1000 * L.length)
      have h1 := sysL_n h
      have h2 := total_le12 (gSort (gAll n.toNat L)) (fun r hr => by
        have := (hg.perm r (mem_gSort.1 hr)).2
        omega)
      have h3 := (gSort_perm (gAll n.toNat L)).length_eq
      have h4 : (gAll n.toNat L).length ≤ 1000 := by simpa [gOk] using hok
      omega
    · simp [total]
  · simp [total]

set_option maxRecDepth 100000 in
set_option maxHeartbeats 800000 in
theorem c_GroupElements (n : Int) (v1 : Value) (L : List (List Int)) (w : World) (hln : -9223372036854775808 ≤ n) (hun : n ≤ 9223372036854775807) (hL : Rows w v1 L)  :
    Calls Try.prog 27 #[.int .i64 n, v1] w (RRowsC w (grpRes n L) (grpCode n L)) := by
  by_cases hp0 : sysL n L = true
  case neg =>
    have hq0 : sysL n L = false := by simpa using hp0
    have HQ := Lib.hid hq0; clear hp0
    obtain ⟨a1, c1, rfl, hc1, hm1⟩ := hL.shape
    go_enter Try.func27, Try.ntmps27
    go_wp2_with fail
    refine (c_isSystem _ _ _ _ (hL.below (Below.refl _ _))).mono ?_; rintro e g0 ⟨rfl, hbg0⟩
    have hB0 := hbg0
    clear hbg0
    have HB := Lib.hid hB0
    clear hB0
    go_wp2
    go_ret2
    exact ⟨.slice none 0 0, by simp [grpCode, HQ.out], by simpa [grpRes, HQ.out] using OwnRows.nil _ _, HB.out⟩
  have HP0 := Lib.hid hp0
  obtain ⟨a1, c1, rfl, hc1, hm1⟩ := hL.shape
  go_enter Try.func27, Try.ntmps27
  go_wp2_with fail
  refine (c_isSystem _ _ _ _ (hL.below (Below.refl _ _))).mono ?_; rintro e g0 ⟨rfl, hbg0⟩
  have hB0 := hbg0
  clear hbg0
  obtain ⟨h1, h2, h3⟩ := sysL_n HP0.out
  obtain ⟨N, rfl⟩ : ∃ N : Nat, n = N := ⟨n.toNat, by omega⟩
  go_wp2_with fail
  refine (c_groupElements N _ L _ (hL.below hB0) (by omega) (by omega) h3 (sysL_ok HP0.out)).mono ?_; rintro e w2 ⟨r, X, rfl, ho, hX, hb⟩
  obtain ⟨ra, rc, rfl, -⟩ := ho.rows.shape
  have HO := Lib.hid (ho.mono hB0.size); have HB := Lib.hid (bb hB0 hb); have HXe := Lib.hid hX; clear ho hb hX
  clear hB0 hL
  by_cases hok : gOk N L = true
  · have HOk := Lib.hid hok
    rw [hok]; clear hok
    go_wp2
    go_ret2
    exact ⟨.slice ra X.length rc, by simp [grpCode, HP0.out, HOk.out], by have h : grpRes (N : Int) L = X := (by simp [grpRes, HP0.out, HOk.out, HXe.out HOk.out]); rw [h]; exact HO.out, HB.out⟩
  · have hok : gOk N L = false := by simpa using hok
    have HOk := Lib.hid hok
    rw [hok]; clear hok
    go_wp2
    go_ret2
    exact ⟨.slice none 0 0, by simp [grpCode, HP0.out, HOk.out], by simpa [grpRes, HP0.out, HOk.out] using OwnRows.nil _ _, HB.out⟩

theorem c_l01SystemG (n : Int) (v : Value) (L : List (List Int)) (w : World) (hx : Rows w v L) : Calls Try.prog 65 #[.int .i64 n, v] w (RVal w (.bool (sysL n L))) := (c_l01System n v L w hx).mono (by rintro e w' ⟨rfl, rfl⟩; exact ⟨rfl, Below.refl _ _⟩)

set_option maxRecDepth 100000 in
set_option maxHeartbeats 800000 in
theorem c_specGroupElements (n : Int) (v1 : Value) (L : List (List Int)) (w : World) (hln : -9223372036854775808 ≤ n) (hun : n ≤ 9223372036854775807) (hL : Rows w v1 L)  :
    Calls Try.prog 25 #[.int .i64 n, v1] w (RRowsC w (grpRes n L) (grpCode n L)) := by
  by_cases hp0 : sysL n L = true
  case neg =>
    have hq0 : sysL n L = false := by simpa using hp0
    have HQ := Lib.hid hq0; clear hp0
    obtain ⟨a1, c1, rfl, hc1, hm1⟩ := hL.shape
    go_enter Try.func25, Try.ntmps25
    go_wp2_with fail
    refine (c_l01SystemG _ _ _ _ (hL.below (Below.refl _ _))).mono ?_; rintro e g0 ⟨rfl, hbg0⟩
    have hB0 := hbg0
    clear hbg0
    have HB := Lib.hid hB0
    clear hB0
    go_wp2
    go_ret2
    exact ⟨.slice none 0 0, by simp [grpCode, HQ.out], by simpa [grpRes, HQ.out] using OwnRows.nil _ _, HB.out⟩
  have HP0 := Lib.hid hp0
  obtain ⟨a1, c1, rfl, hc1, hm1⟩ := hL.shape
  go_enter Try.func25, Try.ntmps25
  go_wp2_with fail
  refine (c_l01SystemG _ _ _ _ (hL.below (Below.refl _ _))).mono ?_; rintro e g0 ⟨rfl, hbg0⟩
  have hB0 := hbg0
  clear hbg0
  obtain ⟨h1, h2, h3⟩ := sysL_n HP0.out
  obtain ⟨N, rfl⟩ : ∃ N : Nat, n = N := ⟨n.toNat, by omega⟩
  go_wp2_with fail
  refine (c_l01Group N _ L _ (hL.below hB0) (by omega) (by omega) h3 (sysL_ok HP0.out)).mono ?_; rintro e w2 ⟨r, X, rfl, ho, hX, hb⟩
  obtain ⟨ra, rc, rfl, -⟩ := ho.rows.shape
  have HO := Lib.hid (ho.mono hB0.size); have HB := Lib.hid (bb hB0 hb); have HXe := Lib.hid hX; clear ho hb hX
  clear hB0 hL
  by_cases hok : gOk N L = true
  · have HOk := Lib.hid hok
    rw [hok]; clear hok
    go_wp2
    go_ret2
    exact ⟨.slice ra X.length rc, by simp [grpCode, HP0.out, HOk.out], by have h : grpRes (N : Int) L = X := (by simp [grpRes, HP0.out, HOk.out, HXe.out HOk.out]); rw [h]; exact HO.out, HB.out⟩
  · have hok : gOk N L = false := by simpa using hok
    have HOk := Lib.hid hok
    rw [hok]; clear hok
    go_wp2
    go_ret2
    exact ⟨.slice none 0 0, by simp [grpCode, HP0.out, HOk.out], by simpa [grpRes, HP0.out, HOk.out] using OwnRows.nil _ _, HB.out⟩
theorem cut_waysGroupElements {p G : Prop} (k : Hid p → G) (h : p) : G := k (Lib.hid h)
set_option maxHeartbeats 16000000 in
theorem law_GroupElements (n0 : Int) (v1 : Value) (x1 : List (List Int)) (w : World) (hl0 : -9223372036854775808 ≤ n0) (hu0 : n0 ≤ 9223372036854775807) (hx1 : Rows w v1 x1) :
    Calls Try.prog 5 #[.int .i64 n0, v1] w (RVal w (.bool true)) := by
  obtain ⟨a1, c1, rfl, hc1, hm1⟩ := hx1.shape
  go_enter Try.func5, Try.ntmps5
  have BW : Below w.heap.size w w := Below.refl _ _
  go_wp2_with fail
  refine (c_szInt64SS _ _ _ _ (hx1.below BW) (by omega) (by omega)).mono ?_; rintro e w1 ⟨rfl, rfl⟩
  by_cases hg1 : leftR x1 (1048576) < 0
  case pos =>
    have HB := Lib.hid BW; clear BW
    go_wp2
    go_ret
    exact ⟨rfl, HB.out⟩
  have hf1 := leftR_fits (left := 1048576) (by omega) (by omega) hg1
  have Hf1 := Lib.hid hf1
  clear hf1
  have hf1 : x1.length ≤ 1048576 ∧ total x1 ≤ 1048576 ∧ 0 ≤ leftR x1 (1048576) ∧ leftR x1 (1048576) ≤ 1048576 := ⟨Hf1.out.1, Hf1.out.2.2⟩
  have hB0 : total (grpRes n0 x1) ≤ 1152921504606846976 := by exact total_grpRes n0 x1
  obtain ⟨R0, hR0⟩ : ∃ z, z = grpRes n0 x1 := ⟨_, rfl⟩
  obtain ⟨R1, hR1⟩ : ∃ z, z = grpCode n0 x1 := ⟨_, rfl⟩
  rw [← hR0] at hB0
  have HR0 := Lib.hid hR0
  clear hR0
  have HR1 := Lib.hid hR1
  clear hR1
  have hd0 : decide (R0 = R0) = true := by simp
  have hk1 : (R1 != R1) = false := by simp
  have hda1 : decide (x1 = x1) = true := by simp
  have hq0 : ((1 + (total R0 : Int)) != (1 + (total R0 : Int))) = false := by simp
  go_wp2_with fail
  refine (c_toInt64SS _ _ _ (hx1.below BW) hf1.1 Hf1.out.2.1).mono ?_; rintro e w1 ⟨t1, rfl, ot1r, hb1⟩
  have hs1 := hb1.size
  replace BW := bb BW hb1
  have ot1 := ot1r.inn
  clear ot1r
  clear hb1
  go_wp2_with fail
  refine (c_specGroupElements _ _ _ _ hl0 hu0 (ot1.rows)).mono ?_
  rw [← HR0.out, ← HR1.out]
  rintro e w2 ⟨s0, rfl, os0r, hb2⟩
  have hs2 := hb2.size
  replace ot1 := ot1.under hb2
  replace BW := bb BW hb2
  clear ot1
  have hS := os0r.rows
  clear os0r
  have BS : Below w2.heap.size w2 w2 := Below.refl _ _
  clear hb2
  go_wp2_with fail
  refine (c_toInt64SS _ _ _ (hx1.below BW) hf1.1 Hf1.out.2.1).mono ?_; rintro e w3 ⟨z1, rfl, oz1r, hb3⟩
  have hs3 := hb3.size
  replace BW := bb BW hb3
  replace BS := bb BS hb3
  have oz1 := oz1r.inn
  clear oz1r
  clear hb3
  go_wp2_with fail
  refine (c_GroupElements _ _ _ _ hl0 hu0 (oz1.rows)).mono ?_
  rw [← HR0.out, ← HR1.out]
  rintro e w4 ⟨g0, rfl, og0r, hb4⟩
  have hs4 := hb4.size
  replace oz1 := oz1.under hb4
  replace BW := bb BW hb4
  replace BS := bb BS hb4
  have og0 := og0r.inn
  clear og0r
  clear hb4
  go_wp2_with fail
  refine (c_eqR _ _ _ _ _ (og0.rows) (hS.below BS)).mono ?_; rintro e w5 ⟨rfl, hb5⟩
  have hs5 := hb5.size
  replace oz1 := oz1.under hb5
  replace og0 := og0.under hb5
  replace BW := bb BW hb5
  replace BS := bb BS hb5
  clear hb5
  go_wp2_with fail
  refine (c_toInt64SS _ _ _ (hx1.below BW) hf1.1 Hf1.out.2.1).mono ?_; rintro e w6 ⟨t2, rfl, ot2r, hb6⟩
  have hs6 := hb6.size
  replace oz1 := oz1.under hb6
  replace og0 := og0.under hb6
  replace BW := bb BW hb6
  replace BS := bb BS hb6
  have ot2 := ot2r.inn
  clear ot2r
  clear hb6
  go_wp2_with fail
  refine (c_eqR _ _ _ _ _ (oz1.rows) (ot2.rows)).mono ?_; rintro e w7 ⟨rfl, hb7⟩
  have hs7 := hb7.size
  replace oz1 := oz1.under hb7
  replace og0 := og0.under hb7
  replace ot2 := ot2.under hb7
  replace BW := bb BW hb7
  replace BS := bb BS hb7
  clear hb7
  clear ot2
  go_wp2_with fail
  refine (c_markR _ _ _ _ _ _ oz1 (by omega) (by omega)).mono ?_; rintro e w8 ⟨rfl, oz1m, hkw8⟩
  have hs8 := hkw8.size
  replace og0 := og0.keep hkw8 (fun b p q r => by omega)
  replace BW := below_keep BW hkw8 (by omega)
  replace BS := below_keep BS hkw8 (by omega)
  clear oz1
  have oz1 := oz1m
  clear oz1m hkw8
  clear oz1
  go_wp2_with fail
  refine (c_eqR _ _ _ _ _ (og0.rows) (hS.below BS)).mono ?_; rintro e w9 ⟨rfl, hb9⟩
  have hs9 := hb9.size
  replace og0 := og0.under hb9
  replace BW := bb BW hb9
  replace BS := bb BS hb9
  clear hb9
  go_wp2_with fail
  refine (c_markR _ _ _ _ _ _ og0 (by omega) (by omega)).mono ?_; rintro e w10 ⟨rfl, og0m, hkw10⟩
  have hs10 := hkw10.size
  replace BW := below_keep BW hkw10 (by omega)
  replace BS := below_keep BS hkw10 (by omega)
  clear og0
  have og0 := og0m
  clear og0m hkw10
  go_wp2_with fail
  refine (c_heldR _ _ _ _ (og0.rows) (by omega) (by omega)).mono ?_; rintro e w11 ⟨rfl, hb11⟩
  have hs11 := hb11.size
  replace og0 := og0.under hb11
  replace BW := bb BW hb11
  replace BS := bb BS hb11
  clear hb11
  go_wp2_with fail
  refine (c_toInt64SS _ _ _ (hx1.below BW) hf1.1 Hf1.out.2.1).mono ?_; rintro e w12 ⟨t3, rfl, ot3r, hb12⟩
  have hs12 := hb12.size
  replace og0 := og0.under hb12
  replace BW := bb BW hb12
  replace BS := bb BS hb12
  have ot3 := ot3r.inn
  clear ot3r
  clear hb12
  go_wp2_with fail
  refine (c_GroupElements _ _ _ _ hl0 hu0 (ot3.rows)).mono ?_
  rw [← HR0.out, ← HR1.out]
  rintro e w13 ⟨h0, rfl, oh0r, hb13⟩
  have hs13 := hb13.size
  replace og0 := og0.under hb13
  replace ot3 := ot3.under hb13
  replace BW := bb BW hb13
  replace BS := bb BS hb13
  have oh0 := oh0r.inn
  clear oh0r
  clear ot3
  clear hb13
  go_wp2_with fail
  refine (c_eqR _ _ _ _ _ (oh0.rows) (hS.below BS)).mono ?_; rintro e w14 ⟨rfl, hb14⟩
  have hs14 := hb14.size
  replace og0 := og0.under hb14
  replace oh0 := oh0.under hb14
  replace BW := bb BW hb14
  replace BS := bb BS hb14
  clear hb14
  go_wp2_with fail
  refine (c_heldR _ _ _ _ (og0.rows) (by omega) (by omega)).mono ?_; rintro e w15 ⟨rfl, hb15⟩
  have hs15 := hb15.size
  replace og0 := og0.under hb15
  replace oh0 := oh0.under hb15
  replace BW := bb BW hb15
  replace BS := bb BS hb15
  clear hb15
  have HB := Lib.hid BW
  clear BW BS hS og0 oh0 hx1
  go_wp2
  go_ret
  exact ⟨rfl, HB.out⟩
end Go.Proofs.Ytkghonhghbcdlaa
