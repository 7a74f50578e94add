/-
  The law FnExactParseSolution answers true, and leaves what was there as it was: at every text, where the library's variable holds some integer.
-/
import Derived.Test.YtkcobfkmeaakoaaDoorQ3
import Derived.Test.YtkcobfkmeaakoaaDoorLawC
import Derived.Test.YtkcobfkmeaakoaaDoorS2b
import Derived.Test.YtkcobfkmeaakoaaDoorLParseTable
namespace Go.Proofs.YtkcobfkmeaakoaaDoor
set_option linter.unusedVariables false
set_option linter.unusedSimpArgs false
open Go Go.RowKit

theorem cut_hit' {a : List UInt8} (r : List UInt8) (h : (124 : UInt8) ∉ a) : Lib.cut (a ++ 124 :: r) [124] = (a, r, true) := by
  have hi := index_app r h
  unfold Lib.cut
  rw [hi]
  simp
theorem cut_miss' {l : List UInt8} (h : (124 : UInt8) ∉ l) : Lib.cut l [124] = (l, [], false) := by
  have hi := index_not h
  unfold Lib.cut
  rw [hi]
  simp
/-- What is read behind the cut. -/
theorem cut_ok (l : List UInt8) : ∃ a r b, Lib.cut l [124] = (a, r, b) ∧ sOk l = (tOk a && tOk r && isPM (tRes a) (tRes r)) ∧ (sOk l = true → sRA l = tRes a ∧ sRB l = tRes r) ∧ a.length ≤ l.length ∧ r.length ≤ l.length := by
  by_cases h : (124 : UInt8) ∈ l
  · obtain ⟨a, r, rfl, ha⟩ := List.eq_append_cons_of_mem h
    refine ⟨a, r, true, cut_hit' r ha, ?_, ?_, by simp, by simp; omega⟩
    · by_cases hr : (124 : UInt8) ∈ r
      · obtain ⟨h1, h2⟩ := cut_more ha hr
        rw [h1, h2]; simp
      · exact (cut_one ha hr).1
    · intro hs
      by_cases hr : (124 : UInt8) ∈ r
      · rw [(cut_more ha hr).1] at hs; cases hs
      · exact (cut_one ha hr).2 hs
  · refine ⟨l, [], false, cut_miss' h, ?_, ?_, Nat.le_refl _, by simp⟩
    · rw [cut_no h, tOk_nil]; simp
    · intro hs; rw [cut_no h] at hs; cases hs
theorem bytes_toList (a : List UInt8) : (⟨a.toArray⟩ : ByteArray).data.toList = a := by simp
theorem bytes_size (a : List UInt8) : (⟨a.toArray⟩ : ByteArray).size = a.length := by show a.toArray.size = _; simp
theorem sR_no {l : List UInt8} (h : sOk l = false) : sRA l = [] := by simp [sRA, h]
theorem sR_no2 {l : List UInt8} (h : sOk l = false) : sRB l = [] := by simp [sRB, h]
def psCode (l : List UInt8) : Int := if sOk l then 0 else 6

set_option maxHeartbeats 4000000 in
theorem c_ParseSolution (s : ByteArray) (m : Int) (w : World) (hm : w.cell? ⟨0, 0, none⟩ = some (.int .i64 m)) (hn : s.size ≤ 1048576) :
    Calls Tryd.prog 11 #[.string s] w (RSolC w (sRA s.data.toList) (sRB s.data.toList) (psCode s.data.toList)) := by
  obtain ⟨HF0, HB0, hsz⟩ := boxes1' w [.slice none 0 0, .slice none 0 0] 29
  obtain ⟨a, r, b, hcut, hok, hres, hla, hlr⟩ := cut_ok s.data.toList
  have hl : s.data.toList.length = s.size := by show s.data.toList.length = s.data.size; simp
  rw [hl] at hla hlr
  have HM := Lib.hid (cell_under HB0 hm); have HF := Lib.hid HF0; have HB := Lib.hid HB0; have HCut := Lib.hid hcut; have HOk := Lib.hid hok; have HRes := Lib.hid hres
  have HSz := Lib.hid hsz
  have hsn : s.size < 4294967281 := by omega
  have hsa : (⟨a.toArray⟩ : ByteArray).size ≤ 1048576 := by rw [bytes_size]; omega
  have hsr : (⟨r.toArray⟩ : ByteArray).size ≤ 1048576 := by rw [bytes_size]; omega
  clear HF0 HB0 hcut hok hres hm hsz hl
  go_enter Tryd.func11, Tryd.ntmps11
  go_wp2_with fail
  refine (Tryd.strings_Cut s ⟨#[124]⟩ m _ hsn HM.out).mono ?_; rintro e w1 ⟨he, nq, hw1⟩
  have he2 : e = .returned (.tuple #[.string ⟨a.toArray⟩, .string ⟨r.toArray⟩, .bool b]) := by rw [he]; have := HCut.out; simp only [this]
  subst he2
  have hb1 : Below (w.alloc (.cells #[.slice none 0 0, .slice none 0 0] 29)).heap.size (w.alloc (.cells #[.slice none 0 0, .slice none 0 0] 29)) w1 := by rw [hw1]; exact below_drewN (Below.refl _ _) _
  have HB1 := Lib.hid hb1; have HM1 := Lib.hid (cell_under hb1 HM.out); have HF1 := Lib.hid (HF.out.under hb1)
  have HBw1 := Lib.hid (below_under HB.out (by rw [HSz.out]; omega) hb1)
  have hs1 : w.heap.size + 1 ≤ w1.heap.size := by have := hb1.size; rw [HSz.out] at this; exact this
  clear hb1 hw1 he HM HF HB HCut HB1
  go_wp2_with fail
  refine (c_readTable _ m _ HM1.out hsa).mono ?_; rintro e w2 ⟨r1, Y1, rfl, ho1, hY1, hb2⟩
  rw [bytes_toList] at hY1 ⊢
  obtain ⟨ra1, rc1, hr, -⟩ := ho1.rows.shape
  subst hr
  have HO1 := Lib.hid ho1; have HY1 := Lib.hid hY1; have HM2 := Lib.hid (cell_under hb2 HM1.out); have HF2 := Lib.hid (HF1.out.under hb2); have HBw2 := Lib.hid (below_under HBw1.out (by omega) hb2)
  have hs2 := hb2.size
  clear ho1 hY1 hb2 HM1 HF1 HBw1
  go_wp2_with fail
  refine (c_readTable _ m _ HM2.out hsr).mono ?_; rintro e w3 ⟨r2, Y2, rfl, ho2, hY2, hb3⟩
  rw [bytes_toList] at hY2 ⊢
  obtain ⟨ra2, rc2, hr, -⟩ := ho2.rows.shape
  subst hr
  have HOS := Lib.hid (OwnSol.mk HO1.out hb3 ho2 hs2); have HY2 := Lib.hid hY2; have HF3 := Lib.hid (HF2.out.under hb3); have HBw3 := Lib.hid (below_under HBw2.out (by omega) hb3)
  have hs3 := hb3.size
  clear ho2 hY2 hb3 HM2 HF2 HBw2 HO1
  obtain ⟨bx, hbx, hsx⟩ := boxes1' w3 [.slice ra1 Y1.length rc1, .slice ra2 Y2.length rc2] 29
  have HBx := Lib.hid bx; have HBbx := Lib.hid hbx
  have HF4 := Lib.hid (HF3.out.under hbx); have HBw4 := Lib.hid (below_under HBw3.out (by omega) hbx); have HOS4 := Lib.hid (HOS.out.under hbx)
  obtain ⟨x0, x1, x2, x3⟩ := two_cells bx
  obtain ⟨z0, z1, z2, z3⟩ := two_cells HF4.out
  clear bx hbx
  by_cases k1 : tOk a = true
  · by_cases k2 : tOk r = true
    · have e1 := HY1.out k1
      have e2 := HY2.out k2
      subst e1 e2
      have hkk : sOk s.data.toList = isPM (tRes a) (tRes r) := by rw [HOk.out, k1, k2]; rfl
      have HK := Lib.hid hkk
      rw [k1, k2]
      clear k1 k2 hkk
      go_wp2_with fail
      refine (c_IsPairMap _ _ (tRes a) (tRes r) _ HOS4.out.sol).mono ?_; rintro e w5 ⟨rfl, hb5⟩
      have HOS5 := Lib.hid (HOS4.out.under hb5); have HF5 := Lib.hid (HF4.out.under hb5); have HBx5 := Lib.hid (HBx.out.under hb5); have HBw5 := Lib.hid (below_under HBw4.out (by rw [hsx]; omega) hb5)
      clear x0 x1 x2 x3 z0 z1 z2 z3
      obtain ⟨x0, x1, x2, x3⟩ := two_cells HBx5.out
      obtain ⟨z0, z1, z2, z3⟩ := two_cells HF5.out
      have hs5 := hb5.size
      clear hb5 HBx HBbx HF3 HBw3 HOS HF4 HBw4 HOS4 HBx5
      by_cases k3 : isPM (tRes a) (tRes r) = true
      · have HK3 := Lib.hid (show sOk s.data.toList = true by rw [HK.out]; exact k3)
        rw [k3]
        clear k3
        go_wp2
        have kz : Keep (fun x => x = w.heap.size) w5 ((w5.setCell ⟨w.heap.size, 0, none⟩ (.slice ra1 (tRes a).length rc1)).setCell ⟨w.heap.size, 1, none⟩ (.slice ra2 (tRes r).length rc2)) := (keep1 _ _ 0 _).trans (keep1 _ _ 1 _)
        refine bodyPost_ret (v := .tuple #[.agg #[.slice ra1 (tRes a).length rc1, .slice ra2 (tRes r).length rc2], .int .i64 0]) (by simp [results, Tryd.results11, go_sem, z0, z1]) rfl ⟨.slice ra1 (tRes a).length rc1, .slice ra2 (tRes r).length rc2, by simp [psCode, HK3.out], ?_, ?_⟩
        · have h9 := HOS5.out.keep kz (fun x hx _ e => by have e : x = w.heap.size := e; omega)
          rw [(HRes.out HK3.out).1, (HRes.out HK3.out).2]
          exact h9.widen (by omega) (by simp [World.setCell]; omega)
        · exact (HBw5.out.setCell (p := ⟨w.heap.size, 0, none⟩) (Nat.le_refl _) _).setCell (p := ⟨w.heap.size, 1, none⟩) (Nat.le_refl _) _
      · have k3' : isPM (tRes a) (tRes r) = false := by simpa using k3
        have HK3 := Lib.hid (show sOk s.data.toList = false by rw [HK.out]; exact k3')
        rw [k3']
        clear k3 k3'
        have HBf := Lib.hid ((HBw5.out.setCell (p := ⟨w.heap.size, 0, none⟩) (Nat.le_refl _) (.slice none 0 0)).setCell (p := ⟨w.heap.size, 1, none⟩) (Nat.le_refl _) (.slice none 0 0))
        go_wp2
        refine bodyPost_ret (v := .tuple #[.agg #[.slice none 0 0, .slice none 0 0], .int .i64 6]) (by simp [results, Tryd.results11, go_sem, z0, z1]) rfl ⟨.slice none 0 0, .slice none 0 0, by simp [psCode, HK3.out], ?_, ?_⟩
        · rw [sR_no HK3.out, sR_no2 HK3.out]; exact OwnSol.nil0 HBf.out.size
        · exact (HBw5.out.setCell (p := ⟨w.heap.size, 0, none⟩) (Nat.le_refl _) _).setCell (p := ⟨w.heap.size, 1, none⟩) (Nat.le_refl _) _
    · have k2' : tOk r = false := by simpa using k2
      have HK3 := Lib.hid (show sOk s.data.toList = false by rw [HOk.out, k1, k2']; rfl)
      rw [k1, k2']
      clear k1 k2 k2'
      have HBf := Lib.hid ((HBw4.out.setCell (p := ⟨w.heap.size, 0, none⟩) (Nat.le_refl _) (.slice none 0 0)).setCell (p := ⟨w.heap.size, 1, none⟩) (Nat.le_refl _) (.slice none 0 0))
      go_wp2
      refine bodyPost_ret (v := .tuple #[.agg #[.slice none 0 0, .slice none 0 0], .int .i64 6]) (by simp [results, Tryd.results11, go_sem, z0, z1]) rfl ⟨.slice none 0 0, .slice none 0 0, by simp [psCode, HK3.out], ?_, ?_⟩
      · rw [sR_no HK3.out, sR_no2 HK3.out]; exact OwnSol.nil0 HBf.out.size
      · exact (HBw4.out.setCell (p := ⟨w.heap.size, 0, none⟩) (Nat.le_refl _) _).setCell (p := ⟨w.heap.size, 1, none⟩) (Nat.le_refl _) _
  · have k1' : tOk a = false := by simpa using k1
    have HK3 := Lib.hid (show sOk s.data.toList = false by rw [HOk.out, k1']; rfl)
    rw [k1']
    clear k1 k1'
    have HBf := Lib.hid ((HBw4.out.setCell (p := ⟨w.heap.size, 0, none⟩) (Nat.le_refl _) (.slice none 0 0)).setCell (p := ⟨w.heap.size, 1, none⟩) (Nat.le_refl _) (.slice none 0 0))
    go_wp2
    refine bodyPost_ret (v := .tuple #[.agg #[.slice none 0 0, .slice none 0 0], .int .i64 6]) (by simp [results, Tryd.results11, go_sem, z0, z1]) rfl ⟨.slice none 0 0, .slice none 0 0, by simp [psCode, HK3.out], ?_, ?_⟩
    · rw [sR_no HK3.out, sR_no2 HK3.out]; exact OwnSol.nil0 HBf.out.size
    · exact (HBw4.out.setCell (p := ⟨w.heap.size, 0, none⟩) (Nat.le_refl _) _).setCell (p := ⟨w.heap.size, 1, none⟩) (Nat.le_refl _) _

theorem sOk_two {l : List UInt8} {p q : ByteArray} (h : [p, q].map (fun s => s.data.toList) = parts 124 l) : sOk l = (tOk p.data.toList && tOk q.data.toList && isPM (tRes p.data.toList) (tRes q.data.toList)) ∧ (sOk l = true → sRA l = tRes p.data.toList ∧ sRB l = tRes q.data.toList) := by
  have e : parts 124 l = [p.data.toList, q.data.toList] := h.symm
  refine ⟨by unfold sOk; rw [e]; simp, fun h2 => ?_⟩
  unfold sRA sRB
  rw [h2, e]; simp
theorem sOk_len {l : List UInt8} {ss : List ByteArray} (h : ss.map (fun s => s.data.toList) = parts 124 l) (hl : ss.length ≠ 2) : sOk l = false := by
  have e : (parts 124 l).length = ss.length := by rw [← h]; simp
  unfold sOk
  rw [e, decide_eq_false hl]; rfl
set_option maxHeartbeats 4000000 in
theorem c_specParseSolution (s : ByteArray) (w : World) (hn : s.size ≤ 1048576) :
    Calls Tryd.prog 10 #[.string s] w (RSolRC w (sRA s.data.toList) (sRB s.data.toList) (psCode s.data.toList)) := by
  obtain ⟨HF0, HB0, hsz⟩ := boxes1' w [.slice none 0 0, .slice none 0 0] 29
  have hl : s.data.toList.length = s.size := by show s.data.toList.length = s.data.size; simp
  have HF := Lib.hid HF0; have HB := Lib.hid HB0; have HSz := Lib.hid hsz
  clear HF0 HB0 hsz
  go_enter Tryd.func10, Tryd.ntmps10
  go_wp2_with fail
  refine (c_l01Split s 124 _ hn).mono ?_; rintro e w1 ⟨r, ss, rfl, ho, hss, hb1⟩
  obtain ⟨hp1, hp2⟩ := parts_size hss
  rw [hl] at hp1
  have hs0 : 0 < ss.length := by
    have := List.length_pos_iff.2 (parts_ne 124 s.data.toList)
    rw [← hss] at this; simpa using this
  obtain ⟨g, hsb, -⟩ := ho.strB hs0
  obtain ⟨cs, sc, rfl, hcs⟩ := hsb
  have HS := Lib.hid (show StrB g w1 (.slice (some ⟨g, 0, none⟩) ss.length sc) ss from ⟨cs, sc, rfl, hcs⟩)
  have HF1 := Lib.hid (HF.out.under hb1); have HBw1 := Lib.hid (below_under HB.out (by rw [HSz.out]; omega) hb1)
  have hs1 : w.heap.size + 1 ≤ w1.heap.size := by have := hb1.size; rw [HSz.out] at this; exact this
  obtain ⟨z0, z1, z2, z3⟩ := two_cells HF1.out
  by_cases h2 : ss.length = 2
  case neg =>
    have HK3 := Lib.hid (sOk_len hss h2)
    have hne : ((ss.length : Int) != 2) = true := by simp; omega
    clear hb1 hcs hss HF HB ho hp1 hp2 h2 hl
    have HBf := Lib.hid ((HBw1.out.setCell (p := ⟨w.heap.size, 0, none⟩) (Nat.le_refl _) (.slice none 0 0)).setCell (p := ⟨w.heap.size, 1, none⟩) (Nat.le_refl _) (.slice none 0 0))
    go_wp2
    refine bodyPost_ret (v := .tuple #[.agg #[.slice none 0 0, .slice none 0 0], .int .i64 6]) (by simp [results, Tryd.results10, go_sem, z0, z1]) rfl ⟨.slice none 0 0, .slice none 0 0, by simp [psCode, HK3.out], ?_, ?_⟩
    · refine ⟨_, rfl, ?_, Nat.le_refl _, Below.refl _ _⟩
      rw [sR_no HK3.out, sR_no2 HK3.out]; exact ⟨Rows.nil _, Rows.nil _⟩
    · exact (HBw1.out.setCell (p := ⟨w.heap.size, 0, none⟩) (Nat.le_refl _) _).setCell (p := ⟨w.heap.size, 1, none⟩) (Nat.le_refl _) _
  obtain ⟨p, q, rfl⟩ : ∃ p q, ss = [p, q] := by
    match ss, h2 with
    | [p, q], _ => exact ⟨p, q, rfl⟩
  obtain ⟨hok, hres⟩ := sOk_two hss
  have HOk := Lib.hid hok; have HRes := Lib.hid hres
  have hsp : p.size ≤ 1048576 := by have := hp1 0 (by simp); simp at this; omega
  have hsq : q.size ≤ 1048576 := by have := hp1 1 (by simp); simp at this; omega
  have hc0 := HS.out.cell 0 (by simp)
  simp only [List.getElem_cons_zero] at hc0
  have HS' := Lib.hid (HS.out.cell 1 (by simp))
  simp only [List.getElem_cons_succ, List.getElem_cons_zero] at HS'
  have hbs := hb1
  clear hb1 hcs hss HF HB ho hp1 hp2 h2 hl hok hres HS hbs
  have HC1 : Hid (w1.cell? ⟨g, 1, none⟩ = some (.string q)) := HS'
  clear HS'
  go_wp2_with fail
  refine (c_l01Parse p _ hsp).mono ?_; rintro e w2 ⟨r1, Y1, rfl, ho1, hY1, hb2⟩
  obtain ⟨ra1, rc1, hr, -⟩ := ho1.rows.shape
  subst hr
  have HO1 := Lib.hid ho1; have HY1 := Lib.hid hY1; have HF2 := Lib.hid (HF1.out.under hb2); have HBw2 := Lib.hid (below_under HBw1.out (by omega) hb2)
  have hc1 := cell_under hb2 HC1.out
  have hs2 := hb2.size
  clear ho1 hY1 hb2 HF1 HBw1 hc0 z0 z1 z2 z3 HC1
  go_wp2_with fail
  refine (c_l01Parse q _ hsq).mono ?_; rintro e w3 ⟨r2, Y2, rfl, ho2, hY2, hb3⟩
  obtain ⟨ra2, rc2, hr, -⟩ := ho2.rows.shape
  subst hr
  have HOS := Lib.hid (OwnSol.mk HO1.out hb3 ho2 hs2); have HY2 := Lib.hid hY2; have HF3 := Lib.hid (HF2.out.under hb3); have HBw3 := Lib.hid (below_under HBw2.out (by omega) hb3)
  have hs3 := hb3.size
  clear ho2 hY2 hb3 HF2 HBw2 HO1 hc1
  obtain ⟨bx, hbx, hsx⟩ := boxes1' w3 [.slice ra1 Y1.length rc1, .slice ra2 Y2.length rc2] 29
  have HBx := Lib.hid bx; have HBbx := Lib.hid hbx
  have HF4 := Lib.hid (HF3.out.under hbx); have HBw4 := Lib.hid (below_under HBw3.out (by omega) hbx); have HOS4 := Lib.hid (HOS.out.under hbx)
  obtain ⟨x0, x1, x2, x3⟩ := two_cells bx
  obtain ⟨z0, z1, z2, z3⟩ := two_cells HF4.out
  clear bx hbx
  by_cases k1 : tOk p.data.toList = true
  · by_cases k2 : tOk q.data.toList = true
    · have e1 := HY1.out k1
      have e2 := HY2.out k2
      subst e1 e2
      have hkk : sOk s.data.toList = isPM (tRes p.data.toList) (tRes q.data.toList) := by rw [HOk.out, k1, k2]; rfl
      have HK := Lib.hid hkk
      rw [k1, k2]
      clear k1 k2 hkk
      go_wp2_with fail
      refine (c_l02Map _ _ (tRes p.data.toList) (tRes q.data.toList) _ HOS4.out.sol).mono ?_; rintro e w5 ⟨rfl, hb5⟩
      have HOS5 := Lib.hid (HOS4.out.under hb5); have HF5 := Lib.hid (HF4.out.under hb5); have HBx5 := Lib.hid (HBx.out.under hb5); have HBw5 := Lib.hid (below_under HBw4.out (by rw [hsx]; omega) hb5)
      clear x0 x1 x2 x3 z0 z1 z2 z3
      obtain ⟨x0, x1, x2, x3⟩ := two_cells HBx5.out
      obtain ⟨z0, z1, z2, z3⟩ := two_cells HF5.out
      have hs5 := hb5.size
      clear hb5 HBx HBbx HF3 HBw3 HOS HF4 HBw4 HOS4 HBx5
      by_cases k3 : isPM (tRes p.data.toList) (tRes q.data.toList) = true
      · have HK3 := Lib.hid (show sOk s.data.toList = true by rw [HK.out]; exact k3)
        rw [k3]
        clear k3
        go_wp2
        have kz : Keep (fun x => x = w.heap.size) w5 ((w5.setCell ⟨w.heap.size, 0, none⟩ (.slice ra1 (tRes p.data.toList).length rc1)).setCell ⟨w.heap.size, 1, none⟩ (.slice ra2 (tRes q.data.toList).length rc2)) := (keep1 _ _ 0 _).trans (keep1 _ _ 1 _)
        refine bodyPost_ret (v := .tuple #[.agg #[.slice ra1 (tRes p.data.toList).length rc1, .slice ra2 (tRes q.data.toList).length rc2], .int .i64 0]) (by simp [results, Tryd.results10, go_sem, z0, z1]) rfl ⟨.slice ra1 (tRes p.data.toList).length rc1, .slice ra2 (tRes q.data.toList).length rc2, by simp [psCode, HK3.out], ?_, ?_⟩
        · have h9 := HOS5.out.keep kz (fun x hx _ e => by have e : x = w.heap.size := e; omega)
          rw [(HRes.out HK3.out).1, (HRes.out HK3.out).2]
          exact ⟨_, rfl, h9.sol, Nat.le_refl _, Below.refl _ _⟩
        · exact (HBw5.out.setCell (p := ⟨w.heap.size, 0, none⟩) (Nat.le_refl _) _).setCell (p := ⟨w.heap.size, 1, none⟩) (Nat.le_refl _) _
      · have k3' : isPM (tRes p.data.toList) (tRes q.data.toList) = false := by simpa using k3
        have HK3 := Lib.hid (show sOk s.data.toList = false by rw [HK.out]; exact k3')
        rw [k3']
        clear k3 k3'
        have HBf := Lib.hid ((HBw5.out.setCell (p := ⟨w.heap.size, 0, none⟩) (Nat.le_refl _) (.slice none 0 0)).setCell (p := ⟨w.heap.size, 1, none⟩) (Nat.le_refl _) (.slice none 0 0))
        go_wp2
        refine bodyPost_ret (v := .tuple #[.agg #[.slice none 0 0, .slice none 0 0], .int .i64 6]) (by simp [results, Tryd.results10, go_sem, z0, z1]) rfl ⟨.slice none 0 0, .slice none 0 0, by simp [psCode, HK3.out], ?_, ?_⟩
        · refine ⟨_, rfl, ?_, Nat.le_refl _, Below.refl _ _⟩
          rw [sR_no HK3.out, sR_no2 HK3.out]; exact ⟨Rows.nil _, Rows.nil _⟩
        · exact (HBw5.out.setCell (p := ⟨w.heap.size, 0, none⟩) (Nat.le_refl _) _).setCell (p := ⟨w.heap.size, 1, none⟩) (Nat.le_refl _) _
    · have k2' : tOk q.data.toList = false := by simpa using k2
      have HK3 := Lib.hid (show sOk s.data.toList = false by rw [HOk.out, k1, k2']; rfl)
      rw [k1, k2']
      clear k1 k2 k2'
      have HBf := Lib.hid ((HBw4.out.setCell (p := ⟨w.heap.size, 0, none⟩) (Nat.le_refl _) (.slice none 0 0)).setCell (p := ⟨w.heap.size, 1, none⟩) (Nat.le_refl _) (.slice none 0 0))
      go_wp2
      refine bodyPost_ret (v := .tuple #[.agg #[.slice none 0 0, .slice none 0 0], .int .i64 6]) (by simp [results, Tryd.results10, go_sem, z0, z1]) rfl ⟨.slice none 0 0, .slice none 0 0, by simp [psCode, HK3.out], ?_, ?_⟩
      · refine ⟨_, rfl, ?_, Nat.le_refl _, Below.refl _ _⟩
        rw [sR_no HK3.out, sR_no2 HK3.out]; exact ⟨Rows.nil _, Rows.nil _⟩
      · exact (HBw4.out.setCell (p := ⟨w.heap.size, 0, none⟩) (Nat.le_refl _) _).setCell (p := ⟨w.heap.size, 1, none⟩) (Nat.le_refl _) _
  · have k1' : tOk p.data.toList = false := by simpa using k1
    have HK3 := Lib.hid (show sOk s.data.toList = false by rw [HOk.out, k1']; rfl)
    rw [k1']
    clear k1 k1'
    have HBf := Lib.hid ((HBw4.out.setCell (p := ⟨w.heap.size, 0, none⟩) (Nat.le_refl _) (.slice none 0 0)).setCell (p := ⟨w.heap.size, 1, none⟩) (Nat.le_refl _) (.slice none 0 0))
    go_wp2
    refine bodyPost_ret (v := .tuple #[.agg #[.slice none 0 0, .slice none 0 0], .int .i64 6]) (by simp [results, Tryd.results10, go_sem, z0, z1]) rfl ⟨.slice none 0 0, .slice none 0 0, by simp [psCode, HK3.out], ?_, ?_⟩
    · refine ⟨_, rfl, ?_, Nat.le_refl _, Below.refl _ _⟩
      rw [sR_no HK3.out, sR_no2 HK3.out]; exact ⟨Rows.nil _, Rows.nil _⟩
    · exact (HBw4.out.setCell (p := ⟨w.heap.size, 0, none⟩) (Nat.le_refl _) _).setCell (p := ⟨w.heap.size, 1, none⟩) (Nat.le_refl _) _
theorem sR_total (l : List UInt8) : total (sRA l) ≤ 144 ∧ total (sRB l) ≤ 144 := by
  unfold sRA sRB
  split
  · exact ⟨tRes_total _, tRes_total _⟩
  · simp [total]
theorem cut_waysParseSolution {p G : Prop} (k : Hid p → G) (h : p) : G := k (Lib.hid h)
set_option maxHeartbeats 16000000 in
theorem law_ParseSolution (s0 : ByteArray) (m : Int) (w : World) (hm : w.cell? ⟨0, 0, none⟩ = some (.int .i64 m)) (hs0 : s0.size ≤ maxLen) :
    Calls Tryd.prog 4 #[.string s0] w (RVal w (.bool true)) := by
  have HM := Lib.hid hm; clear hm
  by_cases hn0 : s0.size ≤ 1048576
  case neg =>
    go_enter Tryd.func4, Tryd.ntmps4
    go_wp2
    go_ret
    exact ⟨rfl, by first | exact Below.refl _ _ | exact (Below.refl _ _).alloc (Nat.le_refl _) _ | exact ((Below.refl _ _).alloc (Nat.le_refl _) _).alloc (by simp) _⟩
  go_enter Tryd.func4, Tryd.ntmps4
  have BW : Below w.heap.size w w := Below.refl _ _
  have hB0 : total (sRA s0.data.toList) + total (sRB s0.data.toList) ≤ 1152921504606846976 := by have := sR_total s0.data.toList; omega
  obtain ⟨RA0, hRA0⟩ : ∃ z, z = sRA s0.data.toList := ⟨_, rfl⟩
  obtain ⟨RB0, hRB0⟩ : ∃ z, z = sRB s0.data.toList := ⟨_, rfl⟩
  obtain ⟨R1, hR1⟩ : ∃ z, z = psCode s0.data.toList := ⟨_, rfl⟩
  rw [← hRA0, ← hRB0] at hB0
  have HRA0 := Lib.hid hRA0
  clear hRA0
  have HRB0 := Lib.hid hRB0
  clear hRB0
  have HR1 := Lib.hid hR1
  clear hR1
  have hd0 : decide (RA0 = RA0 ∧ RB0 = RB0) = true := by simp
  have hk1 : (R1 != R1) = false := by simp
  have hq0 : ((1 + (total RA0 : Int) + (total RB0 : Int)) != (1 + (total RA0 : Int) + (total RB0 : Int))) = false := by simp
  go_wp2_with fail
  refine (c_specParseSolution _ _ hn0).mono ?_
  rw [← HRA0.out, ← HRB0.out, ← HR1.out]
  rintro e w1 ⟨s01, s02, rfl, os0, hb1⟩
  have hs1 := hb1.size
  replace BW := bb BW hb1
  have hS := os0.sol
  clear os0
  obtain ⟨sas0, scs0, hvs0, _, _⟩ := hS.1.shape
  subst hvs0
  obtain ⟨sbs0, sds0, hvs0, _, _⟩ := hS.2.shape
  subst hvs0
  have BS : Below w1.heap.size w1 w1 := Below.refl _ _
  clear hb1
  go_wp2_with fail
  obtain ⟨bxs0, hb2, hz2⟩ := boxes1 w1 [.slice sas0 RA0.length scs0, .slice sbs0 RB0.length sds0] 29
  obtain ⟨w2, hW2⟩ : ∃ W, w1.alloc (.cells #[.slice sas0 RA0.length scs0, .slice sbs0 RB0.length sds0] 29) = W := ⟨_, rfl⟩
  rw [hW2] at bxs0 hb2 hz2 ⊢
  have hs2 : w1.heap.size + 1 ≤ w2.heap.size := by omega
  clear hW2 hz2
  replace BW := bb BW hb2
  replace BS := bb BS hb2
  obtain ⟨cAs0, cBs0, -, -⟩ := two_cells bxs0
  clear hb2
  refine (c_ParseSolution _ m _ (cell_under BW HM.out) hn0).mono ?_
  rw [← HRA0.out, ← HRB0.out, ← HR1.out]
  rintro e w3 ⟨g01, g02, rfl, og0, hb3⟩
  have hs3 := hb3.size
  replace BW := bb BW hb3
  replace BS := bb BS hb3
  replace bxs0 := bxs0.under hb3
  clear cAs0 cBs0
  obtain ⟨cAs0, cBs0, -, -⟩ := two_cells bxs0
  obtain ⟨sag0, scg0, hvg0, _, _⟩ := og0.sol.1.shape
  subst hvg0
  obtain ⟨sbg0, sdg0, hvg0, _, _⟩ := og0.sol.2.shape
  subst hvg0
  clear hb3
  obtain ⟨cAs0z, cBs0z, -, -⟩ := two_cells (bxs0.alloc (.cells #[.slice sag0 RA0.length scg0, .slice sbg0 RB0.length sdg0] 29))
  go_wp2_with fail
  clear cAs0z cBs0z
  obtain ⟨bxg0, hb4, hz4⟩ := boxes1 w3 [.slice sag0 RA0.length scg0, .slice sbg0 RB0.length sdg0] 29
  obtain ⟨w4, hW4⟩ : ∃ W, w3.alloc (.cells #[.slice sag0 RA0.length scg0, .slice sbg0 RB0.length sdg0] 29) = W := ⟨_, rfl⟩
  rw [hW4] at bxg0 hb4 hz4 ⊢
  have hs4 : w3.heap.size + 1 ≤ w4.heap.size := by omega
  clear hW4 hz4
  replace og0 := og0.under hb4
  replace BW := bb BW hb4
  replace BS := bb BS hb4
  replace bxs0 := bxs0.under hb4
  clear cAs0 cBs0
  obtain ⟨cAs0, cBs0, -, -⟩ := two_cells bxs0
  obtain ⟨cAg0, cBg0, -, -⟩ := two_cells bxg0
  clear hb4
  refine (c_eqS _ _ _ _ _ _ _ _ _ (og0.sol) (hS.below BS)).mono ?_; rintro e w5 ⟨rfl, hb5⟩
  have hs5 := hb5.size
  replace og0 := og0.under hb5
  replace BW := bb BW hb5
  replace BS := bb BS hb5
  replace bxs0 := bxs0.under hb5
  clear cAs0 cBs0
  obtain ⟨cAs0, cBs0, -, -⟩ := two_cells bxs0
  replace bxg0 := bxg0.under hb5
  clear cAg0 cBg0
  obtain ⟨cAg0, cBg0, -, -⟩ := two_cells bxg0
  clear hb5
  go_wp2_with fail
  refine (c_markS _ _ _ _ _ _ _ _ og0 (by omega) (by omega) (by omega)).mono ?_; rintro e w6 ⟨rfl, og0m, hkw6⟩
  have hs6 := hkw6.size
  replace bxs0 := bxs0.of_block (hkw6.block _ (by omega) (by omega))
  clear cAs0 cBs0
  obtain ⟨cAs0, cBs0, -, -⟩ := two_cells bxs0
  replace bxg0 := bxg0.of_block (hkw6.block _ (by omega) (by omega))
  clear cAg0 cBg0
  obtain ⟨cAg0, cBg0, -, -⟩ := two_cells bxg0
  replace BW := below_keep BW hkw6 (by omega)
  replace BS := below_keep BS hkw6 (by omega)
  clear og0
  have og0 := og0m
  clear og0m hkw6
  go_wp2_with fail
  refine (c_heldS _ _ _ _ _ _ (og0.sol) (by omega) (by omega)).mono ?_; rintro e w7 ⟨rfl, hb7⟩
  have hs7 := hb7.size
  replace og0 := og0.under hb7
  replace BW := bb BW hb7
  replace BS := bb BS hb7
  replace bxs0 := bxs0.under hb7
  clear cAs0 cBs0
  obtain ⟨cAs0, cBs0, -, -⟩ := two_cells bxs0
  replace bxg0 := bxg0.under hb7
  clear cAg0 cBg0
  obtain ⟨cAg0, cBg0, -, -⟩ := two_cells bxg0
  clear hb7
  go_wp2_with fail
  refine (c_ParseSolution _ m _ (cell_under BW HM.out) hn0).mono ?_
  rw [← HRA0.out, ← HRB0.out, ← HR1.out]
  rintro e w8 ⟨h01, h02, rfl, oh0, hb8⟩
  have hs8 := hb8.size
  replace og0 := og0.under hb8
  replace BW := bb BW hb8
  replace BS := bb BS hb8
  replace bxs0 := bxs0.under hb8
  clear cAs0 cBs0
  obtain ⟨cAs0, cBs0, -, -⟩ := two_cells bxs0
  replace bxg0 := bxg0.under hb8
  clear cAg0 cBg0
  obtain ⟨cAg0, cBg0, -, -⟩ := two_cells bxg0
  obtain ⟨sah0, sch0, hvh0, _, _⟩ := oh0.sol.1.shape
  subst hvh0
  obtain ⟨sbh0, sdh0, hvh0, _, _⟩ := oh0.sol.2.shape
  subst hvh0
  clear hb8
  obtain ⟨cAs0z, cBs0z, -, -⟩ := two_cells (bxs0.alloc (.cells #[.slice sah0 RA0.length sch0, .slice sbh0 RB0.length sdh0] 29))
  obtain ⟨cAg0z, cBg0z, -, -⟩ := two_cells (bxg0.alloc (.cells #[.slice sah0 RA0.length sch0, .slice sbh0 RB0.length sdh0] 29))
  go_wp2_with fail
  clear cAs0z cBs0z
  clear cAg0z cBg0z
  obtain ⟨bxh0, hb9, hz9⟩ := boxes1 w8 [.slice sah0 RA0.length sch0, .slice sbh0 RB0.length sdh0] 29
  obtain ⟨w9, hW9⟩ : ∃ W, w8.alloc (.cells #[.slice sah0 RA0.length sch0, .slice sbh0 RB0.length sdh0] 29) = W := ⟨_, rfl⟩
  rw [hW9] at bxh0 hb9 hz9 ⊢
  have hs9 : w8.heap.size + 1 ≤ w9.heap.size := by omega
  clear hW9 hz9
  replace og0 := og0.under hb9
  replace oh0 := oh0.under hb9
  replace BW := bb BW hb9
  replace BS := bb BS hb9
  replace bxs0 := bxs0.under hb9
  clear cAs0 cBs0
  obtain ⟨cAs0, cBs0, -, -⟩ := two_cells bxs0
  replace bxg0 := bxg0.under hb9
  clear cAg0 cBg0
  obtain ⟨cAg0, cBg0, -, -⟩ := two_cells bxg0
  obtain ⟨cAh0, cBh0, -, -⟩ := two_cells bxh0
  clear hb9
  refine (c_eqS _ _ _ _ _ _ _ _ _ (oh0.sol) (hS.below BS)).mono ?_; rintro e w10 ⟨rfl, hb10⟩
  have hs10 := hb10.size
  replace og0 := og0.under hb10
  replace oh0 := oh0.under hb10
  replace BW := bb BW hb10
  replace BS := bb BS hb10
  replace bxs0 := bxs0.under hb10
  clear cAs0 cBs0
  obtain ⟨cAs0, cBs0, -, -⟩ := two_cells bxs0
  replace bxg0 := bxg0.under hb10
  clear cAg0 cBg0
  obtain ⟨cAg0, cBg0, -, -⟩ := two_cells bxg0
  replace bxh0 := bxh0.under hb10
  clear cAh0 cBh0
  obtain ⟨cAh0, cBh0, -, -⟩ := two_cells bxh0
  clear hb10
  go_wp2_with fail
  refine (c_heldS _ _ _ _ _ _ (og0.sol) (by omega) (by omega)).mono ?_; rintro e w11 ⟨rfl, hb11⟩
  have hs11 := hb11.size
  replace og0 := og0.under hb11
  replace oh0 := oh0.under hb11
  replace BW := bb BW hb11
  replace BS := bb BS hb11
  replace bxs0 := bxs0.under hb11
  clear cAs0 cBs0
  obtain ⟨cAs0, cBs0, -, -⟩ := two_cells bxs0
  replace bxg0 := bxg0.under hb11
  clear cAg0 cBg0
  obtain ⟨cAg0, cBg0, -, -⟩ := two_cells bxg0
  replace bxh0 := bxh0.under hb11
  clear cAh0 cBh0
  obtain ⟨cAh0, cBh0, -, -⟩ := two_cells bxh0
  clear hb11
  have HB := Lib.hid BW
  clear BW BS hS og0 oh0 bxs0 bxg0 bxh0
  go_wp2
  go_ret
  exact ⟨rfl, HB.out⟩
end Go.Proofs.YtkcobfkmeaakoaaDoor
