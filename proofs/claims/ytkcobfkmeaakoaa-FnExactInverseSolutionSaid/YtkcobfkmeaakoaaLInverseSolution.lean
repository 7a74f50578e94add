/-
  The law FnExactInverseSolution answers true, and leaves what was there as it was.
-/
import Derived.Test.YtkcobfkmeaakoaaP9
import Derived.Test.YtkcobfkmeaakoaaI29
import Derived.Test.YtkcobfkmeaakoaaT2
import Derived.Test.YtkcobfkmeaakoaaS5
import Derived.Test.YtkcobfkmeaakoaaS10
import Derived.Deep.RegionHeld3
namespace Go.Proofs.Ytkcobfkmeaakoaa
open Go Go.RowKit Go.Shelf

def inRA (A B : List (List Int)) : List (List Int) := if isSol A B then ivA A B A.length else []
def inRB (A B : List (List Int)) : List (List Int) := if isSol A B then ivB A B A.length else []
def inCode (A B : List (List Int)) : Int := if isSol A B then 0 else 1
theorem cut_waysInv {p G : Prop} (k : Hid p → G) (h : p) : G := k (Lib.hid h)

set_option maxRecDepth 100000 in
set_option maxHeartbeats 8000000 in
theorem c_InverseSolution (v0 u0 : Value) (A B : List (List Int)) (w : World) (hA : Sol w v0 u0 A B)  :
    Calls Try.prog 24 #[.agg #[v0, u0]] w (RSolC w (inRA A B) (inRB A B) (inCode A B)) := by
  by_cases hp0 : isSol A B = true
  case neg =>
    have hq0 : isSol A B = false := by simpa using hp0
    have HQ := Lib.hid hq0; clear hp0
    obtain ⟨a0, c0, rfl, _, _⟩ := hA.1.shape
    obtain ⟨a0s, c0s, rfl, _, _⟩ := hA.2.shape
    go_enter Try.func24, Try.ntmps24
    go_wp2_with fail
    obtain ⟨f0, f1, hW0, hsz⟩ := boxes2 w [.slice a0 A.length c0, .slice a0s B.length c0s] [.slice none 0 0, .slice none 0 0] 27 27
    obtain ⟨W0, hW⟩ : ∃ W, ((w.alloc (.cells #[.slice a0 A.length c0, .slice a0s B.length c0s] 27)).alloc (.cells #[.slice none 0 0, .slice none 0 0] 27)) = W := ⟨_, rfl⟩
    rw [hW] at f0 f1 hW0 hsz ⊢
    clear hW hsz
    refine (c_IsSolution _ _ _ _ _ (hA.below hW0)).mono ?_; rintro e g0 ⟨rfl, hbg0⟩
    have hB0 := bb hW0 hbg0
    replace f0 := f0.under hbg0
    obtain ⟨cA0, cB0, -, -⟩ := two_cells f0
    replace f1 := f1.under hbg0
    obtain ⟨cA1, cB1, fA1, fB1⟩ := two_cells f1
    clear hbg0
    have HB := Lib.hid hB0
    clear hB0 hW0
    go_wp2
    refine bodyPost_ret (v := .tuple #[.agg #[.slice none 0 0, .slice none 0 0], .int .i64 1]) (by simp [results, Try.results24, go_sem, cA1, cB1]) rfl ⟨.slice none 0 0, .slice none 0 0, by simp [inRA, inRB, inCode, HQ.out], ?_, ?_⟩
    · have hz : w.heap.size ≤ g0.heap.size := HB.out.size
      rw [show inRA A B = [] from by simp [inRA, inRB, inCode, HQ.out], show inRB A B = [] from by simp [inRA, inRB, inCode, HQ.out]]
      exact OwnSol.nil0 (by first | exact hz | (simp [World.setCell]; exact hz))
    · first | exact HB.out | exact (HB.out.setCell (p := ⟨w.heap.size + 1, 0, none⟩) (by show _ ≤ w.heap.size + 1; omega) _).setCell (p := ⟨w.heap.size + 1, 1, none⟩) (by show _ ≤ w.heap.size + 1; omega) _
  have HP0 := Lib.hid hp0
  obtain ⟨a0, c0, rfl, _, _⟩ := hA.1.shape
  obtain ⟨a0s, c0s, rfl, _, _⟩ := hA.2.shape
  go_enter Try.func24, Try.ntmps24
  go_wp2_with fail
  obtain ⟨f0, f1, hW0, hsz⟩ := boxes2 w [.slice a0 A.length c0, .slice a0s B.length c0s] [.slice none 0 0, .slice none 0 0] 27 27
  obtain ⟨W0, hW⟩ : ∃ W, ((w.alloc (.cells #[.slice a0 A.length c0, .slice a0s B.length c0s] 27)).alloc (.cells #[.slice none 0 0, .slice none 0 0] 27)) = W := ⟨_, rfl⟩
  rw [hW] at f0 f1 hW0 hsz ⊢
  clear hW hsz
  refine (c_IsSolution _ _ _ _ _ (hA.below hW0)).mono ?_; rintro e g0 ⟨rfl, hbg0⟩
  have hB0 := bb hW0 hbg0
  replace f0 := f0.under hbg0
  obtain ⟨cA0, cB0, -, -⟩ := two_cells f0
  replace f1 := f1.under hbg0
  obtain ⟨cA1, cB1, fA1, fB1⟩ := two_cells f1
  clear hbg0
  have hpm := isSol_pm HP0.out
  have HPm := Lib.hid (pmL_perm hpm (isSol_coll HP0.out))
  obtain ⟨q1, q2, q3⟩ := isPM_parts hpm
  obtain ⟨hl1, hl2⟩ := isTab_len q1
  have hrl : ∀ {t : List (List Int)}, isTab t = true → ∀ r ∈ t, r.length ≤ 1048576 := by
    intro t ht r hr
    obtain ⟨j, hj, rfl⟩ := List.getElem_of_mem hr
    have := isTab_row ht (x := j) (by omega) (by omega)
    have := isTab_len ht
    rw [row_nat _ _ hj] at *; omega
  have HRl := Lib.hid (And.intro (hrl q1) (hrl q2)); have HQ1 := Lib.hid q1; have HQ2 := Lib.hid q2; have HQ3 := Lib.hid q3.symm
  have hBl : B.length ≤ 1048576 := by omega
  clear hrl q1 q2 q3 hpm
  go_wp2_with fail
  obtain ⟨W0, rfl⟩ : ∃ W0 : World, W0 = g0 := ⟨_, rfl⟩
  have HRA := Lib.hid (show Rows W0.drew _ A from (hA.1.below hB0).below (Below.refl _ _).drew); have HRB := Lib.hid (show Rows W0.drew _ B from (hA.2.below hB0).below (Below.refl _ _).drew)
  have HS0 := Lib.hid (hA.below hB0)
  have HF0 := Lib.hid f0; have HF1 := Lib.hid f1; have HB0 := Lib.hid hB0
  have HSk : Hid (∀ w' : World, Below W0.drew.heap.size W0.drew w' → w'.cell? ⟨w.heap.size, 0, none⟩ = some (.slice a0 A.length c0) ∧ w'.cell? ⟨w.heap.size, 1, none⟩ = some (.slice a0s B.length c0s)) := Lib.hid (fun w' hb => ⟨(two_cells (f0.drew.under hb)).1, (two_cells (f0.drew.under hb)).2.1⟩)
  have BC0 : Below W0.drew.heap.size W0.drew W0.drew := Below.refl _ _
  have BCd : Below W0.drew.heap.size W0.drew (W0.alloc (.cells #[.slice none 0 0, .slice none 0 0] 27)).drew := (Below.refl W0.drew.heap.size W0.drew).alloc (Nat.le_refl _) (.cells #[.slice none 0 0, .slice none 0 0] 27)
  have hqa := f0.lt; have hqb := f1.lt
  clear f0 f1 hB0 hA hW0 cA0 cB0 cA1 cB1 fA1 fB1
  have zz := HSk.out _ BC0
  have zd := HSk.out _ BCd
  obtain ⟨mz, hm1, hm2⟩ : ∃ z : Nat, z ≤ W0.heap.size ∧ W0.heap.size ≤ z := ⟨_, Nat.le_refl _, Nat.le_refl _⟩
  apply cut_waysInv
  · intro key
    go_region_held3 (fun w' => w'.cell? ⟨w.heap.size, 0, none⟩ = some (.slice a0 A.length c0) ∧ w'.cell? ⟨w.heap.size, 1, none⟩ = some (.slice a0s B.length c0s))
      (first | go_keep | exact HSk.out _ BC0 | exact HSk.out _ BC1 | exact HSk.out _ BC2 | exact HSk.out _ BCd | exact HSk.out _ (BC1.alloc BC1.size _) | exact HSk.out _ (BC2.alloc BC2.size _) | exact HSk.out _ ((BC2.setCell (p := ⟨w1.heap.size, 0, none⟩) BC1.size _).setCell (p := ⟨w1.heap.size, 1, none⟩) BC1.size _) | exact HSk.out _ ((BC2.setCell (p := ⟨W0.heap.size, 0, none⟩) (Nat.le_refl _) _).setCell (p := ⟨W0.heap.size, 1, none⟩) (Nat.le_refl _) _))
      ((first
        | (go_at_call 91; (with_reducible refine (c_cloneTable _ A _ (HRA.out.below (by first | exact Below.refl _ _ | exact BCd)) (by omega) HRl.out.1).mono ?_); rintro e w1 ⟨r1, rfl, ho1, hb1⟩; obtain ⟨ra1, rc1, hv1, -⟩ := ho1.rows.shape; subst hv1; have BC1 : Below W0.drew.heap.size W0.drew w1 := bb (by first | exact BC0 | exact BCd) hb1; try (have HQ : Blk w1 W0.heap.size 27 [.slice none 0 0, .slice none 0 0] := ((Blk.new W0 [.slice none 0 0, .slice none 0 0] 27).drew).under hb1))
        | (go_at_call 91; (with_reducible refine (c_cloneTable _ B _ (HRB.out.below (bb BC1 (by first | exact Below.refl _ _ | exact (Below.refl _ _).alloc (Nat.le_refl _) _))) hBl HRl.out.2).mono ?_); rintro e w2 ⟨r2, rfl, ho2, hb2⟩; obtain ⟨ra2, rc2, hv2, -⟩ := ho2.rows.shape; subst hv2; have BC12 : Below w1.heap.size w1 w2 := bb (by first | exact Below.refl _ _ | exact (Below.refl _ _).alloc (Nat.le_refl _) _) hb2; have BC2 := bb BC1 BC12; first | (have HQz : Blk w2 W0.heap.size 27 [.slice none 0 0, .slice none 0 0] := HQ.under BC12; have hzz := two_cells HQz; obtain ⟨z1, z2, z3, z4⟩ := hzz) | (have HQz : Blk w2 w1.heap.size 27 [.slice none 0 0, .slice none 0 0] := (Blk.new w1 [.slice none 0 0, .slice none 0 0] 27).under hb2; have hzz := two_cells HQz; obtain ⟨z1, z2, z3, z4⟩ := hzz) | skip)))
    all_goals
      have hz1 : W0.heap.size ≤ w1.heap.size := BC1.size
      have hz2 : w1.heap.size ≤ w2.heap.size := BC12.size
      have e0z : W0.drew.heap.size = W0.heap.size := rfl
      have e1z : (W0.alloc (.cells #[.slice none 0 0, .slice none 0 0] 27)).drew.heap.size = W0.heap.size + 1 := by simp
      have e2z : (w1.alloc (.cells #[.slice none 0 0, .slice none 0 0] 27)).heap.size = w1.heap.size + 1 := by simp
      first
        | (obtain ⟨V, hV⟩ : ∃ V, w2.alloc (.cells #[.slice ra1 A.length rc1, .slice ra2 B.length rc2] 27) = V := ⟨_, rfl⟩
           rw [hV]
           have hkk : Keep (fun k => k = w2.heap.size) w2 V := by rw [← hV]; exact keep_late _ _
           have FQ : Blk V (w2.heap.size) 27 [.slice ra1 A.length rc1, .slice ra2 B.length rc2] := by rw [← hV]; exact Blk.new w2 [.slice ra1 A.length rc1, .slice ra2 B.length rc2] 27
           have hsv := hkk.size
           have hTT : TwoIn mz (w2.heap.size) V (.slice ra1 A.length rc1) (.slice ra2 B.length rc2) A B := ⟨_, w1.heap.size, _, w2.heap.size, (by first | omega | (simp; omega)), (by first | omega | (simp; omega)), (by first | omega | (simp; omega)), (by omega), (by omega), (by first | omega | (simp; omega)), (by first | omega | (simp; omega)), (ho1.inn.under BC12).keep hkk (fun x x1 x2 e => by first | omega | (simp at x1; omega)), ho2.inn.keep hkk (fun x x1 x2 e => by first | omega | (simp at x1; omega))⟩
           have hqz : mz ≤ w2.heap.size := by omega
           have BZ : Below W0.drew.heap.size W0.drew V := BC2.trans (hkk.below fun k hk => ⟨by omega, by omega⟩)
           clear hkk hV hsv
           generalize w2.heap.size = q at FQ hqz hTT ⊢)
        | (obtain ⟨V, hV⟩ : ∃ V, (w2.setCell ⟨w1.heap.size, 0, none⟩ (.slice ra1 A.length rc1)).setCell ⟨w1.heap.size, 1, none⟩ (.slice ra2 B.length rc2) = V := ⟨_, rfl⟩
           rw [hV]
           have hkk : Keep (fun k => k = w1.heap.size) w2 V := by rw [← hV]; exact keep_early _ _ _ _
           have FQ : Blk V (w1.heap.size) 27 [.slice ra1 A.length rc1, .slice ra2 B.length rc2] := by rw [← hV]; exact box_early HQz
           have hsv := hkk.size
           have hTT : TwoIn mz (w1.heap.size) V (.slice ra1 A.length rc1) (.slice ra2 B.length rc2) A B := ⟨_, w1.heap.size, _, w2.heap.size, (by first | omega | (simp; omega)), (by first | omega | (simp; omega)), (by first | omega | (simp; omega)), (by omega), (by omega), (by first | omega | (simp; omega)), (by first | omega | (simp; omega)), (ho1.inn.under BC12).keep hkk (fun x x1 x2 e => by first | omega | (simp at x1; omega)), ho2.inn.keep hkk (fun x x1 x2 e => by first | omega | (simp at x1; omega))⟩
           have hqz : mz ≤ w1.heap.size := by omega
           have BZ : Below W0.drew.heap.size W0.drew V := BC2.trans (hkk.below fun k hk => ⟨by omega, by omega⟩)
           clear hkk hV hsv
           generalize w1.heap.size = q at FQ hqz hTT ⊢)
        | (obtain ⟨V, hV⟩ : ∃ V, (w2.setCell ⟨W0.heap.size, 0, none⟩ (.slice ra1 A.length rc1)).setCell ⟨W0.heap.size, 1, none⟩ (.slice ra2 B.length rc2) = V := ⟨_, rfl⟩
           rw [hV]
           have hql := HQ.lt
           have hkk : Keep (fun k => k = W0.heap.size) w2 V := by rw [← hV]; exact keep_early _ _ _ _
           have FQ : Blk V (W0.heap.size) 27 [.slice ra1 A.length rc1, .slice ra2 B.length rc2] := by rw [← hV]; exact box_early HQz
           have hsv := hkk.size
           have hTT : TwoIn mz (W0.heap.size) V (.slice ra1 A.length rc1) (.slice ra2 B.length rc2) A B := ⟨_, w1.heap.size, _, w2.heap.size, (by first | omega | (simp; omega)), (by first | omega | (simp; omega)), (by first | omega | (simp; omega)), (by omega), (by omega), (by first | omega | (simp; omega)), (by first | omega | (simp; omega)), (ho1.inn.under BC12).keep hkk (fun x x1 x2 e => by first | omega | (simp at x1; omega)), ho2.inn.keep hkk (fun x x1 x2 e => by first | omega | (simp at x1; omega))⟩
           have hqz : mz ≤ W0.heap.size := by omega
           have BZ : Below W0.drew.heap.size W0.drew V := BC2.trans (hkk.below fun k hk => ⟨by omega, by omega⟩)
           clear hkk hV hsv
           generalize W0.heap.size = q at FQ hqz hTT ⊢)
      clear ho1 ho2
      rename_i hHz
      clear hHz
      have pk := And.intro FQ (And.intro hTT (And.intro hqz BZ))
      clear FQ hTT hqz BZ
      revert pk
      revert q
      revert V
      revert rc2
      revert ra2
      revert rc1
      revert ra1
      exact key.out
  rintro ra1 rc1 ra2 rc2 V q ⟨FQ, hTT, hqz, BZ⟩
  have hsz : W0.heap.size ≤ V.heap.size := BZ.size
  have BW : Below W0.heap.size W0 V := (show Below W0.heap.size W0 W0.drew from (Below.refl _ _).drew).trans BZ
  have HF0V := Lib.hid (HF0.out.drew.under BZ); have HF1V := Lib.hid (HF1.out.drew.under BZ)
  have HFQ := Lib.hid FQ; have HTT := Lib.hid hTT; have HBW := Lib.hid BW
  have hqv := FQ.lt
  obtain ⟨cA0, cB0, -, -⟩ := two_cells HF0V.out
  clear FQ hTT BW BZ zz zd BC0 BCd HSk HRA HRB
  go_wp2
  have hbl : B.length = A.length := HQ3.out
  obtain ⟨tb1, _, _, tb2, _, _, _, _, rfl, rfl, -⟩ := HTT.out.put (u := 0) (y := 0) (m := A.length) (m' := A.length) (by omega) (by omega) (isTab_row HQ1.out (x := ((0 : Nat) : Int)) (by omega) (by omega)) ((isTab_row HQ2.out (x := ((0 : Nat) : Int)) (by omega) (by omega)).trans hbl) (by omega) (by omega)
  have h00 : Hid (TwoIn mz q V (.slice (some ⟨tb1, 0, none⟩) A.length rc1) (.slice (some ⟨tb2, 0, none⟩) B.length rc2) (ivT A B A.length (fun c => c / A.length) (val2 A) (0 * A.length)) (ivT A B A.length (fun c => c % A.length) (val2 B) (0 * A.length))) := Lib.hid (by
    have e2 : tabOf A.length (val2 B) = B := by rw [← HQ3.out]; exact tabOf_val2 HQ2.out
    rw [Nat.zero_mul, ivT_zero HPm.out, ivT_zero HPm.out, tabOf_val2 HQ1.out, e2]; exact HTT.out)
  clear hbl
  go_loopw [24, 5, 6, 7, 8, 9] (fun i _ _ _ _ _ wr => ∃ x : Nat, x ≤ A.length ∧ i = .int .i64 x ∧ Hid (Below W0.heap.size W0 wr) ∧ Hid (Blk wr w.heap.size 27 [.slice a0 A.length c0, .slice a0s B.length c0s]) ∧ Hid (Blk wr (w.heap.size + 1) 27 [.slice none 0 0, .slice none 0 0]) ∧ Hid (Blk wr q 27 [.slice (some ⟨tb1, 0, none⟩) A.length rc1, .slice (some ⟨tb2, 0, none⟩) B.length rc2]) ∧ Hid (TwoIn mz q wr (.slice (some ⟨tb1, 0, none⟩) A.length rc1) (.slice (some ⟨tb2, 0, none⟩) B.length rc2) (ivT A B A.length (fun c => c / A.length) (val2 A) (x * A.length)) (ivT A B A.length (fun c => c % A.length) (val2 B) (x * A.length)))) (fun i _ _ _ _ _ _ => A.length - (intOf i).toNat)
  case atStart => exact ⟨0, Nat.zero_le _, rfl, HBW, HF0V, HF1V, HFQ, h00⟩
  case round =>
    clear h00 HF0V HF1V HFQ HTT HBW cA0 cB0
    obtain ⟨x, hx, rfl, HB, HG, HR, HF, HT⟩ := hrel
    obtain ⟨wo, rfl⟩ : ∃ wo : World, wo = wr := ⟨_, rfl⟩
    by_cases hlt : x < A.length
    · have hbl : B.length = A.length := HQ3.out
      obtain ⟨b, o, xa, xc, hpa, hcell0, hu⟩ := HS0.out.1.getS x hlt
      have hcell := cell_under HB.out hcell0
      subst hpa
      obtain ⟨b', o', ya, yc, hpa', hcell0', hu'⟩ := HS0.out.2.getS x (by omega)
      subst hpa'
      have hrl := isTab_row HQ1.out (x := x) (by omega) (by omega)
      have hrl' := isTab_row HQ2.out (x := x) (by omega) (by omega)
      obtain ⟨rb, ro, rfl, -⟩ := hu.get 0 (by omega)
      obtain ⟨rb', ro', rfl, -⟩ := hu'.get 0 (by omega)
      have HU := Lib.hid hu; have HU' := Lib.hid hu'; have HC' := Lib.hid hcell0'; have HL := Lib.hid (And.intro hrl hrl')
      clear hu hu' hcell0 hcell0' hrl' hbl
      go_wp2
      go_loopw [31, 7, 8, 9] (fun j _ _ _ wi => ∃ y : Nat, y ≤ A.length ∧ j = .int .i64 y ∧ Hid (Below W0.heap.size W0 wi) ∧ Hid (Blk wi w.heap.size 27 [.slice (some ⟨b, o, none⟩) A.length c0, .slice (some ⟨b', o', none⟩) B.length c0s]) ∧ Hid (Blk wi (w.heap.size + 1) 27 [.slice none 0 0, .slice none 0 0]) ∧ Hid (Blk wi q 27 [.slice (some ⟨tb1, 0, none⟩) A.length rc1, .slice (some ⟨tb2, 0, none⟩) B.length rc2]) ∧ Hid (TwoIn mz q wi (.slice (some ⟨tb1, 0, none⟩) A.length rc1) (.slice (some ⟨tb2, 0, none⟩) B.length rc2) (ivT A B A.length (fun c => c / A.length) (val2 A) (x * A.length + y)) (ivT A B A.length (fun c => c % A.length) (val2 B) (x * A.length + y)))) (fun j _ _ _ _ => A.length - (intOf j).toNat)
      case atStart => exact ⟨0, Nat.zero_le _, rfl, HB, HG, HR, HF, HT⟩
      case round =>
        clear HB HG HR HF HT
        obtain ⟨y, hy, rfl, HB, HG, HR, HF, HT⟩ := hrel
        obtain ⟨wo2, rfl⟩ : ∃ wo2 : World, wo2 = wr := ⟨_, rfl⟩
        by_cases hlty : y < A.length
        · have hbl : B.length = A.length := HQ3.out
          have hrl := HL.out.1
          have hrl' := HL.out.2
          obtain ⟨_, _, e1, hc1'⟩ := (HU.out.below HB.out).get y (by omega)
          injection e1 with e1; injection e1 with e1 e2; subst e1 e2
          obtain ⟨_, _, e1, hc2'⟩ := (HU'.out.below HB.out).get y (by omega)
          injection e1 with e1; injection e1 with e1 e2; subst e1 e2
          have hc3 := cell_under HB.out HC'.out
          have va := val2_lt HQ1.out (x := x) (y := y) (by omega) (by omega) (by omega) (by omega)
          have vb := val2_lt HQ2.out (x := x) (y := y) (by omega) (by omega) (by omega) (by omega)
          have HVa := Lib.hid va; have HVb := Lib.hid vb
          obtain ⟨u, hu⟩ : ∃ u : Nat, val2 A x y = u := ⟨(val2 A x y).toNat, by omega⟩
          obtain ⟨v, hv⟩ : ∃ v : Nat, val2 B x y = v := ⟨(val2 B x y).toNat, by omega⟩
          have hc1 : wo2.cell? ⟨rb, ro + y, none⟩ = some (.int .i64 (u : Int)) := by rw [← hu]; exact hc1'
          have hc2 : wo2.cell? ⟨rb', ro' + y, none⟩ = some (.int .i64 (v : Int)) := by rw [← hv]; exact hc2'
          have hun : u < A.length := by omega
          have hvn : v < A.length := by omega
          have HU0 := Lib.hid hu; have HV0 := Lib.hid hv
          have hlyb : (y : Int) < B.length := by omega
          have hlyc : (y : Int) < (row B (x : Int)).length := by omega
          clear hu hv va vb hrl hrl' hbl hc1' hc2'
          have hlb : (x : Int) < B.length := by rw [HQ3.out]; omega
          have hub : u < B.length := by rw [HQ3.out]; omega
          obtain ⟨c1, c2, -, -⟩ := two_cells HG.out
          have hTd := HT.out.under (Below.refl wo2.heap.size wo2).drew
          have hQd := HF.out.under (Below.refl wo2.heap.size wo2).drew
          obtain ⟨_, g1, r1, _, g2, r2, z1, z2, e1, e2, ⟨m1, m2, m3, m4⟩, ⟨n1, n2, n3, n4⟩, ⟨o1, o2, o3, o4, o5⟩, p1, p2, p3, p4, p5, p6, p7, p8⟩ := hTd.put (u := u) (y := v) (m := A.length) (m' := A.length) (by simpa using hun) (by simpa using hun) (ivT_row hun) (ivT_row hun) hvn hvn
          injection e1 with e1; injection e1 with e1; injection e2 with e2; injection e2 with e2; subst e1 e2
          clear hTd
          obtain ⟨q1, q2, q3, q4⟩ := two_cells hQd
          go_wp2
          have hs1 : (wo2.drew.setCell ⟨g1, v, none⟩ (.int .i64 (x : Int))).cell? ⟨g2, v, none⟩ = some z2 ∧ (wo2.drew.setCell ⟨g1, v, none⟩ (.int .i64 (x : Int))).frozen? ⟨g2, v, none⟩ = false := by
            have e : (wo2.drew.setCell ⟨g1, v, none⟩ (.int .i64 (x : Int))).heap[g2]? = wo2.drew.heap[g2]? := ((Keep.refl (fun x => x = g1) wo2.drew).setCell (p := ⟨g1, v, none⟩) (.inl rfl) _).block g2 (cell_lt p5) (by omega)
            exact ⟨(World.cell?_of_block e).trans p5, (World.frozen?_of_block e).trans p6⟩
          have hs2 : (wo2.drew.setCell ⟨g2, v, none⟩ (.int .i64 (y : Int))).cell? ⟨g1, v, none⟩ = some z1 ∧ (wo2.drew.setCell ⟨g2, v, none⟩ (.int .i64 (y : Int))).frozen? ⟨g1, v, none⟩ = false := by
            have e : (wo2.drew.setCell ⟨g2, v, none⟩ (.int .i64 (y : Int))).heap[g1]? = wo2.drew.heap[g1]? := ((Keep.refl (fun x => x = g2) wo2.drew).setCell (p := ⟨g2, v, none⟩) (.inl rfl) _).block g1 (cell_lt p3) (by omega)
            exact ⟨(World.cell?_of_block e).trans p3, (World.frozen?_of_block e).trans p4⟩
          obtain ⟨s1, s2⟩ := hs1
          have s3 : (wo2.setCell ⟨g1, v, none⟩ (.int .i64 (x : Int))).cell? ⟨g2, v, none⟩ = some z2 := s1
          have s4 : (wo2.setCell ⟨g1, v, none⟩ (.int .i64 (x : Int))).frozen? ⟨g2, v, none⟩ = false := s2
          clear hs2
          have HK : Hid (∀ w' : World, Keep (fun b => b = g1 ∨ b = g2) wo2.drew w' → w'.cell? ⟨q, 0, none⟩ = some (.slice (some ⟨tb1, 0, none⟩) A.length rc1) ∧ w'.cell? ⟨q, 1, none⟩ = some (.slice (some ⟨tb2, 0, none⟩) B.length rc2) ∧ w'.cell? ⟨tb1, u, none⟩ = some (.slice (some ⟨g1, 0, none⟩) A.length r1) ∧ w'.cell? ⟨tb2, u, none⟩ = some (.slice (some ⟨g2, 0, none⟩) A.length r2)) := Lib.hid (fun w' k =>
            ⟨(World.cell?_of_block (k.block q (cell_lt q1) (by omega))).trans q1, (World.cell?_of_block (k.block q (cell_lt q1) (by omega))).trans q2, (World.cell?_of_block (k.block tb1 (cell_lt p1) (by omega))).trans p1, (World.cell?_of_block (k.block tb2 (cell_lt p2) (by omega))).trans p2⟩)
          have K0 := Keep.refl (fun b => b = g1 ∨ b = g2) wo2.drew
          have o5s := o5.symm
          have zz := HK.out _ K0
          have P7 := Lib.hid p7; have P8 := Lib.hid p8
          clear p7 p8
          go_region_held3 (fun w' => w'.cell? ⟨q, 0, none⟩ = some (.slice (some ⟨tb1, 0, none⟩) A.length rc1) ∧ w'.cell? ⟨q, 1, none⟩ = some (.slice (some ⟨tb2, 0, none⟩) B.length rc2) ∧ w'.cell? ⟨tb1, u, none⟩ = some (.slice (some ⟨g1, 0, none⟩) A.length r1) ∧ w'.cell? ⟨tb2, u, none⟩ = some (.slice (some ⟨g2, 0, none⟩) A.length r2))
            (first | exact HK.out _ K0 | exact HK.out _ (K0.setCell (.inl (.inl rfl)) _) | exact HK.out _ (K0.setCell (.inl (.inr rfl)) _) | exact HK.out _ ((K0.setCell (.inl (.inl rfl)) _).setCell (.inl (.inr rfl)) _) | exact HK.out _ ((K0.setCell (.inl (.inr rfl)) _).setCell (.inl (.inl rfl)) _)) (fail)
          rename_i hHz
          clear hHz
          clear zz
          have kz : Keep (fun b => b = g1 ∨ b = g2) wo2 ((wo2.setCell ⟨g1, v, none⟩ (.int .i64 (x : Int))).setCell ⟨g2, v, none⟩ (.int .i64 (y : Int))).drew := (((Keep.refl (fun b => b = g1 ∨ b = g2) wo2).setCell (p := ⟨g1, v, none⟩) (.inl (.inl rfl)) (.int .i64 (x : Int))).setCell (p := ⟨g2, v, none⟩) (.inl (.inr rfl)) (.int .i64 (y : Int))).drew
          have hT9 : TwoIn mz q ((wo2.setCell ⟨g1, v, none⟩ (.int .i64 (x : Int))).setCell ⟨g2, v, none⟩ (.int .i64 (y : Int))).drew (.slice (some ⟨tb1, 0, none⟩) A.length rc1) (.slice (some ⟨tb2, 0, none⟩) B.length rc2) (ivT A B A.length (fun c => c / A.length) (val2 A) (x * A.length + y + 1)) (ivT A B A.length (fun c => c % A.length) (val2 B) (x * A.length + y + 1)) := by
            have h9 := P7.out x y
            have hcd := code_div (n := A.length) (x := (x : Int)) (y := (y : Int)) (by omega) (by omega)
            have va := HVa.out
            have vb := HVb.out
            have e1 := ivT_step HPm.out (fun c => c / A.length) (val2 A) hlt hlty va.1 va.2 vb.1 (by have := HQ3.out; omega)
            have e2 := ivT_step HPm.out (fun c => c % A.length) (val2 B) hlt hlty va.1 va.2 vb.1 (by have := HQ3.out; omega)
            rw [HU0.out, HV0.out] at e1 e2
            simp only [Int.toNat_natCast] at e1 e2
            rw [hcd.1] at e1
            rw [hcd.2] at e2
            rw [← e1, ← e2]
            exact h9
          have hB9 : Below W0.heap.size W0 ((wo2.setCell ⟨g1, v, none⟩ (.int .i64 (x : Int))).setCell ⟨g2, v, none⟩ (.int .i64 (y : Int))).drew := ((HB.out.setCell (p := ⟨g1, v, none⟩) (by show _ ≤ g1; omega) _).setCell (p := ⟨g2, v, none⟩) (by show _ ≤ g2; omega) _).drew
          have H9 := Lib.hid (And.intro hT9 (And.intro hB9 kz))
          clear hT9 hB9 kz s1 s2 s3 s4 p1 p2 p3 p4 p5 p6 q1 q2 q3 q4 c1 c2 K0 hQd
          go_wp2
          go_roundw
          case rel =>
            exact ⟨y + 1, by omega, by go_num, Lib.hid H9.out.2.1, Lib.hid (HG.out.of_block (H9.out.2.2.block _ HG.out.lt (by omega))), Lib.hid (HR.out.of_block (H9.out.2.2.block _ HR.out.lt (by omega))), Lib.hid (HF.out.of_block (H9.out.2.2.block _ HF.out.lt (by omega))), Lib.hid H9.out.1⟩
          case measure => simp [intOf]; omega
        · obtain rfl : y = A.length := by omega
          go_wp2
          go_roundw
          case rel => exact ⟨x + 1, by omega, by go_num, HB, HG, HR, HF, Lib.hid (by have h := HT.out; rw [show x * A.length + A.length = (x + 1) * A.length from by rw [Nat.succ_mul]] at h; exact h)⟩
          case measure => simp [intOf]; omega
    · obtain rfl : x = A.length := by omega
      obtain ⟨c1, c2, -, -⟩ := two_cells HF.out
      obtain ⟨d1, d2, d3, d4⟩ := two_cells HR.out
      go_wp2
      have hT := HT.out
      rw [ivA_eq HPm.out, ivB_eq HPm.out] at hT
      have hS : OwnSol mz wo.heap.size wo (.slice (some ⟨tb1, 0, none⟩) A.length rc1) (.slice (some ⟨tb2, 0, none⟩) B.length rc2) (ivA A B A.length) (ivB A B A.length) := by
        obtain ⟨l1, h1, l2, h2, a1, a2, a3, a4, a5, _, _, o1, o2⟩ := hT
        exact ⟨l1, h1, l2, h2, a1, a4, a2, a5, .inl a3, o1, o2⟩
      obtain ⟨hA, hB⟩ := stored (q := w.heap.size + 1) (bb HB0.out HB.out) hS (by omega) (by omega)
      refine bodyPost_ret (v := .tuple #[.agg #[.slice (some ⟨tb1, 0, none⟩) A.length rc1, .slice (some ⟨tb2, 0, none⟩) B.length rc2], .int .i64 0]) (by simp [results, Try.results24, go_sem, d1, d2]) rfl ⟨_, _, by simp [inCode, HP0.out]; exact ⟨rfl, rfl⟩, by simpa [inRA, inRB, HP0.out] using hA, hB⟩

set_option maxRecDepth 100000 in
set_option maxHeartbeats 2000000 in
theorem c_specInverseSolution (v0 u0 : Value) (A B : List (List Int)) (w : World) (hA : Sol w v0 u0 A B)  :
    Calls Try.prog 23 #[.agg #[v0, u0]] w (RSolRC w (inRA A B) (inRB A B) (inCode A B)) := by
  by_cases hp0 : isSol A B = true
  case neg =>
    have hq0 : isSol A B = false := by simpa using hp0
    have HQ := Lib.hid hq0; clear hp0
    obtain ⟨a0, c0, rfl, _, _⟩ := hA.1.shape
    obtain ⟨a0s, c0s, rfl, _, _⟩ := hA.2.shape
    go_enter Try.func23, Try.ntmps23
    go_wp2_with fail
    obtain ⟨f0, f1, hW0, hsz⟩ := boxes2 w [.slice a0 A.length c0, .slice a0s B.length c0s] [.slice none 0 0, .slice none 0 0] 27 27
    obtain ⟨W0, hW⟩ : ∃ W, ((w.alloc (.cells #[.slice a0 A.length c0, .slice a0s B.length c0s] 27)).alloc (.cells #[.slice none 0 0, .slice none 0 0] 27)) = W := ⟨_, rfl⟩
    rw [hW] at f0 f1 hW0 hsz ⊢
    clear hW hsz
    refine (c_l02Is _ _ _ _ _ (hA.below hW0)).mono ?_; rintro e g0 ⟨rfl, hbg0⟩
    have hB0 := bb hW0 hbg0
    replace f0 := f0.under hbg0
    obtain ⟨cA0, cB0, -, -⟩ := two_cells f0
    replace f1 := f1.under hbg0
    obtain ⟨cA1, cB1, fA1, fB1⟩ := two_cells f1
    clear hbg0
    have HB := Lib.hid hB0
    clear hB0 hW0
    go_wp2
    refine bodyPost_ret (v := .tuple #[.agg #[.slice none 0 0, .slice none 0 0], .int .i64 1]) (by simp [results, Try.results23, go_sem, cA1, cB1]) rfl ⟨.slice none 0 0, .slice none 0 0, by simp [inRA, inRB, inCode, HQ.out], ?_, ?_⟩
    · exact ⟨_, rfl, ⟨by simpa [inRA, inRB, inCode, HQ.out] using (OwnRowsIn.nil0 0 0 _).rows, by simpa [inRA, inRB, inCode, HQ.out] using (OwnRowsIn.nil0 0 0 _).rows⟩, Nat.le_refl _, Below.refl _ _⟩
    · first | exact HB.out | exact (HB.out.setCell (p := ⟨w.heap.size + 1, 0, none⟩) (by show _ ≤ w.heap.size + 1; omega) _).setCell (p := ⟨w.heap.size + 1, 1, none⟩) (by show _ ≤ w.heap.size + 1; omega) _
  have HP0 := Lib.hid hp0
  obtain ⟨a0, c0, rfl, _, _⟩ := hA.1.shape
  obtain ⟨a0s, c0s, rfl, _, _⟩ := hA.2.shape
  go_enter Try.func23, Try.ntmps23
  go_wp2_with fail
  obtain ⟨f0, f1, hW0, hsz⟩ := boxes2 w [.slice a0 A.length c0, .slice a0s B.length c0s] [.slice none 0 0, .slice none 0 0] 27 27
  obtain ⟨W0, hW⟩ : ∃ W, ((w.alloc (.cells #[.slice a0 A.length c0, .slice a0s B.length c0s] 27)).alloc (.cells #[.slice none 0 0, .slice none 0 0] 27)) = W := ⟨_, rfl⟩
  rw [hW] at f0 f1 hW0 hsz ⊢
  clear hW hsz
  refine (c_l02Is _ _ _ _ _ (hA.below hW0)).mono ?_; rintro e g0 ⟨rfl, hbg0⟩
  have hB0 := bb hW0 hbg0
  replace f0 := f0.under hbg0
  obtain ⟨cA0, cB0, -, -⟩ := two_cells f0
  replace f1 := f1.under hbg0
  obtain ⟨cA1, cB1, fA1, fB1⟩ := two_cells f1
  clear hbg0
  have HSo := Lib.hid (hA.below hB0); have HBW := Lib.hid hB0; have HF1 := Lib.hid f1
  clear hA hB0 hW0
  go_wp2_with fail
  refine (c_l02Inverse _ _ A B _ HSo.out HP0.out (isSol_pm HP0.out)).mono ?_; rintro e wz ⟨s1, s2, rfl, hs, hbz⟩
  obtain ⟨sa1, sl1, sc1, rfl⟩ := hs.1.any
  obtain ⟨sa2, sl2, sc2, rfl⟩ := hs.2.any
  clear cA0 cB0 cA1 cB1 fA1 fB1 f0 f1
  obtain ⟨z0, z1, z2, z3⟩ := two_cells (HF1.out.under hbz)
  have HLo := Lib.hid HF1.out.lt; have HS := Lib.hid hs; have HBz := Lib.hid (bb HBW.out hbz); clear hs hbz
  go_wp2
  obtain ⟨hA, hB⟩ := storedR (q := w.heap.size + 1) HBz.out HS.out (by omega) HLo.out
  refine bodyPost_ret (v := .tuple #[.agg #[.slice sa1 sl1 sc1, .slice sa2 sl2 sc2], .int .i64 0]) (by simp [results, Try.results23, go_sem, z0, z1]) rfl ⟨_, _, by simp [inCode, HP0.out]; exact ⟨rfl, rfl⟩, by simpa [inRA, inRB, HP0.out] using hA, hB⟩

theorem in_total (A B : List (List Int)) : total (inRA A B) ≤ 144 ∧ total (inRB A B) ≤ 144 := by
  unfold inRA inRB
  split
  · rename_i h
    obtain ⟨q1, q2, _⟩ := isPM_parts (isSol_pm h)
    have l1 := isTab_len q1
    have h1 := total_le _ (tab_rows (n := A.length) (g := fun u v => nth (invL (pmL A B A.length)) (u * A.length + v) / A.length) l1.2)
    have h2 := total_le _ (tab_rows (n := A.length) (g := fun u v => nth (invL (pmL A B A.length)) (u * A.length + v) % A.length) l1.2)
    rw [tabOf_length] at h1 h2
    unfold ivA ivB
    omega
  · simp [total]
theorem cut_waysInverseSolution {p G : Prop} (k : Hid p → G) (h : p) : G := k (Lib.hid h)
set_option maxHeartbeats 16000000 in
theorem law_InverseSolution (v0 u0 : Value) (x0 y0 : List (List Int)) (w : World) (hr0 : Rows w v0 x0) (hr0' : Rows w u0 y0) :
    Calls Try.prog 4 #[.agg #[v0, u0]] w (RVal w (.bool true)) := by
  obtain ⟨a0, c0, rfl, hc0, hm0⟩ := hr0.shape
  obtain ⟨a0s, c0s, rfl, hc0s, hm0s⟩ := hr0'.shape
  have hx0 : Sol w (.slice a0 x0.length c0) (.slice a0s y0.length c0s) x0 y0 := ⟨hr0, hr0'⟩
  clear hr0 hr0'
  go_enter Try.func4, Try.ntmps4
  go_wp2_with fail
  obtain ⟨bx0, BW, hsz0⟩ := boxes1 w [.slice a0 x0.length c0, .slice a0s y0.length c0s] 24
  obtain ⟨W0, hW0⟩ : ∃ W, (w.alloc (.cells #[.slice a0 x0.length c0, .slice a0s y0.length c0s] 24)) = W := ⟨_, rfl⟩
  rw [hW0] at bx0 BW hsz0 ⊢
  have hs0 : w.heap.size + 1 ≤ W0.heap.size := by omega
  clear hW0 hsz0
  refine (c_szSolution _ _ _ _ _ _ (hx0.below BW) (by omega) (by omega)).mono ?_; rintro e w1 ⟨rfl, hb1⟩
  have hs1 := hb1.size
  replace BW := bb BW hb1
  replace bx0 := bx0.under hb1
  obtain ⟨cA0, cB0, -, -⟩ := two_cells bx0
  clear hb1
  by_cases hg0 : leftS x0 y0 (1048576) < 0
  case pos =>
    have HB := Lib.hid BW; clear BW
    go_wp2
    go_ret
    exact ⟨rfl, HB.out⟩
  have hf0 := leftS_fits (left := 1048576) (by omega) (by omega) hg0
  have Hf0 := Lib.hid hf0
  clear hf0
  have hf0 : (x0.length ≤ 1048576 ∧ total x0 ≤ 1048576) ∧ (y0.length ≤ 1048576 ∧ total y0 ≤ 1048576) ∧ 0 ≤ leftS x0 y0 (1048576) ∧ leftS x0 y0 (1048576) ≤ 1048576 := ⟨⟨Hf0.out.1.1, Hf0.out.1.2.2⟩, ⟨Hf0.out.2.1.1, Hf0.out.2.1.2.2⟩, Hf0.out.2.2⟩
  have hB0 : total (inRA x0 y0) + total (inRB x0 y0) ≤ 1152921504606846976 := by have := in_total x0 y0; omega
  obtain ⟨RA0, hRA0⟩ : ∃ z, z = inRA x0 y0 := ⟨_, rfl⟩
  obtain ⟨RB0, hRB0⟩ : ∃ z, z = inRB x0 y0 := ⟨_, rfl⟩
  obtain ⟨R1, hR1⟩ : ∃ z, z = inCode x0 y0 := ⟨_, rfl⟩
  rw [← hRA0, ← hRB0] at hB0
  have HRA0 := Lib.hid hRA0
  clear hRA0
  have HRB0 := Lib.hid hRB0
  clear hRB0
  have HR1 := Lib.hid hR1
  clear hR1
  have hd0 : decide (RA0 = RA0 ∧ RB0 = RB0) = true := by simp
  have hk1 : (R1 != R1) = false := by simp
  have hda0 : decide (x0 = x0 ∧ y0 = y0) = true := by simp
  have hq0 : ((1 + (total RA0 : Int) + (total RB0 : Int)) != (1 + (total RA0 : Int) + (total RB0 : Int))) = false := by simp
  go_wp2_with fail
  refine (c_toSolution _ _ _ _ _ (hx0.below BW) hf0.1.1 Hf0.out.1.2.1 hf0.2.1.1 Hf0.out.2.1.2.1).mono ?_; rintro e w2 ⟨t11, t12, rfl, ot1, hb2⟩
  have hs2 := hb2.size
  replace BW := bb BW hb2
  replace bx0 := bx0.under hb2
  clear cA0 cB0
  obtain ⟨cA0, cB0, -, -⟩ := two_cells bx0
  clear hb2
  go_wp2_with fail
  refine (c_specInverseSolution _ _ _ _ _ (ot1.sol)).mono ?_
  rw [← HRA0.out, ← HRB0.out, ← HR1.out]
  rintro e w3 ⟨s01, s02, rfl, os0, hb3⟩
  have hs3 := hb3.size
  replace ot1 := ot1.under hb3
  replace BW := bb BW hb3
  replace bx0 := bx0.under hb3
  clear cA0 cB0
  obtain ⟨cA0, cB0, -, -⟩ := two_cells bx0
  clear ot1
  have hS := os0.sol
  clear os0
  obtain ⟨sas0, scs0, hvs0, _, _⟩ := hS.1.shape
  subst hvs0
  obtain ⟨sbs0, sds0, hvs0, _, _⟩ := hS.2.shape
  subst hvs0
  have BS : Below w3.heap.size w3 w3 := Below.refl _ _
  clear hb3
  obtain ⟨cA0z, cB0z, -, -⟩ := two_cells (bx0.alloc (.cells #[.slice sas0 RA0.length scs0, .slice sbs0 RB0.length sds0] 27))
  go_wp2_with fail
  clear cA0z cB0z
  obtain ⟨bxs0, hb4, hz4⟩ := boxes1 w3 [.slice sas0 RA0.length scs0, .slice sbs0 RB0.length sds0] 27
  obtain ⟨w4, hW4⟩ : ∃ W, w3.alloc (.cells #[.slice sas0 RA0.length scs0, .slice sbs0 RB0.length sds0] 27) = W := ⟨_, rfl⟩
  rw [hW4] at bxs0 hb4 hz4 ⊢
  have hs4 : w3.heap.size + 1 ≤ w4.heap.size := by omega
  clear hW4 hz4
  replace BW := bb BW hb4
  replace BS := bb BS hb4
  replace bx0 := bx0.under hb4
  clear cA0 cB0
  obtain ⟨cA0, cB0, -, -⟩ := two_cells bx0
  obtain ⟨cAs0, cBs0, -, -⟩ := two_cells bxs0
  clear hb4
  refine (c_toSolution _ _ _ _ _ (hx0.below BW) hf0.1.1 Hf0.out.1.2.1 hf0.2.1.1 Hf0.out.2.1.2.1).mono ?_; rintro e w5 ⟨z01, z02, rfl, oz0, hb5⟩
  have hs5 := hb5.size
  replace BW := bb BW hb5
  replace BS := bb BS hb5
  replace bx0 := bx0.under hb5
  clear cA0 cB0
  obtain ⟨cA0, cB0, -, -⟩ := two_cells bx0
  replace bxs0 := bxs0.under hb5
  clear cAs0 cBs0
  obtain ⟨cAs0, cBs0, -, -⟩ := two_cells bxs0
  clear hb5
  obtain ⟨saz0, scz0, hvz0, _, _⟩ := oz0.sol.1.shape
  subst hvz0
  obtain ⟨sbz0, sdz0, hvz0, _, _⟩ := oz0.sol.2.shape
  subst hvz0
  obtain ⟨cA0z, cB0z, -, -⟩ := two_cells (bx0.alloc (.cells #[.slice saz0 x0.length scz0, .slice sbz0 y0.length sdz0] 27))
  obtain ⟨cAs0z, cBs0z, -, -⟩ := two_cells (bxs0.alloc (.cells #[.slice saz0 x0.length scz0, .slice sbz0 y0.length sdz0] 27))
  go_wp2_with fail
  clear cA0z cB0z
  clear cAs0z cBs0z
  obtain ⟨bxz0, hb6, hz6⟩ := boxes1 w5 [.slice saz0 x0.length scz0, .slice sbz0 y0.length sdz0] 27
  obtain ⟨w6, hW6⟩ : ∃ W, w5.alloc (.cells #[.slice saz0 x0.length scz0, .slice sbz0 y0.length sdz0] 27) = W := ⟨_, rfl⟩
  rw [hW6] at bxz0 hb6 hz6 ⊢
  have hs6 : w5.heap.size + 1 ≤ w6.heap.size := by omega
  clear hW6 hz6
  replace oz0 := oz0.under hb6
  replace BW := bb BW hb6
  replace BS := bb BS hb6
  replace bx0 := bx0.under hb6
  clear cA0 cB0
  obtain ⟨cA0, cB0, -, -⟩ := two_cells bx0
  replace bxs0 := bxs0.under hb6
  clear cAs0 cBs0
  obtain ⟨cAs0, cBs0, -, -⟩ := two_cells bxs0
  obtain ⟨cAz0, cBz0, -, -⟩ := two_cells bxz0
  clear hb6
  refine (c_InverseSolution _ _ _ _ _ (oz0.sol)).mono ?_
  rw [← HRA0.out, ← HRB0.out, ← HR1.out]
  rintro e w7 ⟨g01, g02, rfl, og0, hb7⟩
  have hs7 := hb7.size
  replace oz0 := oz0.under hb7
  replace BW := bb BW hb7
  replace BS := bb BS hb7
  replace bx0 := bx0.under hb7
  clear cA0 cB0
  obtain ⟨cA0, cB0, -, -⟩ := two_cells bx0
  replace bxs0 := bxs0.under hb7
  clear cAs0 cBs0
  obtain ⟨cAs0, cBs0, -, -⟩ := two_cells bxs0
  replace bxz0 := bxz0.under hb7
  clear cAz0 cBz0
  obtain ⟨cAz0, cBz0, -, -⟩ := two_cells bxz0
  obtain ⟨sag0, scg0, hvg0, _, _⟩ := og0.sol.1.shape
  subst hvg0
  obtain ⟨sbg0, sdg0, hvg0, _, _⟩ := og0.sol.2.shape
  subst hvg0
  clear hb7
  obtain ⟨cA0z, cB0z, -, -⟩ := two_cells (bx0.alloc (.cells #[.slice sag0 RA0.length scg0, .slice sbg0 RB0.length sdg0] 27))
  obtain ⟨cAs0z, cBs0z, -, -⟩ := two_cells (bxs0.alloc (.cells #[.slice sag0 RA0.length scg0, .slice sbg0 RB0.length sdg0] 27))
  obtain ⟨cAz0z, cBz0z, -, -⟩ := two_cells (bxz0.alloc (.cells #[.slice sag0 RA0.length scg0, .slice sbg0 RB0.length sdg0] 27))
  go_wp2_with fail
  clear cA0z cB0z
  clear cAs0z cBs0z
  clear cAz0z cBz0z
  obtain ⟨bxg0, hb8, hz8⟩ := boxes1 w7 [.slice sag0 RA0.length scg0, .slice sbg0 RB0.length sdg0] 27
  obtain ⟨w8, hW8⟩ : ∃ W, w7.alloc (.cells #[.slice sag0 RA0.length scg0, .slice sbg0 RB0.length sdg0] 27) = W := ⟨_, rfl⟩
  rw [hW8] at bxg0 hb8 hz8 ⊢
  have hs8 : w7.heap.size + 1 ≤ w8.heap.size := by omega
  clear hW8 hz8
  replace oz0 := oz0.under hb8
  replace og0 := og0.under hb8
  replace BW := bb BW hb8
  replace BS := bb BS hb8
  replace bx0 := bx0.under hb8
  clear cA0 cB0
  obtain ⟨cA0, cB0, -, -⟩ := two_cells bx0
  replace bxs0 := bxs0.under hb8
  clear cAs0 cBs0
  obtain ⟨cAs0, cBs0, -, -⟩ := two_cells bxs0
  replace bxz0 := bxz0.under hb8
  clear cAz0 cBz0
  obtain ⟨cAz0, cBz0, -, -⟩ := two_cells bxz0
  obtain ⟨cAg0, cBg0, -, -⟩ := two_cells bxg0
  clear hb8
  refine (c_eqS _ _ _ _ _ _ _ _ _ (og0.sol) (hS.below BS)).mono ?_; rintro e w9 ⟨rfl, hb9⟩
  have hs9 := hb9.size
  replace oz0 := oz0.under hb9
  replace og0 := og0.under hb9
  replace BW := bb BW hb9
  replace BS := bb BS hb9
  replace bx0 := bx0.under hb9
  clear cA0 cB0
  obtain ⟨cA0, cB0, -, -⟩ := two_cells bx0
  replace bxs0 := bxs0.under hb9
  clear cAs0 cBs0
  obtain ⟨cAs0, cBs0, -, -⟩ := two_cells bxs0
  replace bxz0 := bxz0.under hb9
  clear cAz0 cBz0
  obtain ⟨cAz0, cBz0, -, -⟩ := two_cells bxz0
  replace bxg0 := bxg0.under hb9
  clear cAg0 cBg0
  obtain ⟨cAg0, cBg0, -, -⟩ := two_cells bxg0
  clear hb9
  go_wp2_with fail
  have BWd := BW.drew
  have oz0d := oz0.keep ((Keep.refl (fun _ => False) w9).drew) (fun _ _ _ h => h)
  have bx0d := bx0.drew
  have bxz0d := bxz0.drew
  go_region_held3 (fun w' => w'.cell? ⟨w.heap.size, 0, none⟩ = some (.slice a0 x0.length c0) ∧ w'.cell? ⟨w.heap.size, 1, none⟩ = some (.slice a0s y0.length c0s) ∧ w'.cell? ⟨w5.heap.size, 0, none⟩ = some (.slice saz0 x0.length scz0) ∧ w'.cell? ⟨w5.heap.size, 1, none⟩ = some (.slice sbz0 y0.length sdz0))
    (first | go_keep | exact ⟨(two_cells (bx0d.under hb10)).1, (two_cells (bx0d.under hb10)).2.1, (two_cells (bxz0d.under hb10)).1, (two_cells (bxz0d.under hb10)).2.1⟩ | exact ⟨(two_cells ((bx0d.under hb10).under hb11)).1, (two_cells ((bx0d.under hb10).under hb11)).2.1, (two_cells ((bxz0d.under hb10).under hb11)).1, (two_cells ((bxz0d.under hb10).under hb11)).2.1⟩)
    ((first | (go_at_call 15; refine (c_toSolution _ _ _ _ _ (hx0.below BWd) hf0.1.1 Hf0.out.1.2.1 hf0.2.1.1 Hf0.out.2.1.2.1).mono ?_; rintro e w10 ⟨t101, t102, rfl, ot10, hb10⟩) | (go_at_call 18; refine (c_eqS _ _ _ _ _ _ _ _ _ (oz0d.under hb10).sol ot10.sol).mono ?_; rintro e w11 ⟨rfl, hb11⟩)))
  have hb11z : Below w9.heap.size w9 w11 := (Below.refl _ _).drew.trans (bb hb10 hb11)
  have hs11 : w9.heap.size ≤ w11.heap.size := hb11z.size
  replace oz0 := oz0.under hb11z
  replace og0 := og0.under hb11z
  replace BW := bb BW hb11z
  replace BS := bb BS hb11z
  replace bx0 := bx0.under hb11z
  clear cA0 cB0
  obtain ⟨cA0, cB0, -, -⟩ := two_cells bx0
  replace bxs0 := bxs0.under hb11z
  clear cAs0 cBs0
  obtain ⟨cAs0, cBs0, -, -⟩ := two_cells bxs0
  replace bxz0 := bxz0.under hb11z
  clear cAz0 cBz0
  obtain ⟨cAz0, cBz0, -, -⟩ := two_cells bxz0
  replace bxg0 := bxg0.under hb11z
  clear cAg0 cBg0
  obtain ⟨cAg0, cBg0, -, -⟩ := two_cells bxg0
  clear BWd oz0d bx0d bxz0d ot10 hb10 hb11 hb11z
  go_wp2_with fail
  refine (c_markS _ _ _ _ _ _ _ _ oz0 (by omega) (by omega) (by omega)).mono ?_; rintro e w12 ⟨rfl, oz0m, hkw12⟩
  have hs12 := hkw12.size
  replace og0 := og0.keep hkw12 (fun b p q r => by omega)
  replace bx0 := bx0.of_block (hkw12.block _ (by omega) (by omega))
  clear cA0 cB0
  obtain ⟨cA0, cB0, -, -⟩ := two_cells bx0
  replace bxs0 := bxs0.of_block (hkw12.block _ (by omega) (by omega))
  clear cAs0 cBs0
  obtain ⟨cAs0, cBs0, -, -⟩ := two_cells bxs0
  replace bxz0 := bxz0.of_block (hkw12.block _ (by omega) (by omega))
  clear cAz0 cBz0
  obtain ⟨cAz0, cBz0, -, -⟩ := two_cells bxz0
  replace bxg0 := bxg0.of_block (hkw12.block _ (by omega) (by omega))
  clear cAg0 cBg0
  obtain ⟨cAg0, cBg0, -, -⟩ := two_cells bxg0
  replace BW := below_keep BW hkw12 (by omega)
  replace BS := below_keep BS hkw12 (by omega)
  clear oz0
  have oz0 := oz0m
  clear oz0m hkw12
  clear oz0
  go_wp2_with fail
  refine (c_eqS _ _ _ _ _ _ _ _ _ (og0.sol) (hS.below BS)).mono ?_; rintro e w13 ⟨rfl, hb13⟩
  have hs13 := hb13.size
  replace og0 := og0.under hb13
  replace BW := bb BW hb13
  replace BS := bb BS hb13
  replace bx0 := bx0.under hb13
  clear cA0 cB0
  obtain ⟨cA0, cB0, -, -⟩ := two_cells bx0
  replace bxs0 := bxs0.under hb13
  clear cAs0 cBs0
  obtain ⟨cAs0, cBs0, -, -⟩ := two_cells bxs0
  replace bxz0 := bxz0.under hb13
  clear cAz0 cBz0
  obtain ⟨cAz0, cBz0, -, -⟩ := two_cells bxz0
  replace bxg0 := bxg0.under hb13
  clear cAg0 cBg0
  obtain ⟨cAg0, cBg0, -, -⟩ := two_cells bxg0
  clear hb13
  go_wp2_with fail
  refine (c_markS _ _ _ _ _ _ _ _ og0 (by omega) (by omega) (by omega)).mono ?_; rintro e w14 ⟨rfl, og0m, hkw14⟩
  have hs14 := hkw14.size
  replace bx0 := bx0.of_block (hkw14.block _ (by omega) (by omega))
  clear cA0 cB0
  obtain ⟨cA0, cB0, -, -⟩ := two_cells bx0
  replace bxs0 := bxs0.of_block (hkw14.block _ (by omega) (by omega))
  clear cAs0 cBs0
  obtain ⟨cAs0, cBs0, -, -⟩ := two_cells bxs0
  replace bxz0 := bxz0.of_block (hkw14.block _ (by omega) (by omega))
  clear cAz0 cBz0
  obtain ⟨cAz0, cBz0, -, -⟩ := two_cells bxz0
  replace bxg0 := bxg0.of_block (hkw14.block _ (by omega) (by omega))
  clear cAg0 cBg0
  obtain ⟨cAg0, cBg0, -, -⟩ := two_cells bxg0
  replace BW := below_keep BW hkw14 (by omega)
  replace BS := below_keep BS hkw14 (by omega)
  clear og0
  have og0 := og0m
  clear og0m hkw14
  go_wp2_with fail
  refine (c_heldS _ _ _ _ _ _ (og0.sol) (by omega) (by omega)).mono ?_; rintro e w15 ⟨rfl, hb15⟩
  have hs15 := hb15.size
  replace og0 := og0.under hb15
  replace BW := bb BW hb15
  replace BS := bb BS hb15
  replace bx0 := bx0.under hb15
  clear cA0 cB0
  obtain ⟨cA0, cB0, -, -⟩ := two_cells bx0
  replace bxs0 := bxs0.under hb15
  clear cAs0 cBs0
  obtain ⟨cAs0, cBs0, -, -⟩ := two_cells bxs0
  replace bxz0 := bxz0.under hb15
  clear cAz0 cBz0
  obtain ⟨cAz0, cBz0, -, -⟩ := two_cells bxz0
  replace bxg0 := bxg0.under hb15
  clear cAg0 cBg0
  obtain ⟨cAg0, cBg0, -, -⟩ := two_cells bxg0
  clear hb15
  go_wp2_with fail
  refine (c_toSolution _ _ _ _ _ (hx0.below BW) hf0.1.1 Hf0.out.1.2.1 hf0.2.1.1 Hf0.out.2.1.2.1).mono ?_; rintro e w16 ⟨t21, t22, rfl, ot2, hb16⟩
  have hs16 := hb16.size
  replace og0 := og0.under hb16
  replace BW := bb BW hb16
  replace BS := bb BS hb16
  replace bx0 := bx0.under hb16
  clear cA0 cB0
  obtain ⟨cA0, cB0, -, -⟩ := two_cells bx0
  replace bxs0 := bxs0.under hb16
  clear cAs0 cBs0
  obtain ⟨cAs0, cBs0, -, -⟩ := two_cells bxs0
  replace bxz0 := bxz0.under hb16
  clear cAz0 cBz0
  obtain ⟨cAz0, cBz0, -, -⟩ := two_cells bxz0
  replace bxg0 := bxg0.under hb16
  clear cAg0 cBg0
  obtain ⟨cAg0, cBg0, -, -⟩ := two_cells bxg0
  clear hb16
  go_wp2_with fail
  refine (c_InverseSolution _ _ _ _ _ (ot2.sol)).mono ?_
  rw [← HRA0.out, ← HRB0.out, ← HR1.out]
  rintro e w17 ⟨h01, h02, rfl, oh0, hb17⟩
  have hs17 := hb17.size
  replace og0 := og0.under hb17
  replace ot2 := ot2.under hb17
  replace BW := bb BW hb17
  replace BS := bb BS hb17
  replace bx0 := bx0.under hb17
  clear cA0 cB0
  obtain ⟨cA0, cB0, -, -⟩ := two_cells bx0
  replace bxs0 := bxs0.under hb17
  clear cAs0 cBs0
  obtain ⟨cAs0, cBs0, -, -⟩ := two_cells bxs0
  replace bxz0 := bxz0.under hb17
  clear cAz0 cBz0
  obtain ⟨cAz0, cBz0, -, -⟩ := two_cells bxz0
  replace bxg0 := bxg0.under hb17
  clear cAg0 cBg0
  obtain ⟨cAg0, cBg0, -, -⟩ := two_cells bxg0
  obtain ⟨sah0, sch0, hvh0, _, _⟩ := oh0.sol.1.shape
  subst hvh0
  obtain ⟨sbh0, sdh0, hvh0, _, _⟩ := oh0.sol.2.shape
  subst hvh0
  clear ot2
  clear hb17
  obtain ⟨cA0z, cB0z, -, -⟩ := two_cells (bx0.alloc (.cells #[.slice sah0 RA0.length sch0, .slice sbh0 RB0.length sdh0] 27))
  obtain ⟨cAs0z, cBs0z, -, -⟩ := two_cells (bxs0.alloc (.cells #[.slice sah0 RA0.length sch0, .slice sbh0 RB0.length sdh0] 27))
  obtain ⟨cAz0z, cBz0z, -, -⟩ := two_cells (bxz0.alloc (.cells #[.slice sah0 RA0.length sch0, .slice sbh0 RB0.length sdh0] 27))
  obtain ⟨cAg0z, cBg0z, -, -⟩ := two_cells (bxg0.alloc (.cells #[.slice sah0 RA0.length sch0, .slice sbh0 RB0.length sdh0] 27))
  go_wp2_with fail
  clear cA0z cB0z
  clear cAs0z cBs0z
  clear cAz0z cBz0z
  clear cAg0z cBg0z
  obtain ⟨bxh0, hb18, hz18⟩ := boxes1 w17 [.slice sah0 RA0.length sch0, .slice sbh0 RB0.length sdh0] 27
  obtain ⟨w18, hW18⟩ : ∃ W, w17.alloc (.cells #[.slice sah0 RA0.length sch0, .slice sbh0 RB0.length sdh0] 27) = W := ⟨_, rfl⟩
  rw [hW18] at bxh0 hb18 hz18 ⊢
  have hs18 : w17.heap.size + 1 ≤ w18.heap.size := by omega
  clear hW18 hz18
  replace og0 := og0.under hb18
  replace oh0 := oh0.under hb18
  replace BW := bb BW hb18
  replace BS := bb BS hb18
  replace bx0 := bx0.under hb18
  clear cA0 cB0
  obtain ⟨cA0, cB0, -, -⟩ := two_cells bx0
  replace bxs0 := bxs0.under hb18
  clear cAs0 cBs0
  obtain ⟨cAs0, cBs0, -, -⟩ := two_cells bxs0
  replace bxz0 := bxz0.under hb18
  clear cAz0 cBz0
  obtain ⟨cAz0, cBz0, -, -⟩ := two_cells bxz0
  replace bxg0 := bxg0.under hb18
  clear cAg0 cBg0
  obtain ⟨cAg0, cBg0, -, -⟩ := two_cells bxg0
  obtain ⟨cAh0, cBh0, -, -⟩ := two_cells bxh0
  clear hb18
  refine (c_eqS _ _ _ _ _ _ _ _ _ (oh0.sol) (hS.below BS)).mono ?_; rintro e w19 ⟨rfl, hb19⟩
  have hs19 := hb19.size
  replace og0 := og0.under hb19
  replace oh0 := oh0.under hb19
  replace BW := bb BW hb19
  replace BS := bb BS hb19
  replace bx0 := bx0.under hb19
  clear cA0 cB0
  obtain ⟨cA0, cB0, -, -⟩ := two_cells bx0
  replace bxs0 := bxs0.under hb19
  clear cAs0 cBs0
  obtain ⟨cAs0, cBs0, -, -⟩ := two_cells bxs0
  replace bxz0 := bxz0.under hb19
  clear cAz0 cBz0
  obtain ⟨cAz0, cBz0, -, -⟩ := two_cells bxz0
  replace bxg0 := bxg0.under hb19
  clear cAg0 cBg0
  obtain ⟨cAg0, cBg0, -, -⟩ := two_cells bxg0
  replace bxh0 := bxh0.under hb19
  clear cAh0 cBh0
  obtain ⟨cAh0, cBh0, -, -⟩ := two_cells bxh0
  clear hb19
  go_wp2_with fail
  refine (c_heldS _ _ _ _ _ _ (og0.sol) (by omega) (by omega)).mono ?_; rintro e w20 ⟨rfl, hb20⟩
  have hs20 := hb20.size
  replace og0 := og0.under hb20
  replace oh0 := oh0.under hb20
  replace BW := bb BW hb20
  replace BS := bb BS hb20
  replace bx0 := bx0.under hb20
  clear cA0 cB0
  obtain ⟨cA0, cB0, -, -⟩ := two_cells bx0
  replace bxs0 := bxs0.under hb20
  clear cAs0 cBs0
  obtain ⟨cAs0, cBs0, -, -⟩ := two_cells bxs0
  replace bxz0 := bxz0.under hb20
  clear cAz0 cBz0
  obtain ⟨cAz0, cBz0, -, -⟩ := two_cells bxz0
  replace bxg0 := bxg0.under hb20
  clear cAg0 cBg0
  obtain ⟨cAg0, cBg0, -, -⟩ := two_cells bxg0
  replace bxh0 := bxh0.under hb20
  clear cAh0 cBh0
  obtain ⟨cAh0, cBh0, -, -⟩ := two_cells bxh0
  clear hb20
  have HB := Lib.hid BW
  clear BW BS hS og0 oh0 hx0 bx0 bxs0 bxz0 bxg0 bxh0
  go_wp2
  go_ret
  exact ⟨rfl, HB.out⟩
end Go.Proofs.Ytkcobfkmeaakoaa
