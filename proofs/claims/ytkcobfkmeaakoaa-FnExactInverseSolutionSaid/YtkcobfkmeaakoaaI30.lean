/-
  The order of pair maps and their copies: the program's and the reference's functions.
-/
import Derived.Test.YtkcobfkmeaakoaaI29
import Derived.Test.YtkcobfkmeaakoaaT2
import Derived.Deep.RegionHeld3
import Derived.Deep.RegionLaw
namespace Go.Proofs.Ytkcobfkmeaakoaa
open Go.RowKit

def lexS (A B C D : List (List Int)) : Bool := if A = C then lexR B D else lexR A C
def orI (x y : Int) : Int := if x = 0 then y else x
theorem orI_neg {A B C D : List (List Int)} : orI (cmpR A C) (cmpR B D) < 0 ↔ lexS A B C D = true := by
  unfold orI lexS
  by_cases h : A = C
  · rw [if_pos (cmpR_zero.2 h), if_pos h]; exact cmpR_neg
  · rw [if_neg (fun e => h (cmpR_zero.1 e)), if_neg h]; exact cmpR_neg

set_option maxHeartbeats 800000 in
theorem c_cmpOr (g : Nat) (x y : Int) (w : World) (h : Blk w g 3 [.int .i64 x, .int .i64 y]) :
    Calls Try.prog 182 #[.slice (some ⟨g, 0, none⟩) 2 2] w (fun e w' => e = .returned (.int .i64 (orI x y)) ∧ w = w') := by
  have h0 := h.cell (i := 0) (by simp); have h1 := h.cell (i := 1) (by simp)
  simp only [List.getElem_cons_zero, List.getElem_cons_succ] at h0 h1
  go_enter Try.func182, Try.ntmps182
  go_wp2
  go_loop [8, 5] (fun i _ => ∃ k : Nat, k ≤ 2 ∧ i = .int .i64 k ∧ Hid (1 ≤ k → x = 0) ∧ Hid (2 ≤ k → y = 0)) (fun i _ => 2 - (intOf i).toNat)
  case atStart => exact ⟨0, by omega, rfl, Lib.hid (by omega), Lib.hid (by omega)⟩
  case round =>
    obtain ⟨k, hk, rfl, HX, HY⟩ := hrel
    by_cases hlt : k < 2
    · rcases (show k = 0 ∨ k = 1 by omega) with rfl | rfl
      · by_cases hx : x = 0
        · have hz : (x != 0) = false := by simp [hx]
          have HZ := Lib.hid hx; clear hx
          go_wp2
          go_round
          case rel => exact ⟨1, by omega, by go_num, Lib.hid (fun _ => HZ.out), Lib.hid (by omega)⟩
          case measure => simp [intOf]
        · have hz : (x != 0) = true := by simp [hx]
          have HR : Hid (x = orI x y) := Lib.hid (by unfold orI; rw [if_neg hx])
          clear hx
          go_wp2
          go_ret
          exact ⟨ret_int HR.out, rfl⟩
      · by_cases hy : y = 0
        · have hz : (y != 0) = false := by simp [hy]
          have HZ := Lib.hid hy; clear hy
          go_wp2
          go_round
          case rel => exact ⟨2, by omega, by go_num, Lib.hid (fun _ => HX.out (by omega)), Lib.hid (fun _ => HZ.out)⟩
          case measure => simp [intOf]
        · have hz : (y != 0) = true := by simp [hy]
          have HR : Hid (y = orI x y) := Lib.hid (by unfold orI; rw [if_pos (HX.out (by omega))])
          clear hy
          go_wp2
          go_ret
          exact ⟨ret_int HR.out, rfl⟩
    · obtain rfl : k = 2 := by omega
      have HR : Hid (0 = orI x y) := Lib.hid (by unfold orI; rw [if_pos (HX.out (by omega)), HY.out (by omega)])
      go_wp2
      go_ret
      exact ⟨ret_int HR.out, rfl⟩

set_option maxRecDepth 100000 in
set_option maxHeartbeats 4000000 in
theorem c_compareSolutions (v0 u0 : Value) (A B : List (List Int)) (v1 u1 : Value) (C D : List (List Int)) (w : World) (hA : Sol w v0 u0 A B) (hC : Sol w v1 u1 C D)  :
    Calls Try.prog 173 #[.agg #[v0, u0], .agg #[v1, u1]] w (RVal w (.int .i64 (orI (cmpR A C) (cmpR B D)))) := by
  obtain ⟨a0, c0, rfl, _, _⟩ := hA.1.shape
  obtain ⟨a0s, c0s, rfl, _, _⟩ := hA.2.shape
  obtain ⟨a1, c1, rfl, _, _⟩ := hC.1.shape
  obtain ⟨a1s, c1s, rfl, _, _⟩ := hC.2.shape
  go_enter Try.func173, Try.ntmps173
  go_wp2
  obtain ⟨f0, f1, hW0, hsz⟩ := boxes2 w [.slice a0 A.length c0, .slice a0s B.length c0s] [.slice a1 C.length c1, .slice a1s D.length c1s] 27 27
  obtain ⟨W0, hW⟩ : ∃ W, ((w.alloc (.cells #[.slice a0 A.length c0, .slice a0s B.length c0s] 27)).alloc (.cells #[.slice a1 C.length c1, .slice a1s D.length c1s] 27)) = W := ⟨_, rfl⟩
  rw [hW] at f0 f1 hW0 hsz ⊢
  have HSZ := Lib.hid hsz
  clear hW hsz
  obtain ⟨cA0, cB0, -, -⟩ := two_cells f0
  obtain ⟨cA1, cB1, -, -⟩ := two_cells f1
  have HA1 := Lib.hid (hA.1.below hW0); have HA2 := Lib.hid (hA.2.below hW0); have HC1 := Lib.hid (hC.1.below hW0); have HC2 := Lib.hid (hC.2.below hW0); have HBW := Lib.hid hW0
  have HSk : Hid (∀ w' : World, Below W0.heap.size W0 w' → w'.cell? ⟨w.heap.size, 0, none⟩ = some (.slice a0 A.length c0) ∧ w'.cell? ⟨w.heap.size, 1, none⟩ = some (.slice a0s B.length c0s) ∧ w'.cell? ⟨w.heap.size + 1, 0, none⟩ = some (.slice a1 C.length c1) ∧ w'.cell? ⟨w.heap.size + 1, 1, none⟩ = some (.slice a1s D.length c1s)) := Lib.hid (fun w' hb => ⟨(two_cells (f0.under hb)).1, (two_cells (f0.under hb)).2.1, (two_cells (f1.under hb)).1, (two_cells (f1.under hb)).2.1⟩)
  clear hA hC hW0 f0 f1
  go_region_held3 (fun w' => w'.cell? ⟨w.heap.size, 0, none⟩ = some (.slice a0 A.length c0) ∧ w'.cell? ⟨w.heap.size, 1, none⟩ = some (.slice a0s B.length c0s) ∧ w'.cell? ⟨w.heap.size + 1, 0, none⟩ = some (.slice a1 C.length c1) ∧ w'.cell? ⟨w.heap.size + 1, 1, none⟩ = some (.slice a1s D.length c1s))
    (first | go_keep | exact HSk.out _ (Below.refl _ _).drew | exact HSk.out _ HX1.out | exact HSk.out _ HX2.out | exact HSk.out _ HX3.out)
    ((first
      | (go_at_call 119; (with_reducible refine (c_compareTables _ _ A C _ (HA1.out.below (Below.refl _ _).drew) (HC1.out.below (Below.refl _ _).drew)).mono ?_); rintro e w1 ⟨rfl, n1, hw1⟩; have HX1 := Lib.hid (show Below W0.heap.size W0 w1 by rw [hw1]; exact below_drewN (Below.refl _ _).drew n1); clear hw1)
      | (go_at_call 119; (with_reducible refine (c_compareTables _ _ B D _ (HA2.out.below HX1.out) (HC2.out.below HX1.out)).mono ?_); rintro e w2 ⟨rfl, n2, hw2⟩; have HX2 := Lib.hid (show Below W0.heap.size W0 w2 by rw [hw2]; exact below_drewN HX1.out n2); clear hw2)
      | (go_at_call 182; refine (c_cmpOr w2.heap.size (cmpR A C) (cmpR B D) _ (Blk.new w2 [.int .i64 (cmpR A C), .int .i64 (cmpR B D)] 3)).mono ?_; rintro e w3 ⟨rfl, hw3⟩; have HX3 := Lib.hid (show Below W0.heap.size W0 w3 by rw [← hw3]; exact HX2.out.alloc HX2.out.size _); clear hw3)))
  all_goals
    go_wp2
    go_ret
    exact ⟨rfl, bb HBW.out HX3.out⟩

set_option maxRecDepth 100000 in
set_option maxHeartbeats 4000000 in
theorem c_l02Before (v0 u0 : Value) (A B : List (List Int)) (v1 u1 : Value) (C D : List (List Int)) (w : World) (hA : Sol w v0 u0 A B) (hC : Sol w v1 u1 C D)  :
    Calls Try.prog 172 #[.agg #[v0, u0], .agg #[v1, u1]] w (RVal w (.bool (lexS A B C D))) := by
  obtain ⟨a0, c0, rfl, _, _⟩ := hA.1.shape
  obtain ⟨a0s, c0s, rfl, _, _⟩ := hA.2.shape
  obtain ⟨a1, c1, rfl, _, _⟩ := hC.1.shape
  obtain ⟨a1s, c1s, rfl, _, _⟩ := hC.2.shape
  go_enter Try.func172, Try.ntmps172
  go_wp2_with fail
  obtain ⟨f0, f1, hW0, hsz⟩ := boxes2 w [.slice a0 A.length c0, .slice a0s B.length c0s] [.slice a1 C.length c1, .slice a1s D.length c1s] 27 27
  obtain ⟨W0, hW⟩ : ∃ W, ((w.alloc (.cells #[.slice a0 A.length c0, .slice a0s B.length c0s] 27)).alloc (.cells #[.slice a1 C.length c1, .slice a1s D.length c1s] 27)) = W := ⟨_, rfl⟩
  rw [hW] at f0 f1 hW0 hsz ⊢
  have HSZ := Lib.hid hsz
  clear hW hsz
  obtain ⟨cA0, cB0, -, -⟩ := two_cells f0
  obtain ⟨cA1, cB1, -, -⟩ := two_cells f1
  have HA := Lib.hid (hA.below hW0); have HC := Lib.hid (hC.below hW0); have HBW := Lib.hid hW0
  clear hA hC hW0
  refine (c_l01Same2 _ _ _ _ _ HA.out.1 HC.out.1).mono ?_; rintro e w1 ⟨rfl, hb1⟩
  replace f0 := f0.under hb1; replace f1 := f1.under hb1
  clear cA0 cB0 cA1 cB1
  obtain ⟨cA0, cB0, -, -⟩ := two_cells f0; obtain ⟨cA1, cB1, -, -⟩ := two_cells f1
  have HB1 := Lib.hid hb1; clear hb1
  by_cases he : A = C
  · have hd : decide (A = C) = true := by simp [he]
    have HE := Lib.hid he
    rw [hd]
    clear he
    go_wp2_with fail
    refine (c_l01Less2 _ _ _ _ _ (HA.out.2.below HB1.out) (HC.out.2.below HB1.out)).mono ?_; rintro e w2 ⟨rfl, hb2⟩
    have HB2 := Lib.hid (bb (bb HBW.out HB1.out) hb2)
    clear hb2 f0 f1
    go_wp2
    go_ret
    exact ⟨ret_bool (by unfold lexS; rw [if_pos HE.out]), HB2.out⟩
  · have hd : decide (A = C) = false := by simp [he]
    have HE := Lib.hid he
    rw [hd]
    clear he
    go_wp2_with fail
    refine (c_l01Less2 _ _ _ _ _ (HA.out.1.below HB1.out) (HC.out.1.below HB1.out)).mono ?_; rintro e w2 ⟨rfl, hb2⟩
    have HB2 := Lib.hid (bb (bb HBW.out HB1.out) hb2)
    clear hb2 f0 f1
    go_wp2
    go_ret
    exact ⟨ret_bool (by unfold lexS; rw [if_neg HE.out]), HB2.out⟩

set_option maxRecDepth 100000 in
set_option maxHeartbeats 1600000 in
theorem c_l02Own (v0 u0 : Value) (A B : List (List Int)) (w : World) (hA : Sol w v0 u0 A B) (h1 : A.length ≤ 1048576 ∧ B.length ≤ 1048576) (h2 : (∀ r ∈ A, r.length ≤ 1048576) ∧ ∀ r ∈ B, r.length ≤ 1048576) :
    Calls Try.prog 170 #[.agg #[v0, u0]] w (RSol w A B) := by
  obtain ⟨a0, c0, rfl, _, _⟩ := hA.1.shape
  obtain ⟨a0s, c0s, rfl, _, _⟩ := hA.2.shape
  obtain ⟨h1a, h1b⟩ := h1
  have H2 := Lib.hid h2; clear h2
  go_enter Try.func170, Try.ntmps170
  go_wp2_with fail
  obtain ⟨f0, f1, hW0, hsz⟩ := boxes2 w [.slice a0 A.length c0, .slice a0s B.length c0s] [.slice none 0 0, .slice none 0 0] 27 27
  obtain ⟨W0, hW⟩ : ∃ W, ((w.alloc (.cells #[.slice a0 A.length c0, .slice a0s B.length c0s] 27)).alloc (.cells #[.slice none 0 0, .slice none 0 0] 27)) = W := ⟨_, rfl⟩
  rw [hW] at f0 f1 hW0 hsz ⊢
  clear hW hsz
  have HRA := Lib.hid ((hA.1.below hW0).below (Below.refl _ _).drew); have HRB := Lib.hid ((hA.2.below hW0).below (Below.refl _ _).drew)
  have HFc := Lib.hid f0.drew; have HGc := Lib.hid f1.drew; have HBc := Lib.hid hW0.drew; have HLt := Lib.hid f1.lt
  clear hA hW0 f0 f1
  have zz : W0.drew.cell? ⟨w.heap.size, 0, none⟩ = some (.slice a0 A.length c0) ∧ W0.drew.cell? ⟨w.heap.size, 1, none⟩ = some (.slice a0s B.length c0s) := ⟨(two_cells HFc.out).1, (two_cells HFc.out).2.1⟩
  go_region_held3 (fun w' => w'.cell? ⟨w.heap.size, 0, none⟩ = some (.slice a0 A.length c0) ∧ w'.cell? ⟨w.heap.size, 1, none⟩ = some (.slice a0s B.length c0s))
    (first | go_keep | exact ⟨(two_cells HFc.out).1, (two_cells HFc.out).2.1⟩)
    ((first | (go_at_call 114; (with_reducible refine (c_l01Own2 _ A _ HRA.out h1a H2.out.1).mono ?_); rintro e w1 ⟨r1, rfl, ho1, hb1⟩; obtain ⟨ra1, rc1, hv1, _⟩ := ho1.rows.shape; subst hv1; replace HFc := Lib.hid (HFc.out.under hb1); replace HGc := Lib.hid (HGc.out.under hb1); replace HBc := Lib.hid (bb HBc.out hb1); replace HRB := Lib.hid (HRB.out.below hb1); have HO1 := Lib.hid ho1; have HS1 := Lib.hid hb1.size; clear ho1 hb1) | (go_at_call 114; (with_reducible refine (c_l01Own2 _ B _ HRB.out h1b H2.out.2).mono ?_); rintro e w2 ⟨r2, rfl, ho2, hb2⟩; obtain ⟨ra2, rc2, hv2, _⟩ := ho2.rows.shape; subst hv2; replace HFc := Lib.hid (HFc.out.under hb2); replace HGc := Lib.hid (HGc.out.under hb2); have HB2 := Lib.hid (bb HBc.out hb2); have HO2 := Lib.hid ho2; have HBx := Lib.hid hb2; obtain ⟨z0, z1, z2, z3⟩ := two_cells HGc.out; clear ho2 hb2)))
  obtain ⟨hA, hB⟩ := stored (q := w.heap.size + 1) HB2.out (OwnSol.mk HO1.out HBx.out HO2.out HS1.out) (by omega) HLt.out
  have HA := Lib.hid hA; have HB := Lib.hid hB
  clear hA hB
  go_wp2
  exact bodyPost_ret (v := .agg #[.slice ra1 A.length rc1, .slice ra2 B.length rc2]) (by simp [results, Try.results170, go_sem, z0, z1]) rfl ⟨.slice ra1 A.length rc1, .slice ra2 B.length rc2, rfl, HA.out, HB.out⟩
end Go.Proofs.Ytkcobfkmeaakoaa
