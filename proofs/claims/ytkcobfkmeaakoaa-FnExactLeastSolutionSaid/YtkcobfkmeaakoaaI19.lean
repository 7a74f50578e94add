/-
  A pair map renamed: the program's and the reference's functions. Condition: both tables are tables, the permutation is one of their elements.
-/
import Derived.Test.YtkcobfkmeaakoaaT2
import Derived.Test.YtkcobfkmeaakoaaLTables
import Derived.Deep.RegionHeld3
namespace Go.Proofs.Ytkcobfkmeaakoaa
open Go.RowKit


set_option maxRecDepth 100000 in
set_option maxHeartbeats 800000 in
theorem c_l02Rename (v0 u0 v1 : Value) (A B : List (List Int)) (p : List Int) (w : World) (hA : Sol w v0 u0 A B) (hp : Ints w v1 p) (hok1 : RenOk A p) (hok2 : RenOk B p) :
    Calls Try.prog 171 #[.agg #[v0, u0], v1] w (RSol w (renL A p) (renL B p)) := by
  obtain ⟨a0, c0, rfl, _, _⟩ := hA.1.shape
  obtain ⟨a0s, c0s, rfl, _, _⟩ := hA.2.shape
  obtain ⟨a1, c1, rfl, _, _⟩ := hp.shape
  have HK1 := Lib.hid hok1; have HK2 := Lib.hid hok2; clear hok1 hok2
  go_enter Try.func171, Try.ntmps171
  go_wp2_with fail
  obtain ⟨f0, f1, hW0, hsz⟩ := boxes2 w [.slice a0 A.length c0, .slice a0s B.length c0s] [.slice none 0 0, .slice none 0 0] 27 27
  obtain ⟨W0, hW⟩ : ∃ W, ((w.alloc (.cells #[.slice a0 A.length c0, .slice a0s B.length c0s] 27)).alloc (.cells #[.slice none 0 0, .slice none 0 0] 27)) = W := ⟨_, rfl⟩
  rw [hW] at f0 f1 hW0 hsz ⊢
  clear hW hsz
  have HRA := Lib.hid ((hA.1.below hW0).below (Below.refl _ _).drew); have HRB := Lib.hid ((hA.2.below hW0).below (Below.refl _ _).drew); have HPp := Lib.hid ((hp.below hW0).below (Below.refl _ _).drew)
  have HFc := Lib.hid f0.drew; have HGc := Lib.hid f1.drew; have HBc := Lib.hid hW0.drew; have HLt := Lib.hid f1.lt
  clear hA hp hW0 f0 f1
  have zz : W0.drew.cell? ⟨w.heap.size, 0, none⟩ = some (.slice a0 A.length c0) ∧ W0.drew.cell? ⟨w.heap.size, 1, none⟩ = some (.slice a0s B.length c0s) := ⟨(two_cells HFc.out).1, (two_cells HFc.out).2.1⟩
  go_region_held3 (fun w' => w'.cell? ⟨w.heap.size, 0, none⟩ = some (.slice a0 A.length c0) ∧ w'.cell? ⟨w.heap.size, 1, none⟩ = some (.slice a0s B.length c0s))
    (first | go_keep | exact ⟨(two_cells HFc.out).1, (two_cells HFc.out).2.1⟩)
    ((first | (go_at_call 115; (with_reducible refine (c_l01Rename _ _ A p _ HRA.out HPp.out HK1.out).mono ?_); rintro e w1 ⟨r1, rfl, ho1, hb1⟩; obtain ⟨ra1, rc1, hv1, _⟩ := ho1.rows.shape; rw [renL_length] at hv1; subst hv1; replace HFc := Lib.hid (HFc.out.under hb1); replace HGc := Lib.hid (HGc.out.under hb1); replace HBc := Lib.hid (bb HBc.out hb1); replace HRB := Lib.hid (HRB.out.below hb1); replace HPp := Lib.hid (HPp.out.below hb1); have HO1 := Lib.hid ho1; have HS1 := Lib.hid hb1.size; clear ho1 hb1) | (go_at_call 115; (with_reducible refine (c_l01Rename _ _ B p _ HRB.out HPp.out HK2.out).mono ?_); rintro e w2 ⟨r2, rfl, ho2, hb2⟩; obtain ⟨ra2, rc2, hv2, _⟩ := ho2.rows.shape; rw [renL_length] at hv2; subst hv2; replace HFc := Lib.hid (HFc.out.under hb2); replace HGc := Lib.hid (HGc.out.under hb2); have HB2 := Lib.hid (bb HBc.out hb2); have HO2 := Lib.hid ho2; have HBx := Lib.hid hb2; obtain ⟨z0, z1, z2, z3⟩ := two_cells HGc.out; clear ho2 hb2)))
  obtain ⟨hA, hB⟩ := stored (q := w.heap.size + 1) HB2.out (OwnSol.mk HO1.out HBx.out HO2.out HS1.out) (by omega) HLt.out
  have HA := Lib.hid hA; have HB := Lib.hid hB
  clear hA hB
  go_wp2
  exact bodyPost_ret (v := .agg #[.slice ra1 A.length rc1, .slice ra2 B.length rc2]) (by simp [results, Try.results171, go_sem, z0, z1]) rfl ⟨.slice ra1 A.length rc1, .slice ra2 B.length rc2, rfl, HA.out, HB.out⟩
end Go.Proofs.Ytkcobfkmeaakoaa
