/-
  What the law FnSolutionForms is proved of.
-/
import Derived.Test.YtgmhnjccgldddaaSFO2
import Derived.Test.YtgmhnjccgldddaaSFO1
import Derived.Test.YtgmhnjccgldddaaT2
import Derived.Test.YtgmhnjccgldddaaP5
import Derived.Test.YtgmhnjccgldddaaI3
import Derived.Test.YtgmhnjccgldddaaP6
import Derived.Test.YtgmhnjccgldddaaP7
import Derived.Test.YtgmhnjccgldddaaT1
import Derived.Test.YtgmhnjccgldddaaA1
import Derived.ArgAppend
import Derived.Deep.RegionHeld3
namespace Go.Proofs.Ytgmhnjccgldddaa
set_option linter.unusedVariables false
set_option linter.unusedSimpArgs false
open Go Go.RowKit

theorem cut_waysD {p G : Prop} (k : Hid p → G) (h : p) : G := k (Lib.hid h)
set_option maxRecDepth 100000 in
set_option maxHeartbeats 1600000 in
/-- The reference's mirror at a pair map; where the result lies. -/
theorem c_specMirrorW (v0 u0 : Value) (A B : List (List Int)) (w : World) (hA : Sol w v0 u0 A B) (hp0 : isPM A B = true) :
    Calls Try.prog 43 #[.agg #[v0, u0]] w (fun e w' => ∃ r1 r2, e = .returned (.tuple #[.agg #[r1, r2], .int .i64 0]) ∧ RdS w.heap.size w' r1 r2 (transL B) (transL A) ∧ Below w.heap.size w w') := by
  have HP0 := Lib.hid hp0
  obtain ⟨a0, c0, rfl, _, _⟩ := hA.1.shape
  obtain ⟨a0s, c0s, rfl, _, _⟩ := hA.2.shape
  go_enter Try.func43, Try.ntmps43
  go_wp2_with fail
  obtain ⟨f0, f1, hW0, hsz⟩ := boxes2 w [.slice a0 A.length c0, .slice a0s B.length c0s] [.slice none 0 0, .slice none 0 0] 29 29
  obtain ⟨W0, hW⟩ : ∃ W, ((w.alloc (.cells #[.slice a0 A.length c0, .slice a0s B.length c0s] 29)).alloc (.cells #[.slice none 0 0, .slice none 0 0] 29)) = W := ⟨_, rfl⟩
  rw [hW] at f0 f1 hW0 hsz ⊢
  clear hW hsz
  refine (c_l02Map _ _ _ _ _ (hA.below hW0)).mono ?_; rintro e g0 ⟨rfl, hbg0⟩
  have hB0 := bb hW0 hbg0
  replace f0 := f0.under hbg0
  obtain ⟨cA0, cB0, -, -⟩ := two_cells f0
  replace f1 := f1.under hbg0
  obtain ⟨cA1, cB1, fA1, fB1⟩ := two_cells f1
  clear hbg0
  obtain ⟨q1, q2, -⟩ := isPM_parts HP0.out
  have HRA := Lib.hid ((hA.1.below hB0).below (Below.refl _ _).drew); have HRB := Lib.hid ((hA.2.below hB0).below (Below.refl _ _).drew)
  have HFc := Lib.hid f0.drew; have HGc := Lib.hid f1.drew; have HBc := Lib.hid hB0.drew; have HLt := Lib.hid f1.lt
  clear hA hB0 hW0 f0 f1 cA1 cB1 fA1 fB1
  go_wp2
  go_region_held3 (fun w' => w'.cell? ⟨w.heap.size, 0, none⟩ = some (.slice a0 A.length c0) ∧ w'.cell? ⟨w.heap.size, 1, none⟩ = some (.slice a0s B.length c0s))
    (first | go_keep | exact ⟨(two_cells HFc.out).1, (two_cells HFc.out).2.1⟩)
    ((first | (go_at_call 60; (with_reducible refine (c_l01Turn _ B _ HRB.out (isTab_sq q2)).mono ?_); rintro e w1 ⟨r1, rfl, ho1, hb1⟩; obtain ⟨ra1, rc1, hv1, _⟩ := ho1.rows.shape; rw [transL_length] at hv1; subst hv1; replace HFc := Lib.hid (HFc.out.under hb1); replace HGc := Lib.hid (HGc.out.under hb1); replace HBc := Lib.hid (bb HBc.out hb1); replace HRA := Lib.hid (HRA.out.below hb1); have HO1 := Lib.hid ho1; have HS1 := Lib.hid hb1.size; clear ho1 hb1) | (go_at_call 60; (with_reducible refine (c_l01Turn _ A _ HRA.out (isTab_sq q1)).mono ?_); rintro e w2 ⟨r2, rfl, ho2, hb2⟩; obtain ⟨ra2, rc2, hv2, _⟩ := ho2.rows.shape; rw [transL_length] at hv2; subst hv2; replace HFc := Lib.hid (HFc.out.under hb2); replace HGc := Lib.hid (HGc.out.under hb2); have HB2 := Lib.hid (bb HBc.out hb2); have HO2 := Lib.hid ho2; have HBx := Lib.hid hb2; obtain ⟨z0, z1, z2, z3⟩ := two_cells HGc.out; clear ho2 hb2)))
  have hsa : SolAt (w.heap.size + 2) w2 (.slice ra1 B.length rc1) (.slice ra2 A.length rc2) (transL B) (transL A) := ⟨((HO1.out.under HBx.out).mono (by have h1 := HLt.out; show w.heap.size + 2 ≤ g0.heap.size; omega)).wr, (HO2.out.mono (by have h1 := HLt.out; have h2 : g0.heap.size ≤ w1.heap.size := HS1.out; omega)).wr⟩
  have HR := Lib.hid (((hsa.keep (keep1 w2 (w.heap.size + 1) 0 (.slice ra1 B.length rc1)) (fun x hx e => by have e : x = w.heap.size + 1 := e; omega)).keep (keep1 _ (w.heap.size + 1) 1 (.slice ra2 A.length rc2)) (fun x hx e => by have e : x = w.heap.size + 1 := e; omega)).mono (show w.heap.size ≤ _ by omega)).rd
  have HBe := Lib.hid ((HB2.out.setCell (p := ⟨w.heap.size + 1, 0, none⟩) (by show w.heap.size ≤ w.heap.size + 1; omega) (.slice ra1 B.length rc1)).setCell (p := ⟨w.heap.size + 1, 1, none⟩) (by show w.heap.size ≤ w.heap.size + 1; omega) (.slice ra2 A.length rc2))
  clear hsa
  go_wp2
  exact bodyPost_ret (v := .tuple #[.agg #[.slice ra1 B.length rc1, .slice ra2 A.length rc2], .int .i64 0]) (by simp [results, Try.results43, go_sem, z0, z1]) rfl ⟨.slice ra1 B.length rc1, .slice ra2 A.length rc2, rfl, HR.out, HBe.out⟩

set_option maxRecDepth 100000 in
set_option maxHeartbeats 8000000 in
theorem c_DrawIso (v : Value) (n : Nat) (w : World) (hv : BytesR w v n) (hn : n ≤ 4096) :
    Calls Try.prog 21 #[v] w (fun e w' => ∃ (v1 v2 v3 v4 : Value) (A B C D : List (List Int)), e = .returned (.tuple #[.agg #[v1, v2], .agg #[v3, v4]]) ∧ Sol w' v1 v2 A B ∧ Sol w' v3 v4 C D ∧ Below w.heap.size w w') := by
  obtain ⟨HF0, HG0, HB0, hsz⟩ := boxes2 w [.slice none 0 0, .slice none 0 0] [.slice none 0 0, .slice none 0 0] 29 29
  have HV := Lib.hid (hv.below HB0); have HF := Lib.hid HF0; have HG := Lib.hid HG0; have HB := Lib.hid HB0
  obtain ⟨a, c, hva, -⟩ := hv
  subst hva
  clear HF0 HG0 HB0
  go_enter Try.func21, Try.ntmps21
  go_wp2_with fail
  refine (c_l01From _ n _ HV.out hn).mono ?_; rintro e w1 ⟨b, rfl, hwb, hs, hb1⟩
  have HS := Lib.hid hs; have HB1 := Lib.hid (below_under HB.out (by rw [hsz]; omega) hb1); have HF1 := Lib.hid (HF.out.under hb1); have HG1 := Lib.hid (HG.out.under hb1)
  have hs1 : w.heap.size + 1 + 1 ≤ w1.heap.size := by have := hb1.size; rw [hsz] at this; exact this
  rw [hsz] at hwb
  have hbl : b < w1.heap.size := HS.out.lt
  clear hs hb1 HV hsz HB HF HG
  go_wp2_with fail
  refine (c_l02Spoil b 6 _ HS.out (by omega) (by omega)).mono ?_; rintro e w2 ⟨r1, r2, A, B, rfl, hrd, hl, hd⟩
  obtain ⟨sa1, sc1, hv1, _⟩ := hrd.sol.1.shape
  obtain ⟨sa2, sc2, hv2, _⟩ := hrd.sol.2.shape
  subst hv1 hv2
  have hba : Below w2.heap.size w2 (w2.alloc (.cells #[.slice sa1 A.length sc1, .slice sa2 B.length sc2] 29)) := (Below.refl _ _).alloc (Nat.le_refl _) _
  have HD2 := Lib.hid (hd.under hba); have HR2 := Lib.hid (hrd.under hba)
  have HF2 := Lib.hid ((hd.blk HF1.out (by omega)).under hba); have HG2 := Lib.hid ((hd.blk HG1.out (by omega)).under hba)
  have HA2 := Lib.hid (show Blk (w2.alloc (.cells #[.slice sa1 A.length sc1, .slice sa2 B.length sc2] 29)) w2.heap.size 29 [.slice sa1 A.length sc1, .slice sa2 B.length sc2] from Blk.new w2 [.slice sa1 A.length sc1, .slice sa2 B.length sc2] 29)
  have hw2 : w1.heap.size ≤ w2.heap.size := hd.2.size
  have HBw2 := Lib.hid (bb (hd.below HB1.out (by omega) HB1.out.size) hba)
  obtain ⟨a0, a1, -, -⟩ := two_cells HA2.out
  clear hrd hd hba HF1 HG1 HS
  go_wp2_with fail
  refine (c_l02Map _ _ A B _ HR2.out.sol).mono ?_; rintro e w3 ⟨rfl, hb3⟩
  have HD3 := Lib.hid (HD2.out.under hb3); have HF3 := Lib.hid (HF2.out.under hb3); have HG3 := Lib.hid (HG2.out.under hb3); have HA3 := Lib.hid (HA2.out.under hb3); have HR3 := Lib.hid (HR2.out.under hb3); have HBw3 := Lib.hid (bb HBw2.out hb3)
  clear hb3 a0 a1 HD2 HF2 HG2 HA2 HR2 HBw2
  by_cases hp : isPM A B = true
  case neg =>
    have hp' : isPM A B = false := by simpa using hp
    rw [hp']
    clear hp hp'
    have hlt3 : w1.heap.size ≤ w3.heap.size := HD3.out.2.size
    have K0 : Keep (fun k => k = b ∨ k = w.heap.size ∨ k = w.heap.size + 1 ∨ w3.heap.size ≤ k) w3 w3.drew := (Keep.refl _ _).drew
    have hpl : w2.heap.size < w3.heap.size := HA3.out.lt
    have HK : Hid (∀ w' : World, Keep (fun k => k = b ∨ k = w.heap.size ∨ k = w.heap.size + 1 ∨ w3.heap.size ≤ k) w3 w' → w'.cell? ⟨w2.heap.size, 0, none⟩ = some (.slice sa1 A.length sc1) ∧ w'.cell? ⟨w2.heap.size, 1, none⟩ = some (.slice sa2 B.length sc2)) := Lib.hid fun w' k => by
      have := HA3.out.of_block (k.block w2.heap.size hpl (by omega))
      obtain ⟨x0, x1, -, -⟩ := two_cells this
      exact ⟨x0, x1⟩
    have HSrc := Lib.hid ((HD3.out.under (Below.refl w3.heap.size w3).drew).1)
    have HSp : Hid (Calls Try.prog 39 #[.pointer (some ⟨b, 0, none⟩), .int .i64 6] w3.drew (RSpoil b w3.drew)) := Lib.hid (c_l02Spoil b 6 w3.drew HSrc.out (by omega) (by omega))
    obtain ⟨zc0, zc1⟩ := HK.out _ K0
    go_wp2
    go_region_held3 (fun w' => w'.cell? ⟨w2.heap.size, 0, none⟩ = some (.slice sa1 A.length sc1) ∧ w'.cell? ⟨w2.heap.size, 1, none⟩ = some (.slice sa2 B.length sc2))
      (first | exact HK.out _ K0 | exact HK.out _ K5 | exact HK.out _ K5a | exact HK.out _ K5b)
      (first
        | (go_at_call 39; (with_reducible refine HSp.out.mono ?_); rintro e w5 ⟨r3, r4, C, D, rfl, hrd5, hl5, hd5⟩
           obtain ⟨sa3, sl3, sc3, hv3⟩ := hrd5.sol.1.any
           obtain ⟨sa4, sl4, sc4, hv4⟩ := hrd5.sol.2.any
           subst hv3 hv4
           have K5 := K0.trans (keep_mono hd5.2 (T := (fun k => k = b ∨ k = w.heap.size ∨ k = w.heap.size + 1 ∨ w3.heap.size ≤ k)) (fun x hx => .inl hx))
           have K5a := (K5.setCell (p := ⟨w.heap.size, 0, none⟩) (.inl (.inr (.inl rfl))) (.slice sa1 A.length sc1)).setCell (p := ⟨w.heap.size, 1, none⟩) (.inl (.inr (.inl rfl))) (.slice sa2 B.length sc2)
           have K5b := (K5a.setCell (p := ⟨w.heap.size + 1, 0, none⟩) (.inl (.inr (.inr (.inl rfl)))) (.slice sa3 sl3 sc3)).setCell (p := ⟨w.heap.size + 1, 1, none⟩) (.inl (.inr (.inr (.inl rfl)))) (.slice sa4 sl4 sc4)
           have hf5 := hd5.blk HF3.out.drew (by omega)
           have hg5 := hd5.blk HG3.out.drew (by omega)
           obtain ⟨z0, z1, z2, z3⟩ := two_cells hf5
           obtain ⟨y0, y1, y2, y3⟩ := two_cells hg5
           have HF5 := Lib.hid hf5; have HG5 := Lib.hid hg5; have HR5 := Lib.hid hrd5; have HKk := Lib.hid K5b
           clear hf5 hg5 hrd5 hl5 hd5))
    all_goals
      have hz := (((HF5.out.set 0 (.slice sa1 A.length sc1)).set 1 (.slice sa2 B.length sc2)).other (a := ⟨w.heap.size + 1, 0, none⟩) (by simp) (.slice sa3 sl3 sc3)).other (a := ⟨w.heap.size + 1, 1, none⟩) (by simp) (.slice sa4 sl4 sc4)
      have hy := (((HG5.out.other (a := ⟨w.heap.size, 0, none⟩) (by simp) (.slice sa1 A.length sc1)).other (a := ⟨w.heap.size, 1, none⟩) (by simp) (.slice sa2 B.length sc2)).set 0 (.slice sa3 sl3 sc3)).set 1 (.slice sa4 sl4 sc4)
      obtain ⟨e0, e1, -, -⟩ := two_cells hz
      obtain ⟨e2, e3, -, -⟩ := two_cells hy
      have R1 := Lib.hid ((HR3.out.keep HKk.out (fun x hx hx2 e => by omega)).sol)
      have kz : Keep (fun k => k = w.heap.size ∨ k = w.heap.size + 1) w5 ((((w5.setCell ⟨w.heap.size, 0, none⟩ (.slice sa1 A.length sc1)).setCell ⟨w.heap.size, 1, none⟩ (.slice sa2 B.length sc2)).setCell ⟨w.heap.size + 1, 0, none⟩ (.slice sa3 sl3 sc3)).setCell ⟨w.heap.size + 1, 1, none⟩ (.slice sa4 sl4 sc4)) :=
        ((((Keep.refl _ _).setCell (p := ⟨w.heap.size, 0, none⟩) (.inl (.inl rfl)) _).setCell (p := ⟨w.heap.size, 1, none⟩) (.inl (.inl rfl)) _).setCell (p := ⟨w.heap.size + 1, 0, none⟩) (.inl (.inr rfl)) _).setCell (p := ⟨w.heap.size + 1, 1, none⟩) (.inl (.inr rfl)) _
      have R2 := Lib.hid ((HR5.out.keep kz (fun x hx _ e => by have hx : w3.heap.size ≤ x := hx; rcases e with e | e <;> omega)).sol)
      have HBx := Lib.hid (HBw3.out.trans (HKk.out.below (B := w.heap.size) fun k hk => ⟨by omega, fun e => by omega⟩))
      clear hz hy kz z0 z1 z2 z3 y0 y1 y2 y3 K0 K5 K5a K5b zc0 zc1
      go_wp2
      exact bodyPost_ret (v := .tuple #[.agg #[.slice sa1 A.length sc1, .slice sa2 B.length sc2], .agg #[.slice sa3 sl3 sc3, .slice sa4 sl4 sc4]]) (by simp [results, Try.results21, go_sem, e0, e1, e2, e3]) rfl ⟨_, _, _, _, A, B, C, D, rfl, R1.out, R2.out, HBx.out⟩
  have HP := Lib.hid hp
  rw [hp]
  clear hp
  go_wp2_with fail
  refine (c_l01Next b 5 _ HD3.out.1 (by omega) (by omega)).mono ?_; rintro e w4 ⟨t, rfl, t0, t1, hd4⟩
  have HD4 := Lib.hid (HD3.out.trans hd4); have HF4 := Lib.hid (hd4.blk HF3.out (by omega)); have HG4 := Lib.hid (hd4.blk HG3.out (by omega)); have HA4 := Lib.hid (hd4.blk HA3.out (by omega)); have HR4 := Lib.hid (HR3.out.drew hd4 (by omega)); have HBw4 := Lib.hid (hd4.below HBw3.out (by omega) HBw3.out.size)
  clear hd4 HD3 HF3 HG3 HA3 HR3 HBw3
  by_cases ht : t = 0
  case pos =>
    subst ht
    clear t0 t1
    have hlt4 : w1.heap.size ≤ w4.heap.size := HD4.out.2.size
    have K0 : Keep (fun k => k = b ∨ k = w.heap.size ∨ k = w.heap.size + 1 ∨ w4.heap.size ≤ k) w4 w4.drew := (Keep.refl _ _).drew
    have hpl : w2.heap.size < w4.heap.size := HA4.out.lt
    have HK : Hid (∀ w' : World, Keep (fun k => k = b ∨ k = w.heap.size ∨ k = w.heap.size + 1 ∨ w4.heap.size ≤ k) w4 w' → w'.cell? ⟨w2.heap.size, 0, none⟩ = some (.slice sa1 A.length sc1) ∧ w'.cell? ⟨w2.heap.size, 1, none⟩ = some (.slice sa2 B.length sc2)) := Lib.hid fun w' k => by
      have := HA4.out.of_block (k.block w2.heap.size hpl (by omega))
      obtain ⟨x0, x1, -, -⟩ := two_cells this
      exact ⟨x0, x1⟩
    have HSrc := Lib.hid ((HD4.out.under (Below.refl w4.heap.size w4).drew).1)
    have HSp : Hid (Calls Try.prog 39 #[.pointer (some ⟨b, 0, none⟩), .int .i64 6] w4.drew (RSpoil b w4.drew)) := Lib.hid (c_l02Spoil b 6 w4.drew HSrc.out (by omega) (by omega))
    obtain ⟨zc0, zc1⟩ := HK.out _ K0
    go_wp2
    go_region_held3 (fun w' => w'.cell? ⟨w2.heap.size, 0, none⟩ = some (.slice sa1 A.length sc1) ∧ w'.cell? ⟨w2.heap.size, 1, none⟩ = some (.slice sa2 B.length sc2))
      (first | exact HK.out _ K0 | exact HK.out _ K5 | exact HK.out _ K5a | exact HK.out _ K5b)
      (first
        | (go_at_call 39; (with_reducible refine HSp.out.mono ?_); rintro e w5 ⟨r3, r4, C, D, rfl, hrd5, hl5, hd5⟩
           obtain ⟨sa3, sl3, sc3, hv3⟩ := hrd5.sol.1.any
           obtain ⟨sa4, sl4, sc4, hv4⟩ := hrd5.sol.2.any
           subst hv3 hv4
           have K5 := K0.trans (keep_mono hd5.2 (T := (fun k => k = b ∨ k = w.heap.size ∨ k = w.heap.size + 1 ∨ w4.heap.size ≤ k)) (fun x hx => .inl hx))
           have K5a := (K5.setCell (p := ⟨w.heap.size, 0, none⟩) (.inl (.inr (.inl rfl))) (.slice sa1 A.length sc1)).setCell (p := ⟨w.heap.size, 1, none⟩) (.inl (.inr (.inl rfl))) (.slice sa2 B.length sc2)
           have K5b := (K5a.setCell (p := ⟨w.heap.size + 1, 0, none⟩) (.inl (.inr (.inr (.inl rfl)))) (.slice sa3 sl3 sc3)).setCell (p := ⟨w.heap.size + 1, 1, none⟩) (.inl (.inr (.inr (.inl rfl)))) (.slice sa4 sl4 sc4)
           have hf5 := hd5.blk HF4.out.drew (by omega)
           have hg5 := hd5.blk HG4.out.drew (by omega)
           obtain ⟨z0, z1, z2, z3⟩ := two_cells hf5
           obtain ⟨y0, y1, y2, y3⟩ := two_cells hg5
           have HF5 := Lib.hid hf5; have HG5 := Lib.hid hg5; have HR5 := Lib.hid hrd5; have HKk := Lib.hid K5b
           clear hf5 hg5 hrd5 hl5 hd5))
    all_goals
      have hz := (((HF5.out.set 0 (.slice sa1 A.length sc1)).set 1 (.slice sa2 B.length sc2)).other (a := ⟨w.heap.size + 1, 0, none⟩) (by simp) (.slice sa3 sl3 sc3)).other (a := ⟨w.heap.size + 1, 1, none⟩) (by simp) (.slice sa4 sl4 sc4)
      have hy := (((HG5.out.other (a := ⟨w.heap.size, 0, none⟩) (by simp) (.slice sa1 A.length sc1)).other (a := ⟨w.heap.size, 1, none⟩) (by simp) (.slice sa2 B.length sc2)).set 0 (.slice sa3 sl3 sc3)).set 1 (.slice sa4 sl4 sc4)
      obtain ⟨e0, e1, -, -⟩ := two_cells hz
      obtain ⟨e2, e3, -, -⟩ := two_cells hy
      have R1 := Lib.hid ((HR4.out.keep HKk.out (fun x hx hx2 e => by omega)).sol)
      have kz : Keep (fun k => k = w.heap.size ∨ k = w.heap.size + 1) w5 ((((w5.setCell ⟨w.heap.size, 0, none⟩ (.slice sa1 A.length sc1)).setCell ⟨w.heap.size, 1, none⟩ (.slice sa2 B.length sc2)).setCell ⟨w.heap.size + 1, 0, none⟩ (.slice sa3 sl3 sc3)).setCell ⟨w.heap.size + 1, 1, none⟩ (.slice sa4 sl4 sc4)) :=
        ((((Keep.refl _ _).setCell (p := ⟨w.heap.size, 0, none⟩) (.inl (.inl rfl)) _).setCell (p := ⟨w.heap.size, 1, none⟩) (.inl (.inl rfl)) _).setCell (p := ⟨w.heap.size + 1, 0, none⟩) (.inl (.inr rfl)) _).setCell (p := ⟨w.heap.size + 1, 1, none⟩) (.inl (.inr rfl)) _
      have R2 := Lib.hid ((HR5.out.keep kz (fun x hx _ e => by have hx : w4.heap.size ≤ x := hx; rcases e with e | e <;> omega)).sol)
      have HBx := Lib.hid (HBw4.out.trans (HKk.out.below (B := w.heap.size) fun k hk => ⟨by omega, fun e => by omega⟩))
      clear hz hy kz z0 z1 z2 z3 y0 y1 y2 y3 K0 K5 K5a K5b zc0 zc1
      go_wp2
      exact bodyPost_ret (v := .tuple #[.agg #[.slice sa1 A.length sc1, .slice sa2 B.length sc2], .agg #[.slice sa3 sl3 sc3, .slice sa4 sl4 sc4]]) (by simp [results, Try.results21, go_sem, e0, e1, e2, e3]) rfl ⟨_, _, _, _, A, B, C, D, rfl, R1.out, R2.out, HBx.out⟩
  have htb : (t == 0) = false := by simpa using ht
  clear ht t0 t1
  have hlt4 : w1.heap.size ≤ w4.heap.size := HD4.out.2.size
  have hpl : w2.heap.size < w4.heap.size := HA4.out.lt
  have hl1 := (isTab_len (isPM_parts HP.out).1).1
  have hl2 : A.length ≤ 1000 := by have := (isTab_len (isPM_parts HP.out).1).2; omega
  have HRW := Lib.hid (show ∀ p : List Int, p.length = A.length → Permuted p → RenOk A p ∧ RenOk B p from fun p e1 e2 => ⟨⟨(isPM_parts HP.out).1, e2, e1⟩, (isPM_parts HP.out).2.1, e2, e1.trans (isPM_parts HP.out).2.2⟩)
  have K0 : Keep (fun k => k = b ∨ w4.heap.size ≤ k) w4 w4.drew := (Keep.refl _ _).drew
  have Kd : Keep (fun k => k = b ∨ w4.heap.size ≤ k) w4 (w4.alloc (.cells #[.slice none 0 0, .slice none 0 0] 29)).drew := ((Keep.refl _ _).alloc _).drew
  have HK : Hid (∀ w' : World, Keep (fun k => k = b ∨ w4.heap.size ≤ k) w4 w' → w'.cell? ⟨w2.heap.size, 0, none⟩ = some (.slice sa1 A.length sc1) ∧ w'.cell? ⟨w2.heap.size, 1, none⟩ = some (.slice sa2 B.length sc2)) := Lib.hid fun w' k => by
    have := HA4.out.of_block (k.block w2.heap.size hpl (by omega))
    obtain ⟨x0, x1, -, -⟩ := two_cells this
    exact ⟨x0, x1⟩
  have HSrc0 := Lib.hid ((HD4.out.under (Below.refl w4.heap.size w4).drew).1)
  have HSrcd := Lib.hid ((HD4.out.under ((Below.refl w4.heap.size w4).alloc (Nat.le_refl _) (.cells #[.slice none 0 0, .slice none 0 0] 29)).drew).1)
  have HRK : Hid (∀ w' : World, Keep (fun k => k = b ∨ w4.heap.size ≤ k) w4 w' → RdS w1.heap.size w' (.slice sa1 A.length sc1) (.slice sa2 B.length sc2) A B) := Lib.hid fun w' k => HR4.out.keep k (fun x hx hx2 e => by omega)
  have HSrcK : Hid (∀ (W : World), Src W b → ∀ q, b < q → ∀ u1 u2, Src ((W.setCell ⟨q, 0, none⟩ u1).setCell ⟨q, 1, none⟩ u2) b) := Lib.hid fun W hs q hq u1 u2 => hs.keep (((Keep.refl (fun k => k = q) W).setCell (p := ⟨q, 0, none⟩) (.inl rfl) u1).setCell (p := ⟨q, 1, none⟩) (.inl rfl) u2) (fun p hp e => by have e : p = q := e; omega)
  obtain ⟨zc0, zc1⟩ := HK.out _ K0
  obtain ⟨zd0, zd1⟩ := HK.out _ Kd
  have hq4 : (w4.alloc (.cells #[.slice none 0 0, .slice none 0 0] 29)).drew.heap.size = w4.heap.size + 1 := by simp [World.drew]
  have hbo4 := (Blk.new w4 [.slice none 0 0, .slice none 0 0] 29).drew
  have HBo4 := Lib.hid hbo4
  clear hbo4
  go_wp2
  apply cut_waysD
  · intro key
    go_region_held3 (fun w' => w'.cell? ⟨w2.heap.size, 0, none⟩ = some (.slice sa1 A.length sc1) ∧ w'.cell? ⟨w2.heap.size, 1, none⟩ = some (.slice sa2 B.length sc2))
      (first | exact HK.out _ K0 | exact HK.out _ Kd | exact HK.out _ K5 | exact HK.out _ (K5.alloc _) | exact HK.out _ K6 | exact HK.out _ (K6.alloc _) | exact HK.out _ ((K6.setCell (p := ⟨w4.heap.size, 0, none⟩) (.inl (.inr (Nat.le_refl _))) _).setCell (p := ⟨w4.heap.size, 1, none⟩) (.inl (.inr (Nat.le_refl _))) _) | exact HK.out _ ((K6.setCell (p := ⟨w5.heap.size, 0, none⟩) (.inl (.inr K5.size)) _).setCell (p := ⟨w5.heap.size, 1, none⟩) (.inl (.inr K5.size)) _) | exact HK.out _ (((K6.alloc _).setCell (p := ⟨w6.heap.size, 0, none⟩) (.inl (.inr K6.size)) _).setCell (p := ⟨w6.heap.size, 1, none⟩) (.inl (.inr K6.size)) _))
      (first
        | (go_at_call 42; (with_reducible refine (c_l01DrawP b A.length _ (by first | exact HSrc0.out | exact HSrcd.out) hl1 hl2).mono ?_); rintro e w5 ⟨r, p, rfl, hpl5, hpp, hop, hd5⟩
           obtain ⟨pa, pc, hpv, -⟩ := hop.ints.shape
           rw [hpl5] at hpv
           subst hpv
           have K5 : Keep (fun k => k = b ∨ w4.heap.size ≤ k) w4 w5 := by first | exact K0.trans (keep_mono hd5.2 (fun x hx => .inl hx)) | exact Kd.trans (keep_mono hd5.2 (fun x hx => .inl hx))
           have HP5 := Lib.hid hop.ints
           have HPP := Lib.hid (And.intro hpl5 hpp)
           have HSr5 := Lib.hid hd5.1
           have HB5 : Hid (w4.heap.size ≤ w5.heap.size) := Lib.hid K5.size
           try (have HQ5 : Hid (Blk w5 w4.heap.size 29 [.slice none 0 0, .slice none 0 0] ∧ w4.heap.size + 1 ≤ w5.heap.size) := Lib.hid ⟨hd5.blk HBo4.out (by omega), by have := hd5.2.size; rw [hq4] at this; exact this⟩)
           clear hop hd5 hpl5 hpp)
        | (go_at_call 41; (with_reducible refine (c_l02Rename _ _ _ A B p _ (by first | exact (HRK.out _ K5).sol | exact (HRK.out _ (K5.alloc _)).sol) (by first | exact HP5.out | exact HP5.out.below ((Below.refl _ _).alloc (Nat.le_refl _) _)) (HRW.out p HPP.out.1 HPP.out.2).1 (HRW.out p HPP.out.1 HPP.out.2).2).mono ?_); rintro e w6 ⟨u1, u2, rfl, hos, hb6⟩
           have hsa := hos.atW
           obtain ⟨ua1, uc1, ua2, uc2, hu1, hu2⟩ := hsa.shape
           rw [renL_length] at hu1 hu2
           subst hu1 hu2
           have K6 : Keep (fun k => k = b ∨ w4.heap.size ≤ k) w4 w6 := by first | exact K5.trans (keep_mono (Keep.of_below hb6) (fun x hx => .inr (Nat.le_trans K5.size hx))) | exact (K5.alloc _).trans (keep_mono (Keep.of_below hb6) (fun x hx => .inr (Nat.le_trans (K5.alloc _).size hx)))
           have HSr6 : Hid (Src w6 b) := Lib.hid (by first | exact HSr5.out.under hb6 | exact HSr5.out.under (bb ((Below.refl _ _).alloc (Nat.le_refl _) _) hb6))
           have HRn := Lib.hid hsa.rd
           first
             | (have HQ6 : Hid (Blk w6 w4.heap.size 29 [.slice none 0 0, .slice none 0 0] ∧ w4.heap.size + 1 ≤ w5.heap.size) := Lib.hid ⟨HQ5.out.1.under hb6, HQ5.out.2⟩
                obtain ⟨z0, z1, z2, z3⟩ := two_cells HQ6.out.1)
             | (have HQ6 : Hid (Blk w6 w5.heap.size 29 [.slice none 0 0, .slice none 0 0]) := Lib.hid ((Blk.new w5 [.slice none 0 0, .slice none 0 0] 29).under hb6)
                obtain ⟨z0, z1, z2, z3⟩ := two_cells HQ6.out)
             | skip
           clear hos hb6 hsa))
    all_goals
      rename_i hHz
      clear hHz
      first
        | (have hk : Keep (fun k => k = b ∨ w4.heap.size ≤ k) w4 ((w6.setCell ⟨w4.heap.size, 0, none⟩ (.slice ua1 A.length uc1)).setCell ⟨w4.heap.size, 1, none⟩ (.slice ua2 B.length uc2)) := ((K6).setCell (p := ⟨w4.heap.size, 0, none⟩) (.inl (.inr (Nat.le_refl _))) _).setCell (p := ⟨w4.heap.size, 1, none⟩) (.inl (.inr (Nat.le_refl _))) _
           have hb : Blk ((w6.setCell ⟨w4.heap.size, 0, none⟩ (.slice ua1 A.length uc1)).setCell ⟨w4.heap.size, 1, none⟩ (.slice ua2 B.length uc2)) w4.heap.size 29 [.slice ua1 A.length uc1, .slice ua2 B.length uc2] := (HQ6.out.1.set 0 (.slice ua1 A.length uc1)).set 1 (.slice ua2 B.length uc2)
           have kq : Keep (fun k => k = w4.heap.size) (w6) ((w6.setCell ⟨w4.heap.size, 0, none⟩ (.slice ua1 A.length uc1)).setCell ⟨w4.heap.size, 1, none⟩ (.slice ua2 B.length uc2)) := ((Keep.refl (fun k => k = w4.heap.size) (w6)).setCell (p := ⟨w4.heap.size, 0, none⟩) (.inl rfl) _).setCell (p := ⟨w4.heap.size, 1, none⟩) (.inl rfl) _
           have hr : RdS w1.heap.size ((w6.setCell ⟨w4.heap.size, 0, none⟩ (.slice ua1 A.length uc1)).setCell ⟨w4.heap.size, 1, none⟩ (.slice ua2 B.length uc2)) (.slice ua1 A.length uc1) (.slice ua2 B.length uc2) (renL A p) (renL B p) := (HRn.out.keep kq (fun x hx _ e => by have e : x = w4.heap.size := e; have h1 := HQ6.out.2; have hx : w5.heap.size ≤ x := hx; omega)).mono (by have := K5.size; simp <;> omega)
           have hs : Src ((w6.setCell ⟨w4.heap.size, 0, none⟩ (.slice ua1 A.length uc1)).setCell ⟨w4.heap.size, 1, none⟩ (.slice ua2 B.length uc2)) b := HSrcK.out _ HSr6.out w4.heap.size (by have := K5.size; have := K6.size; have := HD4.out.1.lt; omega) _ _
           generalize hV : (w6.setCell ⟨w4.heap.size, 0, none⟩ (.slice ua1 A.length uc1)).setCell ⟨w4.heap.size, 1, none⟩ (.slice ua2 B.length uc2) = V at hk hb hr hs ⊢
           clear hV kq
           obtain ⟨q, hq⟩ : ∃ q, q = w4.heap.size := ⟨_, rfl⟩
           have hge : w4.heap.size ≤ q := by rw [hq]; exact Nat.le_refl _
           rw [← hq] at hb ⊢
           have HFIN := Lib.hid (And.intro hk (And.intro hb (And.intro hge (And.intro hr hs))))
           clear hk hb hge hr hs hq HRn HP5
           revert HFIN HPP
           revert q; revert V; revert ua1; revert uc1; revert ua2; revert uc2; revert pa; revert pc; revert p
           exact key.out)
        | (have hk : Keep (fun k => k = b ∨ w4.heap.size ≤ k) w4 ((w6.setCell ⟨w5.heap.size, 0, none⟩ (.slice ua1 A.length uc1)).setCell ⟨w5.heap.size, 1, none⟩ (.slice ua2 B.length uc2)) := ((K6).setCell (p := ⟨w5.heap.size, 0, none⟩) (.inl (.inr K5.size)) _).setCell (p := ⟨w5.heap.size, 1, none⟩) (.inl (.inr K5.size)) _
           have hb : Blk ((w6.setCell ⟨w5.heap.size, 0, none⟩ (.slice ua1 A.length uc1)).setCell ⟨w5.heap.size, 1, none⟩ (.slice ua2 B.length uc2)) w5.heap.size 29 [.slice ua1 A.length uc1, .slice ua2 B.length uc2] := (HQ6.out.set 0 (.slice ua1 A.length uc1)).set 1 (.slice ua2 B.length uc2)
           have kq : Keep (fun k => k = w5.heap.size) (w6) ((w6.setCell ⟨w5.heap.size, 0, none⟩ (.slice ua1 A.length uc1)).setCell ⟨w5.heap.size, 1, none⟩ (.slice ua2 B.length uc2)) := ((Keep.refl (fun k => k = w5.heap.size) (w6)).setCell (p := ⟨w5.heap.size, 0, none⟩) (.inl rfl) _).setCell (p := ⟨w5.heap.size, 1, none⟩) (.inl rfl) _
           have hr : RdS w1.heap.size ((w6.setCell ⟨w5.heap.size, 0, none⟩ (.slice ua1 A.length uc1)).setCell ⟨w5.heap.size, 1, none⟩ (.slice ua2 B.length uc2)) (.slice ua1 A.length uc1) (.slice ua2 B.length uc2) (renL A p) (renL B p) := (HRn.out.keep kq (fun x hx _ e => by have e : x = w5.heap.size := e; simp at hx; omega)).mono (by have := K5.size; simp <;> omega)
           have hs : Src ((w6.setCell ⟨w5.heap.size, 0, none⟩ (.slice ua1 A.length uc1)).setCell ⟨w5.heap.size, 1, none⟩ (.slice ua2 B.length uc2)) b := HSrcK.out _ HSr6.out w5.heap.size (by have := K5.size; have := K6.size; have := HD4.out.1.lt; omega) _ _
           generalize hV : (w6.setCell ⟨w5.heap.size, 0, none⟩ (.slice ua1 A.length uc1)).setCell ⟨w5.heap.size, 1, none⟩ (.slice ua2 B.length uc2) = V at hk hb hr hs ⊢
           clear hV kq
           obtain ⟨q, hq⟩ : ∃ q, q = w5.heap.size := ⟨_, rfl⟩
           have hge : w4.heap.size ≤ q := by rw [hq]; exact K5.size
           rw [← hq] at hb ⊢
           have HFIN := Lib.hid (And.intro hk (And.intro hb (And.intro hge (And.intro hr hs))))
           clear hk hb hge hr hs hq HRn HP5
           revert HFIN HPP
           revert q; revert V; revert ua1; revert uc1; revert ua2; revert uc2; revert pa; revert pc; revert p
           exact key.out)
        | (have hk : Keep (fun k => k = b ∨ w4.heap.size ≤ k) w4 (w6.alloc (.cells #[.slice ua1 A.length uc1, .slice ua2 B.length uc2] 29)) := K6.alloc _
           have hb : Blk (w6.alloc (.cells #[.slice ua1 A.length uc1, .slice ua2 B.length uc2] 29)) w6.heap.size 29 [.slice ua1 A.length uc1, .slice ua2 B.length uc2] := Blk.new w6 [.slice ua1 A.length uc1, .slice ua2 B.length uc2] 29
           have kq : Keep (fun k => k = w6.heap.size) w6 (w6.alloc (.cells #[.slice ua1 A.length uc1, .slice ua2 B.length uc2] 29)) := (Keep.refl (fun k => k = w6.heap.size) w6).alloc _
           have hr : RdS w1.heap.size (w6.alloc (.cells #[.slice ua1 A.length uc1, .slice ua2 B.length uc2] 29)) (.slice ua1 A.length uc1) (.slice ua2 B.length uc2) (renL A p) (renL B p) := (HRn.out.keep kq (fun x hx hx2 e => by have e : x = w6.heap.size := e; omega)).mono (by have := K5.size; simp <;> omega)
           have hs : Src (w6.alloc (.cells #[.slice ua1 A.length uc1, .slice ua2 B.length uc2] 29)) b := HSr6.out.under ((Below.refl _ _).alloc (Nat.le_refl _) _)
           generalize hV : w6.alloc (.cells #[.slice ua1 A.length uc1, .slice ua2 B.length uc2] 29) = V at hk hb hr hs ⊢
           clear hV kq
           obtain ⟨q, hq⟩ : ∃ q, q = w6.heap.size := ⟨_, rfl⟩
           have hge : w4.heap.size ≤ q := by rw [hq]; exact K6.size
           rw [← hq] at hb ⊢
           have HFIN := Lib.hid (And.intro hk (And.intro hb (And.intro hge (And.intro hr hs))))
           clear hk hb hge hr hs hq HRn HP5
           revert HFIN HPP
           revert q; revert V; revert ua1; revert uc1; revert ua2; revert uc2; revert pa; revert pc; revert p
           exact key.out)
  intro p pc pa uc2 ua2 uc1 ua1 V q HPP HFIN
  obtain ⟨kV, hbq, hge, hrb, hsV⟩ := HFIN.out
  have hVs : w4.heap.size ≤ V.heap.size := kV.size
  have HD5 := Lib.hid (show Drew b V V from Drew.refl hsV)
  have HF5 := Lib.hid (HF4.out.of_block (kV.block _ HF4.out.lt (by omega)))
  have HG5 := Lib.hid (HG4.out.of_block (kV.block _ HG4.out.lt (by omega)))
  have HA5 := Lib.hid (HA4.out.of_block (kV.block _ HA4.out.lt (by omega)))
  have HQ5 := Lib.hid hbq
  have HR5 := Lib.hid (HRK.out V kV)
  have HRb5 := Lib.hid hrb
  have HBw5 := Lib.hid (HBw4.out.trans (kV.below (B := w.heap.size) fun k hk => ⟨by have := HBw4.out.size; omega, fun e => by omega⟩))
  have hbq2 : b < q := by omega
  have HKV := Lib.hid kV
  have HPb := Lib.hid (ren_pm HP.out HPP.out.2 HPP.out.1)
  clear kV hbq hrb hsV HFIN K0 Kd HK HSrc0 HSrcd zc0 zc1 zd0 zd1 hq4 HBo4 HRW
  go_wp2_with fail
  refine (c_l01Next b 4 _ HD5.out.1 (by omega) (by omega)).mono ?_; rintro e w7 ⟨t2, rfl, t20, t21, hd7⟩
  have HF7 := Lib.hid (hd7.blk HF5.out (by omega)); have HG7 := Lib.hid (hd7.blk HG5.out (by omega)); have HA7 := Lib.hid (hd7.blk HA5.out (by omega)); have HQ7 := Lib.hid (hd7.blk HQ5.out (by omega)); have HR7 := Lib.hid (HR5.out.drew hd7 (by omega)); have HRb7 := Lib.hid (HRb5.out.drew hd7 (by omega)); have HBw7 := Lib.hid (hd7.below HBw5.out (by omega) HBw5.out.size)
  have HK7 := Lib.hid (HKV.out.trans (keep_mono hd7.2 (T := fun k => k = b ∨ w4.heap.size ≤ k) (fun x hx => .inl hx)))
  have hw47 : w4.heap.size ≤ w7.heap.size := HK7.out.size
  clear hd7 HD5 HF5 HG5 HA5 HQ5 HR5 HRb5 HBw5
  by_cases ht2 : t2 = 0
  case neg =>
    have htb2 : (t2 == 0) = false := by simpa using ht2
    clear ht2 t20 t21
    have K0 : Keep (fun k => k = w.heap.size ∨ k = w.heap.size + 1) w7 w7.drew := (Keep.refl _ _).drew
    have HK : Hid (∀ w' : World, Keep (fun k => k = w.heap.size ∨ k = w.heap.size + 1) w7 w' → ((w'.cell? ⟨w2.heap.size, 0, none⟩ = some (.slice sa1 A.length sc1) ∧ w'.cell? ⟨w2.heap.size, 1, none⟩ = some (.slice sa2 B.length sc2)) ∧ w'.cell? ⟨q, 0, none⟩ = some (.slice ua1 A.length uc1) ∧ w'.cell? ⟨q, 1, none⟩ = some (.slice ua2 B.length uc2))) := Lib.hid fun w' k => by
      have h1 := HA7.out.of_block (k.block w2.heap.size HA7.out.lt (by omega))
      have h2 := HQ7.out.of_block (k.block q HQ7.out.lt (by omega))
      obtain ⟨x0, x1, -, -⟩ := two_cells h1
      obtain ⟨y0, y1, -, -⟩ := two_cells h2
      exact ⟨⟨x0, x1⟩, y0, y1⟩
    obtain ⟨⟨zc0, zc1⟩, zc2, zc3⟩ := HK.out _ K0
    obtain ⟨z0, z1, z2, z3⟩ := two_cells HF7.out
    obtain ⟨y0, y1, y2, y3⟩ := two_cells HG7.out
    go_wp2
    go_region_held3 (fun w' => (w'.cell? ⟨w2.heap.size, 0, none⟩ = some (.slice sa1 A.length sc1) ∧ w'.cell? ⟨w2.heap.size, 1, none⟩ = some (.slice sa2 B.length sc2)) ∧ w'.cell? ⟨q, 0, none⟩ = some (.slice ua1 A.length uc1) ∧ w'.cell? ⟨q, 1, none⟩ = some (.slice ua2 B.length uc2))
      (first | exact HK.out _ K0 | exact HK.out _ (((K0.setCell (p := ⟨w.heap.size, 0, none⟩) (.inl (.inl rfl)) _)).setCell (p := ⟨w.heap.size, 1, none⟩) (.inl (.inl rfl)) _) | exact HK.out _ (((((K0.setCell (p := ⟨w.heap.size, 0, none⟩) (.inl (.inl rfl)) _)).setCell (p := ⟨w.heap.size, 1, none⟩) (.inl (.inl rfl)) _).setCell (p := ⟨w.heap.size + 1, 0, none⟩) (.inl (.inr rfl)) _).setCell (p := ⟨w.heap.size + 1, 1, none⟩) (.inl (.inr rfl)) _))
      (fail)
    rename_i hHz
    clear hHz
    have kz : Keep (fun k => k = w.heap.size ∨ k = w.heap.size + 1) w7 (((((w7).setCell ⟨w.heap.size, 0, none⟩ (.slice sa1 A.length sc1)).setCell ⟨w.heap.size, 1, none⟩ (.slice sa2 B.length sc2)).setCell ⟨w.heap.size + 1, 0, none⟩ (.slice ua1 A.length uc1)).setCell ⟨w.heap.size + 1, 1, none⟩ (.slice ua2 B.length uc2)).drew :=
      (((((Keep.refl (fun k => k = w.heap.size ∨ k = w.heap.size + 1) w7).setCell (p := ⟨w.heap.size, 0, none⟩) (.inl (.inl rfl)) _).setCell (p := ⟨w.heap.size, 1, none⟩) (.inl (.inl rfl)) _).setCell (p := ⟨w.heap.size + 1, 0, none⟩) (.inl (.inr rfl)) _).setCell (p := ⟨w.heap.size + 1, 1, none⟩) (.inl (.inr rfl)) _).drew
    have R1 := Lib.hid ((HR7.out.keep kz (fun x hx _ e => by rcases e with e | e <;> omega)).sol)
    have R2 := Lib.hid ((HRb7.out.keep kz (fun x hx _ e => by rcases e with e | e <;> omega)).sol)
    have HBx := Lib.hid (HBw7.out.trans (kz.below (B := w.heap.size) fun k hk => ⟨by have := HBw7.out.size; omega, fun e => by rcases e with e | e <;> omega⟩))
    have hz := (((HF7.out.set 0 (.slice sa1 A.length sc1)).set 1 (.slice sa2 B.length sc2)).other (a := ⟨w.heap.size + 1, 0, none⟩) (by simp) (.slice ua1 A.length uc1)).other (a := ⟨w.heap.size + 1, 1, none⟩) (by simp) (.slice ua2 B.length uc2)
    have hy := (((HG7.out.other (a := ⟨w.heap.size, 0, none⟩) (by simp) (.slice sa1 A.length sc1)).other (a := ⟨w.heap.size, 1, none⟩) (by simp) (.slice sa2 B.length sc2)).set 0 (.slice ua1 A.length uc1)).set 1 (.slice ua2 B.length uc2)
    obtain ⟨e0, e1, -, -⟩ := two_cells hz.drew
    obtain ⟨e2, e3, -, -⟩ := two_cells hy.drew
    clear hz hy kz z0 z1 z2 z3 y0 y1 y2 y3 zc0 zc1 zc2 zc3 K0
    go_wp2
    exact bodyPost_ret (v := .tuple #[.agg #[.slice sa1 A.length sc1, .slice sa2 B.length sc2], .agg #[.slice ua1 A.length uc1, .slice ua2 B.length uc2]]) (by simp [results, Try.results21, go_sem, e0, e1, e2, e3]) rfl ⟨_, _, _, _, A, B, renL A p, renL B p, rfl, R1.out, R2.out, HBx.out⟩
  case pos =>
    subst ht2
    clear t20 t21
    have hq7 := HQ7.out
    obtain ⟨b0, b1, -, -⟩ := two_cells hq7
    clear hq7
    go_wp2_with fail
    refine (c_specMirrorW _ _ (renL A p) (renL B p) _ HRb7.out.sol HPb.out).mono ?_; rintro e w8 ⟨m1, m2, rfl, hrm, hb8⟩
    obtain ⟨ma1, ml1, mc1, hm1⟩ := hrm.sol.1.any
    obtain ⟨ma2, ml2, mc2, hm2⟩ := hrm.sol.2.any
    subst hm1 hm2
    have hq8 := HQ7.out.under hb8
    obtain ⟨z0, z1, z2, z3⟩ := two_cells hq8
    have kq : Keep (fun k => k = q) w8 ((w8.setCell ⟨q, 0, none⟩ (.slice ma1 ml1 mc1)).setCell ⟨q, 1, none⟩ (.slice ma2 ml2 mc2)) := ((Keep.refl (fun k => k = q) w8).setCell (p := ⟨q, 0, none⟩) (.inl rfl) _).setCell (p := ⟨q, 1, none⟩) (.inl rfl) _
    have hq7 : q < w7.heap.size := HQ7.out.lt
    have HF9 := Lib.hid ((HF7.out.under hb8).of_block (kq.block _ (HF7.out.under hb8).lt (by omega))); have HG9 := Lib.hid ((HG7.out.under hb8).of_block (kq.block _ (HG7.out.under hb8).lt (by omega))); have HA9 := Lib.hid ((HA7.out.under hb8).of_block (kq.block _ (HA7.out.under hb8).lt (by omega)))
    have HQ9 : Hid (Blk ((w8.setCell ⟨q, 0, none⟩ (.slice ma1 ml1 mc1)).setCell ⟨q, 1, none⟩ (.slice ma2 ml2 mc2)) q 29 [.slice ma1 ml1 mc1, .slice ma2 ml2 mc2]) := Lib.hid ((hq8.set 0 (.slice ma1 ml1 mc1)).set 1 (.slice ma2 ml2 mc2))
    have HR9 : Hid (RdS w1.heap.size ((w8.setCell ⟨q, 0, none⟩ (.slice ma1 ml1 mc1)).setCell ⟨q, 1, none⟩ (.slice ma2 ml2 mc2)) (.slice sa1 A.length sc1) (.slice sa2 B.length sc2) A B) := Lib.hid (HRK.out _ (((HK7.out.trans (keep_mono (Keep.of_below hb8) (T := fun k => k = b ∨ w4.heap.size ≤ k) (fun x hx => .inr (Nat.le_trans hw47 hx)))).setCell (p := ⟨q, 0, none⟩) (.inl (.inr hge)) _).setCell (p := ⟨q, 1, none⟩) (.inl (.inr hge)) _))
    have HRb9 := Lib.hid ((hrm.keep kq (fun x hx hx2 e => by have e : x = q := e; omega)).mono (show w1.heap.size ≤ _ by omega))
    have HBw9 := Lib.hid ((bb HBw7.out hb8).trans (kq.below (B := w.heap.size) fun k hk => ⟨by have := (bb HBw7.out hb8).size; omega, fun e => by have e : k = q := e; omega⟩))
    clear hq8 kq hrm hb8 b0 b1
    go_wp2_with fail
    generalize (w8.setCell ⟨q, 0, none⟩ (.slice ma1 ml1 mc1)).setCell ⟨q, 1, none⟩ (.slice ma2 ml2 mc2) = w9 at HF9 HG9 HA9 HQ9 HR9 HRb9 HBw9 ⊢
    clear z0 z1 z2 z3
    have K0 : Keep (fun k => k = w.heap.size ∨ k = w.heap.size + 1) w9 w9.drew := (Keep.refl _ _).drew
    have HK : Hid (∀ w' : World, Keep (fun k => k = w.heap.size ∨ k = w.heap.size + 1) w9 w' → ((w'.cell? ⟨w2.heap.size, 0, none⟩ = some (.slice sa1 A.length sc1) ∧ w'.cell? ⟨w2.heap.size, 1, none⟩ = some (.slice sa2 B.length sc2)) ∧ w'.cell? ⟨q, 0, none⟩ = some (.slice ma1 ml1 mc1) ∧ w'.cell? ⟨q, 1, none⟩ = some (.slice ma2 ml2 mc2))) := Lib.hid fun w' k => by
      have h1 := HA9.out.of_block (k.block w2.heap.size HA9.out.lt (by omega))
      have h2 := HQ9.out.of_block (k.block q HQ9.out.lt (by omega))
      obtain ⟨x0, x1, -, -⟩ := two_cells h1
      obtain ⟨y0, y1, -, -⟩ := two_cells h2
      exact ⟨⟨x0, x1⟩, y0, y1⟩
    obtain ⟨⟨zc0, zc1⟩, zc2, zc3⟩ := HK.out _ K0
    obtain ⟨z0, z1, z2, z3⟩ := two_cells HF9.out
    obtain ⟨y0, y1, y2, y3⟩ := two_cells HG9.out
    go_wp2
    go_region_held3 (fun w' => (w'.cell? ⟨w2.heap.size, 0, none⟩ = some (.slice sa1 A.length sc1) ∧ w'.cell? ⟨w2.heap.size, 1, none⟩ = some (.slice sa2 B.length sc2)) ∧ w'.cell? ⟨q, 0, none⟩ = some (.slice ma1 ml1 mc1) ∧ w'.cell? ⟨q, 1, none⟩ = some (.slice ma2 ml2 mc2))
      (first | exact HK.out _ K0 | exact HK.out _ (((K0.setCell (p := ⟨w.heap.size, 0, none⟩) (.inl (.inl rfl)) _)).setCell (p := ⟨w.heap.size, 1, none⟩) (.inl (.inl rfl)) _) | exact HK.out _ (((((K0.setCell (p := ⟨w.heap.size, 0, none⟩) (.inl (.inl rfl)) _)).setCell (p := ⟨w.heap.size, 1, none⟩) (.inl (.inl rfl)) _).setCell (p := ⟨w.heap.size + 1, 0, none⟩) (.inl (.inr rfl)) _).setCell (p := ⟨w.heap.size + 1, 1, none⟩) (.inl (.inr rfl)) _))
      (fail)
    rename_i hHz
    clear hHz
    have kz : Keep (fun k => k = w.heap.size ∨ k = w.heap.size + 1) w9 (((((w9).setCell ⟨w.heap.size, 0, none⟩ (.slice sa1 A.length sc1)).setCell ⟨w.heap.size, 1, none⟩ (.slice sa2 B.length sc2)).setCell ⟨w.heap.size + 1, 0, none⟩ (.slice ma1 ml1 mc1)).setCell ⟨w.heap.size + 1, 1, none⟩ (.slice ma2 ml2 mc2)).drew :=
      (((((Keep.refl (fun k => k = w.heap.size ∨ k = w.heap.size + 1) w9).setCell (p := ⟨w.heap.size, 0, none⟩) (.inl (.inl rfl)) _).setCell (p := ⟨w.heap.size, 1, none⟩) (.inl (.inl rfl)) _).setCell (p := ⟨w.heap.size + 1, 0, none⟩) (.inl (.inr rfl)) _).setCell (p := ⟨w.heap.size + 1, 1, none⟩) (.inl (.inr rfl)) _).drew
    have R1 := Lib.hid ((HR9.out.keep kz (fun x hx _ e => by rcases e with e | e <;> omega)).sol)
    have R2 := Lib.hid ((HRb9.out.keep kz (fun x hx _ e => by rcases e with e | e <;> omega)).sol)
    have HBx := Lib.hid (HBw9.out.trans (kz.below (B := w.heap.size) fun k hk => ⟨by have := HBw9.out.size; omega, fun e => by rcases e with e | e <;> omega⟩))
    have hz := (((HF9.out.set 0 (.slice sa1 A.length sc1)).set 1 (.slice sa2 B.length sc2)).other (a := ⟨w.heap.size + 1, 0, none⟩) (by simp) (.slice ma1 ml1 mc1)).other (a := ⟨w.heap.size + 1, 1, none⟩) (by simp) (.slice ma2 ml2 mc2)
    have hy := (((HG9.out.other (a := ⟨w.heap.size, 0, none⟩) (by simp) (.slice sa1 A.length sc1)).other (a := ⟨w.heap.size, 1, none⟩) (by simp) (.slice sa2 B.length sc2)).set 0 (.slice ma1 ml1 mc1)).set 1 (.slice ma2 ml2 mc2)
    obtain ⟨e0, e1, -, -⟩ := two_cells hz.drew
    obtain ⟨e2, e3, -, -⟩ := two_cells hy.drew
    clear hz hy kz z0 z1 z2 z3 y0 y1 y2 y3 zc0 zc1 zc2 zc3 K0
    go_wp2
    exact bodyPost_ret (v := .tuple #[.agg #[.slice sa1 A.length sc1, .slice sa2 B.length sc2], .agg #[.slice ma1 ml1 mc1, .slice ma2 ml2 mc2]]) (by simp [results, Try.results21, go_sem, e0, e1, e2, e3]) rfl ⟨_, _, _, _, A, B, transL (renL B p), transL (renL A p), rfl, R1.out, R2.out, HBx.out⟩
end Go.Proofs.Ytgmhnjccgldddaa

namespace Go.Proofs.Ytgmhnjccgldddaa
set_option linter.unusedVariables false
set_option linter.unusedSimpArgs false
open Go Go.RowKit Go.Shelf
attribute [local go_sem] Oper.semAt_some

/-- A pair of tables in an interval of blocks that holds neither box q. -/
def SolP (lo q : Nat) (W : World) (va vb : Value) (X Y : List (List Int)) : Prop := ∃ l h, lo ≤ l ∧ h ≤ W.heap.size ∧ (h ≤ q ∨ q < l) ∧ OwnSol l h W va vb X Y
theorem SolP.keep {lo q : Nat} {S : Nat → Prop} {W W' : World} {va vb : Value} {X Y : List (List Int)} (h : SolP lo q W va vb X Y) (k : Keep S W W') (hS : ∀ b, lo ≤ b → b ≠ q → b < W.heap.size → ¬ S b) : SolP lo q W' va vb X Y := by
  obtain ⟨l, g, a, b, c, d⟩ := h
  exact ⟨l, g, a, Nat.le_trans b k.size, c, d.keep k fun x x1 x2 => hS x (by omega) (by omega) (by omega)⟩
theorem SolP.under {lo q : Nat} {W W' : World} {va vb : Value} {X Y : List (List Int)} (h : SolP lo q W va vb X Y) (hb : Below W.heap.size W W') : SolP lo q W' va vb X Y :=
  h.keep (S := fun b => W.heap.size ≤ b) (Keep.of_below hb) fun x _ _ x1 x2 => by omega
theorem SolP.sol {lo q : Nat} {W : World} {va vb : Value} {X Y : List (List Int)} (h : SolP lo q W va vb X Y) : Sol W va vb X Y := by
  obtain ⟨l, g, a, b, c, d⟩ := h; exact d.sol
theorem SolP.own {lo lo' q : Nat} {W : World} {va vb : Value} {X Y : List (List Int)} (h : SolP lo q W va vb X Y) (hl : lo' ≤ lo) : OwnSol lo' W.heap.size W va vb X Y := by
  obtain ⟨l, g, a, b, c, d⟩ := h; exact d.widen (by omega) b
/-- The permutations' table, apart from the box q. -/
def AllP (lo q : Nat) (W : World) (v : Value) (t : List (List Int)) : Prop := ∃ l h, lo ≤ l ∧ h ≤ W.heap.size ∧ (h ≤ q ∨ q < l) ∧ OwnRowsIn l h W v t
theorem AllP.keep {lo q : Nat} {S : Nat → Prop} {W W' : World} {v : Value} {t : List (List Int)} (h : AllP lo q W v t) (k : Keep S W W') (hS : ∀ b, lo ≤ b → b ≠ q → b < W.heap.size → ¬ S b) : AllP lo q W' v t := by
  obtain ⟨l, g, a, b, c, d⟩ := h
  exact ⟨l, g, a, Nat.le_trans b k.size, c, d.keep k fun x x1 x2 => hS x (by omega) (by omega) (by omega)⟩
theorem AllP.under {lo q : Nat} {W W' : World} {v : Value} {t : List (List Int)} (h : AllP lo q W v t) (hb : Below W.heap.size W W') : AllP lo q W' v t :=
  h.keep (S := fun b => W.heap.size ≤ b) (Keep.of_below hb) fun x _ _ x1 x2 => by omega
theorem AllP.rows {lo q : Nat} {W : World} {v : Value} {t : List (List Int)} (h : AllP lo q W v t) : Rows W v t := by
  obtain ⟨l, g, a, b, c, d⟩ := h; exact d.rows

end Go.Proofs.Ytgmhnjccgldddaa

namespace Go.Proofs.Ytgmhnjccgldddaa
set_option linter.unusedVariables false
set_option linter.unusedSimpArgs false
open Go Go.RowKit Go.Shelf

def lnOk (A B : List (List Int)) : Bool := isPM A B && decide (A.length ≤ 7)
def lnA (A B : List (List Int)) : List (List Int) := if lnOk A B then lsSA A B else []
def lnB (A B : List (List Int)) : List (List Int) := if lnOk A B then lsSB A B else []
def lnCode (A B : List (List Int)) : Int := if isPM A B then (if A.length ≤ 7 then 0 else 3) else 1

set_option maxRecDepth 100000 in
set_option maxHeartbeats 2000000 in
theorem c_LeastSolution (v0 u0 : Value) (A B : List (List Int)) (w : World) (hA : Sol w v0 u0 A B)  :
    Calls Try.prog 25 #[.agg #[v0, u0]] w (RSolC w (lnA A B) (lnB A B) (lnCode A B)) := by
  by_cases hp0 : isPM A B = true
  case neg =>
    have hq0 : isPM A B = false := by simpa using hp0
    have HQ := Lib.hid hq0; clear hp0
    obtain ⟨a0, c0, rfl, _, _⟩ := hA.1.shape
    obtain ⟨a0s, c0s, rfl, _, _⟩ := hA.2.shape
    go_enter Try.func25, Try.ntmps25
    go_wp2_with fail
    obtain ⟨f0, f1, hW0, hsz⟩ := boxes2 w [.slice a0 A.length c0, .slice a0s B.length c0s] [.slice none 0 0, .slice none 0 0] 29 29
    obtain ⟨W0, hW⟩ : ∃ W, ((w.alloc (.cells #[.slice a0 A.length c0, .slice a0s B.length c0s] 29)).alloc (.cells #[.slice none 0 0, .slice none 0 0] 29)) = W := ⟨_, rfl⟩
    rw [hW] at f0 f1 hW0 hsz ⊢
    clear hW hsz
    refine (c_IsPairMap _ _ _ _ _ (hA.below hW0)).mono ?_; rintro e g0 ⟨rfl, hbg0⟩
    have hB0 := bb hW0 hbg0
    replace f0 := f0.under hbg0
    obtain ⟨cA0, cB0, -, -⟩ := two_cells f0
    replace f1 := f1.under hbg0
    obtain ⟨cA1, cB1, fA1, fB1⟩ := two_cells f1
    clear hbg0
    have HB := Lib.hid hB0
    clear hB0 hW0
    go_wp2
    refine bodyPost_ret (v := .tuple #[.agg #[.slice none 0 0, .slice none 0 0], .int .i64 1]) (by simp [results, Try.results25, go_sem, cA1, cB1]) rfl ⟨.slice none 0 0, .slice none 0 0, by simp [lnA, lnB, lnCode, lnOk, HQ.out], ?_, ?_⟩
    · have hz : w.heap.size ≤ g0.heap.size := HB.out.size
      rw [show lnA A B = [] from by simp [lnA, lnB, lnCode, lnOk, HQ.out], show lnB A B = [] from by simp [lnA, lnB, lnCode, lnOk, HQ.out]]
      exact OwnSol.nil0 (by first | exact hz | (simp [World.setCell]; exact hz))
    · first | exact HB.out | exact (HB.out.setCell (p := ⟨w.heap.size + 1, 0, none⟩) (by show _ ≤ w.heap.size + 1; omega) _).setCell (p := ⟨w.heap.size + 1, 1, none⟩) (by show _ ≤ w.heap.size + 1; omega) _
  have HP0 := Lib.hid hp0
  obtain ⟨a0, c0, rfl, _, _⟩ := hA.1.shape
  obtain ⟨a0s, c0s, rfl, _, _⟩ := hA.2.shape
  go_enter Try.func25, Try.ntmps25
  go_wp2_with fail
  obtain ⟨f0, f1, hW0, hsz⟩ := boxes2 w [.slice a0 A.length c0, .slice a0s B.length c0s] [.slice none 0 0, .slice none 0 0] 29 29
  obtain ⟨W0, hW⟩ : ∃ W, ((w.alloc (.cells #[.slice a0 A.length c0, .slice a0s B.length c0s] 29)).alloc (.cells #[.slice none 0 0, .slice none 0 0] 29)) = W := ⟨_, rfl⟩
  rw [hW] at f0 f1 hW0 hsz ⊢
  clear hW hsz
  refine (c_IsPairMap _ _ _ _ _ (hA.below hW0)).mono ?_; rintro e g0 ⟨rfl, hbg0⟩
  have hB0 := bb hW0 hbg0
  replace f0 := f0.under hbg0
  obtain ⟨cA0, cB0, -, -⟩ := two_cells f0
  replace f1 := f1.under hbg0
  obtain ⟨cA1, cB1, fA1, fB1⟩ := two_cells f1
  clear hbg0
  by_cases h7 : A.length ≤ 7
  case neg =>
    have H7 := Lib.hid h7
    have h7' : (7 : Int) < A.length := by omega
    have HB := Lib.hid hB0
    clear h7 hB0
    go_wp2
    refine bodyPost_ret (v := .tuple #[.agg #[.slice none 0 0, .slice none 0 0], .int .i64 3]) (by simp [results, Try.results25, go_sem, cA1, cB1]) rfl ⟨.slice none 0 0, .slice none 0 0, by simp [lnCode, HP0.out, H7.out], ?_, ?_⟩
    · have hz : w.heap.size ≤ g0.heap.size := HB.out.size
      rw [show lnA A B = [] from by simp [lnA, lnOk, H7.out], show lnB A B = [] from by simp [lnB, lnOk, H7.out]]
      exact OwnSol.nil0 (by first | exact hz | (simp [World.setCell]; exact hz))
    · first | exact HB.out | exact (HB.out.setCell (p := ⟨w.heap.size + 1, 0, none⟩) (by show _ ≤ w.heap.size + 1; omega) _).setCell (p := ⟨w.heap.size + 1, 1, none⟩) (by show _ ≤ w.heap.size + 1; omega) _
  have H7 := Lib.hid h7
  have h7' : ¬ ((7 : Int) < A.length) := by omega
  have HSo := Lib.hid (hA.below hB0); have HBW := Lib.hid hB0; have HF1 := Lib.hid f1
  clear hA hB0 hW0 h7
  go_wp2_with fail
  refine (c_leastSolution _ _ A B _ HSo.out HP0.out H7.out).mono ?_; rintro e wz ⟨s1, s2, rfl, hs, hbz⟩
  obtain ⟨sa1, sl1, sc1, rfl⟩ := hs.sol.1.any
  obtain ⟨sa2, sl2, sc2, rfl⟩ := hs.sol.2.any
  clear cA0 cB0 cA1 cB1 fA1 fB1 f0 f1
  obtain ⟨z0, z1, z2, z3⟩ := two_cells (HF1.out.under hbz)
  have HLo := Lib.hid HF1.out.lt; have HS := Lib.hid hs; have HBz := Lib.hid (bb HBW.out hbz); clear hs hbz
  go_wp2
  obtain ⟨hA, hB⟩ := stored (q := w.heap.size + 1) HBz.out HS.out (by omega) HLo.out
  refine bodyPost_ret (v := .tuple #[.agg #[.slice sa1 sl1 sc1, .slice sa2 sl2 sc2], .int .i64 0]) (by simp [results, Try.results25, go_sem, z0, z1]) rfl ⟨_, _, by simp [lnCode, HP0.out, H7.out]; exact ⟨rfl, rfl⟩, by simpa [lnA, lnB, lnOk, HP0.out, H7.out] using hA, hB⟩


theorem bestS_mem (A B : List (List Int)) : ∀ (X : TabsP) (ps : List (List Int)), bestS A B X ps = X ∨ ∃ p ∈ ps, bestS A B X ps = (renL A p, renL B p)
  | X, [] => .inl rfl
  | X, p :: ps => by
    unfold bestS; rw [List.foldl_cons]
    rcases bestS_mem A B (stepS A B X p) ps with h | ⟨q, hq, h⟩
    · unfold bestS at h
      rw [h]
      unfold stepS
      split
      · exact .inr ⟨p, by simp, rfl⟩
      · exact .inl rfl
    · exact .inr ⟨q, by simp [hq], h⟩
theorem ln_total (A B : List (List Int)) : total (lnA A B) ≤ 144 ∧ total (lnB A B) ≤ 144 := by
  unfold lnA lnB
  split
  · rename_i h
    simp only [lnOk, Bool.and_eq_true, decide_eq_true_eq] at h
    obtain ⟨h1, h2, h3⟩ := isPM_parts h.1
    have htab : ∀ X : List (List Int), X.length ≤ 7 → (∀ r ∈ X, r.length ≤ 12) → total X ≤ 144 := by
      intro X h1 h2
      have := total_le X h2
      omega
    have hrow : ∀ {t : List (List Int)}, isTab t = true → t.length ≤ 7 → ∀ r ∈ t, r.length ≤ 12 := by
      intro t ht h7 r hr
      obtain ⟨j, hj, rfl⟩ := List.getElem_of_mem hr
      have := isTab_row ht (x := j) (by omega) (by omega)
      rw [row_nat _ _ hj] at this; omega
    have hb7 : B.length ≤ 7 := by omega
    unfold lsSA lsSB
    rcases bestS_mem A B (A, B) (allPerms A.length) with e | ⟨p, hp, e⟩
    · rw [e]
      exact ⟨htab _ h.2 (hrow h1 h.2), htab _ hb7 (hrow h2 hb7)⟩
    · rw [e]
      have h7 := h.2
      have r1 : ∀ r ∈ renL A p, r.length ≤ 12 := tab_rows (n := A.length) (by omega)
      have r2 : ∀ r ∈ renL B p, r.length ≤ 12 := tab_rows (n := B.length) (by omega)
      exact ⟨htab (renL A p) (by simp; omega) r1, htab (renL B p) (by simp; omega) r2⟩
  · simp [total]
end Go.Proofs.Ytgmhnjccgldddaa

namespace Go.Proofs.Ytgmhnjccgldddaa
set_option linter.unusedVariables false
set_option linter.unusedSimpArgs false
open Go.RowKit

def rnP (A : List (List Int)) (p : List Int) : Bool := decide (p.length = A.length) && isPerm p
def rnA (A B : List (List Int)) (p : List Int) : List (List Int) := if isPM A B && rnP A p then renL A p else []
def rnB (A B : List (List Int)) (p : List Int) : List (List Int) := if isPM A B && rnP A p then renL B p else []
def rnCode (A B : List (List Int)) (p : List Int) : Int := if isPM A B then (if rnP A p then 0 else 2) else 1
theorem rnP_ok {A B : List (List Int)} {p : List Int} (h : isPM A B = true) (hp : rnP A p = true) : RenOk A p ∧ RenOk B p := by
  obtain ⟨q1, q2, q3⟩ := isPM_parts h
  simp only [rnP, Bool.and_eq_true, decide_eq_true_eq, isPerm] at hp
  exact ⟨⟨q1, hp.2.2, hp.1⟩, ⟨q2, hp.2.2, by omega⟩⟩

set_option maxRecDepth 100000 in
set_option maxHeartbeats 2000000 in
theorem c_RenameSolution (v0 u0 : Value) (A B : List (List Int)) (v1 : Value) (p : List Int) (w : World) (hA : Sol w v0 u0 A B) (hp : Ints w v1 p)  :
    Calls Try.prog 23 #[.agg #[v0, u0], v1] w (RSolC w (rnA A B p) (rnB A B p) (rnCode A B p)) := by
  by_cases hp0 : isPM A B = true
  case neg =>
    have hq0 : isPM A B = false := by simpa using hp0
    have HQ := Lib.hid hq0; clear hp0
    obtain ⟨a0, c0, rfl, _, _⟩ := hA.1.shape
    obtain ⟨a0s, c0s, rfl, _, _⟩ := hA.2.shape
    obtain ⟨a1, c1, rfl, hc1, hm1⟩ := hp.shape
    go_enter Try.func23, Try.ntmps23
    go_wp2_with fail
    obtain ⟨f0, f2, hW0, hsz⟩ := boxes2 w [.slice a0 A.length c0, .slice a0s B.length c0s] [.slice none 0 0, .slice none 0 0] 29 29
    obtain ⟨W0, hW⟩ : ∃ W, ((w.alloc (.cells #[.slice a0 A.length c0, .slice a0s B.length c0s] 29)).alloc (.cells #[.slice none 0 0, .slice none 0 0] 29)) = W := ⟨_, rfl⟩
    rw [hW] at f0 f2 hW0 hsz ⊢
    clear hW hsz
    refine (c_IsPairMap _ _ _ _ _ (hA.below hW0)).mono ?_; rintro e g0 ⟨rfl, hbg0⟩
    have hB0 := bb hW0 hbg0
    replace f0 := f0.under hbg0
    obtain ⟨cA0, cB0, -, -⟩ := two_cells f0
    replace f2 := f2.under hbg0
    obtain ⟨cA2, cB2, fA2, fB2⟩ := two_cells f2
    clear hbg0
    have HB := Lib.hid hB0
    clear hB0 hW0
    go_wp2
    refine bodyPost_ret (v := .tuple #[.agg #[.slice none 0 0, .slice none 0 0], .int .i64 1]) (by simp [results, Try.results23, go_sem, cA2, cB2]) rfl ⟨.slice none 0 0, .slice none 0 0, by simp [rnA, rnB, rnCode, HQ.out], ?_, ?_⟩
    · have hz : w.heap.size ≤ g0.heap.size := HB.out.size
      rw [show rnA A B p = [] from by simp [rnA, rnB, rnCode, HQ.out], show rnB A B p = [] from by simp [rnA, rnB, rnCode, HQ.out]]
      exact OwnSol.nil0 (by first | exact hz | (simp [World.setCell]; exact hz))
    · first | exact HB.out | exact (HB.out.setCell (p := ⟨w.heap.size + 1, 0, none⟩) (by show _ ≤ w.heap.size + 1; omega) _).setCell (p := ⟨w.heap.size + 1, 1, none⟩) (by show _ ≤ w.heap.size + 1; omega) _
  have HP0 := Lib.hid hp0
  obtain ⟨a0, c0, rfl, _, _⟩ := hA.1.shape
  obtain ⟨a0s, c0s, rfl, _, _⟩ := hA.2.shape
  obtain ⟨a1, c1, rfl, hc1, hm1⟩ := hp.shape
  go_enter Try.func23, Try.ntmps23
  go_wp2_with fail
  obtain ⟨f0, f2, hW0, hsz⟩ := boxes2 w [.slice a0 A.length c0, .slice a0s B.length c0s] [.slice none 0 0, .slice none 0 0] 29 29
  obtain ⟨W0, hW⟩ : ∃ W, ((w.alloc (.cells #[.slice a0 A.length c0, .slice a0s B.length c0s] 29)).alloc (.cells #[.slice none 0 0, .slice none 0 0] 29)) = W := ⟨_, rfl⟩
  rw [hW] at f0 f2 hW0 hsz ⊢
  clear hW hsz
  refine (c_IsPairMap _ _ _ _ _ (hA.below hW0)).mono ?_; rintro e g0 ⟨rfl, hbg0⟩
  have hB0 := bb hW0 hbg0
  replace f0 := f0.under hbg0
  obtain ⟨cA0, cB0, -, -⟩ := two_cells f0
  replace f2 := f2.under hbg0
  obtain ⟨cA2, cB2, fA2, fB2⟩ := two_cells f2
  clear hbg0
  obtain ⟨q1, q2, -⟩ := isPM_parts HP0.out
  have hlA := isTab_len q1
  by_cases hl : p.length = A.length
  case neg =>
    have hb : ((p.length : Int) != (A.length : Int)) = true := by simp; omega
    have hr : rnP A p = false := by simp [rnP, hl]
    have HR := Lib.hid hr; have HB := Lib.hid hB0
    clear hl hr hB0 hW0 hA hp
    go_wp2
    refine bodyPost_ret (v := .tuple #[.agg #[.slice none 0 0, .slice none 0 0], .int .i64 2]) (by simp [results, Try.results23, go_sem, cA2, cB2]) rfl ⟨.slice none 0 0, .slice none 0 0, by simp [rnCode, HP0.out, HR.out], ?_, ?_⟩
    · have hz : w.heap.size ≤ g0.heap.size := HB.out.size
      rw [show rnA A B p = [] from by simp [rnA, HR.out], show rnB A B p = [] from by simp [rnB, HR.out]]
      exact OwnSol.nil0 (by first | exact hz | (simp [World.setCell]; exact hz))
    · first | exact HB.out | exact (HB.out.setCell (p := ⟨w.heap.size + 1, 0, none⟩) (by show _ ≤ w.heap.size + 1; omega) _).setCell (p := ⟨w.heap.size + 1, 1, none⟩) (by show _ ≤ w.heap.size + 1; omega) _
  have hb : ((p.length : Int) != (A.length : Int)) = false := by simp [hl]
  have hin : inR A.length 1 12 = true := by simp [inR]; omega
  have HL := Lib.hid hl; have HIn := Lib.hid hin
  have hp12 : p.length ≤ 12 := by omega
  clear hl hin
  have HF0 := Lib.hid f0; have HF2 := Lib.hid f2; have HAs := Lib.hid hA
  go_wp2_with fail
  refine (c_isPermuted _ p _ (hp.below hB0) (by omega)).mono ?_; rintro e g1 ⟨rfl, hb1⟩
  have HF2b := Lib.hid (HF2.out.under hb1); have HF0b := Lib.hid (HF0.out.under hb1); have HB := Lib.hid (bb hB0 hb1)
  have HAs1 := Lib.hid ((hA.below hB0).below hb1); have HPp := Lib.hid ((hp.below hB0).below hb1)
  obtain ⟨dA, dB, dF, dG⟩ := two_cells HF2b.out
  obtain ⟨eA, eB, -, -⟩ := two_cells HF0b.out
  clear hA hp hB0 hb1 hW0 f0 f2 HF0 HF2 HAs cA0 cB0 cA2 cB2 fA2 fB2
  by_cases hpm : decide (Permuted p) = true
  case neg =>
    have hpm' : decide (Permuted p) = false := by simpa using hpm
    have hr : rnP A p = false := by simp [rnP, isPerm, HIn.out, HL.out]; simpa using hpm'
    have HR := Lib.hid hr; rw [hpm']
    clear hpm hpm' hr
    go_wp2
    refine bodyPost_ret (v := .tuple #[.agg #[.slice none 0 0, .slice none 0 0], .int .i64 2]) (by simp [results, Try.results23, go_sem, dA, dB]) rfl ⟨.slice none 0 0, .slice none 0 0, by simp [rnCode, HP0.out, HR.out], ?_, ?_⟩
    · have hz : w.heap.size ≤ g1.heap.size := HB.out.size
      rw [show rnA A B p = [] from by simp [rnA, HR.out], show rnB A B p = [] from by simp [rnB, HR.out]]
      exact OwnSol.nil0 (by first | exact hz | (simp [World.setCell]; exact hz))
    · first | exact HB.out | exact (HB.out.setCell (p := ⟨w.heap.size + 1, 0, none⟩) (by show _ ≤ w.heap.size + 1; omega) _).setCell (p := ⟨w.heap.size + 1, 1, none⟩) (by show _ ≤ w.heap.size + 1; omega) _
  have hr : rnP A p = true := by simp [rnP, isPerm, HIn.out, HL.out]; simpa using hpm
  have HR := Lib.hid hr; rw [hpm]
  obtain ⟨k1, k2⟩ := rnP_ok HP0.out hr
  have HK1 := Lib.hid k1; have HK2 := Lib.hid k2
  clear hpm hr k1 k2
  go_wp2_with fail
  refine (c_renamedSolution _ _ _ _ _ p _ HAs1.out HPp.out HK1.out HK2.out).mono ?_; rintro e g2 ⟨r1, r2, rfl, hs, hb2⟩
  have HF3 := Lib.hid (HF2b.out.under hb2); have HB2 := Lib.hid (bb HB.out hb2); have HS := Lib.hid hs; have HLt := Lib.hid HF2b.out.lt
  obtain ⟨zA, zB, zF, zG⟩ := two_cells HF3.out
  clear hs hb2
  obtain ⟨hA, hB⟩ := stored (q := w.heap.size + 1) HB2.out HS.out (by omega) HLt.out
  have HA := Lib.hid hA; have HB3 := Lib.hid hB
  obtain ⟨x1, y1, hv1, _⟩ := HS.out.sol.1.shape
  obtain ⟨x2, y2, hv2, _⟩ := HS.out.sol.2.shape
  rw [renL_length] at hv1 hv2
  subst hv1 hv2
  clear hA hB eA eB dA dB dF dG
  go_wp2
  exact bodyPost_ret (v := .tuple #[.agg #[.slice x1 A.length y1, .slice x2 B.length y2], .int .i64 0]) (by simp [results, Try.results23, go_sem, zA, zB]) rfl ⟨.slice x1 A.length y1, .slice x2 B.length y2, by simp [rnCode, HP0.out, HR.out], by simpa [rnA, rnB, HP0.out, HR.out] using HA.out, HB3.out⟩

theorem rn_total (A B : List (List Int)) (p : List Int) : total (rnA A B p) ≤ 144 ∧ total (rnB A B p) ≤ 144 := by
  unfold rnA rnB
  split
  · rename_i h
    simp only [Bool.and_eq_true] at h
    obtain ⟨q1, q2, _⟩ := isPM_parts h.1
    have l1 := isTab_len q1; have l2 := isTab_len q2
    have h1 := total_le _ (tab_rows (n := A.length) (g := fun x y => nth p (val2 A (nth (invL p) x) (nth (invL p) y))) l1.2)
    have h2 := total_le _ (tab_rows (n := B.length) (g := fun x y => nth p (val2 B (nth (invL p) x) (nth (invL p) y))) l2.2)
    rw [tabOf_length] at h1 h2
    unfold renL
    omega
  · simp [total]
end Go.Proofs.Ytgmhnjccgldddaa

namespace Go.Proofs.Ytgmhnjccgldddaa
set_option linter.unusedVariables false
set_option linter.unusedSimpArgs false

/-- An element. -/
def InN (n : Nat) (x : Int) : Prop := 0 ≤ x ∧ x < n
/-- A number of a list of Booleans. -/
def nthB (l : List Bool) (x : Int) : Bool := l.getD x.toNat false
theorem nthB_set (l : List Bool) (x y : Int) (b : Bool) (h0 : 0 ≤ x) (h : x < l.length) (hy : 0 ≤ y) : nthB (l.set x.toNat b) y = if y = x then b else nthB l y := by
  unfold nthB
  simp only [List.getD_eq_getElem?_getD, List.getElem?_set]
  by_cases e : y = x
  · subst e; simp [show y.toNat < l.length from by omega]
  · simp [e, show ¬ x.toNat = y.toNat from by omega]
/-- p leads the tables F to the tables G. -/
def IsoF (n : Nat) (F G : List (List (List Int))) (p : List Int) : Prop :=
  (Permuted p ∧ p.length = n) ∧ ∀ k : Nat, k < F.length → ∀ x y : Int, InN n x → InN n y → nth p (val2 (F.getD k []) x y) = val2 (G.getD k []) (nth p x) (nth p y)
/-- The tables' values are elements. -/
def Tabs (n : Nat) (F : List (List (List Int))) : Prop := ∀ k : Nat, k < F.length → ∀ x y : Int, InN n x → InN n y → InN n (val2 (F.getD k []) x y)
/-- The state of a partial map. -/
structure Mp (n : Nat) (im : List Int) (us : List Bool) (st : List Int) : Prop where
  imL : im.length = n
  usL : us.length = n
  nodup : st.Nodup
  mem : ∀ x, x ∈ st ↔ InN n x ∧ 0 ≤ nth im x
  rng : ∀ x, InN n x → -1 ≤ nth im x ∧ nth im x < n
  inj : ∀ x y, InN n x → InN n y → 0 ≤ nth im x → nth im x = nth im y → x = y
  use : ∀ v, InN n v → (nthB us v = true ↔ ∃ x, InN n x ∧ nth im x = v)
/-- p goes on with the partial map. -/
def Goes (n : Nat) (im p : List Int) : Prop := ∀ x, InN n x → 0 ≤ nth im x → nth p x = nth im x
/-- The values at two elements are kept. -/
def Ver (F G : List (List (List Int))) (im : List Int) (k : Nat) (y z : Int) : Prop := 0 ≤ nth im (val2 (F.getD k []) y z) ∧ nth im (val2 (F.getD k []) y z) = val2 (G.getD k []) (nth im y) (nth im z)
def VerA (F G : List (List (List Int))) (im : List Int) (y z : Int) : Prop := ∀ k : Nat, k < F.length → Ver F G im k y z ∧ Ver F G im k z y
/-- im' knows all that im knows. -/
def More (n : Nat) (im im' : List Int) : Prop := ∀ x, InN n x → 0 ≤ nth im x → nth im' x = nth im x
theorem More.refl (n : Nat) (im : List Int) : More n im im := fun _ _ _ => rfl
theorem More.trans {n : Nat} {a b c : List Int} (h : More n a b) (k : More n b c) : More n a c := fun x hx h0 => by
  have e := h x hx h0
  rw [k x hx (by rw [e]; exact h0), e]
theorem Ver.more {n : Nat} {F G : List (List (List Int))} {im im' : List Int} {k : Nat} {y z : Int} (h : Ver F G im k y z) (hm : More n im im') (ht : Tabs n F) (hk : k < F.length) (hy : InN n y) (hz : InN n z) (y0 : 0 ≤ nth im y) (z0 : 0 ≤ nth im z) : Ver F G im' k y z := by
  have e := hm _ (ht k hk y z hy hz) h.1
  unfold Ver
  rw [e, hm y hy y0, hm z hz z0]
  exact h
theorem VerA.more {n : Nat} {F G : List (List (List Int))} {im im' : List Int} {y z : Int} (h : VerA F G im y z) (hm : More n im im') (ht : Tabs n F) (hy : InN n y) (hz : InN n z) (y0 : 0 ≤ nth im y) (z0 : 0 ≤ nth im z) : VerA F G im' y z := fun k hk =>
  ⟨(h k hk).1.more hm ht hk hy hz y0 z0, (h k hk).2.more hm ht hk hz hy z0 y0⟩
theorem VerA.symm {F G : List (List (List Int))} {im : List Int} {y z : Int} (h : VerA F G im y z) : VerA F G im z y := fun k hk => ⟨(h k hk).2, (h k hk).1⟩

/-- What 'assign x v' leaves: b is its answer. -/
structure Asg (n : Nat) (F G : List (List (List Int))) (im st : List Int) (x v : Int) (b : Bool) (im' : List Int) (us' : List Bool) (st' : List Int) : Prop where
  mp : Mp n im' us' st'
  pre : st <+: st'
  more : More n im im'
  nec : ∀ p, IsoF n F G p → Goes n im p → nth p x = v → b = true ∧ Goes n im' p
  val : b = true → nth im' x = v
  ver : b = true → ∀ y ∈ st', y ∉ st → ∀ z ∈ st', VerA F G im' y z

theorem Asg.known {n : Nat} {F G : List (List (List Int))} {im : List Int} {us : List Bool} {st : List Int} {x v : Int} (h : Mp n im us st) (hx : InN n x) (h0 : 0 ≤ nth im x) : Asg n F G im st x v (nth im x == v) im us st :=
  ⟨h, List.prefix_rfl, More.refl _ _, fun p _ hg e => ⟨by rw [← hg x hx h0, e]; simp, hg⟩, fun e => by simpa using e, fun _ y hy hn => absurd hy hn⟩
theorem Asg.used {n : Nat} {F G : List (List (List Int))} {im : List Int} {us : List Bool} {st : List Int} {x v : Int} (h : Mp n im us st) (hx : InN n x) (hv : InN n v) (h0 : nth im x < 0) (hu : nthB us v = true) : Asg n F G im st x v false im us st := by
  refine ⟨h, List.prefix_rfl, More.refl _ _, fun p hp hg e => ?_, fun e => by simp at e, fun e => by simp at e⟩
  exfalso
  obtain ⟨y, hy, hyv⟩ := (h.use v hv).1 hu
  have h1 : nth p y = v := by rw [hg y hy (by rw [hyv]; exact hv.1), hyv]
  have h2 : y = x := hp.1.1.inj (x := y) (y := x) hy.1 (by rw [hp.1.2]; exact hy.2) hx.1 (by rw [hp.1.2]; exact hx.2) (by rw [h1, e])
  subst h2
  have := hv.1
  omega
/-- x is led to v. -/
theorem Mp.put {n : Nat} {im : List Int} {us : List Bool} {st : List Int} {x v : Int} (h : Mp n im us st) (hx : InN n x) (hv : InN n v) (h0 : nth im x < 0) (hu : nthB us v = false) :
    Mp n (im.set x.toNat v) (us.set v.toNat true) (st ++ [x]) ∧ More n im (im.set x.toNat v) ∧ ∀ p, Goes n im p → nth p x = v → Goes n (im.set x.toNat v) p := by
  have hset : ∀ y, InN n y → nth (im.set x.toNat v) y = if y = x then v else nth im y := fun y hy => nth_set _ _ _ _ hx.1 (by rw [h.imL]; exact hx.2) hy.1
  have hnv : ∀ y, InN n y → nth im y ≠ v := fun y hy e => by
    have := (h.use v hv).2 ⟨y, hy, e⟩
    rw [hu] at this; cases this
  refine ⟨⟨by simpa using h.imL, by simpa using h.usL, ?_, ?_, ?_, ?_, ?_⟩, ?_, ?_⟩
  · rw [List.nodup_append]
    exact ⟨h.nodup, by simp, fun a ha b hb e => by simp at hb; subst hb; subst e; have := ((h.mem a).1 ha).2; omega⟩
  · intro y
    rw [List.mem_append, List.mem_singleton, h.mem]
    constructor
    · rintro (⟨h1, h2⟩ | rfl)
      · refine ⟨h1, ?_⟩
        rw [hset y h1]
        split
        · exact hv.1
        · exact h2
      · exact ⟨hx, by rw [hset y hx, if_pos rfl]; exact hv.1⟩
    · rintro ⟨h1, h2⟩
      rw [hset y h1] at h2
      by_cases e : y = x
      · exact .inr e
      · rw [if_neg e] at h2; exact .inl ⟨h1, h2⟩
  · intro y hy
    rw [hset y hy]
    split
    · exact ⟨by have := hv.1; omega, hv.2⟩
    · exact h.rng y hy
  · intro y z hy hz hy0 e
    rw [hset y hy] at hy0 e
    rw [hset z hz] at e
    by_cases e1 : y = x <;> by_cases e2 : z = x
    · rw [e1, e2]
    · rw [if_pos e1, if_neg e2] at e; exact absurd e.symm (hnv z hz)
    · rw [if_neg e1, if_pos e2] at e; exact absurd e (hnv y hy)
    · rw [if_neg e1, if_neg e2] at e; rw [if_neg e1] at hy0; exact h.inj y z hy hz hy0 e
  · intro u hu'
    rw [nthB_set _ _ _ _ hv.1 (by rw [h.usL]; exact hv.2) hu'.1]
    by_cases e : u = v
    · rw [if_pos e]
      exact ⟨fun _ => ⟨x, hx, by rw [hset x hx, if_pos rfl, e]⟩, fun _ => rfl⟩
    · rw [if_neg e, h.use u hu']
      constructor
      · rintro ⟨y, hy, e2⟩
        refine ⟨y, hy, ?_⟩
        rw [hset y hy, if_neg]
        · exact e2
        · intro e3; subst e3; rw [e2] at h0; have := hu'.1; omega
      · rintro ⟨y, hy, e2⟩
        rw [hset y hy] at e2
        by_cases e3 : y = x
        · rw [if_pos e3] at e2; exact absurd e2.symm e
        · rw [if_neg e3] at e2; exact ⟨y, hy, e2⟩
  · intro y hy hy0
    rw [hset y hy, if_neg]
    intro e; subst e; omega
  · intro p hg e y hy hy0
    rw [hset y hy] at hy0 ⊢
    by_cases e1 : y = x
    · rw [if_pos e1, e1]; exact e
    · rw [if_neg e1] at hy0 ⊢; exact hg y hy hy0

/-- The loop behind it: x is new (its place in st is behind st0), the elements behind it are done, and of x itself the first i elements and k tables. -/
structure Lp (n : Nat) (F G : List (List (List Int))) (im0 st0 : List Int) (x v : Int) (i k : Nat) (half : Bool) (im : List Int) (us : List Bool) (st : List Int) : Prop where
  mp : Mp n im us st
  pre : (st0 ++ [x]) <+: st
  more : More n im0 im
  nec : ∀ p, IsoF n F G p → Goes n im0 p → nth p x = v → Goes n im p
  val : nth im x = v
  old : ∀ y ∈ st, y ∉ st0 → y ≠ x → ∀ z ∈ st, VerA F G im y z
  row : ∀ j : Nat, j < i → j < st.length → VerA F G im x (nth st j)
  now : ∀ k' : Nat, k' < k → k' < F.length → Ver F G im k' x (nth st i) ∧ Ver F G im k' (nth st i) x
  hlf : half = true → Ver F G im k x (nth st i)
theorem Lp.start {n : Nat} {F G : List (List (List Int))} {im : List Int} {us : List Bool} {st : List Int} {x v : Int} (h : Mp n im us st) (hx : InN n x) (hv : InN n v) (h0 : nth im x < 0) (hu : nthB us v = false) :
    Lp n F G im st x v 0 0 false (im.set x.toNat v) (us.set v.toNat true) (st ++ [x]) := by
  obtain ⟨h1, h2, h3⟩ := h.put hx hv h0 hu
  refine ⟨h1, List.prefix_rfl, h2, fun p _ hg e => h3 p hg e, ?_, fun y hy hn hne => ?_, fun j hj => by omega, fun k hk => by omega, fun e => by simp at e⟩
  · rw [nth_set _ _ _ _ hx.1 (by rw [h.imL]; exact hx.2) hx.1, if_pos rfl]
  · rcases List.mem_append.1 hy with e | e
    · exact absurd e hn
    · simp at e; exact absurd e hne
theorem pre_nth {a b : List Int} (h : a <+: b) {i : Nat} (hi : i < a.length) : nth b i = nth a i := by
  obtain ⟨r, rfl⟩ := h
  exact nth_append_left _ _ _ (by omega) (by omega)
theorem nth_memN {l : List Int} {i : Nat} (h : i < l.length) : nth l i ∈ l := nth_mem (by omega) (by omega)
variable {n : Nat} {F G : List (List (List Int))} {im0 st0 im : List Int} {us : List Bool} {st : List Int} {x v : Int} {i k : Nat} {half : Bool}
theorem Lp.mem_x (h : Lp n F G im0 st0 x v i k half im us st) : x ∈ st := h.pre.subset (by simp)
/-- An assignment within the loop: of x and the element number i, or the other way round. -/
theorem Lp.sub (h : Lp n F G im0 st0 x v i k half im us st) (ht : Tabs n F) {a u : Int} {b : Bool} {im' : List Int} {us' : List Bool} {st' : List Int} (hi : i < st.length) (hk : k < F.length) (hb : b = true) (ha : Asg n F G im st a u b im' us' st')
    (hn : ∀ p, IsoF n F G p → Goes n im p → nth p a = u) : Lp n F G im0 st0 x v i k half im' us' st' := by
  have hpre := h.pre.trans ha.pre
  have hmem : ∀ y ∈ st, InN n y ∧ 0 ≤ nth im y := fun y hy => (h.mp.mem y).1 hy
  have hmx := hmem x h.mem_x
  have hni : nth st' i = nth st i := pre_nth ha.pre hi
  have hmi := hmem _ (nth_memN hi)
  refine ⟨ha.mp, hpre, h.more.trans ha.more, fun p hp hg e => ?_, ?_, ?_, ?_, ?_, ?_⟩
  · have h1 := h.nec p hp hg e
    exact (ha.nec p hp h1 (hn p hp h1)).2
  · rw [ha.more x hmx.1 hmx.2]; exact h.val
  · intro y hy hn0 hne z hz
    by_cases hys : y ∈ st
    · by_cases hzs : z ∈ st
      · exact (h.old y hys hn0 hne z hzs).more ha.more ht (hmem y hys).1 (hmem z hzs).1 (hmem y hys).2 (hmem z hzs).2
      · exact (ha.ver hb z hz hzs y hy).symm
    · exact ha.ver hb y hy hys z hz
  · intro j hj hjl
    have hjs : j < st.length := by omega
    rw [pre_nth ha.pre hjs]
    have := hmem _ (nth_memN hjs)
    exact (h.row j hj hjs).more ha.more ht hmx.1 this.1 hmx.2 this.2
  · intro k' hk' hkl
    rw [hni]
    exact ⟨(h.now k' hk' hkl).1.more ha.more ht hkl hmx.1 hmi.1 hmx.2 hmi.2, (h.now k' hk' hkl).2.more ha.more ht hkl hmi.1 hmx.1 hmi.2 hmx.2⟩
  · intro e
    rw [hni]
    exact (h.hlf e).more ha.more ht hk hmx.1 hmi.1 hmx.2 hmi.2
/-- A failed assignment within the loop: there is none that goes on. -/
theorem Lp.fail (h : Lp n F G im0 st0 x v i k half im us st) {a u : Int} {im' : List Int} {us' : List Bool} {st' : List Int} (ha : Asg n F G im st a u false im' us' st')
    (hn : ∀ p, IsoF n F G p → Goes n im p → nth p a = u) : Asg n F G im0 st0 x v false im' us' st' := by
  refine ⟨ha.mp, ?_, h.more.trans ha.more, fun p hp hg e => ?_, fun e => by simp at e, fun e => by simp at e⟩
  · exact (List.prefix_append st0 [x]).trans (h.pre.trans ha.pre)
  · have h1 := h.nec p hp hg e
    have := (ha.nec p hp h1 (hn p hp h1)).1
    cases this
/-- Whatever p goes on: it leads the value at two known elements to the value at their images. -/
theorem nec_val (hM : Mp n im us st) {y z : Int} (hy : y ∈ st) (hz : z ∈ st) (hk : k < F.length) : ∀ p, IsoF n F G p → Goes n im p → nth p (val2 (F.getD k []) y z) = val2 (G.getD k []) (nth im y) (nth im z) := fun p hp hg => by
  have h1 := (hM.mem y).1 hy
  have h2 := (hM.mem z).1 hz
  rw [hp.2 k hk y z h1.1 h2.1, hg y h1.1 h1.2, hg z h2.1 h2.2]
/-- The first half of a step. -/
theorem Lp.first (h : Lp n F G im0 st0 x v i k false im us st) (ht : Tabs n F) {b : Bool} {im' : List Int} {us' : List Bool} {st' : List Int} (hi : i < st.length) (hk : k < F.length) (hb : b = true) (htg : InN n (val2 (G.getD k []) v (nth im (nth st i))))
    (ha : Asg n F G im st (val2 (F.getD k []) x (nth st i)) (val2 (G.getD k []) v (nth im (nth st i))) b im' us' st') : Lp n F G im0 st0 x v i k true im' us' st' := by
  have hn := nec_val (F := F) (G := G) h.mp h.mem_x (nth_memN hi) hk
  rw [h.val] at hn
  have h2 := h.sub ht hi hk hb ha hn
  have hmi := (h.mp.mem _).1 (nth_memN hi)
  refine ⟨h2.mp, h2.pre, h2.more, h2.nec, h2.val, h2.old, h2.row, h2.now, fun _ => ?_⟩
  have e := ha.val hb
  unfold Ver
  rw [pre_nth ha.pre hi, e, h2.val, ha.more _ hmi.1 hmi.2]
  exact ⟨htg.1, rfl⟩
/-- The second half. -/
theorem Lp.second (h : Lp n F G im0 st0 x v i k true im us st) (ht : Tabs n F) {b : Bool} {im' : List Int} {us' : List Bool} {st' : List Int} (hi : i < st.length) (hk : k < F.length) (hb : b = true) (htg : InN n (val2 (G.getD k []) (nth im (nth st i)) v))
    (ha : Asg n F G im st (val2 (F.getD k []) (nth st i) x) (val2 (G.getD k []) (nth im (nth st i)) v) b im' us' st') : Lp n F G im0 st0 x v i (k + 1) false im' us' st' := by
  have hn := nec_val (F := F) (G := G) h.mp (nth_memN hi) h.mem_x hk
  rw [h.val] at hn
  have h2 := h.sub ht hi hk hb ha hn
  have hmi := (h.mp.mem _).1 (nth_memN hi)
  refine ⟨h2.mp, h2.pre, h2.more, h2.nec, h2.val, h2.old, h2.row, fun k' hk' hkl => ?_, fun e => by simp at e⟩
  rcases Nat.lt_or_ge k' k with e | e
  · exact h2.now k' e hkl
  · have e3 : k' = k := by omega
    subst e3
    refine ⟨h2.hlf rfl, ?_⟩
    have e := ha.val hb
    unfold Ver
    rw [pre_nth ha.pre hi, e, h2.val, ha.more _ hmi.1 hmi.2]
    exact ⟨htg.1, rfl⟩
theorem Lp.next (h : Lp n F G im0 st0 x v i F.length false im us st) : Lp n F G im0 st0 x v (i + 1) 0 false im us st := by
  refine ⟨h.mp, h.pre, h.more, h.nec, h.val, h.old, fun j hj hjl => ?_, fun k' hk' => by omega, fun e => by simp at e⟩
  rcases Nat.lt_or_ge j i with e | e
  · exact h.row j e hjl
  · have e2 : j = i := by omega
    subst e2
    exact fun k' hk' => h.now k' hk' hk'
theorem Lp.done (h : Lp n F G im0 st0 x v i 0 false im us st) (hi : st.length ≤ i) : Asg n F G im0 st0 x v true im us st := by
  refine ⟨h.mp, (List.prefix_append st0 [x]).trans h.pre, h.more, fun p hp hg e => ⟨rfl, h.nec p hp hg e⟩, fun _ => h.val, fun _ y hy hn z hz => ?_⟩
  by_cases e : y = x
  · subst e
    obtain ⟨j, hj, rfl⟩ := List.getElem_of_mem hz
    have := h.row j (by omega) hj
    rwa [nth_nat _ _ hj] at this
  · exact h.old y hy hn e z hz
/-- All elements have images, and all values are kept: a map that leads F to G. -/
theorem Mp.full (h : Mp n im us st) (hf : ∀ x, InN n x → 0 ≤ nth im x) (hv : ∀ y ∈ st, ∀ z ∈ st, VerA F G im y z) : IsoF n F G im := by
  have hall : ∀ x, InN n x → x ∈ st := fun x hx => (h.mem x).2 ⟨hx, hf x hx⟩
  refine ⟨⟨⟨?_, fun y hy => ?_⟩, h.imL⟩, fun k hk x y hx hy => ((hv x (hall x hx) y (hall y hy)) k hk).1.2⟩
  · rw [List.nodup_iff_pairwise_ne, List.pairwise_iff_getElem]
    intro a b ha hb hab e
    have ha' : InN n (a : Int) := ⟨by omega, by rw [h.imL] at ha; omega⟩
    have hb' : InN n (b : Int) := ⟨by omega, by rw [h.imL] at hb; omega⟩
    have := h.inj a b ha' hb' (hf _ ha') (by rw [nth_nat _ _ ha, nth_nat _ _ hb]; exact e)
    omega
  · obtain ⟨a, ha, rfl⟩ := List.getElem_of_mem hy
    have ha' : InN n (a : Int) := ⟨by omega, by rw [h.imL] at ha; omega⟩
    have h1 := hf _ ha'
    have h2 := (h.rng _ ha').2
    rw [nth_nat _ _ ha] at h1 h2
    rw [h.imL]; exact ⟨h1, h2⟩
/-- What is done is taken back: the state is what it was. -/
theorem undo_eq {im' : List Int} {us' : List Bool} {st' : List Int} (h : Mp n im us st) (h' : Mp n im' us' st') (hp : st <+: st') (hm : More n im im') {im2 : List Int} {us2 : List Bool}
    (e1 : im2.length = n) (e2 : ∀ y, InN n y → nth im2 y = if y ∈ st'.drop st.length then -1 else nth im' y) (e3 : us2.length = n) (e4 : ∀ u, InN n u → nthB us2 u = if ∃ y ∈ st'.drop st.length, nth im' y = u then false else nthB us' u) : im2 = im ∧ us2 = us := by
  obtain ⟨r, rfl⟩ := hp
  have hd : (st ++ r).drop st.length = r := by simp
  rw [hd] at e2 e4
  have hnd := List.nodup_append.1 h'.nodup
  have himg : ∀ y, InN n y → y ∉ r → nth im' y = nth im y := fun y hy hn => by
    rcases Int.lt_or_le (nth im y) 0 with h0 | h0
    · have hns : y ∉ st ++ r := by
        intro hin
        rcases List.mem_append.1 hin with h1 | h1
        · have := ((h.mem y).1 h1).2; omega
        · exact hn h1
      have h1 : ¬ 0 ≤ nth im' y := fun h0' => hns ((h'.mem y).2 ⟨hy, h0'⟩)
      have h2 := (h.rng y hy).1
      have h3 := (h'.rng y hy).1
      omega
    · exact hm y hy h0
  have hr : ∀ y ∈ r, nth im y < 0 := fun y hy => by
    rcases Int.lt_or_le (nth im y) 0 with h0 | h0
    · exact h0
    · have hyr := ((h'.mem y).1 (List.mem_append_right _ hy)).1
      exact absurd rfl (hnd.2.2 y ((h.mem y).2 ⟨hyr, h0⟩) y hy)
  constructor
  · refine ext_nth (by rw [e1, h.imL]) fun j hj => ?_
    have hj' : InN n (j : Int) := ⟨by omega, by rw [e1] at hj; omega⟩
    rw [e2 _ hj']
    by_cases hin : (j : Int) ∈ r
    · rw [if_pos hin]
      have := hr _ hin
      have := (h.rng _ hj').1
      omega
    · rw [if_neg hin]; exact himg _ hj' hin
  · apply List.ext_getElem (by rw [e3, h.usL])
    intro j h1 h2
    have hj' : InN n (j : Int) := ⟨by omega, by rw [e3] at h1; omega⟩
    have e := e4 _ hj'
    have g1 : nthB us2 j = us2[j] := by simp [nthB, h1]
    have g2 : nthB us j = us[j] := by simp [nthB, h2]
    rw [← g1, ← g2, e]
    by_cases hin : ∃ y ∈ r, nth im' y = (j : Int)
    · rw [if_pos hin]
      obtain ⟨y, hy, hyj⟩ := hin
      cases hb : nthB us (j : Int)
      · rfl
      · exfalso
        obtain ⟨z, hz, hzj⟩ := (h.use _ hj').1 hb
        have hyr := ((h'.mem y).1 (List.mem_append_right _ hy)).1
        have hz' : nth im' z = (j : Int) := by rw [hm z hz (by rw [hzj]; omega), hzj]
        have := h'.inj y z hyr hz (by rw [hyj]; omega) (by rw [hyj, hz'])
        subst this
        have := hr y hy
        omega
    · rw [if_neg hin]
      have hiff : nthB us' (j : Int) = true ↔ nthB us (j : Int) = true := by
        rw [h'.use _ hj', h.use _ hj']
        constructor
        · rintro ⟨y, hy, e5⟩
          have hnr : y ∉ r := fun h6 => hin ⟨y, h6, e5⟩
          exact ⟨y, hy, by rw [← himg y hy hnr]; exact e5⟩
        · rintro ⟨y, hy, e5⟩
          exact ⟨y, hy, by rw [hm y hy (by rw [e5]; omega), e5]⟩
      cases h7 : nthB us' (j : Int) <;> cases h8 : nthB us (j : Int) <;> simp_all
end Go.Proofs.Ytgmhnjccgldddaa

namespace Go.Proofs.Ytgmhnjccgldddaa
set_option linter.unusedVariables false
set_option linter.unusedSimpArgs false

/-- One step: a list is taken in if it is new. -/
def gStep (G : List (List Int)) (x : List Int) : List (List Int) := if x ∈ G then G else G ++ [x]
/-- What is found after t steps: step number i * m + k goes on from element number i with list number k. -/
def gAt (n : Nat) (L : List (List Int)) : Nat → List (List Int)
  | 0 => [iota n]
  | t + 1 => if t < (gAt n L t).length * L.length then gStep (gAt n L t) (thenL (row (gAt n L t) (t / L.length : Nat)) (row L (t % L.length : Nat))) else gAt n L t
/-- All that is found within a thousand elements' steps. -/
def gAll (n : Nat) (L : List (List Int)) : List (List Int) := gAt n L (1000 * L.length)
def gOk (n : Nat) (L : List (List Int)) : Bool := decide ((gAll n L).length ≤ 1000)

theorem gStep_len (G : List (List Int)) (x : List Int) : G.length ≤ (gStep G x).length ∧ (gStep G x).length ≤ G.length + 1 := by
  unfold gStep; split <;> simp
theorem gAt_len (n : Nat) (L : List (List Int)) (t : Nat) : (gAt n L t).length ≤ (gAt n L (t + 1)).length ∧ (gAt n L (t + 1)).length ≤ (gAt n L t).length + 1 := by
  simp only [gAt]
  split
  · exact gStep_len _ _
  · omega
theorem gAt_mono (n : Nat) (L : List (List Int)) (t : Nat) : ∀ s, (gAt n L t).length ≤ (gAt n L (t + s)).length
  | 0 => Nat.le_refl _
  | s + 1 => Nat.le_trans (gAt_mono n L t s) (gAt_len n L (t + s)).1
theorem gAt_pos (n : Nat) (L : List (List Int)) (t : Nat) : 0 < (gAt n L t).length := by
  have := gAt_mono n L 0 t
  simp [gAt] at this; omega
theorem gStep_pre (G : List (List Int)) (x : List Int) : ∃ r, gStep G x = G ++ r := by
  unfold gStep; split
  · exact ⟨[], by simp⟩
  · exact ⟨[x], rfl⟩
theorem gAt_pre (n : Nat) (L : List (List Int)) (t : Nat) : ∀ s, ∃ r, gAt n L (t + s) = gAt n L t ++ r
  | 0 => ⟨[], by simp⟩
  | s + 1 => by
    obtain ⟨r, hr⟩ := gAt_pre n L t s
    rw [← Nat.add_assoc]
    simp only [gAt]
    split
    · obtain ⟨r', hr'⟩ := gStep_pre (gAt n L (t + s)) (thenL (row (gAt n L (t + s)) ((t + s) / L.length : Nat)) (row L ((t + s) % L.length : Nat)))
      exact ⟨r ++ r', by rw [hr', hr, List.append_assoc]⟩
    · exact ⟨r, hr⟩
theorem gAt_row {n : Nat} {L : List (List Int)} {t i : Nat} (h : i < (gAt n L t).length) (s : Nat) : row (gAt n L (t + s)) i = row (gAt n L t) i := by
  obtain ⟨r, hr⟩ := gAt_pre n L t s
  have h2 : i < (gAt n L t ++ r).length := by simp; omega
  rw [hr, row_nat _ _ h2, row_nat _ _ h, List.getElem_append_left h]
theorem gAt_mem {n : Nat} {L : List (List Int)} {t : Nat} {x : List Int} (h : x ∈ gAt n L t) (s : Nat) : x ∈ gAt n L (t + s) := by
  obtain ⟨r, hr⟩ := gAt_pre n L t s
  rw [hr]; exact List.mem_append_left _ h
/-- No more is found behind the last element's steps. -/
theorem gAt_stop {n : Nat} {L : List (List Int)} {t : Nat} (h : (gAt n L t).length * L.length ≤ t) : ∀ s, gAt n L (t + s) = gAt n L t
  | 0 => rfl
  | s + 1 => by
    rw [← Nat.add_assoc]
    simp only [gAt]
    rw [gAt_stop h s, if_neg]
    omega
theorem gAll_stop {n : Nat} {L : List (List Int)} {t : Nat} (h : (gAt n L t).length * L.length ≤ t) (ht : t ≤ 1000 * L.length) : gAll n L = gAt n L t := by
  unfold gAll
  obtain ⟨s, hs⟩ : ∃ s, 1000 * L.length = t + s := ⟨1000 * L.length - t, by omega⟩
  rw [hs]; exact gAt_stop h s
/-- The end within the bound. -/
theorem g_ok {n : Nat} {L : List (List Int)} {i : Nat} (h : (gAt n L (i * L.length)).length = i) (hi : i ≤ 1000) : gOk n L = true ∧ gAll n L = gAt n L (i * L.length) := by
  have e := gAll_stop (n := n) (L := L) (t := i * L.length) (by rw [h]; exact Nat.le_refl _) (Nat.mul_le_mul_right _ hi)
  refine ⟨?_, e⟩
  unfold gOk
  rw [e, h]; simpa using hi
/-- One element too many. -/
theorem g_over {n : Nat} {L : List (List Int)} {t : Nat} (h : 1000 < (gAt n L t).length) (ht : t ≤ 1000 * L.length) : gOk n L = false := by
  obtain ⟨s, hs⟩ : ∃ s, 1000 * L.length = t + s := ⟨1000 * L.length - t, by omega⟩
  have := gAt_mono n L t s
  unfold gOk gAll
  rw [hs]; simp; omega
/-- The step that the loops do. -/
theorem gAt_next {n : Nat} {L : List (List Int)} {i k : Nat} (hk : k < L.length) (hi : i < (gAt n L (i * L.length + k)).length) :
    gAt n L (i * L.length + k + 1) = gStep (gAt n L (i * L.length + k)) (thenL (row (gAt n L (i * L.length + k)) i) (row L k)) := by
  have h0 : 0 < L.length := by omega
  have e1 : (i * L.length + k) / L.length = i := by rw [Nat.mul_comm, Nat.mul_add_div h0, Nat.div_eq_of_lt hk]; omega
  have e2 : (i * L.length + k) % L.length = k := by rw [Nat.mul_comm, Nat.mul_add_mod, Nat.mod_eq_of_lt hk]
  have hlt : i * L.length + k < (gAt n L (i * L.length + k)).length * L.length := by
    have : (i + 1) * L.length ≤ (gAt n L (i * L.length + k)).length * L.length := Nat.mul_le_mul_right _ hi
    rw [Nat.add_mul] at this; omega
  simp only [gAt]
  rw [if_pos hlt, e1, e2]

/-- What is found: lists without doubles, permutations, each made of the given ones. -/
structure Gr (n : Nat) (L : List (List Int)) (G : List (List Int)) : Prop where
  nodup : G.Nodup
  perm : ∀ p ∈ G, Permuted p ∧ p.length = n
  made : ∀ p ∈ G, ∀ x : Int, 0 ≤ x → x < n → Reach L x (nth p x)
theorem Gr.unit (n : Nat) (L : List (List Int)) : Gr n L [iota n] :=
  ⟨by simp, fun p hp => by simp at hp; subst hp; exact ⟨permuted_iota n, by simp⟩, fun p hp x h0 h1 => by simp at hp; subst hp; rw [nth_iota n x h0 h1]; exact .here⟩
theorem then_perm' {p q : List Int} (hp : Permuted p) (hq : Permuted q) (hl : p.length = q.length) : Permuted (thenL p q) := by
  refine ⟨?_, fun x hx => ?_⟩
  · unfold thenL
    refine List.pairwise_map.2 (List.Pairwise.imp_of_mem ?_ (List.nodup_iff_pairwise_ne.1 hp.1))
    intro a b ha hb hne e
    obtain ⟨a0, a1⟩ := hp.2 a ha
    obtain ⟨b0, b1⟩ := hp.2 b hb
    exact hne (hq.inj a0 (by omega) b0 (by omega) e)
  · unfold thenL at hx ⊢
    obtain ⟨y, hy, rfl⟩ := List.mem_map.1 hx
    obtain ⟨y0, y1⟩ := hp.2 y hy
    have := hq.lt y0 (by omega)
    simp only [List.length_map]; omega
theorem Gr.step {n : Nat} {L G : List (List Int)} (h : Gr n L G) (hs : SysOk n L) {g q : List Int} (hg : g ∈ G) (hq : q ∈ L) : Gr n L (gStep G (thenL g q)) := by
  unfold gStep
  split
  · exact h
  · rename_i hn
    obtain ⟨p1, l1⟩ := h.perm g hg
    obtain ⟨p2, l2⟩ := hs q hq
    refine ⟨?_, ?_, ?_⟩
    · rw [List.nodup_append]
      exact ⟨h.nodup, by simp, fun a ha b hb e => by simp at hb; subst hb; subst e; exact hn ha⟩
    · intro p hp
      rcases List.mem_append.1 hp with hp | hp
      · exact h.perm p hp
      · simp at hp; subst hp
        exact ⟨then_perm' p1 p2 (by omega), by simp [thenL, l1]⟩
    · intro p hp x h0 h1
      rcases List.mem_append.1 hp with hp | hp
      · exact h.made p hp x h0 h1
      · simp at hp; subst hp
        rw [nth_thenL _ _ _ h0 (by omega)]
        exact .step (h.made g hg x h0 h1) hq
theorem gAt_gr {n : Nat} {L : List (List Int)} (hs : SysOk n L) : ∀ t, Gr n L (gAt n L t)
  | 0 => Gr.unit n L
  | t + 1 => by
    have ih := gAt_gr hs t
    simp only [gAt]
    split
    · rename_i hlt
      have h0 : 0 < L.length := Nat.pos_of_ne_zero (by rintro e; rw [e] at hlt; omega)
      have h1 : t / L.length < (gAt n L t).length := (Nat.div_lt_iff_lt_mul h0).2 hlt
      have h2 := Nat.mod_lt t h0
      exact ih.step hs (row_mem (Int.natCast_nonneg _) (Int.ofNat_lt.2 h1)) (row_mem (Int.natCast_nonneg _) (Int.ofNat_lt.2 h2))
    · exact ih
/-- What is found at the end is closed. -/
theorem gAll_closed {n : Nat} {L : List (List Int)} (hok : gOk n L = true) {g q : List Int} (hg : g ∈ gAll n L) (hq : q ∈ L) : thenL g q ∈ gAll n L := by
  have hlen : (gAll n L).length ≤ 1000 := by simpa [gOk] using hok
  obtain ⟨i, hi, rfl⟩ := List.getElem_of_mem hg
  obtain ⟨k, hk, rfl⟩ := List.getElem_of_mem hq
  -- the step of i and k lies within the thousand elements' steps
  have key : ∀ t, i * L.length + k + 1 ≤ t → (∀ s, i < (gAt n L s).length → True) → i < (gAt n L (i * L.length + k)).length → thenL (row (gAt n L (i * L.length + k)) i) (row L k) ∈ gAt n L t := by
    intro t ht _ hi2
    obtain ⟨s, rfl⟩ : ∃ s, t = i * L.length + k + 1 + s := ⟨t - (i * L.length + k + 1), by omega⟩
    refine gAt_mem ?_ s
    rw [gAt_next hk hi2]
    unfold gStep
    split
    · assumption
    · simp
  have hT : i * L.length + k + 1 ≤ 1000 * L.length := by
    have : (i + 1) * L.length ≤ 1000 * L.length := Nat.mul_le_mul_right _ (by omega)
    rw [Nat.add_mul] at this; omega
  -- element i is there by then: else all had stopped
  have hi2 : i < (gAt n L (i * L.length + k)).length := by
    rcases Nat.lt_or_ge i (gAt n L (i * L.length + k)).length with h | h
    · exact h
    · exfalso
      have h1 : (gAt n L (i * L.length + k)).length * L.length ≤ i * L.length + k := Nat.le_trans (Nat.mul_le_mul_right _ h) (Nat.le_add_right _ _)
      have := gAll_stop h1 (by omega)
      rw [this] at hi; omega
  have e := key (1000 * L.length) hT (fun _ _ => trivial) hi2
  obtain ⟨s, hs⟩ : ∃ s, 1000 * L.length = i * L.length + k + s := ⟨1000 * L.length - (i * L.length + k), by omega⟩
  have er : row (gAll n L) i = row (gAt n L (i * L.length + k)) i := by unfold gAll; rw [hs]; exact gAt_row hi2 s
  rw [← er, row_nat _ _ hi, row_nat _ _ hk] at e
  exact e
theorem gAll_unit (n : Nat) (L : List (List Int)) : iota n ∈ gAll n L := by
  have := gAt_mem (n := n) (L := L) (t := 0) (x := iota n) (by simp [gAt]) (1000 * L.length)
  rwa [Nat.zero_add] at this
/-- The images of an element are those that the given lists lead to. -/
theorem gAll_images {n : Nat} {L : List (List Int)} (hs : SysOk n L) (hok : gOk n L = true) {x y : Int} (h0 : 0 ≤ x) (h1 : x < n) : (∃ g ∈ gAll n L, nth g x = y) ↔ Reach L x y := by
  constructor
  · rintro ⟨g, hg, rfl⟩
    exact (gAt_gr hs _).made g hg x h0 h1
  · intro h
    induction h with
    | here => exact ⟨iota n, gAll_unit n L, nth_iota n x h0 h1⟩
    | step _ hp ih =>
      obtain ⟨g, hg, e⟩ := ih
      refine ⟨thenL g _, gAll_closed hok hg hp, ?_⟩
      have := ((gAt_gr hs _).perm g hg).2
      rw [nth_thenL _ _ _ h0 (by omega), e]

/-! The ascending list. -/
def AscR (S : List (List Int)) : Prop := S.Pairwise fun p q => lexB p q = true
theorem ascR_eq : ∀ {S T : List (List Int)}, S.Perm T → AscR S → AscR T → S = T
  | [], T, hp, _, _ => (List.Perm.nil_eq hp)
  | a :: S, [], hp, _, _ => by have := hp.length_eq; simp at this
  | a :: S, b :: T, hp, h1, h2 => by
    have h1' := List.pairwise_cons.1 h1
    have h2' := List.pairwise_cons.1 h2
    have e : a = b := by
      have ha : a ∈ b :: T := hp.mem_iff.1 (by simp)
      have hb : b ∈ a :: S := hp.mem_iff.2 (by simp)
      rcases List.mem_cons.1 ha with ha | ha
      · exact ha
      · rcases List.mem_cons.1 hb with hb | hb
        · exact hb.symm
        · have x1 := h2'.1 a ha
          have x2 := h1'.1 b hb
          have := lexB_asymm x1
          rw [this] at x2; cases x2
    subst e
    rw [ascR_eq (List.perm_cons a |>.1 hp) h1'.2 h2'.2]
/-- The elements in ascending order. -/
def gSort (G : List (List Int)) : List (List Int) := G.mergeSort fun p q => !lexB q p
theorem gSort_perm (G : List (List Int)) : (gSort G).Perm G := List.mergeSort_perm _ _
theorem ascR_nodup {S : List (List Int)} (hn : S.Nodup) (h : S.Pairwise fun p q => (!lexB q p) = true) : AscR S := by
  refine List.Pairwise.imp₂ (R := fun p q => (!lexB q p) = true) (S := fun p q => p ≠ q) ?_ h (List.nodup_iff_pairwise_ne.1 hn)
  intro a b h1 h2
  cases e : lexB a b
  · have := lexB_total h2 e
    rw [this] at h1; cases h1
  · rfl
theorem gSort_asc {G : List (List Int)} (hn : G.Nodup) : AscR (gSort G) := by
  refine ascR_nodup ((gSort_perm G).nodup_iff.2 hn) ?_
  refine List.pairwise_mergeSort ?_ ?_ G
  · intro a b c h1 h2
    simp only [Bool.not_eq_true'] at *
    cases e : lexB c a
    · rfl
    · exfalso
      -- c < a; a ≤ b; b ≤ c
      rcases Classical.em (a = b) with rfl | hab
      · rw [e] at h2; cases h2
      · have x1 := lexB_total (Ne.symm hab) h1
        have x2 := lexB_trans e x1
        rw [x2] at h2; cases h2
  · intro a b
    cases e : lexB b a
    · simp
    · simp [lexB_asymm e]
theorem gSort_is {G S : List (List Int)} (hn : G.Nodup) (hp : S.Perm G) (hs : AscR S) : S = gSort G := ascR_eq (hp.trans (gSort_perm G).symm) hs (gSort_asc hn)
theorem mem_gSort {G : List (List Int)} {x : List Int} : x ∈ gSort G ↔ x ∈ G := (gSort_perm G).mem_iff
end Go.Proofs.Ytgmhnjccgldddaa

namespace Go.Proofs.Ytgmhnjccgldddaa
set_option linter.unusedVariables false
set_option linter.unusedSimpArgs false

open Classical in
/-- All maps that lead F to G and of which Q holds, in ascending order. -/
noncomputable def isoQ (n : Nat) (F G : List (List (List Int))) (Q : List Int → Prop) : List (List Int) := (allPerms n).filter fun p => decide (IsoF n F G p ∧ Q p)
theorem mem_isoQ {n : Nat} {F G : List (List (List Int))} {Q : List Int → Prop} {p : List Int} : p ∈ isoQ n F G Q ↔ IsoF n F G p ∧ Q p := by
  unfold isoQ
  rw [List.mem_filter, mem_allPerms]
  simp only [decide_eq_true_eq]
  exact ⟨fun h => h.2, fun h => ⟨h.1.1, h⟩⟩
theorem allPerms_asc (n : Nat) : AscR (allPerms n) := by
  refine List.pairwise_iff_getElem.2 fun i j hi hj hij => ?_
  have := allPerms_lt hij hj
  rwa [row_nat _ _ hi, row_nat _ _ hj] at this
theorem isoQ_asc (n : Nat) (F G : List (List (List Int))) (Q : List Int → Prop) : AscR (isoQ n F G Q) := (allPerms_asc n).filter _
theorem asc_nodup {S : List (List Int)} (h : AscR S) : S.Nodup := List.nodup_iff_pairwise_ne.2 (h.imp fun h e => by rw [e, lexB_irrefl] at h; cases h)
theorem asc_ext {S T : List (List Int)} (h1 : AscR S) (h2 : AscR T) (h : ∀ p, p ∈ S ↔ p ∈ T) : S = T := by
  refine ascR_eq ?_ h1 h2
  have n1 := asc_nodup h1
  have n2 := asc_nodup h2
  rcases Nat.le_total T.length S.length with e | e
  · exact perm_of_sub n1 (fun x hx => (h x).1 hx) e
  · exact (perm_of_sub n2 (fun x hx => (h x).2 hx) e).symm
theorem isoQ_none {n : Nat} {F G : List (List (List Int))} {Q : List Int → Prop} (h : ∀ p, IsoF n F G p → ¬ Q p) : isoQ n F G Q = [] := by
  rw [List.eq_nil_iff_forall_not_mem]
  intro p hp
  have := mem_isoQ.1 hp
  exact h p this.1 this.2
theorem isoQ_congr {n : Nat} {F G : List (List (List Int))} {Q R : List Int → Prop} (h : ∀ p, IsoF n F G p → (Q p ↔ R p)) : isoQ n F G Q = isoQ n F G R :=
  asc_ext (isoQ_asc _ _ _ _) (isoQ_asc _ _ _ _) fun p => by
    rw [mem_isoQ, mem_isoQ]
    exact ⟨fun h1 => ⟨h1.1, (h p h1.1).1 h1.2⟩, fun h1 => ⟨h1.1, (h p h1.1).2 h1.2⟩⟩
theorem isoQ_one {n : Nat} {F G : List (List (List Int))} {Q : List Int → Prop} {q : List Int} (hq : IsoF n F G q) (h : ∀ p, IsoF n F G p → (Q p ↔ p = q)) : isoQ n F G Q = [q] :=
  asc_ext (isoQ_asc _ _ _ _) (by simp [AscR]) fun p => by
    rw [mem_isoQ]
    constructor
    · intro h1; simp [(h p h1.1).1 h1.2]
    · intro h1
      simp at h1; subst h1
      exact ⟨hq, (h p hq).2 rfl⟩
/-- The part with images less than k of element x. -/
noncomputable def isoLt (n : Nat) (F G : List (List (List Int))) (Q : List Int → Prop) (x : Int) (k : Nat) : List (List Int) := isoQ n F G fun p => Q p ∧ nth p x < k
theorem isoLt_zero {n : Nat} {F G : List (List (List Int))} {Q : List Int → Prop} {x : Int} (hx : InN n x) : isoLt n F G Q x 0 = [] :=
  isoQ_none fun p hp h => by
    have := (hp.1.1.lt (x := x) hx.1 (by rw [hp.1.2]; exact hx.2)).1
    have := h.2
    omega
theorem isoLt_all {n : Nat} {F G : List (List (List Int))} {Q : List Int → Prop} {x : Int} (hx : InN n x) : isoLt n F G Q x n = isoQ n F G Q :=
  isoQ_congr fun p hp => by
    have := (hp.1.1.lt (x := x) hx.1 (by rw [hp.1.2]; exact hx.2)).2
    rw [hp.1.2] at this
    exact ⟨fun h => h.1, fun h => ⟨h, this⟩⟩
/-- All elements ahead of x have one image each under all maps of Q: the maps with image k of x come behind those with less. -/
theorem isoLt_succ {n : Nat} {F G : List (List (List Int))} {Q : List Int → Prop} {x k : Nat} (hx : x < n) (hq : ∀ p q, IsoF n F G p → IsoF n F G q → Q p → Q q → ∀ y : Nat, y < x → nth p y = nth q y) :
    isoLt n F G Q x (k + 1) = isoLt n F G Q x k ++ isoQ n F G (fun p => Q p ∧ nth p x = k) := by
  refine asc_ext (isoQ_asc _ _ _ _) (List.pairwise_append.2 ⟨isoQ_asc _ _ _ _, isoQ_asc _ _ _ _, fun p hp q hq' => ?_⟩) fun p => ?_
  · obtain ⟨h1, h2, h3⟩ := mem_isoQ.1 hp
    obtain ⟨g1, g2, g3⟩ := mem_isoQ.1 hq'
    have e1 := h1.1.2
    have e2 := g1.1.2
    rw [lexB_at (k := x) (by omega) (by omega) ?_ (by omega)]
    · simp; omega
    · refine ext_nth (by simp; omega) fun y hy => ?_
      simp only [List.length_take] at hy
      have hy' : y < x := by omega
      have t1 : nth (p.take x) y = nth p y := by
        rw [nth_nat _ _ (by simp; omega), nth_nat _ _ (by omega), List.getElem_take]
      have t2 : nth (q.take x) y = nth q y := by
        rw [nth_nat _ _ (by simp; omega), nth_nat _ _ (by omega), List.getElem_take]
      rw [t1, t2]
      exact hq p q h1 g1 h2 g2 y hy'
  · rw [List.mem_append]
    unfold isoLt
    rw [mem_isoQ, mem_isoQ, mem_isoQ]
    constructor
    · rintro ⟨h1, h2, h3⟩
      by_cases e : nth p x = k
      · exact .inr ⟨h1, h2, e⟩
      · exact .inl ⟨h1, h2, by omega⟩
    · rintro (⟨h1, h2, h3⟩ | ⟨h1, h2, h3⟩)
      · exact ⟨h1, h2, by omega⟩
      · exact ⟨h1, h2, by omega⟩

/-! The program's search. -/
/-- The maps that go on with a partial map. -/
noncomputable def isoM (n : Nat) (F G : List (List (List Int))) (im : List Int) : List (List Int) := isoQ n F G (Goes n im)
/-- The first element without an image. -/
def FirstFree (n : Nat) (im : List Int) (x : Nat) : Prop := x < n ∧ nth im x = -1 ∧ ∀ y : Nat, y < x → 0 ≤ nth im y
theorem isoM_part {n : Nat} {F G : List (List (List Int))} {im : List Int} {x k : Nat} (hx : FirstFree n im x) :
    isoLt n F G (Goes n im) x (k + 1) = isoLt n F G (Goes n im) x k ++ isoQ n F G (fun p => Goes n im p ∧ nth p x = k) :=
  isoLt_succ hx.1 fun p q _ _ h1 h2 y hy => by
    have hi : InN n (y : Int) := ⟨by omega, by have := hx.1; omega⟩
    rw [h1 y hi (hx.2.2 y hy), h2 y hi (hx.2.2 y hy)]
theorem isoM_used {n : Nat} {F G : List (List (List Int))} {im : List Int} {us : List Bool} {st : List Int} {x k : Nat} (h : Mp n im us st) (hx : FirstFree n im x) (hk : k < n) (hu : nthB us k = true) : isoQ n F G (fun p => Goes n im p ∧ nth p x = k) = [] :=
  isoQ_none fun p hp hg => by
    have := (Asg.used (F := F) (G := G) h (x := (x : Int)) (v := (k : Int)) ⟨by omega, by have := hx.1; omega⟩ ⟨by omega, by omega⟩ (by have := hx.2.1; omega) hu).nec p hp hg.1 hg.2
    cases this.1
theorem isoM_asg {n : Nat} {F G : List (List (List Int))} {im : List Int} {st : List Int} {x k : Nat} {b : Bool} {im' : List Int} {us' : List Bool} {st' : List Int} (hx : x < n) (h : Asg n F G im st x k b im' us' st') :
    isoQ n F G (fun p => Goes n im p ∧ nth p x = k) = if b then isoM n F G im' else [] := by
  cases b
  · simp only [Bool.false_eq_true, if_false]
    exact isoQ_none fun p hp hg => by have := (h.nec p hp hg.1 hg.2).1; cases this
  · simp only [if_true]
    refine isoQ_congr fun p hp => ⟨fun hg => (h.nec p hp hg.1 hg.2).2, fun hg => ⟨fun y hy h0 => ?_, ?_⟩⟩
    · have e := h.more y hy h0
      rw [← e]; exact hg y hy (by rw [e]; exact h0)
    · have e := h.val rfl
      have := hg x ⟨by omega, by omega⟩ (by rw [e]; omega)
      rw [this, e]
theorem isoM_full {n : Nat} {F G : List (List (List Int))} {im : List Int} {us : List Bool} {st : List Int} (h : Mp n im us st) (hf : ∀ x, InN n x → 0 ≤ nth im x) (hv : ∀ y ∈ st, ∀ z ∈ st, VerA F G im y z) : isoM n F G im = [im] :=
  isoQ_one (h.full hf hv) fun p hp => by
    constructor
    · intro hg
      refine ext_nth (by rw [hp.1.2, h.imL]) fun j hj => ?_
      have hj' : InN n (j : Int) := ⟨by omega, by rw [hp.1.2] at hj; omega⟩
      exact hg _ hj' (hf _ hj')
    · rintro rfl y hy h0; rfl
/-- All maps. -/
noncomputable def isoAll (n : Nat) (F G : List (List (List Int))) : List (List Int) := isoQ n F G fun _ => True
theorem isoM_start {n : Nat} {F G : List (List (List Int))} : isoM n F G (List.replicate n (-1)) = isoAll n F G :=
  isoQ_congr fun p _ => ⟨fun _ => trivial, fun _ y hy h0 => by
    have e : nth (List.replicate n (-1)) y = -1 := by
      have : y.toNat < n := by have := hy.2; have := hy.1; omega
      simp [nth, this]
    omega⟩
theorem Mp.start (n : Nat) : Mp n (List.replicate n (-1)) (List.replicate n false) [] := by
  have e : ∀ y, InN n y → nth (List.replicate n (-1)) y = -1 := fun y hy => by
    have : y.toNat < n := by have := hy.2; have := hy.1; omega
    simp [nth, this]
  refine ⟨by simp, by simp, by simp, fun y => ⟨fun h => by simp at h, fun h => by have := e y h.1; omega⟩, fun y hy => by rw [e y hy]; have := hy.1; have := hy.2; omega, fun y z hy _ h0 => by rw [e y hy] at h0; omega, fun u hu => ?_⟩
  have h1 : nthB (List.replicate n false) u = false := by
    have : u.toNat < n := by have := hu.2; have := hu.1; omega
    simp [nthB, this]
  rw [h1]
  constructor
  · intro h; cases h
  · rintro ⟨y, hy, e2⟩
    rw [e y hy] at e2
    have := hu.1; omega

/-! The reference's search. -/
/-- The maps that begin with a list. -/
noncomputable def isoP (n : Nat) (F G : List (List (List Int))) (f : List Int) : List (List Int) := isoQ n F G fun p => p.take f.length = f
theorem isoP_part {n : Nat} {F G : List (List (List Int))} {f : List Int} {k : Nat} (hf : f.length < n) :
    isoLt n F G (fun p => p.take f.length = f) f.length (k + 1) = isoLt n F G (fun p => p.take f.length = f) f.length k ++ isoP n F G (f ++ [(k : Int)]) := by
  rw [isoLt_succ hf]
  · congr 1
    refine isoQ_congr fun p hp => ?_
    have hl : f.length < p.length := by rw [hp.1.2]; exact hf
    simp only [List.length_append, List.length_singleton, take_snoc p f.length hl]
    constructor
    · rintro ⟨h1, h2⟩; rw [h1, h2]
    · intro h
      have hll : (p.take f.length).length = f.length := by simp; omega
      have := List.append_inj h hll
      exact ⟨this.1, by simpa using this.2⟩
  · intro p q hp hq h1 h2 y hy
    have hlp : p.length = n := hp.1.2
    have hlq : q.length = n := hq.1.2
    have t1 : nth (p.take f.length) y = nth p y := by
      rw [nth_nat _ _ (by simp; omega), nth_nat _ _ (by omega), List.getElem_take]
    have t2 : nth (q.take f.length) y = nth q y := by
      rw [nth_nat _ _ (by simp; omega), nth_nat _ _ (by omega), List.getElem_take]
    rw [← t1, ← t2, h1, h2]
theorem isoP_nil {n : Nat} {F G : List (List (List Int))} : isoP n F G [] = isoAll n F G := isoQ_congr fun p _ => ⟨fun _ => trivial, fun _ => by simp⟩
theorem isoP_full {n : Nat} {F G : List (List (List Int))} {f : List Int} (hf : IsoF n F G f) : isoP n F G f = [f] :=
  isoQ_one hf fun p hp => by
    have : f.length = p.length := by rw [hf.1.2, hp.1.2]
    rw [this, List.take_length]
end Go.Proofs.Ytgmhnjccgldddaa

namespace Go.Proofs.Ytgmhnjccgldddaa
set_option linter.unusedVariables false
set_option linter.unusedSimpArgs false

structure MSt where
  im : List Int
  us : List Bool
  st : List Int
def MpS (n : Nat) (s : MSt) : Prop := Mp n s.im s.us s.st

section
variable (F G : List (List (List Int)))
def argA1 (x : Int) (i k : Nat) (s : MSt) : Int := val2 (F.getD k []) x (nth s.st i)
def argA2 (v : Int) (i k : Nat) (s : MSt) : Int := val2 (G.getD k []) v (nth s.im (nth s.st i))
def argB1 (x : Int) (i k : Nat) (s : MSt) : Int := val2 (F.getD k []) (nth s.st i) x
def argB2 (v : Int) (i k : Nat) (s : MSt) : Int := val2 (G.getD k []) (nth s.im (nth s.st i)) v
/-- One table's two values at x and the element number i. -/
def stepA (f : MSt → Int → Int → Bool × MSt) (x v : Int) (i k : Nat) (s : MSt) : Bool × MSt :=
  if (f s (argA1 F x i k s) (argA2 G v i k s)).1 then f (f s (argA1 F x i k s) (argA2 G v i k s)).2 (argB1 F x i k s) (argB2 G v i k s) else f s (argA1 F x i k s) (argA2 G v i k s)
def rowA (f : MSt → Int → Int → Bool × MSt) (x v : Int) (i : Nat) : Nat → Nat → MSt → Bool × MSt
  | 0, _, s => (true, s)
  | r + 1, k, s => if (stepA F G f x v i k s).1 then rowA f x v i r (k + 1) (stepA F G f x v i k s).2 else stepA F G f x v i k s
def outA (f : MSt → Int → Int → Bool × MSt) (x v : Int) : Nat → Nat → MSt → Bool × MSt
  | 0, _, s => (true, s)
  | r + 1, i, s => if i < s.st.length then (if (rowA F G f x v i F.length 0 s).1 then outA f x v r (i + 1) (rowA F G f x v i F.length 0 s).2 else rowA F G f x v i F.length 0 s) else (true, s)
def putA (s : MSt) (x v : Int) : MSt := ⟨s.im.set x.toNat v, s.us.set v.toNat true, s.st ++ [x]⟩
def asg (n : Nat) : Nat → MSt → Int → Int → Bool × MSt
  | 0, s, _, _ => (false, s)
  | d + 1, s, x, v => if 0 ≤ nth s.im x then (nth s.im x == v, s) else if nthB s.us v = true then (false, s) else outA F G (asg n d) x v (n + 1) 0 (putA s x v)
end

def AsgS (n : Nat) (F G : List (List (List Int))) (s : MSt) (x v : Int) (r : Bool × MSt) : Prop := Asg n F G s.im s.st x v r.1 r.2.im r.2.us r.2.st
def LpS (n : Nat) (F G : List (List (List Int))) (s0 : MSt) (x v : Int) (i k : Nat) (h : Bool) (s : MSt) : Prop := Lp n F G s0.im s0.st x v i k h s.im s.us s.st

theorem Mp.len {n : Nat} {im : List Int} {us : List Bool} {st : List Int} (h : Mp n im us st) : st.length ≤ n := by
  rcases Nat.lt_or_ge n st.length with hlt | hge
  · exfalso
    have := (perm_of_sub (m := iota n) h.nodup (fun x hx => (mem_iota n x).2 ((h.mem x).1 hx).1) (by simp; omega)).length_eq
    simp at this; omega
  · exact hge
theorem Mp.img {n : Nat} {im : List Int} {us : List Bool} {st : List Int} (h : Mp n im us st) {i : Nat} (hi : i < st.length) : InN n (nth st i) ∧ InN n (nth im (nth st i)) := by
  have h1 := (h.mem _).1 (nth_memN hi)
  exact ⟨h1.1, h1.2, (h.rng _ h1.1).2⟩

/-- What is asked of the function that stands for the calls within. -/
def Good (n : Nat) (F G : List (List (List Int))) (m : Nat) (f : MSt → Int → Int → Bool × MSt) : Prop :=
  ∀ s x v, MpS n s → m ≤ s.st.length → InN n x → InN n v → AsgS n F G s x v (f s x v)
variable {n : Nat} {F G : List (List (List Int))} {f : MSt → Int → Int → Bool × MSt} {s0 s : MSt} {x v : Int} {i k m : Nat} {b : Bool}
theorem LpS.mS (h : LpS n F G s0 x v i k b s) : MpS n s := Lp.mp h
theorem LpS.xin (h : LpS n F G s0 x v i k b s) : InN n x := ((Lp.mp h).mem x |>.1 (Lp.mem_x h)).1
theorem LpS.vin (h : LpS n F G s0 x v i k b s) : InN n v := by
  have h1 := (Lp.mp h).mem x |>.1 (Lp.mem_x h)
  have h2 := (Lp.mp h).rng x h1.1
  have h3 : nth s.im x = v := Lp.val h
  rw [h3] at h1 h2
  exact ⟨h1.2, h2.2⟩
theorem LpS.longer (h : LpS n F G s0 x v i k b s) : s0.st.length + 1 ≤ s.st.length := by
  have := (Lp.pre h).length_le
  simpa using this
/-- The first call of a step. -/
theorem first_call (hf : Good n F G m f) (ht : Tabs n F) (hg : Tabs n G) (hl : F.length = G.length) (h : LpS n F G s0 x v i k false s) (hi : i < s.st.length) (hk : k < F.length) (hm : m ≤ s.st.length) :
    InN n (argA1 F x i k s) ∧ InN n (argA2 G v i k s) ∧ AsgS n F G s (argA1 F x i k s) (argA2 G v i k s) (f s (argA1 F x i k s) (argA2 G v i k s)) := by
  have h1 := h.xin; have h2 := h.vin
  obtain ⟨h3, h4⟩ := (Lp.mp h).img hi
  have a1 : InN n (argA1 F x i k s) := ht k hk _ _ h1 h3
  have a2 : InN n (argA2 G v i k s) := hg k (by omega) _ _ h2 h4
  exact ⟨a1, a2, hf s _ _ h.mS hm a1 a2⟩
theorem first_lp (hf : Good n F G m f) (ht : Tabs n F) (hg : Tabs n G) (hl : F.length = G.length) (h : LpS n F G s0 x v i k false s) (hi : i < s.st.length) (hk : k < F.length) (hm : m ≤ s.st.length)
    (hb : (f s (argA1 F x i k s) (argA2 G v i k s)).1 = true) : LpS n F G s0 x v i k true (f s (argA1 F x i k s) (argA2 G v i k s)).2 ∧ nth (f s (argA1 F x i k s) (argA2 G v i k s)).2.st i = nth s.st i ∧ nth (f s (argA1 F x i k s) (argA2 G v i k s)).2.im (nth s.st i) = nth s.im (nth s.st i) ∧ s.st.length ≤ (f s (argA1 F x i k s) (argA2 G v i k s)).2.st.length := by
  obtain ⟨a1, a2, a3⟩ := first_call hf ht hg hl h hi hk hm
  have hmi := ((Lp.mp h).mem _).1 (nth_memN hi)
  exact ⟨Lp.first h ht hi hk hb a2 a3, pre_nth a3.pre hi, a3.more _ hmi.1 hmi.2, a3.pre.length_le⟩
/-- The second one. -/
theorem second_call (hf : Good n F G m f) (ht : Tabs n F) (hg : Tabs n G) (hl : F.length = G.length) (h : LpS n F G s0 x v i k false s) (hi : i < s.st.length) (hk : k < F.length) (hm : m ≤ s.st.length)
    (hb : (f s (argA1 F x i k s) (argA2 G v i k s)).1 = true) :
    InN n (argB1 F x i k s) ∧ InN n (argB2 G v i k s) ∧ AsgS n F G (f s (argA1 F x i k s) (argA2 G v i k s)).2 (argB1 F x i k s) (argB2 G v i k s) (f (f s (argA1 F x i k s) (argA2 G v i k s)).2 (argB1 F x i k s) (argB2 G v i k s)) := by
  have h1 := h.xin; have h2 := h.vin
  obtain ⟨h3, h4⟩ := (Lp.mp h).img hi
  have a1 : InN n (argB1 F x i k s) := ht k hk _ _ h3 h1
  have a2 : InN n (argB2 G v i k s) := hg k (by omega) _ _ h4 h2
  obtain ⟨g1, g2, g3, g4⟩ := first_lp hf ht hg hl h hi hk hm hb
  exact ⟨a1, a2, hf _ _ _ g1.mS (by omega) a1 a2⟩
/-- A step. -/
theorem step_ok (hf : Good n F G m f) (ht : Tabs n F) (hg : Tabs n G) (hl : F.length = G.length) (h : LpS n F G s0 x v i k false s) (hi : i < s.st.length) (hk : k < F.length) (hm : m ≤ s.st.length) :
    (stepA F G f x v i k s).2.st.length ≥ s.st.length ∧ (if (stepA F G f x v i k s).1 then LpS n F G s0 x v i (k + 1) false (stepA F G f x v i k s).2 else AsgS n F G s0 x v (stepA F G f x v i k s)) := by
  obtain ⟨a1, a2, a3⟩ := first_call hf ht hg hl h hi hk hm
  have n1 := nec_val (F := F) (G := G) (Lp.mp h) (Lp.mem_x h) (nth_memN hi) hk
  rw [Lp.val h] at n1
  unfold stepA
  cases hb : (f s (argA1 F x i k s) (argA2 G v i k s)).1
  · simp only [Bool.false_eq_true, if_false, hb]
    refine ⟨a3.pre.length_le, ?_⟩
    have a4 := a3
    unfold AsgS at a4 ⊢
    rw [hb] at a4 ⊢
    exact Lp.fail h a4 n1
  · simp only [if_true]
    obtain ⟨g1, g2, g3, g4⟩ := first_lp hf ht hg hl h hi hk hm hb
    obtain ⟨b1, b2, b3⟩ := second_call hf ht hg hl h hi hk hm hb
    have n2 := nec_val (F := F) (G := G) (Lp.mp g1) (nth_memN (i := i) (by omega)) (Lp.mem_x g1) hk
    rw [g2, g3, Lp.val g1] at n2
    refine ⟨Nat.le_trans g4 b3.pre.length_le, ?_⟩
    cases hb2 : (f (f s (argA1 F x i k s) (argA2 G v i k s)).2 (argB1 F x i k s) (argB2 G v i k s)).1
    · simp only [Bool.false_eq_true, if_false]
      have b4 := b3
      unfold AsgS at b4 ⊢
      rw [hb2] at b4 ⊢
      exact Lp.fail g1 b4 n2
    · simp only [if_true]
      have b4 : AsgS n F G (f s (argA1 F x i k s) (argA2 G v i k s)).2 (val2 (F.getD k []) (nth (f s (argA1 F x i k s) (argA2 G v i k s)).2.st i) x) (val2 (G.getD k []) (nth (f s (argA1 F x i k s) (argA2 G v i k s)).2.im (nth (f s (argA1 F x i k s) (argA2 G v i k s)).2.st i)) v) (f (f s (argA1 F x i k s) (argA2 G v i k s)).2 (argB1 F x i k s) (argB2 G v i k s)) := by
        rw [g2, g3]; exact b3
      refine Lp.second g1 ht (by omega) hk hb2 ?_ b4
      rw [g2, g3]; exact b2
theorem row_ok (hf : Good n F G m f) (ht : Tabs n F) (hg : Tabs n G) (hl : F.length = G.length) : ∀ (r k : Nat) (s : MSt), LpS n F G s0 x v i k false s → i < s.st.length → k + r = F.length → m ≤ s.st.length →
    (rowA F G f x v i r k s).2.st.length ≥ s.st.length ∧ (if (rowA F G f x v i r k s).1 then LpS n F G s0 x v i F.length false (rowA F G f x v i r k s).2 else AsgS n F G s0 x v (rowA F G f x v i r k s))
  | 0, k, s, h, hi, hk, hm => by
    have e : k = F.length := by omega
    subst e
    simp only [rowA, if_true]
    exact ⟨Nat.le_refl _, h⟩
  | r + 1, k, s, h, hi, hk, hm => by
    obtain ⟨h1, h2⟩ := step_ok hf ht hg hl h hi (by omega) hm
    simp only [rowA]
    by_cases hb : (stepA F G f x v i k s).1 = true
    case neg =>
      rw [if_neg hb] at h2
      simp only [if_neg hb]
      exact ⟨h1, h2⟩
    case pos =>
      rw [if_pos hb] at h2
      simp only [if_pos hb]
      obtain ⟨h3, h4⟩ := row_ok hf ht hg hl r (k + 1) _ h2 (by omega) (by omega) (by omega)
      exact ⟨by omega, h4⟩
theorem out_ok (hf : Good n F G m f) (ht : Tabs n F) (hg : Tabs n G) (hl : F.length = G.length) : ∀ (r i : Nat) (s : MSt), LpS n F G s0 x v i 0 false s → n < i + r → m ≤ s.st.length → AsgS n F G s0 x v (outA F G f x v r i s)
  | 0, i, s, h, hi, hm => by
    have := (Lp.mp h).len
    have h2 : s.st.length ≤ i := by omega
    exact Lp.done h h2
  | r + 1, i, s, h, hi, hm => by
    simp only [outA]
    by_cases hlt : i < s.st.length
    · rw [if_pos hlt]
      obtain ⟨h1, h2⟩ := row_ok hf ht hg hl F.length 0 s h hlt (by omega) hm
      by_cases hb : (rowA F G f x v i F.length 0 s).1 = true
      case neg =>
        rw [if_neg hb] at h2
        simp only [if_neg hb]
        exact h2
      case pos =>
        rw [if_pos hb] at h2
        simp only [if_pos hb]
        exact out_ok hf ht hg hl r (i + 1) _ (Lp.next h2) (by omega) (by omega)
    · rw [if_neg hlt]
      have h2 : s.st.length ≤ i := by omega
      exact Lp.done h h2
theorem lp_put {s : MSt} (h : MpS n s) (hx : InN n x) (hv : InN n v) (h0 : nth s.im x < 0) (hu : nthB s.us v = false) : LpS n F G s x v 0 0 false (putA s x v) := Lp.start h hx hv h0 hu
theorem asg_good (ht : Tabs n F) (hg : Tabs n G) (hl : F.length = G.length) : ∀ (d m : Nat), n < m + d → Good n F G m (asg F G n d)
  | 0, m, hm => fun s x v h hms hx hv => by have := Mp.len h; omega
  | d + 1, m, hm => fun s x v h hms hx hv => by
    simp only [asg]
    by_cases h0 : 0 ≤ nth s.im x
    · rw [if_pos h0]; exact Asg.known h hx h0
    · rw [if_neg h0]
      by_cases hu : nthB s.us v = true
      · rw [if_pos hu]; exact Asg.used h hx hv (by omega) hu
      · rw [if_neg hu]
        have hu' : nthB s.us v = false := by simpa using hu
        have hl0 := lp_put (F := F) (G := G) h hx hv (by omega) hu'
        refine out_ok (asg_good ht hg hl d (s.st.length + 1) (by omega)) ht hg hl (n + 1) 0 _ hl0 (by omega) ?_
        simp [putA]
end Go.Proofs.Ytgmhnjccgldddaa

namespace Go.Proofs.Ytgmhnjccgldddaa
set_option linter.unusedVariables false
set_option linter.unusedSimpArgs false
open Go Go.RowKit

/-- A list of K tables of n rows each at place o of block b. -/
structure Tb3 (w : World) (b o n K : Nat) (F : List (List (List Int))) (tb to tc : Nat → Nat) (rb ro rc : Nat → Nat → Nat) : Prop where
  tab : ∀ k, k < K → w.cell? ⟨b, o + k, none⟩ = some (.slice (some ⟨tb k, to k, none⟩) n (tc k))
  at' : ∀ k, k < K → TabAt w (tb k) (to k) n (F.getD k []) (rb k) (ro k) (rc k)
theorem Tb3.below {w w' : World} {b o n K : Nat} {F : List (List (List Int))} {tb to tc : Nat → Nat} {rb ro rc : Nat → Nat → Nat} (h : Tb3 w b o n K F tb to tc rb ro rc) (hb : Below w.heap.size w w') : Tb3 w' b o n K F tb to tc rb ro rc :=
  ⟨fun k hk => cell_under hb (h.tab k hk), fun k hk => (h.at' k hk).below hb⟩
theorem Tb3.tabs {w : World} {b o n K : Nat} {F : List (List (List Int))} {tb to tc : Nat → Nat} {rb ro rc : Nat → Nat → Nat} (h : Tb3 w b o n K F tb to tc rb ro rc) (hK : K = F.length) : Tabs n F := fun k hk x y hx hy => (h.at' k (by omega)).rng x y hx.1 hx.2 hy.1 hy.2

theorem Own.keepB {B : Nat} {S : Nat → Prop} {w w' : World} {v : Value} {xs : List Int} (h : Own B w v xs) (k : Keep S w w') (hs : ∀ b, v.ownBlock = some b → ¬ S b) : Own B w' v xs := by
  obtain ⟨hl, h | ⟨g, cap, cur, hv, hb, hg, r⟩⟩ := h
  · exact ⟨hl, .inl h⟩
  · exact ⟨hl, .inr ⟨g, cap, cur, hv, hb, by rw [k.block g (Array.getElem?_eq_some_iff.1 hg).1 (hs g (by rw [hv]; rfl))]; exact hg, r⟩⟩
theorem Own.ownLt {B : Nat} {w : World} {v : Value} {xs : List Int} (h : Own B w v xs) {b : Nat} (e : v.ownBlock = some b) : B ≤ b ∧ b < w.heap.size := by
  obtain ⟨hl, h | ⟨g, cap, cur, hv, hb, hg, r⟩⟩ := h
  · rw [h.1] at e; cases e
  · rw [hv] at e
    have : g = b := by simpa [Value.ownBlock] using e
    subst this
    exact ⟨hb, (Array.getElem?_eq_some_iff.1 hg).1⟩
theorem keep_comp {S T : Nat → Prop} {w w1 w2 : World} (h : Keep S w w1) (k : Keep T w1 w2) (hT : ∀ b, b < w.heap.size → T b → S b) : Keep S w w2 :=
  ⟨k.os.trans h.os, k.tape.trans h.tape, k.output.trans h.output, Nat.le_trans h.size k.size, fun i hi hs => (k.block i (Nat.lt_of_lt_of_le hi h.size) (fun e => hs (hT i hi e))).trans (h.block i hi hs)⟩

set_option maxRecDepth 100000 in
/-- append of an integer: where there is room the slice stays where it is. -/
theorem wp_app_intP {o : Oper} {a : Act} {K : Act → World → Prop} {Q : Exit → Act → World → Prop} (B : Nat) (w : World) (a0 : Option Addr) (c : Nat) (xs : List Int) (y : Int) (s x : Operand)
    (ho : o.op = .call { callee := .builtin .append, args := #[s, x], argTypes := #[26, 26] })
    (hs : a.eval s = .slice a0 xs.length c) (hown : Own B w (.slice a0 xs.length c) xs) (hx : a.eval x = .slice (some ⟨w.heap.size, 0, none⟩) 1 1) (hn : xs.length ≤ 1099511627776) (hB2 : B ≤ w.heap.size)
    (h : ∀ a' c' w', Own B w' (.slice a' (xs.length + 1) c') (xs ++ [y]) → Keep (fun b => (Value.slice a0 xs.length c).ownBlock = some b) w w' → (xs.length + 1 ≤ c → a' = a0 ∧ c' = c) →
      (∀ b, (Value.slice a' (xs.length + 1) c').ownBlock = some b → (Value.slice a0 xs.length c).ownBlock = some b ∨ w.heap.size ≤ b) → K (a.put o.dst (.slice a' (xs.length + 1) c')) w') :
    o.wp Try.prog a (w.alloc (.cells #[.int .i64 y] 2)) K Q := by
  by_cases hr : xs.length + 1 ≤ c
  · rcases hown.open with ⟨e, h0⟩ | ⟨g, cs, e, hg, hblk, hm⟩
    · injection e with e1 e2 e3; omega
    · injection e with e1 e2 e3
      subst e1 e3
      obtain ⟨z, cs', rfl⟩ : ∃ z cs', cs = z :: cs' := by
        cases cs with
        | nil => simp at hr; omega
        | cons z p => exact ⟨z, p, rfl⟩
      obtain ⟨i0, hi, hz0, hz1, hz2⟩ := info_parts inf_int64
      have hblk1 := hblk.alloc (.cells #[.int .i64 y] 2)
      have hlt : xs.length < (xs.map (Value.int .i64) ++ z :: cs').length := by simp
      have hrun := run_append_room_cells (P := Try.prog) (w := w.alloc (.cells #[.int .i64 y] 2)) 26 o.type 2 i0 Try.underlying26 hi g 0 xs.length (xs.length + (z :: cs').length) ⟨w.heap.size, 0, none⟩ 1 1 [.int .i64 y] (by simp [hz1])
        (by
          intro j u hj
          match j, hj with
          | 0, hj => simp at hj; subst hj; simp [Addr.add])
        (by intro u hu; simp at hu; subst hu; rfl) hr
        (by intro j hj; simp at hj; subst hj; rw [hz1]; simp only [Nat.mul_one, Nat.add_zero, Nat.zero_add]; rw [hblk1.cell hlt]; rfl)
        (by intro j hj; exact hblk1.frozen _)
      rw [hz1] at hrun
      simp only [Nat.mul_one, World.setCells, Nat.zero_add] at hrun
      unfold Oper.wp execOp
      simp only [ho, resolve, invoke, builtin, Sem.run_bind, Sem.run_pure, Result.andThen_ok, List.map_toArray, List.map_cons, List.map_nil, hs, hx, hrun]
      have hb2 := hblk1.set xs.length (.int .i64 y)
      rw [List.set_append, if_neg (by simp), show xs.length - (xs.map (Value.int .i64)).length = 0 from by simp] at hb2
      simp only [List.set_cons_zero] at hb2
      refine h _ _ _ (Own.shut (g := g) (cs := cs') (by simpa using hb2) hg (by simp at hm ⊢; omega) (by simp) (by simp; omega)) ?_ (fun _ => ⟨rfl, rfl⟩) (fun b hb => .inl hb)
      exact (((Keep.refl (fun b => (Value.slice (some ⟨g, 0, none⟩) xs.length (xs.length + (z :: cs').length)).ownBlock = some b) w).alloc _)).setCell (p := ⟨g, xs.length, none⟩) (.inl rfl) _
  · refine wp_app_int B w _ xs y s x ho hs hown hx hn hB2 fun g c' w' h1 h2 h3 => h _ _ _ h1 h2 (fun e => absurd e hr) fun b hb => ?_
    have : g = b := by simpa [Value.ownBlock] using hb
    subst this
    exact h3
theorem wpList_app_intP {ops : Array Oper} {rest : List Oper} {o : Oper} {a : Act} {Q : Exit → Act → World → Prop} (B : Nat) (w : World) (a0 : Option Addr) (c : Nat) (xs : List Int) (y : Int) (s x : Operand) (hgd : o.guard = none)
    (ho : o.op = .call { callee := .builtin .append, args := #[s, x], argTypes := #[26, 26] })
    (hs : a.eval s = .slice a0 xs.length c) (hown : Own B w (.slice a0 xs.length c) xs) (hx : a.eval x = .slice (some ⟨w.heap.size, 0, none⟩) 1 1) (hn : xs.length ≤ 1099511627776) (hB2 : B ≤ w.heap.size)
    (h : ∀ a' c' w', Own B w' (.slice a' (xs.length + 1) c') (xs ++ [y]) → Keep (fun b => (Value.slice a0 xs.length c).ownBlock = some b) w w' → (xs.length + 1 ≤ c → a' = a0 ∧ c' = c) →
      (∀ b, (Value.slice a' (xs.length + 1) c').ownBlock = some b → (Value.slice a0 xs.length c).ownBlock = some b ∨ w.heap.size ≤ b) → wpList Try.prog ops Q rest (a.put o.dst (.slice a' (xs.length + 1) c')) w') :
    wpList Try.prog ops Q (o :: rest) a (w.alloc (.cells #[.int .i64 y] 2)) :=
  wpList_plain hgd fun _ hK => wp_app_intP B w a0 c xs y s x ho hs hown hx hn hB2 fun a' c' w' h1 h2 h3 h4 => hK _ _ (h a' c' w' h1 h2 h3 h4)

/-- The blocks of a partial map's state. -/
def MBl (mb ib ub : Nat) (v : Value) (b : Nat) : Prop := b = mb ∨ b = ib ∨ b = ub ∨ v.ownBlock = some b
/-- A partial map in memory. -/
structure MapAt (w : World) (mb ib ub n L : Nat) (vF vG : Value) (a : Option Addr) (c : Nat) (im : List Int) (us : List Bool) (st : List Int) : Prop where
  box : Blk w mb 77 [vF, vG, .slice (some ⟨ib, 0, none⟩) n n, .slice (some ⟨ub, 0, none⟩) n n, .slice a st.length c]
  imb : Blk w ib 2 (im.map (Value.int .i64))
  usb : Blk w ub 4 (us.map Value.bool)
  own : Own L w (.slice a st.length c) st
  ne : mb ≠ ib ∧ mb ≠ ub ∧ ib ≠ ub ∧ mb < L ∧ ib < L ∧ ub < L
namespace MapAt
variable {w w' : World} {mb ib ub n L : Nat} {vF vG : Value} {a : Option Addr} {c : Nat} {im : List Int} {us : List Bool} {st : List Int}
theorem keep {S : Nat → Prop} (h : MapAt w mb ib ub n L vF vG a c im us st) (k : Keep S w w') (hs : ∀ b, MBl mb ib ub (.slice a st.length c) b → ¬ S b) : MapAt w' mb ib ub n L vF vG a c im us st :=
  ⟨h.box.of_block (k.block _ h.box.lt (hs _ (.inl rfl))), h.imb.of_block (k.block _ h.imb.lt (hs _ (.inr (.inl rfl)))), h.usb.of_block (k.block _ h.usb.lt (hs _ (.inr (.inr (.inl rfl))))), h.own.keepB k fun b hb => hs b (.inr (.inr (.inr hb))), h.ne⟩
theorem under (h : MapAt w mb ib ub n L vF vG a c im us st) (k : Below w.heap.size w w') : MapAt w' mb ib ub n L vF vG a c im us st :=
  ⟨h.box.under k, h.imb.under k, h.usb.under k, h.own.under k, h.ne⟩
theorem drew (h : MapAt w mb ib ub n L vF vG a c im us st) : MapAt w.drew mb ib ub n L vF vG a c im us st := h.under (Below.refl _ _).drew
theorem lt (h : MapAt w mb ib ub n L vF vG a c im us st) {b : Nat} (hb : MBl mb ib ub (.slice a st.length c) b) : b < w.heap.size := by
  rcases hb with rfl | rfl | rfl | hb
  · exact h.box.lt
  · exact h.imb.lt
  · exact h.usb.lt
  · exact (h.own.ownLt hb).2
theorem cells (h : MapAt w mb ib ub n L vF vG a c im us st) : w.cell? ⟨mb, 0, none⟩ = some vF ∧ w.cell? ⟨mb, 1, none⟩ = some vG ∧ w.cell? ⟨mb, 2, none⟩ = some (.slice (some ⟨ib, 0, none⟩) n n) ∧ w.cell? ⟨mb, 3, none⟩ = some (.slice (some ⟨ub, 0, none⟩) n n) ∧ w.cell? ⟨mb, 4, none⟩ = some (.slice a st.length c) ∧ w.frozen? ⟨mb, 4, none⟩ = false :=
  ⟨h.box.cell (i := 0) (by simp), h.box.cell (i := 1) (by simp), h.box.cell (i := 2) (by simp), h.box.cell (i := 3) (by simp), h.box.cell (i := 4) (by simp), h.box.frozen _⟩
theorem imc (h : MapAt w mb ib ub n L vF vG a c im us st) (x : Int) (h0 : 0 ≤ x) (h1 : x < im.length) : w.cell? ⟨ib, x.toNat, none⟩ = some (.int .i64 (nth im x)) ∧ w.frozen? ⟨ib, x.toNat, none⟩ = false := by
  refine ⟨?_, h.imb.frozen _⟩
  rw [h.imb.cell (by simp; omega)]
  have := nth_nat im x.toNat (by omega)
  rw [show ((x.toNat : Nat) : Int) = x by omega] at this
  simp [this]
theorem usc (h : MapAt w mb ib ub n L vF vG a c im us st) (v : Int) (h0 : 0 ≤ v) (h1 : v < us.length) : w.cell? ⟨ub, v.toNat, none⟩ = some (.bool (nthB us v)) ∧ w.frozen? ⟨ub, v.toNat, none⟩ = false := by
  refine ⟨?_, h.usb.frozen _⟩
  have hl : v.toNat < us.length := by omega
  rw [h.usb.cell (by simpa using hl)]
  simp [nthB, hl]
/-- A number and a mark are written. -/
theorem write (h : MapAt w mb ib ub n L vF vG a c im us st) (x v : Int) (b : Bool) (u : Int) : MapAt ((w.setCell ⟨ib, x.toNat, none⟩ (.int .i64 u)).setCell ⟨ub, v.toNat, none⟩ (.bool b)) mb ib ub n L vF vG a c (im.set x.toNat u) (us.set v.toNat b) st := by
  obtain ⟨n1, n2, n3, n4, n5, n6⟩ := h.ne
  refine ⟨(h.box.other n1 _).other n2 _, ?_, ?_, ?_, h.ne⟩
  · have := (h.imb.set x.toNat (.int .i64 u)).other (a := ⟨ub, v.toNat, none⟩) n3 (.bool b)
    rwa [← List.map_set] at this
  · have := (h.usb.other (a := ⟨ib, x.toNat, none⟩) (fun e => n3 e.symm) (.int .i64 u)).set v.toNat (.bool b)
    rwa [← List.map_set] at this
  · refine h.own.keepB (S := fun b => b = ib ∨ b = ub) (((Keep.refl _ w).setCell (p := ⟨ib, x.toNat, none⟩) (.inl (.inl rfl)) _).setCell (p := ⟨ub, v.toNat, none⟩) (.inl (.inr rfl)) _) fun b hb e => ?_
    have := (h.own.ownLt hb).1
    rcases e with rfl | rfl <;> omega
/-- A mark and a number are written. -/
theorem write2 (h : MapAt w mb ib ub n L vF vG a c im us st) (x v : Int) (b : Bool) (u : Int) : MapAt ((w.setCell ⟨ub, v.toNat, none⟩ (.bool b)).setCell ⟨ib, x.toNat, none⟩ (.int .i64 u)) mb ib ub n L vF vG a c (im.set x.toNat u) (us.set v.toNat b) st := by
  obtain ⟨n1, n2, n3, n4, n5, n6⟩ := h.ne
  refine ⟨(h.box.other n2 _).other n1 _, ?_, ?_, ?_, h.ne⟩
  · have := (h.imb.other (a := ⟨ub, v.toNat, none⟩) n3 (.bool b)).set x.toNat (.int .i64 u)
    rwa [← List.map_set] at this
  · have := (h.usb.set v.toNat (.bool b)).other (a := ⟨ib, x.toNat, none⟩) (fun e => n3 e.symm) (.int .i64 u)
    rwa [← List.map_set] at this
  · refine h.own.keepB (S := fun b => b = ib ∨ b = ub) (((Keep.refl _ w).setCell (p := ⟨ub, v.toNat, none⟩) (.inl (.inr rfl)) _).setCell (p := ⟨ib, x.toNat, none⟩) (.inl (.inl rfl)) _) fun b hb e => ?_
    have := (h.own.ownLt hb).1
    rcases e with rfl | rfl <;> omega
/-- The box's slice is written, behind a change of its block alone. -/
theorem reslice {w2 : World} (h : MapAt w mb ib ub n L vF vG a c im us st) {a' : Option Addr} {c' : Nat} {st' : List Int} (k : Keep (fun b => (Value.slice a st.length c).ownBlock = some b) w w2) (ho : Own L w2 (.slice a' st'.length c') st') :
    MapAt (w2.setCell ⟨mb, 4, none⟩ (.slice a' st'.length c')) mb ib ub n L vF vG a' c' im us st' := by
  obtain ⟨n1, n2, n3, n4, n5, n6⟩ := h.ne
  have hno : ∀ b, b < L → ¬ (Value.slice a st.length c).ownBlock = some b := fun b hb e => by have := (h.own.ownLt e).1; omega
  refine ⟨?_, ?_, ?_, ?_, h.ne⟩
  · have := (h.box.of_block (k.block _ h.box.lt (hno _ n4))).set 4 (.slice a' st'.length c')
    simpa using this
  · exact (h.imb.of_block (k.block _ h.imb.lt (hno _ n5))).other (a := ⟨mb, 4, none⟩) (fun e => n1 e.symm) _
  · exact (h.usb.of_block (k.block _ h.usb.lt (hno _ n6))).other (a := ⟨mb, 4, none⟩) (fun e => n2 e.symm) _
  · exact ho.keepB (S := fun b => b = mb) ((Keep.refl (fun b => b = mb) w2).setCell (p := ⟨mb, 4, none⟩) (.inl rfl) _) fun b hb e => by
      have := (ho.ownLt hb).1
      have e : b = mb := e
      omega
end MapAt
end Go.Proofs.Ytgmhnjccgldddaa

namespace Go.Proofs.Ytgmhnjccgldddaa
set_option linter.unusedVariables false
set_option linter.unusedSimpArgs false
open Go Go.RowKit

set_option maxHeartbeats 800000 in
theorem c_Index (v : Value) (l : List Int) (y : Int) (w : World) (hx : Ints w v l) (hl : l.length ≤ 1048576) :
    Calls Try.prog 76 #[v, .int .i64 y] w (fun e w' => ∃ r : Int, e = .returned (.int .i64 r) ∧ w = w' ∧ ((r = -1 ∧ ∀ j : Nat, j < l.length → nth l j ≠ y) ∨ ∃ k : Nat, r = k ∧ k < l.length ∧ nth l k = y ∧ ∀ j : Nat, j < k → nth l j ≠ y)) := by
  obtain ⟨a, c, rfl, hc, hm⟩ := hx.shape
  go_enter Try.func76, Try.ntmps76
  go_wp2
  go_loopw [8] (fun i wr => ∃ k : Nat, k ≤ l.length ∧ i = .int .i64 k ∧ wr = w ∧ Hid (∀ j : Nat, j < k → nth l j ≠ y)) (fun i _ => l.length - (intOf i).toNat)
  case atStart => exact ⟨0, Nat.zero_le _, rfl, rfl, Lib.hid (fun j hj => by omega)⟩
  case round =>
    obtain ⟨k, hk, rfl, rfl, HA⟩ := hrel
    by_cases hlt : k < l.length
    · obtain ⟨b, o, rfl, hcell⟩ := hx.get k hlt
      by_cases hp : y = nth l k
      · have HP := Lib.hid hp
        have hb : (y == nth l k) = true := by simpa using hp
        clear hp
        go_wp2
        go_ret
        exact ⟨k, rfl, rfl, .inr ⟨k, rfl, hlt, HP.out.symm, HA.out⟩⟩
      · have HP := Lib.hid hp
        have hb : (y == nth l k) = false := by simpa using hp
        clear hp
        go_wp2
        go_roundw
        case rel =>
          refine ⟨k + 1, by omega, by go_num, by first | rfl | trivial, Lib.hid fun j hj => ?_⟩
          rcases Nat.lt_or_ge j k with h | h
          · exact HA.out j h
          · have e : j = k := by omega
            subst e; exact fun h2 => HP.out h2.symm
        case measure => simp [intOf]; omega
    · obtain rfl : k = l.length := by omega
      go_wp2
      go_ret
      exact ⟨-1, rfl, rfl, .inl ⟨rfl, HA.out⟩⟩

def unIm (im l : List Int) : List Int := l.foldl (fun m x => m.set x.toNat (-1)) im
def unUs (im : List Int) (us : List Bool) (l : List Int) : List Bool := l.foldl (fun u x => u.set (nth im x).toNat false) us
theorem unIm_snoc (im l : List Int) (x : Int) : unIm im (l ++ [x]) = (unIm im l).set x.toNat (-1) := by simp [unIm]
theorem unUs_snoc (im : List Int) (us : List Bool) (l : List Int) (x : Int) : unUs im us (l ++ [x]) = (unUs im us l).set (nth im x).toNat false := by simp [unUs]
theorem unIm_len (im l : List Int) : (unIm im l).length = im.length := by
  induction l generalizing im with
  | nil => rfl
  | cons a l ih =>
    show (unIm (im.set a.toNat (-1)) l).length = _
    rw [ih]; simp
theorem unUs_len (im : List Int) (us : List Bool) (l : List Int) : (unUs im us l).length = us.length := by
  induction l generalizing us with
  | nil => rfl
  | cons a l ih =>
    show (unUs im (us.set (nth im a).toNat false) l).length = _
    rw [ih]; simp
theorem unIm_nth (n : Nat) : ∀ (l im : List Int), im.length = n → (∀ x ∈ l, InN n x) → ∀ y, InN n y → nth (unIm im l) y = if y ∈ l then -1 else nth im y
  | [], im, _, _, y, _ => by simp [unIm]
  | a :: l, im, hl, h, y, hy => by
    have ha := h a (by simp)
    show nth (unIm (im.set a.toNat (-1)) l) y = _
    rw [unIm_nth n l _ (by simpa using hl) (fun x hx => h x (by simp [hx])) y hy, nth_set _ _ _ _ ha.1 (by rw [hl]; exact ha.2) hy.1]
    by_cases e1 : y ∈ l
    · simp [e1]
    · by_cases e2 : y = a
      · simp [e1, e2]
      · simp [e1, e2]
theorem unUs_nth (n : Nat) (im : List Int) : ∀ (l : List Int) (us : List Bool), us.length = n → (∀ x ∈ l, InN n (nth im x)) → ∀ u, InN n u → nthB (unUs im us l) u = if ∃ y ∈ l, nth im y = u then false else nthB us u
  | [], us, _, _, u, _ => by simp [unUs]
  | a :: l, us, hl, h, u, hu => by
    have ha := h a (by simp)
    show nthB (unUs im (us.set (nth im a).toNat false) l) u = _
    rw [unUs_nth n im l _ (by simpa using hl) (fun x hx => h x (by simp [hx])) u hu, nthB_set _ _ _ _ ha.1 (by rw [hl]; exact ha.2) hu.1]
    by_cases e1 : ∃ y ∈ l, nth im y = u
    · have e3 : ∃ y ∈ a :: l, nth im y = u := by obtain ⟨y, h1, h2⟩ := e1; exact ⟨y, by simp [h1], h2⟩
      rw [if_pos e1, if_pos e3]
    · rw [if_neg e1]
      by_cases e2 : u = nth im a
      · have e3 : ∃ y ∈ a :: l, nth im y = u := ⟨a, by simp, e2.symm⟩
        rw [if_pos e2, if_pos e3]
      · have e3 : ¬ ∃ y ∈ a :: l, nth im y = u := by
          rintro ⟨y, h1, h2⟩
          rcases List.mem_cons.1 h1 with rfl | h1
          · exact e2 h2.symm
          · exact e1 ⟨y, h1, h2⟩
        rw [if_neg e2, if_neg e3]
/-- What 'undo' leaves is what was there. -/
theorem un_all {n : Nat} {s s' : MSt} (h : MpS n s) (h' : MpS n s') (hp : s.st <+: s'.st) (hm : More n s.im s'.im) : unIm s'.im (s'.st.drop s.st.length) = s.im ∧ unUs s'.im s'.us (s'.st.drop s.st.length) = s.us ∧ s'.st.take s.st.length = s.st := by
  have hr : ∀ x ∈ s'.st.drop s.st.length, InN n x ∧ InN n (nth s'.im x) := fun x hx => by
    have h1 := (Mp.mem h' x).1 (List.mem_of_mem_drop hx)
    exact ⟨h1.1, h1.2, (Mp.rng h' x h1.1).2⟩
  obtain ⟨e1, e2⟩ := undo_eq h h' hp hm (im2 := unIm s'.im (s'.st.drop s.st.length)) (us2 := unUs s'.im s'.us (s'.st.drop s.st.length)) (by rw [unIm_len]; exact Mp.imL h')
    (fun y hy => unIm_nth n _ _ (Mp.imL h') (fun x hx => (hr x hx).1) y hy) (by rw [unUs_len]; exact Mp.usL h') (fun u hu => unUs_nth n _ _ _ (Mp.usL h') (fun x hx => (hr x hx).2) u hu)
  exact ⟨e1, e2, by obtain ⟨r, hr⟩ := hp; rw [← hr]; simp⟩
/-- The slice cut at its end. -/
theorem Own.cutTo {B : Nat} {w : World} {a : Option Addr} {c m : Nat} {xs : List Int} (h : Own B w (.slice a xs.length c) xs) (hm : m ≤ xs.length) : Own B w (.slice a m c) (xs.take m) := by
  rcases h.open with ⟨e, h0⟩ | ⟨g, cs, e, hg, hblk, hc⟩
  · injection e with e1 e2 e3
    subst h0 e1 e3
    have : m = 0 := by simpa using hm
    subst this
    exact Own.nil B w
  · injection e with e1 e2 e3
    subst e1 e3
    have e4 : (xs.take m).length = m := by simp; omega
    refine Own.shut (g := g) (cs := (xs.drop m).map (Value.int .i64) ++ cs) ?_ hg (by simp; omega) e4.symm (by simp; omega)
    rw [← List.append_assoc, ← List.map_append, List.take_append_drop]
    exact hblk

set_option maxRecDepth 100000 in
set_option maxHeartbeats 2000000 in
theorem c_undo {n : Nat} {s s' : MSt} (mb ib ub L : Nat) (vF vG : Value) (a : Option Addr) (c : Nat) (w : World) (h : MpS n s) (h' : MpS n s') (hp : s.st <+: s'.st) (hm : More n s.im s'.im) (hn : n ≤ 1048576)
    (hM : MapAt w mb ib ub n L vF vG a c s'.im s'.us s'.st) :
    Calls Try.prog 78 #[.pointer (some ⟨mb, 0, none⟩), .int .i64 s.st.length] w (fun e w' => (∃ v, e = .returned v) ∧ MapAt w' mb ib ub n L vF vG a c s.im s.us s.st ∧ Keep (MBl mb ib ub (.slice a s'.st.length c)) w w') := by
  obtain ⟨N, hN⟩ : ∃ N, s.st.length = N := ⟨_, rfl⟩
  obtain ⟨M, hMl⟩ : ∃ M, s'.st.length = M := ⟨_, rfl⟩
  have hNM : N ≤ M := by have := hp.length_le; omega
  have hMn : M ≤ n := by have := Mp.len h'; omega
  have HU := Lib.hid (un_all h h' hp hm)
  have HMp := Lib.hid h'
  rw [hN] at HU ⊢
  have HML := Lib.hid hMl
  have HM := Lib.hid hM
  rw [hMl]
  obtain ⟨m0, m1, m2, m3, m4, m5⟩ := hM.cells
  rw [hMl] at m4
  have hI : Ints w (.slice a M c) s'.st := by rw [← hMl]; exact hM.own.ints
  obtain ⟨_, _, hv, hMc, hcm⟩ := hI.shape
  rw [hMl] at hMc hv
  injection hv with e1 e2 e3
  subst e1 e3
  clear e2
  have HI := Lib.hid hI
  have c1 : (0 : Int) ≤ N := by omega
  have c2 : (N : Int) ≤ M := by omega
  have c3 : (N : Int) ≤ c := by omega
  have c4 : (M : Int) ≤ c := by omega
  have HOc := Lib.hid (show Own L w (.slice a N c) (s'.st.take N) from by
    have := hM.own
    rw [hMl] at this
    have h2 : Own L w (.slice a s'.st.length c) s'.st := by rw [hMl]; exact this
    exact h2.cutTo (by omega))
  have hneL := hM.ne
  rcases Nat.lt_or_ge N M with hlt | hge
  case inr =>
    have hNM2 : N = M := by omega
    subst hNM2
    clear hI hM h hp hm h' hN hMl hge hNM
    by_cases hcN : c = N
    case' pos => have hcN2 := hcN.symm; subst hcN2; clear hcN
    all_goals
      go_enter Try.func78, Try.ntmps78
      go_wp2
      go_loopw [13] (fun i wr => i = .int .i64 0 ∧ wr = w) (fun _ _ => 0)
      case atStart => exact ⟨rfl, rfl⟩
      case round =>
        obtain ⟨rfl, rfl⟩ := hrel
        go_wp2
        go_end0
        have e1 := HU.out
        rw [List.drop_of_length_le (by rw [HML.out]; exact Nat.le_refl _)] at e1
        obtain ⟨e2, e3, e4⟩ := e1
        have e5 : s'.im = s.im := e2
        have e6 : s'.us = s.us := e3
        have HM2 := HM.out
        have HOc2 := HOc.out
        have hls : s.st.length = N := by rw [← e4, List.length_take, HML.out]; omega
        rw [e4, ← hls] at HOc2
        refine ⟨⟨_, rfl⟩, ?_, (Keep.refl _ _).setCell (p := ⟨mb, 4, none⟩) (.inl (.inl rfl)) _⟩
        have := HM2.reslice (Keep.refl _ _) HOc2
        rw [hls, e5, e6] at this
        simpa using this
  · have hcN : ¬ c = N := by omega
    obtain ⟨g, e⟩ : ∃ g, a = some ⟨g, 0, none⟩ := by
      rcases hM.own.open with ⟨e, h0⟩ | ⟨g, cs, e, hg, hblk, hc⟩
      · rw [h0] at hMl; simp at hMl; omega
      · injection e with e1 e2 e3; exact ⟨g, e1⟩
    subst e
    clear hI hM h hp hm h' hN hMl
    go_enter Try.func78, Try.ntmps78
    go_wp2
    go_loopw [13] (fun i wr => ∃ j : Nat, j ≤ M - N ∧ i = .int .i64 j ∧ Hid (MapAt wr mb ib ub n L vF vG (some ⟨g, 0, none⟩) c (unIm s'.im ((s'.st.drop N).take j)) (unUs s'.im s'.us ((s'.st.drop N).take j)) s'.st) ∧ Hid (Keep (MBl mb ib ub (.slice (some ⟨g, 0, none⟩) M c)) w wr)) (fun i _ => M - N - (intOf i).toNat)
    case atStart => exact ⟨0, Nat.zero_le _, rfl, HM, Lib.hid (Keep.refl _ _)⟩
    case round =>
      clear HM HI m0 m1 m2 m3 m4 m5
      obtain ⟨j, hj, rfl, HM, HK⟩ := hrel
      obtain ⟨wo, rfl⟩ : ∃ wo : World, wo = wr := ⟨_, rfl⟩
      obtain ⟨m0, m1, m2, m3, m4, m5⟩ := HM.out.cells
      rw [HML.out] at m4
      by_cases hjl : j < M - N
      · have hx := HMp.out.img (i := N + j) (by rw [HML.out]; omega)
        obtain ⟨X, hX⟩ : ∃ X : Nat, nth s'.st (N + j : Nat) = X := ⟨(nth s'.st (N + j : Nat)).toNat, by have := hx.1.1; omega⟩
        obtain ⟨V, hV⟩ : ∃ V : Nat, nth s'.im X = V := ⟨(nth s'.im X).toNat, by have := hx.2.1; rw [hX] at this; omega⟩
        rw [hX] at hx
        have hxn : (X : Int) < n := hx.1.2
        have hvn : (V : Int) < n := by have := hx.2.2; rw [hV] at this; exact this
        have gs : wo.cell? ⟨g, N + j, none⟩ = some (.int .i64 X) := by
          have := HM.out.own.ints.at (N + j) (by rw [HML.out]; omega)
          rw [hX] at this
          simpa using this
        have hnot : (X : Int) ∉ (s'.st.drop N).take j := by
          have hnd := (List.nodup_iff_pairwise_ne.1 (Mp.nodup HMp.out))
          intro hin
          obtain ⟨i, hi, he⟩ := List.getElem_of_mem hin
          simp at hi
          have h1 := List.pairwise_iff_getElem.1 hnd (N + i) (N + j) (by omega) (by rw [HML.out]; omega) (by omega)
          rw [List.getElem_take, List.getElem_drop] at he
          have h2 := nth_nat s'.st (N + j) (by rw [HML.out]; omega)
          rw [hX] at h2
          exact h1 (by rw [he, h2])
        have hall : ∀ x ∈ (s'.st.drop N).take j, InN n x := fun x hx => ((Mp.mem HMp.out x).1 (List.mem_of_mem_drop (List.mem_of_mem_take hx))).1
        have hiX : nth (unIm s'.im ((s'.st.drop N).take j)) X = V := by
          rw [unIm_nth n _ _ (Mp.imL HMp.out) hall X hx.1, if_neg hnot, hV]
        have gi := HM.out.imc X (by omega) (by rw [unIm_len, Mp.imL HMp.out]; exact hxn)
        have gu := HM.out.usc V (by omega) (by rw [unUs_len, Mp.usL HMp.out]; exact hvn)
        rw [hiX] at gi
        simp only [Int.toNat_natCast] at gi gu
        obtain ⟨gi1, gi2⟩ := gi
        obtain ⟨gu1, gu2⟩ := gu
        have HW := Lib.hid (HM.out.write2 X V false (-1))
        have HVX := Lib.hid hV
        have hdl : j < (s'.st.drop N).length := by rw [List.length_drop, HML.out]; omega
        have HTk := Lib.hid (show (s'.st.drop N).take (j + 1) = (s'.st.drop N).take j ++ [(X : Int)] by
          rw [take_snoc _ j hdl]
          congr 2
          rw [nth_nat _ _ hdl, List.getElem_drop]
          have h2 := nth_nat s'.st (N + j) (by rw [HML.out]; omega)
          rw [hX] at h2
          exact h2.symm)
        clear hdl
        obtain ⟨n1, n2, n3, n4, n5, n6⟩ := hneL
        have HN := Lib.hid (And.intro n1 (And.intro n2 n3))
        clear hnot hall hiX hX hV
        go_wp2
        go_region
        go_wp2
        go_roundw
        case rel =>
          refine ⟨j + 1, by omega, by go_num, ?_, ?_⟩
          · have h1 := HW.out.drew
            simp only [Int.toNat_natCast] at h1
            rw [HTk.out, unIm_snoc, unUs_snoc, HVX.out]
            simp only [Int.toNat_natCast]
            exact Lib.hid h1
          · exact Lib.hid (((HK.out.setCell (p := ⟨ub, V, none⟩) (.inl (.inr (.inr (.inl rfl)))) _).setCell (p := ⟨ib, X, none⟩) (.inl (.inr (.inl rfl))) _).drew)
        case measure => simp [intOf]; omega
      · have e0 : j = M - N := by omega
        subst e0
        go_wp2
        go_end0
        have e1 := HU.out
        have HM2 := HM.out
        rw [List.take_of_length_le (by rw [List.length_drop, HML.out]; exact Nat.le_refl _), e1.1, e1.2.1] at HM2
        have hls : s.st.length = N := by rw [← e1.2.2, List.length_take, HML.out]; omega
        have HOc2 := HOc.out
        refine ⟨⟨_, rfl⟩, ?_, HK.out.setCell (p := ⟨mb, 4, none⟩) (.inl (.inl rfl)) _⟩
        have HO3 := HM2.own.cutTo (m := N) (by rw [HML.out]; exact hNM)
        rw [e1.2.2, ← hls] at HO3
        have := HM2.reslice (Keep.refl _ _) HO3
        rw [hls] at this
        exact this
end Go.Proofs.Ytgmhnjccgldddaa

namespace Go.Proofs.Ytgmhnjccgldddaa
set_option linter.unusedVariables false
set_option linter.unusedSimpArgs false
open Go Go.RowKit

theorem own_irr (a : Option Addr) (m c m' c' : Nat) : (Value.slice a m c).ownBlock = (Value.slice a m' c').ownBlock := by cases a <;> rfl
/-- What a call leaves of memory, and where the slice of what is set lies. -/
def Ph (n mb ib ub : Nat) (a0 : Option Addr) (c0 : Nat) (w : World) (a : Option Addr) (c : Nat) (W : World) : Prop :=
  Keep (MBl mb ib ub (.slice a0 0 c0)) w W ∧ (n ≤ c0 → a = a0 ∧ c = c0) ∧ (∀ b, (Value.slice a 0 c).ownBlock = some b → (Value.slice a0 0 c0).ownBlock = some b ∨ w.heap.size ≤ b)
namespace Ph
variable {n mb ib ub : Nat} {a0 a1 a2 : Option Addr} {c0 c1 c2 : Nat} {w w1 w2 : World}
theorem refl (n mb ib ub : Nat) (a : Option Addr) (c : Nat) (w : World) : Ph n mb ib ub a c w a c w := ⟨Keep.refl _ _, fun _ => ⟨rfl, rfl⟩, fun _ h => .inl h⟩
theorem trans (h : Ph n mb ib ub a0 c0 w a1 c1 w1) (k : Ph n mb ib ub a1 c1 w1 a2 c2 w2) : Ph n mb ib ub a0 c0 w a2 c2 w2 := by
  refine ⟨keep_comp h.1 k.1 fun b hb e => ?_, fun hc => ?_, fun b hb => ?_⟩
  · rcases e with e | e | e | e
    · exact .inl e
    · exact .inr (.inl e)
    · exact .inr (.inr (.inl e))
    · rcases h.2.2 b e with e | e
      · exact .inr (.inr (.inr e))
      · omega
  · obtain ⟨e1, e2⟩ := h.2.1 hc
    obtain ⟨e3, e4⟩ := k.2.1 (by omega)
    exact ⟨e3.trans e1, e4.trans e2⟩
  · rcases k.2.2 b hb with e | e
    · exact h.2.2 b e
    · exact .inr (Nat.le_trans h.1.size e)
theorem drew (h : Ph n mb ib ub a0 c0 w a1 c1 w1) : Ph n mb ib ub a0 c0 w a1 c1 w1.drew := ⟨h.1.drew, h.2⟩
theorem below (h : Ph n mb ib ub a0 c0 w a1 c1 w1) {w0 : World} {L : Nat} {vF vG : Value} {im : List Int} {us : List Bool} {st : List Int} (hM : MapAt w mb ib ub n L vF vG a0 c0 im us st) (hlo : w0.heap.size ≤ mb ∧ w0.heap.size ≤ ib ∧ w0.heap.size ≤ ub) (hb : Below w0.heap.size w0 w) : Below w0.heap.size w0 w1 := by
  refine hb.trans (h.1.below fun k hk => ⟨by have := hb.size; omega, fun e => ?_⟩)
  rcases e with e | e | e | e
  · omega
  · omega
  · omega
  · rw [own_irr a0 0 c0 st.length c0] at e
    have := (hM.own.ownLt e).1
    have := hM.ne
    omega
end Ph
/-- The post of 'assign'. -/
def RAs (mb ib ub n L : Nat) (vF vG : Value) (a0 : Option Addr) (c0 : Nat) (r : Bool × MSt) (w : World) (e : Ending) (w' : World) : Prop :=
  ∃ a' c', e = .returned (.bool r.1) ∧ MapAt w' mb ib ub n L vF vG a' c' r.2.im r.2.us r.2.st ∧ Ph n mb ib ub a0 c0 w a' c' w'

section
variable {n : Nat} {F G : List (List (List Int))} {f : MSt → Int → Int → Bool × MSt} {s s2 : MSt} {x v : Int} {i k m : Nat} {p1 p2 fin : Bool × MSt}
theorem stepA_ff (h1 : f s (argA1 F x i k s) (argA2 G v i k s) = p1) (hb : p1.1 = false) : stepA F G f x v i k s = p1 := by
  unfold stepA; rw [h1, hb]; simp
theorem stepA_tt (h1 : f s (argA1 F x i k s) (argA2 G v i k s) = p1) (hb : p1.1 = true) (h2 : f p1.2 (argB1 F x i k s) (argB2 G v i k s) = p2) : stepA F G f x v i k s = p2 := by
  unfold stepA; rw [h1, hb, h2]; simp
theorem rest_false (e : (if (rowA F G f x v i (F.length - k) k s).1 then outA F G f x v m (i + 1) (rowA F G f x v i (F.length - k) k s).2 else rowA F G f x v i (F.length - k) k s) = fin) (hk : k < F.length) (hs : stepA F G f x v i k s = p1) (hb : p1.1 = false) : p1 = fin := by
  rw [show F.length - k = (F.length - (k + 1)) + 1 by omega] at e
  subst hs
  simpa [rowA, hb] using e
theorem rest_true (e : (if (rowA F G f x v i (F.length - k) k s).1 then outA F G f x v m (i + 1) (rowA F G f x v i (F.length - k) k s).2 else rowA F G f x v i (F.length - k) k s) = fin) (hk : k < F.length) (hs : stepA F G f x v i k s = p1) (hb : p1.1 = true) :
    (if (rowA F G f x v i (F.length - (k + 1)) (k + 1) p1.2).1 then outA F G f x v m (i + 1) (rowA F G f x v i (F.length - (k + 1)) (k + 1) p1.2).2 else rowA F G f x v i (F.length - (k + 1)) (k + 1) p1.2) = fin := by
  rw [show F.length - k = (F.length - (k + 1)) + 1 by omega] at e
  subst hs
  simp only [rowA, hb, if_true] at e
  exact e
end
/-- The cells that a step of 'assign' reads, in whatever world. -/
theorem pair_cells {w0 W : World} {n K fb fo gb go' gc mb ib ub L c k X V Y U : Nat} {F G : List (List (List Int))} {tb to tc tb' to' tc' : Nat → Nat} {rb ro rc rb' ro' rc' : Nat → Nat → Nat} {vF : Value} {a : Option Addr} {im : List Int} {us : List Bool} {st : List Int}
    (hF : Tb3 w0 fb fo n K F tb to tc rb ro rc) (hG : Tb3 w0 gb go' n K G tb' to' tc' rb' ro' rc') (hb : Below w0.heap.size w0 W) (hM : MapAt W mb ib ub n L vF (.slice (some ⟨gb, go', none⟩) K gc) a c im us st) (hk : k < K) (hl : im.length = n)
    (hX : X < n) (hV : V < n) (hY : Y < n) (hUn : U < n) (hU : nth im Y = U) :
    W.cell? ⟨tb k, to k + X, none⟩ = some (.slice (some ⟨rb k X, ro k X, none⟩) n (rc k X)) ∧ W.cell? ⟨rb k X, ro k X + Y, none⟩ = some (.int .i64 (val2 (F.getD k []) X Y)) ∧ W.cell? ⟨tb k, to k + Y, none⟩ = some (.slice (some ⟨rb k Y, ro k Y, none⟩) n (rc k Y)) ∧ W.cell? ⟨rb k Y, ro k Y + X, none⟩ = some (.int .i64 (val2 (F.getD k []) Y X)) ∧ W.cell? ⟨mb, 1, none⟩ = some (.slice (some ⟨gb, go', none⟩) K gc) ∧ W.cell? ⟨gb, go' + k, none⟩ = some (.slice (some ⟨tb' k, to' k, none⟩) n (tc' k)) ∧ W.cell? ⟨tb' k, to' k + V, none⟩ = some (.slice (some ⟨rb' k V, ro' k V, none⟩) n (rc' k V)) ∧ W.cell? ⟨mb, 2, none⟩ = some (.slice (some ⟨ib, 0, none⟩) n n) ∧ W.cell? ⟨ib, Y, none⟩ = some (.int .i64 U) ∧ W.cell? ⟨rb' k V, ro' k V + U, none⟩ = some (.int .i64 (val2 (G.getD k []) V U)) ∧ W.cell? ⟨tb' k, to' k + U, none⟩ = some (.slice (some ⟨rb' k U, ro' k U, none⟩) n (rc' k U)) ∧ W.cell? ⟨rb' k U, ro' k U + V, none⟩ = some (.int .i64 (val2 (G.getD k []) U V)) := by
  have hF' := hF.below hb
  have hG' := hG.below hb
  obtain ⟨m0, m1, m2, m3, m4, m5⟩ := hM.cells
  obtain ⟨i1, i2⟩ := hM.imc Y (by omega) (by omega)
  rw [hU] at i1
  simp only [Int.toNat_natCast] at i1
  have f := hF'.at' k hk; have g := hG'.at' k hk
  exact ⟨f.row X hX, f.val X Y hX hY, f.row Y hY, f.val Y X hY hX, m1, hG'.tab k hk, g.row V hV, m2, i1, g.val V U hV hUn, g.row U hUn, g.val U V hUn hV⟩

/-- An operation of a region is taken first: its slot by its number. -/
theorem takeD {P : Program} {ops : Array Oper} {Q : Exit → Act → World → Prop} {md : Region.Mode} {S : World → Prop} {i d : Nat} {oi : Oper} {v : Value} {fuel : Nat} {listed : Array Bool} {a : Act} {w : World} (hi : ops[i]? = some oi) (hd : oi.dst = some d)
    (hs : Region.noSelect ops = true) (hf : Region.free md ops listed i = true) (hr : (Region.ready md ops listed).contains i = true)
    (hQ : ∀ c a w, Q (.panic c) (a.put (some d) v) w → Q (.panic c) a w) (hy : YieldsIf P ops S oi v a) (hS : S w)
    (h : wpAnyH P md ops Q S fuel (listed.setIfInBounds i true) (a.put (some d) v) w) : wpAnyH P md ops Q S (fuel + 1) listed a w :=
  wpAnyH_take hi hs hf hr (by rw [hd]; exact hQ) hy hS (by rw [hd]; exact h)
/-- One that is not wanted is passed over. -/
theorem skipD {P : Program} {ops : Array Oper} {Q : Exit → Act → World → Prop} {md : Region.Mode} {S : World → Prop} {i d : Nat} {oi : Oper} {fuel : Nat} {listed : Array Bool} {a : Act} {w : World} (hi : ops[i]? = some oi) (hd : oi.dst = some d)
    (hs : Region.noSelect ops = true) (hf : Region.free md ops listed i = true) (hr : (Region.ready md ops listed).contains i = true)
    (hQ : ∀ c a w, Q (.panic c) (a.put (some d) undef) w → Q (.panic c) a w) (hy : Region.wanted oi (yielded ops a.tmps) = false) (hS : S w)
    (h : wpAnyH P md ops Q S fuel (listed.setIfInBounds i true) (a.put (some d) undef) w) : wpAnyH P md ops Q S (fuel + 1) listed a w :=
  wpAnyH_take hi hs hf hr (by rw [hd]; exact hQ) (.inr ⟨hy, rfl⟩) hS (by rw [hd]; exact h)

set_option maxRecDepth 100000 in
set_option maxHeartbeats 8000000 in
theorem c_assign {n K : Nat} {F G : List (List (List Int))} (w0 : World) {fb fo fc gb go' gc : Nat} {tb to tc tb' to' tc' : Nat → Nat} {rb ro rc rb' ro' rc' : Nat → Nat → Nat} (hF : Tb3 w0 fb fo n K F tb to tc rb ro rc) (hG : Tb3 w0 gb go' n K G tb' to' tc' rb' ro' rc')
    (hKF : K = F.length) (hKG : K = G.length) (hn : n ≤ 12) (hK : K ≤ 12) (hfc : K ≤ fc) (hgc : K ≤ gc) (mb ib ub L : Nat) (hlo : w0.heap.size ≤ mb ∧ w0.heap.size ≤ ib ∧ w0.heap.size ≤ ub) :
    ∀ (d : Nat) (s : MSt) (x v : Int) (a0 : Option Addr) (c0 : Nat) (w : World), MpS n s → n < s.st.length + d → InN n x → InN n v → Below w0.heap.size w0 w → L ≤ w.heap.size → MapAt w mb ib ub n L (.slice (some ⟨fb, fo, none⟩) K fc) (.slice (some ⟨gb, go', none⟩) K gc) a0 c0 s.im s.us s.st →
      Calls Try.prog 77 #[.pointer (some ⟨mb, 0, none⟩), .int .i64 x, .int .i64 v] w (RAs mb ib ub n L (.slice (some ⟨fb, fo, none⟩) K fc) (.slice (some ⟨gb, go', none⟩) K gc) a0 c0 (asg F G n d s x v) w) := by
  have HT := Lib.hid (And.intro (hF.tabs hKF) (hG.tabs hKG))
  have HFG := Lib.hid (And.intro hF hG)
  have HKK := Lib.hid (And.intro hKF hKG)
  have hneq : F.length = G.length := by omega
  have HGood := Lib.hid (fun d m (h : n < m + d) => asg_good HT.out.1 HT.out.2 hneq d m h)
  have HLo := Lib.hid hlo
  have HEq := Lib.hid hneq
  clear hF hG hKF hKG hlo hneq
  intro d
  induction d with
  | zero => intro s x v a0 c0 w hm hd; have := Mp.len hm; omega
  | succ d ih =>
    intro s x v a0 c0 w hm hd hx hv hb hL hM
    have IH := Lib.hid ih
    obtain ⟨m0, m1, m2, m3, m4, m5⟩ := hM.cells
    have HM := Lib.hid hM; have HB := Lib.hid hb; have HMp := Lib.hid hm; have HD := Lib.hid hd; have HX := Lib.hid hx; have HV := Lib.hid hv
    obtain ⟨X, rfl⟩ : ∃ X : Nat, x = X := ⟨x.toNat, by have := hx.1; omega⟩
    obtain ⟨V, rfl⟩ : ∃ V : Nat, v = V := ⟨v.toNat, by have := hv.1; omega⟩
    have hxn : (X : Int) < n := hx.2
    have hvn : (V : Int) < n := hv.2
    obtain ⟨gi, gi2⟩ := hM.imc X (by omega) (by rw [Mp.imL hm]; exact hxn)
    obtain ⟨gu, gu2⟩ := hM.usc V (by omega) (by rw [Mp.usL hm]; exact hvn)
    simp only [Int.toNat_natCast] at gi gi2 gu gu2
    by_cases h0 : 0 ≤ nth s.im X
    case pos =>
      have he : asg F G n (d + 1) s X V = (nth s.im X == V, s) := by simp only [asg]; rw [if_pos h0]
      rw [he]
      have h0' : nth s.im X ≥ 0 := h0
      clear ih hm hd hx hv hb hM he
      go_enter Try.func77, Try.ntmps77
      go_wp2
      go_ret
      exact ⟨a0, c0, rfl, HM.out, Ph.refl _ _ _ _ _ _ _⟩
    have h0' : ¬ nth s.im X ≥ 0 := h0
    by_cases hu : nthB s.us V = true
    case pos =>
      have he : asg F G n (d + 1) s X V = (false, s) := by simp only [asg]; rw [if_neg h0, if_pos hu]
      rw [he]
      rw [hu] at gu
      clear ih hm hd hx hv hb hM he hu
      go_enter Try.func77, Try.ntmps77
      go_wp2
      go_ret
      exact ⟨a0, c0, rfl, HM.out, Ph.refl _ _ _ _ _ _ _⟩
    have hu' : nthB s.us V = false := by simpa using hu
    rw [hu'] at gu
    obtain ⟨fin, hfin⟩ : ∃ fin, outA F G (asg F G n d) X V (n + 1) 0 (putA s X V) = fin := ⟨_, rfl⟩
    have he : asg F G n (d + 1) s X V = fin := by simp only [asg]; rw [if_neg h0, if_neg hu, hfin]
    rw [he]
    have HFin := Lib.hid hfin
    have HLp := Lib.hid (lp_put (F := F) (G := G) hm hx hv (by omega) hu')
    obtain ⟨n1, n2, n3, n4, n5, n6⟩ := hM.ne
    have HN := Lib.hid hM.ne
    have hNn : s.st.length ≤ n := Mp.len hm
    have HM1 := Lib.hid (show MapAt ((w.setCell ⟨ib, X, none⟩ (.int .i64 V)).setCell ⟨ub, V, none⟩ (.bool true)).drew mb ib ub n L (.slice (some ⟨fb, fo, none⟩) K fc) (.slice (some ⟨gb, go', none⟩) K gc) a0 c0 (putA s X V).im (putA s X V).us s.st by
      have := (hM.write X V true V).drew
      simpa [putA] using this)
    have HP1 := Lib.hid (show Ph n mb ib ub a0 c0 w a0 c0 ((w.setCell ⟨ib, X, none⟩ (.int .i64 V)).setCell ⟨ub, V, none⟩ (.bool true)).drew from
      ⟨(((Keep.refl _ w).setCell (p := ⟨ib, X, none⟩) (.inl (.inr (.inl rfl))) _).setCell (p := ⟨ub, V, none⟩) (.inl (.inr (.inr (.inl rfl)))) _).drew, fun _ => ⟨rfl, rfl⟩, fun _ h => .inl h⟩)
    clear ih hm hd hx hv hb hM he hu hu' hfin h0
    go_enter Try.func77, Try.ntmps77
    go_wp2_with fail
    go_region
    generalize ((w.setCell ⟨ib, X, none⟩ (.int .i64 V)).setCell ⟨ub, V, none⟩ (.bool true)).drew = w1 at *
    clear m0 m1 m2 m3 m4 m5 gi gi2 gu gu2
    obtain ⟨m0, m1, m2, m3, m4, m5⟩ := HM1.out.cells
    have hL1 : L ≤ w1.heap.size := Nat.le_trans hL HP1.out.1.size
    have HL1 := Lib.hid hL1
    have HOw := Lib.hid HM1.out.own
    go_wp2_with (at_builtin; refine wpList_app_intP L w1 a0 c0 s.st (X : Int) _ _ rfl rfl rfl HOw.out rfl (by omega) HL1.out ?_; intro a1 c1 w3 h1 h2 h3 h4; have hq := HM1.out.box.of_block (h2.block _ HM1.out.box.lt (fun e => by have := (HOw.out.ownLt e).1; omega)); have q4 := hq.cell (i := 4) (by simp); have q5 := hq.frozen 4; have Ho3 := Lib.hid h1; have Hk3 := Lib.hid h2; have Hr3 := Lib.hid h3; have Hf3 := Lib.hid h4; clear h1 h2 h3 h4 hq)
    have hputl : (putA s X V).st.length ≤ n := Mp.len HLp.out.mS
    have HM2 := Lib.hid (show MapAt (w3.setCell ⟨mb, 4, none⟩ (.slice a1 (s.st.length + 1) c1)) mb ib ub n L (.slice (some ⟨fb, fo, none⟩) K fc) (.slice (some ⟨gb, go', none⟩) K gc) a1 c1 (putA s X V).im (putA s X V).us (putA s X V).st by
      have := HM1.out.reslice (a' := a1) (c' := c1) (st' := s.st ++ [(X : Int)]) Hk3.out (by simpa using Ho3.out)
      simpa [putA] using this)
    have HP2 := Lib.hid (show Ph n mb ib ub a0 c0 w a1 c1 (w3.setCell ⟨mb, 4, none⟩ (.slice a1 (s.st.length + 1) c1)) from
      HP1.out.trans ⟨(Hk3.out.mono fun b _ e => .inr (.inr (.inr ((own_irr a0 0 c0 s.st.length c0).trans e)))).setCell (p := ⟨mb, 4, none⟩) (.inl (.inl rfl)) _, fun hc => Hr3.out (by simp [putA] at hputl; omega), fun b hb => by
        have := Hf3.out b ((own_irr a1 _ c1 0 c1).trans hb)
        rwa [own_irr a0 _ c0 0 c0] at this⟩)
    generalize w3.setCell ⟨mb, 4, none⟩ (.slice a1 (s.st.length + 1) c1) = w4 at *
    have HBel := Lib.hid (fun a c W (h : Ph n mb ib ub a0 c0 w a c W) => h.below HM.out HLo.out HB.out)
    have HLe := Lib.hid (fun a c W (h : Ph n mb ib ub a0 c0 w a c W) => Nat.le_trans hL h.1.size)
    clear q4 q5 Ho3 Hk3 Hr3 Hf3 HM1 HP1 m0 m1 m2 m3 m4 m5 hL1 HL1 HOw h0' HN n1 n2 n3 n4 n5 n6 HM
    go_loopw [7] (fun i wr => ∃ (j : Nat) (s1 : MSt) (a : Option Addr) (c : Nat), j ≤ s1.st.length ∧ i = .int .i64 j ∧ Hid (LpS n F G s X V j 0 false s1) ∧ Hid (outA F G (asg F G n d) X V (n + 1 - j) j s1 = fin) ∧ Hid (MapAt wr mb ib ub n L (.slice (some ⟨fb, fo, none⟩) K fc) (.slice (some ⟨gb, go', none⟩) K gc) a c s1.im s1.us s1.st) ∧ Hid (Ph n mb ib ub a0 c0 w a c wr)) (fun i _ => n + 1 - (intOf i).toNat)
    case atStart => exact ⟨0, putA s X V, a1, c1, Nat.zero_le _, rfl, HLp, HFin, HM2, HP2⟩
    case round =>
      clear HLp HFin HM2 HP2 hputl
      obtain ⟨j, s1, a, c, hj1, rfl, HLp, HFin, HM, HP⟩ := hrel
      obtain ⟨wo, rfl⟩ : ∃ wo : World, wo = wr := ⟨_, rfl⟩
      obtain ⟨m0, m1, m2, m3, m4, m5⟩ := HM.out.cells
      have hs1n : s1.st.length ≤ n := Mp.len HLp.out.mS
      by_cases hj : j < s1.st.length
      · obtain ⟨Y, hY⟩ : ∃ Y : Nat, nth s1.st j = Y := ⟨(nth s1.st j).toNat, by have := ((Lp.mp HLp.out).img hj).1.1; omega⟩
        obtain ⟨b, o, ha, hcell⟩ := HM.out.own.ints.get j hj
        subst ha
        rw [hY] at hcell
        have HY := Lib.hid hY
        have HFin2 := Lib.hid (show (if (rowA F G (asg F G n d) X V j (F.length - 0) 0 s1).1 then outA F G (asg F G n d) X V (n - j) (j + 1) (rowA F G (asg F G n d) X V j (F.length - 0) 0 s1).2 else rowA F G (asg F G n d) X V j (F.length - 0) 0 s1) = fin by
          have e := HFin.out
          rw [show n + 1 - j = (n - j) + 1 by omega] at e
          simp only [outA] at e
          rw [if_pos hj] at e
          exact e)
        clear hY HFin
        go_wp2
        go_loopw [79] (fun v79 wr => ∃ (k : Nat) (s2 : MSt) (a : Option Addr) (c : Nat), k ≤ K ∧ v79 = .int .i64 k ∧ Hid (LpS n F G s X V j k false s2) ∧ Hid ((if (rowA F G (asg F G n d) X V j (F.length - k) k s2).1 then outA F G (asg F G n d) X V (n - j) (j + 1) (rowA F G (asg F G n d) X V j (F.length - k) k s2).2 else rowA F G (asg F G n d) X V j (F.length - k) k s2) = fin) ∧ Hid (nth s2.st j = Y ∧ s1.st.length ≤ s2.st.length) ∧ Hid (MapAt wr mb ib ub n L (.slice (some ⟨fb, fo, none⟩) K fc) (.slice (some ⟨gb, go', none⟩) K gc) a c s2.im s2.us s2.st) ∧ Hid (Ph n mb ib ub a0 c0 w a c wr)) (fun v79 _ => K - (intOf v79).toNat)
        case atStart => exact ⟨0, s1, _, c, Nat.zero_le _, rfl, HLp, HFin2, Lib.hid ⟨HY.out, Nat.le_refl _⟩, HM, HP⟩
        case round =>
          clear HLp HFin2 HM HP HY hcell m0 m1 m2 m3 m4 m5
          obtain ⟨k, s2, a2, c2, hk, rfl, HLp, HFin, HY, HM, HP⟩ := hrel
          obtain ⟨wi, rfl⟩ : ∃ wi : World, wi = wr := ⟨_, rfl⟩
          have hs2n : s2.st.length ≤ n := Mp.len HLp.out.mS
          have hji : j < s2.st.length := by have := HY.out.2; omega
          by_cases hkK : k < K
          · obtain ⟨U, hU⟩ : ∃ U : Nat, nth s2.im Y = U := ⟨(nth s2.im Y).toNat, by have := ((Lp.mp HLp.out).img hji).2.1; rw [HY.out.1] at this; omega⟩
            have hYn : Y < n := by have := ((Lp.mp HLp.out).img hji).1.2; rw [HY.out.1] at this; omega
            have hUn : U < n := by have := ((Lp.mp HLp.out).img hji).2.2; rw [HY.out.1, hU] at this; omega
            have hf := HGood.out d (s.st.length + 1) (by have := HD.out; omega)
            have hlong := HLp.out.longer
            have hkF : k < F.length := by rw [← HKK.out.1]; exact hkK
            obtain ⟨z1in, z2in, A1⟩ := first_call hf HT.out.1 HT.out.2 HEq.out HLp.out hji hkF hlong
            have A1' := first_lp hf HT.out.1 HT.out.2 HEq.out HLp.out hji hkF hlong
            have A2' := second_call hf HT.out.1 HT.out.2 HEq.out HLp.out hji hkF hlong
            have A3' := (step_ok hf HT.out.1 HT.out.2 HEq.out HLp.out hji hkF hlong)
            obtain ⟨q1, hq1⟩ : ∃ z, val2 (F.getD k []) X Y = z := ⟨_, rfl⟩
            obtain ⟨q2, hq2⟩ : ∃ z, val2 (F.getD k []) Y X = z := ⟨_, rfl⟩
            obtain ⟨q3, hq3⟩ : ∃ z, val2 (G.getD k []) V U = z := ⟨_, rfl⟩
            obtain ⟨q4, hq4⟩ : ∃ z, val2 (G.getD k []) U V = z := ⟨_, rfl⟩
            have e1 : argA1 F X j k s2 = q1 := by unfold argA1; rw [HY.out.1, hq1]
            have e2 : argA2 G V j k s2 = q3 := by unfold argA2; rw [HY.out.1, hU, hq3]
            have e3 : argB1 F X j k s2 = q2 := by unfold argB1; rw [HY.out.1, hq2]
            have e4 : argB2 G V j k s2 = q4 := by unfold argB2; rw [HY.out.1, hU, hq4]
            have hl2 : s2.im.length = n := Mp.imL HLp.out.mS
            have HPC : Hid (∀ W, Below w0.heap.size w0 W → ∀ a c im us st, MapAt W mb ib ub n L (.slice (some ⟨fb, fo, none⟩) K fc) (.slice (some ⟨gb, go', none⟩) K gc) a c im us st → im.length = n → nth im Y = U → W.cell? ⟨tb k, to k + X, none⟩ = some (.slice (some ⟨rb k X, ro k X, none⟩) n (rc k X)) ∧ W.cell? ⟨rb k X, ro k X + Y, none⟩ = some (.int .i64 (q1)) ∧ W.cell? ⟨tb k, to k + Y, none⟩ = some (.slice (some ⟨rb k Y, ro k Y, none⟩) n (rc k Y)) ∧ W.cell? ⟨rb k Y, ro k Y + X, none⟩ = some (.int .i64 (q2)) ∧ W.cell? ⟨mb, 1, none⟩ = some (.slice (some ⟨gb, go', none⟩) K gc) ∧ W.cell? ⟨gb, go' + k, none⟩ = some (.slice (some ⟨tb' k, to' k, none⟩) n (tc' k)) ∧ W.cell? ⟨tb' k, to' k + V, none⟩ = some (.slice (some ⟨rb' k V, ro' k V, none⟩) n (rc' k V)) ∧ W.cell? ⟨mb, 2, none⟩ = some (.slice (some ⟨ib, 0, none⟩) n n) ∧ W.cell? ⟨ib, Y, none⟩ = some (.int .i64 U) ∧ W.cell? ⟨rb' k V, ro' k V + U, none⟩ = some (.int .i64 (q3)) ∧ W.cell? ⟨tb' k, to' k + U, none⟩ = some (.slice (some ⟨rb' k U, ro' k U, none⟩) n (rc' k U)) ∧ W.cell? ⟨rb' k U, ro' k U + V, none⟩ = some (.int .i64 (q4))) := Lib.hid fun W hb a c im us st hM hl hU => by
              have := pair_cells (X := X) (V := V) (Y := Y) (U := U) HFG.out.1 HFG.out.2 hb hM hkK hl (by omega) (by omega) hYn hUn hU
              rw [hq1, hq2, hq3, hq4] at this
              exact this
            obtain ⟨p1, hp1⟩ : ∃ p, asg F G n d s2 (argA1 F X j k s2) (argA2 G V j k s2) = p := ⟨_, rfl⟩
            rw [hp1] at A1 A1' A2'
            have HC1 : Hid (∀ W, Below w0.heap.size w0 W → L ≤ W.heap.size → MapAt W mb ib ub n L (.slice (some ⟨fb, fo, none⟩) K fc) (.slice (some ⟨gb, go', none⟩) K gc) a2 c2 s2.im s2.us s2.st → Calls Try.prog 77 #[.pointer (some ⟨mb, 0, none⟩), .int .i64 (q1), .int .i64 (q3)] W (RAs mb ib ub n L (.slice (some ⟨fb, fo, none⟩) K fc) (.slice (some ⟨gb, go', none⟩) K gc) a2 c2 p1 W)) := Lib.hid fun W hb hL hM => by
              have := IH.out s2 _ _ a2 c2 W HLp.out.mS (by have := HD.out; omega) z1in z2in hb hL hM
              rw [hp1, e1, e2] at this; exact this
            have hUU : nth p1.2.im Y = U := by
              have hmi := ((Lp.mp HLp.out).mem _).1 (nth_memN hji)
              rw [HY.out.1] at hmi
              rw [Asg.more A1 _ hmi.1 hmi.2, hU]
            have hl3 : p1.2.im.length = n := Mp.imL (Asg.mp A1)
            have hbi := HBel.out _ _ _ HP.out
            have hLi := HLe.out _ _ _ HP.out
            have hfk := (HFG.out.1.below hbi).tab k hkK
            have HBi : Hid (Below w0.heap.size w0 wi.drew) := Lib.hid hbi.drew
            have HLi : Hid (L ≤ wi.drew.heap.size) := Lib.hid hLi
            have HPd := Lib.hid HP.out.drew
            have HMd := Lib.hid HM.out.drew
            have HUx := Lib.hid (And.intro (And.intro hl2 hU) (And.intro hl3 hUU))
            by_cases hb1 : p1.1 = true
            case neg =>
              have hb1' : p1.1 = false := by simpa using hb1
              have HFn := Lib.hid (rest_false HFin.out hkF (stepA_ff hp1 hb1') hb1')
              have HB1 := Lib.hid hb1'
              obtain ⟨x1, x2, x3, x4, x5, x6, x7, x8, x9, x10, x11, x12⟩ := HPC.out _ hbi _ _ _ _ _ HM.out hl2 hU
              clear hq1 hq2 hq3 hq4 A1 A1' A2' A3' hf hp1 e1 e2 e3 e4 z1in z2in hl2 hl3 hUU hb1 hb1' hU hbi hLi
              go_wp2_with fail
              refine wp_region_held_drew (S := (fun w' => w'.cell? ⟨tb k, to k + X, none⟩ = some (.slice (some ⟨rb k X, ro k X, none⟩) n (rc k X)) ∧ w'.cell? ⟨rb k X, ro k X + Y, none⟩ = some (.int .i64 (q1)) ∧ w'.cell? ⟨tb k, to k + Y, none⟩ = some (.slice (some ⟨rb k Y, ro k Y, none⟩) n (rc k Y)) ∧ w'.cell? ⟨rb k Y, ro k Y + X, none⟩ = some (.int .i64 (q2)) ∧ w'.cell? ⟨mb, 1, none⟩ = some (.slice (some ⟨gb, go', none⟩) K gc) ∧ w'.cell? ⟨gb, go' + k, none⟩ = some (.slice (some ⟨tb' k, to' k, none⟩) n (tc' k)) ∧ w'.cell? ⟨tb' k, to' k + V, none⟩ = some (.slice (some ⟨rb' k V, ro' k V, none⟩) n (rc' k V)) ∧ w'.cell? ⟨mb, 2, none⟩ = some (.slice (some ⟨ib, 0, none⟩) n n) ∧ w'.cell? ⟨ib, Y, none⟩ = some (.int .i64 U) ∧ w'.cell? ⟨rb' k V, ro' k V + U, none⟩ = some (.int .i64 (q3)) ∧ w'.cell? ⟨tb' k, to' k + U, none⟩ = some (.slice (some ⟨rb' k U, ro' k U, none⟩) n (rc' k U)) ∧ w'.cell? ⟨rb' k U, ro' k U + V, none⟩ = some (.int .i64 (q4)))) (by kernel_rfl) ?_ (fun hHeld => ?_)
              · exact HPC.out _ HBi.out _ _ _ _ _ HMd.out HUx.out.1.1 HUx.out.1.2
              refine takeD (i := 0) (d := 84) (v := ?_) rfl rfl (by kernel_rfl) (by kernel_rfl) (by kernel_rfl) (fun _ _ _ h => h) (Or.inl ⟨by rfl, ?_⟩) (by assumption) ?_
              rotate_left
              · (intro w hSw; (try dsimp only at hSw); go_simp; try rfl)
              try simp only [Act.put, List.setIfInBounds_toArray, List.set_cons_zero, List.set_cons_succ]
              refine takeD (i := 1) (d := 85) (v := ?_) rfl rfl (by kernel_rfl) (by kernel_rfl) (by kernel_rfl) (fun _ _ _ h => h) (Or.inl ⟨by rfl, ?_⟩) (by assumption) ?_
              rotate_left
              · (intro w hSw; (try dsimp only at hSw); go_simp; try rfl)
              try simp only [Act.put, List.setIfInBounds_toArray, List.set_cons_zero, List.set_cons_succ]
              refine takeD (i := 2) (d := 86) (v := ?_) rfl rfl (by kernel_rfl) (by kernel_rfl) (by kernel_rfl) (fun _ _ _ h => h) (Or.inl ⟨by rfl, ?_⟩) (by assumption) ?_
              rotate_left
              · (intro w hSw; (try dsimp only at hSw); go_simp; try rfl)
              try simp only [Act.put, List.setIfInBounds_toArray, List.set_cons_zero, List.set_cons_succ]
              refine takeD (i := 3) (d := 87) (v := ?_) rfl rfl (by kernel_rfl) (by kernel_rfl) (by kernel_rfl) (fun _ _ _ h => h) (Or.inl ⟨by rfl, ?_⟩) (by assumption) ?_
              rotate_left
              · (intro w hSw; (try dsimp only at hSw); go_simp; try rfl)
              try simp only [Act.put, List.setIfInBounds_toArray, List.set_cons_zero, List.set_cons_succ]
              refine takeD (i := 4) (d := 88) (v := ?_) rfl rfl (by kernel_rfl) (by kernel_rfl) (by kernel_rfl) (fun _ _ _ h => h) (Or.inl ⟨by rfl, ?_⟩) (by assumption) ?_
              rotate_left
              · (intro w hSw; (try dsimp only at hSw); go_simp; try rfl)
              try simp only [Act.put, List.setIfInBounds_toArray, List.set_cons_zero, List.set_cons_succ]
              refine takeD (i := 5) (d := 89) (v := ?_) rfl rfl (by kernel_rfl) (by kernel_rfl) (by kernel_rfl) (fun _ _ _ h => h) (Or.inl ⟨by rfl, ?_⟩) (by assumption) ?_
              rotate_left
              · (intro w hSw; (try dsimp only at hSw); go_simp; try rfl)
              try simp only [Act.put, List.setIfInBounds_toArray, List.set_cons_zero, List.set_cons_succ]
              refine takeD (i := 6) (d := 90) (v := ?_) rfl rfl (by kernel_rfl) (by kernel_rfl) (by kernel_rfl) (fun _ _ _ h => h) (Or.inl ⟨by rfl, ?_⟩) (by assumption) ?_
              rotate_left
              · (intro w hSw; (try dsimp only at hSw); go_simp; try rfl)
              try simp only [Act.put, List.setIfInBounds_toArray, List.set_cons_zero, List.set_cons_succ]
              refine takeD (i := 7) (d := 91) (v := ?_) rfl rfl (by kernel_rfl) (by kernel_rfl) (by kernel_rfl) (fun _ _ _ h => h) (Or.inl ⟨by rfl, ?_⟩) (by assumption) ?_
              rotate_left
              · (intro w hSw; (try dsimp only at hSw); go_simp; try rfl)
              try simp only [Act.put, List.setIfInBounds_toArray, List.set_cons_zero, List.set_cons_succ]
              refine takeD (i := 8) (d := 92) (v := ?_) rfl rfl (by kernel_rfl) (by kernel_rfl) (by kernel_rfl) (fun _ _ _ h => h) (Or.inl ⟨by rfl, ?_⟩) (by assumption) ?_
              rotate_left
              · (intro w hSw; (try dsimp only at hSw); go_simp; try rfl)
              try simp only [Act.put, List.setIfInBounds_toArray, List.set_cons_zero, List.set_cons_succ]
              refine takeD (i := 9) (d := 93) (v := ?_) rfl rfl (by kernel_rfl) (by kernel_rfl) (by kernel_rfl) (fun _ _ _ h => h) (Or.inl ⟨by rfl, ?_⟩) (by assumption) ?_
              rotate_left
              · (intro w hSw; (try dsimp only at hSw); go_simp; try rfl)
              try simp only [Act.put, List.setIfInBounds_toArray, List.set_cons_zero, List.set_cons_succ]
              refine takeD (i := 10) (d := 94) (v := ?_) rfl rfl (by kernel_rfl) (by kernel_rfl) (by kernel_rfl) (fun _ _ _ h => h) (Or.inl ⟨by rfl, ?_⟩) (by assumption) ?_
              rotate_left
              · (intro w hSw; (try dsimp only at hSw); go_simp; try rfl)
              try simp only [Act.put, List.setIfInBounds_toArray, List.set_cons_zero, List.set_cons_succ]
              refine takeD (i := 11) (d := 95) (v := ?_) rfl rfl (by kernel_rfl) (by kernel_rfl) (by kernel_rfl) (fun _ _ _ h => h) (Or.inl ⟨by rfl, ?_⟩) (by assumption) ?_
              rotate_left
              · (intro w hSw; (try dsimp only at hSw); go_simp; try rfl)
              try simp only [Act.put, List.setIfInBounds_toArray, List.set_cons_zero, List.set_cons_succ]
              refine takeD (i := 12) (d := 96) (v := ?_) rfl rfl (by kernel_rfl) (by kernel_rfl) (by kernel_rfl) (fun _ _ _ h => h) (Or.inl ⟨by rfl, ?_⟩) (by assumption) ?_
              rotate_left
              · (intro w hSw; (try dsimp only at hSw); go_simp; try rfl)
              try simp only [Act.put, List.setIfInBounds_toArray, List.set_cons_zero, List.set_cons_succ]
              refine takeD (i := 13) (d := 97) (v := ?_) rfl rfl (by kernel_rfl) (by kernel_rfl) (by kernel_rfl) (fun _ _ _ h => h) (Or.inl ⟨by rfl, ?_⟩) (by assumption) ?_
              rotate_left
              · (intro w hSw; (try dsimp only at hSw); go_simp; try rfl)
              try simp only [Act.put, List.setIfInBounds_toArray, List.set_cons_zero, List.set_cons_succ]
              refine takeD (i := 14) (d := 98) (v := ?_) rfl rfl (by kernel_rfl) (by kernel_rfl) (by kernel_rfl) (fun _ _ _ h => h) (Or.inl ⟨by rfl, ?_⟩) (by assumption) ?_
              rotate_left
              · (intro w hSw; (try dsimp only at hSw); go_simp; try rfl)
              try simp only [Act.put, List.setIfInBounds_toArray, List.set_cons_zero, List.set_cons_succ]
              refine takeD (i := 15) (d := 99) (v := ?_) rfl rfl (by kernel_rfl) (by kernel_rfl) (by kernel_rfl) (fun _ _ _ h => h) (Or.inl ⟨by rfl, ?_⟩) (by assumption) ?_
              rotate_left
              · (intro w hSw; (try dsimp only at hSw); go_simp; try rfl)
              try simp only [Act.put, List.setIfInBounds_toArray, List.set_cons_zero, List.set_cons_succ]
              refine takeD (i := 16) (d := 100) (v := ?_) rfl rfl (by kernel_rfl) (by kernel_rfl) (by kernel_rfl) (fun _ _ _ h => h) (Or.inl ⟨by rfl, ?_⟩) (by assumption) ?_
              rotate_left
              · (intro w hSw; (try dsimp only at hSw); go_simp; try rfl)
              try simp only [Act.put, List.setIfInBounds_toArray, List.set_cons_zero, List.set_cons_succ]
              refine takeD (i := 17) (d := 101) (v := ?_) rfl rfl (by kernel_rfl) (by kernel_rfl) (by kernel_rfl) (fun _ _ _ h => h) (Or.inl ⟨by rfl, ?_⟩) (by assumption) ?_
              rotate_left
              · (intro w hSw; (try dsimp only at hSw); go_simp; try rfl)
              try simp only [Act.put, List.setIfInBounds_toArray, List.set_cons_zero, List.set_cons_succ]
              refine takeD (i := 18) (d := 102) (v := ?_) rfl rfl (by kernel_rfl) (by kernel_rfl) (by kernel_rfl) (fun _ _ _ h => h) (Or.inl ⟨by rfl, ?_⟩) (by assumption) ?_
              rotate_left
              · (intro w hSw; (try dsimp only at hSw); go_simp; try rfl)
              try simp only [Act.put, List.setIfInBounds_toArray, List.set_cons_zero, List.set_cons_succ]
              refine takeD (i := 19) (d := 103) (v := ?_) rfl rfl (by kernel_rfl) (by kernel_rfl) (by kernel_rfl) (fun _ _ _ h => h) (Or.inl ⟨by rfl, ?_⟩) (by assumption) ?_
              rotate_left
              · (intro w hSw; (try dsimp only at hSw); go_simp; try rfl)
              try simp only [Act.put, List.setIfInBounds_toArray, List.set_cons_zero, List.set_cons_succ]
              refine takeD (i := 20) (d := 104) (v := ?_) rfl rfl (by kernel_rfl) (by kernel_rfl) (by kernel_rfl) (fun _ _ _ h => h) (Or.inl ⟨by rfl, ?_⟩) (by assumption) ?_
              rotate_left
              · (intro w hSw; (try dsimp only at hSw); go_simp; try rfl)
              try simp only [Act.put, List.setIfInBounds_toArray, List.set_cons_zero, List.set_cons_succ]
              refine takeD (i := 21) (d := 105) (v := ?_) rfl rfl (by kernel_rfl) (by kernel_rfl) (by kernel_rfl) (fun _ _ _ h => h) (Or.inl ⟨by rfl, ?_⟩) (by assumption) ?_
              rotate_left
              · (intro w hSw; (try dsimp only at hSw); go_simp; try rfl)
              try simp only [Act.put, List.setIfInBounds_toArray, List.set_cons_zero, List.set_cons_succ]
              refine takeD (i := 22) (d := 106) (v := ?_) rfl rfl (by kernel_rfl) (by kernel_rfl) (by kernel_rfl) (fun _ _ _ h => h) (Or.inl ⟨by rfl, ?_⟩) (by assumption) ?_
              rotate_left
              · (intro w hSw; (try dsimp only at hSw); go_simp; try rfl)
              try simp only [Act.put, List.setIfInBounds_toArray, List.set_cons_zero, List.set_cons_succ]
              refine takeD (i := 23) (d := 107) (v := ?_) rfl rfl (by kernel_rfl) (by kernel_rfl) (by kernel_rfl) (fun _ _ _ h => h) (Or.inl ⟨by rfl, ?_⟩) (by assumption) ?_
              rotate_left
              · (intro w hSw; (try dsimp only at hSw); go_simp; try rfl)
              try simp only [Act.put, List.setIfInBounds_toArray, List.set_cons_zero, List.set_cons_succ]
              refine takeD (i := 24) (d := 108) (v := ?_) rfl rfl (by kernel_rfl) (by kernel_rfl) (by kernel_rfl) (fun _ _ _ h => h) (Or.inl ⟨by rfl, ?_⟩) (by assumption) ?_
              rotate_left
              · (intro w hSw; (try dsimp only at hSw); go_simp; try rfl)
              try simp only [Act.put, List.setIfInBounds_toArray, List.set_cons_zero, List.set_cons_succ]
              refine takeD (i := 25) (d := 109) (v := ?_) rfl rfl (by kernel_rfl) (by kernel_rfl) (by kernel_rfl) (fun _ _ _ h => h) (Or.inl ⟨by rfl, ?_⟩) (by assumption) ?_
              rotate_left
              · (intro w hSw; (try dsimp only at hSw); go_simp; try rfl)
              try simp only [Act.put, List.setIfInBounds_toArray, List.set_cons_zero, List.set_cons_succ]
              refine takeD (i := 26) (d := 110) (v := ?_) rfl rfl (by kernel_rfl) (by kernel_rfl) (by kernel_rfl) (fun _ _ _ h => h) (Or.inl ⟨by rfl, ?_⟩) (by assumption) ?_
              rotate_left
              · (intro w hSw; (try dsimp only at hSw); go_simp; try rfl)
              try simp only [Act.put, List.setIfInBounds_toArray, List.set_cons_zero, List.set_cons_succ]
              refine wpAnyH_ready (rs := [27]) (by kernel_rfl) (by simp) ?_
              refine AllReadyH.cons rfl (fun K hK => ?_) AllReadyH.nil
              go_simp
              (go_at_call 77; (with_reducible refine (HC1.out _ HBi.out HLi.out HMd.out).mono ?_); rintro e w3 ⟨a3, c3, rfl, hM3, hP3⟩; have M3 := Lib.hid hM3; have P3 := Lib.hid (HPd.out.trans hP3); have B3 := Lib.hid (HBel.out _ _ _ (HPd.out.trans hP3)); rw [HB1.out]; clear hM3 hP3)
              refine hK.out _ _ ?_ (fun hHeld => ?_)
              · exact HPC.out _ B3.out _ _ _ _ _ M3.out HUx.out.2.1 HUx.out.2.2
              clear hK K
              try simp only [Act.put, List.setIfInBounds_toArray, List.set_cons_zero, List.set_cons_succ]
              refine takeD (i := 28) (d := 112) (v := ?_) rfl rfl (by kernel_rfl) (by kernel_rfl) (by kernel_rfl) (fun _ _ _ h => h) (Or.inl ⟨by rfl, ?_⟩) (by assumption) ?_
              rotate_left
              · (intro w hSw; (try dsimp only at hSw); go_simp; try rfl)
              try simp only [Act.put, List.setIfInBounds_toArray, List.set_cons_zero, List.set_cons_succ]
              refine takeD (i := 29) (d := 113) (v := ?_) rfl rfl (by kernel_rfl) (by kernel_rfl) (by kernel_rfl) (fun _ _ _ h => h) (Or.inl ⟨by rfl, ?_⟩) (by assumption) ?_
              rotate_left
              · (intro w hSw; (try dsimp only at hSw); go_simp; try rfl)
              try simp only [Act.put, List.setIfInBounds_toArray, List.set_cons_zero, List.set_cons_succ]
              refine skipD (i := 30) (d := 114) rfl rfl (by kernel_rfl) (by kernel_rfl) (by kernel_rfl) (fun _ _ _ h => h) (by rfl) (by assumption) ?_
              try simp only [Act.put, List.setIfInBounds_toArray, List.set_cons_zero, List.set_cons_succ]
              refine skipD (i := 31) (d := 115) rfl rfl (by kernel_rfl) (by kernel_rfl) (by kernel_rfl) (fun _ _ _ h => h) (by rfl) (by assumption) ?_
              try simp only [Act.put, List.setIfInBounds_toArray, List.set_cons_zero, List.set_cons_succ]
              refine skipD (i := 32) (d := 116) rfl rfl (by kernel_rfl) (by kernel_rfl) (by kernel_rfl) (fun _ _ _ h => h) (by rfl) (by assumption) ?_
              try simp only [Act.put, List.setIfInBounds_toArray, List.set_cons_zero, List.set_cons_succ]
              refine skipD (i := 33) (d := 117) rfl rfl (by kernel_rfl) (by kernel_rfl) (by kernel_rfl) (fun _ _ _ h => h) (by rfl) (by assumption) ?_
              try simp only [Act.put, List.setIfInBounds_toArray, List.set_cons_zero, List.set_cons_succ]
              refine skipD (i := 34) (d := 118) rfl rfl (by kernel_rfl) (by kernel_rfl) (by kernel_rfl) (fun _ _ _ h => h) (by rfl) (by assumption) ?_
              try simp only [Act.put, List.setIfInBounds_toArray, List.set_cons_zero, List.set_cons_succ]
              refine skipD (i := 35) (d := 119) rfl rfl (by kernel_rfl) (by kernel_rfl) (by kernel_rfl) (fun _ _ _ h => h) (by rfl) (by assumption) ?_
              try simp only [Act.put, List.setIfInBounds_toArray, List.set_cons_zero, List.set_cons_succ]
              refine skipD (i := 36) (d := 120) rfl rfl (by kernel_rfl) (by kernel_rfl) (by kernel_rfl) (fun _ _ _ h => h) (by rfl) (by assumption) ?_
              try simp only [Act.put, List.setIfInBounds_toArray, List.set_cons_zero, List.set_cons_succ]
              refine skipD (i := 37) (d := 121) rfl rfl (by kernel_rfl) (by kernel_rfl) (by kernel_rfl) (fun _ _ _ h => h) (by rfl) (by assumption) ?_
              try simp only [Act.put, List.setIfInBounds_toArray, List.set_cons_zero, List.set_cons_succ]
              refine skipD (i := 38) (d := 122) rfl rfl (by kernel_rfl) (by kernel_rfl) (by kernel_rfl) (fun _ _ _ h => h) (by rfl) (by assumption) ?_
              try simp only [Act.put, List.setIfInBounds_toArray, List.set_cons_zero, List.set_cons_succ]
              refine skipD (i := 39) (d := 123) rfl rfl (by kernel_rfl) (by kernel_rfl) (by kernel_rfl) (fun _ _ _ h => h) (by rfl) (by assumption) ?_
              try simp only [Act.put, List.setIfInBounds_toArray, List.set_cons_zero, List.set_cons_succ]
              refine skipD (i := 40) (d := 124) rfl rfl (by kernel_rfl) (by kernel_rfl) (by kernel_rfl) (fun _ _ _ h => h) (by rfl) (by assumption) ?_
              try simp only [Act.put, List.setIfInBounds_toArray, List.set_cons_zero, List.set_cons_succ]
              refine skipD (i := 41) (d := 125) rfl rfl (by kernel_rfl) (by kernel_rfl) (by kernel_rfl) (fun _ _ _ h => h) (by rfl) (by assumption) ?_
              try simp only [Act.put, List.setIfInBounds_toArray, List.set_cons_zero, List.set_cons_succ]
              refine skipD (i := 42) (d := 126) rfl rfl (by kernel_rfl) (by kernel_rfl) (by kernel_rfl) (fun _ _ _ h => h) (by rfl) (by assumption) ?_
              try simp only [Act.put, List.setIfInBounds_toArray, List.set_cons_zero, List.set_cons_succ]
              refine skipD (i := 43) (d := 127) rfl rfl (by kernel_rfl) (by kernel_rfl) (by kernel_rfl) (fun _ _ _ h => h) (by rfl) (by assumption) ?_
              try simp only [Act.put, List.setIfInBounds_toArray, List.set_cons_zero, List.set_cons_succ]
              refine skipD (i := 44) (d := 128) rfl rfl (by kernel_rfl) (by kernel_rfl) (by kernel_rfl) (fun _ _ _ h => h) (by rfl) (by assumption) ?_
              try simp only [Act.put, List.setIfInBounds_toArray, List.set_cons_zero, List.set_cons_succ]
              refine skipD (i := 45) (d := 129) rfl rfl (by kernel_rfl) (by kernel_rfl) (by kernel_rfl) (fun _ _ _ h => h) (by rfl) (by assumption) ?_
              try simp only [Act.put, List.setIfInBounds_toArray, List.set_cons_zero, List.set_cons_succ]
              refine skipD (i := 46) (d := 130) rfl rfl (by kernel_rfl) (by kernel_rfl) (by kernel_rfl) (fun _ _ _ h => h) (by rfl) (by assumption) ?_
              try simp only [Act.put, List.setIfInBounds_toArray, List.set_cons_zero, List.set_cons_succ]
              refine skipD (i := 47) (d := 131) rfl rfl (by kernel_rfl) (by kernel_rfl) (by kernel_rfl) (fun _ _ _ h => h) (by rfl) (by assumption) ?_
              try simp only [Act.put, List.setIfInBounds_toArray, List.set_cons_zero, List.set_cons_succ]
              refine skipD (i := 48) (d := 132) rfl rfl (by kernel_rfl) (by kernel_rfl) (by kernel_rfl) (fun _ _ _ h => h) (by rfl) (by assumption) ?_
              try simp only [Act.put, List.setIfInBounds_toArray, List.set_cons_zero, List.set_cons_succ]
              refine skipD (i := 49) (d := 133) rfl rfl (by kernel_rfl) (by kernel_rfl) (by kernel_rfl) (fun _ _ _ h => h) (by rfl) (by assumption) ?_
              try simp only [Act.put, List.setIfInBounds_toArray, List.set_cons_zero, List.set_cons_succ]
              refine skipD (i := 50) (d := 134) rfl rfl (by kernel_rfl) (by kernel_rfl) (by kernel_rfl) (fun _ _ _ h => h) (by rfl) (by assumption) ?_
              try simp only [Act.put, List.setIfInBounds_toArray, List.set_cons_zero, List.set_cons_succ]
              refine skipD (i := 51) (d := 135) rfl rfl (by kernel_rfl) (by kernel_rfl) (by kernel_rfl) (fun _ _ _ h => h) (by rfl) (by assumption) ?_
              try simp only [Act.put, List.setIfInBounds_toArray, List.set_cons_zero, List.set_cons_succ]
              refine skipD (i := 52) (d := 136) rfl rfl (by kernel_rfl) (by kernel_rfl) (by kernel_rfl) (fun _ _ _ h => h) (by rfl) (by assumption) ?_
              try simp only [Act.put, List.setIfInBounds_toArray, List.set_cons_zero, List.set_cons_succ]
              refine skipD (i := 53) (d := 137) rfl rfl (by kernel_rfl) (by kernel_rfl) (by kernel_rfl) (fun _ _ _ h => h) (by rfl) (by assumption) ?_
              try simp only [Act.put, List.setIfInBounds_toArray, List.set_cons_zero, List.set_cons_succ]
              refine skipD (i := 54) (d := 138) rfl rfl (by kernel_rfl) (by kernel_rfl) (by kernel_rfl) (fun _ _ _ h => h) (by rfl) (by assumption) ?_
              try simp only [Act.put, List.setIfInBounds_toArray, List.set_cons_zero, List.set_cons_succ]
              refine skipD (i := 55) (d := 139) rfl rfl (by kernel_rfl) (by kernel_rfl) (by kernel_rfl) (fun _ _ _ h => h) (by rfl) (by assumption) ?_
              try simp only [Act.put, List.setIfInBounds_toArray, List.set_cons_zero, List.set_cons_succ]
              refine skipD (i := 56) (d := 140) rfl rfl (by kernel_rfl) (by kernel_rfl) (by kernel_rfl) (fun _ _ _ h => h) (by rfl) (by assumption) ?_
              try simp only [Act.put, List.setIfInBounds_toArray, List.set_cons_zero, List.set_cons_succ]
              refine skipD (i := 57) (d := 141) rfl rfl (by kernel_rfl) (by kernel_rfl) (by kernel_rfl) (fun _ _ _ h => h) (by rfl) (by assumption) ?_
              try simp only [Act.put, List.setIfInBounds_toArray, List.set_cons_zero, List.set_cons_succ]
              refine skipD (i := 58) (d := 142) rfl rfl (by kernel_rfl) (by kernel_rfl) (by kernel_rfl) (fun _ _ _ h => h) (by rfl) (by assumption) ?_
              try simp only [Act.put, List.setIfInBounds_toArray, List.set_cons_zero, List.set_cons_succ]
              refine takeD (i := 59) (d := 143) (v := ?_) rfl rfl (by kernel_rfl) (by kernel_rfl) (by kernel_rfl) (fun _ _ _ h => h) (Or.inl ⟨by rfl, ?_⟩) (by assumption) ?_
              rotate_left
              · (intro w hSw; (try dsimp only at hSw); go_simp; try rfl)
              try simp only [Act.put, List.setIfInBounds_toArray, List.set_cons_zero, List.set_cons_succ]
              refine wpAnyH_done (by kernel_rfl) ?_ _
              clear x1 x2 x3 x4 x5 x6 x7 x8 x9 x10 x11 x12
              go_wp2
              go_ret
              have e := HFn.out
              subst e
              exact ⟨a3, c3, by rw [HB1.out]; rfl, M3.out, P3.out⟩
            obtain ⟨g1, g2, g3, g4⟩ := A1' hb1
            obtain ⟨z3in, z4in, A2⟩ := A2' hb1
            obtain ⟨p2, hp2⟩ : ∃ p, asg F G n d p1.2 (argB1 F X j k s2) (argB2 G V j k s2) = p := ⟨_, rfl⟩
            rw [hp2] at A2
            have hst := stepA_tt hp1 hb1 hp2
            rw [hst] at A3'
            have HC2 : Hid (∀ W a c, Below w0.heap.size w0 W → L ≤ W.heap.size → MapAt W mb ib ub n L (.slice (some ⟨fb, fo, none⟩) K fc) (.slice (some ⟨gb, go', none⟩) K gc) a c p1.2.im p1.2.us p1.2.st → Calls Try.prog 77 #[.pointer (some ⟨mb, 0, none⟩), .int .i64 (q2), .int .i64 (q4)] W (RAs mb ib ub n L (.slice (some ⟨fb, fo, none⟩) K fc) (.slice (some ⟨gb, go', none⟩) K gc) a c p2 W)) := Lib.hid fun W a c hb hL hM => by
              have := IH.out p1.2 _ _ a c W g1.mS (by have := HD.out; omega) z3in z4in hb hL hM
              rw [hp2, e3, e4] at this; exact this
            have hUU4 : nth p2.2.im Y = U := by
              have hji3 : j < p1.2.st.length := by omega
              have hmi := ((Lp.mp g1).mem _).1 (nth_memN hji3)
              rw [g2, HY.out.1] at hmi
              rw [Asg.more A2 _ hmi.1 hmi.2, hUU]
            have hl4 : p2.2.im.length = n := Mp.imL (Asg.mp A2)
            have hg5 : nth p2.2.st j = Y ∧ s1.st.length ≤ p2.2.st.length := by
              have h5 := pre_nth (Asg.pre A2) (i := j) (by omega)
              refine ⟨by rw [h5, g2, HY.out.1], ?_⟩
              have := (Asg.pre A2).length_le
              have := HY.out.2
              omega
            have HUy := Lib.hid (And.intro hl4 hUU4)
            have HB1 := Lib.hid hb1
            obtain ⟨x1, x2, x3, x4, x5, x6, x7, x8, x9, x10, x11, x12⟩ := HPC.out _ hbi _ _ _ _ _ HM.out hl2 hU
            obtain ⟨b2, hb2⟩ : ∃ b, p2.1 = b := ⟨_, rfl⟩
            have HB2 := Lib.hid hb2
            have HFn := Lib.hid (show (p2.1 = false → p2 = fin) ∧ (p2.1 = true → _) from ⟨rest_false HFin.out hkF hst, rest_true HFin.out hkF hst⟩)
            have HA3 := Lib.hid A3'.2
            have HG5 := Lib.hid hg5
            clear hq1 hq2 hq3 hq4 A1 A1' A2' A3' A2 hf hp1 hp2 hst e1 e2 e3 e4 z1in z2in z3in z4in hl2 hl3 hUU hUU4 hl4 hg5 hb1 hU hbi hLi g1 g2 g3 g4 hb2
            go_wp2_with fail
            go_region_held3 (fun w' => w'.cell? ⟨tb k, to k + X, none⟩ = some (.slice (some ⟨rb k X, ro k X, none⟩) n (rc k X)) ∧ w'.cell? ⟨rb k X, ro k X + Y, none⟩ = some (.int .i64 (q1)) ∧ w'.cell? ⟨tb k, to k + Y, none⟩ = some (.slice (some ⟨rb k Y, ro k Y, none⟩) n (rc k Y)) ∧ w'.cell? ⟨rb k Y, ro k Y + X, none⟩ = some (.int .i64 (q2)) ∧ w'.cell? ⟨mb, 1, none⟩ = some (.slice (some ⟨gb, go', none⟩) K gc) ∧ w'.cell? ⟨gb, go' + k, none⟩ = some (.slice (some ⟨tb' k, to' k, none⟩) n (tc' k)) ∧ w'.cell? ⟨tb' k, to' k + V, none⟩ = some (.slice (some ⟨rb' k V, ro' k V, none⟩) n (rc' k V)) ∧ w'.cell? ⟨mb, 2, none⟩ = some (.slice (some ⟨ib, 0, none⟩) n n) ∧ w'.cell? ⟨ib, Y, none⟩ = some (.int .i64 U) ∧ w'.cell? ⟨rb' k V, ro' k V + U, none⟩ = some (.int .i64 (q3)) ∧ w'.cell? ⟨tb' k, to' k + U, none⟩ = some (.slice (some ⟨rb' k U, ro' k U, none⟩) n (rc' k U)) ∧ w'.cell? ⟨rb' k U, ro' k U + V, none⟩ = some (.int .i64 (q4)))
              (first | exact HPC.out _ HBi.out _ _ _ _ _ HMd.out HUx.out.1.1 HUx.out.1.2 | exact HPC.out _ B3.out _ _ _ _ _ M3.out HUx.out.2.1 HUx.out.2.2 | exact HPC.out _ B4.out _ _ _ _ _ M4.out HUy.out.1 HUy.out.2)
              (first
                | (go_at_call 77; (with_reducible refine (HC1.out _ HBi.out HLi.out HMd.out).mono ?_); rintro e w3 ⟨a3, c3, rfl, hM3, hP3⟩; have M3 := Lib.hid hM3; have P3 := Lib.hid (HPd.out.trans hP3); have B3 := Lib.hid (HBel.out _ _ _ (HPd.out.trans hP3)); have L3 := Lib.hid (HLe.out _ _ _ (HPd.out.trans hP3)); rw [HB1.out]; clear hM3 hP3)
                | (go_at_call 77; (with_reducible refine (HC2.out _ _ _ B3.out L3.out M3.out).mono ?_); rintro e w4 ⟨a4, c4, rfl, hM4, hP4⟩; have M4 := Lib.hid hM4; have P4 := Lib.hid (P3.out.trans hP4); have B4 := Lib.hid (HBel.out _ _ _ (P3.out.trans hP4)); rw [HB2.out]; clear hM4 hP4))
            rename_i hHz
            clear hHz x1 x2 x3 x4 x5 x6 x7 x8 x9 x10 x11 x12
            cases b2 with
            | false =>
              go_wp2
              go_ret
              have e := HFn.out.1 HB2.out
              subst e
              exact ⟨a4, c4, by rw [HB2.out]; rfl, M4.out, P4.out⟩
            | true =>
              go_wp2
              go_roundw
              case rel =>
                have h3 := HA3.out
                rw [HB2.out] at h3
                exact ⟨k + 1, p2.2, a4, c4, by omega, by go_num, Lib.hid (by simpa using h3), Lib.hid (HFn.out.2 HB2.out), HG5, M4, P4⟩
              case measure => simp [intOf]; omega
          · obtain rfl : k = K := by omega
            go_wp2
            go_roundw
            case rel =>
              refine ⟨j + 1, s2, a2, c2, by omega, by go_num, Lib.hid (Lp.next (by have := HLp.out; rw [HKK.out.1] at this; exact this)), Lib.hid ?_, HM, HP⟩
              have e := HFin.out
              rw [HKK.out.1, Nat.sub_self] at e
              simp only [rowA, if_true] at e
              rw [show n + 1 - (j + 1) = n - j by omega]
              exact e
            case measure => simp [intOf]; omega
      · go_wp2
        go_ret
        have e := HFin.out
        rw [show n + 1 - j = (n - j) + 1 by omega] at e
        simp only [outA] at e
        rw [if_neg hj] at e
        subst e
        exact ⟨a, c, rfl, HM.out, HP.out⟩
end Go.Proofs.Ytgmhnjccgldddaa

namespace Go.Proofs.Ytgmhnjccgldddaa
set_option linter.unusedVariables false
set_option linter.unusedSimpArgs false
open Go Go.RowKit

variable {F : Fence} {n : Nat} {P : Program}

/-- The iterator's contract: it hands the rows of T, one after the other, in a slice that lies in blocks [size at its start, hi); between two rounds it writes these blocks alone. J hi k: what the caller keeps when k rows have come. -/
def SeqRowsK (F : Fence) (n : Nat) (P : Program) (g : Nat) (lb : Array Value) (T : List (List Int)) (Z : World → Prop) (w : World) : Prop :=
  ∀ (l : Nat) (J Jx : Nat → Nat → World → Prop) (W1 : World), Below w.heap.size w W1 →
    (∀ hi k W, J hi k W → Z W) →
    (∀ hi k W W', J hi k W → Keep (fun b => W1.heap.size ≤ b ∧ b < hi) W W' → J hi k W') →
    (∀ hi k W W', Jx hi k W → Keep (fun b => W1.heap.size ≤ b ∧ b < hi) W W' → Jx hi k W') →
    (∀ W', Below W1.heap.size W1 W' → J W'.heap.size 0 W') →
    (∀ hi k u W, J hi k W → W1.heap.size ≤ hi → hi ≤ W.heap.size → k < T.length → Ints W u (row T k) → YieldAt F (n - 1) P l #[u] W fun e W' =>
      (e = .returned (.bool true) ∧ J hi (k + 1) W' ∧ Keep (fun b => b < W1.heap.size ∨ hi ≤ b) W W') ∨ (e = .returned (.bool false) ∧ Jx hi (k + 1) W' ∧ Keep (fun b => b < W1.heap.size ∨ hi ≤ b) W W')) →
    CallsIn F n P g (#[.func (.yield l) #[] #[]] ++ lb) W1 fun e W' => (∃ v, e = .returned v) ∧ ((∃ hi, J hi T.length W') ∨ (∃ hi k, Jx hi k W'))

theorem wpIn_rangeFunc_rowsK {g : Operand} {ps : Array Tmp} {assign body : Code} {Q : Exit → Act → World → Prop} {a : Act} {w : World}
    (hro : F.round = none) (h1 : 1 ≤ n) {gf : Nat} {lb : Array Value} (hg : a.eval g = .func (.func gf) #[] lb) (hFg : F.fn gf) (eg : ∀ args w, (callFunc gf args).run P w = .ok (.enter gf args) w)
    (S0 : Nat → Prop) (hS0 : ∀ b, S0 b → b < w.heap.size) {T : List (List Int)} {Z : World → Prop} (hseq : SeqRowsK F (n - 1) P gf lb T Z w) (hps : ps.size = 1)
    (I : Nat → Nat → World → Prop) (Ix : Code → Nat → Nat → World → Prop)
    (hZ : ∀ hi k W, I hi k W → Z W)
    (hI : ∀ hi k W W', I hi k W → Keep (fun b => w.heap.size ≤ b ∧ b < hi) W W' → I hi k W')
    (hIx : ∀ c hi k W W', Ix c hi k W → Keep (fun b => w.heap.size ≤ b ∧ b < hi) W W' → Ix c hi k W')
    (h0 : ∀ W', Below w.heap.size w W' → I W'.heap.size 0 W') (a₁ : Value → Act)
    (hassign : ∀ (l : Nat) (u : Value) (W : World) (K : Act → World → Prop), K (a₁ u) W →
      assign.wpIn (F.inRound l) (n - 1 - 1) P (Exit.then K (fun _ _ _ => False)) { tmps := (ps.zip #[u]).foldl (fun t (p, v) => t.setIfInBounds p v) a.tmps, defers := [] } W)
    (hbody : ∀ (l hi k : Nat) (u : Value) (W : World), I hi k W → w.heap.size ≤ hi → hi ≤ W.heap.size → k < T.length → Ints W u (row T k) → body.wpIn (F.inRound l) (n - 1 - 1) P (rowsPost S0 I Ix hi (k + 1) W) (a₁ u) W)
    (hdone : ∀ (D hi : Nat) (W : World), w.heap.size ≤ D → D < hi → I hi T.length W → W.heap[D]? = some (.deferred (some [])) → Q .normal { a with defers := { target := .collected D, args := #[] } :: a.defers } W)
    (hstop : ∀ (D hi k : Nat) (c : Code) (W : World), w.heap.size ≤ D → D < hi → Ix c hi k W → W.heap[D]? = some (.deferred (some [])) → c.wpIn F n P Q { a with defers := { target := .collected D, args := #[] } :: a.defers } W) :
    (Code.rangeFunc g ps assign body).wpIn F n P Q a w := by
  refine wpIn_rangeFunc ?_
  intro fn hfn
  rw [hro]
  obtain ⟨rec, hrec⟩ : ∃ rec : LoopState → Option Code → Loop, rec = fun st pe => { state := st, pending := pe, fn, tmps := a.tmps, params := ps, assign, body, defers := w.heap.size } := ⟨_, rfl⟩
  obtain ⟨W1, hW1⟩ : ∃ W1, (w.alloc (.deferred (some []))).alloc (.loop (rec .ready none)) = W1 := ⟨_, rfl⟩
  have hL1 : W1.heap[w.heap.size + 1]? = some (.loop (rec .ready none)) := by
    rw [← hW1]; have := World.alloc_heap_new (w.alloc (.deferred (some []))) (.loop (rec .ready none)); rwa [World.size_alloc] at this
  have hK1 : W1.heap[w.heap.size]? = some (.deferred (some [])) := by
    rw [← hW1]; exact (Below.heap_alloc _ _ _ (by simp)).trans (World.alloc_heap_new w _)
  have hsz : W1.heap.size = w.heap.size + 2 := by rw [← hW1]; simp
  have hb1 : Below w.heap.size w W1 := by
    rw [← hW1]; exact ((Below.refl _ w).alloc (Nat.le_refl _) _).alloc (by simp) _
  refine ⟨w.heap.size + 1, [{ target := .collected w.heap.size, args := #[] }], W1, { target := .fn (.func gf) lb, args := #[.func (.yield (w.heap.size + 1)) #[] #[]] }, W1, gf,
    #[.func (.yield (w.heap.size + 1)) #[] #[]] ++ lb, W1, ?_, ?_, ?_, ?_, fun _ => h1, ?_⟩
  · rw [← hW1, hrec]; exact run_enterLoop_outer _ _ _ _ _
  · simp only [resolve, hg]
    simp [go_sem]
  · intro f' hf'; simp [Target.leads] at hf'; subst hf'; exact hFg
  · simp [invoke, go_sem, eg]
  · have stepI : ∀ {hi k : Nat} {W : World} (o : Obj), w.heap.size + 2 ≤ hi → I hi k W → I hi k (W.putObj (w.heap.size + 1) o) := fun o hh h =>
      hI _ _ _ _ h ((keep_putObj _ _ _).mono fun b _ e => by subst e; omega)
    have stepIx : ∀ {c : Code} {hi k : Nat} {W : World} (o : Obj), w.heap.size + 2 ≤ hi → Ix c hi k W → Ix c hi k (W.putObj (w.heap.size + 1) o) := fun o hh h =>
      hIx _ _ _ _ _ h ((keep_putObj _ _ _).mono fun b _ e => by subst e; omega)
    have keptAt : ∀ {hi b : Nat} {W W' : World}, b < W1.heap.size → W1.heap.size ≤ W.heap.size → Keep (fun b => W1.heap.size ≤ b ∧ b < hi) W W' → W'.heap[b]? = W.heap[b]? := fun hb hW hk =>
      hk.block _ (by omega) (by omega)
    refine (hseq (w.heap.size + 1)
      (fun hi k W => I hi k W ∧ W.heap[w.heap.size + 1]? = some (.loop (rec .ready none)) ∧ W.heap[w.heap.size]? = some (.deferred (some [])) ∧ w.heap.size + 2 ≤ hi ∧ W1.heap.size ≤ W.heap.size)
      (fun hi k W => ∃ c, Ix c hi k W ∧ W.heap[w.heap.size + 1]? = some (.loop (rec .done (some c))) ∧ W.heap[w.heap.size]? = some (.deferred (some [])) ∧ w.heap.size + 2 ≤ hi ∧ W1.heap.size ≤ W.heap.size)
      W1 hb1 (fun hi k W h => hZ hi k W h.1) ?_ ?_ ?_ ?_).mono ?_
    · rintro hi k W W' ⟨h, hl, hk, hh, hs⟩ hkeep
      exact ⟨hI _ _ _ _ h (hkeep.mono fun b _ hb => ⟨by omega, hb.2⟩), (keptAt (by omega) hs hkeep).trans hl, (keptAt (by omega) hs hkeep).trans hk, hh, Nat.le_trans hs hkeep.size⟩
    · rintro hi k W W' ⟨c, h, hl, hk, hh, hs⟩ hkeep
      exact ⟨c, hIx _ _ _ _ _ h (hkeep.mono fun b _ hb => ⟨by omega, hb.2⟩), (keptAt (by omega) hs hkeep).trans hl, (keptAt (by omega) hs hkeep).trans hk, hh, Nat.le_trans hs hkeep.size⟩
    · intro W' hb
      exact ⟨h0 W' (bb hb1 hb), (hb.block _ (by omega)).trans hL1, (hb.block _ (by omega)).trans hK1, by have := hb.size; omega, hb.size⟩
    · -- ONE ROUND
      rintro hi k u W ⟨hi0, hl, hk, hh, hs⟩ hlo hhi hlen hu
      have hlt : w.heap.size + 1 < W.heap.size := (Array.getElem?_eq_some_iff.1 hl).1
      have hy := run_yield (P := P) (args := #[u]) hl (by rw [hrec]; simpa using hps.symm)
      rw [hrec] at hy
      refine ⟨fn, _, assign, body, hy, roundIn_of_wpIn hfn (hassign _ u W _ ⟨_, run_beginRound hl (by rw [hrec]), ?_⟩)⟩
      obtain ⟨W2, hW2⟩ : ∃ W2, W.putObj (w.heap.size + 1) (.loop { rec .ready none with state := .busy }) = W2 := ⟨_, rfl⟩
      have hl2 : W2.heap[w.heap.size + 1]? = some (.loop { rec .ready none with state := .busy }) := by rw [← hW2]; exact World.putObj_heap_same hlt
      have hk2 : W2.heap[w.heap.size]? = some (.deferred (some [])) := by rw [← hW2]; exact (World.putObj_heap_other (by omega)).trans hk
      have kp2 : Keep (fun b => b = w.heap.size + 1) W W2 := by rw [← hW2]; exact keep_putObj _ _ _
      have hi2 : I hi k W2 := by rw [← hW2]; exact stepI _ hh hi0
      have hu2 : Ints W2 u (row T k) := by
        obtain ⟨ua, uc, hv, huc, hum, hcell⟩ := hu
        refine ⟨ua, uc, hv, huc, hum, fun i hi' => ?_⟩
        obtain ⟨b, o, e, hc⟩ := hcell i hi'
        refine ⟨b, o, e, ?_⟩
        have hb : b ≠ w.heap.size + 1 := by
          rintro rfl
          simp [World.cell?, hl] at hc
        have hblt : b < W.heap.size := by
          rcases Nat.lt_or_ge b W.heap.size with h | h
          · exact h
          · simp [World.cell?, Array.getElem?_eq_none h] at hc
        simp only [World.cell?] at hc ⊢
        rw [kp2.block b hblt hb]
        exact hc
      rw [hW2]
      refine wpIn_mono (hbody _ hi k u W2 hi2 (by omega) (Nat.le_trans hhi kp2.size) hlen hu2) ?_
      have fin : ∀ (jump : Option Code) (W3 : World), Keep (fun b => S0 b ∨ hi ≤ b) W2 W3 →
          (Instr.endRound (w.heap.size + 1) jump).run P W3 = .ok (.bool jump.isNone) (W3.putObj (w.heap.size + 1) (.loop (rec (if jump.isNone then .ready else .done) jump))) ∧
          (W3.putObj (w.heap.size + 1) (.loop (rec (if jump.isNone then .ready else .done) jump))).heap[w.heap.size + 1]? = some (.loop (rec (if jump.isNone then .ready else .done) jump)) ∧
          (W3.putObj (w.heap.size + 1) (.loop (rec (if jump.isNone then .ready else .done) jump))).heap[w.heap.size]? = some (.deferred (some [])) ∧ W1.heap.size ≤ (W3.putObj (w.heap.size + 1) (.loop (rec (if jump.isNone then .ready else .done) jump))).heap.size ∧
          Keep (fun b => b < W1.heap.size ∨ hi ≤ b) W (W3.putObj (w.heap.size + 1) (.loop (rec (if jump.isNone then .ready else .done) jump))) := fun jump W3 hk3 => by
        have hno : ∀ b, w.heap.size ≤ b → b < w.heap.size + 2 → ¬ (S0 b ∨ hi ≤ b) := fun b h1 h2 h => by
          rcases h with h | h
          · have := hS0 b h; omega
          · omega
        have hsz2 : W2.heap.size = W.heap.size := by rw [← hW2]; simp [World.putObj]
        have hl3 := (hk3.block (w.heap.size + 1) (by omega) (hno _ (by omega) (by omega))).trans hl2
        have hd3 := (hk3.block (w.heap.size) (by omega) (hno _ (by omega) (by omega))).trans hk2
        have := run_endRound (P := P) jump hl3
        rw [hrec] at this ⊢
        refine ⟨this, World.putObj_heap_same (Array.getElem?_eq_some_iff.1 hl3).1, (World.putObj_heap_other (by omega)).trans hd3, Nat.le_trans hs (Nat.le_trans kp2.size (Nat.le_trans hk3.size (keep_putObj _ _ _).size)), ?_⟩
        refine ((kp2.mono (fun b _ e => ?_)).trans (hk3.mono (fun b _ e => ?_))).trans ((keep_putObj _ _ _).mono (fun b _ e => ?_))
        · exact .inl (by subst e; omega)
        · rcases e with e | e
          · exact .inl (by have := hS0 b e; omega)
          · exact .inr e
        · exact .inl (by subst e; omega)
      rintro e a3 W3 hp
      cases e with
      | normal =>
        obtain ⟨hk3, hi3⟩ := hp
        obtain ⟨hr, hl4, hk4, hs4, hkk⟩ := fin none W3 hk3
        exact ⟨_, _, hr, .inl ⟨rfl, ⟨stepI _ hh hi3, hl4, hk4, hh, hs4⟩, hkk⟩⟩
      | ret =>
        obtain ⟨hk3, hi3⟩ := hp
        obtain ⟨hr, hl4, hk4, hs4, hkk⟩ := fin (some .ret) W3 hk3
        exact ⟨_, _, hr, .inr ⟨rfl, ⟨.ret, stepIx _ hh hi3, hl4, hk4, hh, hs4⟩, hkk⟩⟩
      | exit id =>
        obtain ⟨hk3, hi3⟩ := hp
        obtain ⟨hr, hl4, hk4, hs4, hkk⟩ := fin (some (.exit id)) W3 hk3
        exact ⟨_, _, hr, .inr ⟨rfl, ⟨.exit id, stepIx _ hh hi3, hl4, hk4, hh, hs4⟩, hkk⟩⟩
      | goto t =>
        obtain ⟨hk3, hi3⟩ := hp
        obtain ⟨hr, hl4, hk4, hs4, hkk⟩ := fin (some (.goto t)) W3 hk3
        exact ⟨_, _, hr, .inr ⟨rfl, ⟨.goto t, stepIx _ hh hi3, hl4, hk4, hh, hs4⟩, hkk⟩⟩
      | panic ch => exact hp.elim
      | outgrown => exact hp.elim
    · -- BEHIND THE ITERATOR
      rintro e W2 ⟨⟨v, rfl⟩, (⟨hi, h, hl, hk, hh, hs⟩ | ⟨hi, k, c, h, hl, hk, hh, hs⟩)⟩
      · exact ⟨none, _, by have := run_endLoop (P := P) hl (by rw [hrec]; simp); rw [hrec] at this; exact this, hdone _ hi _ (Nat.le_refl _) (by omega) (stepI _ hh h) ((World.putObj_heap_other (by omega)).trans hk)⟩
      · exact ⟨some c, _, by have := run_endLoop (P := P) hl (by rw [hrec]; simp); rw [hrec] at this; exact this, hstop _ hi k c _ (Nat.le_refl _) (by omega) (stepIx _ hh h) ((World.putObj_heap_other (by omega)).trans hk)⟩
end Go.Proofs.Ytgmhnjccgldddaa

namespace Go.Proofs.Ytgmhnjccgldddaa
set_option linter.unusedVariables false
set_option linter.unusedSimpArgs false
open Go Go.RowKit Go.Shelf
attribute [local go_sem] Oper.semAt_some

theorem yieldAt_wide {m m' : Nat} {P : Program} {l : Nat} {args : Array Value} {W : World} {R : Ending → World → Prop} (h : YieldAt Fence.wide m P l args W R) : YieldAt Fence.wide m' P l args W R := by
  obtain ⟨fn, tmps, assign, body, hy, h1, h2⟩ := h
  exact ⟨fn, tmps, assign, body, hy, h1, fun c cs _ => h2 c cs (room_wide _)⟩

theorem isoLt_more {n : Nat} {F G : List (List (List Int))} {im : List Int} {x : Nat} (hx : FirstFree n im x) (v : Nat) : ∀ r : Nat, ∃ R, isoLt n F G (Goes n im) x (v + r) = isoLt n F G (Goes n im) x v ++ R
  | 0 => ⟨[], by simp⟩
  | r + 1 => by
    obtain ⟨R, hR⟩ := isoLt_more hx v r
    have h := isoM_part (F := F) (G := G) (k := v + r) hx
    exact ⟨R ++ isoQ n F G (fun p => Goes n im p ∧ nth p x = (v + r : Nat)), by rw [show v + (r + 1) = (v + r) + 1 by omega, h, hR, List.append_assoc]⟩
/-- Where the maps with image v of x lie among all that go on. -/
theorem isoM_split {n : Nat} {F G : List (List (List Int))} {im : List Int} {x v : Nat} (hx : FirstFree n im x) (hv : v < n) : ∃ R, isoM n F G im = isoLt n F G (Goes n im) x v ++ (isoQ n F G (fun p => Goes n im p ∧ nth p x = v) ++ R) := by
  obtain ⟨R, hR⟩ := isoLt_more (F := F) (G := G) hx (v + 1) (n - (v + 1))
  have h := isoM_part (F := F) (G := G) (k := v) hx
  have e : isoM n F G im = isoLt n F G (Goes n im) x n := (isoLt_all ⟨by omega, by have := hx.1; omega⟩).symm
  refine ⟨R, ?_⟩
  rw [show v + 1 + (n - (v + 1)) = n by omega] at hR
  rw [e, hR, h, List.append_assoc]

/-- All values at what is set are kept. -/
def VerAll (F G : List (List (List Int))) (s : MSt) : Prop := ∀ y ∈ s.st, ∀ z ∈ s.st, VerA F G s.im y z
theorem VerAll.asg {n : Nat} {F G : List (List (List Int))} {s : MSt} {x v : Int} {r : Bool × MSt} (h : VerAll F G s) (hm : MpS n s) (ht : Tabs n F) (ha : AsgS n F G s x v r) (hb : r.1 = true) : VerAll F G r.2 := by
  intro y hy z hz
  by_cases h1 : y ∈ s.st
  · by_cases h2 : z ∈ s.st
    · have g1 := (Mp.mem hm y).1 h1
      have g2 := (Mp.mem hm z).1 h2
      exact (h y h1 z h2).more (Asg.more ha) ht g1.1 g2.1 g1.2 g2.2
    · exact (Asg.ver ha hb z hz h2 y hy).symm
  · exact Asg.ver ha hb y hy h1 z hz
theorem asg_longer {n : Nat} {F G : List (List (List Int))} {s : MSt} {x v : Int} {r : Bool × MSt} (hm : MpS n s) (ha : AsgS n F G s x v r) (hx : InN n x) (h0 : nth s.im x < 0) (hb : r.1 = true) (hv : 0 ≤ v) : s.st.length + 1 ≤ r.2.st.length := by
  obtain ⟨t, ht⟩ := Asg.pre ha
  rw [← ht, List.length_append]
  rcases Nat.eq_zero_or_pos t.length with e | e
  · exfalso
    have e2 : t = [] := List.eq_nil_of_length_eq_zero e
    rw [e2, List.append_nil] at ht
    have h1 := Asg.val ha hb
    have h2 := (Mp.mem (Asg.mp ha) x).2 ⟨hx, by rw [h1]; exact hv⟩
    rw [← ht] at h2
    have := ((Mp.mem hm x).1 h2).2
    omega
  · omega

theorem Mp.allset {n : Nat} {im : List Int} {us : List Bool} {st : List Int} (h : Mp n im us st) (hf : ∀ x, InN n x → 0 ≤ nth im x) : n ≤ st.length := by
  rcases Nat.lt_or_ge st.length n with hlt | hge
  · exfalso
    have := (perm_of_sub (m := st) (iota_nodup n) (fun x hx => (h.mem x).2 ⟨(mem_iota n x).1 hx, hf x ((mem_iota n x).1 hx)⟩) (by simp; omega)).length_eq
    simp at this; omega
  · exact hge
theorem row_mid (T1 T2 : List (List Int)) (x : List Int) : row (T1 ++ ([x] ++ T2)) (T1.length : Nat) = x := by
  rw [row_nat _ _ (by simp)]
  simp
/-- How far the caller is: nothing has been handed yet, or k maps, and the blocks of the search lie below hi. -/
def PhJ (W1 : World) (J : Nat → Nat → World → Prop) (n mb ib ub : Nat) (a : Option Addr) (c k : Nat) (w : World) : Prop :=
  (k = 0 ∧ Below W1.heap.size W1 w) ∨ ∃ hi, J hi k w ∧ W1.heap.size ≤ hi ∧ hi ≤ w.heap.size ∧ n ≤ c ∧ ∀ b, MBl mb ib ub (.slice a 0 c) b → b < hi
theorem mbl_lo {w W1 : World} {mb ib ub n L : Nat} {vF vG : Value} {a : Option Addr} {c : Nat} {im : List Int} {us : List Bool} {st : List Int} (hM : MapAt w mb ib ub n L vF vG a c im us st) (hlo : W1.heap.size ≤ mb ∧ W1.heap.size ≤ ib ∧ W1.heap.size ≤ ub) {b : Nat} (hb : MBl mb ib ub (.slice a 0 c) b) : W1.heap.size ≤ b ∧ b < w.heap.size := by
  have hb' : MBl mb ib ub (.slice a st.length c) b := by
    rcases hb with h | h | h | h
    · exact .inl h
    · exact .inr (.inl h)
    · exact .inr (.inr (.inl h))
    · exact .inr (.inr (.inr ((own_irr _ _ _ _ _).trans h)))
  refine ⟨?_, hM.lt hb'⟩
  rcases hb' with h | h | h | h
  · omega
  · omega
  · omega
  · have := (hM.own.ownLt h).1
    have := hM.ne
    omega
theorem PhJ.step {W1 : World} {J : Nat → Nat → World → Prop} (hJ : ∀ hi k W W', J hi k W → Keep (fun b => W1.heap.size ≤ b ∧ b < hi) W W' → J hi k W') {n mb ib ub L : Nat} {a a' : Option Addr} {c c' k : Nat} {w w' : World} {vF vG : Value} {im : List Int} {us : List Bool} {st : List Int}
    (h : PhJ W1 J n mb ib ub a c k w) (hM : MapAt w mb ib ub n L vF vG a c im us st) (hlo : W1.heap.size ≤ mb ∧ W1.heap.size ≤ ib ∧ W1.heap.size ≤ ub) (hp : Ph n mb ib ub a c w a' c' w') : PhJ W1 J n mb ib ub a' c' k w' := by
  rcases h with ⟨h1, h2⟩ | ⟨hi, h1, h2, h3, h4, h5⟩
  · exact .inl ⟨h1, hp.below hM hlo h2⟩
  · obtain ⟨rfl, rfl⟩ := hp.2.1 h4
    exact .inr ⟨hi, hJ _ _ _ _ h1 (hp.1.mono fun b _ hb => ⟨(mbl_lo hM hlo hb).1, h5 b hb⟩), h2, Nat.le_trans h3 hp.1.size, h4, h5⟩
theorem keep_ph {n mb ib ub N : Nat} {a : Option Addr} {c : Nat} {w w' : World} (k : Keep (MBl mb ib ub (.slice a N c)) w w') : Ph n mb ib ub a c w a c w' :=
  ⟨k.mono fun b _ h => by
    rcases h with h | h | h | h
    · exact .inl h
    · exact .inr (.inl h)
    · exact .inr (.inr (.inl h))
    · exact .inr (.inr (.inr ((own_irr _ _ _ _ _).trans h))), fun _ => ⟨rfl, rfl⟩, fun _ h => .inl h⟩

/-- The post of 'extend'. -/
def REx (W1 : World) (J Jx : Nat → Nat → World → Prop) (mb ib ub n L : Nat) (vF vG : Value) (s : MSt) (k : Nat) (e : Ending) (w' : World) : Prop :=
  (e = .returned (.bool true) ∧ ∃ a c, MapAt w' mb ib ub n L vF vG a c s.im s.us s.st ∧ PhJ W1 J n mb ib ub a c k w' ∧ L ≤ w'.heap.size) ∨
  (e = .returned (.bool false) ∧ ∃ hi k' a c, Jx hi k' w' ∧ (∀ b, MBl mb ib ub (.slice a 0 c) b → b < hi) ∧ MapAt w' mb ib ub n L vF vG a c s.im s.us s.st)

theorem PhJ.below {w0 W1 : World} {J : Nat → Nat → World → Prop} (hw : Below w0.heap.size w0 W1) (hZ : ∀ hi k W, J hi k W → Below w0.heap.size w0 W) {n mb ib ub : Nat} {a : Option Addr} {c k : Nat} {w : World} (h : PhJ W1 J n mb ib ub a c k w) : Below w0.heap.size w0 w := by
  rcases h with ⟨_, h2⟩ | ⟨hi, h1, _⟩
  · exact bb hw h2
  · exact hZ _ _ _ h1

set_option maxRecDepth 100000 in
set_option maxHeartbeats 8000000 in
theorem c_extend {n K : Nat} {F G : List (List (List Int))} (w0 W1 : World) (hw : Below w0.heap.size w0 W1) {fb fo fc gb go' gc : Nat} {tb to tc tb' to' tc' : Nat → Nat} {rb ro rc rb' ro' rc' : Nat → Nat → Nat} (hF : Tb3 w0 fb fo n K F tb to tc rb ro rc) (hG : Tb3 w0 gb go' n K G tb' to' tc' rb' ro' rc')
    (hKF : K = F.length) (hKG : K = G.length) (hn : n ≤ 12) (hK : K ≤ 12) (hfc : K ≤ fc) (hgc : K ≤ gc) (mb ib ub L : Nat) (hlo : W1.heap.size ≤ mb ∧ W1.heap.size ≤ ib ∧ W1.heap.size ≤ ub) (l N : Nat) (J Jx : Nat → Nat → World → Prop)
    (hZ : ∀ hi k W, J hi k W → Below w0.heap.size w0 W)
    (hJ : ∀ hi k W W', J hi k W → Keep (fun b => W1.heap.size ≤ b ∧ b < hi) W W' → J hi k W') (hJx : ∀ hi k W W', Jx hi k W → Keep (fun b => W1.heap.size ≤ b ∧ b < hi) W W' → Jx hi k W')
    (h0 : ∀ W', Below W1.heap.size W1 W' → J W'.heap.size 0 W')
    (hY : ∀ hi k u W, J hi k W → W1.heap.size ≤ hi → hi ≤ W.heap.size → k < (isoAll n F G).length → Ints W u (row (isoAll n F G) k) → YieldAt Fence.wide N Try.prog l #[u] W fun e W' =>
      (e = .returned (.bool true) ∧ J hi (k + 1) W' ∧ Keep (fun b => b < W1.heap.size ∨ hi ≤ b) W W') ∨ (e = .returned (.bool false) ∧ Jx hi (k + 1) W' ∧ Keep (fun b => b < W1.heap.size ∨ hi ≤ b) W W')) :
    ∀ (d : Nat) (s : MSt) (a0 : Option Addr) (c0 : Nat) (w : World) (T1 T2 : List (List Int)), MpS n s → n < s.st.length + d → VerAll F G s → MapAt w mb ib ub n L (.slice (some ⟨fb, fo, none⟩) K fc) (.slice (some ⟨gb, go', none⟩) K gc) a0 c0 s.im s.us s.st →
      PhJ W1 J n mb ib ub a0 c0 T1.length w → isoAll n F G = T1 ++ (isoM n F G s.im ++ T2) → L ≤ w.heap.size →
      Calls Try.prog 54 #[.pointer (some ⟨mb, 0, none⟩), .func (.yield l) #[] #[]] w (REx W1 J Jx mb ib ub n L (.slice (some ⟨fb, fo, none⟩) K fc) (.slice (some ⟨gb, go', none⟩) K gc) s (T1.length + (isoM n F G s.im).length)) := by
  have HTab := Lib.hid (And.intro (hF.tabs hKF) (hG.tabs hKG))
  have hneq : F.length = G.length := by omega
  have HGood := Lib.hid (fun d m (h : n < m + d) => asg_good HTab.out.1 HTab.out.2 hneq d m h)
  have HAs := Lib.hid (c_assign w0 hF hG hKF hKG hn hK hfc hgc mb ib ub L ⟨Nat.le_trans hw.size hlo.1, Nat.le_trans hw.size hlo.2.1, Nat.le_trans hw.size hlo.2.2⟩)
  have HZ := Lib.hid hZ; have HJ := Lib.hid hJ; have HJx := Lib.hid hJx; have H0 := Lib.hid h0; have HY := Lib.hid hY; have HLo := Lib.hid hlo; have HW := Lib.hid hw
  clear hF hG hKF hKG hZ hJ hJx h0 hY hlo hw hneq
  intro d
  induction d with
  | zero => intro s a0 c0 w T1 T2 hm hd; have := Mp.len hm; omega
  | succ d ih =>
    intro s a0 c0 w T1 T2 hm hd hv hM hP hT hL
    have IH := Lib.hid ih
    have HM := Lib.hid hM; have HMp := Lib.hid hm; have HD := Lib.hid hd; have HV := Lib.hid hv; have HP := Lib.hid hP; have HT := Lib.hid hT; have HL := Lib.hid hL
    obtain ⟨m0, m1, m2, m3, m4, m5⟩ := hM.cells
    have hil : s.im.length = n := Mp.imL hm
    have hIm : Ints w (.slice (some ⟨ib, 0, none⟩) n n) s.im := (Own.of_blk (B := 0) hM.imb (Nat.zero_le _) (by rw [hil]; unfold maxLen; omega) hil.symm hil.symm).ints
    have HIm := Lib.hid hIm
    have hil2 : s.im.length ≤ 1048576 := by omega
    clear ih hm hd hv hM hP hT hL hIm
    refine (callsIn_wide (n := N + 2)).1 ?_
    refine callsIn_of_wp Try.func54 rfl trivial ?_ rfl
    simp only [Try.ntmps54, List.size_toArray, List.length_cons, List.length_nil, Nat.reduceAdd, Nat.reduceSub, Array.replicate_succ, Array.replicate_zero, List.push_toArray, List.append_toArray, List.nil_append, List.cons_append]
    gi_wp2_with (refine ⟨trivial, ?_⟩; gi_at_call 76; refine (callsIn_wide.2 (c_Index _ s.im (-1) _ HIm.out hil2)).mono ?_; rintro e w' ⟨r, rfl, rfl, (⟨rfl, hall⟩ | ⟨x, rfl, hxl, hx1, hxb⟩)⟩)
    · have hfull : ∀ x, InN n x → 0 ≤ nth s.im x := fun x hx => by
        have h1 := hall x.toNat (by rw [hil]; have := hx.2; have := hx.1; omega)
        rw [show ((x.toNat : Nat) : Int) = x by have := hx.1; omega] at h1
        have := (Mp.rng HMp.out x hx).1
        omega
      have hone : isoM n F G s.im = [s.im] := isoM_full HMp.out hfull HV.out
      have hnc : n ≤ c0 := by
        have h1 := Mp.allset HMp.out hfull
        obtain ⟨_, _, e, h2, _⟩ := HM.out.own.ints.shape
        injection e with e1 e2 e3
        omega
      obtain ⟨hi, hj, hlo1, hhi, hmb⟩ : ∃ hi, J hi T1.length w ∧ W1.heap.size ≤ hi ∧ hi ≤ w.heap.size ∧ ∀ b, MBl mb ib ub (.slice a0 0 c0) b → b < hi := by
        rcases HP.out with ⟨hk, hb⟩ | ⟨hi, h1, h2, h3, h4, h5⟩
        · rw [hk]
          exact ⟨w.heap.size, H0.out w hb, hb.size, Nat.le_refl _, fun b h => (mbl_lo HM.out HLo.out h).2⟩
        · exact ⟨hi, h1, h2, h3, h5⟩
      have hT := HT.out
      rw [hone] at hT
      have HOne := Lib.hid hone
      have hrow : row (isoAll n F G) (T1.length : Nat) = s.im := by rw [hT]; exact row_mid _ _ _
      have hlt : T1.length < (isoAll n F G).length := by rw [hT]; simp
      obtain ⟨fn, tmps, assign, body, hy, hR⟩ := yieldAt_wide (m' := N + 1) (HY.out hi T1.length _ w hj hlo1 hhi hlt (by rw [hrow]; exact HIm.out))
      have HJ1 := Lib.hid hj; have HHi := Lib.hid (And.intro hlo1 (And.intro hhi hmb)); have HNc := Lib.hid hnc
      have hkeepM : ∀ W' : World, Keep (fun b => b < W1.heap.size ∨ hi ≤ b) w W' → MapAt W' mb ib ub n L (.slice (some ⟨fb, fo, none⟩) K fc) (.slice (some ⟨gb, go', none⟩) K gc) a0 c0 s.im s.us s.st := fun W' k => HM.out.keep k fun b hb e => by
        have hb' : MBl mb ib ub (.slice a0 0 c0) b := by
          rcases hb with h | h | h | h
          · exact .inl h
          · exact .inr (.inl h)
          · exact .inr (.inr (.inl h))
          · exact .inr (.inr (.inr ((own_irr _ _ _ _ _).trans h)))
        have h1 := (mbl_lo HM.out HLo.out hb').1
        have h2 := HHi.out.2.2 b hb'
        omega
      have HKM := Lib.hid hkeepM
      clear hfull hone hnc hj hlo1 hhi hmb hT hrow hlt hall hkeepM
      gi_wp2
      simp only [hy]
      refine ⟨by simp, hR.mono ?_⟩
      rintro e W3 (⟨rfl, hJ3, hk3⟩ | ⟨rfl, hJx3, hk3⟩)
      · have HJ3 := Lib.hid hJ3; have HK3 := Lib.hid hk3
        clear hJ3 hk3 hR hy
        gi_wp2
        go_ret
        exact .inl ⟨rfl, a0, c0, HKM.out _ HK3.out, .inr ⟨hi, by rw [HOne.out]; exact HJ3.out, HHi.out.1, Nat.le_trans HHi.out.2.1 HK3.out.size, HNc.out, HHi.out.2.2⟩, Nat.le_trans HL.out HK3.out.size⟩
      · have HJ3 := Lib.hid hJx3; have HK3 := Lib.hid hk3
        clear hJx3 hk3 hR hy
        gi_wp2
        go_ret
        exact .inr ⟨rfl, hi, T1.length + 1, a0, c0, HJ3.out, HHi.out.2.2, HKM.out _ HK3.out⟩
    · have hxn : x < n := by omega
      have HFr := Lib.hid (show FirstFree n s.im x from ⟨hxn, hx1, fun y hy => by
        have h1 := hxb y hy
        have := (Mp.rng HMp.out y ⟨by omega, by omega⟩).1
        omega⟩)
      have HXi := Lib.hid (show InN n (x : Int) from ⟨by omega, by omega⟩)
      clear hxl hx1 hxb
      gi_wp2
      gi_loopw [32] (fun v wr => ∃ (q : Nat) (a : Option Addr) (c : Nat), q ≤ n ∧ v = .int .i64 q ∧ Hid (MapAt wr mb ib ub n L (.slice (some ⟨fb, fo, none⟩) K fc) (.slice (some ⟨gb, go', none⟩) K gc) a c s.im s.us s.st) ∧ Hid (PhJ W1 J n mb ib ub a c (T1.length + (isoLt n F G (Goes n s.im) x q).length) wr) ∧ Hid (L ≤ wr.heap.size)) (fun v _ => n - (intOf v).toNat)
      case atStart => exact ⟨0, a0, c0, Nat.zero_le _, rfl, HM, by rw [isoLt_zero HXi.out]; exact HP, HL⟩
      case round =>
        clear HM HP HL m0 m1 m2 m3 m4 m5 HIm
        obtain ⟨q, a, c, hq, rfl, HM, HP, HL⟩ := hrel
        obtain ⟨wo, rfl⟩ : ∃ wo : World, wo = wr := ⟨_, rfl⟩
        obtain ⟨m0, m1, m2, m3, m4, m5⟩ := HM.out.cells
        by_cases hqn : q < n
        · have hpart := isoM_part (F := F) (G := G) (k := q) HFr.out
          have hQi : InN n (q : Int) := ⟨by omega, by omega⟩
          obtain ⟨gu, gu2⟩ := HM.out.usc q (by omega) (by rw [Mp.usL HMp.out]; omega)
          simp only [Int.toNat_natCast] at gu gu2
          by_cases hu : nthB s.us q = true
          · have HPa := Lib.hid (show isoLt n F G (Goes n s.im) x (q + 1) = isoLt n F G (Goes n s.im) x q by rw [hpart, isoM_used HMp.out HFr.out hqn hu, List.append_nil])
            rw [hu] at gu
            clear hpart hu
            gi_wp2
            go_roundw
            case rel => exact ⟨q + 1, a, c, by omega, by go_num, HM, by rw [HPa.out]; exact HP, HL⟩
            case measure => simp [intOf]; omega
          · have hu' : nthB s.us q = false := by simpa using hu
            rw [hu'] at gu
            obtain ⟨R, hsp⟩ := isoM_split (F := F) (G := G) HFr.out hqn
            obtain ⟨p, hp⟩ : ∃ p, asg F G n (d + 1) s x q = p := ⟨_, rfl⟩
            have hA : AsgS n F G s x q p := by rw [← hp]; exact HGood.out (d + 1) s.st.length (by have := HD.out; omega) s x q HMp.out (Nat.le_refl _) HXi.out hQi
            have hqp := isoM_asg HFr.out.1 hA
            have hC := HAs.out (d + 1) s x q a c wo HMp.out (by have := HD.out; omega) HXi.out hQi (HP.out.below HW.out HZ.out) HL.out HM.out
            rw [hp] at hC
            rw [hqp] at hpart hsp
            have HC := Lib.hid hC; have HA := Lib.hid hA; have HPt := Lib.hid hpart; have HSp := Lib.hid hsp
            have hn2 : n ≤ 1048576 := by omega
            have HUn : Hid (∀ (a2 : Option Addr) (c2 : Nat) (w5 : World), MapAt w5 mb ib ub n L (.slice (some ⟨fb, fo, none⟩) K fc) (.slice (some ⟨gb, go', none⟩) K gc) a2 c2 p.2.im p.2.us p.2.st → Calls Try.prog 78 #[.pointer (some ⟨mb, 0, none⟩), .int .i64 s.st.length] w5 (fun e w' => (∃ v, e = .returned v) ∧ MapAt w' mb ib ub n L (.slice (some ⟨fb, fo, none⟩) K fc) (.slice (some ⟨gb, go', none⟩) K gc) a2 c2 s.im s.us s.st ∧ Ph n mb ib ub a2 c2 w5 a2 c2 w')) := Lib.hid fun a2 c2 w5 hM5 =>
              (c_undo mb ib ub L _ _ a2 c2 w5 HMp.out (Asg.mp hA) (Asg.pre hA) (Asg.more hA) hn2 hM5).mono fun e w' h => ⟨h.1, h.2.1, keep_ph h.2.2⟩
            clear hu hu' hsp hqp hA hC hpart hn2
            by_cases hb : p.1 = true
            · have hlong := asg_longer HMp.out HA.out HXi.out (by rw [HFr.out.2.1]; omega) hb (by omega)
              have hver := HV.out.asg HMp.out HTab.out.1 HA.out hb
              have HB := Lib.hid hb
              have hpart := HPt.out
              have hsp := HSp.out
              rw [hb] at hpart hsp
              simp only [if_true] at hpart hsp
              have HEx : Hid (∀ (a1 : Option Addr) (c1 : Nat) (w4 : World), MapAt w4 mb ib ub n L (.slice (some ⟨fb, fo, none⟩) K fc) (.slice (some ⟨gb, go', none⟩) K gc) a1 c1 p.2.im p.2.us p.2.st → PhJ W1 J n mb ib ub a1 c1 (T1.length + (isoLt n F G (Goes n s.im) x q).length) w4 → L ≤ w4.heap.size → Calls Try.prog 54 #[.pointer (some ⟨mb, 0, none⟩), .func (.yield l) #[] #[]] w4 (REx W1 J Jx mb ib ub n L (.slice (some ⟨fb, fo, none⟩) K fc) (.slice (some ⟨gb, go', none⟩) K gc) p.2 (T1.length + (isoLt n F G (Goes n s.im) x (q + 1)).length))) := Lib.hid fun a1 c1 w4 h1 h2 h3 => by
                have := IH.out p.2 a1 c1 w4 (T1 ++ isoLt n F G (Goes n s.im) x q) (R ++ T2) (Asg.mp HA.out) (by have := HD.out; omega) hver h1 (by rw [List.length_append]; exact h2) (by rw [HT.out, hsp]; simp only [List.append_assoc]) h3
                rw [hpart, List.length_append]
                rw [List.length_append, Nat.add_assoc] at this
                exact this
              clear hb hlong hver hpart hsp
              gi_wp2_with (refine ⟨trivial, ?_⟩; gi_at_call 77; refine (callsIn_wide.2 HC.out).mono ?_; rintro e w4 ⟨a1, c1, rfl, hM4, hP4⟩; rw [HB.out]; have M4 := Lib.hid hM4; have P4 := Lib.hid (HP.out.step HJ.out HM.out HLo.out hP4); have L4 := Lib.hid (Nat.le_trans HL.out hP4.1.size); clear hM4 hP4)
              gi_wp2_with (refine ⟨trivial, ?_⟩; gi_at_call 54; refine (callsIn_wide.2 (HEx.out _ _ _ M4.out P4.out L4.out)).mono ?_; rintro e w5 (⟨rfl, a2, c2, hM5, hP5, hL5⟩ | ⟨rfl, hi, k', a2, c2, hJ5, hmb, hM5⟩))
              · have M5 := Lib.hid hM5; have P5 := Lib.hid hP5
                have L5 := Lib.hid hL5
                clear hM5 hP5 hL5
                gi_wp2_with (refine ⟨trivial, ?_⟩; gi_at_call 78; refine (callsIn_wide.2 (HUn.out _ _ _ M5.out)).mono ?_; rintro e w6 ⟨⟨vv, rfl⟩, hM6, hP6⟩; have M6 := Lib.hid hM6; have P6 := Lib.hid hP6; clear hM6 hP6)
                go_roundw
                case rel => exact ⟨q + 1, a2, c2, by omega, by go_num, M6, Lib.hid (P5.out.step HJ.out M5.out HLo.out P6.out), Lib.hid (Nat.le_trans L5.out P6.out.1.size)⟩
                case measure => simp [intOf]; omega
              · have M5 := Lib.hid hM5; have J5 := Lib.hid hJ5; have B5 := Lib.hid hmb
                clear hM5 hJ5 hmb
                gi_wp2_with (refine ⟨trivial, ?_⟩; gi_at_call 78; refine (callsIn_wide.2 (HUn.out _ _ _ M5.out)).mono ?_; rintro e w6 ⟨⟨vv, rfl⟩, hM6, hP6⟩; have M6 := Lib.hid hM6; have P6 := Lib.hid hP6; clear hM6 hP6)
                go_ret
                exact .inr ⟨rfl, hi, k', a2, c2, HJx.out _ _ _ _ J5.out (P6.out.1.mono fun b _ hb => ⟨(mbl_lo M5.out HLo.out hb).1, B5.out b hb⟩), B5.out, M6.out⟩
            · have hb' : p.1 = false := by simpa using hb
              have HB := Lib.hid hb'
              have hpart := HPt.out
              rw [hb'] at hpart
              simp only [Bool.false_eq_true, if_false, List.append_nil] at hpart
              have HPa := Lib.hid hpart
              clear hb hb' hpart
              gi_wp2_with (refine ⟨trivial, ?_⟩; gi_at_call 77; refine (callsIn_wide.2 HC.out).mono ?_; rintro e w4 ⟨a1, c1, rfl, hM4, hP4⟩; rw [HB.out]; have M5 := Lib.hid hM4; have P5 := Lib.hid (HP.out.step HJ.out HM.out HLo.out hP4); have L5 := Lib.hid (Nat.le_trans HL.out hP4.1.size); clear hM4 hP4)
              gi_wp2_with (refine ⟨trivial, ?_⟩; gi_at_call 78; refine (callsIn_wide.2 (HUn.out _ _ _ M5.out)).mono ?_; rintro e w6 ⟨⟨vv, rfl⟩, hM6, hP6⟩; have M6 := Lib.hid hM6; have P6 := Lib.hid hP6; clear hM6 hP6)
              go_roundw
              case rel => exact ⟨q + 1, a1, c1, by omega, by go_num, M6, Lib.hid (by rw [HPa.out]; exact P5.out.step HJ.out M5.out HLo.out P6.out), Lib.hid (Nat.le_trans L5.out P6.out.1.size)⟩
              case measure => simp [intOf]; omega
        · obtain rfl : q = n := by omega
          gi_wp2
          go_ret
          refine .inl ⟨rfl, a, c, HM.out, ?_, HL.out⟩
          have h := HP.out
          rw [isoLt_all HXi.out] at h
          exact h
end Go.Proofs.Ytgmhnjccgldddaa

namespace Go.Proofs.Ytgmhnjccgldddaa
set_option linter.unusedVariables false
set_option linter.unusedSimpArgs false
open Go Go.RowKit

theorem three (W : World) (o1 o2 o3 : Obj) : (((W.alloc o1).alloc o2).alloc o3).drew.heap[W.heap.size]? = some o1 ∧ (((W.alloc o1).alloc o2).alloc o3).drew.heap[W.heap.size + 1]? = some o2 ∧ (((W.alloc o1).alloc o2).alloc o3).drew.heap[W.heap.size + 1 + 1]? = some o3 ∧ (((W.alloc o1).alloc o2).alloc o3).drew.heap.size = W.heap.size + 3 := by
  have h1 := heap_alloc_new W o1
  have h2 := heap_alloc_new (W.alloc o1) o2
  have h3 := heap_alloc_new ((W.alloc o1).alloc o2) o3
  have e1 : (W.alloc o1).heap.size = W.heap.size + 1 := by simp
  have e2 : ((W.alloc o1).alloc o2).heap.size = W.heap.size + 1 + 1 := by simp
  rw [e1] at h2
  rw [e2] at h3
  refine ⟨?_, ?_, h3, by simp [World.drew]⟩
  · show (((W.alloc o1).alloc o2).alloc o3).heap[W.heap.size]? = some o1
    rw [Below.heap_alloc _ _ _ (by simp; omega), Below.heap_alloc _ _ _ (by simp)]; exact h1
  · show (((W.alloc o1).alloc o2).alloc o3).heap[W.heap.size + 1]? = some o2
    rw [Below.heap_alloc _ _ _ (by simp)]; exact h2
theorem map_new {V : World} {mb ib ub n mz : Nat} {vF vG : Value} (hi : V.heap[ib]? = some (.cells (madeCells #[.int .i64 0] n) 2)) (hu : V.heap[ub]? = some (.cells (madeCells #[.bool false] n) 4))
    (hm : V.heap[mb]? = some (.cells #[vF, vG, .slice (some ⟨ib, 0, none⟩) n n, .slice (some ⟨ub, 0, none⟩) n n, .slice none 0 0] 77)) (ne : mb ≠ ib ∧ mb ≠ ub ∧ ib ≠ ub ∧ mb < mz + 3 ∧ ib < mz + 3 ∧ ub < mz + 3) (lo : mz ≤ mb ∧ mz ≤ ib ∧ mz ≤ ub) :
    MapAt V mb ib ub n (mz + 3) vF vG none 0 (List.replicate n 0) (List.replicate n false) [] ∧ (mz ≤ mb ∧ mz ≤ ib ∧ mz ≤ ub) := by
  refine ⟨⟨hm, ?_, ?_, Own.nil _ _, ne⟩, lo⟩
  · unfold Blk
    rw [hi]
    congr 2
    apply Array.ext'
    rw [toList_madeCells_one]; simp
  · unfold Blk
    rw [hu]
    congr 2
    apply Array.ext'
    rw [toList_madeCells_one]; simp
theorem MapAt.putI {w : World} {mb ib ub n L : Nat} {vF vG : Value} {a : Option Addr} {c : Nat} {im : List Int} {us : List Bool} {st : List Int} (h : MapAt w mb ib ub n L vF vG a c im us st) (k : Nat) (u : Int) : MapAt (w.setCell ⟨ib, k, none⟩ (.int .i64 u)) mb ib ub n L vF vG a c (im.set k u) us st := by
  obtain ⟨n1, n2, n3, n4, n5, n6⟩ := h.ne
  refine ⟨h.box.other n1 _, ?_, h.usb.other (a := ⟨ib, k, none⟩) (fun e => n3 e.symm) _, ?_, h.ne⟩
  · have := h.imb.set k (.int .i64 u)
    rwa [← List.map_set] at this
  · refine h.own.keepB (S := fun b => b = ib) ((Keep.refl (fun b => b = ib) w).setCell (p := ⟨ib, k, none⟩) (.inl rfl) _) fun b hb e => ?_
    have := (h.own.ownLt hb).1
    have e : b = ib := e
    omega
theorem fill_one (n k : Nat) (hk : k < n) : (List.replicate k (-1 : Int) ++ List.replicate (n - k) 0).set k (-1) = List.replicate (k + 1) (-1) ++ List.replicate (n - (k + 1)) 0 := by
  rw [List.set_append_right _ _ (by simp)]
  simp only [List.length_replicate, Nat.sub_self]
  rw [show n - k = (n - (k + 1)) + 1 by omega, List.replicate_succ, List.set_cons_zero, List.replicate_succ', List.append_assoc]
  rfl
theorem cut_waysY {p G : Prop} (k : Hid p → G) (h : p) : G := k (Lib.hid h)
theorem made1 (W : World) (o1 : Obj) : Below W.heap.size W (W.alloc o1).drew := ((Below.refl _ W).alloc (Nat.le_refl _) _).drew
theorem made2 (W : World) (o1 o2 : Obj) : Below W.heap.size W ((W.alloc o1).alloc o2).drew := (((Below.refl _ W).alloc (Nat.le_refl _) _).alloc (by simp) _).drew
theorem made3 (W : World) (o1 o2 o3 : Obj) : Below W.heap.size W (((W.alloc o1).alloc o2).alloc o3).drew := ((((Below.refl _ W).alloc (Nat.le_refl _) _).alloc (by simp) _).alloc (by simp; omega) _).drew
theorem eg_iso1 : ∀ args w, (callFunc 53 args).run Try.prog w = .ok (.enter 53 args) w := Go.Proofs.enters_of Try.func53 (by kernel_rfl) rfl
set_option maxHeartbeats 400000 in
theorem c_isomorphisms (b1 o1 n1 k1 b2 o2 n2 k2 : Nat) (w : World) :
    Calls Try.prog 36 #[.slice (some ⟨b1, o1, none⟩) n1 k1, .slice (some ⟨b2, o2, none⟩) n2 k2] w (fun e w' => ∃ g1 g2, e = .returned (.func (.func 53) #[] #[.pointer (some ⟨g1, 0, none⟩), .pointer (some ⟨g2, 0, none⟩)]) ∧
      w'.cell? ⟨g1, 0, none⟩ = some (.slice (some ⟨b1, o1, none⟩) n1 k1) ∧ w'.cell? ⟨g2, 0, none⟩ = some (.slice (some ⟨b2, o2, none⟩) n2 k2) ∧ Below w.heap.size w w') := by
  obtain ⟨f0, f1, hW0, hsz⟩ := boxes2 w [.slice (some ⟨b1, o1, none⟩) n1 k1] [.slice (some ⟨b2, o2, none⟩) n2 k2] 59 59
  have hf := one_cell f0
  have hg := one_cell f1
  have HW := Lib.hid hW0; have HF := Lib.hid hf; have HG := Lib.hid hg
  clear f0 f1 hW0 hsz hf hg
  go_enter Try.func36, Try.ntmps36
  go_wp2
  go_ret
  exact ⟨w.heap.size, w.heap.size + 1, by simp, HF.out, HG.out, HW.out⟩

/-- The other number of elements: nothing is handed. -/
theorem c_iso1_none {m : Nat} {v1 v2 : Value} {fb fo n1 fc gb go' n2 gc K1 K2 c1 c2 : Nat} {tb1 to1 tb2 to2 : Nat} (N g1 g2 : Nat) (w : World) (hb1 : w.cell? ⟨g1, 0, none⟩ = some (.slice (some ⟨fb, fo, none⟩) K1 fc)) (hb2 : w.cell? ⟨g2, 0, none⟩ = some (.slice (some ⟨gb, go', none⟩) K2 gc))
    (hk1 : 0 < K1) (hk2 : 0 < K2) (h1 : w.cell? ⟨fb, fo, none⟩ = some (.slice (some ⟨tb1, to1, none⟩) n1 c1)) (h2 : w.cell? ⟨gb, go', none⟩ = some (.slice (some ⟨tb2, to2, none⟩) n2 c2)) (hne : n1 ≠ n2) (Z : World → Prop) :
    SeqRowsK Fence.wide N Try.prog 53 #[.pointer (some ⟨g1, 0, none⟩), .pointer (some ⟨g2, 0, none⟩)] [] Z w := by
  intro l J Jx W1 hb _ hJ hJx h0 hY
  have q1 := cell_under hb hb1; have q2 := cell_under hb hb2; have q3 := cell_under hb h1; have q4 := cell_under hb h2
  have H0 := Lib.hid h0
  have hne2 : ((n2 : Int) != (n1 : Int)) = true := by simp; omega
  have p1 : (0 : Int) < K1 := by omega
  have p2 : (0 : Int) < K2 := by omega
  clear hJ hJx h0 hY hb hb1 hb2 h1 h2
  refine callsIn_wide.2 ?_
  show Calls Try.prog 53 #[.func (.yield l) #[] #[], .pointer (some ⟨g1, 0, none⟩), .pointer (some ⟨g2, 0, none⟩)] W1 _
  go_enter Try.func53, Try.ntmps53
  go_wp2
  refine bodyPost_ret (results_none rfl _ _ _) rfl ?_
  exact ⟨⟨_, rfl⟩, .inl ⟨_, H0.out _ (Below.refl _ _)⟩⟩
set_option maxRecDepth 100000 in
set_option maxHeartbeats 8000000 in
theorem c_iso1 {n K : Nat} {F G : List (List (List Int))} (w0 : World) {fb fo fc gb go' gc : Nat} {tb to tc tb' to' tc' : Nat → Nat} {rb ro rc rb' ro' rc' : Nat → Nat → Nat} (hF : Tb3 w0 fb fo n K F tb to tc rb ro rc) (hG : Tb3 w0 gb go' n K G tb' to' tc' rb' ro' rc')
    (hKF : K = F.length) (hKG : K = G.length) (hn : n ≤ 12) (hK : K ≤ 12) (hK0 : 0 < K) (hfc : K ≤ fc) (hgc : K ≤ gc) (N g1 g2 : Nat) (w : World) (hw : Below w0.heap.size w0 w) (hb1 : w.cell? ⟨g1, 0, none⟩ = some (.slice (some ⟨fb, fo, none⟩) K fc)) (hb2 : w.cell? ⟨g2, 0, none⟩ = some (.slice (some ⟨gb, go', none⟩) K gc)) :
    SeqRowsK Fence.wide N Try.prog 53 #[.pointer (some ⟨g1, 0, none⟩), .pointer (some ⟨g2, 0, none⟩)] (isoAll n F G) (Below w0.heap.size w0) w := by
  intro l J Jx W1 hb hZ hJ hJx h0 hY
  have q1 := cell_under hb hb1; have q2 := cell_under hb hb2
  have hw1 : Below w0.heap.size w0 W1 := bb hw hb
  have q3 := (hF.below hw1).tab 0 hK0
  have q4 := (hG.below hw1).tab 0 hK0
  simp only [Nat.add_zero] at q3 q4
  have p1 : (0 : Int) < K := by omega
  have hmk1 := run_make_row' (P := Try.prog) 26 2 (.int .i64 0) 8 Try.underlying26 inf_int64 rfl .i64 .i64 n (by omega) (by omega)
  have hmk2 := run_make_row' (P := Try.prog) 75 4 (.bool false) 1 Try.underlying75 inf_bool rfl .i64 .i64 n (by omega) (by omega)
  refine callsIn_wide.2 ?_
  show Calls Try.prog 53 #[.func (.yield l) #[] #[], .pointer (some ⟨g1, 0, none⟩), .pointer (some ⟨g2, 0, none⟩)] W1 _
  have HEx : Hid (∀ (mb ib ub L : Nat) (hlo : W1.heap.size ≤ mb ∧ W1.heap.size ≤ ib ∧ W1.heap.size ≤ ub), _) := Lib.hid fun mb ib ub L hlo => c_extend w0 W1 hw1 hF hG hKF hKG hn hK hfc hgc mb ib ub L hlo l (N - 1) J Jx hZ hJ hJx h0 hY (n + 1) ⟨List.replicate n (-1), List.replicate n false, []⟩ none 0
  have H0 := Lib.hid h0
  clear hF hG hKF hKG hZ hJ hJx h0 hY hb hb1 hb2 hw hw1
  go_enter Try.func53, Try.ntmps53
  have e1 := cell_lt q1
  have e2 := cell_lt q2
  simp only at e1 e2
  have Q1 := Lib.hid q1; have Q2 := Lib.hid q2
  obtain ⟨mz, hmz⟩ : ∃ z, z = W1.heap.size := ⟨_, rfl⟩
  have HMZ := Lib.hid hmz
  go_wp2_with fail
  apply cut_waysY
  · intro key
    go_region_held3 (fun w' => w'.cell? ⟨g1, 0, none⟩ = some (.slice (some ⟨fb, fo, none⟩) K fc) ∧ w'.cell? ⟨g2, 0, none⟩ = some (.slice (some ⟨gb, go', none⟩) K gc)) (first | exact ⟨Q1.out, Q2.out⟩ | exact ⟨cell_under (made1 W1 _) Q1.out, cell_under (made1 W1 _) Q2.out⟩ | exact ⟨cell_under (made2 W1 _ _) Q1.out, cell_under (made2 W1 _ _) Q2.out⟩ | exact ⟨cell_under (made3 W1 _ _ _) Q1.out, cell_under (made3 W1 _ _ _) Q2.out⟩) (fail)
    all_goals
      rename_i hHz
      clear hHz
      generalize hV : World.drew (World.alloc (World.alloc (World.alloc W1 _) _) _) = V
      obtain ⟨t0, t1, t2, t3⟩ := three W1 _ _ _
      rw [hV] at t0 t1 t2 t3
      have HB := Lib.hid (show Below W1.heap.size W1 V by rw [← hV]; exact made3 W1 _ _ _)
      have HSz := Lib.hid (show mz + 3 ≤ V.heap.size by omega)
      clear hV
      first
        | (have hMz := map_new (mz := mz) (vF := .slice (some ⟨fb, fo, none⟩) K fc) (vG := .slice (some ⟨gb, go', none⟩) K gc) t0 t1 t2 (by omega) (by omega); generalize W1.heap.size + 1 + 1 = mb at hMz ⊢; generalize W1.heap.size + 1 = ub at hMz ⊢; generalize W1.heap.size = ib at hMz ⊢; have HMz := Lib.hid hMz; clear hMz)
        | (have hMz := map_new (mz := mz) (vF := .slice (some ⟨fb, fo, none⟩) K fc) (vG := .slice (some ⟨gb, go', none⟩) K gc) t0 t2 t1 (by omega) (by omega); generalize W1.heap.size + 1 + 1 = ub at hMz ⊢; generalize W1.heap.size + 1 = mb at hMz ⊢; generalize W1.heap.size = ib at hMz ⊢; have HMz := Lib.hid hMz; clear hMz)
        | (have hMz := map_new (mz := mz) (vF := .slice (some ⟨fb, fo, none⟩) K fc) (vG := .slice (some ⟨gb, go', none⟩) K gc) t1 t0 t2 (by omega) (by omega); generalize W1.heap.size + 1 + 1 = mb at hMz ⊢; generalize W1.heap.size + 1 = ib at hMz ⊢; generalize W1.heap.size = ub at hMz ⊢; have HMz := Lib.hid hMz; clear hMz)
        | (have hMz := map_new (mz := mz) (vF := .slice (some ⟨fb, fo, none⟩) K fc) (vG := .slice (some ⟨gb, go', none⟩) K gc) t1 t2 t0 (by omega) (by omega); generalize W1.heap.size + 1 + 1 = ub at hMz ⊢; generalize W1.heap.size + 1 = ib at hMz ⊢; generalize W1.heap.size = mb at hMz ⊢; have HMz := Lib.hid hMz; clear hMz)
        | (have hMz := map_new (mz := mz) (vF := .slice (some ⟨fb, fo, none⟩) K fc) (vG := .slice (some ⟨gb, go', none⟩) K gc) t2 t0 t1 (by omega) (by omega); generalize W1.heap.size + 1 + 1 = ib at hMz ⊢; generalize W1.heap.size + 1 = mb at hMz ⊢; generalize W1.heap.size = ub at hMz ⊢; have HMz := Lib.hid hMz; clear hMz)
        | (have hMz := map_new (mz := mz) (vF := .slice (some ⟨fb, fo, none⟩) K fc) (vG := .slice (some ⟨gb, go', none⟩) K gc) t2 t1 t0 (by omega) (by omega); generalize W1.heap.size + 1 + 1 = ib at hMz ⊢; generalize W1.heap.size + 1 = ub at hMz ⊢; generalize W1.heap.size = mb at hMz ⊢; have HMz := Lib.hid hMz; clear hMz)
      clear t0 t1 t2 t3
      revert HMz HSz HB
      revert mb
      revert ub
      revert ib
      revert V
      exact key.out
  intro V ib ub mb HB HSz HMz
  obtain ⟨hM0, hlo⟩ := HMz.out
  rw [HMZ.out] at hlo
  have HEx2 := Lib.hid (HEx.out mb ib ub (mz + 3) hlo)
  have HLo := Lib.hid hlo
  have HM := Lib.hid hM0
  clear HMz hM0 HEx hlo
  obtain ⟨m0, m1, m2, m3, m4, m5⟩ := HM.out.cells
  go_wp2
  go_loopw [27] (fun v wr => ∃ k : Nat, k ≤ n ∧ v = .int .i64 k ∧ Hid (MapAt wr mb ib ub n (mz + 3) (.slice (some ⟨fb, fo, none⟩) K fc) (.slice (some ⟨gb, go', none⟩) K gc) none 0 (List.replicate k (-1) ++ List.replicate (n - k) 0) (List.replicate n false) []) ∧ Hid (Below W1.heap.size W1 wr) ∧ Hid (mz + 3 ≤ wr.heap.size)) (fun v _ => n - (intOf v).toNat)
  case atStart => exact ⟨0, Nat.zero_le _, rfl, by simpa using HM, HB, HSz⟩
  case round =>
    clear HM HB HSz m0 m1 m2 m3 m4 m5
    obtain ⟨k, hk, rfl, HM, HB, HSz⟩ := hrel
    obtain ⟨wo, rfl⟩ : ∃ wo : World, wo = wr := ⟨_, rfl⟩
    obtain ⟨m0, m1, m2, m3, m4, m5⟩ := HM.out.cells
    by_cases hkn : k < n
    · obtain ⟨gi, gi2⟩ := HM.out.imc k (by omega) (by simp; omega)
      simp only [Int.toNat_natCast] at gi gi2
      have HM2 := Lib.hid (HM.out.putI k (-1))
      rw [fill_one n k hkn] at HM2
      have hib : W1.heap.size ≤ ib := HLo.out.2.1
      go_wp2
      go_roundw
      case rel => exact ⟨k + 1, by omega, by go_num, HM2, Lib.hid (HB.out.setCell (p := ⟨ib, k, none⟩) hib _), Lib.hid (by simpa [World.setCell] using HSz.out)⟩
      case measure => simp [intOf]; omega
    · obtain rfl : n = k := by omega
      have hM := HM.out
      rw [Nat.sub_self, List.replicate_zero, List.append_nil] at hM
      have HC := HEx2.out wo [] [] (Mp.start n) (by simp) (fun y hy => by simp at hy) hM (.inl ⟨rfl, HB.out⟩) (by simp [isoM_start]) HSz.out
      have HCx := Lib.hid HC
      clear HC hM HEx2
      go_wp2_with fail
      refine HCx.out.mono ?_; rintro e w5 (⟨rfl, a, c, hM5, hP5, hL5⟩ | ⟨rfl, hi, k', a, c, hJ5, hmb, hM5⟩)
      · have P5 := Lib.hid hP5
        clear hM5 hP5 hL5
        go_wp2
        go_end0
        refine ⟨⟨_, rfl⟩, .inl ?_⟩
        have h := P5.out
        rw [isoM_start, List.length_nil, Nat.zero_add] at h
        rcases h with ⟨h1, h2⟩ | ⟨hi, h1, _⟩
        · exact ⟨_, by rw [h1]; exact H0.out _ h2⟩
        · exact ⟨hi, h1⟩
      · have J5 := Lib.hid hJ5
        clear hM5 hJ5 hmb
        go_wp2
        go_end0
        exact ⟨⟨_, rfl⟩, .inr ⟨hi, k', J5.out⟩⟩
end Go.Proofs.Ytgmhnjccgldddaa
