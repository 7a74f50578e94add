/-
  The law FnTwists answers true, and leaves what was there as it was: at every slice of bytes.
-/
import Derived.Test.YtkcobfkmeaakoaaD3
import Derived.Test.YtkcobfkmeaakoaaM1
import Derived.Test.YtkcobfkmeaakoaaArg
import Derived.Test.YtkcobfkmeaakoaaLIsNondegenerate
import Derived.Test.YtkcobfkmeaakoaaLFlipSolution
import Derived.Test.YtkcobfkmeaakoaaLInversePermutation
namespace Go.Proofs.Ytkcobfkmeaakoaa
open Go Go.RowKit Go.ChangeShapes Go.WideShapes Go.ChangeAt

section
variable {H : Type} {enc : TypeId × Value → H} {w : World} {base : Nat} {spare : Nat → Bool} {held : Bool}
theorem cells_u8 : Try.prog.cellsOf 5 = 1 := by kernel_rfl
theorem bytes_of_trod {fuel : Nat} {u : Value} {x : DataW H × List MemPlace} (h : DataW.trod enc Try.prog w base spare held fuel 39 [u] = some x) : ∃ bs, Bytes w u bs := by
  rcases open_ints Try.underlying39 Try.underlying5 cells_u8 h with ⟨hcs, _⟩ | ⟨a, len, cap, zs, hcs, _, hl, hm, hz, _, hcell, hwf⟩
  · simp at hcs; subst hcs
    exact ⟨[], none, 0, rfl, Nat.le_refl _, by decide, fun i hi => absurd hi (by simp)⟩
  · simp at hcs; subst hcs
    have hge : len ≤ zs.length := by rw [hz]; split <;> omega
    have hlen : (zs.take len).length = len := by simp; omega
    refine ⟨zs.take len, some a, cap, by rw [hlen], by rw [hlen]; exact hl, hm, fun i hi => ?_⟩
    have hi' : i < zs.length := by omega
    obtain ⟨b, off, rfl, hc⟩ := ints_at hcell (by omega)
    have hr := hwf (zs.getD i 0) (by simp [List.getD, hi'])
    have hci := hc i hi'
    generalize zs.getD i 0 = z at hr hci
    simp [Lit.wf, IntKind.min, IntKind.max, IntKind.signed, IntKind.bits] at hr
    exact ⟨b, off, z, rfl, hci, by omega, by omega⟩
end

structure TwF (w W : World) (v1 v2 : Value) (p q : List Int) (sb : Nat) (r1 r2 : Value) (A B : List (List Int)) : Prop where
  hp : Ints W v1 p
  hq : Ints W v2 q
  hs : Blk W sb 27 [r1, r2]
  hsol : Sol W r1 r2 A B
  hb : Below w.heap.size w W
theorem TwF.under {w W W' : World} {v1 v2 : Value} {p q : List Int} {sb : Nat} {r1 r2 : Value} {A B : List (List Int)} (h : TwF w W v1 v2 p q sb r1 r2 A B) (k : Below W.heap.size W W') : TwF w W' v1 v2 p q sb r1 r2 A B :=
  ⟨h.hp.below k, h.hq.below k, h.hs.under k, h.hsol.below k, h.hb.trans (k.mono h.hb.size)⟩
theorem TwF.new {w W : World} {v1 v2 : Value} {p q : List Int} {sb : Nat} {r1 r2 : Value} {A B : List (List Int)} (h : TwF w W v1 v2 p q sb r1 r2 A B) (o : Obj) : TwF w (W.alloc o) v1 v2 p q sb r1 r2 A B := h.under ((Below.refl _ _).alloc (Nat.le_refl _) o)

theorem tw_cases (p q : List Int) : twCode p q = 2 ∨ (twCode p q = 5 ∧ thenRes p q ≠ thenRes q p) ∨
    (twCode p q = 0 ∧ isPerm p = true ∧ isPerm q = true ∧ q.length = p.length ∧ thenL p q = thenL q p ∧ twRA p q = twA p ∧ twRB p q = twB p q) := by
  by_cases h1 : isPerm p = true
  · by_cases h2 : isPerm q = true
    · by_cases h3 : p.length = q.length
      · by_cases h4 : thenL p q = thenL q p
        · exact .inr (.inr ⟨by simp [twCode, twOk, twCm, h1, h2, h3, h4], h1, h2, h3.symm, h4, by simp [twRA, twOk, twCm, h1, h2, h3, h4], by simp [twRB, twOk, twCm, h1, h2, h3, h4]⟩)
        · refine .inr (.inl ⟨by simp [twCode, twOk, twCm, h1, h2, h3, h4], ?_⟩)
          simp [thenRes, okThen, h1, h2, h3, h4]
      · exact .inl (by simp [twCode, twOk, h3])
    · exact .inl (by simp [twCode, twOk, h2])
  · exact .inl (by simp [twCode, twOk, h1])

theorem inv_perm {p : List Int} (h : isPerm p = true) : isPerm (invL p) = true := by
  obtain ⟨⟨h1, h2⟩, hp⟩ := isPerm_in' h
  have : Permuted (invL p) := by
    rw [permuted_iff]
    intro x x0 x1
    rw [invL_length] at x1
    have := perm_lt hp x0 x1
    rw [← nth_invL hp x0 x1]
    exact nth_mem this.1 (by rw [invL_length]; exact this.2)
  simp [isPerm, inR, this]; omega
theorem iota_perm {n : Nat} (h1 : 1 ≤ n) (h2 : n ≤ 12) : isPerm (iota n) = true := by
  have : Permuted (iota n) := ⟨iota_nodup n, fun x hx => by simpa using (mem_iota n x).1 hx⟩
  simp [isPerm, inR, this]; omega
theorem then_unit {p : List Int} (h : isPerm p = true) : thenRes p (invL p) = iota p.length := by
  have h2 := inv_perm h
  simp only [thenRes, okThen, h, h2, invL_length]
  simpa using then_back (isPerm_in' h).2
theorem flip_unit {n : Nat} (h1 : 1 ≤ n) (h2 : n ≤ 12) : flA n = twA (iota n) ∧ flB n = twB (iota n) (iota n) ∧ flCode n = 0 := by
  have h : inR n 1 12 = true := by simp [inR]; omega
  exact ⟨by simp [flA, flN, h], by simp [flB, flN, h], by simp [flCode, h]⟩
theorem twist_unit {n : Nat} (h1 : 1 ≤ n) (h2 : n ≤ 12) : twRA (iota n) (iota n) = twA (iota n) ∧ twRB (iota n) (iota n) = twB (iota n) (iota n) ∧ twCode (iota n) (iota n) = 0 := by
  have h := iota_perm h1 h2
  exact ⟨by simp [twRA, twOk, twCm, h], by simp [twRB, twOk, twCm, h], by simp [twCode, twOk, twCm, h]⟩
set_option maxRecDepth 100000 in
set_option maxHeartbeats 8000000 in
theorem law_Twists (v : Value) (bs : List Int) (w : World) (hv : Bytes w v bs) : Calls Try.prog 5 #[v] w (RVal w (.bool true)) := by
  have HV : Hid (BytesR w v bs.length) := Lib.hid hv
  obtain ⟨a, c, hva, -⟩ := hv
  subst hva
  go_enter Try.func5, Try.ntmps5
  go_wp2_with fail
  refine (c_big a bs.length c _).mono ?_; rintro e w' ⟨rfl, rfl⟩
  by_cases hbig : 4096 < bs.length
  case pos =>
    have hd : decide (4096 < bs.length) = true := by simpa using hbig
    rw [hd]; clear hd hbig
    go_wp2
    go_ret
    exact ⟨rfl, Below.refl _ _⟩
  have hd : decide (4096 < bs.length) = false := by simpa using hbig
  rw [hd]; clear hd
  go_wp2_with fail
  refine (c_DrawTwist _ bs.length _ HV.out (by omega)).mono ?_; rintro e w1 ⟨v1, v2, p, q, rfl, hp, hq, hpl, hql, hb1⟩
  have HP := Lib.hid hp; have HQ := Lib.hid hq; have HB1 := Lib.hid hb1
  clear hp hq hb1 HV hbig
  go_wp2_with fail
  refine (c_TwistSolution _ p _ q _ HP.out HQ.out).mono ?_; rintro e w2 ⟨r1, r2, rfl, hs2, hb2⟩
  have HF := Lib.hid (TwF.mk (w := w) (W := w2.alloc (.cells #[r1, r2] 27)) (sb := w2.heap.size) ((HP.out.below hb2).below ((Below.refl _ _).alloc (Nat.le_refl _) _)) ((HQ.out.below hb2).below ((Below.refl _ _).alloc (Nat.le_refl _) _)) (Blk.new w2 [r1, r2] 27) (hs2.sol.below ((Below.refl _ _).alloc (Nat.le_refl _) _)) ((HB1.out.trans (hb2.mono HB1.out.size)).alloc (by have := HB1.out.size; have := hb2.size; omega) _))
  clear hs2 hb2
  obtain ⟨ra1, rl1, rc1, hr1⟩ := HF.out.hsol.1.any
  obtain ⟨ra2, rl2, rc2, hr2⟩ := HF.out.hsol.2.any
  subst hr1 hr2
  obtain ⟨cd, hcd⟩ : ∃ cd, twCode p q = cd := ⟨_, rfl⟩
  have hcc : (cd != cd) = false := by simp
  have HCd := Lib.hid hcd
  rw [hcd]
  clear hcd
  go_wp2_with fail
  refine (c_specTwistSolution _ p _ q _ HF.out.hp HF.out.hq).mono ?_; rintro e w3 ⟨t1, t2, rfl, hs3, hb3⟩
  rw [HCd.out]
  obtain ⟨ta1, tl1, tc1, ht1⟩ := hs3.sol.1.any
  obtain ⟨ta2, tl2, tc2, ht2⟩ := hs3.sol.2.any
  subst ht1 ht2
  have HF3 := Lib.hid ((HF.out.under hb3).new (.cells #[.slice ta1 tl1 tc1, .slice ta2 tl2 tc2] 27))
  have HT3 := Lib.hid (hs3.sol.below ((Below.refl _ _).alloc (Nat.le_refl _) (.cells #[.slice ta1 tl1 tc1, .slice ta2 tl2 tc2] 27)))
  have HQ3 := Lib.hid (Blk.new w3 [.slice ta1 tl1 tc1, .slice ta2 tl2 tc2] 27)
  clear hs3 hb3
  obtain ⟨x0, x1, -, -⟩ := two_cells HF3.out.hs
  obtain ⟨y0, y1, -, -⟩ := two_cells HQ3.out
  go_wp2_with fail
  refine (c_likeSolution5 _ _ _ _ _ _ _ _ _ HF3.out.hsol HT3.out).mono ?_; rintro e w4 ⟨rfl, hb4⟩
  rw [show (decide (twRA p q = twRA p q) && decide (twRB p q = twRB p q)) = true from by simp]
  have HF4 := Lib.hid (HF3.out.under hb4)
  clear hb4 x0 x1 y0 y1 hcc
  rcases tw_cases p q with h2 | ⟨h5, hne⟩ | ⟨h0, hip, hiq, hlq, hcom, hRA, hRB⟩
  · have e : cd = 2 := by rw [← HCd.out]; exact h2
    subst e
    clear h2
    go_wp2
    go_ret
    exact ⟨rfl, HF4.out.hb⟩
  · have e : cd = 5 := by rw [← HCd.out]; exact h5
    subst e
    have HNE := Lib.hid hne
    clear h5 hne
    go_wp2_with fail
    refine (c_then5 _ _ p q _ HF4.out.hp HF4.out.hq).mono ?_; rintro e w5 ⟨r5, rfl, ho5, hb5⟩
    have HF5 := Lib.hid (HF4.out.under hb5); have HO5 := Lib.hid ho5
    clear ho5 hb5
    go_wp2_with fail
    refine (c_then5 _ _ q p _ HF5.out.hq HF5.out.hp).mono ?_; rintro e w6 ⟨r6, rfl, ho6, hb6⟩
    have HF6 := Lib.hid (HF5.out.under hb6); have HO6 := Lib.hid ho6; have HO5' := Lib.hid (HO5.out.ints.below hb6)
    clear ho6 hb6
    go_wp2_with fail
    refine (c_likeInts _ _ (thenRes p q) (thenRes q p) _ HO5'.out HO6.out.ints).mono ?_; rintro e w7 ⟨rfl, hb7⟩
    rw [show decide (thenRes p q = thenRes q p) = false from by simp [HNE.out]]
    have HF7 := Lib.hid (HF6.out.under (below_of_drewN hb7))
    clear hb7
    go_wp2
    go_ret
    exact ⟨rfl, HF7.out.hb⟩
  have e : cd = 0 := by rw [← HCd.out]; exact h0
  subst e
  obtain ⟨⟨hl1, hl12⟩, hpp⟩ := isPerm_in' hip
  obtain ⟨-, hpq⟩ := isPerm_in' hiq
  rw [hRA, hRB] at HF4
  have HPP := Lib.hid hpp; have HPQ := Lib.hid hpq; have HLQ := Lib.hid hlq; have HCom := Lib.hid hcom; have HIP := Lib.hid hip; have HIQ := Lib.hid hiq
  have HPM := Lib.hid (tw_pm hpp hpq hlq hl1 hl12)
  have HInv := Lib.hid (show involRes (twA p) (twB p q) = decide (invL p = q) by rw [involRes, if_pos HPM.out]; exact tw_inv hpp hpq hlq hl1 hl12)
  have HNd := Lib.hid (show ndRes (twA p) (twB p q) = true by rw [ndRes, if_pos HPM.out]; exact tw_nd hpp hpq hlq hl1 hl12)
  have HSol := Lib.hid (tw_sol hpp hpq hlq hl1 hl12 hcom)
  have HC1 := Lib.hid (show pmCode' (twA p) (twB p q) = 0 by simp [pmCode', HPM.out])
  have HC2 := Lib.hid (show pmCodeN (twA p) (twB p q) = 0 by simp [pmCodeN, HPM.out])
  have HIv := Lib.hid (show invRes p = invL p by simp [invRes, hip])
  have HIc := Lib.hid (show invCode p = 0 by simp [invCode, hip])
  clear h0 hip hiq hpp hpq hlq hcom hRA hRB HF3 HT3 HQ3
  go_wp2_with fail
  refine (c_InversePermutation _ p _ HF4.out.hp).mono ?_; rintro e w5 ⟨bk, rfl, ho5, hb5⟩
  rw [HIv.out] at ho5
  rw [HIc.out]
  have HF5 := Lib.hid (HF4.out.under hb5); have HK5 := Lib.hid ho5.ints
  clear ho5 hb5
  obtain ⟨x0, x1, -, -⟩ := two_cells HF5.out.hs
  go_wp2_with fail
  refine (c_IsInvolutive _ _ _ _ _ HF5.out.hsol).mono ?_; rintro e w6 ⟨rfl, hb6⟩
  rw [HInv.out, HC1.out]
  have HF6 := Lib.hid (HF5.out.under hb6); have HK6 := Lib.hid (HK5.out.below hb6)
  clear hb6 x0 x1
  obtain ⟨x0, x1, -, -⟩ := two_cells HF6.out.hs
  go_wp2_with fail
  refine (c_IsNondegenerate _ _ _ _ _ HF6.out.hsol).mono ?_; rintro e w7 ⟨rfl, hb7⟩
  rw [HNd.out, HC2.out]
  have HF7 := Lib.hid (HF6.out.under hb7); have HK7 := Lib.hid (HK6.out.below hb7)
  clear hb7 x0 x1
  obtain ⟨x0, x1, -, -⟩ := two_cells HF7.out.hs
  go_wp2_with fail
  refine (c_IsSolution _ _ _ _ _ HF7.out.hsol).mono ?_; rintro e w8 ⟨rfl, hb8⟩
  rw [HSol.out]
  have HF8 := Lib.hid (HF7.out.under hb8); have HK8 := Lib.hid (HK7.out.below hb8)
  clear hb8 x0 x1
  obtain ⟨dv, hdv⟩ : ∃ d, decide (invL p = q) = d := ⟨_, rfl⟩
  have HDv := Lib.hid hdv
  rw [hdv]
  have hdd : (dv != dv) = false := by simp
  clear hdv
  go_wp2_with fail
  refine (c_likeInts _ _ (invL p) q _ HK8.out HF8.out.hq).mono ?_; rintro e w9 ⟨rfl, hb9⟩
  rw [HDv.out]
  have HF9 := Lib.hid (HF8.out.under (below_of_drewN hb9)); have HK9 := Lib.hid (HK8.out.below (below_of_drewN hb9))
  clear hb9
  obtain ⟨pa, pc, hv1, _, _⟩ := HF9.out.hp.shape
  subst hv1
  obtain ⟨N, hN⟩ : ∃ N, p.length = N := ⟨_, rfl⟩
  have HN := Lib.hid hN
  rw [hN] at hl1 hl12
  have HTU := Lib.hid (then_unit HIP.out)
  have HFU := Lib.hid (flip_unit hl1 hl12); have HWU := Lib.hid (twist_unit hl1 hl12)
  clear hN hdd
  go_wp2_with fail
  refine (c_then5 _ _ p (invL p) _ HF9.out.hp HK9.out).mono ?_; rintro e w10 ⟨un, rfl, ho10, hb10⟩
  rw [HTU.out, HN.out] at ho10
  have HF10 := Lib.hid (HF9.out.under hb10); have HU10 := Lib.hid ho10.ints
  clear ho10 hb10
  go_wp2_with fail
  rw [HN.out]
  refine (c_FlipSolution (N : Int) _ (by omega) (by omega)).mono ?_; rintro e w11 ⟨f1, f2, rfl, hs11, hb11⟩
  rw [HFU.out.1, HFU.out.2.1] at hs11
  rw [HFU.out.2.2]
  obtain ⟨fa1, fl1, fc1, hf1⟩ := hs11.sol.1.any
  obtain ⟨fa2, fl2, fc2, hf2⟩ := hs11.sol.2.any
  subst hf1 hf2
  have HB11 := Lib.hid (((HF10.out.under hb11).new (.cells #[.slice fa1 fl1 fc1, .slice fa2 fl2 fc2] 27)).hb)
  have HU11 := Lib.hid ((HU10.out.below hb11).below ((Below.refl _ _).alloc (Nat.le_refl _) (.cells #[.slice fa1 fl1 fc1, .slice fa2 fl2 fc2] 27)))
  have HS11 := Lib.hid (hs11.sol.below ((Below.refl _ _).alloc (Nat.le_refl _) (.cells #[.slice fa1 fl1 fc1, .slice fa2 fl2 fc2] 27)))
  have HQ11 := Lib.hid (Blk.new w11 [.slice fa1 fl1 fc1, .slice fa2 fl2 fc2] 27)
  clear hs11 hb11
  go_wp2_with fail
  refine (c_TwistSolution _ (iota N) _ (iota N) _ HU11.out HU11.out).mono ?_; rintro e w12 ⟨g1, g2, rfl, hs12, hb12⟩
  rw [HWU.out.1, HWU.out.2.1] at hs12
  rw [HWU.out.2.2]
  obtain ⟨ga1, gl1, gc1, hg1⟩ := hs12.sol.1.any
  obtain ⟨ga2, gl2, gc2, hg2⟩ := hs12.sol.2.any
  subst hg1 hg2
  have HB12 := Lib.hid ((HB11.out.trans (hb12.mono HB11.out.size)).alloc (by have := HB11.out.size; have := hb12.size; omega) (.cells #[.slice ga1 gl1 gc1, .slice ga2 gl2 gc2] 27))
  have HS12 := Lib.hid (hs12.sol.below ((Below.refl _ _).alloc (Nat.le_refl _) (.cells #[.slice ga1 gl1 gc1, .slice ga2 gl2 gc2] 27)))
  have HS11b := Lib.hid ((HS11.out.below hb12).below ((Below.refl _ _).alloc (Nat.le_refl _) (.cells #[.slice ga1 gl1 gc1, .slice ga2 gl2 gc2] 27)))
  have HQ12 := Lib.hid (Blk.new w12 [.slice ga1 gl1 gc1, .slice ga2 gl2 gc2] 27)
  have HQ11b := Lib.hid ((HQ11.out.under hb12).alloc (.cells #[.slice ga1 gl1 gc1, .slice ga2 gl2 gc2] 27))
  clear hs12 hb12
  obtain ⟨x0, x1, -, -⟩ := two_cells HQ11b.out
  obtain ⟨y0, y1, -, -⟩ := two_cells HQ12.out
  go_wp2_with fail
  refine (c_likeSolution5 _ _ _ _ _ _ _ _ _ HS11b.out HS12.out).mono ?_; rintro e w13 ⟨rfl, hb13⟩
  rw [show (decide (twA (iota N) = twA (iota N)) && decide (twB (iota N) (iota N) = twB (iota N) (iota N))) = true from by simp]
  have HB13 := Lib.hid (HB12.out.trans (hb13.mono HB12.out.size))
  clear hb13 x0 x1 y0 y1
  go_wp2
  go_ret
  exact ⟨rfl, HB13.out⟩
end Go.Proofs.Ytkcobfkmeaakoaa
