/-
  The reference's inverse of a pair map: the tables of zeros written pair by pair (l02Inverse).
-/
import Derived.Test.YtkcobfkmeaakoaaS9
import Derived.Test.YtkcobfkmeaakoaaI13
import Derived.Test.YtkcobfkmeaakoaaT2
import Derived.Test.YtkcobfkmeaakoaaS5
import Derived.BigQuiet
namespace Go.Proofs.Ytkcobfkmeaakoaa
open Go Go.RowKit Go.Shelf

theorem ivT_row {A B : List (List Int)} {n : Nat} {z : Int → Int} {ini : Int → Int → Int} {k u : Nat} (hu : u < n) : (row (ivT A B n z ini k) u).length = n := by
  unfold ivT; rw [row_tabOf _ _ _ hu]; simp

theorem two_start {w1 : World} {B q0 : Nat} {W0 : World} {va vb : Value} {X Y : List (List Int)} {P1 P2 : Nat → Prop} (h : Emp B q0 W0 w1 va vb X Y P1 P2) (hB : B ≤ q0) (o : Obj) :
    TwoP B w1.heap.size (w1.alloc o) va vb X Y := by
  have hs : (w1.alloc o).heap.size = w1.heap.size + 1 := by simp
  have hb : Below w1.heap.size w1 (w1.alloc o) := (Below.refl _ _).alloc (Nat.le_refl _) _
  refine ⟨P1, P2, fun b hb => ?_, fun b hb => ?_, h.o1.under hb, h.o2.under hb⟩
  · have := h.p1 b hb; exact ⟨by omega, by omega, by omega, this.2.2⟩
  · have := h.p2 b hb; exact ⟨by omega, by omega, by omega⟩
theorem row_zeros {n u : Nat} (hu : u < n) : (row (tabOf n fun _ _ => (0 : Int)) u).length = n := by rw [row_tabOf _ _ _ hu]; simp

set_option maxRecDepth 100000 in
set_option maxHeartbeats 4000000 in
theorem c_l02Inverse (v0 u0 : Value) (A B : List (List Int)) (w : World) (hA : Sol w v0 u0 A B) (hs : isSol A B = true) (hp : isPM A B = true) :
    Calls Try.prog 90 #[.agg #[v0, u0]] w (RSolR w (ivA A B A.length) (ivB A B A.length)) := by
  have hPm := pmL_perm hp (isSol_coll hs)
  clear hs
  obtain ⟨n0, b0, o0, c0, rb0, ro0, rc0, b0s, o0s, c0s, rb0s, ro0s, rc0s, rfl, rfl, hl0, hl0s, hn0, hx0, hc0, hm0, hc0s, hm0s, t0, t0s⟩ := hA.tabs hp
  rw [hl0] at hPm ⊢
  have HPm := Lib.hid hPm; clear hPm
  have HL0 := Lib.hid hl0; clear hl0
  have HL0s := Lib.hid hl0s; clear hl0s
  go_enter Try.func90, Try.ntmps90
  obtain ⟨f0, f2, hW0, hsz⟩ := boxes2 w [.slice (some ⟨b0, o0, none⟩) n0 c0, .slice (some ⟨b0s, o0s, none⟩) n0 c0s] [.slice none 0 0, .slice none 0 0] 27 27
  obtain ⟨W0, hW⟩ : ∃ W0, ((w.alloc (.cells #[.slice (some ⟨b0, o0, none⟩) n0 c0, .slice (some ⟨b0s, o0s, none⟩) n0 c0s] 27)).alloc (.cells #[.slice none 0 0, .slice none 0 0] 27)) = W0 := ⟨_, rfl⟩
  rw [hW] at f0 f2 hW0 hsz
  have HSZ := Lib.hid hsz
  obtain ⟨cA0, cB0, -, -⟩ := two_cells f0
  replace t0 := t0.below hW0; replace t0s := t0s.below hW0
  have HT0 := Lib.hid t0; have HT0s := Lib.hid t0s
  have HF0 := Lib.hid f0; have HF2 := Lib.hid f2; have HW0 := Lib.hid hW0
  have hsz := HSZ.out
  have hW' := hW
  subst hW'
  clear hA hp f0 f2 t0 t0s hW0
  go_wp2_with fail
  obtain ⟨W0, hW⟩ : ∃ W0, ((w.alloc (.cells #[.slice (some ⟨b0, o0, none⟩) n0 c0, .slice (some ⟨b0s, o0s, none⟩) n0 c0s] 27)).alloc (.cells #[.slice none 0 0, .slice none 0 0] 27)) = W0 := ⟨_, rfl⟩
  rw [hW] at HF0 HF2 HW0 HSZ HT0 HT0s hsz cA0 cB0 ⊢
  clear hW
  refine (c_l02Empty n0 _ hx0).mono ?_; rintro e w1 ⟨r1, r2, P1, P2, rfl, hE⟩
  obtain ⟨ra1, rc1, hv1, -⟩ := OwnRows.shape' hE.o1.out
  obtain ⟨ra2, rc2, hv2, -⟩ := OwnRows.shape' hE.o2.out
  rw [show (tabOf n0 fun _ _ => (0 : Int)).length = n0 from by simp] at hv1 hv2
  subst hv1 hv2
  have hT := two_start hE (by omega) (.cells #[.slice ra1 n0 rc1, .slice ra2 n0 rc2] 27)
  have hQ : Blk (w1.alloc (.cells #[.slice ra1 n0 rc1, .slice ra2 n0 rc2] 27)) w1.heap.size 27 [.slice ra1 n0 rc1, .slice ra2 n0 rc2] := Blk.new w1 [.slice ra1 n0 rc1, .slice ra2 n0 rc2] 27
  have hB1 : Below W0.heap.size W0 (w1.alloc (.cells #[.slice ra1 n0 rc1, .slice ra2 n0 rc2] 27)) := hE.hb.alloc hE.hb.size _
  have hqs : W0.heap.size ≤ w1.heap.size := hE.hb.size
  obtain ⟨tb1, _, _, tb2, _, _, _, _, rfl, rfl, -⟩ := hT.put (u := 0) (y := 0) (m := n0) (m' := n0) (by simp; omega) (by simp; omega) (row_zeros (by omega)) (row_zeros (by omega)) (by omega) (by omega)
  have hZ : TwoP W0.heap.size w1.heap.size (w1.alloc (.cells #[.slice (some ⟨tb1, 0, none⟩) n0 rc1, .slice (some ⟨tb2, 0, none⟩) n0 rc2] 27)) (.slice (some ⟨tb1, 0, none⟩) n0 rc1) (.slice (some ⟨tb2, 0, none⟩) n0 rc2) (ivT A B n0 (fun c => c / n0) (fun _ _ => 0) (0 * n0)) (ivT A B n0 (fun c => c % n0) (fun _ _ => 0) (0 * n0)) := by
    rw [Nat.zero_mul, ivT_zero HPm.out, ivT_zero HPm.out]; exact hT
  have HT := Lib.hid hZ; have HQ := Lib.hid hQ; have HB1 := Lib.hid hB1
  have hqV : w1.heap.size < (w1.alloc (.cells #[.slice (some ⟨tb1, 0, none⟩) n0 rc1, .slice (some ⟨tb2, 0, none⟩) n0 rc2] 27)).heap.size := by simp
  clear hT hZ hQ hB1 hE cA0 cB0
  go_wp2
  obtain ⟨V, hV⟩ : ∃ V, (w1.alloc (.cells #[.slice (some ⟨tb1, 0, none⟩) n0 rc1, .slice (some ⟨tb2, 0, none⟩) n0 rc2] 27)) = V := ⟨_, rfl⟩
  rw [hV] at HT HQ HB1 hqV ⊢
  clear hV
  generalize w1.heap.size = q at HT HQ hqs hqV ⊢
  have HFV := Lib.hid (HF0.out.under HB1.out); have HGV := Lib.hid (HF2.out.under HB1.out)
  go_loopw [5, 6, 7, 8] (fun i _ _ _ wr => ∃ x : Nat, x ≤ n0 ∧ i = .int .i64 x ∧ Hid (Below W0.heap.size W0 wr) ∧ Hid (Blk wr w.heap.size 27 [.slice (some ⟨b0, o0, none⟩) n0 c0, .slice (some ⟨b0s, o0s, none⟩) n0 c0s]) ∧ Hid (Blk wr (w.heap.size + 1) 27 [.slice none 0 0, .slice none 0 0]) ∧ Hid (Blk wr q 27 [.slice (some ⟨tb1, 0, none⟩) n0 rc1, .slice (some ⟨tb2, 0, none⟩) n0 rc2]) ∧
    Hid (TwoP W0.heap.size q wr (.slice (some ⟨tb1, 0, none⟩) n0 rc1) (.slice (some ⟨tb2, 0, none⟩) n0 rc2) (ivT A B n0 (fun c => c / n0) (fun _ _ => 0) (x * n0)) (ivT A B n0 (fun c => c % n0) (fun _ _ => 0) (x * n0)))) (fun i _ _ _ _ => n0 - (intOf i).toNat)
  case atStart => exact ⟨0, Nat.zero_le _, rfl, HB1, HFV, HGV, HQ, HT⟩
  case round =>
    clear HFV HGV HQ HB1 HT hqV
    obtain ⟨x, hx, rfl, HB, HG, HR, HF, HT⟩ := hrel
    obtain ⟨wo, rfl⟩ : ∃ wo : World, wo = wr := ⟨_, rfl⟩
    by_cases hlt : x < n0
    · go_wp2
      go_loopw [6, 7, 8] (fun j _ _ wi => ∃ y : Nat, y ≤ n0 ∧ j = .int .i64 y ∧ Hid (Below W0.heap.size W0 wi) ∧ Hid (Blk wi w.heap.size 27 [.slice (some ⟨b0, o0, none⟩) n0 c0, .slice (some ⟨b0s, o0s, none⟩) n0 c0s]) ∧ Hid (Blk wi (w.heap.size + 1) 27 [.slice none 0 0, .slice none 0 0]) ∧ Hid (Blk wi q 27 [.slice (some ⟨tb1, 0, none⟩) n0 rc1, .slice (some ⟨tb2, 0, none⟩) n0 rc2]) ∧
        Hid (TwoP W0.heap.size q wi (.slice (some ⟨tb1, 0, none⟩) n0 rc1) (.slice (some ⟨tb2, 0, none⟩) n0 rc2) (ivT A B n0 (fun c => c / n0) (fun _ _ => 0) (x * n0 + y)) (ivT A B n0 (fun c => c % n0) (fun _ _ => 0) (x * n0 + y)))) (fun j _ _ _ => n0 - (intOf j).toNat)
      case atStart => exact ⟨0, Nat.zero_le _, rfl, HB, HG, HR, HF, HT⟩
      case round =>
        clear HB HG HR HF HT
        obtain ⟨y, hy, rfl, HB, HG, HR, HF, HT⟩ := hrel
        obtain ⟨wi, rfl⟩ : ∃ wi : World, wi = wr := ⟨_, rfl⟩
        by_cases hlty : y < n0
        · have T := HT0.out.below HB.out
          have T' := HT0s.out.below HB.out
          have va := T.rng x y (by omega) (by omega) (by omega) (by omega)
          have vb := T'.rng x y (by omega) (by omega) (by omega) (by omega)
          have HVa := Lib.hid va; have HVb := Lib.hid vb
          obtain ⟨u, hu⟩ : ∃ u : Nat, val2 A x y = u := ⟨(val2 A x y).toNat, by omega⟩
          obtain ⟨v, hv⟩ : ∃ v : Nat, val2 B x y = v := ⟨(val2 B x y).toNat, by omega⟩
          have e1 := T.row x hlt; have e2 := T'.row x hlt
          have e3 := T.val x y hlt hlty; have e4 := T'.val x y hlt hlty
          rw [hu] at e3; rw [hv] at e4
          have hun : u < n0 := by omega
          have hvn : v < n0 := by omega
          have HU0 := Lib.hid hu; have HV0 := Lib.hid hv
          have HE := Lib.hid (And.intro e2 e4)
          clear hu hv va vb T T' e2 e4
          obtain ⟨c1, c2, -, -⟩ := two_cells HG.out
          obtain ⟨q1, q2, q3, q4⟩ := two_cells HF.out
          obtain ⟨_, g1, r1, _, g2, r2, _, _, E1, E2, -, -, -, p1, p2, -⟩ := HT.out.put (u := u) (y := v) (m := n0) (m' := n0) (by simpa using hun) (by simpa using hun) (ivT_row hun) (ivT_row hun) hvn hvn
          injection E1 with E1; injection E1 with E1; injection E2 with E2; injection E2 with E2; subst E1 E2
          have HP := Lib.hid (And.intro p1 p2)
          go_wp2
          go_quiet (fail)
          rename_i nq
          have hbq : Below wi.heap.size wi (wi.drewN nq) := below_drewN (Below.refl _ _) nq
          generalize wi.drewN nq = wq at hbq ⊢
          clear p1 p2 q1 q2 q3 q4 c1 c2 e1 e3
          have P1 := cell_under hbq HP.out.1; have P2 := cell_under hbq HP.out.2
          obtain ⟨_, g1', r1', _, g2', r2', z1, z2, E1, E2, ⟨m1, m2, m3, m4⟩, ⟨n1, n2, n3, n4⟩, ⟨o1, o2, o3, o4, o5⟩, p1, p2, p3, p4, p5, p6⟩ := (HT.out.under hbq).put (u := u) (y := v) (m := n0) (m' := n0) (by simpa using hun) (by simpa using hun) (ivT_row hun) (ivT_row hun) hvn hvn
          injection E1 with E1; injection E1 with E1; injection E2 with E2; injection E2 with E2; subst E1 E2
          rw [P1] at p1; rw [P2] at p2
          injection p1 with p1; injection p1 with p1; injection p1 with p1; injection p1 with p1
          injection p2 with p2; injection p2 with p2; injection p2 with p2; injection p2 with p2
          subst p1 p2
          have hBq : Below W0.heap.size W0 wq := HB.out.trans (hbq.mono HB.out.size)
          have hB9 : Below W0.heap.size W0 (wq.setCell ⟨g1, v, none⟩ (.int .i64 (x : Int))) := hBq.setCell (p := ⟨g1, v, none⟩) m2 _
          have H6 := Lib.hid p6; have HB9 := Lib.hid hB9
          have hBX := (HT0s.out.below hBq); have hBY := (HT0s.out.below hB9)
          have a1 := hBX.row x hlt; have a2 := hBX.val x y hlt hlty
          have a3 := hBY.row x hlt; have a4 := hBY.val x y hlt hlty
          rw [HV0.out] at a2 a4
          obtain ⟨b1, b2, -, -⟩ := two_cells (HF0.out.under hBq)
          obtain ⟨b3, b4, -, -⟩ := two_cells (HF0.out.under hB9)
          obtain ⟨s1, s2⟩ := p5 x
          have HPk := Lib.hid hbq
          clear hBX hBY P1 P2 hBq hB9 p5 p6 hbq
          go_wp2
          have kz : Keep (fun b => b = g1 ∨ b = g2) wi ((wq.setCell ⟨g1, v, none⟩ (.int .i64 (x : Int))).setCell ⟨g2, v, none⟩ (.int .i64 (y : Int))) := by
            have k0 : Keep (fun b => b = g1 ∨ b = g2) wi wq := (Keep.refl _ wi).under HPk.out
            exact (k0.setCell (p := ⟨g1, v, none⟩) (.inl (.inl rfl)) (.int .i64 (x : Int))).setCell (p := ⟨g2, v, none⟩) (.inl (.inr rfl)) (.int .i64 (y : Int))
          have hT9 : TwoP W0.heap.size q ((wq.setCell ⟨g1, v, none⟩ (.int .i64 (x : Int))).setCell ⟨g2, v, none⟩ (.int .i64 (y : Int))) (.slice (some ⟨tb1, 0, none⟩) n0 rc1) (.slice (some ⟨tb2, 0, none⟩) n0 rc2) (ivT A B n0 (fun c => c / n0) (fun _ _ => 0) (x * n0 + y + 1)) (ivT A B n0 (fun c => c % n0) (fun _ _ => 0) (x * n0 + y + 1)) := by
            have h9 := H6.out x y
            have hcd := code_div (n := n0) (x := (x : Int)) (y := (y : Int)) (by omega) (by omega)
            have va := HVa.out
            have vb := HVb.out
            have e1 := ivT_step HPm.out (fun c => c / n0) (fun _ _ => 0) hlt hlty va.1 va.2 vb.1 vb.2
            have e2 := ivT_step HPm.out (fun c => c % n0) (fun _ _ => 0) hlt hlty va.1 va.2 vb.1 vb.2
            rw [HU0.out, HV0.out] at e1 e2
            simp only [Int.toNat_natCast] at e1 e2
            rw [hcd.1] at e1
            rw [hcd.2] at e2
            rw [← e1, ← e2]
            exact h9
          have hz := HSZ.out
          go_roundw
          case rel =>
            exact ⟨y + 1, by omega, by go_num, Lib.hid (HB9.out.setCell (p := ⟨g2, v, none⟩) m4 _), Lib.hid (HG.out.of_block (kz.block _ HG.out.lt (by omega))), Lib.hid (HR.out.of_block (kz.block _ HR.out.lt (by omega))), Lib.hid (HF.out.of_block (kz.block _ HF.out.lt (by omega))), Lib.hid hT9⟩
          case measure => simp [intOf]; omega
        · obtain rfl : y = n0 := by omega
          go_wp2
          go_roundw
          case rel => exact ⟨x + 1, by omega, by go_num, HB, HG, HR, HF, Lib.hid (by have h := HT.out; rw [show x * y + y = (x + 1) * y from by rw [Nat.succ_mul]] at h; exact h)⟩
          case measure => simp [intOf]; omega
    · obtain rfl : x = n0 := by omega
      obtain ⟨q1, q2, -, -⟩ := two_cells HF.out
      obtain ⟨d1, d2, d3, d4⟩ := two_cells HR.out
      have hz := HSZ.out
      have HPd := HPm
      go_wp2
      have hT := HT.out
      rw [ivA_eq HPd.out, ivB_eq HPd.out] at hT
      obtain ⟨Q1, Q2, k1, k2, o1, o2⟩ := hT
      have kz : Keep (fun b => b = w.heap.size + 1) wo ((wo.setCell ⟨w.heap.size + 1, 0, none⟩ (.slice (some ⟨tb1, 0, none⟩) x rc1)).setCell ⟨w.heap.size + 1, 1, none⟩ (.slice (some ⟨tb2, 0, none⟩) x rc2)) := keep_early _ _ _ _
      have hBz : Below w.heap.size w wo := HW0.out.trans (HB.out.mono HW0.out.size)
      refine bodyPost_ret (v := .agg #[.slice (some ⟨tb1, 0, none⟩) x rc1, .slice (some ⟨tb2, 0, none⟩) x rc2]) (by simp [results, Try.results90, go_sem, d1, d2]) rfl ⟨_, _, rfl, ⟨?_, ?_⟩, hBz.trans (kz.below fun b hb => ⟨by have := hBz.size; omega, fun e => by have e : b = w.heap.size + 1 := e; omega⟩)⟩
      · exact ((o1.keep kz (fun b hb e => by have := (k1 b hb).1; have e : b = w.heap.size + 1 := e; omega)).out).mono (by omega)
      · exact ((o2.keep kz (fun b hb e => by have := (k2 b hb).1; have e : b = w.heap.size + 1 := e; omega)).out).mono (by omega)
end Go.Proofs.Ytkcobfkmeaakoaa
