/-
  The laws' own comparisons (likeInts, likeRows5, likeSolution5), the composition they write (then5), and the draw of FnTwists.
-/
import Derived.Test.YtkcobfkmeaakoaaD2
import Derived.Test.YtkcobfkmeaakoaaLThenPermutation
import Derived.Test.YtkcobfkmeaakoaaI11
import Derived.Test.YtkcobfkmeaakoaaI24
namespace Go.Proofs.Ytkcobfkmeaakoaa
open Go Go.RowKit

theorem c_big (a : Option Addr) (n c : Nat) (w : World) :
    Calls Try.prog 25 #[.slice a n c] w (fun e w' => e = .returned (.bool (decide (4096 < n))) ∧ w = w') := by
  by_cases h : 4096 < n
  · have h' : (4096 : Int) < n := by omega
    go_enter Try.func25, Try.ntmps25
    go_wp2
    go_ret
    exact ⟨ret_bool (by simp [h]), rfl⟩
  · have h' : ¬ (4096 : Int) < n := by omega
    go_enter Try.func25, Try.ntmps25
    go_wp2
    go_ret
    exact ⟨ret_bool (by simp [h]), rfl⟩

theorem drewN_more {w wr : World} (h : ∃ n, wr = w.drewN n) (m : Nat) : ∃ n, wr.drewN m = w.drewN n := by
  obtain ⟨n, rfl⟩ := h
  exact ⟨n + m, drewN_drewN w n m⟩
set_option maxHeartbeats 800000 in
theorem c_likeInts (v1 v2 : Value) (xs ys : List Int) (w : World) (hx : Ints w v1 xs) (hy : Ints w v2 ys) :
    Calls Try.prog 30 #[v1, v2] w (QVal w (.bool (decide (xs = ys)))) := by
  obtain ⟨a, c, rfl, hc, hm⟩ := hx.shape
  obtain ⟨a2, c2, rfl, hc2, hm2⟩ := hy.shape
  by_cases hl : xs.length = ys.length
  case neg =>
    have hne : decide (xs = ys) = false := by simp; intro e; exact hl (by rw [e])
    have hl' : ¬ ((xs.length : Int) = (ys.length : Int)) := by omega
    have HN := Lib.hid hne
    clear hne
    go_enter Try.func30, Try.ntmps30
    go_wp2
    go_ret
    exact ⟨ret_bool HN.out.symm, 0, rfl⟩
  have HL := Lib.hid hl; clear hl
  have hl' : ((xs.length : Int) = (ys.length : Int)) := by have := HL.out; omega
  go_enter Try.func30, Try.ntmps30
  go_wp2
  go_loopw [5] (fun i wr => ∃ k : Nat, k ≤ xs.length ∧ i = .int .i64 k ∧ Hid (∃ n, wr = w.drewN n) ∧ Hid (xs.take k = ys.take k)) (fun i _ => xs.length - (intOf i).toNat)
  case atStart => exact ⟨0, Nat.zero_le _, rfl, Lib.hid ⟨0, rfl⟩, Lib.hid (by simp)⟩
  case round =>
    obtain ⟨k, hk, rfl, HB, HT⟩ := hrel
    by_cases hlt : k < xs.length
    · have hlt2 : k < ys.length := by have := HL.out; omega
      obtain ⟨b, o, rfl, hcell⟩ := (hx.below (below_of_drewN HB.out)).get k hlt
      obtain ⟨b2, o2, rfl, hcell2⟩ := (hy.below (below_of_drewN HB.out)).get k hlt2
      by_cases he : nth xs k = nth ys k
      · have HE := Lib.hid he
        have he' : (nth xs k != nth ys k) = false := by simp [he]
        go_wp2
        go_quiet (fail)
        go_wp2
        go_roundw
        case rel => exact ⟨k + 1, by omega, by go_num, Lib.hid (drewN_more HB.out _), Lib.hid (by rw [take_snoc _ _ hlt, take_snoc _ _ hlt2, HT.out, HE.out])⟩
        case measure => simp [intOf]; omega
      · have HE := Lib.hid he
        have he' : (nth xs k != nth ys k) = true := by simp [he]
        go_wp2
        go_quiet (fail)
        go_wp2
        go_ret
        refine ⟨ret_bool ?_, drewN_more HB.out _⟩
        simp
        intro e
        exact HE.out (by rw [e])
    · go_wp2
      go_ret
      refine ⟨ret_bool ?_, HB.out⟩
      have h := HT.out
      rw [List.take_of_length_le (by omega), List.take_of_length_le (by have := HL.out; omega)] at h
      simp [h]

theorem quiet_more {P : Program} {f : FuncId} {args : Array Value} {w : World} {n : Nat} {v : Value} (h : Calls P f args (w.drewN n) (QVal (w.drewN n) v)) : Calls P f args (w.drewN n) fun e w'' => e = .returned v ∧ ∃ m, w'' = w.drewN m :=
  h.mono fun _ _ ⟨he, hm⟩ => ⟨he, by obtain ⟨m, hm⟩ := hm; subst hm; exact drewN_more ⟨n, rfl⟩ m⟩
set_option maxHeartbeats 800000 in
theorem c_likeRows5 (v1 v2 : Value) (xs ys : List (List Int)) (w : World) (hx : Rows w v1 xs) (hy : Rows w v2 ys) :
    Calls Try.prog 47 #[v1, v2] w (RVal w (.bool (decide (xs = ys)))) := by
  obtain ⟨a, c, rfl, hc, hm⟩ := hx.shape
  obtain ⟨a2, c2, rfl, hc2, hm2⟩ := hy.shape
  by_cases hl : xs.length = ys.length
  case neg =>
    have hne : decide (xs = ys) = false := by simp; intro e; exact hl (by rw [e])
    have hl' : ¬ ((xs.length : Int) = (ys.length : Int)) := by omega
    have HN := Lib.hid hne
    clear hne
    go_enter Try.func47, Try.ntmps47
    go_wp2
    go_ret
    exact ⟨ret_bool HN.out.symm, Below.refl _ _⟩
  have HL := Lib.hid hl; clear hl
  have hl' : ((xs.length : Int) = (ys.length : Int)) := by have := HL.out; omega
  go_enter Try.func47, Try.ntmps47
  go_wp2
  go_loopw [5] (fun i wr => ∃ k : Nat, k ≤ xs.length ∧ i = .int .i64 k ∧ Hid (Below w.heap.size w wr) ∧ Hid (xs.take k = ys.take k)) (fun i _ => xs.length - (intOf i).toNat)
  case atStart => exact ⟨0, Nat.zero_le _, rfl, Lib.hid (Below.refl _ _), Lib.hid (by simp)⟩
  case round =>
    obtain ⟨k, hk, rfl, HB, HT⟩ := hrel
    obtain ⟨wo, rfl⟩ : ∃ wo : World, wo = wr := ⟨_, rfl⟩
    by_cases hlt : k < xs.length
    · have hlt2 : k < ys.length := by have := HL.out; omega
      obtain ⟨b, o, u1, u2, rfl, hcell, hu⟩ := (hx.below HB.out).getS k hlt
      obtain ⟨b2, o2, y1, y2, rfl, hcell2, hy2⟩ := (hy.below HB.out).getS k hlt2
      have HU := Lib.hid hu; have HY := Lib.hid hy2
      clear hu hy2
      by_cases he : row xs k = row ys k
      · have hd : decide (row xs k = row ys k) = true := by simp [he]
        have HD := Lib.hid hd
        have HE := Lib.hid he; clear he
        go_wp2
        go_quiet ((go_at_call 30; exact quiet_more (c_likeInts _ _ (row xs k) (row ys k) _ (HU.out.below (below_drewN (Below.refl _ _) _)) (HY.out.below (below_drewN (Below.refl _ _) _)))))
        go_wp2
        go_roundw
        case rel => exact ⟨k + 1, by omega, by go_num, Lib.hid (below_drewN HB.out _), Lib.hid (by rw [take_snoc_row _ _ hlt, take_snoc_row _ _ hlt2, HT.out, HE.out])⟩
        case measure => simp [intOf]; omega
      · have hd : decide (row xs k = row ys k) = false := by simp [he]
        have HD := Lib.hid hd
        have HE := Lib.hid he; clear he
        go_wp2
        go_quiet ((go_at_call 30; exact quiet_more (c_likeInts _ _ (row xs k) (row ys k) _ (HU.out.below (below_drewN (Below.refl _ _) _)) (HY.out.below (below_drewN (Below.refl _ _) _)))))
        go_wp2
        go_ret
        refine ⟨ret_bool ?_, below_drewN HB.out _⟩
        simp
        intro e
        exact HE.out (by rw [e])
    · go_wp2
      go_ret
      refine ⟨ret_bool ?_, HB.out⟩
      have h := HT.out
      rw [List.take_of_length_le (by omega), List.take_of_length_le (by have := HL.out; omega)] at h
      simp [h]

set_option maxHeartbeats 800000 in
theorem c_likeSolution5 (v0 u0 v1 u1 : Value) (A B C D : List (List Int)) (w : World) (h1 : Sol w v0 u0 A B) (h2 : Sol w v1 u1 C D) :
    Calls Try.prog 29 #[.agg #[v0, u0], .agg #[v1, u1]] w (RVal w (.bool (decide (A = C) && decide (B = D)))) := by
  obtain ⟨a0, c0, rfl, _, _⟩ := h1.1.shape
  obtain ⟨a0s, c0s, rfl, _, _⟩ := h1.2.shape
  obtain ⟨a1, c1, rfl, _, _⟩ := h2.1.shape
  obtain ⟨a1s, c1s, rfl, _, _⟩ := h2.2.shape
  obtain ⟨f0, f1, hW0, hsz⟩ := boxes2 w [.slice a0 A.length c0, .slice a0s B.length c0s] [.slice a1 C.length c1, .slice a1s D.length c1s] 27 27
  obtain ⟨g0, g1, -, -⟩ := two_cells f0
  obtain ⟨g2, g3, -, -⟩ := two_cells f1
  have HF0 := Lib.hid f0; have HF1 := Lib.hid f1; have HW := Lib.hid hW0
  have H1 := Lib.hid (h1.below hW0); have H2 := Lib.hid (h2.below hW0)
  clear f0 f1 hW0 hsz h1 h2
  go_enter Try.func29, Try.ntmps29
  go_wp2_with fail
  refine (c_likeRows5 _ _ A C _ H1.out.1 H2.out.1).mono ?_; rintro e w2 ⟨rfl, hb⟩
  have HB := Lib.hid (HW.out.trans (hb.mono HW.out.size))
  have HS1 := Lib.hid (H1.out.2.below hb); have HS2 := Lib.hid (H2.out.2.below hb)
  clear g0 g1 g2 g3
  obtain ⟨g0, g1, -, -⟩ := two_cells (HF0.out.under hb)
  obtain ⟨g2, g3, -, -⟩ := two_cells (HF1.out.under hb)
  clear hb
  by_cases hac : A = C
  case neg =>
    have hd : decide (A = C) = false := by simp [hac]
    rw [hd]
    have HD := Lib.hid hd; clear hd hac
    go_wp2
    go_ret
    exact ⟨ret_bool (by rw [HD.out]; rfl), HB.out⟩
  have hd : decide (A = C) = true := by simp [hac]
  rw [hd]
  have HD := Lib.hid hd
  clear hd hac
  go_wp2_with fail
  refine (c_likeRows5 _ _ B D _ HS1.out HS2.out).mono ?_; rintro e w3 ⟨rfl, hb⟩
  have HB3 := Lib.hid (HB.out.trans (hb.mono HB.out.size))
  clear hb
  go_wp2
  go_ret
  exact ⟨ret_bool (by rw [HD.out]; simp), HB3.out⟩

set_option maxHeartbeats 800000 in
theorem c_then5 (v1 v2 : Value) (p q : List Int) (w : World) (hp : Ints w v1 p) (hq : Ints w v2 q) :
    Calls Try.prog 31 #[v1, v2] w (RInts w (thenRes p q)) := by
  by_cases h : okThen p q = true
  · have HC := Lib.hid (show thenCode p q = 0 by simp [thenCode, h])
    go_enter Try.func31, Try.ntmps31
    go_wp2_with fail
    refine (c_ThenPermutation _ _ p q _ hp hq).mono ?_; rintro e w1 ⟨r, rfl, ho, hb⟩
    rw [HC.out]
    have HO := Lib.hid ho; have HB := Lib.hid hb; clear ho hb
    go_wp2
    go_ret
    exact ⟨r, rfl, HO.out, HB.out⟩
  · have HC := Lib.hid (show thenCode p q = 1 by simp [thenCode, h])
    have HE := Lib.hid (show thenRes p q = [] by simp [thenRes, h])
    go_enter Try.func31, Try.ntmps31
    go_wp2_with fail
    refine (c_ThenPermutation _ _ p q _ hp hq).mono ?_; rintro e w1 ⟨r, rfl, ho, hb⟩
    rw [HC.out]
    have HB := Lib.hid hb; clear ho hb
    go_wp2
    go_ret
    exact ⟨_, rfl, by rw [HE.out]; exact Own.nil _ _, HB.out⟩

theorem isPerm_in' {p : List Int} (h : isPerm p = true) : (1 ≤ p.length ∧ p.length ≤ 12) ∧ Permuted p := by
  simp only [isPerm, Bool.and_eq_true, inR, decide_eq_true_eq] at h
  exact ⟨by omega, h.2⟩
set_option maxRecDepth 100000 in
set_option maxHeartbeats 1600000 in
theorem c_DrawTwist (v : Value) (n : Nat) (w : World) (hv : BytesR w v n) (hn : n ≤ 4096) :
    Calls Try.prog 26 #[v] w (fun e w' => ∃ (v1 v2 : Value) (p q : List Int), e = .returned (.tuple #[v1, v2]) ∧ Ints w' v1 p ∧ Ints w' v2 q ∧ p.length ≤ 12 ∧ q.length ≤ 12 ∧ Below w.heap.size w w') := by
  have HV := Lib.hid hv
  obtain ⟨a, c, hva, -⟩ := hv
  subst hva
  go_enter Try.func26, Try.ntmps26
  go_wp2_with fail
  refine (c_l01From _ n _ HV.out hn).mono ?_; rintro e w1 ⟨b, rfl, hwb, hs, hb1⟩
  have HS := Lib.hid hs; have HB1 := Lib.hid hb1; clear hs hb1
  go_wp2_with fail
  refine (c_l01Size b _ HS.out).mono ?_; rintro e w2 ⟨m, rfl, m1, m12, hd2⟩
  have HD2 := Lib.hid hd2; clear hd2
  go_wp2_with fail
  refine (c_l01Spoil b m _ HD2.out.1 m1 (by omega)).mono ?_; rintro e w3 ⟨r, p, rfl, hpl, hop, hd3⟩
  have HD3 := Lib.hid (HD2.out.trans hd3); have HP := Lib.hid hop; have HPL := Lib.hid hpl
  have hb2 : Hid (b < w2.heap.size) := Lib.hid HD2.out.1.lt
  have HBel := Lib.hid (HD3.out.below HB1.out hwb HB1.out.size)
  clear hd3 hop hpl
  go_wp2_with fail
  refine (c_l01Perm _ p _ HP.out.ints).mono ?_; rintro e w' ⟨rfl, rfl⟩
  have other : ∀ (u : Unit), True := fun _ => trivial
  by_cases hp : isPerm p = true
  case neg =>
    have hp' : isPerm p = false := by simpa using hp
    rw [hp']
    clear hp hp' other
    go_wp2_with fail
    refine (c_l01Spoil b m _ HD3.out.1 m1 (by omega)).mono ?_; rintro e w4 ⟨r4, q, rfl, hql, hoq, hd4⟩
    have HQ := Lib.hid hoq; have HQL := Lib.hid hql
    have HP4 := Lib.hid (hd4.own HP.out hb2.out)
    have HB4 := Lib.hid (hd4.below HBel.out hwb HBel.out.size)
    clear hd4 hoq hql
    go_wp2
    go_ret2
    exact ⟨_, _, p, q, rfl, HP4.out.ints, HQ.out.ints, by rw [HPL.out]; exact m12, by rw [HQL.out]; exact m12, HB4.out⟩
  rw [hp]
  have HPm := Lib.hid hp
  clear hp other
  go_wp2_with fail
  refine (c_l01Next b 3 _ HD3.out.1 (by omega) (by omega)).mono ?_; rintro e w4 ⟨t, rfl, t0, t1, hd4⟩
  have HD4 := Lib.hid hd4
  have HP4 := Lib.hid (hd4.own HP.out hb2.out)
  have HB4 := Lib.hid (hd4.below HBel.out hwb HBel.out.size)
  clear hd4
  by_cases ht : 0 < t
  case neg =>
    go_wp2_with fail
    refine (c_l01Spoil b m _ HD4.out.1 m1 (by omega)).mono ?_; rintro e w5 ⟨r5, q, rfl, hql, hoq, hd5⟩
    have HQ := Lib.hid hoq; have HQL := Lib.hid hql
    have HP5 := Lib.hid (hd5.own HP4.out hb2.out)
    have HB5 := Lib.hid (hd5.below HB4.out hwb HB4.out.size)
    clear hd5 hoq hql
    go_wp2
    go_ret2
    exact ⟨_, _, p, q, rfl, HP5.out.ints, HQ.out.ints, by rw [HPL.out]; exact m12, by rw [HQL.out]; exact m12, HB5.out⟩
  go_wp2_with fail
  refine (c_l01Unit m _ (by omega)).mono ?_; rintro e w5 ⟨r5, rfl, ho5, hb5⟩
  have HS5 := Lib.hid (HD4.out.1.under hb5)
  have HP5 := Lib.hid (HP4.out.under hb5)
  have HB5 := Lib.hid (HB4.out.trans (hb5.mono HB4.out.size))
  have HQ5 := Lib.hid ho5
  have hb4 : Hid (b < w4.heap.size) := Lib.hid HD4.out.1.lt
  clear ho5 hb5
  go_wp2_with fail
  refine (c_l01Next b 5 _ HS5.out (by omega) (by omega)).mono ?_; rintro e w6 ⟨s, rfl, s0, s1, hd6⟩
  obtain ⟨k0, rfl⟩ : ∃ k0 : Nat, s = k0 := ⟨s.toNat, by omega⟩
  have HQ6 := Lib.hid (hd6.own HQ5.out hb4.out).ints
  have HP6 := Lib.hid (hd6.own HP5.out hb2.out).ints
  have HB6 := Lib.hid (hd6.below HB5.out hwb HB5.out.size)
  clear hd6
  go_wp2
  go_loopw [7, 8] (fun q k wr => ∃ (s : Nat) (qs : List Int), s ≤ 4 ∧ k = .int .i64 s ∧ Hid (Ints wr q qs) ∧ Hid (qs.length = m ∧ ∀ x ∈ qs, 0 ≤ x ∧ x < (m : Int)) ∧ Hid (Ints wr r p) ∧ Hid (Below w.heap.size w wr)) (fun _ k _ => (intOf k).toNat)
  case atStart => exact ⟨k0, iota m, by omega, rfl, HQ6, Lib.hid ⟨by simp, fun x hx => by simpa using (mem_iota m x).1 hx⟩, HP6, HB6⟩
  case round =>
    clear HQ6 HP6 HB6
    obtain ⟨s, qs, hs4, rfl, HQ, HR, HP7, HB7⟩ := hrel
    by_cases hs0 : 0 < s
    · go_wp2_with fail
      refine (c_l01Then _ _ qs p _ HQ.out HP7.out (fun x hx => by rw [HPL.out]; exact HR.out.2 x hx) (by rw [HR.out.1]; omega)).mono ?_; rintro e w8 ⟨r8, rfl, ho8, hb8⟩
      have HQ8 := Lib.hid ho8.ints; have HP8 := Lib.hid (HP7.out.below hb8); have HB8 := Lib.hid (HB7.out.trans (hb8.mono HB7.out.size))
      have hpr := (isPerm_in' HPm.out).2
      have HR8 : Hid ((thenL qs p).length = m ∧ ∀ x ∈ thenL qs p, 0 ≤ x ∧ x < (m : Int)) := Lib.hid ⟨by rw [thenL_length]; exact HR.out.1, fun x hx => by
        unfold thenL at hx
        rw [List.mem_map] at hx
        obtain ⟨y, hy, rfl⟩ := hx
        have hyr := HR.out.2 y hy
        have := hpr.lt hyr.1 (by rw [HPL.out]; exact hyr.2)
        rw [HPL.out] at this; exact this⟩
      clear ho8 hb8 hpr
      go_wp2
      go_roundw
      case rel => exact ⟨s - 1, thenL qs p, by omega, by go_num, HQ8, HR8, HP8, HB8⟩
      case measure => simp [intOf]; omega
    · obtain rfl : s = 0 := by omega
      go_wp2
      go_ret2
      exact ⟨_, _, p, qs, rfl, HP7.out, HQ.out, by rw [HPL.out]; exact m12, by rw [HR.out.1]; exact m12, HB7.out⟩
end Go.Proofs.Ytkcobfkmeaakoaa
