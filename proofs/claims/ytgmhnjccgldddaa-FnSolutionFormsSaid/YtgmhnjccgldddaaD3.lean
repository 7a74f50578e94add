/-
  The laws' own comparisons (likeInts, likeRows5, likeSolution5), the composition they write (then5), and the draw of FnTwists.
-/
import Derived.Test.YtgmhnjccgldddaaD2
import Derived.Test.YtgmhnjccgldddaaLThenPermutation
import Derived.Test.YtgmhnjccgldddaaI11
import Derived.Test.YtgmhnjccgldddaaI24
namespace Go.Proofs.Ytgmhnjccgldddaa
set_option linter.unusedVariables false
set_option linter.unusedSimpArgs false
open Go Go.RowKit

theorem c_big (a : Option Addr) (n c : Nat) (w : World) :
    Calls Try.prog 20 #[.slice a n c] w (fun e w' => e = .returned (.bool (decide (4096 < n))) ∧ w = w') := by
  by_cases h : 4096 < n
  · have h' : (4096 : Int) < n := by omega
    go_enter Try.func20, Try.ntmps20
    go_wp2
    go_ret
    exact ⟨ret_bool (by simp [h]), rfl⟩
  · have h' : ¬ (4096 : Int) < n := by omega
    go_enter Try.func20, Try.ntmps20
    go_wp2
    go_ret
    exact ⟨ret_bool (by simp [h]), rfl⟩

theorem drewN_more {w wr : World} (h : ∃ n, wr = w.drewN n) (m : Nat) : ∃ n, wr.drewN m = w.drewN n := by
  obtain ⟨n, rfl⟩ := h
  exact ⟨n + m, drewN_drewN w n m⟩
set_option maxHeartbeats 800000 in
theorem c_likeInts (v1 v2 : Value) (xs ys : List Int) (w : World) (hx : Ints w v1 xs) (hy : Ints w v2 ys) :
    Calls Try.prog 22 #[v1, v2] w (QVal w (.bool (decide (xs = ys)))) := by
  obtain ⟨a, c, rfl, hc, hm⟩ := hx.shape
  obtain ⟨a2, c2, rfl, hc2, hm2⟩ := hy.shape
  by_cases hl : xs.length = ys.length
  case neg =>
    have hne : decide (xs = ys) = false := by simp; intro e; exact hl (by rw [e])
    have hl' : ¬ ((xs.length : Int) = (ys.length : Int)) := by omega
    have HN := Lib.hid hne
    clear hne
    go_enter Try.func22, Try.ntmps22
    go_wp2
    go_ret
    exact ⟨ret_bool HN.out.symm, 0, rfl⟩
  have HL := Lib.hid hl; clear hl
  have hl' : ((xs.length : Int) = (ys.length : Int)) := by have := HL.out; omega
  go_enter Try.func22, Try.ntmps22
  go_wp2
  go_loopw [5] (fun i wr => ∃ k : Nat, k ≤ xs.length ∧ i = .int .i64 k ∧ Hid (∃ n, wr = w.drewN n) ∧ Hid (xs.take k = ys.take k)) (fun i _ => xs.length - (intOf i).toNat)
  case atStart => exact ⟨0, Nat.zero_le _, rfl, Lib.hid ⟨0, rfl⟩, Lib.hid (by simp)⟩
  case round =>
    obtain ⟨k, hk, rfl, HB, HT⟩ := hrel
    by_cases hlt : k < xs.length
    · have hlt2 : k < ys.length := by have := HL.out; omega
      obtain ⟨b, o, rfl, hcell⟩ := (hx.below (below_of_drewN HB.out)).get k hlt
      obtain ⟨b2, o2, rfl, hcell2⟩ := (hy.below (below_of_drewN HB.out)).get k hlt2
      by_cases he : nth xs k = nth ys k
      · have HE := Lib.hid he
        have he' : (nth xs k != nth ys k) = false := by simp [he]
        go_wp2
        go_quiet (fail)
        go_wp2
        go_roundw
        case rel => exact ⟨k + 1, by omega, by go_num, Lib.hid (drewN_more HB.out _), Lib.hid (by rw [take_snoc _ _ hlt, take_snoc _ _ hlt2, HT.out, HE.out])⟩
        case measure => simp [intOf]; omega
      · have HE := Lib.hid he
        have he' : (nth xs k != nth ys k) = true := by simp [he]
        go_wp2
        go_quiet (fail)
        go_wp2
        go_ret
        refine ⟨ret_bool ?_, drewN_more HB.out _⟩
        simp
        intro e
        exact HE.out (by rw [e])
    · go_wp2
      go_ret
      refine ⟨ret_bool ?_, HB.out⟩
      have h := HT.out
      rw [List.take_of_length_le (by omega), List.take_of_length_le (by have := HL.out; omega)] at h
      simp [h]

theorem quiet_more {P : Program} {f : FuncId} {args : Array Value} {w : World} {n : Nat} {v : Value} (h : Calls P f args (w.drewN n) (QVal (w.drewN n) v)) : Calls P f args (w.drewN n) fun e w'' => e = .returned v ∧ ∃ m, w'' = w.drewN m :=
  h.mono fun _ _ ⟨he, hm⟩ => ⟨he, by obtain ⟨m, hm⟩ := hm; subst hm; exact drewN_more ⟨n, rfl⟩ m⟩
set_option maxHeartbeats 800000 in
theorem c_likeRows5 (v1 v2 : Value) (xs ys : List (List Int)) (w : World) (hx : Rows w v1 xs) (hy : Rows w v2 ys) :
    Calls Try.prog 26 #[v1, v2] w (RVal w (.bool (decide (xs = ys)))) := by
  obtain ⟨a, c, rfl, hc, hm⟩ := hx.shape
  obtain ⟨a2, c2, rfl, hc2, hm2⟩ := hy.shape
  by_cases hl : xs.length = ys.length
  case neg =>
    have hne : decide (xs = ys) = false := by simp; intro e; exact hl (by rw [e])
    have hl' : ¬ ((xs.length : Int) = (ys.length : Int)) := by omega
    have HN := Lib.hid hne
    clear hne
    go_enter Try.func26, Try.ntmps26
    go_wp2
    go_ret
    exact ⟨ret_bool HN.out.symm, Below.refl _ _⟩
  have HL := Lib.hid hl; clear hl
  have hl' : ((xs.length : Int) = (ys.length : Int)) := by have := HL.out; omega
  go_enter Try.func26, Try.ntmps26
  go_wp2
  go_loopw [5] (fun i wr => ∃ k : Nat, k ≤ xs.length ∧ i = .int .i64 k ∧ Hid (Below w.heap.size w wr) ∧ Hid (xs.take k = ys.take k)) (fun i _ => xs.length - (intOf i).toNat)
  case atStart => exact ⟨0, Nat.zero_le _, rfl, Lib.hid (Below.refl _ _), Lib.hid (by simp)⟩
  case round =>
    obtain ⟨k, hk, rfl, HB, HT⟩ := hrel
    obtain ⟨wo, rfl⟩ : ∃ wo : World, wo = wr := ⟨_, rfl⟩
    by_cases hlt : k < xs.length
    · have hlt2 : k < ys.length := by have := HL.out; omega
      obtain ⟨b, o, u1, u2, rfl, hcell, hu⟩ := (hx.below HB.out).getS k hlt
      obtain ⟨b2, o2, y1, y2, rfl, hcell2, hy2⟩ := (hy.below HB.out).getS k hlt2
      have HU := Lib.hid hu; have HY := Lib.hid hy2
      clear hu hy2
      by_cases he : row xs k = row ys k
      · have hd : decide (row xs k = row ys k) = true := by simp [he]
        have HD := Lib.hid hd
        have HE := Lib.hid he; clear he
        go_wp2
        go_quiet ((go_at_call 22; exact quiet_more (c_likeInts _ _ (row xs k) (row ys k) _ (HU.out.below (below_drewN (Below.refl _ _) _)) (HY.out.below (below_drewN (Below.refl _ _) _)))))
        go_wp2
        go_roundw
        case rel => exact ⟨k + 1, by omega, by go_num, Lib.hid (below_drewN HB.out _), Lib.hid (by rw [take_snoc_row _ _ hlt, take_snoc_row _ _ hlt2, HT.out, HE.out])⟩
        case measure => simp [intOf]; omega
      · have hd : decide (row xs k = row ys k) = false := by simp [he]
        have HD := Lib.hid hd
        have HE := Lib.hid he; clear he
        go_wp2
        go_quiet ((go_at_call 22; exact quiet_more (c_likeInts _ _ (row xs k) (row ys k) _ (HU.out.below (below_drewN (Below.refl _ _) _)) (HY.out.below (below_drewN (Below.refl _ _) _)))))
        go_wp2
        go_ret
        refine ⟨ret_bool ?_, below_drewN HB.out _⟩
        simp
        intro e
        exact HE.out (by rw [e])
    · go_wp2
      go_ret
      refine ⟨ret_bool ?_, HB.out⟩
      have h := HT.out
      rw [List.take_of_length_le (by omega), List.take_of_length_le (by have := HL.out; omega)] at h
      simp [h]

set_option maxHeartbeats 800000 in
theorem c_likeSolution5 (v0 u0 v1 u1 : Value) (A B C D : List (List Int)) (w : World) (h1 : Sol w v0 u0 A B) (h2 : Sol w v1 u1 C D) :
    Calls Try.prog 24 #[.agg #[v0, u0], .agg #[v1, u1]] w (RVal w (.bool (decide (A = C) && decide (B = D)))) := by
  obtain ⟨a0, c0, rfl, _, _⟩ := h1.1.shape
  obtain ⟨a0s, c0s, rfl, _, _⟩ := h1.2.shape
  obtain ⟨a1, c1, rfl, _, _⟩ := h2.1.shape
  obtain ⟨a1s, c1s, rfl, _, _⟩ := h2.2.shape
  obtain ⟨f0, f1, hW0, hsz⟩ := boxes2 w [.slice a0 A.length c0, .slice a0s B.length c0s] [.slice a1 C.length c1, .slice a1s D.length c1s] 29 29
  obtain ⟨g0, g1, -, -⟩ := two_cells f0
  obtain ⟨g2, g3, -, -⟩ := two_cells f1
  have HF0 := Lib.hid f0; have HF1 := Lib.hid f1; have HW := Lib.hid hW0
  have H1 := Lib.hid (h1.below hW0); have H2 := Lib.hid (h2.below hW0)
  clear f0 f1 hW0 hsz h1 h2
  go_enter Try.func24, Try.ntmps24
  go_wp2_with fail
  refine (c_likeRows5 _ _ A C _ H1.out.1 H2.out.1).mono ?_; rintro e w2 ⟨rfl, hb⟩
  have HB := Lib.hid (HW.out.trans (hb.mono HW.out.size))
  have HS1 := Lib.hid (H1.out.2.below hb); have HS2 := Lib.hid (H2.out.2.below hb)
  clear g0 g1 g2 g3
  obtain ⟨g0, g1, -, -⟩ := two_cells (HF0.out.under hb)
  obtain ⟨g2, g3, -, -⟩ := two_cells (HF1.out.under hb)
  clear hb
  by_cases hac : A = C
  case neg =>
    have hd : decide (A = C) = false := by simp [hac]
    rw [hd]
    have HD := Lib.hid hd; clear hd hac
    go_wp2
    go_ret
    exact ⟨ret_bool (by rw [HD.out]; rfl), HB.out⟩
  have hd : decide (A = C) = true := by simp [hac]
  rw [hd]
  have HD := Lib.hid hd
  clear hd hac
  go_wp2_with fail
  refine (c_likeRows5 _ _ B D _ HS1.out HS2.out).mono ?_; rintro e w3 ⟨rfl, hb⟩
  have HB3 := Lib.hid (HB.out.trans (hb.mono HB.out.size))
  clear hb
  go_wp2
  go_ret
  exact ⟨ret_bool (by rw [HD.out]; simp), HB3.out⟩

set_option maxHeartbeats 800000 in
theorem c_then5 (v1 v2 : Value) (p q : List Int) (w : World) (hp : Ints w v1 p) (hq : Ints w v2 q) :
    Calls Try.prog 30 #[v1, v2] w (RInts w (thenRes p q)) := by
  by_cases h : okThen p q = true
  · have HC := Lib.hid (show thenCode p q = 0 by simp [thenCode, h])
    go_enter Try.func30, Try.ntmps30
    go_wp2_with fail
    refine (c_ThenPermutation _ _ p q _ hp hq).mono ?_; rintro e w1 ⟨r, rfl, ho, hb⟩
    rw [HC.out]
    have HO := Lib.hid ho; have HB := Lib.hid hb; clear ho hb
    go_wp2
    go_ret
    exact ⟨r, rfl, HO.out, HB.out⟩
  · have HC := Lib.hid (show thenCode p q = 1 by simp [thenCode, h])
    have HE := Lib.hid (show thenRes p q = [] by simp [thenRes, h])
    go_enter Try.func30, Try.ntmps30
    go_wp2_with fail
    refine (c_ThenPermutation _ _ p q _ hp hq).mono ?_; rintro e w1 ⟨r, rfl, ho, hb⟩
    rw [HC.out]
    have HB := Lib.hid hb; clear ho hb
    go_wp2
    go_ret
    exact ⟨_, rfl, by rw [HE.out]; exact Own.nil _ _, HB.out⟩

theorem isPerm_in' {p : List Int} (h : isPerm p = true) : (1 ≤ p.length ∧ p.length ≤ 12) ∧ Permuted p := by
  simp only [isPerm, Bool.and_eq_true, inR, decide_eq_true_eq] at h
  exact ⟨by omega, h.2⟩
end Go.Proofs.Ytgmhnjccgldddaa
