/-
  Comparing lists of integers and tables: the program's and the reference's functions, and the library's slices.Compare, slices.CompareFunc, cmp.Compare at them.
-/
import Derived.Test.YtgmhnjccgldddaaP7
import Derived.Test.YtgmhnjccgldddaaS1c
namespace Go.Proofs.Ytgmhnjccgldddaa
set_option linter.unusedVariables false
set_option linter.unusedSimpArgs false
open Go.RowKit

theorem below_of_drewN {w wr : World} (h : ∃ n, wr = w.drewN n) : Below w.heap.size w wr := by
  obtain ⟨n, rfl⟩ := h; exact below_drewN (Below.refl _ _) n

set_option maxHeartbeats 400000 in
theorem c_isNaN (x : Int) (w : World) : Calls Try.prog 112 #[.int .i64 x] w (fun e w' => e = .returned (.bool false) ∧ w = w') := by
  have hx : (x != x) = false := by simp
  go_enter Try.func112, Try.ntmps112
  go_wp2
  go_ret
  exact ⟨rfl, rfl⟩
def cmpI (x y : Int) : Int := if x < y then -1 else if y < x then 1 else 0
theorem cmpI_zero {x y : Int} : cmpI x y = 0 ↔ x = y := by
  unfold cmpI; constructor
  · intro h; split at h
    · omega
    · split at h <;> omega
  · rintro rfl; simp
set_option maxHeartbeats 400000 in
theorem c_cmpCompare (x y : Int) (w : World) : Calls Try.prog 106 #[.int .i64 x, .int .i64 y] w (fun e w' => e = .returned (.int .i64 (cmpI x y)) ∧ w = w') := by
  unfold cmpI
  rcases Int.lt_trichotomy x y with h | h | h
  · have h2 : ¬ (y < x) := by omega
    go_enter Try.func106, Try.ntmps106
    go_wp2_with (go_at_call 112; refine (c_isNaN _ _).mono ?_; rintro e w' ⟨rfl, rfl⟩)
    go_ret
    exact ⟨by simp [h], rfl⟩
  · subst h
    go_enter Try.func106, Try.ntmps106
    go_wp2_with (go_at_call 112; refine (c_isNaN _ _).mono ?_; rintro e w' ⟨rfl, rfl⟩)
    go_ret
    exact ⟨by simp, rfl⟩
  · have h2 : ¬ (x < y) := by omega
    go_enter Try.func106, Try.ntmps106
    go_wp2_with (go_at_call 112; refine (c_isNaN _ _).mono ?_; rintro e w' ⟨rfl, rfl⟩)
    go_ret
    exact ⟨by simp [h, h2], rfl⟩

set_option maxHeartbeats 800000 in
theorem c_slCompare (v1 v2 : Value) (xs ys : List Int) (w : World) (hx : Ints w v1 xs) (hy : Ints w v2 ys) :
    Calls Try.prog 90 #[v1, v2] w (QVal w (.int .i64 (cmpB xs ys))) := by
  obtain ⟨a, c, rfl, hc, hm⟩ := hx.shape
  obtain ⟨a2, c2, rfl, hc2, hm2⟩ := hy.shape
  go_enter Try.func90, Try.ntmps90
  go_wp2
  go_loopw [11, 5, 6, 7, 8] (fun i _ _ _ _ wr => ∃ k : Nat, k ≤ xs.length ∧ k ≤ ys.length ∧ i = .int .i64 k ∧ Hid (∃ n, wr = w.drewN n) ∧ Hid (xs.take k = ys.take k)) (fun i _ _ _ _ _ => xs.length - (intOf i).toNat)
  case atStart => exact ⟨0, Nat.zero_le _, Nat.zero_le _, rfl, Lib.hid ⟨0, rfl⟩, Lib.hid rfl⟩
  case round =>
    obtain ⟨k, hk, hk2, rfl, HN, HE⟩ := hrel
    obtain ⟨wo, rfl⟩ : ∃ wo : World, wo = wr := ⟨_, rfl⟩
    have hb := below_of_drewN HN.out
    by_cases hlt : k < xs.length
    · obtain ⟨b, o, rfl, hcell⟩ := (hx.below hb).get k hlt
      by_cases hlt2 : k < ys.length
      · obtain ⟨b2, o2, rfl, hcell2⟩ := (hy.below hb).get k hlt2
        clear hb
        have hk0 : (0 : Int) ≤ k := by omega
        have hk1 : (k : Int) < xs.length := by omega
        have hkk : (k : Int) < ys.length := by omega
        by_cases he : nth xs k = nth ys k
        · have hz : cmpI (nth xs k) (nth ys k) = 0 := cmpI_zero.2 he
          have hz2 : (cmpI (nth xs k) (nth ys k) != 0) = false := by simp [hz]
          have HV := Lib.hid he; clear he hz
          go_wp2_with (go_at_call 106; refine (c_cmpCompare _ _ _).mono ?_; rintro e w' ⟨rfl, rfl⟩)
          go_roundw
          case rel => exact ⟨k + 1, by omega, by omega, by go_num, HN, Lib.hid (take_succ_eq hlt hlt2 HE.out HV.out)⟩
          case measure => simp [intOf]; omega
        · have hz2 : (cmpI (nth xs k) (nth ys k) != 0) = true := by simp [cmpI_zero, he]
          have HR : Hid (cmpI (nth xs k) (nth ys k) = cmpB xs ys) := by
            show _ = _
            rw [cmpB_at hlt hlt2 HE.out he]
            unfold cmpI
            split
            · rfl
            · rw [if_pos (by omega)]
          clear he
          go_wp2_with (go_at_call 106; refine (c_cmpCompare _ _ _).mono ?_; rintro e w' ⟨rfl, rfl⟩)
          go_ret
          exact ⟨ret_int HR.out, HN.out⟩
      · obtain rfl : k = ys.length := by omega
        clear hb
        have HR : Hid (1 = cmpB xs ys) := by
          show _ = _
          have := HE.out
          rw [List.take_length] at this
          rw [cmpB_pre (this.trans (List.take_of_length_le (by omega)).symm), if_neg (by omega), if_pos hlt]
        go_wp2
        go_ret
        exact ⟨ret_int HR.out, HN.out⟩
    · obtain rfl : k = xs.length := by omega
      clear hb
      have hpre : xs.take ys.length = ys.take xs.length := by
        have := HE.out
        rw [List.take_length] at this
        exact (List.take_of_length_le hk2).trans this
      by_cases hl : xs.length < ys.length
      · have hl' : (xs.length : Int) < ys.length := by omega
        have HR : Hid (-1 = cmpB xs ys) := by
          show _ = _
          rw [cmpB_pre hpre, if_pos hl]
        clear hpre
        go_wp2
        go_ret
        exact ⟨ret_int HR.out, HN.out⟩
      · have hl' : ¬ ((xs.length : Int) < ys.length) := by omega
        have HR : Hid (0 = cmpB xs ys) := by
          show _ = _
          rw [cmpB_pre hpre, if_neg hl, if_neg (by omega)]
        clear hpre
        go_wp2
        go_ret
        exact ⟨ret_int HR.out, HN.out⟩

set_option maxHeartbeats 1200000 in
theorem c_CompareFunc (f : FuncId) (v1 v2 : Value) (xs ys : List (List Int)) (w : World) (hx : Rows w v1 xs) (hy : Rows w v2 ys) (eg : ∀ args w, (callFunc f args).run Try.prog w = .ok (.enter f args) w)
    (hf : ∀ W x y p q, Ints W x p → Ints W y q → Calls Try.prog f #[x, y] W (QVal W (.int .i64 (cmpB p q)))) :
    Calls Try.prog 88 #[v1, v2, .func (.func f) #[] #[]] w (QVal w (.int .i64 (cmpR xs ys))) := by
  obtain ⟨a, c, rfl, hc, hm⟩ := hx.shape
  obtain ⟨a2, c2, rfl, hc2, hm2⟩ := hy.shape
  have HFn := Lib.hid hf; clear hf
  go_enter Try.func88, Try.ntmps88
  go_wp2
  go_loopw [13, 7, 8, 9, 10] (fun i _ _ _ _ wr => ∃ k : Nat, k ≤ xs.length ∧ k ≤ ys.length ∧ i = .int .i64 k ∧ Hid (∃ n, wr = w.drewN n) ∧ Hid (xs.take k = ys.take k)) (fun i _ _ _ _ _ => xs.length - (intOf i).toNat)
  case atStart => exact ⟨0, Nat.zero_le _, Nat.zero_le _, rfl, Lib.hid ⟨0, rfl⟩, Lib.hid rfl⟩
  case round =>
    obtain ⟨k, hk, hk2, rfl, HN, HE⟩ := hrel
    obtain ⟨wo, rfl⟩ : ∃ wo : World, wo = wr := ⟨_, rfl⟩
    have hb := below_of_drewN HN.out
    by_cases hlt : k < xs.length
    · obtain ⟨b, o, ra, rc, rfl, hcell, hu⟩ := (hx.below hb).getS k hlt
      by_cases hlt2 : k < ys.length
      · obtain ⟨b2, o2, ra2, rc2, rfl, hcell2, hu2⟩ := (hy.below hb).getS k hlt2
        have Hp := Lib.hid (HFn.out wo _ _ _ _ hu hu2)
        clear hb hu hu2
        have hk0 : (0 : Int) ≤ k := by omega
        have hk1 : (k : Int) < xs.length := by omega
        have hkk : (k : Int) < ys.length := by omega
        by_cases he : row xs k = row ys k
        · have hz : cmpB (row xs k) (row ys k) = 0 := cmpB_zero.2 he
          have hz2 : (cmpB (row xs k) (row ys k) != 0) = false := by simp [hz]
          have HV := Lib.hid he; clear he hz
          go_wp2_with fail
          refine Hp.out.mono ?_; rintro e w' ⟨rfl, nq, rfl⟩
          go_wp2
          go_roundw
          case rel => exact ⟨k + 1, by omega, by omega, by go_num, by obtain ⟨n, hn⟩ := HN.out; exact Lib.hid ⟨n + _, by rw [hn]; exact drewN_drewN w n _⟩, Lib.hid (take_succ_eqR hlt hlt2 HE.out HV.out)⟩
          case measure => simp [intOf]; omega
        · have hz2 : (cmpB (row xs k) (row ys k) != 0) = true := by simp [cmpB_zero, he]
          have HR : Hid (cmpB (row xs k) (row ys k) = cmpR xs ys) := Lib.hid (cmpR_at hlt hlt2 HE.out he).symm
          clear he
          go_wp2_with fail
          refine Hp.out.mono ?_; rintro e w' ⟨rfl, nq, rfl⟩
          go_wp2
          go_ret
          exact ⟨ret_int HR.out, by obtain ⟨n, hn⟩ := HN.out; exact ⟨n + _, by rw [hn]; exact drewN_drewN w n _⟩⟩
      · obtain rfl : k = ys.length := by omega
        clear hb hu
        have HR : Hid (1 = cmpR xs ys) := by
          show _ = _
          have := HE.out
          rw [List.take_length] at this
          rw [cmpR_pre (this.trans (List.take_of_length_le (by omega)).symm), if_neg (by omega), if_pos hlt]
        go_wp2
        go_ret
        exact ⟨ret_int HR.out, HN.out⟩
    · obtain rfl : k = xs.length := by omega
      clear hb
      have hpre : xs.take ys.length = ys.take xs.length := by
        have := HE.out
        rw [List.take_length] at this
        exact (List.take_of_length_le hk2).trans this
      by_cases hl : xs.length < ys.length
      · have hl' : (xs.length : Int) < ys.length := by omega
        have HR : Hid (-1 = cmpR xs ys) := by
          show _ = _
          rw [cmpR_pre hpre, if_pos hl]
        clear hpre
        go_wp2
        go_ret
        exact ⟨ret_int HR.out, HN.out⟩
      · have hl' : ¬ ((xs.length : Int) < ys.length) := by omega
        have HR : Hid (0 = cmpR xs ys) := by
          show _ = _
          rw [cmpR_pre hpre, if_neg hl, if_neg (by omega)]
        clear hpre
        go_wp2
        go_ret
        exact ⟨ret_int HR.out, HN.out⟩

theorem eg_compareTables1 : ∀ args w, (callFunc 89 args).run Try.prog w = .ok (.enter 89 args) w := Go.Proofs.enters_of Try.func89 (by kernel_rfl) rfl
set_option maxHeartbeats 400000 in
theorem c_compareTables1 (W : World) (x y : Value) (p q : List Int) (hx : Ints W x p) (hy : Ints W y q) : Calls Try.prog 89 #[x, y] W (QVal W (.int .i64 (cmpB p q))) := by
  go_enter Try.func89, Try.ntmps89
  go_wp2_with fail
  refine (c_slCompare _ _ _ _ _ hx hy).mono ?_; rintro e w' ⟨rfl, nq, rfl⟩
  go_wp2
  go_ret
  exact ⟨rfl, nq, rfl⟩
set_option maxHeartbeats 400000 in
theorem c_compareTables (v1 v2 : Value) (xs ys : List (List Int)) (w : World) (hx : Rows w v1 xs) (hy : Rows w v2 ys) : Calls Try.prog 65 #[v1, v2] w (QVal w (.int .i64 (cmpR xs ys))) := by
  go_enter Try.func65, Try.ntmps65
  go_wp2_with fail
  refine (c_CompareFunc _ _ _ _ _ _ hx hy eg_compareTables1 c_compareTables1).mono ?_; rintro e w' ⟨rfl, nq, rfl⟩
  go_wp2
  go_ret
  exact ⟨rfl, nq, rfl⟩

set_option maxHeartbeats 800000 in
theorem c_l01Less (v1 v2 : Value) (xs ys : List Int) (w : World) (hx : Ints w v1 xs) (hy : Ints w v2 ys) :
    Calls Try.prog 93 #[v1, v2] w (QVal w (.bool (lexB xs ys))) := by
  obtain ⟨a, c, rfl, hc, hm⟩ := hx.shape
  obtain ⟨a2, c2, rfl, hc2, hm2⟩ := hy.shape
  go_enter Try.func93, Try.ntmps93
  go_wp2
  go_loopw [5] (fun i wr => ∃ k : Nat, k ≤ xs.length ∧ k ≤ ys.length ∧ i = .int .i64 k ∧ Hid (∃ n, wr = w.drewN n) ∧ Hid (xs.take k = ys.take k)) (fun i _ => xs.length - (intOf i).toNat)
  case atStart => exact ⟨0, Nat.zero_le _, Nat.zero_le _, rfl, Lib.hid ⟨0, rfl⟩, Lib.hid rfl⟩
  case round =>
    obtain ⟨k, hk, hk2, rfl, HN, HE⟩ := hrel
    obtain ⟨wo, rfl⟩ : ∃ wo : World, wo = wr := ⟨_, rfl⟩
    have hb := below_of_drewN HN.out
    by_cases hlt : k < xs.length
    · obtain ⟨b, o, rfl, hcell⟩ := (hx.below hb).get k hlt
      by_cases hlt2 : k < ys.length
      · obtain ⟨b2, o2, rfl, hcell2⟩ := (hy.below hb).get k hlt2
        clear hb
        have hk0 : (0 : Int) ≤ k := by omega
        have hk1 : (k : Int) < xs.length := by omega
        have hkk : (k : Int) < ys.length := by omega
        by_cases he : nth xs k = nth ys k
        · have hz2 : (nth xs k != nth ys k) = false := by simp [he]
          have HV := Lib.hid he; clear he
          go_wp2
          go_quiet (fail)
          go_wp2
          go_roundw
          case rel => exact ⟨k + 1, by omega, by omega, by go_num, by obtain ⟨n, hn⟩ := HN.out; exact Lib.hid ⟨n + _, by rw [hn]; exact drewN_drewN w n _⟩, Lib.hid (take_succ_eq hlt hlt2 HE.out HV.out)⟩
          case measure => simp [intOf]; omega
        · have hz2 : (nth xs k != nth ys k) = true := by simp [he]
          have HR : Hid (decide (nth xs k < nth ys k) = lexB xs ys) := Lib.hid (lexB_at hlt hlt2 HE.out he).symm
          clear he
          go_wp2
          go_quiet (fail)
          rename_i nq
          have hbq : Below wo.heap.size wo (wo.drewN nq) := below_drewN (Below.refl _ _) nq
          have q1 := cell_under hbq hcell
          have q2 := cell_under hbq hcell2
          obtain ⟨wq, hwq⟩ : ∃ wq, wq = wo.drewN nq := ⟨_, rfl⟩
          rw [← hwq] at q1 q2 ⊢
          have HWQ := Lib.hid hwq; clear hwq
          clear hbq hcell hcell2
          go_wp2
          go_quiet (fail)
          go_wp2
          go_ret
          exact ⟨ret_bool HR.out, by obtain ⟨n, hn⟩ := HN.out; exact ⟨_, by rw [HWQ.out, hn, drewN_drewN, drewN_drewN]⟩⟩
      · obtain rfl : k = ys.length := by omega
        clear hb
        have HR : Hid (decide (xs.length < ys.length) = lexB xs ys) := by
          show _ = _
          have := HE.out
          rw [List.take_length] at this
          rw [lexB_pre (this.trans (List.take_of_length_le (by omega)).symm)]
        go_wp2
        go_ret
        exact ⟨ret_bool HR.out, HN.out⟩
    · obtain rfl : k = xs.length := by omega
      clear hb
      have HR : Hid (decide (xs.length < ys.length) = lexB xs ys) := by
        show _ = _
        have := HE.out
        rw [List.take_length] at this
        rw [lexB_pre ((List.take_of_length_le hk2).trans this)]
      go_wp2
      go_ret
      exact ⟨ret_bool HR.out, HN.out⟩

end Go.Proofs.Ytgmhnjccgldddaa
