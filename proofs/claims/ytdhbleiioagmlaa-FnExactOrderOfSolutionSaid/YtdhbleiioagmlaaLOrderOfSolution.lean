/-
  The law FnExactOrderOfSolution answers true, and leaves what was there as it was.
-/
import Derived.Test.YtdhbleiioagmlaaI20
namespace Go.Proofs.Ytdhbleiioagmlaa
open Go.RowKit

open Classical in
noncomputable def soRes (A B : List (List Int)) : Int := if isSol A B = true then (if ∀ j, j < A.length * A.length → ordS (pmL A B A.length) (j + 1) ≤ 1000000 then ordS (pmL A B A.length) (A.length * A.length) else 0) else 0
open Classical in
noncomputable def soCode (A B : List (List Int)) : Int := if isSol A B = true then (if ∀ j, j < A.length * A.length → ordS (pmL A B A.length) (j + 1) ≤ 1000000 then 0 else 3) else 1
theorem so_all {A B : List (List Int)} {n : Nat} (h : isSol A B = true) (hl : A.length = n) (h1 : ∀ j, j < n * n → ordS (pmL A B n) (j + 1) ≤ 1000000) : soRes A B = ordS (pmL A B n) (n * n) ∧ soCode A B = 0 := by
  subst hl; unfold soRes soCode; rw [if_pos h, if_pos h1, if_pos h, if_pos h1]; exact ⟨rfl, rfl⟩
theorem so_lim {A B : List (List Int)} {n k : Nat} (h : isSol A B = true) (hl : A.length = n) (hk : k < n * n) (h1 : 1000000 < ordS (pmL A B n) (k + 1)) : soRes A B = 0 ∧ soCode A B = 3 := by
  subst hl; unfold soRes soCode
  have : ¬ ∀ j, j < A.length * A.length → ordS (pmL A B A.length) (j + 1) ≤ 1000000 := fun h2 => by have := h2 k hk; omega
  rw [if_pos h, if_neg this, if_pos h, if_neg this]; exact ⟨rfl, rfl⟩
/-- One step of the order: its bounds. -/
theorem ord_step {o : Int} {r : Nat} (ho : 1 ≤ o) (ho2 : o ≤ 1000000) (hr : 1 ≤ r) (hr2 : r ≤ 144) :
    (0 < gcdI o r ∧ gcdI o r ≤ 1000000) ∧ (0 ≤ o / gcdI o r ∧ o / gcdI o r ≤ 1000000) ∧ (0 ≤ o / gcdI o r * r ∧ o / gcdI o r * r ≤ 144000000) := by
  obtain ⟨h1, h2⟩ := gcdI_pos (a := o) (b := r) (by omega) (by omega)
  have h3 : 0 ≤ o / gcdI o r := Int.ediv_nonneg (by omega) (by omega)
  have h4 : o / gcdI o r ≤ o := Int.ediv_le_self _ (by omega)
  have h5 : o / gcdI o r * r ≤ 1000000 * 144 := Int.mul_le_mul (by omega) (by omega) (by omega) (by omega)
  exact ⟨⟨h1, by omega⟩, ⟨h3, by omega⟩, Int.mul_nonneg h3 (by omega), by omega⟩
theorem code_mul {n : Nat} {x : Int} (hn : n ≤ 12) (hx0 : 0 ≤ x) (hx : x < n) : 0 ≤ x * (n : Int) ∧ x * (n : Int) ≤ 144 := by
  have h1 : x * (n : Int) ≤ 12 * 12 := Int.mul_le_mul (by omega) (by omega) (by omega) (by omega)
  exact ⟨Int.mul_nonneg hx0 (by omega), by omega⟩

theorem lt_snocP {k : Nat} {P : Nat → Prop} (h : ∀ j, j < k → P j) (hk : P k) : ∀ j, j < k + 1 → P j := fun j hj => by
  by_cases e : j = k
  · subst e; exact hk
  · exact h j (by omega)

set_option maxRecDepth 100000 in
set_option maxHeartbeats 2000000 in
theorem c_OrderOfSolution (v0 u0 : Value) (A B : List (List Int)) (w : World) (hA : Sol w v0 u0 A B)  :
    Calls Try.prog 53 #[.agg #[v0, u0]] w (RVal w (.tuple #[.int .i64 (soRes A B), .int .i64 (soCode A B)])) := by
  by_cases hp0 : isSol A B = true
  case neg =>
    have hq0 : isSol A B = false := by simpa using hp0
    have HQ := Lib.hid hq0; clear hp0
    obtain ⟨a0, c0, rfl, _, _⟩ := hA.1.shape
    obtain ⟨a0s, c0s, rfl, _, _⟩ := hA.2.shape
    go_enter Try.func53, Try.ntmps53
    go_wp2_with fail
    obtain ⟨f0, hW0, hsz⟩ := boxes1 w [.slice a0 A.length c0, .slice a0s B.length c0s] 28
    obtain ⟨W0, hW⟩ : ∃ W, (w.alloc (.cells #[.slice a0 A.length c0, .slice a0s B.length c0s] 28)) = W := ⟨_, rfl⟩
    rw [hW] at f0 hW0 hsz ⊢
    clear hW hsz
    refine (c_IsSolution _ _ _ _ _ (hA.below hW0)).mono ?_; rintro e g0 ⟨rfl, hbg0⟩
    have hB0 := bb hW0 hbg0
    replace f0 := f0.under hbg0
    obtain ⟨cA0, cB0, -, -⟩ := two_cells f0
    clear hbg0
    have HB := Lib.hid hB0
    clear hB0 hW0
    go_wp2
    go_ret2
    exact ⟨by simp [soRes, soCode, HQ.out], HB.out⟩
  have HP0 := Lib.hid hp0
  obtain ⟨n0, b0, o0, c0, rb0, ro0, rc0, b0s, o0s, c0s, rb0s, ro0s, rc0s, rfl, rfl, hl0, hl0s, hn0, hx0, hc0, hm0, hc0s, hm0s, t0, t0s⟩ := hA.tabs (isSol_pm hp0)
  have HL0 := Lib.hid hl0; clear hl0
  have HL0s := Lib.hid hl0s; clear hl0s
  go_enter Try.func53, Try.ntmps53
  go_wp2_with fail
  obtain ⟨f0, hW0, hsz⟩ := boxes1 w [.slice (some ⟨b0, o0, none⟩) n0 c0, .slice (some ⟨b0s, o0s, none⟩) n0 c0s] 28
  obtain ⟨W0, hW⟩ : ∃ W, (w.alloc (.cells #[.slice (some ⟨b0, o0, none⟩) n0 c0, .slice (some ⟨b0s, o0s, none⟩) n0 c0s] 28)) = W := ⟨_, rfl⟩
  rw [hW] at f0 hW0 hsz ⊢
  clear hW hsz
  refine (c_IsSolution _ _ _ _ _ (hA.below hW0)).mono ?_; rintro e g0 ⟨rfl, hbg0⟩
  have hB0 := bb hW0 hbg0
  replace f0 := f0.under hbg0
  obtain ⟨cA0, cB0, -, -⟩ := two_cells f0
  clear hbg0
  have hperm := pmL_perm (isSol_pm HP0.out) (isSol_coll HP0.out)
  rw [HL0.out] at hperm
  have HPm := Lib.hid hperm
  have HT := Lib.hid (t0.below hB0); have HTs := Lib.hid (t0s.below hB0); have HW := Lib.hid hB0; have HF := Lib.hid f0
  clear hB0 hW0 t0 t0s f0 hA hperm
  have hnn : n0 * n0 ≤ 144 := Nat.mul_le_mul hx0 hx0
  have hnnI : (n0 : Int) * n0 ≤ 144 := by exact_mod_cast hnn
  have hnnJ : (0 : Int) ≤ (n0 : Int) * n0 := by exact_mod_cast Nat.zero_le _
  go_wp2
  go_loopw [5, 6, 7, 8, 9, 19] (fun o _ _ _ _ i wr => ∃ (k : Nat) (o' : Int), k ≤ n0 * n0 ∧ i = .int .i64 k ∧ o = .int .i64 o' ∧ 1 ≤ o' ∧ o' ≤ 1000000 ∧ Hid (o' = ordS (pmL A B n0) k) ∧ Hid (∀ j, j < k → ordS (pmL A B n0) (j + 1) ≤ 1000000) ∧ Hid (Below g0.heap.size g0 wr)) (fun _ _ _ _ _ i _ => n0 * n0 - (intOf i).toNat)
  case atStart => exact ⟨0, 1, Nat.zero_le _, rfl, rfl, by omega, by omega, Lib.hid rfl, Lib.hid (by intro j hj; omega), Lib.hid (Below.refl _ _)⟩
  case round =>
    obtain ⟨k, o, hk, rfl, rfl, ho1, ho2, HO, HA, HB⟩ := hrel
    obtain ⟨wo, rfl⟩ : ∃ wo : World, wo = wr := ⟨_, rfl⟩
    by_cases hlt : k < n0 * n0
    · have hltI : (k : Int) < (n0 : Int) * n0 := by exact_mod_cast hlt
      obtain ⟨d1, d2, d3, d4⟩ := divI hlt hn0
      have T := HT.out.below HB.out; have Ts := HTs.out.below HB.out
      have hd1 : k / n0 < n0 := div_lt_sq hlt
      have hd2 : k % n0 < n0 := Nat.mod_lt k (by omega)
      have r1 := T.row (k / n0) hd1; have r2 := Ts.row (k / n0) hd1
      have x1 := T.val (k / n0) (k % n0) hd1 hd2; have x2 := Ts.val (k / n0) (k % n0) hd1 hd2
      rw [Int.natCast_ediv, Int.natCast_emod] at x1 x2
      obtain ⟨b1, b2⟩ := T.rng ((k : Int) / (n0 : Int)) ((k : Int) % (n0 : Int)) d1 d2 d3 d4
      obtain ⟨b3, b4⟩ := Ts.rng ((k : Int) / (n0 : Int)) ((k : Int) % (n0 : Int)) d1 d2 d3 d4
      obtain ⟨cA2, cB2, -, -⟩ := two_cells (HF.out.under HB.out)
      obtain ⟨X0, hX0⟩ : ∃ x : Int, x = val2 A ((k : Int) / (n0 : Int)) ((k : Int) % (n0 : Int)) := ⟨_, rfl⟩
      obtain ⟨Y0, hY0⟩ : ∃ x : Int, x = val2 B ((k : Int) / (n0 : Int)) ((k : Int) % (n0 : Int)) := ⟨_, rfl⟩
      rw [← hX0] at x1 b1 b2; rw [← hY0] at x2 b3 b4
      have hcode : X0 * (n0 : Int) + Y0 = nth (pmL A B n0) k := by
        have e := code_div (n := n0) (x := (k : Int) / (n0 : Int)) d3 d4
        have := nth_pmL (A := A) (B := B) (n := n0) d1 d2 d3 d4
        rw [← hX0, ← hY0, show (k : Int) / (n0 : Int) * (n0 : Int) + (k : Int) % (n0 : Int) = k from by have := Int.emod_add_mul_ediv (k : Int) n0; rw [Int.mul_comm] at this; omega] at this
        exact this.symm
      have HCode := Lib.hid hcode
      clear T Ts hX0 hY0 hcode
      go_wp2
      go_quiet (fail)
      go_wp2
      go_loopw [7, 8, 9] (fun x y r wr => ∃ (X Y : Int) (r' : Nat), x = .int .i64 X ∧ y = .int .i64 Y ∧ r = .int .i64 r' ∧ 0 ≤ X ∧ X < n0 ∧ 0 ≤ Y ∧ Y < n0 ∧ 1 ≤ r' ∧ Hid (X * (n0 : Int) + Y = iter (nth (pmL A B n0)) r' k) ∧ Hid (∀ j, 1 ≤ j → j < r' → iter (nth (pmL A B n0)) j k ≠ k) ∧ Hid (Below g0.heap.size g0 wr)) (fun _ _ r _ => n0 * n0 + 1 - (intOf r).toNat)
      case atStart => exact ⟨X0, Y0, 1, rfl, rfl, rfl, b1, b2, b3, b4, Nat.le_refl _, HCode, Lib.hid (by intro j h1 h2; omega), Lib.hid (below_drewN HB.out _)⟩
      case round =>
        clear HCode x1 x2 b1 b2 b3 b4 r1 r2 d1 d2 d3 d4 cA2 cB2
        obtain ⟨X, Y, r, rfl, rfl, rfl, hX0, hX1, hY0, hY1, hr1, HC, HNo, HB2⟩ := hrel
        have hrc := cyc_bound HPm.out (k := (k : Int)) (by omega) (by rw [pmL_length]; omega) HNo.out hr1
        have hcl := (cyc_le HPm.out (k := (k : Int)) (by omega) (by rw [pmL_length]; omega)).2
        rw [pmL_length] at hcl
        obtain ⟨m1, m2⟩ := code_mul hx0 hX0 hX1
        have hr144 : r ≤ 144 := by omega
        by_cases he : X * (n0 : Int) + Y = k
        · have e1 : (X * (n0 : Int) + Y != (k : Int)) = false := by simp [he]
          have hcy : cyc (pmL A B n0) k = r := cyc_eq ⟨hr1, by rw [← HC.out]; exact he, HNo.out⟩
          have hor : ordS (pmL A B n0) (k + 1) = o / gcdI o r * r := by
            show ordS _ k / gcdI (ordS _ k) (cyc _ k) * cyc _ k = _
            rw [hcy, ← HO.out]
          obtain ⟨⟨s1, s2⟩, ⟨s3, s4⟩, s5, s6⟩ := ord_step ho1 ho2 hr1 hr144
          have s7 : (gcdI o r == 0) = false := by simp; omega
          have hop := ordS_pos HPm.out (k + 1) (by rw [pmL_length]; omega)
          rw [hor] at hop
          have HOr := Lib.hid hor; have HE := Lib.hid he
          clear he hcy hor hrc hcl
          go_wp2_with fail
          refine (c_divisorOf o r _ (by omega) (by omega) (by omega) (by omega)).mono ?_; rintro e w3 ⟨rfl, hb3⟩
          have HB3 := Lib.hid (bb HB2.out hb3); clear hb3
          obtain ⟨q, hq⟩ : ∃ q, gcdI o r = q := ⟨_, rfl⟩
          rw [hq] at s1 s2 s3 s4 s5 s6 s7 hop ⊢
          rw [hq] at HOr
          clear hq
          by_cases hlim : 1000000 < o / q * r
          · have HLm := Lib.hid hlim
            go_wp2
            go_ret2
            obtain ⟨q1, q2⟩ := so_lim HP0.out HL0.out hlt (by rw [HOr.out]; exact HLm.out)
            exact ⟨by simp [q1, q2], bb HW.out HB3.out⟩
          · have HLm := Lib.hid hlim
            go_wp2
            go_roundw
            case rel => exact ⟨k + 1, o / q * r, by omega, by go_num, rfl, by omega, by have := HLm.out; omega, Lib.hid HOr.out.symm, Lib.hid (lt_snocP HA.out (by rw [HOr.out]; have := HLm.out; omega)), HB3⟩
            case measure => simp [intOf]; omega
        · have e1 : (X * (n0 : Int) + Y != (k : Int)) = true := by simp [he]
          have hrc2 := cyc_bound HPm.out (k := (k : Int)) (r := r + 1) (by omega) (by rw [pmL_length]; omega) (fun j j1 j2 => by
            by_cases ej : j = r
            · subst ej; rw [← HC.out]; exact he
            · exact HNo.out j j1 (by omega)) (by omega)
          have HE := Lib.hid he
          have T := HT.out.below HB2.out; have Ts := HTs.out.below HB2.out
          have r1 := T.rowi X hX0 hX1; have r2 := Ts.rowi X hX0 hX1
          have x1 := T.vali X Y hX0 hX1 hY0 hY1; have x2 := Ts.vali X Y hX0 hX1 hY0 hY1
          obtain ⟨b1, b2⟩ := T.rng X Y hX0 hX1 hY0 hY1
          obtain ⟨b3, b4⟩ := Ts.rng X Y hX0 hX1 hY0 hY1
          obtain ⟨cA2, cB2, -, -⟩ := two_cells (HF.out.under HB2.out)
          have HRc := Lib.hid hrc2
          clear T Ts he hrc2 hrc
          go_wp2
          go_quiet (fail)
          go_wp2
          go_roundw
          case rel =>
            refine ⟨val2 A X Y, val2 B X Y, r + 1, rfl, rfl, by go_num, b1, b2, b3, b4, by omega, Lib.hid ?_, Lib.hid ?_, Lib.hid (below_drewN HB2.out _)⟩
            · show _ = nth (pmL A B n0) (iter (nth (pmL A B n0)) r k)
              rw [← HC.out, nth_pmL hX0 hX1 hY0 hY1]
            · intro j j1 j2
              by_cases ej : j = r
              · subst ej; rw [← HC.out]; exact HE.out
              · exact HNo.out j j1 (by omega)
          case measure => have := HRc.out; simp [intOf]; omega
    · obtain rfl : k = n0 * n0 := by omega
      have hh := so_all HP0.out HL0.out HA.out
      have HH := Lib.hid hh
      go_wp2
      go_ret2
      exact ⟨by simp [HH.out.1, HH.out.2, HO.out], bb HW.out HB.out⟩

theorem code_nat {n x y : Nat} (hx : x < n) (hy : y < n) : x * n + y < n * n := by
  have := code_lt (n := n) (x := (x : Int)) (y := (y : Int)) (by omega) (by omega) (by omega) (by omega)
  have h := this.2
  rw [← Int.natCast_mul, ← Int.natCast_add] at h
  exact Int.ofNat_lt.1 h

set_option maxRecDepth 100000 in
set_option maxHeartbeats 2000000 in
theorem c_specOrderOfSolution (v0 u0 : Value) (A B : List (List Int)) (w : World) (hA : Sol w v0 u0 A B)  :
    Calls Try.prog 52 #[.agg #[v0, u0]] w (RVal w (.tuple #[.int .i64 (soRes A B), .int .i64 (soCode A B)])) := by
  by_cases hp0 : isSol A B = true
  case neg =>
    have hq0 : isSol A B = false := by simpa using hp0
    have HQ := Lib.hid hq0; clear hp0
    obtain ⟨a0, c0, rfl, _, _⟩ := hA.1.shape
    obtain ⟨a0s, c0s, rfl, _, _⟩ := hA.2.shape
    go_enter Try.func52, Try.ntmps52
    go_wp2_with fail
    obtain ⟨f0, hW0, hsz⟩ := boxes1 w [.slice a0 A.length c0, .slice a0s B.length c0s] 28
    obtain ⟨W0, hW⟩ : ∃ W, (w.alloc (.cells #[.slice a0 A.length c0, .slice a0s B.length c0s] 28)) = W := ⟨_, rfl⟩
    rw [hW] at f0 hW0 hsz ⊢
    clear hW hsz
    refine (c_l02Is _ _ _ _ _ (hA.below hW0)).mono ?_; rintro e g0 ⟨rfl, hbg0⟩
    have hB0 := bb hW0 hbg0
    replace f0 := f0.under hbg0
    obtain ⟨cA0, cB0, -, -⟩ := two_cells f0
    clear hbg0
    have HB := Lib.hid hB0
    clear hB0 hW0
    go_wp2
    go_ret2
    exact ⟨by simp [soRes, soCode, HQ.out], HB.out⟩
  have HP0 := Lib.hid hp0
  obtain ⟨n0, b0, o0, c0, rb0, ro0, rc0, b0s, o0s, c0s, rb0s, ro0s, rc0s, rfl, rfl, hl0, hl0s, hn0, hx0, hc0, hm0, hc0s, hm0s, t0, t0s⟩ := hA.tabs (isSol_pm hp0)
  have HL0 := Lib.hid hl0; clear hl0
  have HL0s := Lib.hid hl0s; clear hl0s
  go_enter Try.func52, Try.ntmps52
  go_wp2_with fail
  obtain ⟨f0, hW0, hsz⟩ := boxes1 w [.slice (some ⟨b0, o0, none⟩) n0 c0, .slice (some ⟨b0s, o0s, none⟩) n0 c0s] 28
  obtain ⟨W0, hW⟩ : ∃ W, (w.alloc (.cells #[.slice (some ⟨b0, o0, none⟩) n0 c0, .slice (some ⟨b0s, o0s, none⟩) n0 c0s] 28)) = W := ⟨_, rfl⟩
  rw [hW] at f0 hW0 hsz ⊢
  clear hW hsz
  refine (c_l02Is _ _ _ _ _ (hA.below hW0)).mono ?_; rintro e g0 ⟨rfl, hbg0⟩
  have hB0 := bb hW0 hbg0
  replace f0 := f0.under hbg0
  obtain ⟨cA0, cB0, -, -⟩ := two_cells f0
  clear hbg0
  have hperm := pmL_perm (isSol_pm HP0.out) (isSol_coll HP0.out)
  rw [HL0.out] at hperm
  have HPm := Lib.hid hperm
  have HT := Lib.hid (t0.below hB0); have HTs := Lib.hid (t0s.below hB0); have HW := Lib.hid hB0; have HF := Lib.hid f0
  clear hB0 hW0 t0 t0s f0 hA hperm
  have HNN : Hid (n0 * n0 ≤ 144) := Lib.hid (Nat.mul_le_mul hx0 hx0)
  go_wp2
  go_loopw [5, 6, 7, 8, 9, 10, 11] (fun o i _ _ _ _ _ wr => ∃ (a : Nat) (o' : Int), a ≤ n0 ∧ i = .int .i64 a ∧ o = .int .i64 o' ∧ 1 ≤ o' ∧ o' ≤ 1000000 ∧ Hid (o' = ordS (pmL A B n0) (a * n0)) ∧ Hid (∀ j, j < a * n0 → ordS (pmL A B n0) (j + 1) ≤ 1000000) ∧ Hid (Below g0.heap.size g0 wr)) (fun _ i _ _ _ _ _ _ => n0 - (intOf i).toNat)
  case atStart => exact ⟨0, 1, Nat.zero_le _, rfl, rfl, by omega, by omega, Lib.hid (by simp [ordS]), Lib.hid (by intro j hj; omega), Lib.hid (Below.refl _ _)⟩
  case round =>
    obtain ⟨a, o, ha, rfl, rfl, ho1, ho2, HO, HA, HB⟩ := hrel
    obtain ⟨wo, rfl⟩ : ∃ wo : World, wo = wr := ⟨_, rfl⟩
    by_cases hlta : a < n0
    · go_wp2
      go_loopw [5, 7, 8, 9, 10, 11] (fun o i _ _ _ _ wr => ∃ (b : Nat) (o' : Int), b ≤ n0 ∧ i = .int .i64 b ∧ o = .int .i64 o' ∧ 1 ≤ o' ∧ o' ≤ 1000000 ∧ Hid (o' = ordS (pmL A B n0) (a * n0 + b)) ∧ Hid (∀ j, j < a * n0 + b → ordS (pmL A B n0) (j + 1) ≤ 1000000) ∧ Hid (Below g0.heap.size g0 wr)) (fun _ i _ _ _ _ _ => n0 - (intOf i).toNat)
      case atStart => exact ⟨0, o, Nat.zero_le _, rfl, rfl, ho1, ho2, HO, HA, HB⟩
      case round =>
        clear HB HO HA ho1 ho2
        obtain ⟨b, o, hb, rfl, rfl, ho1, ho2, HO, HA, HB⟩ := hrel
        obtain ⟨wp, rfl⟩ : ∃ wp : World, wp = wr := ⟨_, rfl⟩
        by_cases hlt : b < n0
        · have HLt := Lib.hid (code_nat hlta hlt)
          have T := HT.out.below HB.out; have Ts := HTs.out.below HB.out
          have r1 := T.row a hlta; have r2 := Ts.row a hlta
          have x1 := T.val a b hlta hlt; have x2 := Ts.val a b hlta hlt
          obtain ⟨b1, b2⟩ := T.rng a b (by omega) (by omega) (by omega) (by omega)
          obtain ⟨b3, b4⟩ := Ts.rng a b (by omega) (by omega) (by omega) (by omega)
          obtain ⟨cA2, cB2, -, -⟩ := two_cells (HF.out.under HB.out)
          have hcode := nth_pmL (A := A) (B := B) (n := n0) (x := (a : Int)) (y := (b : Int)) (by omega) (by omega) (by omega) (by omega)
          obtain ⟨X0, hX0⟩ : ∃ x : Int, x = val2 A a b := ⟨_, rfl⟩
          obtain ⟨Y0, hY0⟩ : ∃ x : Int, x = val2 B a b := ⟨_, rfl⟩
          rw [← hX0] at x1 b1 b2 hcode; rw [← hY0] at x2 b3 b4 hcode
          have HCode := Lib.hid hcode
          obtain ⟨k, hk⟩ : ∃ k : Nat, k = a * n0 + b := ⟨_, rfl⟩
          have hkI : (k : Int) = a * (n0 : Int) + b := by rw [hk, Int.natCast_add, Int.natCast_mul]
          rw [← hk] at HO HA HLt
          rw [← hkI] at HCode
          have HKI := Lib.hid hkI; have HK := Lib.hid hk
          have ha0 : (0 : Int) ≤ a := by omega
          have ha1 : (a : Int) < n0 := by omega
          have hb0 : (0 : Int) ≤ b := by omega
          have hb1 : (b : Int) < n0 := by omega
          clear T Ts hX0 hY0 hcode hk hkI
          go_wp2
          go_quiet (fail)
          go_wp2
          go_loopw [8, 9, 10, 11] (fun x y r _ wr => ∃ (X Y : Int) (r' : Nat), x = .int .i64 X ∧ y = .int .i64 Y ∧ r = .int .i64 r' ∧ 0 ≤ X ∧ X < n0 ∧ 0 ≤ Y ∧ Y < n0 ∧ 1 ≤ r' ∧ Hid (X * (n0 : Int) + Y = iter (nth (pmL A B n0)) r' k) ∧ Hid (∀ j, 1 ≤ j → j < r' → iter (nth (pmL A B n0)) j k ≠ k) ∧ Hid (Below g0.heap.size g0 wr)) (fun _ _ r _ _ => n0 * n0 + 1 - (intOf r).toNat)
          case atStart => exact ⟨X0, Y0, 1, rfl, rfl, rfl, b1, b2, b3, b4, Nat.le_refl _, Lib.hid HCode.out.symm, Lib.hid (by intro j h1 h2; omega), Lib.hid (below_drewN HB.out _)⟩
          case round =>
            clear HCode x1 x2 b1 b2 b3 b4 r1 r2 cA2 cB2
            obtain ⟨X, Y, r, rfl, rfl, rfl, hX0, hX1, hY0, hY1, hr1, HC, HNo, HB2⟩ := hrel
            have hrc := cyc_bound HPm.out (k := (k : Int)) (by omega) (by rw [pmL_length]; have := HLt.out; omega) HNo.out hr1
            have hcl := (cyc_le HPm.out (k := (k : Int)) (by omega) (by rw [pmL_length]; have := HLt.out; omega)).2
            rw [pmL_length] at hcl
            have hr144 : r ≤ 144 := by have := HNN.out; omega
            by_cases he : X * (n0 : Int) + Y = k
            · obtain ⟨hXa, hYb⟩ := code_inj (n := n0) (x := X) (u := (a : Int)) hY0 hY1 hb0 hb1 (by rw [he, HKI.out])
              have e1 : (X != (a : Int)) = false := by simp [hXa]
              have e2 : (Y != (b : Int)) = false := by simp [hYb]
              have hcy : cyc (pmL A B n0) k = r := cyc_eq ⟨hr1, by rw [← HC.out]; exact he, HNo.out⟩
              have hor : ordS (pmL A B n0) (k + 1) = o / gcdI o r * r := by
                show ordS _ k / gcdI (ordS _ k) (cyc _ k) * cyc _ k = _
                rw [hcy, ← HO.out]
              obtain ⟨⟨s1, s2⟩, ⟨s3, s4⟩, s5, s6⟩ := ord_step ho1 ho2 hr1 hr144
              have s7 : (gcdI o r == 0) = false := by simp; omega
              have hop := ordS_pos HPm.out (k + 1) (by rw [pmL_length]; have := HLt.out; omega)
              rw [hor] at hop
              have HOr := Lib.hid hor; have HE := Lib.hid he
              clear he hcy hor hrc hcl hXa hYb
              go_wp2_with fail
              refine (c_l02Common o r _ (by omega) (by omega) (by omega) (by omega)).mono ?_; rintro e w3 ⟨rfl, hb3⟩
              have HB3 := Lib.hid (bb HB2.out hb3); clear hb3
              obtain ⟨q, hq⟩ : ∃ q, gcdI o r = q := ⟨_, rfl⟩
              rw [hq] at s1 s2 s3 s4 s5 s6 s7 hop ⊢
              rw [hq] at HOr
              clear hq
              by_cases hlim : 1000000 < o / q * r
              · have HLm := Lib.hid hlim
                go_wp2
                go_ret2
                obtain ⟨q1, q2⟩ := so_lim HP0.out HL0.out HLt.out (by rw [HOr.out]; exact HLm.out)
                exact ⟨by simp [q1, q2], bb HW.out HB3.out⟩
              · have HLm := Lib.hid hlim
                go_wp2
                go_roundw
                case rel =>
                  have ek : a * n0 + (b + 1) = k + 1 := by have := HK.out; omega
                  exact ⟨b + 1, o / q * r, by omega, by go_num, rfl, by omega, by have := HLm.out; omega, Lib.hid (by rw [ek]; exact HOr.out.symm), Lib.hid (by rw [ek]; exact lt_snocP HA.out (by rw [HOr.out]; have := HLm.out; omega)), HB3⟩
                case measure => simp [intOf]; omega
            · have hrc2 := cyc_bound HPm.out (k := (k : Int)) (r := r + 1) (by omega) (by rw [pmL_length]; have := HLt.out; omega) (fun j j1 j2 => by
                by_cases ej : j = r
                · subst ej; rw [← HC.out]; exact he
                · exact HNo.out j j1 (by omega)) (by omega)
              have HE := Lib.hid he
              have HRc := Lib.hid hrc2; have HCl := Lib.hid hcl
              have hne : X = (a : Int) → Y = (b : Int) → False := fun h1 h2 => he (by rw [h1, h2, HKI.out])
              have T := HT.out.below HB2.out; have Ts := HTs.out.below HB2.out
              have r1 := T.rowi X hX0 hX1; have r2 := Ts.rowi X hX0 hX1
              have x1 := T.vali X Y hX0 hX1 hY0 hY1; have x2 := Ts.vali X Y hX0 hX1 hY0 hY1
              obtain ⟨b1, b2⟩ := T.rng X Y hX0 hX1 hY0 hY1
              obtain ⟨b3, b4⟩ := Ts.rng X Y hX0 hX1 hY0 hY1
              obtain ⟨cA2, cB2, -, -⟩ := two_cells (HF.out.under HB2.out)
              have hbody : (∃ (X' Y' : Int) (r'' : Nat), Value.int .i64 (val2 A X Y) = .int .i64 X' ∧ Value.int .i64 (val2 B X Y) = .int .i64 Y' ∧ Value.int .i64 ((r : Int) + 1) = .int .i64 r'' ∧ 0 ≤ X' ∧ X' < n0 ∧ 0 ≤ Y' ∧ Y' < n0 ∧ 1 ≤ r'' ∧ Hid (X' * (n0 : Int) + Y' = iter (nth (pmL A B n0)) r'' k) ∧ Hid (∀ j, 1 ≤ j → j < r'' → iter (nth (pmL A B n0)) j k ≠ k) ∧ Hid (Below g0.heap.size g0 wr)) := by
                refine ⟨val2 A X Y, val2 B X Y, r + 1, rfl, rfl, by go_num, b1, b2, b3, b4, by omega, Lib.hid ?_, Lib.hid ?_, HB2⟩
                · show _ = nth (pmL A B n0) (iter (nth (pmL A B n0)) r k)
                  rw [← HC.out, nth_pmL hX0 hX1 hY0 hY1]
                · intro j j1 j2
                  by_cases ej : j = r
                  · subst ej; rw [← HC.out]; exact HE.out
                  · exact HNo.out j j1 (by omega)
              have HBody := Lib.hid hbody
              clear T Ts he hrc2 hrc hcl hbody
              by_cases hXa : X = (a : Int)
              · have e1 : (X != (a : Int)) = false := by simp [hXa]
                have e2 : (Y != (b : Int)) = true := by simpa using hne hXa
                clear hXa hne
                go_wp2
                go_roundw
                case rel => exact HBody.out
                case measure => have := HRc.out; have := HCl.out; simp [intOf]; omega
              · have e1 : (X != (a : Int)) = true := by simp [hXa]
                clear hXa hne
                go_wp2
                go_roundw
                case rel => exact HBody.out
                case measure => have := HRc.out; have := HCl.out; simp [intOf]; omega
        · obtain rfl : b = n0 := by omega
          go_wp2
          go_roundw
          case rel => exact ⟨a + 1, o, by omega, by go_num, rfl, ho1, ho2, Lib.hid (by rw [Nat.add_mul, Nat.one_mul]; exact HO.out), Lib.hid (by rw [Nat.add_mul, Nat.one_mul]; exact HA.out), HB⟩
          case measure => simp [intOf]; omega
    · obtain rfl : a = n0 := by omega
      have hh := so_all HP0.out HL0.out HA.out
      have HH := Lib.hid hh
      go_wp2
      go_ret2
      exact ⟨by simp [HH.out.1, HH.out.2, HO.out], bb HW.out HB.out⟩

set_option maxHeartbeats 4000000 in
theorem law_OrderOfSolution (v0 u0 : Value) (x0 y0 : List (List Int)) (w : World) (hr0 : Rows w v0 x0) (hr0' : Rows w u0 y0) :
    Calls Try.prog 14 #[.agg #[v0, u0]] w (RVal w (.bool true)) := by
  obtain ⟨a0, c0, rfl, hc0, hm0⟩ := hr0.shape
  obtain ⟨a0s, c0s, rfl, hc0s, hm0s⟩ := hr0'.shape
  have hx0 : Sol w (.slice a0 x0.length c0) (.slice a0s y0.length c0s) x0 y0 := ⟨hr0, hr0'⟩
  clear hr0 hr0'
  go_enter Try.func14, Try.ntmps14
  go_wp2_with fail
  obtain ⟨bx0, BW, hsz0⟩ := boxes1 w [.slice a0 x0.length c0, .slice a0s y0.length c0s] 24
  obtain ⟨W0, hW0⟩ : ∃ W, (w.alloc (.cells #[.slice a0 x0.length c0, .slice a0s y0.length c0s] 24)) = W := ⟨_, rfl⟩
  rw [hW0] at bx0 BW hsz0 ⊢
  have hs0 : w.heap.size + 1 ≤ W0.heap.size := by omega
  clear hW0 hsz0
  refine (c_szSolution _ _ _ _ _ _ (hx0.below BW) (by omega) (by omega)).mono ?_; rintro e w1 ⟨rfl, hb1⟩
  have hs1 := hb1.size
  replace BW := bb BW hb1
  replace bx0 := bx0.under hb1
  obtain ⟨cA0, cB0, -, -⟩ := two_cells bx0
  clear hb1
  by_cases hg0 : leftS x0 y0 (1048576) < 0
  case pos =>
    have HB := Lib.hid BW; clear BW
    go_wp2
    go_ret
    exact ⟨rfl, HB.out⟩
  have hf0 := leftS_fits (left := 1048576) (by omega) (by omega) hg0
  have Hf0 := Lib.hid hf0
  clear hf0
  have hf0 : (x0.length ≤ 1048576 ∧ total x0 ≤ 1048576) ∧ (y0.length ≤ 1048576 ∧ total y0 ≤ 1048576) ∧ 0 ≤ leftS x0 y0 (1048576) ∧ leftS x0 y0 (1048576) ≤ 1048576 := ⟨⟨Hf0.out.1.1, Hf0.out.1.2.2⟩, ⟨Hf0.out.2.1.1, Hf0.out.2.1.2.2⟩, Hf0.out.2.2⟩
  obtain ⟨R0, hR0⟩ : ∃ z, z = soRes x0 y0 := ⟨_, rfl⟩
  obtain ⟨R1, hR1⟩ : ∃ z, z = soCode x0 y0 := ⟨_, rfl⟩
  have HR0 := Lib.hid hR0
  clear hR0
  have HR1 := Lib.hid hR1
  clear hR1
  have hk0 : (R0 != R0) = false := by simp
  have hk1 : (R1 != R1) = false := by simp
  have hda0 : decide (x0 = x0 ∧ y0 = y0) = true := by simp
  go_wp2_with fail
  refine (c_toSolution _ _ _ _ _ (hx0.below BW) hf0.1.1 Hf0.out.1.2.1 hf0.2.1.1 Hf0.out.2.1.2.1).mono ?_; rintro e w2 ⟨t11, t12, rfl, ot1, hb2⟩
  have hs2 := hb2.size
  replace BW := bb BW hb2
  replace bx0 := bx0.under hb2
  clear cA0 cB0
  obtain ⟨cA0, cB0, -, -⟩ := two_cells bx0
  clear hb2
  go_wp2_with fail
  refine (c_specOrderOfSolution _ _ _ _ _ (ot1.sol)).mono ?_
  rw [← HR0.out, ← HR1.out]
  rintro e w3 ⟨rfl, hb3⟩
  have hs3 := hb3.size
  replace ot1 := ot1.under hb3
  replace BW := bb BW hb3
  replace bx0 := bx0.under hb3
  clear cA0 cB0
  obtain ⟨cA0, cB0, -, -⟩ := two_cells bx0
  clear ot1
  clear hb3
  go_wp2_with fail
  refine (c_toSolution _ _ _ _ _ (hx0.below BW) hf0.1.1 Hf0.out.1.2.1 hf0.2.1.1 Hf0.out.2.1.2.1).mono ?_; rintro e w4 ⟨z01, z02, rfl, oz0, hb4⟩
  have hs4 := hb4.size
  replace BW := bb BW hb4
  replace bx0 := bx0.under hb4
  clear cA0 cB0
  obtain ⟨cA0, cB0, -, -⟩ := two_cells bx0
  clear hb4
  obtain ⟨saz0, scz0, hvz0, _, _⟩ := oz0.sol.1.shape
  subst hvz0
  obtain ⟨sbz0, sdz0, hvz0, _, _⟩ := oz0.sol.2.shape
  subst hvz0
  obtain ⟨cA0z, cB0z, -, -⟩ := two_cells (bx0.alloc (.cells #[.slice saz0 x0.length scz0, .slice sbz0 y0.length sdz0] 28))
  go_wp2_with fail
  clear cA0z cB0z
  obtain ⟨bxz0, hb5, hz5⟩ := boxes1 w4 [.slice saz0 x0.length scz0, .slice sbz0 y0.length sdz0] 28
  obtain ⟨w5, hW5⟩ : ∃ W, w4.alloc (.cells #[.slice saz0 x0.length scz0, .slice sbz0 y0.length sdz0] 28) = W := ⟨_, rfl⟩
  rw [hW5] at bxz0 hb5 hz5 ⊢
  have hs5 : w4.heap.size + 1 ≤ w5.heap.size := by omega
  clear hW5 hz5
  replace oz0 := oz0.under hb5
  replace BW := bb BW hb5
  replace bx0 := bx0.under hb5
  clear cA0 cB0
  obtain ⟨cA0, cB0, -, -⟩ := two_cells bx0
  obtain ⟨cAz0, cBz0, -, -⟩ := two_cells bxz0
  clear hb5
  refine (c_OrderOfSolution _ _ _ _ _ (oz0.sol)).mono ?_
  rw [← HR0.out, ← HR1.out]
  rintro e w6 ⟨rfl, hb6⟩
  have hs6 := hb6.size
  replace oz0 := oz0.under hb6
  replace BW := bb BW hb6
  replace bx0 := bx0.under hb6
  clear cA0 cB0
  obtain ⟨cA0, cB0, -, -⟩ := two_cells bx0
  replace bxz0 := bxz0.under hb6
  clear cAz0 cBz0
  obtain ⟨cAz0, cBz0, -, -⟩ := two_cells bxz0
  clear hb6
  go_wp2_with fail
  have BWd := BW.drew
  have oz0d := oz0.keep ((Keep.refl (fun _ => False) w6).drew) (fun _ _ _ h => h)
  have bx0d := bx0.drew
  have bxz0d := bxz0.drew
  go_region_held3 (fun w' => w'.cell? ⟨w.heap.size, 0, none⟩ = some (.slice a0 x0.length c0) ∧ w'.cell? ⟨w.heap.size, 1, none⟩ = some (.slice a0s y0.length c0s) ∧ w'.cell? ⟨w4.heap.size, 0, none⟩ = some (.slice saz0 x0.length scz0) ∧ w'.cell? ⟨w4.heap.size, 1, none⟩ = some (.slice sbz0 y0.length sdz0))
    (first | go_keep | exact ⟨(two_cells (bx0d.under hb7)).1, (two_cells (bx0d.under hb7)).2.1, (two_cells (bxz0d.under hb7)).1, (two_cells (bxz0d.under hb7)).2.1⟩ | exact ⟨(two_cells ((bx0d.under hb7).under hb8)).1, (two_cells ((bx0d.under hb7).under hb8)).2.1, (two_cells ((bxz0d.under hb7).under hb8)).1, (two_cells ((bxz0d.under hb7).under hb8)).2.1⟩)
    ((first | (go_at_call 17; refine (c_toSolution _ _ _ _ _ (hx0.below BWd) hf0.1.1 Hf0.out.1.2.1 hf0.2.1.1 Hf0.out.2.1.2.1).mono ?_; rintro e w7 ⟨t71, t72, rfl, ot7, hb7⟩) | (go_at_call 19; refine (c_eqS _ _ _ _ _ _ _ _ _ (oz0d.under hb7).sol ot7.sol).mono ?_; rintro e w8 ⟨rfl, hb8⟩)))
  have hb8z : Below w6.heap.size w6 w8 := (Below.refl _ _).drew.trans (bb hb7 hb8)
  have hs8 : w6.heap.size ≤ w8.heap.size := hb8z.size
  replace oz0 := oz0.under hb8z
  replace BW := bb BW hb8z
  replace bx0 := bx0.under hb8z
  clear cA0 cB0
  obtain ⟨cA0, cB0, -, -⟩ := two_cells bx0
  replace bxz0 := bxz0.under hb8z
  clear cAz0 cBz0
  obtain ⟨cAz0, cBz0, -, -⟩ := two_cells bxz0
  clear BWd oz0d bx0d bxz0d ot7 hb7 hb8 hb8z
  have HB := Lib.hid BW
  clear BW oz0 hx0 bx0 bxz0
  go_wp2
  go_ret
  exact ⟨rfl, HB.out⟩
end Go.Proofs.Ytdhbleiioagmlaa
