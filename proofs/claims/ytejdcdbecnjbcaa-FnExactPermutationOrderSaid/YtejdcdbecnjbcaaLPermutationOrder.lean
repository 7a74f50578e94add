/-
  The law FnExactPermutationOrder answers true, and leaves what was there as it was: at every list of integers.
-/
import Derived.Test.YtejdcdbecnjbcaaLawB
import Derived.Test.YtejdcdbecnjbcaaI1c
import Derived.Test.YtejdcdbecnjbcaaS1c
namespace Go.Proofs.Ytejdcdbecnjbcaa
open Go.RowKit

noncomputable def ordRes (p : List Int) : Int := if isPerm p then (ordP p : Int) else 0
def ordCode (p : List Int) : Int := if isPerm p then 0 else 1
theorem isPerm_lt' {xs : List Int} (h : isPerm xs = true) : (1 ≤ xs.length ∧ xs.length ≤ 12) ∧ Permuted xs := by
  simp [isPerm, inR] at h; exact ⟨by omega, h.2⟩
theorem fac_mono : ∀ {a b : Nat}, a ≤ b → fac a ≤ fac b
  | 0, b, _ => fac_pos b
  | a+1, 0, h => by omega
  | a+1, b+1, h => Nat.mul_le_mul h (fac_mono (Nat.le_of_succ_le_succ h))
theorem ord_bound {p : List Int} (hp : Permuted p) (hn : p.length ≤ 12) : ∃ N, IsOrd p N ∧ N < 479001600 := by
  have h1 : pw p (fac p.length - 1) = iota p.length := fac_power hp
  have h2 := fac_mono hn
  have h3 := fac_pos p.length
  have e : fac 12 = 479001600 := by decide
  have : ∀ d, (∃ N, IsOrd p N ∧ N < 479001600) ∨ (∀ j, j < d → pw p j ≠ iota p.length) ∨ 479001600 < d := by
    intro d
    induction d with
    | zero => exact .inr (.inl fun j hj => by omega)
    | succ d ih =>
      rcases ih with h | h | h
      · exact .inl h
      · by_cases hd : pw p d = iota p.length
        · by_cases hlt : d < 479001600
          · exact .inl ⟨d, ⟨hd, h⟩, hlt⟩
          · exfalso
            exact h _ (show fac p.length - 1 < d by omega) h1
        · refine .inr (.inl fun j hj => ?_)
          by_cases ej : j = d
          · subst ej; exact hd
          · exact h j (by omega)
      · exact .inr (.inr (by omega))
  rcases this (fac p.length) with h | h | h
  · exact h
  · exact absurd h1 (h _ (by omega))
  · omega

set_option maxHeartbeats 400000 in
theorem c_l01Order (v : Value) (p : List Int) (w : World) (hx : Ints w v p) (hp : Permuted p) (hn : p.length ≤ 12) :
    Calls Try.prog 67 #[v] w (RVal w (.int .i64 (ordP p))) := by
  obtain ⟨a, c, rfl, hc, hm⟩ := hx.shape
  obtain ⟨N, hN, hN2⟩ := ord_bound hp hn
  have HI : Hid (∀ k, ∀ x ∈ pw p k, 0 ≤ x ∧ x < p.length) := Lib.hid fun k => pw_in hp k
  have HN := Lib.hid hN; clear hN
  go_enter Try.func67, Try.ntmps67
  go_wp2_with fail
  refine (c_l01Unit p.length _ (by omega)).mono ?_; rintro e w1 ⟨r1, rfl, ho1, hb1⟩
  go_wp2_with fail
  refine (c_l01Own _ p _ (hx.below hb1) (by omega)).mono ?_; rintro e w2 ⟨r2, rfl, ho2, hb2⟩
  have HB := Lib.hid (bb hb1 hb2); have HU := Lib.hid (ho1.ints.below hb2); have HX := Lib.hid ((hx.below hb1).below hb2); have HQ := Lib.hid ho2.ints
  clear ho1 hb1 ho2 hb2 hx
  go_wp2
  go_loopw [4, 5] (fun s i wr => ∃ (k : Nat), i = .int .i64 (k + 1) ∧ k ≤ N ∧ Hid (Below w2.heap.size w2 wr) ∧ Hid (Ints wr s (pw p k)) ∧ Hid (∀ j, j < k → pw p j ≠ iota p.length)) (fun _ i _ => N + 2 - (intOf i).toNat)
  case atStart => exact ⟨0, rfl, by omega, Lib.hid (Below.refl _ _), Lib.hid HQ.out, Lib.hid fun j hj => by omega⟩
  case round =>
    obtain ⟨k, rfl, hk, Hb, Hq, He⟩ := hrel
    by_cases heq : pw p k = iota p.length
    · have hd1 : decide (pw p k = iota p.length) = true := by simp [heq]
      have HE := Lib.hid heq; clear heq
      go_wp2_with fail
      refine (c_l01Same _ _ _ _ _ Hq.out (HU.out.below Hb.out)).mono ?_; rintro e w3 h
      obtain ⟨rfl, hb⟩ := h.r
      have HB3 := Lib.hid (bb Hb.out hb); clear hb h
      go_wp2
      go_ret
      refine ⟨?_, bb HB.out HB3.out⟩
      rw [IsOrd.eq ⟨HE.out, He.out⟩]
      rfl
    · have hd1 : decide (pw p k = iota p.length) = false := by simp [heq]
      have hlt : k < N := by
        rcases Nat.lt_or_ge k N with h | h
        · exact h
        · obtain rfl : k = N := by omega
          exact absurd HN.out.1 heq
      have HE := Lib.hid heq; clear heq
      go_wp2_with fail
      refine (c_l01Same _ _ _ _ _ Hq.out (HU.out.below Hb.out)).mono ?_; rintro e w3 h
      obtain ⟨rfl, hb⟩ := h.r
      have HB3 := Lib.hid (bb Hb.out hb); have HQ3 := Lib.hid (Hq.out.below hb); clear hb h
      go_wp2_with fail
      refine (c_l01Then _ _ _ _ _ HQ3.out (HX.out.below HB3.out) (HI.out k) (by rw [pw_length]; omega)).mono ?_; rintro e w4 ⟨r, rfl, ho, hb⟩
      have HB4 := Lib.hid (bb HB3.out hb); have HO := Lib.hid ho.ints; clear ho hb
      go_wp2
      go_roundw
      case rel =>
        refine ⟨k + 1, by go_num, by omega, Lib.hid HB4.out, Lib.hid HO.out, Lib.hid fun j hj => ?_⟩
        by_cases ej : j = k
        · subst ej; exact HE.out
        · exact He.out j (by omega)
      case measure => simp [intOf]; omega

set_option maxHeartbeats 400000 in
theorem c_specPermutationOrder (v : Value) (xs : List Int) (w : World) (hx : Ints w v xs) :
    Calls Try.prog 34 #[v] w (RVal w (.tuple #[.int .i64 (ordRes xs), .int .i64 (ordCode xs)])) := by
  by_cases hp : isPerm xs = true
  · have HP := Lib.hid hp
    have h1 := isPerm_lt' hp
    go_enter Try.func34, Try.ntmps34
    go_wp2_with fail
    refine (c_l01Perm _ _ _ hx).mono ?_; rintro e w' ⟨rfl, rfl⟩
    go_wp2_with fail
    refine (c_l01Order _ _ _ hx h1.2 h1.1.2).mono ?_; rintro e w' ⟨rfl, hb⟩
    have HB := Lib.hid hb; clear hb hp h1
    go_wp2
    go_ret2
    exact ⟨by simp [ordRes, ordCode, HP.out], HB.out⟩
  · have hp' : isPerm xs = false := by simpa using hp
    have HP := Lib.hid hp'
    clear hp
    go_enter Try.func34, Try.ntmps34
    go_wp2_with fail
    refine (c_l01Perm _ _ _ hx).mono ?_; rintro e w' ⟨rfl, rfl⟩
    go_wp2
    go_ret2
    exact ⟨by simp [ordRes, ordCode, HP.out], Below.refl _ _⟩

set_option maxHeartbeats 400000 in
theorem c_PermutationOrder (v : Value) (p : List Int) (w : World) (hx : Ints w v p) :
    Calls Try.prog 35 #[v] w (RVal w (.tuple #[.int .i64 (ordRes p), .int .i64 (ordCode p)])) := by
  by_cases hp : isPerm p = true
  · have HP := Lib.hid hp
    obtain ⟨⟨h1, hn⟩, hperm⟩ := isPerm_lt' hp
    obtain ⟨N, hN, hN2⟩ := ord_bound hperm hn
    have HI : Hid (∀ k, ∀ x ∈ pw p k, 0 ≤ x ∧ x < p.length) := Lib.hid fun k => pw_in hperm k
    have HD : Hid (∀ k, incr (pw p k) = true ↔ pw p k = iota p.length) := Lib.hid fun k => by have := incr_iota (pw_perm hperm k); rwa [pw_length] at this
    have HN := Lib.hid hN; clear hN hperm h1
    go_enter Try.func35, Try.ntmps35
    go_wp2_with fail
    refine (c_IsPermutation _ _ _ hx).mono ?_; rintro e w2 ⟨rfl, hb1⟩
    have HB := Lib.hid hb1; have HX := Lib.hid (hx.below hb1)
    clear hb1 hx
    go_wp2
    go_loopw [4, 5] (fun i s wr => ∃ (k : Nat), i = .int .i64 (k + 1) ∧ k ≤ N ∧ Hid (Below w2.heap.size w2 wr) ∧ Hid (Ints wr s (pw p k)) ∧ Hid (∀ j, j < k → pw p j ≠ iota p.length)) (fun i _ _ => N + 2 - (intOf i).toNat)
    case atStart => exact ⟨0, rfl, by omega, Lib.hid (Below.refl _ _), Lib.hid HX.out, Lib.hid fun j hj => by omega⟩
    case round =>
      obtain ⟨k, rfl, hk, Hb, Hq, He⟩ := hrel
      by_cases heq : pw p k = iota p.length
      · have hd1 : incr (pw p k) = true := (HD.out k).2 heq
        have HE := Lib.hid heq; clear heq
        go_wp2_with fail
        refine (c_isIdentity _ _ _ Hq.out).mono ?_; rintro e w3 ⟨rfl, hb⟩
        have HB3 := Lib.hid (bb Hb.out hb); clear hb
        go_wp2
        go_ret2
        refine ⟨?_, bb HB.out HB3.out⟩
        simp [ordRes, ordCode, HP.out, IsOrd.eq ⟨HE.out, He.out⟩]
      · have hd1 : incr (pw p k) = false := by
          rw [Bool.eq_false_iff]; exact fun h => heq ((HD.out k).1 h)
        have hlt : k < N := by
          rcases Nat.lt_or_ge k N with h | h
          · exact h
          · obtain rfl : k = N := by omega
            exact absurd HN.out.1 heq
        have HE := Lib.hid heq; clear heq
        go_wp2_with fail
        refine (c_isIdentity _ _ _ Hq.out).mono ?_; rintro e w3 ⟨rfl, hb⟩
        have HB3 := Lib.hid (bb Hb.out hb); have HQ3 := Lib.hid (Hq.out.below hb); clear hb
        go_wp2_with fail
        refine (c_then _ _ _ _ _ HQ3.out (HX.out.below HB3.out) (HI.out k) (by rw [pw_length]; omega)).mono ?_; rintro e w4 ⟨r, rfl, ho, hb⟩
        have HB4 := Lib.hid (bb HB3.out hb); have HO := Lib.hid ho.ints; clear ho hb
        go_wp2
        go_roundw
        case rel =>
          refine ⟨k + 1, by go_num, by omega, Lib.hid HB4.out, Lib.hid HO.out, Lib.hid fun j hj => ?_⟩
          by_cases ej : j = k
          · subst ej; exact HE.out
          · exact He.out j (by omega)
        case measure => simp [intOf]; omega
  · have hp' : isPerm p = false := by simpa using hp
    have HP := Lib.hid hp'
    clear hp
    go_enter Try.func35, Try.ntmps35
    go_wp2_with fail
    refine (c_IsPermutation _ _ _ hx).mono ?_; rintro e w1 ⟨rfl, hb1⟩
    have HB := Lib.hid hb1; clear hb1
    go_wp2
    go_ret2
    exact ⟨by simp [ordRes, ordCode, HP.out], HB.out⟩

set_option maxHeartbeats 4000000 in
theorem law_PermutationOrder (v0 : Value) (x0 : List Int) (w : World) (hx0 : Ints w v0 x0) :
    Calls Try.prog 10 #[v0] w (RVal w (.bool true)) := by
  obtain ⟨a0, c0, rfl, hc0, hm0⟩ := hx0.shape
  by_cases hn0 : x0.length ≤ 1048576
  case neg =>
    go_enter Try.func10, Try.ntmps10
    go_wp2
    go_ret
    exact ⟨rfl, by first | exact Below.refl _ _ | exact (Below.refl _ _).alloc (Nat.le_refl _) _ | exact ((Below.refl _ _).alloc (Nat.le_refl _) _).alloc (by simp) _⟩
  go_enter Try.func10, Try.ntmps10
  have BW : Below w.heap.size w w := Below.refl _ _
  obtain ⟨R0, hR0⟩ : ∃ z, z = ordRes x0 := ⟨_, rfl⟩
  obtain ⟨R1, hR1⟩ : ∃ z, z = ordCode x0 := ⟨_, rfl⟩
  have HR0 := Lib.hid hR0
  clear hR0
  have HR1 := Lib.hid hR1
  clear hR1
  have hk0 : (R0 != R0) = false := by simp
  have hk1 : (R1 != R1) = false := by simp
  have hda0 : decide (x0 = x0) = true := by simp
  go_wp2_with fail
  refine (c_toInt64S _ _ _ (hx0.below BW) (by omega)).mono ?_; rintro e w1 ⟨t1, rfl, ot1r, hb1⟩
  have hs1 := hb1.size
  replace BW := bb BW hb1
  have ot1 := ot1r.inn
  clear ot1r
  clear hb1
  go_wp2_with fail
  refine (c_specPermutationOrder _ _ _ (ot1.ints)).mono ?_
  rw [← HR0.out, ← HR1.out]
  rintro e w2 ⟨rfl, hb2⟩
  have hs2 := hb2.size
  replace ot1 := ot1.under hb2
  replace BW := bb BW hb2
  clear ot1
  clear hb2
  go_wp2_with fail
  refine (c_toInt64S _ _ _ (hx0.below BW) (by omega)).mono ?_; rintro e w3 ⟨z0, rfl, oz0r, hb3⟩
  have hs3 := hb3.size
  replace BW := bb BW hb3
  have oz0 := oz0r.inn
  clear oz0r
  clear hb3
  go_wp2_with fail
  refine (c_PermutationOrder _ _ _ (oz0.ints)).mono ?_
  rw [← HR0.out, ← HR1.out]
  rintro e w4 ⟨rfl, hb4⟩
  have hs4 := hb4.size
  replace oz0 := oz0.under hb4
  replace BW := bb BW hb4
  clear hb4
  go_wp2_with fail
  refine (c_toInt64S _ _ _ (hx0.below BW) (by omega)).mono ?_; rintro e w5 ⟨t2, rfl, ot2r, hb5⟩
  have hs5 := hb5.size
  replace oz0 := oz0.under hb5
  replace BW := bb BW hb5
  have ot2 := ot2r.inn
  clear ot2r
  clear hb5
  go_wp2_with fail
  refine (c_eqI _ _ _ _ _ (oz0.ints) (ot2.ints)).mono ?_; rintro e w6 ⟨rfl, hb6⟩
  have hs6 := hb6.size
  replace oz0 := oz0.under hb6
  replace ot2 := ot2.under hb6
  replace BW := bb BW hb6
  clear hb6
  clear ot2
  have HB := Lib.hid BW
  clear BW oz0 hx0
  go_wp2
  go_ret
  exact ⟨rfl, HB.out⟩
end Go.Proofs.Ytejdcdbecnjbcaa
