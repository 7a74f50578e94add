/-
  The law FnExactAllPermutations answers true, and leaves what was there as it was.
-/
import Derived.Test.YtejdcdbecnjbcaaR3
import Derived.Test.YtejdcdbecnjbcaaLawC
namespace Go.Proofs.Ytejdcdbecnjbcaa
open Go.RowKit

set_option maxHeartbeats 800000 in
theorem c_specAllPermutations (n : Int) (w : World) (hlo : -9223372036854775808 ≤ n) (hhi : n ≤ 9223372036854775807) :
    Calls Try.prog 41 #[.int .i64 n] w (RRowsC w (apRes n) (apCode n)) := by
  by_cases hp : inR n 1 7 = true
  case neg =>
    have hp' : inR n 1 7 = false := by simpa using hp
    have HP := Lib.hid hp'; clear hp hp'
    go_enter Try.func41, Try.ntmps41
    go_wp2_with fail
    refine (c_l01In _ _ _ _).mono ?_; rintro e w' ⟨rfl, rfl⟩
    rw [HP.out]
    go_wp2
    go_ret2
    exact ⟨.slice none 0 0, by simp [apCode, HP.out], by simpa [apRes, HP.out] using OwnRows.nil _ _, Below.refl _ _⟩
  have HP := Lib.hid hp
  obtain ⟨N, rfl⟩ : ∃ N : Nat, n = N := ⟨n.toNat, by simp [inR] at hp; omega⟩
  have hN : 1 ≤ N ∧ N ≤ 7 := by simp [inR] at hp; omega
  obtain ⟨hN1, hN2⟩ := hN
  clear hp
  go_enter Try.func41, Try.ntmps41
  go_wp2_with fail
  refine (c_l01In _ _ _ _).mono ?_; rintro e w' ⟨rfl, rfl⟩
  rw [HP.out]
  go_wp2_with fail
  refine (c_l01Perms N _ hN1 hN2).mono ?_; rintro e w2 ⟨r, rfl, ho, hb⟩
  have HO := Lib.hid ho; have HB := Lib.hid hb; clear ho hb
  go_wp2
  go_ret2
  exact ⟨r, by simp [apCode, HP.out], by simpa [apRes, HP.out] using HO.out, HB.out⟩

theorem total_const (l : List (List Int)) (n : Nat) (h : ∀ x ∈ l, x.length = n) : total l = l.length * n := by
  induction l with
  | nil => simp [total]
  | cons a l ih =>
    have h1 := h a (by simp)
    have h2 := ih fun x hx => h x (by simp [hx])
    simp [total, h1, h2, Nat.add_mul]; omega
theorem ap_total (n : Int) : total (apRes n) ≤ 1152921504606846976 := by
  unfold apRes
  split
  · rename_i h
    have hn : n.toNat ≤ 7 := by simp [inR] at h; omega
    rw [total_const _ n.toNat (fun x hx => (mem_allPerms.1 hx).2)]
    have h1 := allPerms_le hn
    have := Nat.mul_le_mul h1 hn
    omega
  · simp [total]

set_option maxHeartbeats 4000000 in
theorem law_AllPermutations (n0 : Int) (w : World) (hl0 : -9223372036854775808 ≤ n0) (hu0 : n0 ≤ 9223372036854775807) :
    Calls Try.prog 12 #[.int .i64 n0] w (RVal w (.bool true)) := by
  go_enter Try.func12, Try.ntmps12
  have BW : Below w.heap.size w w := Below.refl _ _
  have hB0 : total (apRes n0) ≤ 1152921504606846976 := by have := ap_total n0; omega
  obtain ⟨R0, hR0⟩ : ∃ z, z = apRes n0 := ⟨_, rfl⟩
  obtain ⟨R1, hR1⟩ : ∃ z, z = apCode n0 := ⟨_, rfl⟩
  rw [← hR0] at hB0
  have HR0 := Lib.hid hR0
  clear hR0
  have HR1 := Lib.hid hR1
  clear hR1
  have hd0 : decide (R0 = R0) = true := by simp
  have hk1 : (R1 != R1) = false := by simp
  have hq0 : ((1 + (total R0 : Int)) != (1 + (total R0 : Int))) = false := by simp
  go_wp2_with fail
  refine (c_specAllPermutations _ _ hl0 hu0).mono ?_
  rw [← HR0.out, ← HR1.out]
  rintro e w1 ⟨s0, rfl, os0r, hb1⟩
  have hs1 := hb1.size
  replace BW := bb BW hb1
  have hS := os0r.rows
  clear os0r
  have BS : Below w1.heap.size w1 w1 := Below.refl _ _
  clear hb1
  go_wp2_with fail
  refine (c_AllPermutations _ _ hl0 hu0).mono ?_
  rw [← HR0.out, ← HR1.out]
  rintro e w2 ⟨g0, rfl, og0r, hb2⟩
  have hs2 := hb2.size
  replace BW := bb BW hb2
  replace BS := bb BS hb2
  have og0 := og0r.inn
  clear og0r
  clear hb2
  go_wp2_with fail
  refine (c_eqR _ _ _ _ _ (og0.rows) (hS.below BS)).mono ?_; rintro e w3 ⟨rfl, hb3⟩
  have hs3 := hb3.size
  replace og0 := og0.under hb3
  replace BW := bb BW hb3
  replace BS := bb BS hb3
  clear hb3
  go_wp2_with fail
  refine (c_markR _ _ _ _ _ _ og0 (by omega) (by omega)).mono ?_; rintro e w4 ⟨rfl, og0m, hkw4⟩
  have hs4 := hkw4.size
  replace BW := below_keep BW hkw4 (by omega)
  replace BS := below_keep BS hkw4 (by omega)
  clear og0
  have og0 := og0m
  clear og0m hkw4
  go_wp2_with fail
  refine (c_heldR _ _ _ _ (og0.rows) (by omega) (by omega)).mono ?_; rintro e w5 ⟨rfl, hb5⟩
  have hs5 := hb5.size
  replace og0 := og0.under hb5
  replace BW := bb BW hb5
  replace BS := bb BS hb5
  clear hb5
  go_wp2_with fail
  refine (c_AllPermutations _ _ hl0 hu0).mono ?_
  rw [← HR0.out, ← HR1.out]
  rintro e w6 ⟨h0, rfl, oh0r, hb6⟩
  have hs6 := hb6.size
  replace og0 := og0.under hb6
  replace BW := bb BW hb6
  replace BS := bb BS hb6
  have oh0 := oh0r.inn
  clear oh0r
  clear hb6
  go_wp2_with fail
  refine (c_eqR _ _ _ _ _ (oh0.rows) (hS.below BS)).mono ?_; rintro e w7 ⟨rfl, hb7⟩
  have hs7 := hb7.size
  replace og0 := og0.under hb7
  replace oh0 := oh0.under hb7
  replace BW := bb BW hb7
  replace BS := bb BS hb7
  clear hb7
  go_wp2_with fail
  refine (c_heldR _ _ _ _ (og0.rows) (by omega) (by omega)).mono ?_; rintro e w8 ⟨rfl, hb8⟩
  have hs8 := hb8.size
  replace og0 := og0.under hb8
  replace oh0 := oh0.under hb8
  replace BW := bb BW hb8
  replace BS := bb BS hb8
  clear hb8
  have HB := Lib.hid BW
  clear BW BS hS og0 oh0
  go_wp2
  go_ret
  exact ⟨rfl, HB.out⟩
end Go.Proofs.Ytejdcdbecnjbcaa
