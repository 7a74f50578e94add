/-
  What the exported functions on tables return (rows, latin, transposed, renamed): the program's and the reference's.
-/
import Derived.Test.YtkcobfkmeaakoaaI3c
import Derived.Test.YtkcobfkmeaakoaaI3d
import Derived.Test.YtkcobfkmeaakoaaI1d
namespace Go.Proofs.Ytkcobfkmeaakoaa
open Go.RowKit

theorem c_l01TableV (v : Value) (t : List (List Int)) (w : World) (hx : Rows w v t) : Calls Try.prog 112 #[v] w (RVal w (.bool (isTab t))) :=
  (c_l01Table v t w hx).mono fun _ _ ⟨h1, h2⟩ => ⟨h1, h2 ▸ Below.refl _ _⟩
theorem c_l01PermV (v : Value) (xs : List Int) (w : World) (hx : Ints w v xs) : Calls Try.prog 95 #[v] w (RVal w (.bool (isPerm xs))) :=
  (c_l01Perm v xs w hx).mono fun _ _ ⟨h1, h2⟩ => ⟨h1, h2 ▸ Below.refl _ _⟩

theorem eg_permutationRows1 : ∀ args w, (callFunc 168 args).run Try.prog w = .ok (.enter 168 args) w := Go.Proofs.enters_of Try.func168 (by kernel_rfl) rfl

set_option maxHeartbeats 400000 in
theorem c_permutationRows1 (u : Value) (r : List Int) (w : World) (hu : Ints w u r) (hn : r.length ≤ 1048576) :
    Calls Try.prog 168 #[u] w (RVal w (.bool (!decide (Permuted r)))) := by
  go_enter Try.func168, Try.ntmps168
  go_wp2_with fail
  refine (c_isPermuted _ _ _ hu (by omega)).mono ?_; rintro e w' ⟨rfl, hb⟩
  have HB := Lib.hid hb; clear hb
  go_wp2
  go_ret
  exact ⟨rfl, HB.out⟩

/-- For a table: 'is a permutation' is 'each index once'. -/
theorem permRows_tab {t : List (List Int)} (h : isTab t = true) : permRows t = !(t.any fun r => !decide (Permuted r)) := by
  obtain ⟨h1, h2⟩ := isTab_len h
  rw [Bool.eq_iff_iff]
  simp only [permRows, List.all_eq_true, Bool.not_eq_true', List.any_eq_false, Bool.not_eq_true, Bool.not_eq_false', decide_eq_true_eq]
  refine forall_congr' fun r => forall_congr' fun hr => ?_
  have hl : r.length = t.length := by
    obtain ⟨k, hk, rfl⟩ := List.getElem_of_mem hr
    have := isTab_row h (x := k) (by omega) (by omega)
    rwa [row_nat _ _ hk] at this
  have hin : inR r.length 1 12 = true := by simp [inR]; omega
  simp [isPerm, hin]

set_option maxHeartbeats 400000 in
theorem c_permutationRows (v : Value) (t : List (List Int)) (w : World) (hx : Rows w v t) (ht : isTab t = true) :
    Calls Try.prog 124 #[v] w (RVal w (.bool (permRows t))) := by
  have eg := eg_permutationRows1
  have hpay : Pays w 168 #[] t (fun r => !decide (Permuted r)) := fun W u r hb hu hr =>
    c_permutationRows1 u r W hu (by
      obtain ⟨k, hk, rfl⟩ := List.getElem_of_mem hr
      have := isTab_row ht (x := k) (by omega) (by omega)
      rw [row_nat _ _ hk] at this
      have := isTab_len ht
      omega)
  have HP := Lib.hid hpay; have HT := Lib.hid ht; clear hpay ht
  go_enter Try.func124, Try.ntmps124
  go_wp2_with fail
  refine (c_ContainsFunc _ _ _ _ _ _ hx eg HP.out).mono ?_; rintro e w' ⟨rfl, hb⟩
  have HB := Lib.hid hb; clear hb
  go_wp2
  go_ret
  exact ⟨ret_bool (permRows_tab HT.out).symm, HB.out⟩

def hprRes (t : List (List Int)) : Bool := if isTab t then permRows t else false
def tabCode (t : List (List Int)) : Int := if isTab t then 0 else 1
set_option maxHeartbeats 800000 in
theorem c_HasPermutationRows (v0 : Value) (t : List (List Int)) (w : World) (ht : Rows w v0 t) :
    Calls Try.prog 53 #[v0] w (RVal w (.tuple #[.bool (hprRes t), .int .i64 (tabCode t)])) := by
  obtain ⟨a0, c0, rfl, _, _⟩ := ht.shape
  by_cases hp0 : isTab t = true
  case neg =>
    have hq0 : isTab t = false := by simpa using hp0
    have HQ := Lib.hid hq0; clear hp0
    go_enter Try.func53, Try.ntmps53
    go_wp2_with fail
    refine (c_IsTable _ _ _ (ht.below (Below.refl _ _))).mono ?_; rintro e g0 ⟨rfl, hbg0⟩
    have hB0 := hbg0
    clear hbg0
    have HB := Lib.hid hB0
    clear hB0 ht
    go_wp2
    go_ret2
    exact ⟨by simp [hprRes, tabCode, HQ.out], HB.out⟩
  have HP0 := Lib.hid hp0
  go_enter Try.func53, Try.ntmps53
  go_wp2_with fail
  refine (c_IsTable _ _ _ (ht.below (Below.refl _ _))).mono ?_; rintro e g0 ⟨rfl, hbg0⟩
  have hB0 := hbg0
  clear hbg0
  go_wp2_with fail
  refine (c_permutationRows _ _ _ (ht.below hB0) HP0.out).mono ?_; rintro e wz ⟨rfl, hb⟩
  have HB := Lib.hid (bb hB0 hb)
  clear hb hB0 ht
  go_wp2
  go_ret2
  exact ⟨by simp [hprRes, tabCode, HP0.out], HB.out⟩

def transRes (t : List (List Int)) : List (List Int) := if isTab t then transL t else []
set_option maxHeartbeats 800000 in
theorem c_TransposeTable (v0 : Value) (t : List (List Int)) (w : World) (ht : Rows w v0 t) :
    Calls Try.prog 54 #[v0] w (RRowsC w (transRes t) (tabCode t)) := by
  obtain ⟨a0, c0, rfl, _, _⟩ := ht.shape
  by_cases hp0 : isTab t = true
  case neg =>
    have hq0 : isTab t = false := by simpa using hp0
    have HQ := Lib.hid hq0; clear hp0
    go_enter Try.func54, Try.ntmps54
    go_wp2_with fail
    refine (c_IsTable _ _ _ (ht.below (Below.refl _ _))).mono ?_; rintro e g0 ⟨rfl, hbg0⟩
    have hB0 := hbg0
    clear hbg0
    have HB := Lib.hid hB0
    clear hB0 ht
    go_wp2
    go_ret2
    exact ⟨.slice none 0 0, by simp [transRes, tabCode, HQ.out], by simpa [transRes, tabCode, HQ.out] using OwnRows.nil _ _, HB.out⟩
  have HP0 := Lib.hid hp0
  go_enter Try.func54, Try.ntmps54
  go_wp2_with fail
  refine (c_IsTable _ _ _ (ht.below (Below.refl _ _))).mono ?_; rintro e g0 ⟨rfl, hbg0⟩
  have hB0 := hbg0
  clear hbg0
  go_wp2_with fail
  refine (c_transposed _ _ _ (ht.below hB0) (isTab_sq HP0.out)).mono ?_; rintro e wz ⟨r, rfl, ho, hb⟩
  have HO := Lib.hid (ho.mono hB0.size)
  have HB := Lib.hid (bb hB0 hb)
  clear hb ho hB0 ht
  go_wp2
  go_ret2
  exact ⟨r, by simp [transRes, tabCode, HP0.out], by simpa [transRes, tabCode, HP0.out] using HO.out, HB.out⟩

theorem isTab_tabOf {n : Nat} {g : Int → Int → Int} (h1 : 1 ≤ n) (h2 : n ≤ 12) (h : ∀ x y : Nat, x < n → y < n → 0 ≤ g x y ∧ g x y < n) : isTab (tabOf n g) = true := by
  simp only [isTab, Bool.and_eq_true, Bool.not_eq_true', List.any_eq_false, tabOf_length]
  refine ⟨by simp [inR]; omega, fun r hr => ?_⟩
  obtain ⟨k, hk, rfl⟩ := List.getElem_of_mem hr
  have hk' : k < n := by simpa using hk
  rw [← row_nat _ _ hk, row_tabOf _ _ _ hk']
  simp only [rowBad, rowOf_length, ne_eq, not_true_eq_false, decide_false, Bool.false_or, Bool.not_eq_true, Bool.not_eq_false', List.all_eq_true]
  intro x hx
  obtain ⟨y, hy, rfl⟩ := List.getElem_of_mem hx
  have hy' : y < n := by simpa using hy
  have := h k y hk' hy'
  rw [← nth_nat _ _ hy, nth_rowOf _ _ _ hy']
  simp [inR]; omega
theorem isTab_transL {t : List (List Int)} (h : isTab t = true) : isTab (transL t) = true := by
  obtain ⟨h1, h2⟩ := isTab_len h
  exact isTab_tabOf h1 h2 fun x y hx hy => val2_lt h (by omega) (by omega) (by omega) (by omega)
theorem isTab_renL {t : List (List Int)} {p : List Int} (h : RenOk t p) : isTab (renL t p) = true := by
  obtain ⟨h1, h2⟩ := isTab_len h.1
  have hl := h.2.2
  refine isTab_tabOf h1 h2 fun x y hx hy => ?_
  have hu := invL_lt h.2.1 (y := x) (by omega) (by omega)
  have hv := invL_lt h.2.1 (y := y) (by omega) (by omega)
  have hw := val2_lt h.1 hu.1 (by omega) hv.1 (by omega)
  have := h.2.1.lt hw.1 (by omega)
  omega
def latRes (t : List (List Int)) : Bool := if isTab t then permRows t && permRows (transL t) else false


set_option maxHeartbeats 800000 in
theorem c_IsLatin (v0 : Value) (t : List (List Int)) (w : World) (ht : Rows w v0 t) :
    Calls Try.prog 52 #[v0] w (RVal w (.tuple #[.bool (latRes t), .int .i64 (tabCode t)])) := by
  obtain ⟨a0, c0, rfl, _, _⟩ := ht.shape
  by_cases hp : isTab t = true
  case neg =>
    have hq : isTab t = false := by simpa using hp
    have HQ := Lib.hid hq; clear hp
    go_enter Try.func52, Try.ntmps52
    go_wp2_with fail
    refine (c_IsTable _ _ _ ht).mono ?_; rintro e w1 ⟨rfl, hb1⟩
    have HB := Lib.hid hb1; clear hb1 ht
    go_wp2
    go_ret2
    exact ⟨by simp [latRes, tabCode, HQ.out], HB.out⟩
  have HP := Lib.hid hp
  have HT := Lib.hid (isTab_transL hp)
  by_cases hr : permRows t = true
  · have HR := Lib.hid hr
    go_enter Try.func52, Try.ntmps52
    go_wp2_with fail
    refine (c_IsTable _ _ _ ht).mono ?_; rintro e w1 ⟨rfl, hb1⟩
    go_wp2_with fail
    refine (c_permutationRows _ _ _ (ht.below hb1) HP.out).mono ?_; rintro e w2 ⟨rfl, hb2⟩
    go_wp2_with fail
    refine (c_transposed _ _ _ ((ht.below hb1).below hb2) (isTab_sq HP.out)).mono ?_; rintro e w3 ⟨r, rfl, ho, hb3⟩
    go_wp2_with fail
    refine (c_permutationRows _ _ _ ho.rows HT.out).mono ?_; rintro e w4 ⟨rfl, hb4⟩
    have HB := Lib.hid (bb (bb (bb hb1 hb2) hb3) hb4); clear hb1 hb2 hb3 hb4 ht ho
    go_wp2
    go_ret2
    exact ⟨by simp [latRes, tabCode, HP.out, HR.out], HB.out⟩
  · have hr' : permRows t = false := by simpa using hr
    have HR := Lib.hid hr'; clear hr
    go_enter Try.func52, Try.ntmps52
    go_wp2_with fail
    refine (c_IsTable _ _ _ ht).mono ?_; rintro e w1 ⟨rfl, hb1⟩
    go_wp2_with fail
    refine (c_permutationRows _ _ _ (ht.below hb1) HP.out).mono ?_; rintro e w2 ⟨rfl, hb2⟩
    have HB := Lib.hid (bb hb1 hb2); clear hb1 hb2 ht
    go_wp2
    go_ret2
    exact ⟨by simp [latRes, tabCode, HP.out, HR.out], HB.out⟩

def renOkB (t : List (List Int)) (p : List Int) : Bool := isTab t && isPerm p && decide (p.length = t.length)
theorem renOkB_ok {t : List (List Int)} {p : List Int} (h : renOkB t p = true) : RenOk t p := by
  simp [renOkB, isPerm] at h
  exact ⟨h.1.1, h.1.2.2, h.2⟩
def renRes (t : List (List Int)) (p : List Int) : List (List Int) := if renOkB t p then renL t p else []
def renCode (t : List (List Int)) (p : List Int) : Int := if renOkB t p then 0 else 1

set_option maxHeartbeats 1000000 in
theorem c_specRenameTable (v0 v1 : Value) (t : List (List Int)) (p : List Int) (w : World) (ht : Rows w v0 t) (hp : Ints w v1 p) :
    Calls Try.prog 46 #[v0, v1] w (RRowsC w (renRes t p) (renCode t p)) := by
  obtain ⟨a0, c0, rfl, _, _⟩ := ht.shape
  obtain ⟨a1, c1, rfl, _, _⟩ := hp.shape
  by_cases h1 : isTab t = true
  case neg =>
    have hq : isTab t = false := by simpa using h1
    have HQ := Lib.hid hq; clear h1
    go_enter Try.func46, Try.ntmps46
    go_wp2_with fail
    refine (c_l01TableV _ _ _ ht).mono ?_; rintro e w1 ⟨rfl, hb1⟩
    have HB := Lib.hid hb1; clear hb1 ht hp
    go_wp2
    go_ret2
    have hk : renOkB t p = false := by simp [renOkB, HQ.out]
    exact ⟨.slice none 0 0, by simp [renCode, hk], by simpa [renRes, hk] using OwnRows.nil _ _, HB.out⟩
  have H1 := Lib.hid h1
  by_cases h2 : isPerm p = true
  case neg =>
    have hq : isPerm p = false := by simpa using h2
    have HQ := Lib.hid hq; clear h2
    go_enter Try.func46, Try.ntmps46
    go_wp2_with fail
    refine (c_l01TableV _ _ _ ht).mono ?_; rintro e w1 ⟨rfl, hb1⟩
    go_wp2_with fail
    refine (c_l01PermV _ _ _ (hp.below hb1)).mono ?_; rintro e w2 ⟨rfl, hb2⟩
    have HB := Lib.hid (bb hb1 hb2); clear hb1 hb2 ht hp
    go_wp2
    go_ret2
    have hk : renOkB t p = false := by simp [renOkB, HQ.out]
    exact ⟨.slice none 0 0, by simp [renCode, hk], by simpa [renRes, hk] using OwnRows.nil _ _, HB.out⟩
  have H2 := Lib.hid h2
  by_cases h3 : p.length = t.length
  case neg =>
    have hb0 : ((p.length : Int) != (t.length : Int)) = true := by simp; omega
    have HQ := Lib.hid h3; clear h3
    go_enter Try.func46, Try.ntmps46
    go_wp2_with fail
    refine (c_l01TableV _ _ _ ht).mono ?_; rintro e w1 ⟨rfl, hb1⟩
    go_wp2_with fail
    refine (c_l01PermV _ _ _ (hp.below hb1)).mono ?_; rintro e w2 ⟨rfl, hb2⟩
    have HB := Lib.hid (bb hb1 hb2); clear hb1 hb2 ht hp
    go_wp2
    go_ret2
    have hk : renOkB t p = false := by simp [renOkB, HQ.out]
    exact ⟨.slice none 0 0, by simp [renCode, hk], by simpa [renRes, hk] using OwnRows.nil _ _, HB.out⟩
  have hb0 : ((p.length : Int) != (t.length : Int)) = false := by simp [h3]
  have hk : renOkB t p = true := by simp [renOkB, h1, h2, h3]
  have HK := Lib.hid hk; clear h3 hk
  go_enter Try.func46, Try.ntmps46
  go_wp2_with fail
  refine (c_l01TableV _ _ _ ht).mono ?_; rintro e w1 ⟨rfl, hb1⟩
  go_wp2_with fail
  refine (c_l01PermV _ _ _ (hp.below hb1)).mono ?_; rintro e w2 ⟨rfl, hb2⟩
  go_wp2_with fail
  refine (c_l01Rename _ _ _ _ _ ((ht.below hb1).below hb2) ((hp.below hb1).below hb2) (renOkB_ok HK.out)).mono ?_; rintro e w3 ⟨r, rfl, ho, hb3⟩
  have HB := Lib.hid (bb (bb hb1 hb2) hb3); have HO := Lib.hid (ho.mono (bb hb1 hb2).size); clear hb1 hb2 hb3 ht hp ho
  go_wp2
  go_ret2
  exact ⟨r, by simp [renCode, HK.out], by simpa [renRes, HK.out] using HO.out, HB.out⟩

set_option maxHeartbeats 1000000 in
theorem c_RenameTable (v0 v1 : Value) (t : List (List Int)) (p : List Int) (w : World) (ht : Rows w v0 t) (hp : Ints w v1 p) :
    Calls Try.prog 45 #[v0, v1] w (RRowsC w (renRes t p) (renCode t p)) := by
  obtain ⟨a0, c0, rfl, _, _⟩ := ht.shape
  obtain ⟨a1, c1, rfl, _, _⟩ := hp.shape
  by_cases h1 : isTab t = true
  case neg =>
    have hq : isTab t = false := by simpa using h1
    have HQ := Lib.hid hq; clear h1
    go_enter Try.func45, Try.ntmps45
    go_wp2_with fail
    refine (c_IsTable _ _ _ ht).mono ?_; rintro e w1 ⟨rfl, hb1⟩
    have HB := Lib.hid hb1; clear hb1 ht hp
    go_wp2
    go_ret2
    have hk : renOkB t p = false := by simp [renOkB, HQ.out]
    exact ⟨.slice none 0 0, by simp [renCode, hk], by simpa [renRes, hk] using OwnRows.nil _ _, HB.out⟩
  have H1 := Lib.hid h1
  by_cases h2 : isPerm p = true
  case neg =>
    have hq : isPerm p = false := by simpa using h2
    have HQ := Lib.hid hq; clear h2
    go_enter Try.func45, Try.ntmps45
    go_wp2_with fail
    refine (c_IsTable _ _ _ ht).mono ?_; rintro e w1 ⟨rfl, hb1⟩
    go_wp2_with fail
    refine (c_IsPermutation _ _ _ (hp.below hb1)).mono ?_; rintro e w2 ⟨rfl, hb2⟩
    have HB := Lib.hid (bb hb1 hb2); clear hb1 hb2 ht hp
    go_wp2
    go_ret2
    have hk : renOkB t p = false := by simp [renOkB, HQ.out]
    exact ⟨.slice none 0 0, by simp [renCode, hk], by simpa [renRes, hk] using OwnRows.nil _ _, HB.out⟩
  have H2 := Lib.hid h2
  by_cases h3 : p.length = t.length
  case neg =>
    have hb0 : ((p.length : Int) != (t.length : Int)) = true := by simp; omega
    have HQ := Lib.hid h3; clear h3
    go_enter Try.func45, Try.ntmps45
    go_wp2_with fail
    refine (c_IsTable _ _ _ ht).mono ?_; rintro e w1 ⟨rfl, hb1⟩
    go_wp2_with fail
    refine (c_IsPermutation _ _ _ (hp.below hb1)).mono ?_; rintro e w2 ⟨rfl, hb2⟩
    have HB := Lib.hid (bb hb1 hb2); clear hb1 hb2 ht hp
    go_wp2
    go_ret2
    have hk : renOkB t p = false := by simp [renOkB, HQ.out]
    exact ⟨.slice none 0 0, by simp [renCode, hk], by simpa [renRes, hk] using OwnRows.nil _ _, HB.out⟩
  have hb0 : ((p.length : Int) != (t.length : Int)) = false := by simp [h3]
  have hk : renOkB t p = true := by simp [renOkB, h1, h2, h3]
  have HK := Lib.hid hk; clear h3 hk
  go_enter Try.func45, Try.ntmps45
  go_wp2_with fail
  refine (c_IsTable _ _ _ ht).mono ?_; rintro e w1 ⟨rfl, hb1⟩
  go_wp2_with fail
  refine (c_IsPermutation _ _ _ (hp.below hb1)).mono ?_; rintro e w2 ⟨rfl, hb2⟩
  go_wp2_with fail
  refine (c_renamed _ _ _ _ _ ((ht.below hb1).below hb2) ((hp.below hb1).below hb2) (renOkB_ok HK.out)).mono ?_; rintro e w3 ⟨r, rfl, ho, hb3⟩
  have HB := Lib.hid (bb (bb hb1 hb2) hb3); have HO := Lib.hid (ho.mono (bb hb1 hb2).size); clear hb1 hb2 hb3 ht hp ho
  go_wp2
  go_ret2
  exact ⟨r, by simp [renCode, HK.out], by simpa [renRes, HK.out] using HO.out, HB.out⟩

theorem total_map_const {α : Type} (l : List α) (f : α → List Int) (n : Nat) (h : ∀ x ∈ l, (f x).length = n) : total (l.map f) = l.length * n := by
  induction l with
  | nil => simp [total]
  | cons a l ih =>
    have h1 := h a (by simp)
    have h2 := ih fun x hx => h x (by simp [hx])
    simp [total, h1, h2, Nat.add_mul]; omega
theorem total_tabOf (n : Nat) (g : Int → Int → Int) : total (tabOf n g) = n * n := by
  unfold tabOf
  rw [total_map_const _ _ n (by simp)]
  simp
theorem total_tab_le {n : Nat} (g : Int → Int → Int) (h : n ≤ 12) : total (tabOf n g) ≤ 1152921504606846976 := by
  rw [total_tabOf]
  have := Nat.mul_le_mul h h
  omega
theorem total_transRes (t : List (List Int)) : total (transRes t) ≤ 1152921504606846976 := by
  unfold transRes
  split
  · rename_i h; exact total_tab_le _ (isTab_len h).2
  · simp [total]
theorem total_renRes (t : List (List Int)) (p : List Int) : total (renRes t p) ≤ 1152921504606846976 := by
  unfold renRes
  split
  · rename_i h; exact total_tab_le _ (isTab_len (renOkB_ok h).1).2
  · simp [total]
end Go.Proofs.Ytkcobfkmeaakoaa
