/-
  Whether a pair map is a solution: the program's and the reference's functions.
-/
import Derived.Test.YtkghonhghbcdlaaI12
namespace Go.Proofs.Ytkghonhghbcdlaa
set_option linter.unusedVariables false
set_option linter.unusedSimpArgs false
open Go.RowKit

def isSol (A B : List (List Int)) : Bool := isPM A B && decide (collL A B = []) && decide (yF A B = [])
theorem isSol_pm {A B : List (List Int)} (h : isSol A B = true) : isPM A B = true := by simp [isSol] at h; exact h.1.1
theorem isSol_coll {A B : List (List Int)} (h : isSol A B = true) : collL A B = [] := by simp [isSol] at h; exact h.1.2
theorem isSol_yF {A B : List (List Int)} (h : isSol A B = true) : yF A B = [] := by simp [isSol] at h; exact h.2
theorem eql_nil' (W : World) (a : Option Addr) (n c : Nat) : (binOp .eql 27 (.slice a n c) (.slice none 0 0)).run Try.prog W = .ok (.bool a.isNone) W := Lib.run_eql_slice_nil W _ _ a n c 0 0 Try.underlying27

set_option maxRecDepth 100000 in
set_option maxHeartbeats 800000 in
theorem c_IsSolution (v0 u0 : Value) (A B : List (List Int)) (w : World) (hA : Sol w v0 u0 A B)  :
    Calls Try.prog 15 #[.agg #[v0, u0]] w (RVal w (.bool (isSol A B))) := by
  have hnl := eql_nil'
  by_cases hp0 : isPM A B = true
  case neg =>
    have hq0 : isPM A B = false := by simpa using hp0
    have HQ := Lib.hid hq0; clear hp0
    obtain ⟨a0, c0, rfl, _, _⟩ := hA.1.shape
    obtain ⟨a0s, c0s, rfl, _, _⟩ := hA.2.shape
    go_enter Try.func15, Try.ntmps15
    go_wp2_with fail
    obtain ⟨f0, hW0, hsz⟩ := boxes1 w [.slice a0 A.length c0, .slice a0s B.length c0s] 26
    obtain ⟨W0, hW⟩ : ∃ W, (w.alloc (.cells #[.slice a0 A.length c0, .slice a0s B.length c0s] 26)) = W := ⟨_, rfl⟩
    rw [hW] at f0 hW0 hsz ⊢
    clear hW hsz
    refine (c_IsPairMap _ _ _ _ _ (hA.below hW0)).mono ?_; rintro e g0 ⟨rfl, hbg0⟩
    have hB0 := bb hW0 hbg0
    replace f0 := f0.under hbg0
    obtain ⟨cA0, cB0, -, -⟩ := two_cells f0
    clear hbg0
    have HB := Lib.hid hB0
    clear hB0 hW0
    go_wp2
    go_ret
    exact ⟨ret_bool (by simp [isSol, HQ.out]), HB.out⟩
  have HP0 := Lib.hid hp0
  obtain ⟨a0, c0, rfl, _, _⟩ := hA.1.shape
  obtain ⟨a0s, c0s, rfl, _, _⟩ := hA.2.shape
  go_enter Try.func15, Try.ntmps15
  go_wp2_with fail
  obtain ⟨f0, hW0, hsz⟩ := boxes1 w [.slice a0 A.length c0, .slice a0s B.length c0s] 26
  obtain ⟨W0, hW⟩ : ∃ W, (w.alloc (.cells #[.slice a0 A.length c0, .slice a0s B.length c0s] 26)) = W := ⟨_, rfl⟩
  rw [hW] at f0 hW0 hsz ⊢
  clear hW hsz
  refine (c_IsPairMap _ _ _ _ _ (hA.below hW0)).mono ?_; rintro e g0 ⟨rfl, hbg0⟩
  have hB0 := bb hW0 hbg0
  replace f0 := f0.under hbg0
  obtain ⟨cA0, cB0, -, -⟩ := two_cells f0
  clear hbg0
  go_wp2_with fail
  refine (c_collisionOf _ _ _ _ _ (hA.below hB0) HP0.out).mono ?_; rintro e w2 ⟨r, rfl, ho, hb, hn⟩
  have HO := Lib.hid ho; have HB := Lib.hid (bb hB0 hb); have HN := Lib.hid hn; have HF := Lib.hid (f0.under hb); clear ho hb hn
  by_cases hc : collL A B = []
  · obtain rfl := HN.out hc
    have HC := Lib.hid hc
    have HA := Lib.hid (hA.below HB.out)
    clear hc hB0 hW0 f0 hA cA0 cB0
    obtain ⟨cA0, cB0, -, -⟩ := two_cells HF.out
    go_wp2_with fail
    refine (c_equationFault _ _ _ _ _ HA.out HP0.out).mono ?_; rintro e w3 ⟨r, rfl, ho, hb, hn⟩
    have HO2 := Lib.hid ho; have HB2 := Lib.hid (bb HB.out hb); have HN2 := Lib.hid hn; clear ho hb hn
    by_cases hy : yF A B = []
    · obtain rfl := HN2.out hy
      have HY := Lib.hid hy; clear hy
      go_wp2
      go_ret
      exact ⟨ret_bool (by simp [isSol, HP0.out, HC.out, HY.out]), HB2.out⟩
    · have HY := Lib.hid hy
      rcases HO2.out.open with ⟨_, h0⟩ | ⟨g, cs, hv, _⟩
      · exact absurd h0 hy
      clear hy
      subst hv
      go_wp2
      go_ret
      exact ⟨ret_bool (by simp [isSol, HY.out]), HB2.out⟩
  · have HC := Lib.hid hc
    rcases HO.out.open with ⟨_, h0⟩ | ⟨g, cs, hv, _⟩
    · exact absurd h0 hc
    clear hc hB0 hW0 f0 hA
    subst hv
    go_wp2
    go_ret
    exact ⟨ret_bool (by simp [isSol, HC.out]), HB.out⟩

set_option maxRecDepth 100000 in
set_option maxHeartbeats 800000 in
theorem c_l02Is (v0 u0 : Value) (A B : List (List Int)) (w : World) (hA : Sol w v0 u0 A B)  :
    Calls Try.prog 55 #[.agg #[v0, u0]] w (RVal w (.bool (isSol A B))) := by
  by_cases hp0 : isPM A B = true
  case neg =>
    have hq0 : isPM A B = false := by simpa using hp0
    have HQ := Lib.hid hq0; clear hp0
    obtain ⟨a0, c0, rfl, _, _⟩ := hA.1.shape
    obtain ⟨a0s, c0s, rfl, _, _⟩ := hA.2.shape
    go_enter Try.func55, Try.ntmps55
    go_wp2_with fail
    obtain ⟨f0, hW0, hsz⟩ := boxes1 w [.slice a0 A.length c0, .slice a0s B.length c0s] 26
    obtain ⟨W0, hW⟩ : ∃ W, (w.alloc (.cells #[.slice a0 A.length c0, .slice a0s B.length c0s] 26)) = W := ⟨_, rfl⟩
    rw [hW] at f0 hW0 hsz ⊢
    clear hW hsz
    refine (c_l02Map _ _ _ _ _ (hA.below hW0)).mono ?_; rintro e g0 ⟨rfl, hbg0⟩
    have hB0 := bb hW0 hbg0
    replace f0 := f0.under hbg0
    obtain ⟨cA0, cB0, -, -⟩ := two_cells f0
    clear hbg0
    have HB := Lib.hid hB0
    clear hB0 hW0
    go_wp2
    go_ret
    exact ⟨ret_bool (by simp [isSol, HQ.out]), HB.out⟩
  have HP0 := Lib.hid hp0
  obtain ⟨a0, c0, rfl, _, _⟩ := hA.1.shape
  obtain ⟨a0s, c0s, rfl, _, _⟩ := hA.2.shape
  go_enter Try.func55, Try.ntmps55
  go_wp2_with fail
  obtain ⟨f0, hW0, hsz⟩ := boxes1 w [.slice a0 A.length c0, .slice a0s B.length c0s] 26
  obtain ⟨W0, hW⟩ : ∃ W, (w.alloc (.cells #[.slice a0 A.length c0, .slice a0s B.length c0s] 26)) = W := ⟨_, rfl⟩
  rw [hW] at f0 hW0 hsz ⊢
  clear hW hsz
  refine (c_l02Map _ _ _ _ _ (hA.below hW0)).mono ?_; rintro e g0 ⟨rfl, hbg0⟩
  have hB0 := bb hW0 hbg0
  replace f0 := f0.under hbg0
  obtain ⟨cA0, cB0, -, -⟩ := two_cells f0
  clear hbg0
  go_wp2_with fail
  refine (c_l02Collision _ _ _ _ _ (hA.below hB0) HP0.out).mono ?_; rintro e w2 ⟨r, rfl, ho, hb⟩
  obtain ⟨ra, rc, rfl, _⟩ := ho.shape
  have HB := Lib.hid (bb hB0 hb); have HF := Lib.hid (f0.under hb); clear ho hb
  by_cases hc : collL A B = []
  · have HC := Lib.hid hc; have hl : (((collL A B).length : Int) == 0) = true := by simp [hc]
    have HA := Lib.hid (hA.below HB.out)
    clear hc hB0 hW0 f0 hA cA0 cB0
    obtain ⟨cA0, cB0, -, -⟩ := two_cells HF.out
    go_wp2_with fail
    refine (c_l02Fault _ _ _ _ _ HA.out HP0.out).mono ?_; rintro e w3 ⟨r, rfl, ho, hb⟩
    obtain ⟨rb, rd, rfl, _⟩ := ho.shape
    have HB2 := Lib.hid (bb HB.out hb); clear ho hb
    by_cases hy : yF A B = []
    · have HY := Lib.hid hy; have hl2 : (((yF A B).length : Int) == 0) = true := by simp [hy]
      clear hy
      go_wp2
      go_ret
      exact ⟨ret_bool (by simp [isSol, HP0.out, HC.out, HY.out]), HB2.out⟩
    · have HY := Lib.hid hy; have hl2 : (((yF A B).length : Int) == 0) = false := by simp [hy]
      clear hy
      go_wp2
      go_ret
      exact ⟨ret_bool (by simp [isSol, HY.out]), HB2.out⟩
  · have HC := Lib.hid hc; have hl : (((collL A B).length : Int) == 0) = false := by simp [hc]
    clear hc hB0 hW0 f0 hA
    go_wp2
    go_ret
    exact ⟨ret_bool (by simp [isSol, HC.out]), HB.out⟩
end Go.Proofs.Ytkghonhghbcdlaa
