/-
  Whether a list of lists is the table of a rack: the program's and the reference's functions.
-/
import Derived.Test.YtdhbleiioagmlaaI7
import Derived.Test.YtdhbleiioagmlaaLTables
namespace Go.Proofs.Ytdhbleiioagmlaa
open Go.RowKit

def isRk (T : List (List Int)) : Bool := isTab T && permRows T && decide (rkL T = [])
theorem isRk_tab {T : List (List Int)} (h : isRk T = true) : isTab T = true := by simp [isRk] at h; exact h.1.1
theorem isRk_perm {T : List (List Int)} (h : isRk T = true) : permRows T = true := by simp [isRk] at h; exact h.1.2
theorem eql_nil (W : World) (a : Option Addr) (n c : Nat) : (binOp .eql 49 (.slice a n c) (.slice none 0 0)).run Try.prog W = .ok (.bool a.isNone) W := Lib.run_eql_slice_nil W _ _ a n c 0 0 Try.underlying49

set_option maxRecDepth 100000 in
set_option maxHeartbeats 800000 in
theorem c_IsRack (v0 : Value) (T : List (List Int)) (w : World) (hT : Rows w v0 T)  :
    Calls Try.prog 68 #[.agg #[v0]] w (RVal w (.bool (isRk T))) := by
  have hnl := eql_nil
  by_cases hp0 : isTab T = true
  case neg =>
    have hq0 : isTab T = false := by simpa using hp0
    have HQ := Lib.hid hq0; clear hp0
    obtain ⟨a0, c0, rfl, _, _⟩ := hT.shape
    go_enter Try.func68, Try.ntmps68
    go_wp2_with fail
    obtain ⟨f0, hW0, hsz⟩ := boxes1 w [.slice a0 T.length c0] 45
    obtain ⟨W0, hW⟩ : ∃ W, (w.alloc (.cells #[.slice a0 T.length c0] 45)) = W := ⟨_, rfl⟩
    rw [hW] at f0 hW0 hsz ⊢
    clear hW hsz
    refine (c_IsTable _ _ _ (hT.below hW0)).mono ?_; rintro e g0 ⟨rfl, hbg0⟩
    have hB0 := bb hW0 hbg0
    replace f0 := f0.under hbg0
    have cA0 := one_cell f0
    clear hbg0
    have HB := Lib.hid hB0
    clear hB0 hW0
    go_wp2
    go_ret
    exact ⟨ret_bool (by simp [isRk, HQ.out]), HB.out⟩
  have HP0 := Lib.hid hp0
  by_cases hp1 : permRows T = true
  case neg =>
    have hq1 : permRows T = false := by simpa using hp1
    have HQ := Lib.hid hq1; clear hp1
    obtain ⟨a0, c0, rfl, _, _⟩ := hT.shape
    go_enter Try.func68, Try.ntmps68
    go_wp2_with fail
    obtain ⟨f0, hW0, hsz⟩ := boxes1 w [.slice a0 T.length c0] 45
    obtain ⟨W0, hW⟩ : ∃ W, (w.alloc (.cells #[.slice a0 T.length c0] 45)) = W := ⟨_, rfl⟩
    rw [hW] at f0 hW0 hsz ⊢
    clear hW hsz
    refine (c_IsTable _ _ _ (hT.below hW0)).mono ?_; rintro e g0 ⟨rfl, hbg0⟩
    have hB0 := bb hW0 hbg0
    replace f0 := f0.under hbg0
    have cA0 := one_cell f0
    clear hbg0
    go_wp2_with fail
    refine (c_permutationRows _ _ _ (hT.below hB0) HP0.out).mono ?_; rintro e g1 ⟨rfl, hbg1⟩
    have hB1 := bb hB0 hbg1
    replace f0 := f0.under hbg1
    clear cA0
    have cA0 := one_cell f0
    clear hbg1
    have HB := Lib.hid hB1
    clear hB0 hB1 hW0
    go_wp2
    go_ret
    exact ⟨ret_bool (by simp [isRk, HQ.out]), HB.out⟩
  have HP1 := Lib.hid hp1
  obtain ⟨a0, c0, rfl, _, _⟩ := hT.shape
  go_enter Try.func68, Try.ntmps68
  go_wp2_with fail
  obtain ⟨f0, hW0, hsz⟩ := boxes1 w [.slice a0 T.length c0] 45
  obtain ⟨W0, hW⟩ : ∃ W, (w.alloc (.cells #[.slice a0 T.length c0] 45)) = W := ⟨_, rfl⟩
  rw [hW] at f0 hW0 hsz ⊢
  clear hW hsz
  refine (c_IsTable _ _ _ (hT.below hW0)).mono ?_; rintro e g0 ⟨rfl, hbg0⟩
  have hB0 := bb hW0 hbg0
  replace f0 := f0.under hbg0
  have cA0 := one_cell f0
  clear hbg0
  go_wp2_with fail
  refine (c_permutationRows _ _ _ (hT.below hB0) HP0.out).mono ?_; rintro e g1 ⟨rfl, hbg1⟩
  have hB1 := bb hB0 hbg1
  replace f0 := f0.under hbg1
  clear cA0
  have cA0 := one_cell f0
  clear hbg1
  go_wp2_with fail
  refine (c_rackFault _ _ _ (hT.below hB1) HP0.out).mono ?_; rintro e w2 ⟨r, rfl, ho, hb, hn⟩
  have HO := Lib.hid ho; have HB := Lib.hid (bb hB1 hb); have HN := Lib.hid hn; clear ho hb hn
  by_cases hc : rkL T = []
  · obtain rfl := HN.out hc
    have HC := Lib.hid hc
    clear hc hB0 hB1 hW0 f0 hT
    go_wp2
    go_ret
    exact ⟨ret_bool (by simp [isRk, HP0.out, HP1.out, HC.out]), HB.out⟩
  · have HC := Lib.hid hc
    rcases HO.out.open with ⟨_, h0⟩ | ⟨g, cs, hv, _⟩
    · exact absurd h0 hc
    clear hc hB0 hB1 hW0 f0 hT
    subst hv
    go_wp2
    go_ret
    exact ⟨ret_bool (by simp [isRk, HC.out]), HB.out⟩

set_option maxRecDepth 100000 in
set_option maxHeartbeats 800000 in
theorem c_l03Is (v0 : Value) (T : List (List Int)) (w : World) (hT : Rows w v0 T)  :
    Calls Try.prog 67 #[.agg #[v0]] w (RVal w (.bool (isRk T))) := by
  by_cases hp0 : isTab T = true
  case neg =>
    have hq0 : isTab T = false := by simpa using hp0
    have HQ := Lib.hid hq0; clear hp0
    obtain ⟨a0, c0, rfl, _, _⟩ := hT.shape
    go_enter Try.func67, Try.ntmps67
    go_wp2_with fail
    obtain ⟨f0, hW0, hsz⟩ := boxes1 w [.slice a0 T.length c0] 45
    obtain ⟨W0, hW⟩ : ∃ W, (w.alloc (.cells #[.slice a0 T.length c0] 45)) = W := ⟨_, rfl⟩
    rw [hW] at f0 hW0 hsz ⊢
    clear hW hsz
    refine (c_l01TableV _ _ _ (hT.below hW0)).mono ?_; rintro e g0 ⟨rfl, hbg0⟩
    have hB0 := bb hW0 hbg0
    replace f0 := f0.under hbg0
    have cA0 := one_cell f0
    clear hbg0
    have HB := Lib.hid hB0
    clear hB0 hW0
    go_wp2
    go_ret
    exact ⟨ret_bool (by simp [isRk, HQ.out]), HB.out⟩
  have HP0 := Lib.hid hp0
  obtain ⟨a0, c0, rfl, _, _⟩ := hT.shape
  go_enter Try.func67, Try.ntmps67
  go_wp2_with fail
  obtain ⟨f0, hW0, hsz⟩ := boxes1 w [.slice a0 T.length c0] 45
  obtain ⟨W0, hW⟩ : ∃ W, (w.alloc (.cells #[.slice a0 T.length c0] 45)) = W := ⟨_, rfl⟩
  rw [hW] at f0 hW0 hsz ⊢
  clear hW hsz
  refine (c_l01TableV _ _ _ (hT.below hW0)).mono ?_; rintro e g0 ⟨rfl, hbg0⟩
  have hB0 := bb hW0 hbg0
  replace f0 := f0.under hbg0
  have cA0 := one_cell f0
  clear hbg0
  have HF := Lib.hid f0; have HB := Lib.hid hB0
  clear hB0 hW0 f0
  have hX := hT.below HB.out
  obtain ⟨_, hl12⟩ := isTab_len hp0
  go_wp2
  go_loop [3] (fun i => ∃ k : Nat, k ≤ T.length ∧ i = .int .i64 k ∧ Hid (∀ r ∈ T.take k, isPerm r = true)) (fun i => T.length - (intOf i).toNat)
  case atStart => exact ⟨0, Nat.zero_le _, rfl, Lib.hid (by simp)⟩
  case round =>
    obtain ⟨k, hk, rfl, HA⟩ := hrel
    by_cases hlt : k < T.length
    · obtain ⟨b, o, u, rfl, hcell, hu⟩ := hX.get k hlt
      by_cases hp : isPerm (row T k) = true
      · have HP := Lib.hid hp
        go_wp2_with fail
        refine (c_l01Perm _ _ _ hu).mono ?_; rintro e w' ⟨rfl, rfl⟩
        go_wp2
        go_round
        case rel =>
          refine ⟨k + 1, by omega, by go_num, Lib.hid ?_⟩
          rw [take_snoc_row _ _ hlt]
          intro r hr
          rcases List.mem_append.1 hr with h | h
          · exact HA.out r h
          · simp at h; subst h; exact HP.out
        case measure => simp [intOf]; omega
      · have hp' : isPerm (row T k) = false := by simpa using hp
        have HP := Lib.hid hp'; clear hp
        go_wp2_with fail
        refine (c_l01Perm _ _ _ hu).mono ?_; rintro e w' ⟨rfl, rfl⟩
        go_wp2
        go_ret
        refine ⟨ret_bool (Eq.symm ?_), HB.out⟩
        have : permRows T = false := List.all_eq_false.2 ⟨_, row_mem (t := T) (x := k) (by omega) (by omega), by rw [HP.out]; simp⟩
        simp [isRk, this]
    · have hpr : permRows T = true := by
        have h := HA.out
        rw [List.take_of_length_le (by omega)] at h
        exact List.all_eq_true.2 h
      have HR := Lib.hid hpr; clear hpr
      go_wp2_with fail
      refine (c_l03Fault _ _ _ hX HP0.out).mono ?_; rintro e w2 ⟨r, rfl, ho, hb, hn⟩
      obtain ⟨ra, rc, rfl, hrc⟩ := ho.shape
      have HB2 := Lib.hid (bb HB.out hb); clear ho hb hn
      by_cases hc : rkL T = []
      · have HC := Lib.hid hc; have hl : (((rkL T).length : Int) == 0) = true := by simp [hc]
        clear hc hX hT
        go_wp2
        go_ret
        exact ⟨ret_bool (by simp [isRk, HP0.out, HR.out, HC.out]), HB2.out⟩
      · have HC := Lib.hid hc; have hl : (((rkL T).length : Int) == 0) = false := by simp [hc]
        clear hc hX hT
        go_wp2
        go_ret
        exact ⟨ret_bool (by simp [isRk, HC.out]), HB2.out⟩
end Go.Proofs.Ytdhbleiioagmlaa
