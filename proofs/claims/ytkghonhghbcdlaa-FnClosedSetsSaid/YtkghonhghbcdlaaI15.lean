/-
  Systems of permutations: the program's and the reference's functions.
-/
import Derived.Test.YtkghonhghbcdlaaP6
import Derived.Test.YtkghonhghbcdlaaT1
import Derived.Test.YtkghonhghbcdlaaI1d
import Derived.Test.YtkghonhghbcdlaaI2
import Derived.Test.YtkghonhghbcdlaaS1
namespace Go.Proofs.Ytkghonhghbcdlaa
set_option linter.unusedVariables false
set_option linter.unusedSimpArgs false
open Go.RowKit

def sysR (n : Int) (p : List Int) : Bool := decide ((p.length : Int) = n) && isPerm p
def sysL (n : Int) (L : List (List Int)) : Bool := inR n 1 12 && (decide (L.length ≤ 16) && L.all (sysR n))
theorem sysL_n {n : Int} {L : List (List Int)} (h : sysL n L = true) : 1 ≤ n ∧ n ≤ 12 ∧ L.length ≤ 16 := by
  simp only [sysL, Bool.and_eq_true, inR, decide_eq_true_eq] at h; omega
theorem sysL_ok {n : Int} {L : List (List Int)} (h : sysL n L = true) : SysOk n.toNat L := by
  simp only [sysL, Bool.and_eq_true, List.all_eq_true, sysR, isPerm, decide_eq_true_eq] at h
  intro p hp
  have h2 := h.2.2 p hp
  exact ⟨h2.2.2, by omega⟩
theorem all_not_any (f : List Int → Bool) (L : List (List Int)) : L.all f = !(L.any fun r => !f r) := by
  induction L with
  | nil => rfl
  | cons a L ih => rw [List.all_cons, List.any_cons, ih]; cases f a <;> rfl

theorem eg_isSystem1 : ∀ args w, (callFunc 105 args).run Try.prog w = .ok (.enter 105 args) w := Go.Proofs.enters_of Try.func105 (by kernel_rfl) rfl

set_option maxHeartbeats 400000 in
theorem c_isSystem1 (b : Nat) (n : Int) (u : Value) (r : List Int) (w : World) (hbox : w.cell? ⟨b, 0, none⟩ = some (.int .i64 n)) (hu : Ints w u r) (hn1 : inR n 1 12 = true) :
    Calls Try.prog 105 #[u, .pointer (some ⟨b, 0, none⟩)] w (RVal w (.bool (!sysR n r))) := by
  obtain ⟨a, c, rfl, hc, hm⟩ := hu.shape
  by_cases e : (r.length : Int) = n
  · have e1 : ((r.length : Int) != n) = false := by simp [e]
    have hl : r.length ≤ 12 := by simp [inR] at hn1; omega
    have HE := Lib.hid e; clear e
    go_enter Try.func105, Try.ntmps105
    go_wp2_with fail
    refine (c_isPermuted _ _ _ hu (by omega)).mono ?_; rintro e w' ⟨rfl, hb⟩
    have HB := Lib.hid hb; clear hb
    go_wp2
    go_ret
    refine ⟨ret_bool ?_, HB.out⟩
    have := HE.out
    subst this
    simp [sysR, isPerm, hn1]
  · have e1 : ((r.length : Int) != n) = true := by simp [e]
    have HE := Lib.hid e; clear e
    go_enter Try.func105, Try.ntmps105
    go_wp2
    go_ret
    exact ⟨ret_bool (by simp [sysR, HE.out]), Below.refl _ _⟩

set_option maxHeartbeats 800000 in
theorem c_isSystem (n : Int) (v : Value) (L : List (List Int)) (w : World) (hx : Rows w v L) :
    Calls Try.prog 68 #[.int .i64 n, v] w (RVal w (.bool (sysL n L))) := by
  obtain ⟨a, c, rfl, hc, hm⟩ := hx.shape
  obtain ⟨f0, hW0, hsz⟩ := boxes1' w [.int .i64 n] 2
  have hx0 := hx.below hW0
  have eg := eg_isSystem1
  have HW := Lib.hid hW0
  by_cases p0 : inR n 1 12 = true
  · have P0 := Lib.hid p0
    have hpay : Pays (w.alloc (.cells #[.int .i64 n] 2)) 105 #[.pointer (some ⟨w.heap.size, 0, none⟩)] L (fun r => !sysR n r) := fun W u r hb hu _ =>
      c_isSystem1 w.heap.size n u r W ((f0.under hb).cell (i := 0) (by simp)) hu p0
    have HP := Lib.hid hpay
    have hf := f0.cell (i := 0) (by simp)
    simp only [List.getElem_cons_zero] at hf
    clear hpay hW0 hsz f0 p0
    by_cases p1 : L.length ≤ 16
    · have p1' : (L.length : Int) ≤ 16 := by omega
      have P1 := Lib.hid p1; clear p1
      go_enter Try.func68, Try.ntmps68
      go_wp2_with fail
      refine (c_within _ _ _ _).mono ?_; rintro e w' ⟨rfl, rfl⟩
      rw [P0.out]
      go_wp2_with fail
      refine (c_ContainsFunc _ _ _ _ _ _ hx0 eg HP.out).mono ?_; rintro e w' ⟨rfl, hb⟩
      have HB := Lib.hid (bb HW.out hb); clear hb
      go_wp2
      go_ret
      exact ⟨ret_bool (by simp only [sysL, P0.out, P1.out, decide_true, Bool.true_and, all_not_any]), HB.out⟩
    · have p1' : (16 : Int) < L.length := by omega
      have P1 := Lib.hid p1; clear p1
      go_enter Try.func68, Try.ntmps68
      go_wp2_with fail
      refine (c_within _ _ _ _).mono ?_; rintro e w' ⟨rfl, rfl⟩
      rw [P0.out]
      go_wp2
      go_ret
      exact ⟨ret_bool (by simp [sysL, P1.out]), HW.out⟩
  · have p0' : inR n 1 12 = false := by simpa using p0
    have P0 := Lib.hid p0'; clear p0 p0'
    have hf := f0.cell (i := 0) (by simp)
    simp only [List.getElem_cons_zero] at hf
    clear hW0 hsz f0
    go_enter Try.func68, Try.ntmps68
    go_wp2_with fail
    refine (c_within _ _ _ _).mono ?_; rintro e w' ⟨rfl, rfl⟩
    rw [P0.out]
    go_wp2
    go_ret
    exact ⟨ret_bool (by simp [sysL, P0.out]), HW.out⟩

set_option maxHeartbeats 800000 in
theorem c_l01System (n : Int) (v : Value) (L : List (List Int)) (w : World) (hx : Rows w v L) :
    Calls Try.prog 65 #[.int .i64 n, v] w fun e w' => e = .returned (.bool (sysL n L)) ∧ w = w' := by
  obtain ⟨a, c, rfl, hc, hm⟩ := hx.shape
  by_cases p0 : inR n 1 12 = true
  · have P0 := Lib.hid p0; clear p0
    by_cases p1 : L.length ≤ 16
    · have p1' : (L.length : Int) ≤ 16 := by omega
      have P1 := Lib.hid p1; clear p1
      go_enter Try.func65, Try.ntmps65
      go_wp2_with fail
      refine (c_l01In _ _ _ _).mono ?_; rintro e w' ⟨rfl, rfl⟩
      rw [P0.out]
      go_wp2
      go_loop [5] (fun i => ∃ k : Nat, k ≤ L.length ∧ i = .int .i64 k ∧ Hid (∀ r ∈ L.take k, sysR n r = true)) (fun i => L.length - (intOf i).toNat)
      case atStart => exact ⟨0, Nat.zero_le _, rfl, Lib.hid (by simp)⟩
      case round =>
        obtain ⟨k, hk, rfl, HA⟩ := hrel
        by_cases hlt : k < L.length
        · obtain ⟨b, o, u, rfl, hcell, hu⟩ := hx.get k hlt
          obtain ⟨a1, c1, rfl, hc1, hm1⟩ := hu.shape
          by_cases e : ((row L k).length : Int) = n
          · have e1 : (((row L k).length : Int) != n) = false := by simp [e]
            have HE := Lib.hid e; clear e
            go_wp2_with fail
            refine (c_l01Perm _ _ _ hu).mono ?_; rintro e w' ⟨rfl, rfl⟩
            by_cases q : isPerm (row L k) = true
            · have Q := Lib.hid q; rw [q]; clear q
              go_wp2
              go_round
              case rel =>
                refine ⟨k + 1, by omega, by go_num, Lib.hid ?_⟩
                rw [take_snoc_row _ _ hlt]
                intro r hr
                rcases List.mem_append.1 hr with h | h
                · exact HA.out r h
                · simp at h; subst h; simp [sysR, HE.out, Q.out]
              case measure => simp [intOf]; omega
            · have q' : isPerm (row L k) = false := by simpa using q
              have Q := Lib.hid q'; rw [q']; clear q q'
              go_wp2
              go_ret
              refine ⟨ret_bool ?_, rfl⟩
              simp only [sysL]
              rw [show (L.all (sysR n)) = false from List.all_eq_false.2 ⟨_, row_mem (t := L) (x := k) (by omega) (by omega), by simp [sysR, Q.out]⟩]
              simp
          · have e1 : (((row L k).length : Int) != n) = true := by simp [e]
            have HE := Lib.hid e; clear e
            go_wp2
            go_ret
            refine ⟨ret_bool ?_, rfl⟩
            simp only [sysL]
            rw [show (L.all (sysR n)) = false from List.all_eq_false.2 ⟨_, row_mem (t := L) (x := k) (by omega) (by omega), by simp [sysR, HE.out]⟩]
            simp
        · go_wp2
          go_ret
          refine ⟨ret_bool ?_, rfl⟩
          have h := HA.out
          rw [List.take_of_length_le (by omega)] at h
          simp only [sysL, P0.out, P1.out, decide_true, Bool.true_and]
          exact (List.all_eq_true.2 h).symm
    · have p1' : (16 : Int) < L.length := by omega
      have P1 := Lib.hid p1; clear p1
      go_enter Try.func65, Try.ntmps65
      go_wp2_with fail
      refine (c_l01In _ _ _ _).mono ?_; rintro e w' ⟨rfl, rfl⟩
      rw [P0.out]
      go_wp2
      go_ret
      exact ⟨ret_bool (by simp [sysL, P1.out]), rfl⟩
  · have p0' : inR n 1 12 = false := by simpa using p0
    have P0 := Lib.hid p0'; clear p0 p0'
    go_enter Try.func65, Try.ntmps65
    go_wp2_with fail
    refine (c_l01In _ _ _ _).mono ?_; rintro e w' ⟨rfl, rfl⟩
    rw [P0.out]
    go_wp2
    go_ret
    exact ⟨ret_bool (by simp [sysL, P0.out]), rfl⟩
end Go.Proofs.Ytkghonhghbcdlaa
