/-
  Whether a list of lists is a table: the program's and the reference's functions.
-/
import Derived.Test.YtgmhnjccgldddaaI1d
import Derived.Test.YtgmhnjccgldddaaS1
namespace Go.Proofs.Ytgmhnjccgldddaa
set_option linter.unusedVariables false
set_option linter.unusedSimpArgs false
open Go.RowKit

/-- A row that spoils a table of n elements. -/
def rowBad (n : Nat) (r : List Int) : Bool := decide (r.length ≠ n) || !(r.all fun x => inR x 0 ((n : Int) - 1))
def isTab (t : List (List Int)) : Bool := inR t.length 1 12 && !(t.any (rowBad t.length))

theorem eg_IsTable1 : ∀ args w, (callFunc 74 args).run Try.prog w = .ok (.enter 74 args) w := Go.Proofs.enters_of Try.func74 (by kernel_rfl) rfl

set_option maxHeartbeats 400000 in
theorem c_IsTable1 (b n : Nat) (u : Value) (r : List Int) (w : World) (hbox : w.cell? ⟨b, 0, none⟩ = some (.int .i64 n)) (hu : Ints w u r) (hn : n ≤ 12) :
    Calls Try.prog 74 #[u, .pointer (some ⟨b, 0, none⟩)] w (RVal w (.bool (rowBad n r))) := by
  obtain ⟨a, c, rfl, hc, hm⟩ := hu.shape
  by_cases hl : r.length = n
  · have h1 : ((r.length : Int) != (n : Int)) = false := by simp [hl]
    have HL := Lib.hid hl; clear hl
    go_enter Try.func74, Try.ntmps74
    go_wp2_with fail
    refine (c_allWithin _ _ _ _ _ hu).mono ?_; rintro e w' ⟨rfl, rfl⟩
    go_wp2
    go_ret
    exact ⟨ret_bool (by simp [rowBad, HL.out]), Below.refl _ _⟩
  · have h1 : ((r.length : Int) != (n : Int)) = true := by simp; omega
    have HL := Lib.hid hl; clear hl
    go_enter Try.func74, Try.ntmps74
    go_wp2
    go_ret
    exact ⟨ret_bool (by simp [rowBad, HL.out]), Below.refl _ _⟩

set_option maxHeartbeats 400000 in
theorem c_IsTable (v : Value) (t : List (List Int)) (w : World) (hx : Rows w v t) :
    Calls Try.prog 52 #[v] w (RVal w (.bool (isTab t))) := by
  obtain ⟨a, c, rfl, hc, hm⟩ := hx.shape
  obtain ⟨f0, hW0, hsz⟩ := boxes1' w [.int .i64 t.length] 2
  have hx0 := hx.below hW0
  have eg := eg_IsTable1
  by_cases hin : inR t.length 1 12 = true
  · have hn : t.length ≤ 12 := by simp [inR] at hin; omega
    have HI := Lib.hid hin
    have hpay : Pays (w.alloc (.cells #[.int .i64 t.length] 2)) 74 #[.pointer (some ⟨w.heap.size, 0, none⟩)] t (rowBad t.length) := fun W u r hb hu _ =>
      c_IsTable1 w.heap.size t.length u r W ((f0.under hb).cell (i := 0) (by simp)) hu hn
    have HP := Lib.hid hpay; have HW := Lib.hid hW0
    have hf := f0.cell (i := 0) (by simp)
    simp only [List.getElem_cons_zero] at hf
    clear hpay hW0 hsz f0
    go_enter Try.func52, Try.ntmps52
    go_wp2_with fail
    refine (c_within _ _ _ _).mono ?_; rintro e w' ⟨rfl, rfl⟩
    go_wp2_with fail
    refine (c_ContainsFunc _ _ _ _ _ _ hx0 eg HP.out).mono ?_; rintro e w' ⟨rfl, hb⟩
    have HB := Lib.hid (bb HW.out hb); clear hb
    go_wp2
    go_ret
    exact ⟨ret_bool (by simp [isTab, HI.out]), HB.out⟩
  · have hin' : inR t.length 1 12 = false := by simpa using hin
    have HI := Lib.hid hin'; clear hin
    have HW := Lib.hid hW0
    have hf := f0.cell (i := 0) (by simp)
    simp only [List.getElem_cons_zero] at hf
    clear hW0 hsz f0
    go_enter Try.func52, Try.ntmps52
    go_wp2_with fail
    refine (c_within _ _ _ _).mono ?_; rintro e w' ⟨rfl, rfl⟩
    go_wp2
    go_ret
    exact ⟨ret_bool (by simp [isTab, HI.out]), HW.out⟩

set_option maxHeartbeats 800000 in
theorem c_l01Table (v : Value) (t : List (List Int)) (w : World) (hx : Rows w v t) :
    Calls Try.prog 49 #[v] w fun e w' => e = .returned (.bool (isTab t)) ∧ w = w' := by
  obtain ⟨a, c, rfl, hc, hm⟩ := hx.shape
  by_cases hin : inR t.length 1 12 = true
  · have hn : t.length ≤ 12 := by simp [inR] at hin; omega
    go_enter Try.func49, Try.ntmps49
    go_wp2_with fail
    refine (c_l01In _ _ _ _).mono ?_; rintro e w' ⟨rfl, rfl⟩
    have HI := Lib.hid hin
    go_wp2_with fail
    go_loop [4, 5] (fun i _ => ∃ k : Nat, k ≤ t.length ∧ i = .int .i64 k ∧ Hid (∀ r ∈ t.take k, rowBad t.length r = false)) (fun i _ => t.length - (intOf i).toNat)
    case atStart => exact ⟨0, Nat.zero_le _, rfl, Lib.hid (by simp)⟩
    case round =>
      obtain ⟨k, hk, rfl, HA⟩ := hrel
      by_cases hlt : k < t.length
      · obtain ⟨b, o, ra, rc, rfl, hcell, hu⟩ := hx.getS k hlt
        by_cases hl : (row t k).length = t.length
        · have h1 : (((row t k).length : Int) != (t.length : Int)) = false := by simp [hl]
          have HL := Lib.hid hl; clear hl
          go_wp2_with fail
          go_loop [5] (fun j => ∃ y : Nat, y ≤ t.length ∧ j = .int .i64 y ∧ Hid (((row t k).take y).all (fun x => inR x 0 ((t.length : Int) - 1)) = true)) (fun j => t.length - (intOf j).toNat)
          case atStart => exact ⟨0, Nat.zero_le _, rfl, Lib.hid (by simp)⟩
          case round =>
            obtain ⟨y, hy, rfl, HY⟩ := hrel
            by_cases hlty : y < t.length
            · have hly : y < (row t k).length := by rw [HL.out]; exact hlty
              obtain ⟨b2, o2, rfl, hcell2⟩ := hu.get y hly
              by_cases hok : inR (nth (row t k) y) 0 ((t.length : Int) - 1) = true
              · have HO := Lib.hid hok
                go_wp2_with fail
                refine (c_l01In _ _ _ _).mono ?_; rintro e w' ⟨rfl, rfl⟩
                go_wp2
                go_round
                case rel => exact ⟨y + 1, by omega, by go_num, Lib.hid (by rw [take_snoc _ _ hly, List.all_append, HY.out]; simp [HO.out])⟩
                case measure => simp [intOf]; omega
              · have hok' : inR (nth (row t k) y) 0 ((t.length : Int) - 1) = false := by simpa using hok
                have HO := Lib.hid hok'; clear hok
                go_wp2_with fail
                refine (c_l01In _ _ _ _).mono ?_; rintro e w' ⟨rfl, rfl⟩
                go_wp2
                go_ret
                refine ⟨ret_bool (Eq.symm ?_), rfl⟩
                have hbad : rowBad t.length (row t k) = true := by
                  simp only [rowBad, Bool.or_eq_true, Bool.not_eq_true']
                  exact .inr (List.all_eq_false.2 ⟨_, nth_mem (p := row t k) (x := y) (by omega) (by omega), by rw [HO.out]; simp⟩)
                simp only [isTab, Bool.and_eq_false_iff, Bool.not_eq_false']
                exact .inr (List.any_eq_true.2 ⟨_, row_mem (t := t) (x := k) (by omega) (by omega), hbad⟩)
            · go_wp2
              go_round
              case rel =>
                refine ⟨k + 1, by omega, by go_num, Lib.hid ?_⟩
                rw [take_snoc_row _ _ hlt]
                intro r hr
                rcases List.mem_append.1 hr with h | h
                · exact HA.out r h
                · simp at h; subst h
                  have hall := HY.out
                  rw [List.take_of_length_le (by rw [HL.out]; omega)] at hall
                  simp only [rowBad, HL.out, hall, ne_eq, not_true_eq_false, decide_false, Bool.not_true, Bool.or_self]
              case measure => simp [intOf]; omega
        · have h1 : (((row t k).length : Int) != (t.length : Int)) = true := by simp; omega
          have HL := Lib.hid hl; clear hl
          go_wp2
          go_ret
          refine ⟨ret_bool (Eq.symm ?_), rfl⟩
          have hbad : rowBad t.length (row t k) = true := by simp [rowBad, HL.out]
          simp only [isTab, Bool.and_eq_false_iff, Bool.not_eq_false']
          exact .inr (List.any_eq_true.2 ⟨_, row_mem (t := t) (x := k) (by omega) (by omega), hbad⟩)
      · go_wp2
        go_ret
        refine ⟨ret_bool (Eq.symm ?_), rfl⟩
        have h := HA.out
        rw [List.take_of_length_le (by omega)] at h
        simp only [isTab, HI.out, Bool.true_and, Bool.not_eq_true']
        exact List.any_eq_false.2 fun r hr => by simp [h r hr]
  · have hin' : inR t.length 1 12 = false := by simpa using hin
    clear hin
    go_enter Try.func49, Try.ntmps49
    go_wp2_with fail
    refine (c_l01In _ _ _ _).mono ?_; rintro e w' ⟨rfl, rfl⟩
    have HI := Lib.hid hin'
    go_wp2
    go_ret
    exact ⟨ret_bool (by simp [isTab, HI.out]), rfl⟩
end Go.Proofs.Ytgmhnjccgldddaa
