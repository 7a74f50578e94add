/-
  What the reference's small functions on lists of integers return (layer 1). No condition but that indices fit.
-/
import Derived.Test.YtgmhnjccgldddaaBase
namespace Go.Proofs.Ytgmhnjccgldddaa
set_option linter.unusedVariables false
set_option linter.unusedSimpArgs false
open Go.RowKit

/-- The first index of a number, or -1. -/
def idx (p : List Int) (x : Int) : Int := if x ∈ p then (p.idxOf x : Int) else -1
theorem idx_mem {p : List Int} {x : Int} (h : x ∈ p) : 0 ≤ idx p x ∧ idx p x < p.length := by
  unfold idx; rw [if_pos h]; have := List.idxOf_lt_length_of_mem h; omega
theorem idx_none {p : List Int} {x : Int} (h : ¬ x ∈ p) : idx p x = -1 := by unfold idx; rw [if_neg h]
theorem idx_first {p : List Int} {x : Int} {k : Nat} (hk : k < p.length) (h : nth p k = x) (hn : ¬ x ∈ p.take k) : idx p x = k := by
  have hm : x ∈ p := by rw [← h]; exact nth_mem (by omega) (by omega)
  unfold idx
  rw [if_pos hm]
  rw [nth_nat _ _ hk] at h
  subst h
  have e : p = p.take k ++ p.drop k := (List.take_append_drop k p).symm
  rw [show p.idxOf p[k] = (p.take k ++ p.drop k).idxOf p[k] from by rw [← e]]
  rw [List.idxOf_append, if_neg hn, List.drop_eq_getElem_cons hk, List.idxOf_cons]
  simp; omega

set_option maxHeartbeats 400000 in
theorem c_l01In (n lo hi : Int) (w : World) :
    Calls Try.prog 69 #[.int .i64 n, .int .i64 lo, .int .i64 hi] w fun e w' => e = .returned (.bool (inR n lo hi)) ∧ w = w' := by
  go_enter Try.func69, Try.ntmps69
  go_wp2
  all_goals (go_ret; exact ⟨by simp_all [inR]; try omega, rfl⟩)

set_option maxHeartbeats 400000 in
theorem c_l01Index (v : Value) (xs : List Int) (x : Int) (w : World) (hx : Ints w v xs) :
    Calls Try.prog 107 #[v, .int .i64 x] w fun e w' => e = .returned (.int .i64 (idx xs x)) ∧ w = w' := by
  obtain ⟨a, c, rfl, hc, hm⟩ := hx.shape
  go_enter Try.func107, Try.ntmps107
  go_wp2
  go_loop [5] (fun i => ∃ k : Nat, k ≤ xs.length ∧ i = .int .i64 k ∧ Hid (¬ x ∈ xs.take k)) (fun i => xs.length - (intOf i).toNat)
  case atStart => exact ⟨0, Nat.zero_le _, rfl, Lib.hid (by simp)⟩
  case round =>
    obtain ⟨k, hk, rfl, HA⟩ := hrel
    by_cases hlt : k < xs.length
    · obtain ⟨b, o, rfl, hcell⟩ := hx.get k hlt
      by_cases he : nth xs k = x
      · have he1 : (nth xs k == x) = true := by simp [he]
        have HE := Lib.hid he; clear he
        go_wp2
        go_ret
        exact ⟨ret_int (idx_first hlt HE.out HA.out).symm, rfl⟩
      · have he1 : (nth xs k == x) = false := by simp [he]
        have HE := Lib.hid he; clear he
        go_wp2
        go_round
        case rel =>
          refine ⟨k + 1, by omega, by go_num, Lib.hid ?_⟩
          rw [take_snoc _ _ hlt]
          intro hm
          rcases List.mem_append.1 hm with hm | hm
          · exact HA.out hm
          · simp at hm; exact HE.out hm.symm
        case measure => simp [intOf]; omega
    · go_wp2
      go_ret
      refine ⟨ret_int ?_, rfl⟩
      have := HA.out
      rw [List.take_of_length_le (by omega)] at this
      exact (idx_none this).symm

set_option maxHeartbeats 400000 in
theorem c_l01Has (v : Value) (xs : List Int) (x : Int) (w : World) (hx : Ints w v xs) :
    Calls Try.prog 96 #[v, .int .i64 x] w fun e w' => e = .returned (.bool (decide (x ∈ xs))) ∧ w = w' := by
  go_enter Try.func96, Try.ntmps96
  go_wp2_with fail
  refine (c_l01Index _ _ _ _ hx).mono ?_; rintro e w' ⟨rfl, rfl⟩
  by_cases h : x ∈ xs
  · have h1 := (idx_mem h).1
    have H := Lib.hid h; clear h
    go_wp2
    go_ret
    exact ⟨ret_bool (by have := H.out; simp [this, h1]), rfl⟩
  · have h1 := idx_none h
    have H := Lib.hid h; clear h
    go_wp2
    go_ret
    exact ⟨ret_bool (by have := H.out; simp [this]), rfl⟩

end Go.Proofs.Ytgmhnjccgldddaa
