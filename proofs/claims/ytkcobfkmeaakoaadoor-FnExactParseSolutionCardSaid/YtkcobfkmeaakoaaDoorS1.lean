/-
  What the reference's small functions on lists of integers return (layer 1). No condition but that indices fit.
-/
import Derived.Test.YtkcobfkmeaakoaaDoorBase
namespace Go.Proofs.YtkcobfkmeaakoaaDoor
set_option linter.unusedVariables false
set_option linter.unusedSimpArgs false
open Go.RowKit

/-- The first index of a number, or -1. -/
def idx (p : List Int) (x : Int) : Int := if x ∈ p then (p.idxOf x : Int) else -1
theorem idx_mem {p : List Int} {x : Int} (h : x ∈ p) : 0 ≤ idx p x ∧ idx p x < p.length := by
  unfold idx; rw [if_pos h]; have := List.idxOf_lt_length_of_mem h; omega
theorem idx_none {p : List Int} {x : Int} (h : ¬ x ∈ p) : idx p x = -1 := by unfold idx; rw [if_neg h]
theorem idx_first {p : List Int} {x : Int} {k : Nat} (hk : k < p.length) (h : nth p k = x) (hn : ¬ x ∈ p.take k) : idx p x = k := by
  have hm : x ∈ p := by rw [← h]; exact nth_mem (by omega) (by omega)
  unfold idx
  rw [if_pos hm]
  rw [nth_nat _ _ hk] at h
  subst h
  have e : p = p.take k ++ p.drop k := (List.take_append_drop k p).symm
  rw [show p.idxOf p[k] = (p.take k ++ p.drop k).idxOf p[k] from by rw [← e]]
  rw [List.idxOf_append, if_neg hn, List.drop_eq_getElem_cons hk, List.idxOf_cons]
  simp; omega

set_option maxHeartbeats 400000 in
theorem c_l01In (n lo hi : Int) (w : World) :
    Calls Tryd.prog 30 #[.int .i64 n, .int .i64 lo, .int .i64 hi] w fun e w' => e = .returned (.bool (inR n lo hi)) ∧ w = w' := by
  go_enter Tryd.func30, Tryd.ntmps30
  go_wp2
  all_goals (go_ret; exact ⟨by simp_all [inR]; try omega, rfl⟩)



end Go.Proofs.YtkcobfkmeaakoaaDoor
