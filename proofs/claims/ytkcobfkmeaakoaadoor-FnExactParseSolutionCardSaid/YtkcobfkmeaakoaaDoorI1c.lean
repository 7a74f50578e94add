/-
  Doing one permutation after the other, and the inverse: the program's and the reference's functions (layer 1). Condition: the numbers are indices of the other list.
-/
import Derived.Test.YtkcobfkmeaakoaaDoorI1
import Derived.Test.YtkcobfkmeaakoaaDoorS1
import Derived.Test.YtkcobfkmeaakoaaDoorLawA
namespace Go.Proofs.YtkcobfkmeaakoaaDoor
set_option linter.unusedVariables false
set_option linter.unusedSimpArgs false
open Go.RowKit

/-- Writing the next entry of a list that is filled from the left. -/
theorem fill_set (ys : List Int) (k : Nat) (h : k < ys.length) (r : List Value) (hr : r.length = ys.length) (v : Int) (hv : v = nth ys k) :
    ((ys.take k).map (Value.int .i64) ++ r.drop k).set k (.int .i64 v) = (ys.take (k+1)).map (Value.int .i64) ++ r.drop (k+1) := by
  subst hv
  rw [nth_nat _ _ h]
  exact map_take_snoc ys k h r hr
theorem fill_cell {w : World} {b : Nat} {t : TypeId} {cs : List Value} (h : Blk w b t cs) {k : Nat} (hk : k < cs.length) : ∃ u, w.cell? ⟨b, k, none⟩ = some u := ⟨_, h.cell hk⟩
theorem fill_done (ys : List Int) (n : Nat) (h : n = ys.length) (z : Value) : (ys.take n).map (Value.int .i64) ++ (List.replicate n z).drop n = ys.map (Value.int .i64) := by
  subst h; simp



theorem back_map (p : List Int) (k : Nat) (x : Int) : ((backF p k).map (Value.int .i64)).set (nth p k).toNat (.int .i64 k) = (backF p (k+1)).map (Value.int .i64) := by
  simp [backF, List.map_set]


end Go.Proofs.YtkcobfkmeaakoaaDoor
