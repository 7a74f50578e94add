/-
  The first collision of a pair map: the program's and the reference's functions. Condition: a pair map.
-/
import Derived.Test.YtgmhnjccgldddaaT1
import Derived.Deep.RegionHeld3
namespace Go.Proofs.Ytgmhnjccgldddaa
set_option linter.unusedVariables false
set_option linter.unusedSimpArgs false
open Go.RowKit

def colP (A B : List (List Int)) (n a b : Nat) : Bool :=
  decide (a ≠ b) && (decide (val2 A (a / n : Nat) (a % n : Nat) = val2 A (b / n : Nat) (b % n : Nat)) && decide (val2 B (a / n : Nat) (a % n : Nat) = val2 B (b / n : Nat) (b % n : Nat)))
def quad (n : Nat) : Option (Nat × Nat) → List Int
  | none => []
  | some (a, b) => [((a / n : Nat) : Int), ((a % n : Nat) : Int), ((b / n : Nat) : Int), ((b % n : Nat) : Int)]
def collL (A B : List (List Int)) : List Int := quad A.length (find2 (A.length * A.length) (A.length * A.length) (colP A B A.length))
theorem quad_none {n : Nat} {x : Option (Nat × Nat)} (h : x = none) : quad n x = [] := by rw [h]; rfl
theorem collL_length (A B : List (List Int)) : (collL A B).length ≤ 4 := by
  unfold collL quad; split <;> simp

/-- A new list, nil if it is empty. -/
def RIntsN (w0 : World) (xs : List Int) (e : Ending) (w' : World) : Prop := ∃ r, e = .returned r ∧ Own w0.heap.size w' r xs ∧ Below w0.heap.size w0 w' ∧ (xs = [] → r = .slice none 0 0)

theorem div_lt_sq {a n : Nat} (h : a < n * n) : a / n < n := Nat.div_lt_of_lt_mul h
theorem divI {k n : Nat} (h : k < n * n) (hn : 1 ≤ n) : 0 ≤ (k : Int) / (n : Int) ∧ (k : Int) / (n : Int) < n ∧ 0 ≤ (k : Int) % (n : Int) ∧ (k : Int) % (n : Int) < n := by
  have h1 := div_lt_sq h
  have h2 := Nat.mod_lt k (show 0 < n by omega)
  have e1 : (k : Int) / (n : Int) = ((k / n : Nat) : Int) := (Int.natCast_ediv k n).symm
  have e2 : (k : Int) % (n : Int) = ((k % n : Nat) : Int) := (Int.natCast_emod k n).symm
  rw [e1, e2]; exact ⟨Int.natCast_nonneg _, Int.ofNat_lt.2 h1, Int.natCast_nonneg _, Int.ofNat_lt.2 h2⟩
theorem colP_eq {A B : List (List Int)} {n a b : Nat} {x y u v : Int} (h1 : x = (a : Int) / (n : Int)) (h2 : y = (a : Int) % (n : Int)) (h3 : u = (b : Int) / (n : Int)) (h4 : v = (b : Int) % (n : Int)) :
    colP A B n a b = (decide (a ≠ b) && (decide (val2 A x y = val2 A u v) && decide (val2 B x y = val2 B u v))) := by
  subst h1 h2 h3 h4
  unfold colP
  rw [Int.natCast_ediv, Int.natCast_emod, Int.natCast_ediv, Int.natCast_emod]
theorem quad_eq {n a b : Nat} {x y u v : Int} (h1 : x = (a : Int) / (n : Int)) (h2 : y = (a : Int) % (n : Int)) (h3 : u = (b : Int) / (n : Int)) (h4 : v = (b : Int) % (n : Int)) : quad n (some (a, b)) = [x, y, u, v] := by
  subst h1 h2 h3 h4
  unfold quad
  simp only [Int.natCast_ediv, Int.natCast_emod]
theorem nz_of {n : Nat} (h : 1 ≤ n) : ((n : Int) == 0) = false := by simp; omega


end Go.Proofs.Ytgmhnjccgldddaa
