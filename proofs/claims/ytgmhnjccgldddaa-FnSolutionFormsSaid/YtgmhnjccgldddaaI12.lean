/-
  The first list at which a pair map does not satisfy the equation: the reference's function. Condition: a pair map.
-/
import Derived.Test.YtgmhnjccgldddaaI9
import Derived.Test.YtgmhnjccgldddaaS1c
import Derived.StillTailTactics
import Derived.Deep.RegionHeld3
namespace Go.Proofs.Ytgmhnjccgldddaa
set_option linter.unusedVariables false
set_option linter.unusedSimpArgs false
open Go.RowKit

/-- Doing the pair map at the places i and i + 1. -/
def doL (A B : List (List Int)) (L : List Int) (i : Nat) : List Int := (L.set i (val2 A (nth L i) (nth L ((i : Int) + 1)))).set (i + 1) (val2 B (nth L i) (nth L ((i : Int) + 1)))
def LOk (n : Nat) (L : List Int) : Prop := L.length = 3 ∧ ∀ x ∈ L, 0 ≤ x ∧ x < n
theorem doL_ok {A B : List (List Int)} {n : Nat} {L : List Int} {i : Nat} (h : LOk n L) (hA : ∀ x y : Int, 0 ≤ x → x < n → 0 ≤ y → y < n → 0 ≤ val2 A x y ∧ val2 A x y < n) (hB : ∀ x y : Int, 0 ≤ x → x < n → 0 ≤ y → y < n → 0 ≤ val2 B x y ∧ val2 B x y < n) (hi : i ≤ 1) : LOk n (doL A B L i) := by
  obtain ⟨hl, hr⟩ := h
  have h1 := hr _ (nth_mem (p := L) (x := i) (by omega) (by omega))
  have h2 := hr _ (nth_mem (p := L) (x := (i : Int) + 1) (by omega) (by omega))
  refine ⟨by simp [doL, hl], fun x hx => ?_⟩
  unfold doL at hx
  rcases List.mem_or_eq_of_mem_set hx with hx | rfl
  · rcases List.mem_or_eq_of_mem_set hx with hx | rfl
    · exact hr x hx
    · exact hA _ _ h1.1 h1.2 h2.1 h2.2
  · exact hB _ _ h1.1 h1.2 h2.1 h2.2



end Go.Proofs.Ytgmhnjccgldddaa
