/-
  The orbit of an element, the reference's function.
-/
import Derived.Test.YtgmhnjccgldddaaI15
import Derived.Test.YtgmhnjccgldddaaI11
import Derived.StillTailTactics
import Derived.BigQuiet
import Derived.Test.YtgmhnjccgldddaaA1
import Derived.Deep.RegionHeld3
namespace Go.Proofs.Ytgmhnjccgldddaa
set_option linter.unusedVariables false
set_option linter.unusedSimpArgs false
open Go.RowKit

/-- What holds of the list of reached elements: i of them are done, and k permutations at the next one. -/
structure OI (L : List (List Int)) (x : Int) (xs : List Int) (i k : Nat) : Prop where
  nd : xs.Nodup
  re : ∀ y ∈ xs, Reach L x y
  st : x ∈ xs
  done : ∀ j, j < i → ∀ p ∈ L, nth p (nth xs j) ∈ xs
  part : ∀ m, m < k → nth (row L m) (nth xs i) ∈ xs
theorem OI.start (L : List (List Int)) (x : Int) : OI L x [x] 0 0 :=
  ⟨by simp, by intro y hy; simp at hy; subst hy; exact .here, by simp, by intro j hj; omega, by intro m hm; omega⟩
theorem OI.old {L : List (List Int)} {x : Int} {xs : List Int} {i k : Nat} (h : OI L x xs i k) (hk : nth (row L k) (nth xs i) ∈ xs) : OI L x xs i (k + 1) :=
  ⟨h.nd, h.re, h.st, h.done, by
    intro m hm
    by_cases e : m = k
    · subst e; exact hk
    · exact h.part m (by omega)⟩
theorem OI.new {L : List (List Int)} {x : Int} {xs : List Int} {i k : Nat} (h : OI L x xs i k) (hi : i < xs.length) (hkl : k < L.length) (hk : ¬ nth (row L k) (nth xs i) ∈ xs) : OI L x (xs ++ [nth (row L k) (nth xs i)]) i (k + 1) := by
  have hn : ∀ j : Nat, j < xs.length → nth (xs ++ [nth (row L k) (nth xs i)]) j = nth xs j := fun j hj => nth_append_left _ _ _ (by omega) (by omega)
  refine ⟨?_, ?_, List.mem_append.2 (.inl h.st), ?_, ?_⟩
  · rw [List.nodup_append]
    refine ⟨h.nd, by simp, ?_⟩
    intro a ha b hb e
    simp at hb
    rw [e, hb] at ha
    exact hk ha
  · intro y hy
    rcases List.mem_append.1 hy with hy | hy
    · exact h.re y hy
    · simp at hy
      subst hy
      exact (h.re _ (nth_mem (by omega) (by omega))).step (row_mem (t := L) (x := k) (by omega) (by omega))
  · intro j hj p hp
    rw [hn j (by omega)]
    exact List.mem_append.2 (.inl (h.done j hj p hp))
  · intro m hm
    rw [hn i hi]
    by_cases e : m = k
    · subst e; exact List.mem_append.2 (.inr (by simp))
    · exact List.mem_append.2 (.inl (h.part m (by omega)))
theorem OI.next {L : List (List Int)} {x : Int} {xs : List Int} {i : Nat} (h : OI L x xs i L.length) : OI L x xs (i + 1) 0 :=
  ⟨h.nd, h.re, h.st, by
    intro j hj p hp
    by_cases e : j = i
    · subst e
      obtain ⟨m, hm, rfl⟩ := List.getElem_of_mem hp
      have := h.part m hm
      rwa [row_nat _ _ hm] at this
    · exact h.done j (by omega) p hp, by intro m hm; omega⟩
theorem OI.range {L : List (List Int)} {x : Int} {xs : List Int} {i k n : Nat} (h : OI L x xs i k) (hs : SysOk n L) (h0 : 0 ≤ x) (h1 : x < n) : ∀ y ∈ xs, 0 ≤ y ∧ y < n := fun y hy => (h.re y hy).range hs h0 h1
theorem OI.len {L : List (List Int)} {x : Int} {xs : List Int} {i k n : Nat} (h : OI L x xs i k) (hs : SysOk n L) (h0 : 0 ≤ x) (h1 : x < n) : xs.length ≤ n := by
  have : xs ⊆ iota n := fun y hy => (mem_iota _ _).2 (h.range hs h0 h1 y hy)
  have := List.Nodup.length_le_of_subset h.nd this
  simpa using this
theorem OI.all {L : List (List Int)} {x : Int} {xs : List Int} {i n : Nat} (h : OI L x xs i 0) (hi : xs.length ≤ i) (hs : SysOk n L) (h0 : 0 ≤ x) (h1 : x < n) (y : Int) : y ∈ xs ↔ Reach L x y := by
  refine ⟨h.re y, fun hr => ?_⟩
  refine reach_closed hs (S := (· ∈ xs)) hr h0 h1 h.st ?_
  intro z _ _ hz p hp
  obtain ⟨j, hj0, hj1, rfl⟩ := mem_nth hz
  obtain ⟨j', rfl⟩ : ∃ j' : Nat, j = j' := ⟨j.toNat, by omega⟩
  exact h.done j' (by omega) p hp

/-- The list of what is reached, each once. -/
def IsOrb (L : List (List Int)) (x : Int) (xs : List Int) : Prop := xs.Nodup ∧ ∀ y, y ∈ xs ↔ Reach L x y

end Go.Proofs.Ytgmhnjccgldddaa
