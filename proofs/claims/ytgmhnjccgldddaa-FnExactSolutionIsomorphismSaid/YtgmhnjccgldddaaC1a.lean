/-
  Insertion sort: what holds of the list while a number goes down to its place. No program here.
-/
import Derived.Test.YtgmhnjccgldddaaP8
namespace Go.Proofs.Ytgmhnjccgldddaa
set_option linter.unusedVariables false
set_option linter.unusedSimpArgs false
open Go Go.RowKit

theorem swap_permA : ∀ (l : List Int) (k : Nat) (h : k + 1 < l.length), ((l.set (k + 1) l[k]).set k l[k + 1]).Perm l
  | a :: c :: l, 0, _ => by simpa using List.Perm.swap a c l
  | a :: l, k + 1, h => by
    have := swap_permA l k (by simp at h; omega)
    simpa using this
  | [a], 0, h => by simp at h
/-- The first i numbers stand in order, but for the one at place j, which may be too small. -/
def InsP (i j : Nat) (S : List Int) : Prop := ∀ a b : Nat, a < b → b ≤ i → b ≠ j → nth S a ≤ nth S b
def SorP (i : Nat) (S : List Int) : Prop := ∀ a b : Nat, a < b → b < i → nth S a ≤ nth S b
theorem InsP.start {i : Nat} {S : List Int} (h : SorP i S) : InsP i i S := fun a b h1 h2 h3 => h a b h1 (by omega)
theorem InsP.done {i j : Nat} {S : List Int} (h : InsP i j S) (hj : 0 < j → nth S ((j : Int) - 1) ≤ nth S j) : SorP (i + 1) S := by
  intro a b h1 h2
  by_cases e : b = j
  · subst e
    have h3 := hj (by omega)
    by_cases e2 : a + 1 = b
    · have : ((b : Int) - 1) = a := by omega
      rw [this] at h3; exact h3
    · have h4 := h a (b - 1) (by omega) (by omega) (by omega)
      rw [show (((b - 1 : Nat)) : Int) = (b : Int) - 1 from by omega] at h4
      omega
  · exact h a b h1 (by omega) e
def swp (S : List Int) (j : Nat) : List Int := (S.set j (nth S ((j : Int) - 1))).set (j - 1) (nth S j)
theorem swp_nth {S : List Int} {j : Nat} (hj : 0 < j) (hl : j < S.length) (y : Nat) : nth (swp S j) y = if y + 1 = j then nth S j else if y = j then nth S ((j : Int) - 1) else nth S y := by
  unfold swp
  have h1 := nth_set (S.set j (nth S ((j : Int) - 1))) ((j : Int) - 1) y (nth S j) (by omega) (by rw [List.length_set]; omega) (by omega)
  rw [show ((j : Int) - 1).toNat = j - 1 from by omega] at h1
  rw [h1]
  have h2 := nth_set S (j : Int) y (nth S ((j : Int) - 1)) (by omega) (by omega) (by omega)
  rw [Int.toNat_natCast] at h2
  rw [h2]
  by_cases e : y + 1 = j
  · rw [if_pos (by omega), if_pos e]
  · rw [if_neg (by omega), if_neg e]
    by_cases e2 : y = j
    · rw [if_pos (by omega), if_pos e2]
    · rw [if_neg (by omega), if_neg e2]
theorem swp_perm {S : List Int} {j : Nat} (hj : 0 < j) (hl : j < S.length) : (swp S j).Perm S := by
  obtain ⟨k, rfl⟩ : ∃ k, j = k + 1 := ⟨j - 1, by omega⟩
  have := swap_permA S k hl
  unfold swp
  rw [show (((k + 1 : Nat) : Int) - 1) = (k : Int) from by omega, nth_nat _ _ (by omega), nth_nat _ _ hl]
  exact this
theorem InsP.step {i j : Nat} {S : List Int} (h : InsP i j S) (hj : 0 < j) (hl : j < S.length) (hi : j ≤ i) (hlt : nth S j < nth S ((j : Int) - 1)) : InsP i (j - 1) (swp S j) := by
  intro a b h1 h2 h3
  rw [swp_nth hj hl, swp_nth hj hl]
  have e0 : ((j : Int) - 1) = ((j - 1 : Nat) : Int) := by omega
  rw [e0] at hlt ⊢
  rw [if_neg (show ¬ (b + 1 = j) by omega)]
  by_cases e1 : b = j
  · rw [if_pos e1]
    by_cases e2 : a + 1 = j
    · rw [if_pos e2]; omega
    · rw [if_neg e2, if_neg (by omega)]
      exact h a (j - 1) (by omega) (by omega) (by omega)
  · rw [if_neg e1]
    by_cases e2 : a + 1 = j
    · rw [if_pos e2]
      exact h j b (by omega) h2 e1
    · rw [if_neg e2]
      by_cases e3 : a = j
      · rw [if_pos e3]
        exact h (j - 1) b (by omega) h2 e1
      · rw [if_neg e3]
        exact h a b h1 h2 e1
theorem SorP.pairwise {S : List Int} (h : SorP S.length S) : S.Pairwise (· ≤ ·) := by
  rw [List.pairwise_iff_getElem]
  intro a b ha hb hab
  have := h a b hab hb
  rwa [nth_nat _ _ ha, nth_nat _ _ hb] at this
end Go.Proofs.Ytgmhnjccgldddaa
