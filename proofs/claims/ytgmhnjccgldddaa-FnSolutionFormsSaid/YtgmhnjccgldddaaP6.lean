/-
  The elements to which permutations lead an element; the numbers of the orbits. No program here.
-/
import Derived.Test.YtgmhnjccgldddaaP3
import Derived.Test.YtgmhnjccgldddaaI3
namespace Go.Proofs.Ytgmhnjccgldddaa
set_option linter.unusedVariables false
set_option linter.unusedSimpArgs false

/-- The lists lead x to y. -/
inductive Reach (L : List (List Int)) (x : Int) : Int → Prop
  | here : Reach L x x
  | step {y : Int} {p : List Int} (h : Reach L x y) (hp : p ∈ L) : Reach L x (nth p y)
def SysOk (n : Nat) (L : List (List Int)) : Prop := ∀ p ∈ L, Permuted p ∧ p.length = n

theorem Reach.trans {L : List (List Int)} {x y z : Int} (h : Reach L x y) (k : Reach L y z) : Reach L x z := by
  induction k with
  | here => exact h
  | step _ hp ih => exact .step ih hp
theorem Reach.range {n : Nat} {L : List (List Int)} (hs : SysOk n L) {x y : Int} (h : Reach L x y) (h0 : 0 ≤ x) (h1 : x < n) : 0 ≤ y ∧ y < n := by
  induction h with
  | here => exact ⟨h0, h1⟩
  | step _ hp ih =>
    obtain ⟨hq, hl⟩ := hs _ hp
    have := hq.lt ih.1 (by rw [hl]; exact ih.2)
    rw [hl] at this; exact this
theorem Reach.iter {L : List (List Int)} {p : List Int} (hp : p ∈ L) (y : Int) : ∀ k, Reach L y (iter (nth p) k y)
  | 0 => .here
  | k + 1 => .step (Reach.iter hp y k) hp
theorem iter_succ (f : Int → Int) (k : Nat) (x : Int) : iter f (k + 1) x = f (iter f k x) := rfl
theorem iter_shift (f : Int → Int) : ∀ (k : Nat) (x : Int), iter f k (f x) = iter f (k + 1) x
  | 0, _ => rfl
  | k + 1, x => by
    show f (iter f k (f x)) = f (iter f (k + 1) x)
    rw [iter_shift f k x]
theorem Reach.back {n : Nat} {L : List (List Int)} (hs : SysOk n L) {y : Int} {p : List Int} (hp : p ∈ L) (h0 : 0 ≤ y) (h1 : y < n) : Reach L (nth p y) y := by
  obtain ⟨hq, hl⟩ := hs p hp
  obtain ⟨r, hr1, hr2, hr⟩ := comes_back hq h0 (by rw [hl]; exact h1)
  have := Reach.iter hp (nth p y) (r - 1)
  rw [iter_shift, show r - 1 + 1 = r from by omega, hr] at this
  exact this
theorem Reach.symm {n : Nat} {L : List (List Int)} (hs : SysOk n L) {x y : Int} (h : Reach L x y) (h0 : 0 ≤ x) (h1 : x < n) : Reach L y x := by
  induction h with
  | here => exact .here
  | step h hp ih =>
    have hr := h.range hs h0 h1
    exact (Reach.back hs hp hr.1 hr.2).trans ih
theorem reach_closed {n : Nat} {L : List (List Int)} (hs : SysOk n L) {x y : Int} {S : Int → Prop} (h : Reach L x y) (h0 : 0 ≤ x) (h1 : x < n) (hx : S x) (hc : ∀ y : Int, 0 ≤ y → y < n → S y → ∀ p ∈ L, S (nth p y)) : S y := by
  induction h with
  | here => exact hx
  | step h hp ih => have hr := h.range hs h0 h1; exact hc _ hr.1 hr.2 ih _ hp

open Classical in
/-- The labels, and the next number, when k starts have been looked at. -/
noncomputable def labs (L : List (List Int)) (n : Nat) : Nat → List Int × Int
  | 0 => (List.replicate n (-1), 0)
  | k + 1 => if 0 ≤ nth (labs L n k).1 k then labs L n k else (rowOf n (fun y => if Reach L k y then (labs L n k).2 else nth (labs L n k).1 y), (labs L n k).2 + 1)
noncomputable def orbL (L : List (List Int)) (n : Nat) : List Int := (labs L n n).1
theorem labs_length (L : List (List Int)) (n : Nat) : ∀ k, (labs L n k).1.length = n
  | 0 => by simp [labs]
  | k + 1 => by
    unfold labs
    split
    · exact labs_length L n k
    · simp
theorem labs_next (L : List (List Int)) (n : Nat) : ∀ k : Nat, 0 ≤ (labs L n k).2 ∧ (labs L n k).2 ≤ k
  | 0 => by simp [labs]
  | k + 1 => by
    have := labs_next L n k
    unfold labs
    split
    · omega
    · simp only; omega
theorem labs_range (L : List (List Int)) (n : Nat) : ∀ (k y : Nat), y < n → -1 ≤ nth (labs L n k).1 y ∧ nth (labs L n k).1 y < (labs L n k).2
  | 0, y, hy => by
    have : nth (List.replicate n (-1 : Int)) y = -1 := by rw [nth_nat _ _ (by simpa using hy)]; simp
    simp only [labs, this]; omega
  | k + 1, y, hy => by
    have h1 := labs_range L n k y hy
    have h2 := labs_next L n k
    unfold labs
    split
    · exact h1
    · simp only
      rw [nth_rowOf _ _ _ hy]
      split <;> omega
theorem labs_iff {L : List (List Int)} {n : Nat} (hs : SysOk n L) : ∀ (k y : Nat), k ≤ n → y < n → (0 ≤ nth (labs L n k).1 y ↔ ∃ j : Nat, j < k ∧ Reach L j y)
  | 0, y, _, hy => by
    have : nth (List.replicate n (-1 : Int)) y = -1 := by rw [nth_nat _ _ (by simpa using hy)]; simp
    simp [labs, this]
  | k + 1, y, hk, hy => by
    have ih := labs_iff hs k y (by omega) hy
    have hn := labs_next L n k
    unfold labs
    split
    · rename_i hl
      obtain ⟨i, hi, hr⟩ := (labs_iff hs k k (by omega) (by omega)).1 hl
      rw [ih]
      constructor
      · rintro ⟨j, hj, h⟩; exact ⟨j, by omega, h⟩
      · rintro ⟨j, hj, h⟩
        by_cases e : j = k
        · subst e; exact ⟨i, hi, hr.trans h⟩
        · exact ⟨j, by omega, h⟩
    · simp only
      rw [nth_rowOf _ _ _ hy]
      by_cases hr : Reach L k y
      · rw [if_pos hr]; exact ⟨fun _ => ⟨k, by omega, hr⟩, fun _ => hn.1⟩
      · rw [if_neg hr, ih]
        constructor
        · rintro ⟨j, hj, h⟩; exact ⟨j, by omega, h⟩
        · rintro ⟨j, hj, h⟩
          by_cases e : j = k
          · subst e; exact absurd h hr
          · exact ⟨j, by omega, h⟩
/-- What is reached from an element without a number has none. -/
theorem labs_fresh {L : List (List Int)} {n : Nat} (hs : SysOk n L) {k y : Nat} (hk : k < n) (hy : y < n) (h : nth (labs L n k).1 k < 0) (hr : Reach L k y) : nth (labs L n k).1 y = -1 := by
  have h1 := labs_range L n k y hy
  rcases Int.lt_or_le (nth (labs L n k).1 y) 0 with h2 | h2
  · omega
  · obtain ⟨j, hj, hjy⟩ := (labs_iff hs k y (by omega) hy).1 h2
    have hb := hr.symm hs (by omega) (by omega)
    have := (labs_iff hs k k (by omega) hk).2 ⟨j, hj, hjy.trans hb⟩
    omega
theorem labs_old {L : List (List Int)} {n k : Nat} (h : 0 ≤ nth (labs L n k).1 k) : labs L n (k + 1) = labs L n k := by
  conv => lhs; unfold labs
  rw [if_pos h]
open Classical in
theorem labs_new {L : List (List Int)} {n k : Nat} (h : nth (labs L n k).1 k < 0) {l : List Int} (hl : l.length = n) (hy : ∀ y : Nat, y < n → nth l y = if Reach L k y then (labs L n k).2 else nth (labs L n k).1 y) : labs L n (k + 1) = (l, (labs L n k).2 + 1) := by
  conv => lhs; unfold labs
  rw [if_neg (by omega)]
  congr 1
  apply ext_nth (by rw [rowOf_length, hl])
  intro y hlt
  have hlt' : y < n := by simpa using hlt
  rw [nth_rowOf _ _ _ hlt', hy y hlt']
end Go.Proofs.Ytgmhnjccgldddaa
