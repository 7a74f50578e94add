/-
  The inverse of a pair map, written pair by pair: the tables after k pairs, and the step. No program here.
-/
import Derived.Test.YtkcobfkmeaakoaaI20
import Derived.Test.YtkcobfkmeaakoaaI3d
namespace Go.Proofs.Ytkcobfkmeaakoaa

/-- A table of n rows with one entry changed. -/
theorem tabOf_put (n : Nat) (g : Int → Int → Int) (u v z : Int) (hu0 : 0 ≤ u) (hu : u < n) (hv0 : 0 ≤ v) (hv : v < n) :
    (tabOf n g).set u.toNat ((row (tabOf n g) u).set v.toNat z) = tabOf n fun a b => if a = u ∧ b = v then z else g a b := by
  apply ext_row (by simp)
  intro a ha
  simp at ha
  have hR := row_tabOf n (fun a b => if a = u ∧ b = v then z else g a b) a ha
  rw [row_set _ _ _ _ hu0 (by simpa using hu) (by omega), hR]
  by_cases e : (a : Int) = u
  · rw [if_pos e, row_tabOfi _ _ _ hu0 hu]
    apply ext_nth (by simp)
    intro b hb
    simp at hb
    have hQ := nth_rowOf n (fun b => if (a : Int) = u ∧ b = v then z else g a b) b hb
    rw [nth_set _ _ _ _ hv0 (by simpa using hv) (by omega), nth_rowOf _ _ _ hb]
    refine Eq.trans ?_ hQ.symm
    show _ = if (a : Int) = u ∧ (b : Int) = v then z else g a b
    by_cases e2 : (b : Int) = v
    · rw [if_pos e2, if_pos ⟨e, e2⟩]
    · rw [if_neg e2, if_neg (fun h => e2 h.2), e]
  · rw [if_neg e, row_tabOf _ _ _ ha]
    exact rowOf_congr fun b _ => by rw [if_neg (fun h => e h.1)]

/-- The entry (u, v) after k pairs: what z says of the pair that leads there, where that pair is among the first k. -/
def ivG (A B : List (List Int)) (n : Nat) (z : Int → Int) (ini : Int → Int → Int) (k : Nat) (u v : Int) : Int :=
  if nth (invL (pmL A B n)) (u * n + v) < k then z (nth (invL (pmL A B n)) (u * n + v)) else ini u v
def ivT (A B : List (List Int)) (n : Nat) (z : Int → Int) (ini : Int → Int → Int) (k : Nat) : List (List Int) := tabOf n (ivG A B n z ini k)
@[simp] theorem ivT_length (A B : List (List Int)) (n : Nat) (z : Int → Int) (ini : Int → Int → Int) (k : Nat) : (ivT A B n z ini k).length = n := by simp [ivT]
/-- The inverse's two tables. -/
def ivA (A B : List (List Int)) (n : Nat) : List (List Int) := tabOf n fun u v => nth (invL (pmL A B n)) (u * n + v) / n
def ivB (A B : List (List Int)) (n : Nat) : List (List Int) := tabOf n fun u v => nth (invL (pmL A B n)) (u * n + v) % n

/-- Where a pair's code leads back to. -/
theorem iv_range {A B : List (List Int)} {n : Nat} (hP : Permuted (pmL A B n)) {u v : Int} (hu0 : 0 ≤ u) (hu : u < n) (hv0 : 0 ≤ v) (hv : v < n) :
    0 ≤ nth (invL (pmL A B n)) (u * n + v) ∧ nth (invL (pmL A B n)) (u * n + v) < ((n * n : Nat) : Int) ∧ nth (pmL A B n) (nth (invL (pmL A B n)) (u * n + v)) = u * n + v := by
  obtain ⟨h0, h1⟩ := code_lt hu0 hu hv0 hv
  obtain ⟨x, x0, x1, e⟩ := ex_pre hP (y := u * n + v) h0 (by simpa using h1)
  rw [← e, nth_invL hP x0 x1]
  exact ⟨x0, by simpa using x1, rfl⟩
theorem ivT_zero {A B : List (List Int)} {n : Nat} (hP : Permuted (pmL A B n)) (z : Int → Int) (ini : Int → Int → Int) : ivT A B n z ini 0 = tabOf n ini := by
  refine tabOf_congr fun u v hu hv => ?_
  obtain ⟨h0, _, _⟩ := iv_range hP (u := u) (v := v) (by omega) (by omega) (by omega) (by omega)
  unfold ivG
  rw [if_neg (by omega)]
theorem ivT_done {A B : List (List Int)} {n : Nat} (hP : Permuted (pmL A B n)) (z : Int → Int) (ini : Int → Int → Int) : ivT A B n z ini (n * n) = tabOf n fun u v => z (nth (invL (pmL A B n)) (u * n + v)) := by
  refine tabOf_congr fun u v hu hv => ?_
  obtain ⟨_, h1, _⟩ := iv_range hP (u := u) (v := v) (by omega) (by omega) (by omega) (by omega)
  unfold ivG
  rw [if_pos h1]
/-- One pair more. -/
theorem ivT_step {A B : List (List Int)} {n : Nat} (hP : Permuted (pmL A B n)) (z : Int → Int) (ini : Int → Int → Int) {x y : Nat} (hx : x < n) (hy : y < n)
    (hA0 : 0 ≤ val2 A x y) (hA1 : val2 A x y < n) (hB0 : 0 ≤ val2 B x y) (hB1 : val2 B x y < n) :
    (ivT A B n z ini (x * n + y)).set (val2 A x y).toNat ((row (ivT A B n z ini (x * n + y)) (val2 A x y)).set (val2 B x y).toNat (z ((x : Int) * n + y))) = ivT A B n z ini (x * n + y + 1) := by
  unfold ivT
  rw [tabOf_put _ _ _ _ _ hA0 hA1 hB0 hB1]
  refine tabOf_congr fun u v hu hv => ?_
  obtain ⟨h0, h1, h2⟩ := iv_range hP (u := u) (v := v) (by omega) (by omega) (by omega) (by omega)
  have hc : nth (pmL A B n) ((x : Int) * n + y) = val2 A x y * n + val2 B x y := nth_pmL (by omega) (by omega) (by omega) (by omega)
  obtain ⟨c0, c1⟩ := code_lt (n := n) (x := x) (y := y) (by omega) (by omega) (by omega) (by omega)
  have hcast : ((x * n + y : Nat) : Int) = (x : Int) * n + y := by push_cast; rfl
  unfold ivG
  by_cases e : (u : Int) = val2 A x y ∧ (v : Int) = val2 B x y
  · rw [if_pos e]
    have e3 : nth (invL (pmL A B n)) ((u : Int) * n + v) = (x : Int) * n + y := by
      rw [e.1, e.2, ← hc, nth_invL hP c0 (by simpa using c1)]
    rw [e3, if_pos (by omega)]
  · rw [if_neg e]
    have hne : nth (invL (pmL A B n)) ((u : Int) * n + v) ≠ (x : Int) * n + y := by
      intro h
      rw [h, hc] at h2
      obtain ⟨g1, g2⟩ := code_inj hB0 hB1 (by omega) (by omega) h2
      exact e ⟨g1.symm, g2.symm⟩
    by_cases hl : nth (invL (pmL A B n)) ((u : Int) * n + v) < ((x * n + y : Nat) : Int)
    · rw [if_pos hl, if_pos (by omega)]
    · rw [if_neg hl, if_neg (by omega)]
theorem tabOf_val2 {t : List (List Int)} (h : isTab t = true) : tabOf t.length (val2 t) = t := by
  apply ext_row (by simp)
  intro k hk
  simp at hk
  have hr := isTab_row h (x := k) (by omega) (by omega)
  rw [row_tabOf _ _ _ hk]
  apply ext_nth (by simp; omega)
  intro j hj
  simp at hj
  rw [nth_rowOf _ _ _ hj]; rfl
theorem ivA_eq {A B : List (List Int)} {n : Nat} (hP : Permuted (pmL A B n)) (ini : Int → Int → Int) : ivT A B n (fun c => c / n) ini (n * n) = ivA A B n := ivT_done hP _ _
theorem ivB_eq {A B : List (List Int)} {n : Nat} (hP : Permuted (pmL A B n)) (ini : Int → Int → Int) : ivT A B n (fun c => c % n) ini (n * n) = ivB A B n := ivT_done hP _ _
end Go.Proofs.Ytkcobfkmeaakoaa
