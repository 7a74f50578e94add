/-
  Plain words on powers of a permutation and its order. No program here.
-/
import Derived.Test.YtgmhnjccgldddaaP1
namespace Go.Proofs.Ytgmhnjccgldddaa
set_option linter.unusedVariables false
set_option linter.unusedSimpArgs false

/-- f, k times. -/
def iter (f : Int → Int) : Nat → Int → Int
  | 0, x => x
  | k+1, x => f (iter f k x)
theorem iter_add (f : Int → Int) (a b : Nat) (x : Int) : iter f (a + b) x = iter f a (iter f b x) := by
  induction a with
  | zero => simp [iter]
  | succ a ih => rw [Nat.succ_add]; simp [iter, ih]
theorem iter_mul (f : Int → Int) (r : Nat) (x : Int) (h : iter f r x = x) : ∀ m, iter f (r * m) x = x
  | 0 => rfl
  | m+1 => by rw [Nat.mul_succ, iter_add, h, iter_mul f r x h m]

section
variable {p : List Int} (hp : Permuted p)
include hp
theorem iter_lt {x : Int} (h0 : 0 ≤ x) (h1 : x < p.length) : ∀ k, 0 ≤ iter (nth p) k x ∧ iter (nth p) k x < p.length
  | 0 => ⟨h0, h1⟩
  | k+1 => hp.lt (iter_lt h0 h1 k).1 (iter_lt h0 h1 k).2
theorem iter_inj {x y : Int} (h0 : 0 ≤ x) (h1 : x < p.length) (g0 : 0 ≤ y) (g1 : y < p.length) : ∀ k, iter (nth p) k x = iter (nth p) k y → x = y
  | 0, h => h
  | k+1, h => iter_inj h0 h1 g0 g1 k (hp.inj (iter_lt hp h0 h1 k).1 (iter_lt hp h0 h1 k).2 (iter_lt hp g0 g1 k).1 (iter_lt hp g0 g1 k).2 h)
/-- Each element comes back within as many steps as there are elements. -/
theorem comes_back {x : Int} (h0 : 0 ≤ x) (h1 : x < p.length) : ∃ r, 1 ≤ r ∧ r ≤ p.length ∧ iter (nth p) r x = x := by
  let l := (List.range (p.length + 1)).map fun k => iter (nth p) k x
  have hsub : l ⊆ iota p.length := by
    intro y hy
    obtain ⟨k, _, rfl⟩ := List.mem_map.1 hy
    exact (mem_iota _ _).2 (iter_lt hp h0 h1 k)
  have hnn : ¬ l.Nodup := fun hn => by
    have := List.Nodup.length_le_of_subset hn hsub
    simp [l] at this
    omega
  have hnp : ¬ (List.range (p.length + 1)).Pairwise (fun a b => iter (nth p) a x ≠ iter (nth p) b x) := fun h => hnn (List.pairwise_map.2 h)
  rw [List.pairwise_iff_getElem] at hnp
  have : ∃ i j : Nat, i < j ∧ j ≤ p.length ∧ iter (nth p) i x = iter (nth p) j x := by
    apply Classical.byContradiction
    intro hno
    apply hnp
    intro i j hi hj hij
    simp only [List.getElem_range]
    intro e
    exact hno ⟨i, j, hij, by simp at hj; omega, e⟩
  obtain ⟨i, j, hij, hj, e⟩ := this
  refine ⟨j - i, by omega, by omega, ?_⟩
  have e2 : iter (nth p) i (iter (nth p) (j - i) x) = iter (nth p) i x := by
    rw [← iter_add, show i + (j - i) = j from by omega, e]
  exact iter_inj hp (iter_lt hp h0 h1 _).1 (iter_lt hp h0 h1 _).2 h0 h1 i e2
end

/-- The product of the numbers up to n. -/
def fac : Nat → Nat
  | 0 => 1
  | n+1 => (n + 1) * fac n
theorem fac_pos : ∀ n, 1 ≤ fac n
  | 0 => Nat.le_refl _
  | n+1 => Nat.mul_pos (Nat.succ_pos n) (fac_pos n)
theorem dvd_fac : ∀ {n r : Nat}, 1 ≤ r → r ≤ n → r ∣ fac n
  | 0, r, h1, h2 => by omega
  | n+1, r, h1, h2 => by
    by_cases e : r = n + 1
    · subst e; exact ⟨fac n, rfl⟩
    · obtain ⟨c, hc⟩ := dvd_fac (n := n) h1 (by omega)
      exact ⟨(n + 1) * c, by rw [fac, hc, Nat.mul_left_comm]⟩

/-- The powers of a permutation, from the first on: pw p k is p done k + 1 times. -/
def pw (p : List Int) : Nat → List Int
  | 0 => p
  | k+1 => thenL (pw p k) p
@[simp] theorem pw_length (p : List Int) : ∀ k, (pw p k).length = p.length
  | 0 => rfl
  | k+1 => by simp [pw, pw_length p k]
theorem nth_pw (p : List Int) (x : Int) (h0 : 0 ≤ x) (h1 : x < p.length) : ∀ k, nth (pw p k) x = iter (nth p) (k+1) x
  | 0 => rfl
  | k+1 => by rw [pw, nth_thenL _ _ _ h0 (by simpa using h1), nth_pw p x h0 h1 k]; rfl
theorem mem_nth {p : List Int} {y : Int} (h : y ∈ p) : ∃ x : Int, 0 ≤ x ∧ x < p.length ∧ nth p x = y := by
  obtain ⟨k, hk, rfl⟩ := List.getElem_of_mem h
  exact ⟨k, by omega, by omega, nth_nat p k hk⟩
theorem pw_in {p : List Int} (hp : Permuted p) (k : Nat) : ∀ x ∈ pw p k, 0 ≤ x ∧ x < p.length := by
  intro y hy
  obtain ⟨x, h0, h1, rfl⟩ := mem_nth hy
  rw [pw_length] at h1
  rw [nth_pw p x h0 h1]
  exact iter_lt hp h0 h1 _
theorem pw_perm {p : List Int} (hp : Permuted p) (k : Nat) : Permuted (pw p k) := by
  refine ⟨?_, by rw [pw_length]; exact pw_in hp k⟩
  rw [List.Nodup, List.pairwise_iff_getElem]
  intro i j hi hj hij e
  have hi' : i < p.length := by simpa using hi
  have hj' : j < p.length := by simpa using hj
  rw [← nth_nat _ _ hi, ← nth_nat _ _ hj, nth_pw p i (by omega) (by omega), nth_pw p j (by omega) (by omega)] at e
  have := iter_inj hp (x := i) (y := j) (by omega) (by omega) (by omega) (by omega) _ e
  omega

/-- The order is the number of the first power that is the identity. -/
def IsOrd (p : List Int) (k : Nat) : Prop := pw p k = iota p.length ∧ ∀ j, j < k → pw p j ≠ iota p.length
theorem IsOrd.uniq {p : List Int} {a b : Nat} (ha : IsOrd p a) (hb : IsOrd p b) : a = b := by
  rcases Nat.lt_trichotomy a b with h | h | h
  · exact absurd ha.1 (hb.2 a h)
  · exact h
  · exact absurd hb.1 (ha.2 b h)
theorem fac_power {p : List Int} (hp : Permuted p) : pw p (fac p.length - 1) = iota p.length := by
  apply ext_nth (by simp)
  intro k hk
  have hk' : k < p.length := by simpa using hk
  rw [nth_pw p k (by omega) (by omega), nth_iota _ _ (by omega) (by omega)]
  obtain ⟨r, h1, h2, h3⟩ := comes_back hp (x := k) (by omega) (by omega)
  obtain ⟨c, hc⟩ := dvd_fac h1 h2
  have := fac_pos p.length
  rw [show fac p.length - 1 + 1 = r * c from by omega]
  exact iter_mul _ _ _ h3 c
open Classical in
/-- The order of a permutation. -/
noncomputable def ordP (p : List Int) : Nat := if h : ∃ k, IsOrd p k then Classical.choose h + 1 else 0
theorem IsOrd.eq {p : List Int} {k : Nat} (h : IsOrd p k) : ordP p = k + 1 := by
  unfold ordP
  have he : ∃ k, IsOrd p k := ⟨k, h⟩
  rw [dif_pos he, (Classical.choose_spec he).uniq h]

/-- Strictly increasing. -/
def incr (l : List Int) : Bool := (List.range (l.length - 1)).all fun (i : Nat) => decide (nth l i < nth l (i + 1))
theorem incr_iff (l : List Int) : incr l = true ↔ ∀ i : Nat, i + 1 < l.length → nth l i < nth l (i + 1) := by
  simp only [incr, List.all_eq_true, List.mem_range, decide_eq_true_eq]
  exact ⟨fun h i hi => h i (by omega), fun h i hi => h i (by omega)⟩
/-- A permutation that is increasing is the identity. -/
theorem incr_iota {p : List Int} (hp : Permuted p) : incr p = true ↔ p = iota p.length := by
  rw [incr_iff]
  constructor
  · intro h
    have hge : ∀ i : Nat, i < p.length → (i : Int) ≤ nth p i := by
      intro i
      induction i with
      | zero => intro hi; exact (hp.lt (x := (0 : Nat)) (by omega) (by omega)).1
      | succ i ih =>
        intro hi
        have h1 := ih (by omega)
        have h2 := h i hi
        have e : ((i + 1 : Nat) : Int) = (i : Int) + 1 := by omega
        rw [e]; omega
    have hle : ∀ d i : Nat, i + d + 1 = p.length → nth p i ≤ i := by
      intro d
      induction d with
      | zero => intro i hi; have := (hp.lt (x := i) (by omega) (by omega)).2; omega
      | succ d ih =>
        intro i hi
        have h1 := ih (i + 1) (by omega)
        have h2 := h i (by omega)
        have e : ((i + 1 : Nat) : Int) = (i : Int) + 1 := by omega
        rw [e] at h1; omega
    apply ext_nth (by simp)
    intro k hk
    rw [nth_iota _ _ (by omega) (by omega)]
    have h1 := hge k hk
    have h2 := hle (p.length - 1 - k) k (by omega)
    omega
  · intro h i hi
    rw [h, nth_iota _ _ (by omega) (by omega)]
    have e : ((i + 1 : Nat) : Int) = (i : Int) + 1 := by omega
    rw [← e, nth_iota _ _ (by omega) (by omega)]
    omega
end Go.Proofs.Ytgmhnjccgldddaa
