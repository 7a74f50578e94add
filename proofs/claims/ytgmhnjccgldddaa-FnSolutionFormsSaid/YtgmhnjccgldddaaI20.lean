/-
  The order of a solution: the permutation of the pairs' codes, the lengths of its cycles, their least common multiple step by step; the greatest common divisor's two functions.
-/
import Derived.Test.YtgmhnjccgldddaaI13
import Derived.Test.YtgmhnjccgldddaaI3b
import Derived.BigQuiet
import Derived.Test.YtgmhnjccgldddaaP3
import Derived.Deep.LoopGhost
namespace Go.Proofs.Ytgmhnjccgldddaa
set_option linter.unusedVariables false
set_option linter.unusedSimpArgs false
open Go.RowKit

theorem find2_none' {n m : Nat} {P : Nat → Nat → Bool} (h : find2 n m P = none) {x y : Nat} (hx : x < n) (hy : y < m) : P x y = false := by
  unfold find2 at h
  rw [List.findSome?_eq_none_iff] at h
  have h1 := h x (by simpa using hx)
  rw [Option.map_eq_none_iff, List.find?_eq_none] at h1
  simpa using h1 y (by simpa using hy)

/-- The pair map on the pairs' codes. -/
def pmL (A B : List (List Int)) (n : Nat) : List Int := rowOf (n * n) fun k => val2 A (k / n) (k % n) * n + val2 B (k / n) (k % n)
@[simp] theorem pmL_length (A B : List (List Int)) (n : Nat) : (pmL A B n).length = n * n := by simp [pmL]
theorem code_div {n : Nat} {x y : Int} (hy0 : 0 ≤ y) (hy : y < n) : (x * n + y) / (n : Int) = x ∧ (x * n + y) % (n : Int) = y := by
  have hn : (n : Int) ≠ 0 := by omega
  refine ⟨?_, ?_⟩
  · rw [Int.add_comm, Int.add_mul_ediv_right _ _ hn, Int.ediv_eq_zero_of_lt hy0 hy]; omega
  · rw [Int.add_comm, Int.add_mul_emod_self_right, Int.emod_eq_of_lt hy0 hy]
theorem code_lt {n : Nat} {x y : Int} (hx0 : 0 ≤ x) (hx : x < n) (hy0 : 0 ≤ y) (hy : y < n) : 0 ≤ x * n + y ∧ x * n + y < ((n * n : Nat) : Int) := by
  have h1 : 0 ≤ x * n := Int.mul_nonneg hx0 (by omega)
  have h2 : (x + 1) * n ≤ n * n := Int.mul_le_mul_of_nonneg_right (by omega) (by omega)
  rw [Int.add_mul] at h2
  refine ⟨by omega, ?_⟩
  rw [Int.natCast_mul]; omega
theorem code_inj {n : Nat} {x y u v : Int} (hy0 : 0 ≤ y) (hy : y < n) (hv0 : 0 ≤ v) (hv : v < n) (h : x * n + y = u * n + v) : x = u ∧ y = v := by
  have h1 := code_div (x := x) hy0 hy
  have h2 := code_div (x := u) hv0 hv
  rw [h] at h1
  exact ⟨h1.1.symm.trans h2.1, h1.2.symm.trans h2.2⟩
theorem nth_pmL {A B : List (List Int)} {n : Nat} {x y : Int} (hx0 : 0 ≤ x) (hx : x < n) (hy0 : 0 ≤ y) (hy : y < n) : nth (pmL A B n) (x * n + y) = val2 A x y * n + val2 B x y := by
  obtain ⟨h1, h2⟩ := code_lt hx0 hx hy0 hy
  obtain ⟨h3, h4⟩ := code_div (x := x) hy0 hy
  unfold pmL
  rw [nth_rowOfi _ _ _ h1 h2, h3, h4]
theorem code_ex {n : Nat} {k : Int} (h0 : 0 ≤ k) (h : k < ((n * n : Nat) : Int)) : ∃ x y : Int, (0 ≤ x ∧ x < n) ∧ (0 ≤ y ∧ y < n) ∧ k = x * n + y := by
  have hn : 0 < n := by
    rcases Nat.eq_zero_or_pos n with e | e
    · subst e; simp at h; omega
    · exact e
  refine ⟨k / n, k % n, ⟨Int.ediv_nonneg h0 (by omega), ?_⟩, ⟨Int.emod_nonneg _ (by omega), Int.emod_lt_of_pos _ (by omega)⟩, ?_⟩
  · rw [Int.natCast_mul] at h
    exact Int.ediv_lt_of_lt_mul (by omega) h
  · have := Int.emod_add_mul_ediv k n
    rw [Int.mul_comm] at this; omega
theorem pmL_perm {A B : List (List Int)} (hp : isPM A B = true) (hc : collL A B = []) : Permuted (pmL A B A.length) := by
  obtain ⟨q1, q2, q3⟩ := isPM_parts hp
  have hnone : find2 (A.length * A.length) (A.length * A.length) (colP A B A.length) = none := by
    unfold collL at hc
    cases h : find2 (A.length * A.length) (A.length * A.length) (colP A B A.length) with
    | none => rfl
    | some ab => rw [h] at hc; simp [quad] at hc
  refine ⟨?_, ?_⟩
  · unfold pmL rowOf
    rw [List.nodup_iff_pairwise_ne, List.pairwise_map]
    have hnd : (List.range (A.length * A.length)).Nodup := List.nodup_range
    refine List.Pairwise.imp_of_mem ?_ (List.nodup_iff_pairwise_ne.1 hnd)
    intro a b ha hb hne he
    simp only [List.mem_range] at ha hb
    have hf := find2_none' hnone ha hb
    have hn0 : 1 ≤ A.length := (isTab_len q1).1
    obtain ⟨a1, a2, a3, a4⟩ := divI ha hn0
    obtain ⟨b1, b2, b3, b4⟩ := divI hb hn0
    rw [colP_eq rfl rfl rfl rfl] at hf
    have v1 := val2_lt q2 (x := (a : Int) / (A.length : Int)) (y := (a : Int) % (A.length : Int)) a1 (by omega) a3 (by omega)
    have v2 := val2_lt q2 (x := (b : Int) / (A.length : Int)) (y := (b : Int) % (A.length : Int)) b1 (by omega) b3 (by omega)
    obtain ⟨e1, e2⟩ := code_inj (n := A.length) v1.1 (by omega) v2.1 (by omega) he
    simp [hne, e1, e2] at hf
  · intro z hz
    simp only [pmL, rowOf, List.mem_map, List.mem_range] at hz
    obtain ⟨a, ha, rfl⟩ := hz
    rw [pmL_length]
    obtain ⟨a1, a2, a3, a4⟩ := divI ha (isTab_len q1).1
    have v1 := val2_lt q1 (x := (a : Int) / (A.length : Int)) (y := (a : Int) % (A.length : Int)) a1 a2 a3 a4
    have v2 := val2_lt q2 (x := (a : Int) / (A.length : Int)) (y := (a : Int) % (A.length : Int)) a1 (by omega) a3 (by omega)
    exact code_lt v1.1 v1.2 v2.1 (by omega)

def IsCyc (p : List Int) (k : Int) (r : Nat) : Prop := 1 ≤ r ∧ iter (nth p) r k = k ∧ ∀ j, 1 ≤ j → j < r → iter (nth p) j k ≠ k
theorem IsCyc.eq {p : List Int} {k : Int} {r s : Nat} (h : IsCyc p k r) (h' : IsCyc p k s) : r = s := by
  rcases Nat.lt_trichotomy r s with g | g | g
  · exact absurd h.2.1 (h'.2.2 r h.1 g)
  · exact g
  · exact absurd h'.2.1 (h.2.2 s h'.1 g)
theorem isCyc_ex {p : List Int} (hp : Permuted p) {k : Int} (h0 : 0 ≤ k) (h1 : k < p.length) : ∃ r, IsCyc p k r ∧ r ≤ p.length := by
  obtain ⟨r, hr1, hr2, hr⟩ := comes_back hp h0 h1
  obtain ⟨s, ⟨hs1, hs2⟩, hs3⟩ := exists_least (p := fun r => 1 ≤ r ∧ iter (nth p) r k = k) ⟨r, hr1, hr⟩
  exact ⟨s, ⟨hs1, hs2, fun j j1 j2 e => by have := hs3 j ⟨j1, e⟩; omega⟩, Nat.le_trans (hs3 r ⟨hr1, hr⟩) hr2⟩
open Classical in
noncomputable def cyc (p : List Int) (k : Int) : Nat := if h : ∃ r, IsCyc p k r then Classical.choose h else 1
theorem cyc_eq {p : List Int} {k : Int} {r : Nat} (h : IsCyc p k r) : cyc p k = r := by
  have hex : ∃ r, IsCyc p k r := ⟨r, h⟩
  unfold cyc
  rw [dif_pos hex]
  exact (Classical.choose_spec hex).eq h
theorem cyc_le {p : List Int} (hp : Permuted p) {k : Int} (h0 : 0 ≤ k) (h1 : k < p.length) : 1 ≤ cyc p k ∧ cyc p k ≤ p.length := by
  obtain ⟨r, hr, hl⟩ := isCyc_ex hp h0 h1
  rw [cyc_eq hr]
  exact ⟨hr.1, hl⟩
/-- Behind the last step the value is not yet back before cyc steps: how far a walk can go. -/
theorem cyc_bound {p : List Int} (hp : Permuted p) {k : Int} (h0 : 0 ≤ k) (h1 : k < p.length) {r : Nat} (hr : ∀ j, 1 ≤ j → j < r → iter (nth p) j k ≠ k) (hr1 : 1 ≤ r) : r ≤ cyc p k := by
  obtain ⟨s, hs, _⟩ := isCyc_ex hp h0 h1
  rw [cyc_eq hs]
  rcases Nat.lt_or_ge s r with g | g
  · exact absurd hs.2.1 (hr s hs.1 g)
  · exact g

def gcdI (a b : Int) : Int := (Nat.gcd a.toNat b.toNat : Nat)
theorem gcdI_step {a b : Int} (ha : 0 ≤ a) (hb : 0 < b) : gcdI b (a % b) = gcdI a b := by
  unfold gcdI
  have e : (a % b).toNat = a.toNat % b.toNat := by
    obtain ⟨a', rfl⟩ := Int.eq_ofNat_of_zero_le ha
    obtain ⟨b', rfl⟩ := Int.eq_ofNat_of_zero_le (Int.le_of_lt hb)
    rw [← Int.natCast_emod]; simp only [Int.toNat_natCast]
  rw [e, Nat.gcd_comm b.toNat, ← Nat.gcd_rec, Nat.gcd_comm]
theorem gcdI_zero {a : Int} (ha : 0 ≤ a) : gcdI a 0 = a := by
  unfold gcdI; simp; omega
theorem gcdI_pos {a b : Int} (hb : 0 < b) (ha : 0 < a) : 0 < gcdI a b ∧ gcdI a b ≤ a := by
  unfold gcdI
  have h1 : 0 < Nat.gcd a.toNat b.toNat := Nat.gcd_pos_of_pos_left _ (by omega)
  have h2 := Nat.gcd_le_left b.toNat (show 0 < a.toNat by omega)
  omega
/-- The order behind k codes. -/
noncomputable def ordS (p : List Int) : Nat → Int
  | 0 => 1
  | k + 1 => ordS p k / gcdI (ordS p k) (cyc p k) * cyc p k
theorem ordS_pos {p : List Int} (hp : Permuted p) : ∀ k : Nat, k ≤ p.length → 1 ≤ ordS p k
  | 0, _ => by simp [ordS]
  | k + 1, h => by
    have ih := ordS_pos hp k (by omega)
    have hc := cyc_le hp (k := (k : Int)) (by omega) (by omega)
    obtain ⟨h1, h2⟩ := gcdI_pos (a := ordS p k) (b := (cyc p k : Nat)) (by omega) (by omega)
    have h3 : 1 ≤ ordS p k / gcdI (ordS p k) (cyc p k) := by
      have := Int.le_ediv_of_mul_le (a := 1) (b := ordS p k) h1 (by omega)
      exact this
    have h4 : (1 : Int) * 1 ≤ ordS p k / gcdI (ordS p k) (cyc p k) * cyc p k := Int.mul_le_mul h3 (by omega) (by omega) (by omega)
    simpa [ordS] using h4

end Go.Proofs.Ytgmhnjccgldddaa
