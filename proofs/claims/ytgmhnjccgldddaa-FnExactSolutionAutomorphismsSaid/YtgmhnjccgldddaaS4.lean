/-
  All permutations, the reference's functions: a recursion that grows a list of lists.
-/
import Derived.Test.YtgmhnjccgldddaaP5
import Derived.Test.YtgmhnjccgldddaaS2a
import Derived.Test.YtgmhnjccgldddaaS1
namespace Go.Proofs.Ytgmhnjccgldddaa
set_option linter.unusedVariables false
set_option linter.unusedSimpArgs false
open Go.RowKit

theorem Keep.chain {S T : Nat → Prop} {w w1 w2 : World} (h1 : Keep S w w1) (h2 : Keep T w1 w2) (hT : ∀ b, b < w.heap.size → T b → S b) : Keep S w w2 :=
  ⟨h2.os.trans h1.os, h2.tape.trans h1.tape, h2.output.trans h1.output, Nat.le_trans h1.size h2.size, fun k hk hn => (h2.block k (Nat.lt_of_lt_of_le hk h1.size) (fun h => hn (hT k hk h))).trans (h1.block k hk hn)⟩
theorem Own.keepR {B B0 : Nat} {w w' : World} {u v : Value} {xs : List Int} {yss : List (List Int)} (h : Own B w u xs) (hv : OwnRows B0 w v yss) (k : Keep (fun b => v.ownBlock = some b) w w') : Own B w' u xs := by
  obtain ⟨us', h3, h4⟩ := hv
  obtain ⟨hl, hn' | ⟨g, cap, cur, hv5, hbg, hg, r⟩⟩ := h
  · exact ⟨hl, .inl hn'⟩
  · refine ⟨hl, .inr ⟨g, cap, cur, hv5, hbg, ?_, r⟩⟩
    rw [k.block g (Array.getElem?_eq_some_iff.1 hg).1 ?_]; exact hg
    intro e
    obtain ⟨_, hnn | ⟨g', cap', cur', hv', _, hg', _⟩⟩ := h3
    · rw [hnn.1] at e; cases e
    · rw [hv'] at e
      simp [Value.ownBlock] at e
      subst e
      rw [hg] at hg'
      simp at hg'

def partG (n m : Nat) (start : List Int) (k : Nat) : List (List Int) := ((iota k).filter fun x => decide (¬ x ∈ start)).flatMap fun x => growL n m (start ++ [x])
theorem partG_succ (n m : Nat) (start : List Int) (k : Nat) : partG n m start (k + 1) = partG n m start k ++ (if (k : Int) ∈ start then [] else growL n m (start ++ [(k : Int)])) := by
  unfold partG
  rw [show iota (k + 1) = iota k ++ [(k : Int)] from by simp [iota, List.range_succ], List.filter_append, List.flatMap_append]
  congr 1
  by_cases h : (k : Int) ∈ start
  · simp [h]
  · simp [h]
theorem partG_mono (n m : Nat) (start : List Int) (k : Nat) : ∀ d, (partG n m start k).length ≤ (partG n m start (k + d)).length
  | 0 => Nat.le_refl _
  | d + 1 => by
    have := partG_mono n m start k d
    rw [← Nat.add_assoc, partG_succ, List.length_append]; omega
theorem partG_le {n m : Nat} {start : List Int} {k : Nat} (h : k ≤ n) : (partG n m start k).length ≤ (growL n (m + 1) start).length := by
  have := partG_mono n m start k (n - k)
  rw [show k + (n - k) = n from by omega] at this
  exact this

def GrowPost (w : World) (v : Value) (B : Nat) (ys : List (List Int)) (e : Ending) (w' : World) : Prop :=
  ∃ r, e = .returned r ∧ OwnRows B w' r ys ∧ Keep (fun b => v.ownBlock = some b) w w' ∧ ∀ b, r.ownBlock = some b → v.ownBlock = some b ∨ w.heap.size ≤ b


theorem growL_length (n : Nat) : ∀ (m : Nat) (start : List Int), (growL n m start).length ≤ n ^ m
  | 0, start => by simp [growL]
  | m + 1, start => by
    have h : ∀ k, (partG n m start k).length ≤ k * n ^ m := by
      intro k
      induction k with
      | zero => simp [partG, iota]
      | succ k ih =>
        rw [partG_succ, List.length_append, Nat.add_mul, Nat.one_mul]
        have : (if (k : Int) ∈ start then [] else growL n m (start ++ [(k : Int)])).length ≤ n ^ m := by
          split
          · simp
          · exact growL_length n m _
        omega
    have := h n
    rw [Nat.pow_succ, Nat.mul_comm]
    exact this
theorem allPerms_le {n : Nat} (h : n ≤ 7) : (allPerms n).length ≤ 823543 := by
  refine Nat.le_trans (growL_length n n []) ?_
  have h1 : n ^ n ≤ 7 ^ n := Nat.pow_le_pow_left h n
  have h2 : 7 ^ n ≤ 7 ^ 7 := Nat.pow_le_pow_right (by omega) h
  omega

end Go.Proofs.Ytgmhnjccgldddaa
