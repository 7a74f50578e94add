/-
  What the program's own small functions on lists of integers return (layer 1). No condition but that indices fit.
-/
import Derived.Test.YtkcobfkmeaakoaaDoorBase
namespace Go.Proofs.YtkcobfkmeaakoaaDoor
set_option linter.unusedVariables false
set_option linter.unusedSimpArgs false
open Go.RowKit

set_option maxHeartbeats 400000 in
theorem c_within (n lo hi : Int) (w : World) :
    Calls Tryd.prog 33 #[.int .i64 n, .int .i64 lo, .int .i64 hi] w fun e w' => e = .returned (.bool (inR n lo hi)) ∧ w = w' := by
  go_enter Tryd.func33, Tryd.ntmps33
  go_wp2
  all_goals (go_ret; exact ⟨by simp_all [inR]; try omega, rfl⟩)

set_option maxHeartbeats 400000 in
theorem c_allWithin (v : Value) (xs : List Int) (lo hi : Int) (w : World) (hx : Ints w v xs) :
    Calls Tryd.prog 36 #[v, .int .i64 lo, .int .i64 hi] w fun e w' => e = .returned (.bool (xs.all fun x => inR x lo hi)) ∧ w = w' := by
  obtain ⟨a, c, rfl, hc, hm⟩ := hx.shape
  go_enter Tryd.func36, Tryd.ntmps36
  go_wp2
  go_loop [11, 8] (fun i _ => ∃ k : Nat, k ≤ xs.length ∧ i = .int .i64 k ∧ Hid ((xs.take k).all (fun x => inR x lo hi) = true)) (fun i _ => xs.length - (intOf i).toNat)
  case atStart => exact ⟨0, Nat.zero_le _, rfl, Lib.hid (by simp)⟩
  case round =>
    obtain ⟨k, hk, rfl, HA⟩ := hrel
    by_cases hlt : k < xs.length
    · obtain ⟨b, o, rfl, hcell⟩ := hx.get k hlt
      by_cases hin : inR (nth xs k) lo hi = true
      · go_wp2_with fail
        refine (c_within _ _ _ _).mono ?_; rintro e w' ⟨rfl, rfl⟩
        have HI := Lib.hid hin
        go_wp2
        go_round
        case rel => exact ⟨k + 1, by omega, by go_num, Lib.hid (by rw [take_snoc _ _ hlt, List.all_append, HA.out]; simp [HI.out])⟩
        case measure => simp [intOf]; omega
      · have hin' : inR (nth xs k) lo hi = false := by simpa using hin
        clear hin
        go_wp2_with fail
        refine (c_within _ _ _ _).mono ?_; rintro e w' ⟨rfl, rfl⟩
        have HI := Lib.hid hin'
        go_wp2
        go_ret
        refine ⟨ret_bool ?_, rfl⟩
        have hm' := nth_mem (p := xs) (x := k) (by omega) (by omega)
        have hi := HI.out
        simp only [Eq.comm (a := false), List.all_eq_false]
        exact ⟨_, hm', by simp [hi]⟩
    · go_wp2
      go_ret
      exact ⟨ret_bool (by rw [← HA.out, List.take_of_length_le (by omega)]), rfl⟩

theorem seen_set (n : Nat) (s : List Int) (x : Int) (h0 : 0 ≤ x) :
    ((List.range n).map fun (j : Nat) => Value.bool (decide ((j : Int) ∈ s))).set x.toNat (.bool true) = (List.range n).map fun (j : Nat) => Value.bool (decide ((j : Int) ∈ s ++ [x])) := by
  apply List.ext_getElem?
  intro i
  simp only [List.getElem?_set, List.length_map, List.length_range, List.getElem?_map, List.mem_append, List.mem_singleton]
  by_cases h : x.toNat = i
  · subst h
    by_cases h2 : x.toNat < n
    · simp [h2]; omega
    · simp [h2, List.getElem?_eq_none]
  · have : ¬ (i : Int) = x := by omega
    by_cases h2 : i < n
    · simp [h, this, h2]
    · simp [h, h2, List.getElem?_eq_none]

theorem good_snoc {xs : List Int} {k : Nat} (h : k < xs.length) {n : Nat} (hg : (xs.take k).Nodup ∧ ∀ x ∈ xs.take k, 0 ≤ x ∧ x < (n : Int)) (h0 : 0 ≤ nth xs k) (h1 : nth xs k < n) (hs : ¬ nth xs k ∈ xs.take k) :
    (xs.take (k+1)).Nodup ∧ ∀ x ∈ xs.take (k+1), 0 ≤ x ∧ x < (n : Int) := by
  rw [take_snoc _ _ h]
  refine ⟨?_, ?_⟩
  · rw [List.nodup_append]
    exact ⟨hg.1, by simp, by intro a ha b hb; simp at hb; subst hb; rintro rfl; exact hs ha⟩
  · intro x hx
    rcases List.mem_append.1 hx with hx | hx
    · exact hg.2 x hx
    · simp at hx; subst hx; exact ⟨h0, h1⟩


end Go.Proofs.YtkcobfkmeaakoaaDoor
