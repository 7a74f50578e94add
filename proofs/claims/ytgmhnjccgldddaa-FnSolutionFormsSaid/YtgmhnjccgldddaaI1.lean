/-
  What the program's own small functions on lists of integers return (layer 1). No condition but that indices fit.
-/
import Derived.Test.YtgmhnjccgldddaaBase
namespace Go.Proofs.Ytgmhnjccgldddaa
set_option linter.unusedVariables false
set_option linter.unusedSimpArgs false
open Go.RowKit

set_option maxHeartbeats 400000 in
theorem c_within (n lo hi : Int) (w : World) :
    Calls Try.prog 61 #[.int .i64 n, .int .i64 lo, .int .i64 hi] w fun e w' => e = .returned (.bool (inR n lo hi)) ∧ w = w' := by
  go_enter Try.func61, Try.ntmps61
  go_wp2
  all_goals (go_ret; exact ⟨by simp_all [inR]; try omega, rfl⟩)

set_option maxHeartbeats 400000 in
theorem c_allWithin (v : Value) (xs : List Int) (lo hi : Int) (w : World) (hx : Ints w v xs) :
    Calls Try.prog 75 #[v, .int .i64 lo, .int .i64 hi] w fun e w' => e = .returned (.bool (xs.all fun x => inR x lo hi)) ∧ w = w' := by
  obtain ⟨a, c, rfl, hc, hm⟩ := hx.shape
  go_enter Try.func75, Try.ntmps75
  go_wp2
  go_loop [11, 8] (fun i _ => ∃ k : Nat, k ≤ xs.length ∧ i = .int .i64 k ∧ Hid ((xs.take k).all (fun x => inR x lo hi) = true)) (fun i _ => xs.length - (intOf i).toNat)
  case atStart => exact ⟨0, Nat.zero_le _, rfl, Lib.hid (by simp)⟩
  case round =>
    obtain ⟨k, hk, rfl, HA⟩ := hrel
    by_cases hlt : k < xs.length
    · obtain ⟨b, o, rfl, hcell⟩ := hx.get k hlt
      by_cases hin : inR (nth xs k) lo hi = true
      · go_wp2_with fail
        refine (c_within _ _ _ _).mono ?_; rintro e w' ⟨rfl, rfl⟩
        have HI := Lib.hid hin
        go_wp2
        go_round
        case rel => exact ⟨k + 1, by omega, by go_num, Lib.hid (by rw [take_snoc _ _ hlt, List.all_append, HA.out]; simp [HI.out])⟩
        case measure => simp [intOf]; omega
      · have hin' : inR (nth xs k) lo hi = false := by simpa using hin
        clear hin
        go_wp2_with fail
        refine (c_within _ _ _ _).mono ?_; rintro e w' ⟨rfl, rfl⟩
        have HI := Lib.hid hin'
        go_wp2
        go_ret
        refine ⟨ret_bool ?_, rfl⟩
        have hm' := nth_mem (p := xs) (x := k) (by omega) (by omega)
        have hi := HI.out
        simp only [Eq.comm (a := false), List.all_eq_false]
        exact ⟨_, hm', by simp [hi]⟩
    · go_wp2
      go_ret
      exact ⟨ret_bool (by rw [← HA.out, List.take_of_length_le (by omega)]), rfl⟩

theorem seen_set (n : Nat) (s : List Int) (x : Int) (h0 : 0 ≤ x) :
    ((List.range n).map fun (j : Nat) => Value.bool (decide ((j : Int) ∈ s))).set x.toNat (.bool true) = (List.range n).map fun (j : Nat) => Value.bool (decide ((j : Int) ∈ s ++ [x])) := by
  apply List.ext_getElem?
  intro i
  simp only [List.getElem?_set, List.length_map, List.length_range, List.getElem?_map, List.mem_append, List.mem_singleton]
  by_cases h : x.toNat = i
  · subst h
    by_cases h2 : x.toNat < n
    · simp [h2]; omega
    · simp [h2, List.getElem?_eq_none]
  · have : ¬ (i : Int) = x := by omega
    by_cases h2 : i < n
    · simp [h, this, h2]
    · simp [h, h2, List.getElem?_eq_none]

theorem good_snoc {xs : List Int} {k : Nat} (h : k < xs.length) {n : Nat} (hg : (xs.take k).Nodup ∧ ∀ x ∈ xs.take k, 0 ≤ x ∧ x < (n : Int)) (h0 : 0 ≤ nth xs k) (h1 : nth xs k < n) (hs : ¬ nth xs k ∈ xs.take k) :
    (xs.take (k+1)).Nodup ∧ ∀ x ∈ xs.take (k+1), 0 ≤ x ∧ x < (n : Int) := by
  rw [take_snoc _ _ h]
  refine ⟨?_, ?_⟩
  · rw [List.nodup_append]
    exact ⟨hg.1, by simp, by intro a ha b hb; simp at hb; subst hb; rintro rfl; exact hs ha⟩
  · intro x hx
    rcases List.mem_append.1 hx with hx | hx
    · exact hg.2 x hx
    · simp at hx; subst hx; exact ⟨h0, h1⟩

set_option maxHeartbeats 800000 in
theorem c_isPermuted (v : Value) (xs : List Int) (w : World) (hx : Ints w v xs) (hn : xs.length ≤ 1099511627776) :
    Calls Try.prog 44 #[v] w (RVal w (.bool (decide (Permuted xs)))) := by
  obtain ⟨a, c, rfl, hc, hm⟩ := hx.shape
  have hmk := run_make_row' (P := Try.prog) 75 4 (.bool false) 1 Try.underlying75 inf_bool rfl .i64 .i64 xs.length (by omega) (by omega)
  go_enter Try.func44, Try.ntmps44
  go_wp2
  have hB0 : Below w.heap.size w (w.alloc (.cells (madeCells #[.bool false] xs.length) 4)) := (Below.refl _ _).alloc (Nat.le_refl _) _
  have hK0 : Blk (w.alloc (.cells (madeCells #[.bool false] xs.length) 4)) w.heap.size 4 ((List.range xs.length).map fun (j : Nat) => Value.bool (decide ((j : Int) ∈ xs.take 0))) := by
    have := Blk.made w (.bool false) xs.length 4
    simpa [List.map_const'] using this
  clear hmk
  go_loopw [11, 5] (fun i _ wr => ∃ k : Nat, k ≤ xs.length ∧ i = .int .i64 k ∧ Below w.heap.size w wr ∧ Blk wr w.heap.size 4 ((List.range xs.length).map fun (j : Nat) => Value.bool (decide ((j : Int) ∈ xs.take k))) ∧
    Hid ((xs.take k).Nodup ∧ ∀ x ∈ xs.take k, 0 ≤ x ∧ x < (xs.length : Int))) (fun i _ _ => xs.length - (intOf i).toNat)
  case atStart => exact ⟨0, Nat.zero_le _, rfl, hB0, hK0, Lib.hid (by simp)⟩
  case round =>
    clear hB0 hK0
    obtain ⟨k, hk, rfl, hb, hblk, HG⟩ := hrel
    by_cases hlt : k < xs.length
    · obtain ⟨b, o, rfl, hcell⟩ := (hx.below hb).get k hlt
      have Hb := Lib.hid hb; have Hblk := Lib.hid hblk
      by_cases hin : inR (nth xs k) 0 (xs.length - 1) = true
      · have h01 : 0 ≤ nth xs k ∧ nth xs k < xs.length := by simp [inR] at hin; omega
        obtain ⟨h0, h1⟩ := h01
        have h2 : wr.cell? ⟨w.heap.size, (nth xs k).toNat, none⟩ = some (.bool (decide (nth xs k ∈ xs.take k))) := by
          rw [hblk.cell (by simp; omega)]
          simp [show (((nth xs k).toNat : Nat) : Int) = nth xs k from by omega]
        have h3 := hblk.frozen (nth xs k).toNat
        clear hb hblk
        by_cases hs : nth xs k ∈ xs.take k
        · have hs1 : decide (nth xs k ∈ xs.take k) = true := by simp [hs]
          rw [hs1] at h2
          have HS := Lib.hid hs; clear hs hs1
          go_wp2_with fail
          refine (c_within _ _ _ _).mono ?_; rintro e w' ⟨rfl, rfl⟩
          go_wp2
          go_ret
          refine ⟨ret_bool ?_, Hb.out⟩
          simp only [Eq.comm (a := false), decide_eq_false_iff_not]
          intro hp
          have := hp.1
          rw [← List.take_append_drop (k+1) xs, take_snoc _ _ hlt, List.nodup_append, List.nodup_append] at this
          exact this.1.2.2 _ HS.out _ (by simp) rfl
        · have hs1 : decide (nth xs k ∈ xs.take k) = false := by simp [hs]
          rw [hs1] at h2
          have HS := Lib.hid hs; clear hs hs1
          go_wp2_with fail
          refine (c_within _ _ _ _).mono ?_; rintro e w' ⟨rfl, rfl⟩
          go_wp2
          go_roundw
          case rel =>
            refine ⟨k + 1, by omega, by go_num, Hb.out.setCell (p := ⟨w.heap.size, (nth xs k).toNat, none⟩) (Nat.le_refl _) _, ?_, Lib.hid (good_snoc hlt HG.out h0 h1 HS.out)⟩
            have := Hblk.out.set (nth xs k).toNat (.bool true)
            rwa [seen_set _ _ _ h0, ← take_snoc _ _ hlt] at this
          case measure => simp [intOf]; omega
      · have hin' : inR (nth xs k) 0 (xs.length - 1) = false := by simpa using hin
        clear hin hb hblk
        go_wp2_with fail
        refine (c_within _ _ _ _).mono ?_; rintro e w' ⟨rfl, rfl⟩
        have HI := Lib.hid hin'
        go_wp2
        go_ret
        refine ⟨ret_bool ?_, Hb.out⟩
        simp only [Eq.comm (a := false), decide_eq_false_iff_not]
        intro hp
        have := hp.2 _ (nth_mem (p := xs) (x := k) (by omega) (by omega))
        have hi := HI.out
        simp [inR] at hi
        omega
    · have Hb := Lib.hid hb; clear hb hblk
      go_wp2
      go_ret
      refine ⟨ret_bool ?_, Hb.out⟩
      have hg := HG.out
      rw [List.take_of_length_le (by omega)] at hg
      simp only [Eq.comm (a := true), decide_eq_true_eq]
      exact hg

set_option maxHeartbeats 400000 in
theorem c_IsPermutation (v : Value) (xs : List Int) (w : World) (hx : Ints w v xs) :
    Calls Try.prog 67 #[v] w (RVal w (.bool (isPerm xs))) := by
  obtain ⟨a, c, rfl, hc, hm⟩ := hx.shape
  by_cases hin : inR xs.length 1 12 = true
  · have hn : xs.length ≤ 1099511627776 := by simp [inR] at hin; omega
    go_enter Try.func67, Try.ntmps67
    go_wp2_with fail
    refine (c_within _ _ _ _).mono ?_; rintro e w' ⟨rfl, rfl⟩
    have HI := Lib.hid hin
    go_wp2_with fail
    refine (c_isPermuted _ _ _ hx hn).mono ?_; rintro e w' ⟨rfl, hb⟩
    have Hb := Lib.hid hb; clear hb
    go_wp2
    go_ret
    exact ⟨ret_bool (by simp [isPerm, HI.out]), Hb.out⟩
  · have hin' : inR xs.length 1 12 = false := by simpa using hin
    clear hin
    go_enter Try.func67, Try.ntmps67
    go_wp2_with fail
    refine (c_within _ _ _ _).mono ?_; rintro e w' ⟨rfl, rfl⟩
    have HI := Lib.hid hin'
    go_wp2
    go_ret
    exact ⟨ret_bool (by simp [isPerm, HI.out]), Below.refl _ _⟩
end Go.Proofs.Ytgmhnjccgldddaa
