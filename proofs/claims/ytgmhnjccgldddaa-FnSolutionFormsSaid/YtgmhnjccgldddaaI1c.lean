/-
  Doing one permutation after the other, and the inverse: the program's and the reference's functions (layer 1). Condition: the numbers are indices of the other list.
-/
import Derived.Test.YtgmhnjccgldddaaI1
import Derived.Test.YtgmhnjccgldddaaS1
import Derived.Test.YtgmhnjccgldddaaLawA
namespace Go.Proofs.Ytgmhnjccgldddaa
set_option linter.unusedVariables false
set_option linter.unusedSimpArgs false
open Go.RowKit

/-- Writing the next entry of a list that is filled from the left. -/
theorem fill_set (ys : List Int) (k : Nat) (h : k < ys.length) (r : List Value) (hr : r.length = ys.length) (v : Int) (hv : v = nth ys k) :
    ((ys.take k).map (Value.int .i64) ++ r.drop k).set k (.int .i64 v) = (ys.take (k+1)).map (Value.int .i64) ++ r.drop (k+1) := by
  subst hv
  rw [nth_nat _ _ h]
  exact map_take_snoc ys k h r hr
theorem fill_cell {w : World} {b : Nat} {t : TypeId} {cs : List Value} (h : Blk w b t cs) {k : Nat} (hk : k < cs.length) : ∃ u, w.cell? ⟨b, k, none⟩ = some u := ⟨_, h.cell hk⟩
theorem fill_done (ys : List Int) (n : Nat) (h : n = ys.length) (z : Value) : (ys.take n).map (Value.int .i64) ++ (List.replicate n z).drop n = ys.map (Value.int .i64) := by
  subst h; simp

set_option maxHeartbeats 400000 in
theorem c_then (v1 v2 : Value) (p q : List Int) (w : World) (hp : Ints w v1 p) (hq : Ints w v2 q) (hr : ∀ x ∈ p, 0 ≤ x ∧ x < q.length) (hn : p.length ≤ 1048576) :
    Calls Try.prog 68 #[v1, v2] w (RInts w (thenL p q)) := by
  obtain ⟨a, c, rfl, hc, hm⟩ := hp.shape
  obtain ⟨a2, c2, rfl, hc2, hm2⟩ := hq.shape
  have HR := Lib.hid hr; clear hr
  have hmk := run_make_row' (P := Try.prog) 26 2 (.int .i64 0) 8 Try.underlying26 inf_int64 rfl .i64 .i64 p.length (by omega) (by omega)
  go_enter Try.func68, Try.ntmps68
  go_wp2
  have hB0 : Below w.heap.size w (w.alloc (.cells (madeCells #[.int .i64 0] p.length) 2)) := (Below.refl _ _).alloc (Nat.le_refl _) _
  have hK0 : Blk (w.alloc (.cells (madeCells #[.int .i64 0] p.length) 2)) w.heap.size 2 (((thenL p q).take 0).map (Value.int .i64) ++ (List.replicate p.length (Value.int .i64 0)).drop 0) := by
    simpa using Blk.made w (.int .i64 0) p.length 2
  clear hmk
  go_loopw [13] (fun i wr => ∃ k : Nat, k ≤ p.length ∧ i = .int .i64 k ∧ Below w.heap.size w wr ∧ Blk wr w.heap.size 2 (((thenL p q).take k).map (Value.int .i64) ++ (List.replicate p.length (Value.int .i64 0)).drop k)) (fun i _ => p.length - (intOf i).toNat)
  case atStart => exact ⟨0, Nat.zero_le _, rfl, hB0, hK0⟩
  case round =>
    clear hB0 hK0
    obtain ⟨k, hk, rfl, hb, hblk⟩ := hrel
    by_cases hlt : k < p.length
    · obtain ⟨b, o, rfl, hcell⟩ := (hp.below hb).get k hlt
      have hr1 := HR.out _ (nth_mem (p := p) (x := k) (by omega) (by omega))
      obtain ⟨hr0, hr1⟩ := hr1
      obtain ⟨b2, o2, rfl, hcell2⟩ := (hq.below hb).geti (nth p k) hr0 hr1
      obtain ⟨u, h2⟩ := fill_cell hblk (k := k) (by simp; omega)
      have h3 := hblk.frozen k
      have Hb := Lib.hid hb; have Hblk := Lib.hid hblk; clear hb hblk
      go_wp2
      go_roundw
      case rel =>
        refine ⟨k + 1, by omega, by go_num, Hb.out.setCell (p := ⟨w.heap.size, k, none⟩) (Nat.le_refl _) _, ?_⟩
        have := Hblk.out.set k (.int .i64 (nth q (nth p k)))
        rwa [fill_set _ _ (by simpa using hlt) _ (by simp) _ (nth_thenL _ _ _ (by omega) (by omega)).symm] at this
      case measure => simp [intOf]; omega
    · have Hb := Lib.hid hb; have Hblk := Lib.hid hblk; clear hb hblk
      obtain rfl : k = p.length := by omega
      go_wp2
      go_ret
      exact ⟨_, rfl, Own.of_blk (by have := Hblk.out; rwa [fill_done _ _ (by simp)] at this) (Nat.le_refl _) (by simp [maxLen]; omega) (by simp) (by simp), Hb.out⟩

set_option maxHeartbeats 400000 in
theorem c_l01Then (v1 v2 : Value) (p q : List Int) (w : World) (hp : Ints w v1 p) (hq : Ints w v2 q) (hr : ∀ x ∈ p, 0 ≤ x ∧ x < q.length) (hn : p.length ≤ 1048576) :
    Calls Try.prog 109 #[v1, v2] w (RInts w (thenL p q)) := by
  obtain ⟨a, c, rfl, hc, hm⟩ := hp.shape
  obtain ⟨a2, c2, rfl, hc2, hm2⟩ := hq.shape
  have HR := Lib.hid hr; clear hr
  go_enter Try.func109, Try.ntmps109
  go_wp2
  go_loopw [5, 6] (fun s i wr => ∃ (k : Nat) (sa : Option Addr) (sc : Nat), k ≤ p.length ∧ i = .int .i64 k ∧ s = .slice sa k sc ∧ Below w.heap.size w wr ∧ Own w.heap.size wr (.slice sa k sc) ((thenL p q).take k)) (fun _ i _ => p.length - (intOf i).toNat)
  case atStart => exact ⟨0, _, _, Nat.zero_le _, rfl, rfl, (Below.refl _ _).alloc (Nat.le_refl _) _, Own.made0 w (Nat.le_refl _)⟩
  case round =>
    obtain ⟨k, sa, sc, hk, rfl, rfl, hb, hown⟩ := hrel
    have hlen : ((thenL p q).take k).length = k := by simp; omega
    by_cases hlt : k < p.length
    · obtain ⟨b, o, rfl, hcell⟩ := (hp.below hb).get k hlt
      obtain ⟨hr0, hr1⟩ := HR.out _ (nth_mem (p := p) (x := k) (by omega) (by omega))
      obtain ⟨b2, o2, rfl, hcell2⟩ := (hq.below hb).geti (nth p k) hr0 hr1
      have Hb := Lib.hid hb; have Ho := Lib.hid hown; have Hl := Lib.hid hlen; have Hs := Lib.hid hb.size; clear hb hown hlen
      go_wp2_with (at_builtin; refine wpList_app_int w.heap.size wr _ ((thenL p q).take k) (nth q (nth p k)) _ _ rfl rfl rfl Ho.out rfl (by rw [Hl.out]; omega) Hs.out ?_; intro a' c' w' hown' hkeep; rw [Hl.out]; have Hk := Lib.hid hkeep; have Ho' := Lib.hid hown'; clear hkeep hown')
      go_roundw
      case rel =>
        have h1 := Ho'.out
        rw [Hl.out, ← thenL_snoc _ _ _ hlt] at h1
        exact ⟨k + 1, a', c', by omega, by go_num, rfl, Ho.out.frame Hb.out (Nat.le_refl _) Hs.out Hk.out, h1⟩
      case measure => simp [intOf]; omega
    · have Hb := Lib.hid hb; have Ho := Lib.hid hown; clear hb hown hlen
      obtain rfl : k = p.length := by omega
      go_wp2
      go_ret
      exact ⟨_, rfl, by have := Ho.out; rwa [List.take_of_length_le (by simp)] at this, Hb.out⟩

theorem back_map (p : List Int) (k : Nat) (x : Int) : ((backF p k).map (Value.int .i64)).set (nth p k).toNat (.int .i64 k) = (backF p (k+1)).map (Value.int .i64) := by
  simp [backF, List.map_set]

set_option maxHeartbeats 400000 in
theorem c_inverse (v : Value) (p : List Int) (w : World) (hp : Ints w v p) (hr : ∀ x ∈ p, 0 ≤ x ∧ x < p.length) (hn : p.length ≤ 1048576) :
    Calls Try.prog 82 #[v] w (RInts w (invL p)) := by
  obtain ⟨a, c, rfl, hc, hm⟩ := hp.shape
  have HR := Lib.hid hr; clear hr
  have hmk := run_make_row' (P := Try.prog) 26 2 (.int .i64 0) 8 Try.underlying26 inf_int64 rfl .i64 .i64 p.length (by omega) (by omega)
  go_enter Try.func82, Try.ntmps82
  go_wp2
  have hB0 : Below w.heap.size w (w.alloc (.cells (madeCells #[.int .i64 0] p.length) 2)) := (Below.refl _ _).alloc (Nat.le_refl _) _
  have hK0 : Blk (w.alloc (.cells (madeCells #[.int .i64 0] p.length) 2)) w.heap.size 2 ((backF p 0).map (Value.int .i64)) := by
    have := Blk.made w (.int .i64 0) p.length 2
    simpa [backF] using this
  clear hmk
  go_loopw [11] (fun i wr => ∃ k : Nat, k ≤ p.length ∧ i = .int .i64 k ∧ Below w.heap.size w wr ∧ Blk wr w.heap.size 2 ((backF p k).map (Value.int .i64))) (fun i _ => p.length - (intOf i).toNat)
  case atStart => exact ⟨0, Nat.zero_le _, rfl, hB0, hK0⟩
  case round =>
    clear hB0 hK0
    obtain ⟨k, hk, rfl, hb, hblk⟩ := hrel
    by_cases hlt : k < p.length
    · obtain ⟨b, o, rfl, hcell⟩ := (hp.below hb).get k hlt
      obtain ⟨hr0, hr1⟩ := HR.out _ (nth_mem (p := p) (x := k) (by omega) (by omega))
      obtain ⟨u, h2⟩ := fill_cell hblk (k := (nth p k).toNat) (by simp; omega)
      have h3 := hblk.frozen (nth p k).toNat
      have Hb := Lib.hid hb; have Hblk := Lib.hid hblk; clear hb hblk
      go_wp2
      go_roundw
      case rel =>
        refine ⟨k + 1, by omega, by go_num, Hb.out.setCell (p := ⟨w.heap.size, (nth p k).toNat, none⟩) (Nat.le_refl _) _, ?_⟩
        have := Hblk.out.set (nth p k).toNat (.int .i64 k)
        rwa [back_map p k 0] at this
      case measure => simp [intOf]; omega
    · have Hb := Lib.hid hb; have Hblk := Lib.hid hblk; clear hb hblk
      obtain rfl : k = p.length := by omega
      go_wp2
      go_ret
      exact ⟨_, rfl, Own.of_blk Hblk.out (Nat.le_refl _) (by simp [maxLen]; omega) (by simp) (by simp), Hb.out⟩

end Go.Proofs.Ytgmhnjccgldddaa
