/-
  Doing one permutation after the other, and the inverse: the program's and the reference's functions (layer 1). Condition: the numbers are indices of the other list.
-/
import Derived.Test.YtnbhghgkjcfcmaaDoorI1
import Derived.Test.YtnbhghgkjcfcmaaDoorS1
import Derived.Test.YtnbhghgkjcfcmaaDoorLawA
namespace Go.Proofs.YtnbhghgkjcfcmaaDoor
set_option linter.unusedVariables false
set_option linter.unusedSimpArgs false
open Go.RowKit

/-- Writing the next entry of a list that is filled from the left. -/
theorem fill_set (ys : List Int) (k : Nat) (h : k < ys.length) (r : List Value) (hr : r.length = ys.length) (v : Int) (hv : v = nth ys k) :
    ((ys.take k).map (Value.int .i64) ++ r.drop k).set k (.int .i64 v) = (ys.take (k+1)).map (Value.int .i64) ++ r.drop (k+1) := by
  subst hv
  rw [nth_nat _ _ h]
  exact map_take_snoc ys k h r hr
theorem fill_cell {w : World} {b : Nat} {t : TypeId} {cs : List Value} (h : Blk w b t cs) {k : Nat} (hk : k < cs.length) : ∃ u, w.cell? ⟨b, k, none⟩ = some u := ⟨_, h.cell hk⟩
theorem fill_done (ys : List Int) (n : Nat) (h : n = ys.length) (z : Value) : (ys.take n).map (Value.int .i64) ++ (List.replicate n z).drop n = ys.map (Value.int .i64) := by
  subst h; simp


set_option maxHeartbeats 400000 in
theorem c_l01Then (v1 v2 : Value) (p q : List Int) (w : World) (hp : Ints w v1 p) (hq : Ints w v2 q) (hr : ∀ x ∈ p, 0 ≤ x ∧ x < q.length) (hn : p.length ≤ 1048576) :
    Calls Tryd.prog 94 #[v1, v2] w (RInts w (thenL p q)) := by
  obtain ⟨a, c, rfl, hc, hm⟩ := hp.shape
  obtain ⟨a2, c2, rfl, hc2, hm2⟩ := hq.shape
  have HR := Lib.hid hr; clear hr
  go_enter Tryd.func94, Tryd.ntmps94
  go_wp2
  go_loopw [5, 6] (fun s i wr => ∃ (k : Nat) (sa : Option Addr) (sc : Nat), k ≤ p.length ∧ i = .int .i64 k ∧ s = .slice sa k sc ∧ Below w.heap.size w wr ∧ Own w.heap.size wr (.slice sa k sc) ((thenL p q).take k)) (fun _ i _ => p.length - (intOf i).toNat)
  case atStart => exact ⟨0, _, _, Nat.zero_le _, rfl, rfl, (Below.refl _ _).alloc (Nat.le_refl _) _, Own.made0 w (Nat.le_refl _)⟩
  case round =>
    obtain ⟨k, sa, sc, hk, rfl, rfl, hb, hown⟩ := hrel
    have hlen : ((thenL p q).take k).length = k := by simp; omega
    by_cases hlt : k < p.length
    · obtain ⟨b, o, rfl, hcell⟩ := (hp.below hb).get k hlt
      obtain ⟨hr0, hr1⟩ := HR.out _ (nth_mem (p := p) (x := k) (by omega) (by omega))
      obtain ⟨b2, o2, rfl, hcell2⟩ := (hq.below hb).geti (nth p k) hr0 hr1
      have Hb := Lib.hid hb; have Ho := Lib.hid hown; have Hl := Lib.hid hlen; have Hs := Lib.hid hb.size; clear hb hown hlen
      go_wp2_with (at_builtin; refine wpList_app_int w.heap.size wr _ ((thenL p q).take k) (nth q (nth p k)) _ _ rfl rfl rfl Ho.out rfl (by rw [Hl.out]; omega) Hs.out ?_; intro a' c' w' hown' hkeep; rw [Hl.out]; have Hk := Lib.hid hkeep; have Ho' := Lib.hid hown'; clear hkeep hown')
      go_roundw
      case rel =>
        have h1 := Ho'.out
        rw [Hl.out, ← thenL_snoc _ _ _ hlt] at h1
        exact ⟨k + 1, a', c', by omega, by go_num, rfl, Ho.out.frame Hb.out (Nat.le_refl _) Hs.out Hk.out, h1⟩
      case measure => simp [intOf]; omega
    · have Hb := Lib.hid hb; have Ho := Lib.hid hown; clear hb hown hlen
      obtain rfl : k = p.length := by omega
      go_wp2
      go_ret
      exact ⟨_, rfl, by have := Ho.out; rwa [List.take_of_length_le (by simp)] at this, Hb.out⟩

theorem back_map (p : List Int) (k : Nat) (x : Int) : ((backF p k).map (Value.int .i64)).set (nth p k).toNat (.int .i64 k) = (backF p (k+1)).map (Value.int .i64) := by
  simp [backF, List.map_set]


end Go.Proofs.YtnbhghgkjcfcmaaDoor
