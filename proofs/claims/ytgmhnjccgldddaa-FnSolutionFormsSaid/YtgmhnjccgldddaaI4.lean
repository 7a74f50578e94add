/-
  What the program's identity, 'solutionBy' and 'twist' return (layer 1).
-/
import Derived.Test.YtgmhnjccgldddaaI3
import Derived.Test.YtgmhnjccgldddaaLawC
namespace Go.Proofs.Ytgmhnjccgldddaa
set_option linter.unusedVariables false
set_option linter.unusedSimpArgs false
open Go.RowKit

set_option maxHeartbeats 400000 in
theorem c_identity (n : Nat) (w : World) (hn : n ≤ 1048576) :
    Calls Try.prog 86 #[.int .i64 n] w (RInts w (iota n)) := by
  have hmk := run_make_row' (P := Try.prog) 26 2 (.int .i64 0) 8 Try.underlying26 inf_int64 rfl .i64 .i64 n (by omega) (by omega)
  go_enter Try.func86, Try.ntmps86
  go_wp2
  have hB0 : Below w.heap.size w (w.alloc (.cells (madeCells #[.int .i64 0] n) 2)) := (Below.refl _ _).alloc (Nat.le_refl _) _
  have hK0 : Blk (w.alloc (.cells (madeCells #[.int .i64 0] n) 2)) w.heap.size 2 (((iota n).take 0).map (Value.int .i64) ++ (List.replicate n (Value.int .i64 0)).drop 0) := by
    simpa using Blk.made w (.int .i64 0) n 2
  clear hmk
  go_loopw [9, 4] (fun i _ wr => ∃ k : Nat, k ≤ n ∧ i = .int .i64 k ∧ Below w.heap.size w wr ∧ Blk wr w.heap.size 2 (((iota n).take k).map (Value.int .i64) ++ (List.replicate n (Value.int .i64 0)).drop k)) (fun i _ _ => n - (intOf i).toNat)
  case atStart => exact ⟨0, Nat.zero_le _, rfl, hB0, hK0⟩
  case round =>
    clear hB0 hK0
    obtain ⟨k, hk, rfl, hb, hblk⟩ := hrel
    by_cases hlt : k < n
    · obtain ⟨u, h2⟩ := fill_cell0 hblk (k := k) (by simp; omega)
      have h3 := hblk.frozen k
      have hk0 : (0 : Int) ≤ k := by omega
      have hk1 : (k : Int) < n := by omega
      have Hb := Lib.hid hb; have Hblk := Lib.hid hblk; clear hb hblk
      go_wp2
      go_roundw
      case rel =>
        refine ⟨k + 1, by omega, by go_num, Hb.out.setCell (p := ⟨w.heap.size, k, none⟩) (Nat.le_refl _) _, ?_⟩
        have := Hblk.out.set k (.int .i64 k)
        rwa [fill_set _ _ (by simpa using hlt) _ (by simp) _ (nth_iota n k hk0 hk1).symm] at this
      case measure => simp [intOf]; omega
    · have Hb := Lib.hid hb; have Hblk := Lib.hid hblk; clear hb hblk
      obtain rfl : k = n := by omega
      go_wp2
      go_ret
      have hr := Hblk.out
      rw [fill_done _ _ (by simp)] at hr
      exact ⟨_, rfl, Own.of_blk hr (Nat.le_refl _) (by simp [maxLen]; omega) (by simp) (by simp), Hb.out⟩

/-- What is asked of a function value of two values: at every two indices it answers g and h. -/
def Pays3 (w : World) (f : FuncId) (lb : Array Value) (n : Nat) (g h : Int → Int → Int) : Prop :=
  ∀ W (x y : Nat), Below w.heap.size w W → x < n → y < n → Calls Try.prog f (#[.int .i64 x, .int .i64 y] ++ lb) W (RVal W (.tuple #[.int .i64 (g x y), .int .i64 (h x y)]))

/-- The result's cells were set last. -/
theorem stored {w w2 : World} {r1 r2 : Value} {A B : List (List Int)} {lo q : Nat} (hB : Below w.heap.size w w2) (hs : OwnSol lo w2.heap.size w2 r1 r2 A B) (hq : w.heap.size ≤ q) (hlo : q < lo) :
    OwnSol w.heap.size ((w2.setCell ⟨q, 0, none⟩ r1).setCell ⟨q, 1, none⟩ r2).heap.size ((w2.setCell ⟨q, 0, none⟩ r1).setCell ⟨q, 1, none⟩ r2) r1 r2 A B ∧ Below w.heap.size w ((w2.setCell ⟨q, 0, none⟩ r1).setCell ⟨q, 1, none⟩ r2) := by
  refine ⟨OwnSol.widen (hs.keep (S := fun b => b = q) (((Keep.refl (fun b => b = q) w2).setCell (p := ⟨q, 0, none⟩) (.inl rfl) _).setCell (p := ⟨q, 1, none⟩) (.inl rfl) _) (fun b h1 h2 h3 => by omega)) (by omega) (by simp [World.setCell]), ?_⟩
  exact (hB.setCell (p := ⟨q, 0, none⟩) hq _).setCell (p := ⟨q, 1, none⟩) hq _

theorem one_cell {w : World} {b : Nat} {t : TypeId} {v1 : Value} (h : Blk w b t [v1]) : w.cell? ⟨b, 0, none⟩ = some v1 := h.cell (i := 0) (by simp)


def twA (p : List Int) : List (List Int) := tabOf p.length fun _ y => nth p y
def twB (p q : List Int) : List (List Int) := tabOf p.length fun x _ => nth q x
end Go.Proofs.Ytgmhnjccgldddaa
