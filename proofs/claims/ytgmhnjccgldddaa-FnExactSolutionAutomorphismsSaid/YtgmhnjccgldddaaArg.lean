/-
  How an argument of a law reads: a slice of integers, a slice of slices of integers, a pair of tables, opened into the words of the base. No condition.
-/
import Derived.Test.YtgmhnjccgldddaaRows
import Derived.Test.YtgmhnjccgldddaaBase
import Derived.ProofKit
import Derived.OpenShut
import Derived.ShutString
import Derived.ChangeOld
import Derived.Lib.SmallJoins
import Derived.Deep.Slices
namespace Go.Proofs.Ytgmhnjccgldddaa
set_option linter.unusedVariables false
set_option linter.unusedSimpArgs false
open Go.ChangeShapes Go.WideShapes Go.ChangeAt Go.RowKit

theorem own_knob : ownKnob Try.prog.godebug = none := by kernel_rfl
theorem laid_out : laidOutB Try.prog = true := by kernel_rfl
theorem cells_int64 : Try.prog.cellsOf 2 = 1 := by kernel_rfl
theorem cells_ints : Try.prog.cellsOf 26 = 1 := by kernel_rfl

section
variable {H : Type} {enc : TypeId × Value → H} {w : World} {base : Nat} {spare : Nat → Bool} {held : Bool}

theorem ints_of_trod {fuel : Nat} {u : Value} {x : DataW H × List MemPlace} (h : DataW.trod enc Try.prog w base spare held fuel 26 [u] = some x) : ∃ xs, Ints w u xs := by
  rcases open_ints Try.underlying26 Try.underlying2 cells_int64 h with ⟨hcs, _⟩ | ⟨a, len, cap, zs, hcs, _, hl, hm, hz, _, hcell, _⟩
  · simp at hcs; subst hcs
    exact ⟨[], Ints.nil w⟩
  · simp at hcs; subst hcs
    have hge : len ≤ zs.length := by rw [hz]; split <;> omega
    have hlen : (zs.take len).length = len := by simp; omega
    refine ⟨zs.take len, some a, cap, by rw [hlen], by rw [hlen]; exact hl, hm, fun i hi => ?_⟩
    have hi' : i < zs.length := by omega
    obtain ⟨b, off, rfl, hc⟩ := ints_at hcell (by omega)
    refine ⟨b, off, rfl, ?_⟩
    rw [hc i hi']
    simp [hi']

theorem rows_of_trod {fuel : Nat} {u : Value} {x : DataW H × List MemPlace} (h : DataW.trod enc Try.prog w base spare held fuel 22 [u] = some x) : ∃ xss, Rows w u xss := by
  rcases Deep.open_slice1 Try.underlying22 cells_ints h with ⟨hcs, _⟩ | ⟨a, len, cap, m, n, V, D, Pl, hcs, _, hl, hm, hmm, _, hx⟩
  · simp at hcs; subst hcs
    exact ⟨[], Rows.nil w⟩
  · simp at hcs; subst hcs
    have hge : len ≤ m := by rw [hmm]; split <;> omega
    have each : ∀ i, i < len → ∃ xs, Ints w (V i) xs := fun i hi => ints_of_trod (hx i (by omega)).2
    obtain ⟨Z, hZ⟩ := Deep.choose_lt each
    refine ⟨(List.range len).map Z, some a, cap, by simp, by simpa using hl, hm, fun i hi => ?_⟩
    have hi' : i < len := by simpa using hi
    have h0 := (hx 0 (by omega)).1
    obtain ⟨b, off, spot⟩ := a
    have hspot : spot = none := by simpa [Addr.add] using World.cell?_spot h0
    subst hspot
    refine ⟨b, off, V i, rfl, ?_, ?_⟩
    · have := (hx i (by omega)).1
      rwa [Go.WideShapes.add_plain] at this
    · simpa using hZ i hi'

end
end Go.Proofs.Ytgmhnjccgldddaa
