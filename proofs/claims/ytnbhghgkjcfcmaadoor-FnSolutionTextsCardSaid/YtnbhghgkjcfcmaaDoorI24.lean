/-
  Comparing lists of integers and tables: the program's and the reference's functions, and the library's slices.Compare, slices.CompareFunc, cmp.Compare at them.
-/
import Derived.Test.YtnbhghgkjcfcmaaDoorP7
import Derived.Test.YtnbhghgkjcfcmaaDoorS1c
namespace Go.Proofs.YtnbhghgkjcfcmaaDoor
set_option linter.unusedVariables false
set_option linter.unusedSimpArgs false
open Go.RowKit

theorem below_of_drewN {w wr : World} (h : ∃ n, wr = w.drewN n) : Below w.heap.size w wr := by
  obtain ⟨n, rfl⟩ := h; exact below_drewN (Below.refl _ _) n





end Go.Proofs.YtnbhghgkjcfcmaaDoor
