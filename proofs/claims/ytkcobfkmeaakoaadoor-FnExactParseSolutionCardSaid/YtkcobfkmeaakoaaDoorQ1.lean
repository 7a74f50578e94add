/-
  A text cut at a byte: the library's words and the reference's loop. No program here.
-/
import Derived.Lib.SplitLaws
import Derived.Lib.IndexBytes
import Derived.Test.YtkcobfkmeaakoaaDoorP1
namespace Go.Proofs.YtkcobfkmeaakoaaDoor
set_option linter.unusedVariables false
set_option linter.unusedSimpArgs false
open Go

/-- The parts of a list of bytes between the bytes c. -/
def parts (c : UInt8) (l : List UInt8) : List (List UInt8) := Lib.split l [c]
theorem index_app {c : UInt8} : ∀ {a : List UInt8} (r : List UInt8), c ∉ a → Lib.index (a ++ c :: r) [c] = a.length
  | [], r, _ => by rw [Lib.index_one]; simp [Lib.indexByte]
  | b :: a, r, h => by
    have hb : (b == c) = false := by
      simp only [beq_eq_false_iff_ne]
      intro e; exact h (by simp [e])
    have ih := index_app (a := a) r (fun h' => h (List.mem_cons_of_mem _ h'))
    rw [Lib.index_one] at ih ⊢
    simp only [List.cons_append, Lib.indexByte, hb, Bool.false_eq_true, if_false, ih]
    rw [if_neg (by simp)]
    simp
theorem index_not {c : UInt8} : ∀ {l : List UInt8}, c ∉ l → Lib.index l [c] = -1
  | [], _ => by rw [Lib.index_one]; rfl
  | b :: l, h => by
    have hb : (b == c) = false := by
      simp only [beq_eq_false_iff_ne]
      intro e; exact h (by simp [e])
    have ih := index_not (l := l) (fun h' => h (List.mem_cons_of_mem _ h'))
    rw [Lib.index_one] at ih ⊢
    simp only [Lib.indexByte, hb, Bool.false_eq_true, if_false, ih]
    rfl
theorem parts_none {c : UInt8} {l : List UInt8} (h : c ∉ l) : parts c l = [l] := by
  unfold parts Lib.split
  rw [Lib.count_miss (index_not h)]
  rfl
theorem parts_hit {c : UInt8} {a : List UInt8} (r : List UInt8) (h : c ∉ a) : parts c (a ++ c :: r) = a :: parts c r := by
  have hi := index_app r h
  unfold parts Lib.split
  rw [Lib.count_hit (by simp) hi]
  have hd : (a ++ c :: r).drop (a.length + 1) = r := by simp
  simp only [List.length_singleton, hd]
  rw [Nat.add_comm, Lib.splitK, hi, if_neg (by simp)]
  simp [hd]
end Go.Proofs.YtkcobfkmeaakoaaDoor
