/-
  What the program's identity, 'solutionBy' and 'twist' return (layer 1).
-/
import Derived.Test.YtnbhghgkjcfcmaaDoorI3
import Derived.Test.YtnbhghgkjcfcmaaDoorLawC
namespace Go.Proofs.YtnbhghgkjcfcmaaDoor
set_option linter.unusedVariables false
set_option linter.unusedSimpArgs false
open Go.RowKit


/-- What is asked of a function value of two values: at every two indices it answers g and h. -/
def Pays3 (w : World) (f : FuncId) (lb : Array Value) (n : Nat) (g h : Int → Int → Int) : Prop :=
  ∀ W (x y : Nat), Below w.heap.size w W → x < n → y < n → Calls Tryd.prog f (#[.int .i64 x, .int .i64 y] ++ lb) W (RVal W (.tuple #[.int .i64 (g x y), .int .i64 (h x y)]))

/-- The result's cells were set last. -/
theorem stored {w w2 : World} {r1 r2 : Value} {A B : List (List Int)} {lo q : Nat} (hB : Below w.heap.size w w2) (hs : OwnSol lo w2.heap.size w2 r1 r2 A B) (hq : w.heap.size ≤ q) (hlo : q < lo) :
    OwnSol w.heap.size ((w2.setCell ⟨q, 0, none⟩ r1).setCell ⟨q, 1, none⟩ r2).heap.size ((w2.setCell ⟨q, 0, none⟩ r1).setCell ⟨q, 1, none⟩ r2) r1 r2 A B ∧ Below w.heap.size w ((w2.setCell ⟨q, 0, none⟩ r1).setCell ⟨q, 1, none⟩ r2) := by
  refine ⟨OwnSol.widen (hs.keep (S := fun b => b = q) (((Keep.refl (fun b => b = q) w2).setCell (p := ⟨q, 0, none⟩) (.inl rfl) _).setCell (p := ⟨q, 1, none⟩) (.inl rfl) _) (fun b h1 h2 h3 => by omega)) (by omega) (by simp [World.setCell]), ?_⟩
  exact (hB.setCell (p := ⟨q, 0, none⟩) hq _).setCell (p := ⟨q, 1, none⟩) hq _

theorem one_cell {w : World} {b : Nat} {t : TypeId} {v1 : Value} (h : Blk w b t [v1]) : w.cell? ⟨b, 0, none⟩ = some v1 := h.cell (i := 0) (by simp)


def twA (p : List Int) : List (List Int) := tabOf p.length fun _ y => nth p y
def twB (p q : List Int) : List (List Int) := tabOf p.length fun x _ => nth q x
end Go.Proofs.YtnbhghgkjcfcmaaDoor
