/-
  Results that are pairs of tables, stored into the call's own result: words for the contracts of functions that return a pair map. No statement is proved here.
-/
import Derived.Test.YtgmhnjccgldddaaS2b
import Derived.Test.YtgmhnjccgldddaaT1
namespace Go.Proofs.Ytgmhnjccgldddaa
set_option linter.unusedVariables false
set_option linter.unusedSimpArgs false
open Go.RowKit

theorem Rows.any {w : World} {v : Value} {t : List (List Int)} (h : Rows w v t) : ∃ a l c, v = .slice a l c := by
  obtain ⟨a, c, rfl, _, _⟩ := h.shape
  exact ⟨_, _, _, rfl⟩
theorem OwnRows.any {B : Nat} {w : World} {v : Value} {t : List (List Int)} (h : OwnRows B w v t) : ∃ a l c, v = .slice a l c := h.rows.any
theorem storedR {w w2 : World} {r1 r2 : Value} {A B : List (List Int)} {lo q : Nat} (hB : Below w.heap.size w w2) (hs : OwnRows lo w2 r1 A ∧ OwnRows lo w2 r2 B) (hq : w.heap.size ≤ q) (hlo : q < lo) :
    RdSol 0 ((w2.setCell ⟨q, 0, none⟩ r1).setCell ⟨q, 1, none⟩ r2).heap.size ((w2.setCell ⟨q, 0, none⟩ r1).setCell ⟨q, 1, none⟩ r2) r1 r2 A B ∧ Below w.heap.size w ((w2.setCell ⟨q, 0, none⟩ r1).setCell ⟨q, 1, none⟩ r2) := by
  have k : Keep (fun b => b = q) w2 ((w2.setCell ⟨q, 0, none⟩ r1).setCell ⟨q, 1, none⟩ r2) := ((Keep.refl (fun b => b = q) w2).setCell (p := ⟨q, 0, none⟩) (.inl rfl) _).setCell (p := ⟨q, 1, none⟩) (.inl rfl) _
  exact ⟨⟨_, rfl, ⟨(hs.1.keep k (fun b h1 _ h3 => by omega)).rows, (hs.2.keep k (fun b h1 _ h3 => by omega)).rows⟩, Nat.le_refl _, Below.refl _ _⟩, (hB.setCell (p := ⟨q, 0, none⟩) hq _).setCell (p := ⟨q, 1, none⟩) hq _⟩
theorem rsolR_of {w : World} {A B : List (List Int)} {e : Ending} {w' : World} (h : RSol w A B e w') : RSolR w A B e w' := by
  obtain ⟨r1, r2, he, hs, hb⟩ := h
  obtain ⟨lo1, hi1, lo2, hi2, h1, _, h3, _, _, k1, k2⟩ := hs
  exact ⟨r1, r2, he, ⟨k1.out.mono h1, k2.out.mono h3⟩, hb⟩
end Go.Proofs.Ytgmhnjccgldddaa
