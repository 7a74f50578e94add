/-
  The numbers of the orbits, the reference's function.
-/
import Derived.Test.YtgmhnjccgldddaaI16
namespace Go.Proofs.Ytgmhnjccgldddaa
set_option linter.unusedVariables false
set_option linter.unusedSimpArgs false
open Go.RowKit

theorem Blk.lab {w : World} {g : Nat} {t : TypeId} {l : List Int} {cs : List Value} (h : Blk w g t (l.map (Value.int .i64) ++ cs)) (k : Int) (h0 : 0 ≤ k) (hk : k < l.length) : w.cell? ⟨g, k.toNat, none⟩ = some (.int .i64 (nth l k)) := by
  have h1 : k.toNat < l.length := by omega
  rw [h.cell (by simp; omega), List.getElem_append_left (by simpa using h1)]
  simp [nth, h1]
theorem Blk.labN {w : World} {g : Nat} {t : TypeId} {l : List Int} {cs : List Value} (h : Blk w g t (l.map (Value.int .i64) ++ cs)) (k : Nat) (hk : k < l.length) : w.cell? ⟨g, k, none⟩ = some (.int .i64 (nth l k)) := h.lab (k : Int) (by omega) (by omega)
theorem Blk.labSet {w : World} {g : Nat} {t : TypeId} {l : List Int} {cs : List Value} (h : Blk w g t (l.map (Value.int .i64) ++ cs)) (k : Int) (h0 : 0 ≤ k) (hk : k < l.length) (y : Int) : Blk (w.setCell ⟨g, k.toNat, none⟩ (.int .i64 y)) g t ((l.set k.toNat y).map (Value.int .i64) ++ cs) := by
  have := h.set k.toNat (.int .i64 y)
  rwa [List.set_append, if_pos (by simp; omega), ← List.map_set] at this

theorem Ints.otherB {w : World} {b o n c g : Nat} {xs : List Int} (h : Ints w (.slice (some ⟨b, o, none⟩) n c) xs) (hne : b ≠ g) (i : Nat) (u : Value) : Ints (w.setCell ⟨g, i, none⟩ u) (.slice (some ⟨b, o, none⟩) n c) xs := by
  obtain ⟨a, c', hv, hc, hm, hcell⟩ := h
  cases hv
  refine ⟨_, _, rfl, hc, hm, fun k hk => ?_⟩
  obtain ⟨b', o', ha, h1⟩ := hcell k hk
  cases ha
  refine ⟨_, _, rfl, ?_⟩
  have e := Below.heap_setCell w ⟨g, i, none⟩ u b hne
  simp only [World.cell?] at h1 ⊢
  rw [e]
  exact h1
/-- l is l0 with number m at the elements of xs. -/
def Marked (n : Nat) (l0 l : List Int) (m : Int) (xs : List Int) : Prop := l.length = n ∧ ∀ y : Nat, y < n → nth l y = if (y : Int) ∈ xs then m else nth l0 y
theorem Marked.none {n : Nat} {l : List Int} {m : Int} (h : l.length = n) : Marked n l l m [] := ⟨h, by intro y _; simp⟩
theorem Marked.snoc {n : Nat} {l0 l : List Int} {m : Int} {xs : List Int} (h : Marked n l0 l m xs) {z : Int} (h0 : 0 ≤ z) (h1 : z < n) : Marked n l0 (l.set z.toNat m) m (xs ++ [z]) := by
  refine ⟨by simpa using h.1, fun y hy => ?_⟩
  rw [nth_set _ _ _ _ h0 (by rw [h.1]; exact h1) (by omega), h.2 y hy]
  by_cases e : (y : Int) = z
  · simp [e]
  · simp [e]
open Classical in
theorem Marked.labs {n : Nat} {L : List (List Int)} {k : Nat} {l : List Int} {xs : List Int} (h : Marked n (labs L n k).1 l (labs L n k).2 xs) (ho : IsOrb L k xs) (hf : nth (labs L n k).1 k < 0) : labs L n (k + 1) = (l, (labs L n k).2 + 1) := by
  refine labs_new hf h.1 fun y hy => ?_
  rw [h.2 y hy]
  by_cases e : (y : Int) ∈ xs
  · rw [if_pos e, if_pos ((ho.2 _).1 e)]
  · rw [if_neg e, if_neg (fun hr => e ((ho.2 _).2 hr))]

end Go.Proofs.Ytgmhnjccgldddaa
