/-
  Contracts of the laws' own helpers for slices of integers: copy, compare, mark, held. No condition but sizes.
-/
import Derived.Test.YtnbhghgkjcfcmaaDoorBase
namespace Go.Proofs.YtnbhghgkjcfcmaaDoor
set_option linter.unusedVariables false
set_option linter.unusedSimpArgs false
open Go.RowKit

theorem map_take_snoc (xs : List Int) (k : Nat) (h : k < xs.length) (r : List Value) (hr : r.length = xs.length) :
    ((xs.take k).map (Value.int .i64) ++ r.drop k).set k (.int .i64 xs[k]) = (xs.take (k+1)).map (Value.int .i64) ++ r.drop (k+1) := by
  apply List.ext_getElem?
  intro i
  simp only [List.getElem?_set, List.getElem?_append, List.length_append, List.length_map, List.length_take, List.length_drop, List.getElem?_map, List.getElem?_take, List.getElem?_drop]
  by_cases h1 : i < k
  · simp [h1, show ¬ k = i from by omega, show i < xs.length from by omega, show i < k + 1 from by omega, show i < min k xs.length from by omega, show i < min (k+1) xs.length from by omega]
  · by_cases h2 : i = k
    · subst h2
      simp [h, show min i xs.length = i from by omega, show min (i+1) xs.length = i + 1 from by omega]
      omega
    · simp [h1, h2, show ¬ k = i from by omega, show min k xs.length = k from by omega, show min (k+1) xs.length = k+1 from by omega, show ¬ i < k + 1 from by omega, show k + (i - k) = i from by omega, show k + 1 + (i - (k+1)) = i from by omega]


theorem eq_snoc {xs ys : List Int} {k : Nat} (hk : k < xs.length) (hk' : k < ys.length) (h : xs.take k = ys.take k) (he : xs[k] = ys[k]) : xs.take (k+1) = ys.take (k+1) := by
  rw [List.take_succ_eq_append_getElem hk, List.take_succ_eq_append_getElem hk', h, he]

theorem drewN_drewN (w : World) (n m : Nat) : (w.drewN n).drewN m = w.drewN (n + m) := by
  simp [World.drewN, Nat.add_assoc]



/-- The marks k, k + 1, ..: n of them. -/
def marks (k : Int) (n : Nat) : List Int := (List.range n).map fun (i : Nat) => k + (i : Int)
@[simp] theorem marks_length (k : Int) (n : Nat) : (marks k n).length = n := by simp [marks]
theorem marks_get (k : Int) (n i : Nat) (h : i < (marks k n).length) : (marks k n)[i] = k + i := by simp [marks]
theorem marks_snoc (k : Int) (n : Nat) : marks k (n + 1) = marks k n ++ [k + n] := by simp [marks, List.range_succ]
theorem marks_set (k : Int) (j : Nat) (r : List Value) (h : j < r.length) :
    ((marks k j).map (Value.int .i64) ++ r.drop j).set j (.int .i64 (k + j)) = (marks k (j+1)).map (Value.int .i64) ++ r.drop (j+1) := by
  rw [List.drop_eq_getElem_cons h, marks_snoc]
  rw [List.set_append]
  simp only [List.length_map, marks_length, Nat.lt_irrefl, if_false, Nat.sub_self, List.set_cons_zero, List.map_append, List.map_cons, List.map_nil, List.append_assoc, List.cons_append, List.nil_append]

def MarkPost (B : Nat) (w0 : World) (v : Value) (n : Nat) (k : Int) (e : Ending) (w' : World) : Prop :=
  e = .returned (.int .i64 (k + n)) ∧ Own B w' v (marks k n) ∧ Keep (fun b => v.ownBlock = some b) w0 w'


/-- Owned, in a block from lo up to hi. -/
def OwnIn (lo hi : Nat) (w : World) (v : Value) (xs : List Int) : Prop := Own lo w v xs ∧ ∀ k, v.ownBlock = some k → k < hi
theorem Own.inn {lo : Nat} {w : World} {v : Value} {xs : List Int} (h : Own lo w v xs) : OwnIn lo w.heap.size w v xs := ⟨h, fun _ hk => (h.lt hk).2⟩
theorem OwnIn.under {lo hi : Nat} {w w' : World} {v : Value} {xs : List Int} (h : OwnIn lo hi w v xs) (hb : Below w.heap.size w w') : OwnIn lo hi w' v xs := ⟨h.1.under hb, h.2⟩
theorem OwnIn.keep {lo hi : Nat} {S : Nat → Prop} {w w' : World} {v : Value} {xs : List Int} (h : OwnIn lo hi w v xs) (k : Keep S w w') (hs : ∀ b, lo ≤ b → b < hi → ¬ S b) : OwnIn lo hi w' v xs := by
  refine ⟨?_, h.2⟩
  obtain ⟨⟨hl, h1 | ⟨g, cap, cur, hv, hb, hg, r⟩⟩, h2⟩ := h
  · exact ⟨hl, .inl h1⟩
  · exact ⟨hl, .inr ⟨g, cap, cur, hv, hb, by rw [k.block g (Array.getElem?_eq_some_iff.1 hg).1 (hs g hb (h2 g (by rw [hv]; rfl)))]; exact hg, r⟩⟩
theorem OwnIn.ints {lo hi : Nat} {w : World} {v : Value} {xs : List Int} (h : OwnIn lo hi w v xs) : Ints w v xs := h.1.ints


end Go.Proofs.YtnbhghgkjcfcmaaDoor
