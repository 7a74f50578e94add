/-
  The reference's l02Twist (layer 1).
-/
import Derived.Test.YtkcobfkmeaakoaaDoorS2a
namespace Go.Proofs.YtkcobfkmeaakoaaDoor
set_option linter.unusedVariables false
set_option linter.unusedSimpArgs false
open Go.RowKit

/-- The result can be read; nothing that was there has turned. -/
def RSolR (w0 : World) (A B : List (List Int)) (e : Ending) (w' : World) : Prop := ∃ r1 r2, e = .returned (.agg #[r1, r2]) ∧ (OwnRows w0.heap.size w' r1 A ∧ OwnRows w0.heap.size w' r2 B) ∧ Below w0.heap.size w0 w'

theorem rowOf_self (p : List Int) : rowOf p.length (nth p) = p := by
  apply ext_nth (by simp)
  intro k hk
  rw [nth_rowOf p.length (nth p) k (by simpa using hk)]

theorem rowOf_const (n : Nat) (c : Int) : rowOf n (fun _ => c) = List.replicate n c := by
  unfold rowOf
  rw [List.map_const']
  simp

theorem OwnRows.shape' {B : Nat} {w : World} {v : Value} {xss : List (List Int)} (h : OwnRows B w v xss) : ∃ a c, v = .slice a xss.length c ∧ Rows w (.slice a xss.length c) xss := by
  have hr := h.rows
  obtain ⟨a, c, rfl, _⟩ := hr.shape
  exact ⟨a, c, rfl, hr⟩

/-- A pair of tables that can be read, all of it below hi. -/
def RdSol (lo hi : Nat) (w : World) (v1 v2 : Value) (A B : List (List Int)) : Prop := ∃ w0 : World, lo = 0 ∧ Sol w0 v1 v2 A B ∧ w0.heap.size ≤ hi ∧ Below w0.heap.size w0 w
theorem RdSol.sol {lo hi : Nat} {w : World} {v1 v2 : Value} {A B : List (List Int)} (h : RdSol lo hi w v1 v2 A B) : Sol w v1 v2 A B := by
  obtain ⟨w0, _, h1, _, h2⟩ := h
  exact h1.below h2
theorem RdSol.under {lo hi : Nat} {w w' : World} {v1 v2 : Value} {A B : List (List Int)} (h : RdSol lo hi w v1 v2 A B) (hb : Below w.heap.size w w') : RdSol lo hi w' v1 v2 A B := by
  obtain ⟨w0, h0, h1, h3, h2⟩ := h
  exact ⟨w0, h0, h1, h3, bb h2 hb⟩
theorem RdSol.keep {lo hi : Nat} {S : Nat → Prop} {w w' : World} {v1 v2 : Value} {A B : List (List Int)} (h : RdSol lo hi w v1 v2 A B) (k : Keep S w w') (hs : ∀ b, lo ≤ b → b < hi → ¬ S b) : RdSol lo hi w' v1 v2 A B := by
  obtain ⟨w0, h0, h1, h3, h2⟩ := h
  subst h0
  exact ⟨w0, rfl, h1, h3, h2.trans (k.below fun b hb => ⟨by have := h2.size; omega, hs b (Nat.zero_le _) (by omega)⟩)⟩
def RSolRC (w0 : World) (A B : List (List Int)) (c : Int) (e : Ending) (w' : World) : Prop := ∃ r1 r2, e = .returned (.tuple #[.agg #[r1, r2], .int .i64 c]) ∧ RdSol 0 w'.heap.size w' r1 r2 A B ∧ Below w0.heap.size w0 w'

theorem OwnRowsIn.nil0 (lo hi : Nat) (w : World) : OwnRowsIn lo hi w (.slice none 0 0) [] :=
  ⟨[], ⟨by simp, .inl ⟨rfl, rfl⟩⟩, RowVals.nil _ _, (by intro k hk; cases hk), (by intro i hi; simp at hi)⟩
theorem OwnSol.nil0 {lo hi : Nat} {w : World} (h : lo ≤ hi) : OwnSol lo hi w (.slice none 0 0) (.slice none 0 0) [] [] :=
  ⟨lo, lo, lo, lo, Nat.le_refl _, h, Nat.le_refl _, h, .inl (Nat.le_refl _), OwnRowsIn.nil0 _ _ _, OwnRowsIn.nil0 _ _ _⟩

theorem total_le (t : List (List Int)) (h : ∀ r ∈ t, r.length ≤ 12) : total t ≤ t.length * 12 := by
  induction t with
  | nil => simp [total]
  | cons r t ih =>
    have h1 := h r (by simp)
    have h2 := ih fun r hr => h r (by simp [hr])
    simp only [total, List.length_cons]
    omega
theorem tab_rows {n : Nat} {g : Int → Int → Int} (hn : n ≤ 12) : ∀ r ∈ tabOf n g, r.length ≤ 12 := by
  intro r hr
  simp only [tabOf, List.mem_map] at hr
  obtain ⟨x, _, rfl⟩ := hr
  simpa using hn
end Go.Proofs.YtkcobfkmeaakoaaDoor
