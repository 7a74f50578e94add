/-
  Contracts of the laws' own helpers for pairs of tables: size, copy, compare, mark, held. No condition but sizes.
-/
import Derived.Test.YtnbhghgkjcfcmaaDoorLawB
namespace Go.Proofs.YtnbhghgkjcfcmaaDoor
set_option linter.unusedVariables false
set_option linter.unusedSimpArgs false
open Go.RowKit

/-- A pair of tables that reads as A and B. -/
def Sol (w : World) (v1 v2 : Value) (A B : List (List Int)) : Prop := Rows w v1 A ∧ Rows w v2 B
/-- .. of the call's own: the first table's blocks lie below the second's, or the other way round. -/
def OwnSol (lo hi : Nat) (w : World) (v1 v2 : Value) (A B : List (List Int)) : Prop :=
  ∃ l1 h1 l2 h2, lo ≤ l1 ∧ h1 ≤ hi ∧ lo ≤ l2 ∧ h2 ≤ hi ∧ (h1 ≤ l2 ∨ h2 ≤ l1) ∧ OwnRowsIn l1 h1 w v1 A ∧ OwnRowsIn l2 h2 w v2 B
theorem OwnSol.sol {lo hi : Nat} {w : World} {v1 v2 : Value} {A B : List (List Int)} (h : OwnSol lo hi w v1 v2 A B) : Sol w v1 v2 A B := by
  obtain ⟨_, _, _, _, _, _, _, _, _, h1, h2⟩ := h
  exact ⟨h1.rows, h2.rows⟩
theorem Sol.below {w w' : World} {v1 v2 : Value} {A B : List (List Int)} (h : Sol w v1 v2 A B) (hb : Below w.heap.size w w') : Sol w' v1 v2 A B := ⟨h.1.below hb, h.2.below hb⟩
theorem OwnSol.under {lo hi : Nat} {w w' : World} {v1 v2 : Value} {A B : List (List Int)} (h : OwnSol lo hi w v1 v2 A B) (hb : Below w.heap.size w w') : OwnSol lo hi w' v1 v2 A B := by
  obtain ⟨l1, h1, l2, h2, a, b, c, d, e, f, g⟩ := h
  exact ⟨l1, h1, l2, h2, a, b, c, d, e, f.under hb, g.under hb⟩
theorem OwnSol.keep {lo hi : Nat} {S : Nat → Prop} {w w' : World} {v1 v2 : Value} {A B : List (List Int)} (h : OwnSol lo hi w v1 v2 A B) (k : Keep S w w') (hs : ∀ b, lo ≤ b → b < hi → ¬ S b) : OwnSol lo hi w' v1 v2 A B := by
  obtain ⟨l1, h1, l2, h2, a, b, c, d, e, f, g⟩ := h
  exact ⟨l1, h1, l2, h2, a, b, c, d, e, f.keep k fun x y z => hs x (by omega) (by omega), g.keep k fun x y z => hs x (by omega) (by omega)⟩
/-- One table made, then the other. -/
theorem OwnSol.mk {lo : Nat} {w1 w2 : World} {v1 v2 : Value} {A B : List (List Int)} (h1 : OwnRows lo w1 v1 A) (hb : Below w1.heap.size w1 w2) (h2 : OwnRows w1.heap.size w2 v2 B) (hlo : lo ≤ w1.heap.size) : OwnSol lo w2.heap.size w2 v1 v2 A B :=
  ⟨lo, w1.heap.size, w1.heap.size, w2.heap.size, Nat.le_refl _, hb.size, hlo, Nat.le_refl _, .inl (Nat.le_refl _), h1.inn.under hb, h2.inn⟩
theorem OwnSol.widen {lo lo' hi hi' : Nat} {w : World} {v1 v2 : Value} {A B : List (List Int)} (h : OwnSol lo hi w v1 v2 A B) (hl : lo' ≤ lo) (hh : hi ≤ hi') : OwnSol lo' hi' w v1 v2 A B := by
  obtain ⟨l1, h1, l2, h2, a, b, c, d, e, f, g⟩ := h
  exact ⟨l1, h1, l2, h2, by omega, by omega, by omega, by omega, e, f, g⟩

def RSol (w0 : World) (A B : List (List Int)) (e : Ending) (w' : World) : Prop := ∃ r1 r2, e = .returned (.agg #[r1, r2]) ∧ OwnSol w0.heap.size w'.heap.size w' r1 r2 A B ∧ Below w0.heap.size w0 w'
def RSolC (w0 : World) (A B : List (List Int)) (c : Int) (e : Ending) (w' : World) : Prop := ∃ r1 r2, e = .returned (.tuple #[.agg #[r1, r2], .int .i64 c]) ∧ OwnSol w0.heap.size w'.heap.size w' r1 r2 A B ∧ Below w0.heap.size w0 w'

/-- The two cells of a boxed pair, in whatever later world. -/
theorem box_two (w : World) (v1 v2 : Value) (t : TypeId) : Blk (w.alloc (.cells #[v1, v2] t)) w.heap.size t [v1, v2] := heap_alloc_new w _
theorem two_cells {w : World} {b : Nat} {t : TypeId} {v1 v2 : Value} (h : Blk w b t [v1, v2]) :
    w.cell? ⟨b, 0, none⟩ = some v1 ∧ w.cell? ⟨b, 1, none⟩ = some v2 ∧ w.frozen? ⟨b, 0, none⟩ = false ∧ w.frozen? ⟨b, 1, none⟩ = false :=
  ⟨h.cell (i := 0) (by simp), h.cell (i := 1) (by simp), h.frozen 0, h.frozen 1⟩

theorem keep1 (w : World) (b i : Nat) (v : Value) : Keep (fun k => k = b) w (w.setCell ⟨b, i, none⟩ v) := (Keep.refl (fun k => k = b) w).setCell (p := ⟨b, i, none⟩) (.inl rfl) v
/-- Three blocks laid one after the other. -/
theorem boxes3 (w : World) (c0 c1 c2 : List Value) (t0 t1 t2 : TypeId) :
    Blk (((w.alloc (.cells c0.toArray t0)).alloc (.cells c1.toArray t1)).alloc (.cells c2.toArray t2)) w.heap.size t0 c0 ∧
    Blk (((w.alloc (.cells c0.toArray t0)).alloc (.cells c1.toArray t1)).alloc (.cells c2.toArray t2)) (w.heap.size + 1) t1 c1 ∧
    Blk (((w.alloc (.cells c0.toArray t0)).alloc (.cells c1.toArray t1)).alloc (.cells c2.toArray t2)) (w.heap.size + 1 + 1) t2 c2 ∧
    Below w.heap.size w (((w.alloc (.cells c0.toArray t0)).alloc (.cells c1.toArray t1)).alloc (.cells c2.toArray t2)) ∧
    (((w.alloc (.cells c0.toArray t0)).alloc (.cells c1.toArray t1)).alloc (.cells c2.toArray t2)).heap.size = w.heap.size + 3 := by
  have e1 : (w.alloc (.cells c0.toArray t0)).heap.size = w.heap.size + 1 := by simp
  have e2 : ((w.alloc (.cells c0.toArray t0)).alloc (.cells c1.toArray t1)).heap.size = w.heap.size + 1 + 1 := by simp
  have h0 := Blk.new w c0 t0
  have h1 := Blk.new (w.alloc (.cells c0.toArray t0)) c1 t1
  have h2 := Blk.new ((w.alloc (.cells c0.toArray t0)).alloc (.cells c1.toArray t1)) c2 t2
  rw [e1] at h1
  rw [e2] at h2
  exact ⟨(h0.alloc _).alloc _, h1.alloc _, h2, (((Below.refl _ _).alloc (Nat.le_refl _) _).alloc (by omega) _).alloc (by omega) _, by simp⟩
theorem boxes2 (w : World) (c0 c1 : List Value) (t0 t1 : TypeId) :
    Blk ((w.alloc (.cells c0.toArray t0)).alloc (.cells c1.toArray t1)) w.heap.size t0 c0 ∧
    Blk ((w.alloc (.cells c0.toArray t0)).alloc (.cells c1.toArray t1)) (w.heap.size + 1) t1 c1 ∧
    Below w.heap.size w ((w.alloc (.cells c0.toArray t0)).alloc (.cells c1.toArray t1)) ∧
    ((w.alloc (.cells c0.toArray t0)).alloc (.cells c1.toArray t1)).heap.size = w.heap.size + 2 := by
  have e1 : (w.alloc (.cells c0.toArray t0)).heap.size = w.heap.size + 1 := by simp
  have h0 := Blk.new w c0 t0
  have h1 := Blk.new (w.alloc (.cells c0.toArray t0)) c1 t1
  rw [e1] at h1
  exact ⟨h0.alloc _, h1, ((Below.refl _ _).alloc (Nat.le_refl _) _).alloc (by omega) _, by simp⟩
theorem boxes1 (w : World) (c0 : List Value) (t0 : TypeId) :
    Blk (w.alloc (.cells c0.toArray t0)) w.heap.size t0 c0 ∧ Below w.heap.size w (w.alloc (.cells c0.toArray t0)) ∧ (w.alloc (.cells c0.toArray t0)).heap.size = w.heap.size + 1 :=
  ⟨Blk.new w c0 t0, (Below.refl _ _).alloc (Nat.le_refl _) _, by simp⟩





end Go.Proofs.YtnbhghgkjcfcmaaDoor
