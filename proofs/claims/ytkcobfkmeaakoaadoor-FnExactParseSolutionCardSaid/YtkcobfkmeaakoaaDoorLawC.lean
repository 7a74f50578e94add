/-
  Contracts of the laws' own helpers for pairs of tables: size, copy, compare, mark, held. No condition but sizes.
-/
import Derived.Test.YtkcobfkmeaakoaaDoorLawB
namespace Go.Proofs.YtkcobfkmeaakoaaDoor
set_option linter.unusedVariables false
set_option linter.unusedSimpArgs false
open Go.RowKit

/-- A pair of tables that reads as A and B. -/
def Sol (w : World) (v1 v2 : Value) (A B : List (List Int)) : Prop := Rows w v1 A ∧ Rows w v2 B
/-- .. of the call's own: the first table's blocks lie below the second's, or the other way round. -/
def OwnSol (lo hi : Nat) (w : World) (v1 v2 : Value) (A B : List (List Int)) : Prop :=
  ∃ l1 h1 l2 h2, lo ≤ l1 ∧ h1 ≤ hi ∧ lo ≤ l2 ∧ h2 ≤ hi ∧ (h1 ≤ l2 ∨ h2 ≤ l1) ∧ OwnRowsIn l1 h1 w v1 A ∧ OwnRowsIn l2 h2 w v2 B
theorem OwnSol.sol {lo hi : Nat} {w : World} {v1 v2 : Value} {A B : List (List Int)} (h : OwnSol lo hi w v1 v2 A B) : Sol w v1 v2 A B := by
  obtain ⟨_, _, _, _, _, _, _, _, _, h1, h2⟩ := h
  exact ⟨h1.rows, h2.rows⟩
theorem Sol.below {w w' : World} {v1 v2 : Value} {A B : List (List Int)} (h : Sol w v1 v2 A B) (hb : Below w.heap.size w w') : Sol w' v1 v2 A B := ⟨h.1.below hb, h.2.below hb⟩
theorem OwnSol.under {lo hi : Nat} {w w' : World} {v1 v2 : Value} {A B : List (List Int)} (h : OwnSol lo hi w v1 v2 A B) (hb : Below w.heap.size w w') : OwnSol lo hi w' v1 v2 A B := by
  obtain ⟨l1, h1, l2, h2, a, b, c, d, e, f, g⟩ := h
  exact ⟨l1, h1, l2, h2, a, b, c, d, e, f.under hb, g.under hb⟩
theorem OwnSol.keep {lo hi : Nat} {S : Nat → Prop} {w w' : World} {v1 v2 : Value} {A B : List (List Int)} (h : OwnSol lo hi w v1 v2 A B) (k : Keep S w w') (hs : ∀ b, lo ≤ b → b < hi → ¬ S b) : OwnSol lo hi w' v1 v2 A B := by
  obtain ⟨l1, h1, l2, h2, a, b, c, d, e, f, g⟩ := h
  exact ⟨l1, h1, l2, h2, a, b, c, d, e, f.keep k fun x y z => hs x (by omega) (by omega), g.keep k fun x y z => hs x (by omega) (by omega)⟩
/-- One table made, then the other. -/
theorem OwnSol.mk {lo : Nat} {w1 w2 : World} {v1 v2 : Value} {A B : List (List Int)} (h1 : OwnRows lo w1 v1 A) (hb : Below w1.heap.size w1 w2) (h2 : OwnRows w1.heap.size w2 v2 B) (hlo : lo ≤ w1.heap.size) : OwnSol lo w2.heap.size w2 v1 v2 A B :=
  ⟨lo, w1.heap.size, w1.heap.size, w2.heap.size, Nat.le_refl _, hb.size, hlo, Nat.le_refl _, .inl (Nat.le_refl _), h1.inn.under hb, h2.inn⟩
theorem OwnSol.widen {lo lo' hi hi' : Nat} {w : World} {v1 v2 : Value} {A B : List (List Int)} (h : OwnSol lo hi w v1 v2 A B) (hl : lo' ≤ lo) (hh : hi ≤ hi') : OwnSol lo' hi' w v1 v2 A B := by
  obtain ⟨l1, h1, l2, h2, a, b, c, d, e, f, g⟩ := h
  exact ⟨l1, h1, l2, h2, by omega, by omega, by omega, by omega, e, f, g⟩

def RSol (w0 : World) (A B : List (List Int)) (e : Ending) (w' : World) : Prop := ∃ r1 r2, e = .returned (.agg #[r1, r2]) ∧ OwnSol w0.heap.size w'.heap.size w' r1 r2 A B ∧ Below w0.heap.size w0 w'
def RSolC (w0 : World) (A B : List (List Int)) (c : Int) (e : Ending) (w' : World) : Prop := ∃ r1 r2, e = .returned (.tuple #[.agg #[r1, r2], .int .i64 c]) ∧ OwnSol w0.heap.size w'.heap.size w' r1 r2 A B ∧ Below w0.heap.size w0 w'

/-- The two cells of a boxed pair, in whatever later world. -/
theorem box_two (w : World) (v1 v2 : Value) (t : TypeId) : Blk (w.alloc (.cells #[v1, v2] t)) w.heap.size t [v1, v2] := heap_alloc_new w _
theorem two_cells {w : World} {b : Nat} {t : TypeId} {v1 v2 : Value} (h : Blk w b t [v1, v2]) :
    w.cell? ⟨b, 0, none⟩ = some v1 ∧ w.cell? ⟨b, 1, none⟩ = some v2 ∧ w.frozen? ⟨b, 0, none⟩ = false ∧ w.frozen? ⟨b, 1, none⟩ = false :=
  ⟨h.cell (i := 0) (by simp), h.cell (i := 1) (by simp), h.frozen 0, h.frozen 1⟩

theorem keep1 (w : World) (b i : Nat) (v : Value) : Keep (fun k => k = b) w (w.setCell ⟨b, i, none⟩ v) := (Keep.refl (fun k => k = b) w).setCell (p := ⟨b, i, none⟩) (.inl rfl) v
/-- Three blocks laid one after the other. -/
theorem boxes3 (w : World) (c0 c1 c2 : List Value) (t0 t1 t2 : TypeId) :
    Blk (((w.alloc (.cells c0.toArray t0)).alloc (.cells c1.toArray t1)).alloc (.cells c2.toArray t2)) w.heap.size t0 c0 ∧
    Blk (((w.alloc (.cells c0.toArray t0)).alloc (.cells c1.toArray t1)).alloc (.cells c2.toArray t2)) (w.heap.size + 1) t1 c1 ∧
    Blk (((w.alloc (.cells c0.toArray t0)).alloc (.cells c1.toArray t1)).alloc (.cells c2.toArray t2)) (w.heap.size + 1 + 1) t2 c2 ∧
    Below w.heap.size w (((w.alloc (.cells c0.toArray t0)).alloc (.cells c1.toArray t1)).alloc (.cells c2.toArray t2)) ∧
    (((w.alloc (.cells c0.toArray t0)).alloc (.cells c1.toArray t1)).alloc (.cells c2.toArray t2)).heap.size = w.heap.size + 3 := by
  have e1 : (w.alloc (.cells c0.toArray t0)).heap.size = w.heap.size + 1 := by simp
  have e2 : ((w.alloc (.cells c0.toArray t0)).alloc (.cells c1.toArray t1)).heap.size = w.heap.size + 1 + 1 := by simp
  have h0 := Blk.new w c0 t0
  have h1 := Blk.new (w.alloc (.cells c0.toArray t0)) c1 t1
  have h2 := Blk.new ((w.alloc (.cells c0.toArray t0)).alloc (.cells c1.toArray t1)) c2 t2
  rw [e1] at h1
  rw [e2] at h2
  exact ⟨(h0.alloc _).alloc _, h1.alloc _, h2, (((Below.refl _ _).alloc (Nat.le_refl _) _).alloc (by omega) _).alloc (by omega) _, by simp⟩
theorem boxes2 (w : World) (c0 c1 : List Value) (t0 t1 : TypeId) :
    Blk ((w.alloc (.cells c0.toArray t0)).alloc (.cells c1.toArray t1)) w.heap.size t0 c0 ∧
    Blk ((w.alloc (.cells c0.toArray t0)).alloc (.cells c1.toArray t1)) (w.heap.size + 1) t1 c1 ∧
    Below w.heap.size w ((w.alloc (.cells c0.toArray t0)).alloc (.cells c1.toArray t1)) ∧
    ((w.alloc (.cells c0.toArray t0)).alloc (.cells c1.toArray t1)).heap.size = w.heap.size + 2 := by
  have e1 : (w.alloc (.cells c0.toArray t0)).heap.size = w.heap.size + 1 := by simp
  have h0 := Blk.new w c0 t0
  have h1 := Blk.new (w.alloc (.cells c0.toArray t0)) c1 t1
  rw [e1] at h1
  exact ⟨h0.alloc _, h1, ((Below.refl _ _).alloc (Nat.le_refl _) _).alloc (by omega) _, by simp⟩
theorem boxes1 (w : World) (c0 : List Value) (t0 : TypeId) :
    Blk (w.alloc (.cells c0.toArray t0)) w.heap.size t0 c0 ∧ Below w.heap.size w (w.alloc (.cells c0.toArray t0)) ∧ (w.alloc (.cells c0.toArray t0)).heap.size = w.heap.size + 1 :=
  ⟨Blk.new w c0 t0, (Below.refl _ _).alloc (Nat.le_refl _) _, by simp⟩



set_option maxHeartbeats 400000 in
theorem c_eqS (v1 v2 u1 u2 : Value) (A B C D : List (List Int)) (w : World) (hx : Sol w v1 v2 A B) (hy : Sol w u1 u2 C D) :
    Calls Tryd.prog 12 #[.agg #[v1, v2], .agg #[u1, u2]] w (RVal w (.bool (decide (A = C ∧ B = D)))) := by
  obtain ⟨a1, c1, rfl, _, _⟩ := hx.1.shape
  obtain ⟨a2, c2, rfl, _, _⟩ := hx.2.shape
  obtain ⟨a3, c3, rfl, _, _⟩ := hy.1.shape
  obtain ⟨a4, c4, rfl, _, _⟩ := hy.2.shape
  obtain ⟨f0, f1, hW0, hsz⟩ := boxes2 w [.slice a1 A.length c1, .slice a2 B.length c2] [.slice a3 C.length c3, .slice a4 D.length c4] 29 29
  go_enter Tryd.func12, Tryd.ntmps12
  go_wp2_with fail
  obtain ⟨W, hW⟩ : ∃ W, (w.alloc (.cells #[.slice a1 A.length c1, .slice a2 B.length c2] 29)).alloc (.cells #[.slice a3 C.length c3, .slice a4 D.length c4] 29) = W := ⟨_, rfl⟩
  rw [hW] at f0 f1 hW0 hsz ⊢
  clear hW
  refine (c_eqR _ _ _ _ _ (hx.1.below hW0) (hy.1.below hW0)).mono ?_; rintro e w1 ⟨rfl, hb1⟩
  obtain ⟨g00, g01, _, _⟩ := two_cells (f0.under hb1)
  obtain ⟨g10, g11, _, _⟩ := two_cells (f1.under hb1)
  have HB := Lib.hid (bb hW0 hb1)
  have hx2 := hx.2.below (bb hW0 hb1)
  have hy2 := hy.2.below (bb hW0 hb1)
  clear f0 f1 hW0 hsz hb1 hx hy
  by_cases h1 : A = C
  · have d1 : decide (A = C) = true := by simp [h1]
    have HE := Lib.hid h1; clear h1
    go_wp2_with fail
    refine (c_eqR _ _ _ _ _ hx2 hy2).mono ?_; rintro e w2 ⟨rfl, hb2⟩
    have HB2 := Lib.hid (bo HB.out hb2); clear hb2 hx2 hy2
    by_cases h2 : B = D
    · have d2 : decide (B = D) = true := by simp [h2]
      have HE2 := Lib.hid h2; clear h2
      go_wp2
      go_ret
      exact ⟨ret_bool (by simp [HE.out, HE2.out]), HB2.out⟩
    · have d2 : decide (B = D) = false := by simp [h2]
      have HE2 := Lib.hid h2; clear h2
      go_wp2
      go_ret
      exact ⟨ret_bool (by simp [HE2.out]), HB2.out⟩
  · have d1 : decide (A = C) = false := by simp [h1]
    have HE := Lib.hid h1; clear h1
    go_wp2
    go_ret
    exact ⟨ret_bool (by simp [HE.out]), HB.out⟩

set_option maxHeartbeats 400000 in
theorem c_markS (lo hi : Nat) (v1 v2 : Value) (A B : List (List Int)) (k0 : Int) (w : World) (hx : OwnSol lo hi w v1 v2 A B) (hhi : hi ≤ w.heap.size) (h0 : 0 ≤ k0) (h1 : k0 + total A + total B ≤ 4611686018427387904) :
    Calls Tryd.prog 13 #[.agg #[v1, v2], .int .i64 k0] w fun e w' => e = .returned (.int .i64 (k0 + total A + total B)) ∧ OwnSol lo hi w' v1 v2 (marks2 k0 A) (marks2 (k0 + total A) B) ∧ Keep (fun b => lo ≤ b ∧ b < hi) w w' := by
  obtain ⟨l1, h1', l2, h2', ha, hb, hc, hd, he, f, g⟩ := hx
  obtain ⟨a1, c1, rfl, _, _⟩ := f.rows.shape
  obtain ⟨a2, c2, rfl, _, _⟩ := g.rows.shape
  obtain ⟨f0, hW0, hsz⟩ := boxes1 w [.slice a1 A.length c1, .slice a2 B.length c2] 29
  go_enter Tryd.func13, Tryd.ntmps13
  go_wp2_with fail
  obtain ⟨W, hW⟩ : ∃ W, w.alloc (.cells #[.slice a1 A.length c1, .slice a2 B.length c2] 29) = W := ⟨_, rfl⟩
  rw [hW] at f0 hW0 hsz ⊢
  clear hW
  refine (c_markR l1 h1' _ _ _ _ (f.under hW0) h0 (by omega)).mono ?_; rintro e w1 ⟨rfl, ho1, hk1⟩
  have hblk1 := f0.of_block (hk1.block _ (by omega) (by omega))
  obtain ⟨g00, g01, _, _⟩ := two_cells hblk1
  have g1 := (g.under hW0).keep hk1 (fun b x y z => by omega)
  have hkk : Keep (fun b => lo ≤ b ∧ b < hi) w w1 := ((Keep.of_below hW0).mono (T := fun b => lo ≤ b ∧ b < hi) (fun k x y => by omega)).trans (hk1.mono fun k x y => by omega)
  have Hk := Lib.hid hkk; have HO := Lib.hid ho1; have HG := Lib.hid g1
  have ht0 : 0 ≤ k0 + (total A : Int) := by omega
  clear f0 hW0 hsz hk1 hblk1 ho1 hkk f g
  go_wp2_with fail
  refine (c_markR l2 h2' _ _ _ _ g1 ht0 h1).mono ?_; rintro e w2 ⟨rfl, ho2, hk2⟩
  have Hk2 := Lib.hid hk2; have HO2 := Lib.hid ho2; clear hk2 ho2 g1
  go_wp2
  go_ret
  exact ⟨rfl, ⟨l1, h1', l2, h2', ha, hb, hc, hd, he, HO.out.keep Hk2.out (fun b x y z => by omega), HO2.out⟩, Hk.out.trans (Hk2.out.mono fun k x y => by omega)⟩

set_option maxHeartbeats 400000 in
theorem c_heldS (v1 v2 : Value) (A B : List (List Int)) (k0 : Int) (w : World) (hx : Sol w v1 v2 (marks2 k0 A) (marks2 (k0 + total A) B)) (h0 : 0 ≤ k0) (h1 : k0 + total A + total B ≤ 4611686018427387904) :
    Calls Tryd.prog 14 #[.agg #[v1, v2], .int .i64 k0] w (RVal w (.int .i64 (k0 + total A + total B))) := by
  obtain ⟨a1, c1, rfl, _, _⟩ := hx.1.shape
  obtain ⟨a2, c2, rfl, _, _⟩ := hx.2.shape
  obtain ⟨f0, hW0, hsz⟩ := boxes1 w [.slice a1 (marks2 k0 A).length c1, .slice a2 (marks2 (k0 + total A) B).length c2] 29
  have hx1 := hx.1; have hx2 := hx.2
  simp only [marks2_length] at f0 hW0 hsz hx1 hx2 ⊢
  clear hx
  go_enter Tryd.func14, Tryd.ntmps14
  go_wp2_with fail
  obtain ⟨W, hW⟩ : ∃ W, w.alloc (.cells #[.slice a1 A.length c1, .slice a2 B.length c2] 29) = W := ⟨_, rfl⟩
  rw [hW] at f0 hW0 hsz ⊢
  clear hW
  refine (c_heldR _ _ _ _ (hx1.below hW0) h0 (by omega)).mono ?_; rintro e w1 ⟨rfl, hb1⟩
  obtain ⟨g00, g01, _, _⟩ := two_cells (f0.under hb1)
  have HB := Lib.hid (bb hW0 hb1)
  have hy2 := hx2.below (bb hW0 hb1)
  have ht0 : 0 ≤ k0 + (total A : Int) := by omega
  have ht1 : ¬ k0 + (total A : Int) < 0 := by omega
  clear f0 hW0 hsz hb1 hx1 hx2
  go_wp2_with fail
  refine (c_heldR _ _ _ _ hy2 ht0 h1).mono ?_; rintro e w2 ⟨rfl, hb2⟩
  have HB2 := Lib.hid (bo HB.out hb2); clear hb2 hy2
  have ht2 : ¬ k0 + (total A : Int) + (total B : Int) < 0 := by omega
  go_wp2
  go_ret
  exact ⟨rfl, HB2.out⟩
end Go.Proofs.YtkcobfkmeaakoaaDoor
