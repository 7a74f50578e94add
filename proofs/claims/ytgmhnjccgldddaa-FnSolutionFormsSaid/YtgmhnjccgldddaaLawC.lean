/-
  Contracts of the laws' own helpers for pairs of tables: size, copy, compare, mark, held. No condition but sizes.
-/
import Derived.Test.YtgmhnjccgldddaaLawB
namespace Go.Proofs.Ytgmhnjccgldddaa
set_option linter.unusedVariables false
set_option linter.unusedSimpArgs false
open Go.RowKit

/-- A pair of tables that reads as A and B. -/
def Sol (w : World) (v1 v2 : Value) (A B : List (List Int)) : Prop := Rows w v1 A ∧ Rows w v2 B
/-- .. of the call's own: the first table's blocks lie below the second's, or the other way round. -/
def OwnSol (lo hi : Nat) (w : World) (v1 v2 : Value) (A B : List (List Int)) : Prop :=
  ∃ l1 h1 l2 h2, lo ≤ l1 ∧ h1 ≤ hi ∧ lo ≤ l2 ∧ h2 ≤ hi ∧ (h1 ≤ l2 ∨ h2 ≤ l1) ∧ OwnRowsIn l1 h1 w v1 A ∧ OwnRowsIn l2 h2 w v2 B
theorem OwnSol.sol {lo hi : Nat} {w : World} {v1 v2 : Value} {A B : List (List Int)} (h : OwnSol lo hi w v1 v2 A B) : Sol w v1 v2 A B := by
  obtain ⟨_, _, _, _, _, _, _, _, _, h1, h2⟩ := h
  exact ⟨h1.rows, h2.rows⟩
theorem Sol.below {w w' : World} {v1 v2 : Value} {A B : List (List Int)} (h : Sol w v1 v2 A B) (hb : Below w.heap.size w w') : Sol w' v1 v2 A B := ⟨h.1.below hb, h.2.below hb⟩
theorem OwnSol.under {lo hi : Nat} {w w' : World} {v1 v2 : Value} {A B : List (List Int)} (h : OwnSol lo hi w v1 v2 A B) (hb : Below w.heap.size w w') : OwnSol lo hi w' v1 v2 A B := by
  obtain ⟨l1, h1, l2, h2, a, b, c, d, e, f, g⟩ := h
  exact ⟨l1, h1, l2, h2, a, b, c, d, e, f.under hb, g.under hb⟩
theorem OwnSol.keep {lo hi : Nat} {S : Nat → Prop} {w w' : World} {v1 v2 : Value} {A B : List (List Int)} (h : OwnSol lo hi w v1 v2 A B) (k : Keep S w w') (hs : ∀ b, lo ≤ b → b < hi → ¬ S b) : OwnSol lo hi w' v1 v2 A B := by
  obtain ⟨l1, h1, l2, h2, a, b, c, d, e, f, g⟩ := h
  exact ⟨l1, h1, l2, h2, a, b, c, d, e, f.keep k fun x y z => hs x (by omega) (by omega), g.keep k fun x y z => hs x (by omega) (by omega)⟩
/-- One table made, then the other. -/
theorem OwnSol.mk {lo : Nat} {w1 w2 : World} {v1 v2 : Value} {A B : List (List Int)} (h1 : OwnRows lo w1 v1 A) (hb : Below w1.heap.size w1 w2) (h2 : OwnRows w1.heap.size w2 v2 B) (hlo : lo ≤ w1.heap.size) : OwnSol lo w2.heap.size w2 v1 v2 A B :=
  ⟨lo, w1.heap.size, w1.heap.size, w2.heap.size, Nat.le_refl _, hb.size, hlo, Nat.le_refl _, .inl (Nat.le_refl _), h1.inn.under hb, h2.inn⟩
theorem OwnSol.widen {lo lo' hi hi' : Nat} {w : World} {v1 v2 : Value} {A B : List (List Int)} (h : OwnSol lo hi w v1 v2 A B) (hl : lo' ≤ lo) (hh : hi ≤ hi') : OwnSol lo' hi' w v1 v2 A B := by
  obtain ⟨l1, h1, l2, h2, a, b, c, d, e, f, g⟩ := h
  exact ⟨l1, h1, l2, h2, by omega, by omega, by omega, by omega, e, f, g⟩

def RSol (w0 : World) (A B : List (List Int)) (e : Ending) (w' : World) : Prop := ∃ r1 r2, e = .returned (.agg #[r1, r2]) ∧ OwnSol w0.heap.size w'.heap.size w' r1 r2 A B ∧ Below w0.heap.size w0 w'
def RSolC (w0 : World) (A B : List (List Int)) (c : Int) (e : Ending) (w' : World) : Prop := ∃ r1 r2, e = .returned (.tuple #[.agg #[r1, r2], .int .i64 c]) ∧ OwnSol w0.heap.size w'.heap.size w' r1 r2 A B ∧ Below w0.heap.size w0 w'

/-- The two cells of a boxed pair, in whatever later world. -/
theorem box_two (w : World) (v1 v2 : Value) (t : TypeId) : Blk (w.alloc (.cells #[v1, v2] t)) w.heap.size t [v1, v2] := heap_alloc_new w _
theorem two_cells {w : World} {b : Nat} {t : TypeId} {v1 v2 : Value} (h : Blk w b t [v1, v2]) :
    w.cell? ⟨b, 0, none⟩ = some v1 ∧ w.cell? ⟨b, 1, none⟩ = some v2 ∧ w.frozen? ⟨b, 0, none⟩ = false ∧ w.frozen? ⟨b, 1, none⟩ = false :=
  ⟨h.cell (i := 0) (by simp), h.cell (i := 1) (by simp), h.frozen 0, h.frozen 1⟩

theorem keep1 (w : World) (b i : Nat) (v : Value) : Keep (fun k => k = b) w (w.setCell ⟨b, i, none⟩ v) := (Keep.refl (fun k => k = b) w).setCell (p := ⟨b, i, none⟩) (.inl rfl) v
/-- Three blocks laid one after the other. -/
theorem boxes3 (w : World) (c0 c1 c2 : List Value) (t0 t1 t2 : TypeId) :
    Blk (((w.alloc (.cells c0.toArray t0)).alloc (.cells c1.toArray t1)).alloc (.cells c2.toArray t2)) w.heap.size t0 c0 ∧
    Blk (((w.alloc (.cells c0.toArray t0)).alloc (.cells c1.toArray t1)).alloc (.cells c2.toArray t2)) (w.heap.size + 1) t1 c1 ∧
    Blk (((w.alloc (.cells c0.toArray t0)).alloc (.cells c1.toArray t1)).alloc (.cells c2.toArray t2)) (w.heap.size + 1 + 1) t2 c2 ∧
    Below w.heap.size w (((w.alloc (.cells c0.toArray t0)).alloc (.cells c1.toArray t1)).alloc (.cells c2.toArray t2)) ∧
    (((w.alloc (.cells c0.toArray t0)).alloc (.cells c1.toArray t1)).alloc (.cells c2.toArray t2)).heap.size = w.heap.size + 3 := by
  have e1 : (w.alloc (.cells c0.toArray t0)).heap.size = w.heap.size + 1 := by simp
  have e2 : ((w.alloc (.cells c0.toArray t0)).alloc (.cells c1.toArray t1)).heap.size = w.heap.size + 1 + 1 := by simp
  have h0 := Blk.new w c0 t0
  have h1 := Blk.new (w.alloc (.cells c0.toArray t0)) c1 t1
  have h2 := Blk.new ((w.alloc (.cells c0.toArray t0)).alloc (.cells c1.toArray t1)) c2 t2
  rw [e1] at h1
  rw [e2] at h2
  exact ⟨(h0.alloc _).alloc _, h1.alloc _, h2, (((Below.refl _ _).alloc (Nat.le_refl _) _).alloc (by omega) _).alloc (by omega) _, by simp⟩
theorem boxes2 (w : World) (c0 c1 : List Value) (t0 t1 : TypeId) :
    Blk ((w.alloc (.cells c0.toArray t0)).alloc (.cells c1.toArray t1)) w.heap.size t0 c0 ∧
    Blk ((w.alloc (.cells c0.toArray t0)).alloc (.cells c1.toArray t1)) (w.heap.size + 1) t1 c1 ∧
    Below w.heap.size w ((w.alloc (.cells c0.toArray t0)).alloc (.cells c1.toArray t1)) ∧
    ((w.alloc (.cells c0.toArray t0)).alloc (.cells c1.toArray t1)).heap.size = w.heap.size + 2 := by
  have e1 : (w.alloc (.cells c0.toArray t0)).heap.size = w.heap.size + 1 := by simp
  have h0 := Blk.new w c0 t0
  have h1 := Blk.new (w.alloc (.cells c0.toArray t0)) c1 t1
  rw [e1] at h1
  exact ⟨h0.alloc _, h1, ((Below.refl _ _).alloc (Nat.le_refl _) _).alloc (by omega) _, by simp⟩
theorem boxes1 (w : World) (c0 : List Value) (t0 : TypeId) :
    Blk (w.alloc (.cells c0.toArray t0)) w.heap.size t0 c0 ∧ Below w.heap.size w (w.alloc (.cells c0.toArray t0)) ∧ (w.alloc (.cells c0.toArray t0)).heap.size = w.heap.size + 1 :=
  ⟨Blk.new w c0 t0, (Below.refl _ _).alloc (Nat.le_refl _) _, by simp⟩

def leftS (A B : List (List Int)) (left : Int) : Int := if leftR A left < 0 then -1 else leftR B (leftR A left)
theorem leftR_range (t : List (List Int)) (left : Int) (h0 : 0 ≤ left) : -1 ≤ leftR t left ∧ leftR t left ≤ left := by unfold leftR; split <;> omega
theorem leftS_fits {A B : List (List Int)} {left : Int} (h0 : 0 ≤ left) (h1 : left ≤ 1048576) (h : ¬ leftS A B left < 0) :
    (A.length ≤ 1048576 ∧ (∀ r ∈ A, r.length ≤ 1048576) ∧ total A ≤ 1048576) ∧ (B.length ≤ 1048576 ∧ (∀ r ∈ B, r.length ≤ 1048576) ∧ total B ≤ 1048576) ∧ 0 ≤ leftS A B left ∧ leftS A B left ≤ 1048576 := by
  unfold leftS at h ⊢
  split at h
  · omega
  · rename_i hf
    rw [if_neg hf]
    have a := leftR_fits h0 h1 hf
    have b := leftR_fits a.2.2.2.1 a.2.2.2.2 h
    exact ⟨⟨a.1, a.2.1, a.2.2.1⟩, ⟨b.1, b.2.1, b.2.2.1⟩, b.2.2.2.1, b.2.2.2.2⟩
theorem leftR_neg (t : List (List Int)) (left : Int) (h0 : 0 ≤ left) (h : leftR t left < 0) : leftR t left = -1 := by have := leftR_range t left h0; omega

set_option maxHeartbeats 400000 in
theorem c_szSolution (v1 v2 : Value) (A B : List (List Int)) (left : Int) (w : World) (hx : Sol w v1 v2 A B) (h0 : 0 ≤ left) (h1 : left ≤ 1048576) :
    Calls Try.prog 6 #[.agg #[v1, v2], .int .i64 left] w (RVal w (.int .i64 (leftS A B left))) := by
  obtain ⟨ha, hb⟩ := hx
  obtain ⟨a1, c1, rfl, _, _⟩ := ha.shape
  obtain ⟨a2, c2, rfl, _, _⟩ := hb.shape
  have hB0 : Below w.heap.size w (w.alloc (.cells #[.slice a1 A.length c1, .slice a2 B.length c2] 24)) := (Below.refl _ _).alloc (Nat.le_refl _) _
  have ha1 := ha.below hB0
  have hb1 := hb.below hB0
  have hr := leftR_range A left h0
  have HB := Lib.hid hB0
  clear ha hb hB0
  go_enter Try.func6, Try.ntmps6
  go_wp2_with fail
  refine (c_szInt64SS _ _ _ _ ha1 h0 h1).mono ?_; rintro e w' ⟨rfl, rfl⟩
  by_cases hneg : leftR A left < 0
  · have hn1 := leftR_neg A left h0 hneg
    have HN := Lib.hid hn1; clear hn1
    have HG := Lib.hid hneg
    go_wp2
    go_ret
    exact ⟨ret_int (by rw [leftS, if_pos HG.out]), HB.out⟩
  · have HG := Lib.hid hneg
    go_wp2_with fail
    refine (c_szInt64SS _ _ _ _ hb1 (by omega) (by omega)).mono ?_; rintro e w' ⟨rfl, rfl⟩
    by_cases hneg2 : leftR B (leftR A left) < 0
    · have HN := Lib.hid (leftR_neg B _ (by omega) hneg2)
      go_wp2
      go_ret
      exact ⟨ret_int (by rw [leftS, if_neg (by have := HG.out; omega), HN.out]), HB.out⟩
    · go_wp2
      go_ret
      exact ⟨ret_int (by rw [leftS, if_neg (by have := HG.out; omega)]), HB.out⟩

set_option maxHeartbeats 400000 in
theorem c_toSolution (v1 v2 : Value) (A B : List (List Int)) (w : World) (hx : Sol w v1 v2 A B) (hA : A.length ≤ 1048576) (hA2 : ∀ r ∈ A, r.length ≤ 1048576) (hB : B.length ≤ 1048576) (hB2 : ∀ r ∈ B, r.length ≤ 1048576) :
    Calls Try.prog 8 #[.agg #[v1, v2]] w (RSol w A B) := by
  obtain ⟨ha, hb⟩ := hx
  obtain ⟨a1, c1, rfl, _, _⟩ := ha.shape
  obtain ⟨a2, c2, rfl, _, _⟩ := hb.shape
  have HA2 := Lib.hid hA2; have HB2 := Lib.hid hB2; clear hA2 hB2
  obtain ⟨f0, f1, f2, hW0, hsz⟩ := boxes3 w [.slice a1 A.length c1, .slice a2 B.length c2] [.slice none 0 0, .slice none 0 0] [.slice none 0 0, .slice none 0 0] 24 29 29
  go_enter Try.func8, Try.ntmps8
  go_wp2_with fail
  obtain ⟨W, hW⟩ : ∃ W, ((w.alloc (.cells #[.slice a1 A.length c1, .slice a2 B.length c2] 24)).alloc (.cells #[.slice none 0 0, .slice none 0 0] 29)).alloc (.cells #[.slice none 0 0, .slice none 0 0] 29) = W := ⟨_, rfl⟩
  rw [hW] at f0 f1 f2 hW0 hsz ⊢
  clear hW
  refine (c_toInt64SS _ _ _ (ha.below hW0) hA HA2.out).mono ?_; rintro e w1 ⟨r1, rfl, ho1, hb1⟩
  obtain ⟨ra1, rc1, rfl, _, _⟩ := ho1.rows.shape
  have g0 := two_cells (f0.under hb1)
  have g2 := two_cells (f2.under hb1)
  obtain ⟨g00, g01, _, _⟩ := g0
  obtain ⟨g20, g21, g22, g23⟩ := g2
  have hs2 := (f2.under hb1).set 0 (.slice ra1 A.length rc1)
  have hs0 := (f0.under hb1).other (a := ⟨w.heap.size + 1 + 1, 0, none⟩) (by simp; omega) (.slice ra1 A.length rc1)
  have hs1 := (f1.under hb1).other (a := ⟨w.heap.size + 1 + 1, 0, none⟩) (by simp) (.slice ra1 A.length rc1)
  have hW1 : Below w.heap.size w (w1.setCell ⟨w.heap.size + 1 + 1, 0, none⟩ (.slice ra1 A.length rc1)) := (bb hW0 hb1).setCell (p := ⟨w.heap.size + 1 + 1, 0, none⟩) (by show _ ≤ w.heap.size + 1 + 1; omega) _
  have hq1 : OwnRows W.heap.size (w1.setCell ⟨w.heap.size + 1 + 1, 0, none⟩ (.slice ra1 A.length rc1)) (.slice ra1 A.length rc1) A :=
    ho1.keep (keep1 _ _ _ _) (fun b h1 h2 h3 => by omega)
  have H0 := Lib.hid hs0; have H1 := Lib.hid hs1; have H2 := Lib.hid hs2; have HW1 := Lib.hid hW1; have HQ := Lib.hid hq1; have HS := Lib.hid hsz
  have HB1 := Lib.hid hb1.size
  clear f0 f1 f2 hW0 hsz hb1 ho1 hs0 hs1 hs2 hW1 hq1 ha
  go_wp2_with fail
  obtain ⟨X, hX⟩ : ∃ X, w1.setCell ⟨w.heap.size + 1 + 1, 0, none⟩ (.slice ra1 A.length rc1) = X := ⟨_, rfl⟩
  have hXs : W.heap.size ≤ X.heap.size := by rw [← hX]; simpa [World.setCell] using HB1.out
  rw [hX] at H1 H2 HW1 HQ ⊢
  clear hX H0 HB1 g00 g01 g20 g21 g22 g23
  refine (c_toInt64SS _ _ _ (hb.below HW1.out) hB HB2.out).mono ?_; rintro e w2 ⟨r2, rfl, ho2, hb2⟩
  obtain ⟨ra2, rc2, rfl, _, _⟩ := ho2.rows.shape
  have hsol : OwnSol W.heap.size w2.heap.size w2 (.slice ra1 A.length rc1) (.slice ra2 B.length rc2) A B := OwnSol.mk HQ.out hb2 ho2 hXs
  have k1 := H1.out.under hb2
  have k2 := H2.out.under hb2
  obtain ⟨g10, g11, g12, g13⟩ := two_cells k1
  obtain ⟨g20, g21, g22, g23⟩ := two_cells k2
  have HL := Lib.hid (bb HW1.out hb2); have HSol := Lib.hid hsol
  have HZ : Hid (w2.heap.size = w2.heap.size) := rfl
  clear HW1 H1 H2 HQ hb2 ho2 hsol hb k1 k2 hXs
  go_wp2
  refine bodyPost_ret (v := .agg #[.slice ra1 A.length rc1, .slice ra2 B.length rc2]) (by simp [results, Try.results8, go_sem, g10, g11]) rfl ⟨_, _, rfl, ?_, ?_⟩
  · refine OwnSol.widen (HSol.out.keep (S := fun b => b < W.heap.size) ((((Keep.refl _ w2).setCell (p := ⟨w.heap.size + 1 + 1, 1, none⟩) (.inl ?_) _).setCell (p := ⟨w.heap.size + 1, 0, none⟩) (.inl ?_) _).setCell (p := ⟨w.heap.size + 1, 1, none⟩) (.inl ?_) _) (fun b h1 h2 h3 => by omega)) ?_ ?_
    · show w.heap.size + 1 + 1 < W.heap.size; have := HS.out; omega
    · show w.heap.size + 1 < W.heap.size; have := HS.out; omega
    · show w.heap.size + 1 < W.heap.size; have := HS.out; omega
    · have := HS.out; omega
    · simp [World.setCell]
  · exact ((HL.out.setCell (p := ⟨w.heap.size + 1 + 1, 1, none⟩) (by show _ ≤ w.heap.size + 1 + 1; omega) _).setCell (p := ⟨w.heap.size + 1, 0, none⟩) (by show _ ≤ w.heap.size + 1; omega) _).setCell (p := ⟨w.heap.size + 1, 1, none⟩) (by show _ ≤ w.heap.size + 1; omega) _

set_option maxHeartbeats 400000 in
theorem c_eqS (v1 v2 u1 u2 : Value) (A B C D : List (List Int)) (w : World) (hx : Sol w v1 v2 A B) (hy : Sol w u1 u2 C D) :
    Calls Try.prog 11 #[.agg #[v1, v2], .agg #[u1, u2]] w (RVal w (.bool (decide (A = C ∧ B = D)))) := by
  obtain ⟨a1, c1, rfl, _, _⟩ := hx.1.shape
  obtain ⟨a2, c2, rfl, _, _⟩ := hx.2.shape
  obtain ⟨a3, c3, rfl, _, _⟩ := hy.1.shape
  obtain ⟨a4, c4, rfl, _, _⟩ := hy.2.shape
  obtain ⟨f0, f1, hW0, hsz⟩ := boxes2 w [.slice a1 A.length c1, .slice a2 B.length c2] [.slice a3 C.length c3, .slice a4 D.length c4] 29 29
  go_enter Try.func11, Try.ntmps11
  go_wp2_with fail
  obtain ⟨W, hW⟩ : ∃ W, (w.alloc (.cells #[.slice a1 A.length c1, .slice a2 B.length c2] 29)).alloc (.cells #[.slice a3 C.length c3, .slice a4 D.length c4] 29) = W := ⟨_, rfl⟩
  rw [hW] at f0 f1 hW0 hsz ⊢
  clear hW
  refine (c_eqR _ _ _ _ _ (hx.1.below hW0) (hy.1.below hW0)).mono ?_; rintro e w1 ⟨rfl, hb1⟩
  obtain ⟨g00, g01, _, _⟩ := two_cells (f0.under hb1)
  obtain ⟨g10, g11, _, _⟩ := two_cells (f1.under hb1)
  have HB := Lib.hid (bb hW0 hb1)
  have hx2 := hx.2.below (bb hW0 hb1)
  have hy2 := hy.2.below (bb hW0 hb1)
  clear f0 f1 hW0 hsz hb1 hx hy
  by_cases h1 : A = C
  · have d1 : decide (A = C) = true := by simp [h1]
    have HE := Lib.hid h1; clear h1
    go_wp2_with fail
    refine (c_eqR _ _ _ _ _ hx2 hy2).mono ?_; rintro e w2 ⟨rfl, hb2⟩
    have HB2 := Lib.hid (bo HB.out hb2); clear hb2 hx2 hy2
    by_cases h2 : B = D
    · have d2 : decide (B = D) = true := by simp [h2]
      have HE2 := Lib.hid h2; clear h2
      go_wp2
      go_ret
      exact ⟨ret_bool (by simp [HE.out, HE2.out]), HB2.out⟩
    · have d2 : decide (B = D) = false := by simp [h2]
      have HE2 := Lib.hid h2; clear h2
      go_wp2
      go_ret
      exact ⟨ret_bool (by simp [HE2.out]), HB2.out⟩
  · have d1 : decide (A = C) = false := by simp [h1]
    have HE := Lib.hid h1; clear h1
    go_wp2
    go_ret
    exact ⟨ret_bool (by simp [HE.out]), HB.out⟩

set_option maxHeartbeats 400000 in
theorem c_markS (lo hi : Nat) (v1 v2 : Value) (A B : List (List Int)) (k0 : Int) (w : World) (hx : OwnSol lo hi w v1 v2 A B) (hhi : hi ≤ w.heap.size) (h0 : 0 ≤ k0) (h1 : k0 + total A + total B ≤ 4611686018427387904) :
    Calls Try.prog 12 #[.agg #[v1, v2], .int .i64 k0] w fun e w' => e = .returned (.int .i64 (k0 + total A + total B)) ∧ OwnSol lo hi w' v1 v2 (marks2 k0 A) (marks2 (k0 + total A) B) ∧ Keep (fun b => lo ≤ b ∧ b < hi) w w' := by
  obtain ⟨l1, h1', l2, h2', ha, hb, hc, hd, he, f, g⟩ := hx
  obtain ⟨a1, c1, rfl, _, _⟩ := f.rows.shape
  obtain ⟨a2, c2, rfl, _, _⟩ := g.rows.shape
  obtain ⟨f0, hW0, hsz⟩ := boxes1 w [.slice a1 A.length c1, .slice a2 B.length c2] 29
  go_enter Try.func12, Try.ntmps12
  go_wp2_with fail
  obtain ⟨W, hW⟩ : ∃ W, w.alloc (.cells #[.slice a1 A.length c1, .slice a2 B.length c2] 29) = W := ⟨_, rfl⟩
  rw [hW] at f0 hW0 hsz ⊢
  clear hW
  refine (c_markR l1 h1' _ _ _ _ (f.under hW0) h0 (by omega)).mono ?_; rintro e w1 ⟨rfl, ho1, hk1⟩
  have hblk1 := f0.of_block (hk1.block _ (by omega) (by omega))
  obtain ⟨g00, g01, _, _⟩ := two_cells hblk1
  have g1 := (g.under hW0).keep hk1 (fun b x y z => by omega)
  have hkk : Keep (fun b => lo ≤ b ∧ b < hi) w w1 := ((Keep.of_below hW0).mono (T := fun b => lo ≤ b ∧ b < hi) (fun k x y => by omega)).trans (hk1.mono fun k x y => by omega)
  have Hk := Lib.hid hkk; have HO := Lib.hid ho1; have HG := Lib.hid g1
  have ht0 : 0 ≤ k0 + (total A : Int) := by omega
  clear f0 hW0 hsz hk1 hblk1 ho1 hkk f g
  go_wp2_with fail
  refine (c_markR l2 h2' _ _ _ _ g1 ht0 h1).mono ?_; rintro e w2 ⟨rfl, ho2, hk2⟩
  have Hk2 := Lib.hid hk2; have HO2 := Lib.hid ho2; clear hk2 ho2 g1
  go_wp2
  go_ret
  exact ⟨rfl, ⟨l1, h1', l2, h2', ha, hb, hc, hd, he, HO.out.keep Hk2.out (fun b x y z => by omega), HO2.out⟩, Hk.out.trans (Hk2.out.mono fun k x y => by omega)⟩

end Go.Proofs.Ytgmhnjccgldddaa
