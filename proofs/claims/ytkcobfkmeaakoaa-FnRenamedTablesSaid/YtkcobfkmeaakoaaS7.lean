/-
  A store into an entry of an owned table: its cells, and the table behind it.
-/
import Derived.Test.YtkcobfkmeaakoaaS2b
import Derived.Test.YtkcobfkmeaakoaaI3d
namespace Go.Proofs.Ytkcobfkmeaakoaa
open Go Go.RowKit

theorem OwnRowsIn.put {lo hi : Nat} {w : World} {sa : Option Addr} {n c : Nat} {t : List (List Int)} (h : OwnRowsIn lo hi w (.slice sa n c) t) {u y m : Nat} (hu : u < t.length) (hm : (row t u).length = m) (hy : y < m) :
    ∃ b g cr z0, sa = some ⟨b, 0, none⟩ ∧ lo ≤ b ∧ b < hi ∧ lo ≤ g ∧ g < hi ∧ b ≠ g ∧ w.cell? ⟨b, u, none⟩ = some (.slice (some ⟨g, 0, none⟩) m cr) ∧ w.cell? ⟨g, y, none⟩ = some z0 ∧ w.frozen? ⟨g, y, none⟩ = false ∧
      ∀ z : Int, OwnRowsIn lo hi (w.setCell ⟨g, y, none⟩ (.int .i64 z)) (.slice sa n c) (t.set u ((row t u).set y z)) := by
  obtain ⟨us, h1, h2, h3, h4⟩ := h
  have hul : u < us.length := by rw [h2.len]; exact hu
  obtain ⟨a, c', hv, _, _, hc⟩ := ownsRow_cells h1
  obtain ⟨b, hab, hcell⟩ := hc u hul
  injection hv with e1 e2 e3
  subst e1 hab
  have hrow : t[u] = row t u := (row_nat t u hu).symm
  have hown := h2.own u hul hu
  rcases hown.open with ⟨_, k2⟩ | ⟨g, cs, k1, k2, k3, k4⟩
  · rw [hrow] at k2; rw [k2] at hm; simp at hm; omega
  · have hy' : y < (t[u]).length := by rw [hrow]; omega
    have hv1 : us[u] = .slice (some ⟨g, 0, none⟩) m ((t[u]).length + cs.length) := by rw [k1, hrow, hm]
    have hput := fun z => h2.put hul hu hv1 hy' z
    obtain ⟨p1, p2⟩ := h2.cellAt hul hu hv1 hy'
    have hg := h4 u hul g (by rw [hv1]; rfl)
    have hb1 := World.ownsRow.lt h1 b rfl
    have hbg : b ≠ g := by
      obtain ⟨hl, hn | ⟨g', cap, cur, hv', hb', hg', r⟩⟩ := h1
      · simp at hn
      · injection hv' with e1 e2 e3
        injection e1 with e1
        injection e1 with e1
        subst e1
        have := hown.ne (g := b) (t := 25) (cs := cur.toList) (by unfold Blk; simpa using hg') (by decide)
        intro e
        apply this
        rw [hv1, e]; rfl
    refine ⟨b, g, _, _, rfl, hb1.1, h3 b rfl, k2, hg, hbg, by rw [hcell, hv1], p1, p2, fun z => ⟨us, ?_, ?_, h3, h4⟩⟩
    · refine ownsRow_ne h1 hown ?_
      rw [hv1]
      exact keepB _ _ _ _ _ _
    · have := hput z
      rw [hrow] at this; exact this

/-- Two tables side by side, apart from a box q. -/
def TwoIn (lo q : Nat) (W : World) (va vb : Value) (X Y : List (List Int)) : Prop :=
  ∃ l1 h1 l2 h2, lo ≤ l1 ∧ lo ≤ l2 ∧ h1 ≤ l2 ∧ h1 ≤ W.heap.size ∧ h2 ≤ W.heap.size ∧ (h1 ≤ q ∨ q < l1) ∧ (h2 ≤ q ∨ q < l2) ∧ OwnRowsIn l1 h1 W va X ∧ OwnRowsIn l2 h2 W vb Y
theorem size_set (w : World) (a : Addr) (v : Value) : (w.setCell a v).heap.size = w.heap.size := by simp [World.setCell]
theorem TwoIn.keep {lo q : Nat} {S : Nat → Prop} {W W' : World} {va vb : Value} {X Y : List (List Int)} (h : TwoIn lo q W va vb X Y) (k : Keep S W W') (hS : ∀ b, lo ≤ b → b ≠ q → b < W.heap.size → ¬ S b) : TwoIn lo q W' va vb X Y := by
  obtain ⟨l1, h1, l2, h2, a, b, c, d1, d, e, f, o1, o2⟩ := h
  have hs := k.size
  exact ⟨l1, h1, l2, h2, a, b, c, by omega, by omega, e, f, o1.keep k (fun x x1 x2 => hS x (by omega) (by omega) (by omega)), o2.keep k (fun x x1 x2 => hS x (by omega) (by omega) (by omega))⟩
theorem TwoIn.under {lo q : Nat} {W W' : World} {va vb : Value} {X Y : List (List Int)} (h : TwoIn lo q W va vb X Y) (hb : Below W.heap.size W W') : TwoIn lo q W' va vb X Y :=
  h.keep (S := fun b => W.heap.size ≤ b) (Keep.of_below hb) fun x _ _ x1 x2 => by omega
/-- An entry of each written, in either order. -/
theorem TwoIn.put {lo q : Nat} {W : World} {sa sb : Option Addr} {n c n' c' : Nat} {X Y : List (List Int)} (h : TwoIn lo q W (.slice sa n c) (.slice sb n' c') X Y) {u y m m' : Nat}
    (hu : u < X.length) (hu' : u < Y.length) (hm : (row X u).length = m) (hm' : (row Y u).length = m') (hy : y < m) (hy' : y < m') :
    ∃ b1 g1 r1 b2 g2 r2 z1 z2, sa = some ⟨b1, 0, none⟩ ∧ sb = some ⟨b2, 0, none⟩ ∧ (lo ≤ b1 ∧ lo ≤ g1 ∧ lo ≤ b2 ∧ lo ≤ g2) ∧ (q ≠ b1 ∧ q ≠ g1 ∧ q ≠ b2 ∧ q ≠ g2) ∧ (b1 ≠ g1 ∧ b1 ≠ g2 ∧ b2 ≠ g1 ∧ b2 ≠ g2 ∧ g1 ≠ g2) ∧
      W.cell? ⟨b1, u, none⟩ = some (.slice (some ⟨g1, 0, none⟩) m r1) ∧ W.cell? ⟨b2, u, none⟩ = some (.slice (some ⟨g2, 0, none⟩) m' r2) ∧ W.cell? ⟨g1, y, none⟩ = some z1 ∧ W.frozen? ⟨g1, y, none⟩ = false ∧ W.cell? ⟨g2, y, none⟩ = some z2 ∧ W.frozen? ⟨g2, y, none⟩ = false ∧
      (∀ s t : Int, TwoIn lo q ((W.setCell ⟨g1, y, none⟩ (.int .i64 s)).setCell ⟨g2, y, none⟩ (.int .i64 t)) (.slice sa n c) (.slice sb n' c') (X.set u ((row X u).set y s)) (Y.set u ((row Y u).set y t))) ∧
      ∀ s t : Int, TwoIn lo q ((W.setCell ⟨g2, y, none⟩ (.int .i64 t)).setCell ⟨g1, y, none⟩ (.int .i64 s)) (.slice sa n c) (.slice sb n' c') (X.set u ((row X u).set y s)) (Y.set u ((row Y u).set y t)) := by
  obtain ⟨l1, h1, l2, h2, a, b, cc, d1, d, e, f, o1, o2⟩ := h
  have ok1 := fun (W' : World) (o : OwnRowsIn l1 h1 W' (.slice sa n c) X) => o.put hu hm hy
  obtain ⟨b1, g1, r1, z1, rfl, p1, p2, p3, p4, p5, p6, p7, p8, p9⟩ := o1.put hu hm hy
  obtain ⟨b2, g2, r2, z2, rfl, k1, k2, k3, k4, k5, k6, k7, k8, k9⟩ := o2.put hu' hm' hy'
  refine ⟨b1, g1, r1, b2, g2, r2, z1, z2, rfl, rfl, ⟨by omega, by omega, by omega, by omega⟩, ⟨by omega, by omega, by omega, by omega⟩, ⟨by omega, by omega, by omega, by omega, by omega⟩, p6, k6, p7, p8, k7, k8, ?_, ?_⟩
  · intro s t
    have kk := (Keep.refl (fun x => x = g1) W).setCell (p := ⟨g1, y, none⟩) (.inl rfl) (.int .i64 s)
    have o2' := o2.keep kk (fun x x1 x2 e => by omega)
    obtain ⟨b2', g2', r2', z2', hb', _, _, _, _, _, j6, _, _, j9⟩ := o2'.put hu' hm' hy'
    have k6' : (W.setCell ⟨g1, y, none⟩ (.int .i64 s)).cell? ⟨b2, u, none⟩ = some (.slice (some ⟨g2, 0, none⟩) m' r2) := (World.cell?_of_block (w := W) (kk.block b2 (cell_lt k6) (by omega))).trans k6
    injection hb' with hb'; injection hb' with hb'; subst hb'
    rw [k6'] at j6
    injection j6 with j6; injection j6 with j6; injection j6 with j6; injection j6 with j6; subst j6
    have kk2 := (Keep.refl (fun x => x = g2) (W.setCell ⟨g1, y, none⟩ (.int .i64 s))).setCell (p := ⟨g2, y, none⟩) (.inl rfl) (.int .i64 t)
    exact ⟨l1, h1, l2, h2, a, b, cc, by rw [size_set, size_set]; exact d1, by rw [size_set, size_set]; exact d, e, f, (p9 s).keep kk2 (fun x x1 x2 e => by omega), j9 t⟩
  · intro s t
    have kk := (Keep.refl (fun x => x = g2) W).setCell (p := ⟨g2, y, none⟩) (.inl rfl) (.int .i64 t)
    have o1' := o1.keep kk (fun x x1 x2 e => by omega)
    obtain ⟨b1', g1', r1', z1', hb', _, _, _, _, _, j6, _, _, j9⟩ := o1'.put hu hm hy
    have k6' : (W.setCell ⟨g2, y, none⟩ (.int .i64 t)).cell? ⟨b1, u, none⟩ = some (.slice (some ⟨g1, 0, none⟩) m r1) := (World.cell?_of_block (w := W) (kk.block b1 (cell_lt p6) (by omega))).trans p6
    injection hb' with hb'; injection hb' with hb'; subst hb'
    rw [k6'] at j6
    injection j6 with j6; injection j6 with j6; injection j6 with j6; injection j6 with j6; subst j6
    have kk2 := (Keep.refl (fun x => x = g1) (W.setCell ⟨g2, y, none⟩ (.int .i64 t))).setCell (p := ⟨g1, y, none⟩) (.inl rfl) (.int .i64 s)
    exact ⟨l1, h1, l2, h2, a, b, cc, by rw [size_set, size_set]; exact d1, by rw [size_set, size_set]; exact d, e, f, j9 s, (k9 t).keep kk2 (fun x x1 x2 e => by omega)⟩
end Go.Proofs.Ytkcobfkmeaakoaa
