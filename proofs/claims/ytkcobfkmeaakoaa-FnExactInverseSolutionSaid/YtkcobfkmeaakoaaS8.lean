/-
  Two tables of a call's own, their blocks apart from each other: a row appended, an entry written.
-/
import Derived.Test.YtkcobfkmeaakoaaS7
namespace Go.Proofs.Ytkcobfkmeaakoaa
open Go Go.RowKit

/-- A table of the call's own, all its blocks in P. -/
def OwnP (lo : Nat) (P : Nat → Prop) (w : World) (v : Value) (t : List (List Int)) : Prop :=
  ∃ us, w.ownsRow lo 25 1 v us.length us ∧ RowVals lo w us t ∧ (∀ k, v.ownBlock = some k → P k) ∧ ∀ i (h : i < us.length) k, us[i].ownBlock = some k → P k
theorem OwnP.out {lo : Nat} {P : Nat → Prop} {w : World} {v : Value} {t : List (List Int)} (h : OwnP lo P w v t) : OwnRows lo w v t := by
  obtain ⟨us, h1, h2, _⟩ := h
  exact ⟨us, h1, h2⟩
theorem OwnP.imp {lo : Nat} {P Q : Nat → Prop} {w : World} {v : Value} {t : List (List Int)} (h : OwnP lo P w v t) (hpq : ∀ b, P b → Q b) : OwnP lo Q w v t := by
  obtain ⟨us, h1, h2, h3, h4⟩ := h
  exact ⟨us, h1, h2, fun k hk => hpq k (h3 k hk), fun i hi k hk => hpq k (h4 i hi k hk)⟩
theorem OwnP.nil (lo : Nat) (P : Nat → Prop) (w : World) : OwnP lo P w (.slice none 0 0) [] :=
  ⟨[], ⟨by simp, .inl ⟨rfl, rfl⟩⟩, RowVals.nil _ _, (by intro k hk; cases hk), (by intro i hi; simp at hi)⟩
theorem OwnP.keep {lo : Nat} {P S : Nat → Prop} {w w' : World} {v : Value} {t : List (List Int)} (h : OwnP lo P w v t) (k : Keep S w w') (hs : ∀ b, P b → ¬ S b) : OwnP lo P w' v t := by
  obtain ⟨us, h1, h2, h3, h4⟩ := h
  refine ⟨us, ?_, ⟨h2.len, fun i hi hi' => ?_, h2.apart⟩, h3, h4⟩
  · obtain ⟨hl, hn | ⟨g, cap, cur, hv, hb, hg, r⟩⟩ := h1
    · exact ⟨hl, .inl hn⟩
    · exact ⟨hl, .inr ⟨g, cap, cur, hv, hb, by rw [k.block g (Array.getElem?_eq_some_iff.1 hg).1 (hs g (h3 g (by rw [hv]; rfl)))]; exact hg, r⟩⟩
  · have h6 := h4 i hi
    obtain ⟨hl, hn | ⟨g, cap, cur, hv, hb, hg, r⟩⟩ := h2.own i hi hi'
    · exact ⟨hl, .inl hn⟩
    · exact ⟨hl, .inr ⟨g, cap, cur, hv, hb, by rw [k.block g (Array.getElem?_eq_some_iff.1 hg).1 (hs g (h6 g (by rw [hv]; rfl)))]; exact hg, r⟩⟩
theorem OwnP.under {lo : Nat} {P : Nat → Prop} {w w' : World} {v : Value} {t : List (List Int)} (h : OwnP lo P w v t) (hb : Below w.heap.size w w') : OwnP lo P w' v t := by
  obtain ⟨us, h1, h2, h3, h4⟩ := h
  exact ⟨us, ownsRow_keep h1 (Keep.of_below hb) (fun b _ hlt => by omega), h2.under hb, h3, h4⟩

/-- 'append(s, u)' at an operation: the new array is the old one or a new block; the blocks are told. -/
theorem wp_app_rowP {o : Oper} {a : Act} {K : Act → World → Prop} {Q : Exit → Act → World → Prop} (P : Nat → Prop) (B m : Nat) (w : World) (v : Value) (xss : List (List Int)) (u : Value) (xs : List Int) (s x : Operand)
    (ho : o.op = .call { callee := .builtin .append, args := #[s, x], argTypes := #[22, 22] })
    (hs : a.eval s = v) (hown : OwnP B P w v xss) (hP : ∀ b, P b → b < m) (hu : Own m w u xs) (hx : a.eval x = .slice (some ⟨w.heap.size, 0, none⟩) 1 1) (hn : xss.length ≤ 1099511627776) (hB : B ≤ m) (hB2 : B ≤ w.heap.size)
    (h : ∀ g c' w', OwnP B (fun b => P b ∨ u.ownBlock = some b ∨ b = g) w' (.slice (some ⟨g, 0, none⟩) (xss.length + 1) c') (xss ++ [xs]) → Keep (fun b => v.ownBlock = some b) w w' → (v.ownBlock = some g ∨ w.heap.size ≤ g) → K (a.put o.dst (.slice (some ⟨g, 0, none⟩) (xss.length + 1) c')) w') :
    o.wp Try.prog a (w.alloc (.cells #[u] 25)) K Q := by
  obtain ⟨us, h1, h2, hv3, hlt⟩ := hown
  have h2' := rowvals_snoc h2 (fun i hi k hk => hP k (hlt i hi k hk)) hu hB
  have hlen := h2.len
  obtain ⟨ua, uc, hu1, _⟩ := hu.shape
  obtain ⟨i0, hi, hz0, hz1, hz2⟩ := info_parts inf_ints
  refine wp_append_lies _ s x 22 ho B 25 i0 (.slice none 0 0) 1 24 Try.underlying22 hi hz0 hz1 hz2 rfl (by decide) v us.length us hs (h1.alloc _) ⟨w.heap.size, 0, none⟩ 1 1 [u] hx rfl ?_ ?_ (by decide) (by unfold maxLen; omega) (by omega) (by simp; omega) (w.heap.size + 1) (by simp) ?_
  · intro j u' hj
    match j, hj with
    | 0, hj => simp at hj; subst hj; simp [Addr.add]
  · intro u' hu'; simp at hu'; subst hu'; subst hu1; rfl
  · intro g cap w' h3 h4 h5 _
    have hk := Keep.of_grown h4
    have hk2 : Keep (fun b => v.ownBlock = some b) w w' := ((Keep.refl _ w).alloc _).trans hk
    rw [hlen] at h3 ⊢
    refine h g cap w' ⟨us ++ [u], by simpa [hlen] using h3, rowvals_keepT h2' h1 hk2, ?_, ?_⟩ hk2 (by rcases h5 with h5 | h5; exact .inl h5; exact .inr (by omega))
    · intro k hk
      simp [Value.ownBlock] at hk
      exact .inr (.inr hk.symm)
    · intro i hi k hk
      by_cases e : i < us.length
      · rw [List.getElem_append_left e] at hk
        exact .inl (hlt i e k hk)
      · have e2 : i = us.length := by simp at hi; omega
        subst e2
        rw [List.getElem_append_right (Nat.le_refl _)] at hk
        simp only [Nat.sub_self, List.getElem_cons_zero] at hk
        exact .inr (.inl hk)
theorem wpList_app_rowP {ops : Array Oper} {rest : List Oper} {o : Oper} {a : Act} {Q : Exit → Act → World → Prop} (P : Nat → Prop) (B m : Nat) (w : World) (v : Value) (xss : List (List Int)) (u : Value) (xs : List Int) (s x : Operand) (hgd : o.guard = none)
    (ho : o.op = .call { callee := .builtin .append, args := #[s, x], argTypes := #[22, 22] })
    (hs : a.eval s = v) (hown : OwnP B P w v xss) (hP : ∀ b, P b → b < m) (hu : Own m w u xs) (hx : a.eval x = .slice (some ⟨w.heap.size, 0, none⟩) 1 1) (hn : xss.length ≤ 1099511627776) (hB : B ≤ m) (hB2 : B ≤ w.heap.size)
    (h : ∀ g c' w', OwnP B (fun b => P b ∨ u.ownBlock = some b ∨ b = g) w' (.slice (some ⟨g, 0, none⟩) (xss.length + 1) c') (xss ++ [xs]) → Keep (fun b => v.ownBlock = some b) w w' → (v.ownBlock = some g ∨ w.heap.size ≤ g) → wpList Try.prog ops Q rest (a.put o.dst (.slice (some ⟨g, 0, none⟩) (xss.length + 1) c')) w') :
    wpList Try.prog ops Q (o :: rest) a (w.alloc (.cells #[u] 25)) :=
  wpList_plain hgd fun _ hK => wp_app_rowP P B m w v xss u xs s x ho hs hown hP hu hx hn hB hB2 fun g c' w' h2 h3 h4 => hK _ _ (h g c' w' h2 h3 h4)
theorem step_app_rowP {ops : Array Oper} {o : Oper} {a : Act} {K : Act → World → Prop} {Q : Exit → Act → World → Prop} {E : Prop} (P : Nat → Prop) (B m : Nat) (w : World) (v : Value) (xss : List (List Int)) (u : Value) (xs : List Int) (s x : Operand) (hgd : o.guard = none)
    (ho : o.op = .call { callee := .builtin .append, args := #[s, x], argTypes := #[22, 22] })
    (hs : a.eval s = v) (hown : OwnP B P w v xss) (hP : ∀ b, P b → b < m) (hu : Own m w u xs) (hx : a.eval x = .slice (some ⟨w.heap.size, 0, none⟩) 1 1) (hn : xss.length ≤ 1099511627776) (hB : B ≤ m) (hB2 : B ≤ w.heap.size)
    (h : ∀ g c' w', OwnP B (fun b => P b ∨ u.ownBlock = some b ∨ b = g) w' (.slice (some ⟨g, 0, none⟩) (xss.length + 1) c') (xss ++ [xs]) → Keep (fun b => v.ownBlock = some b) w w' → (v.ownBlock = some g ∨ w.heap.size ≤ g) → K (a.put o.dst (.slice (some ⟨g, 0, none⟩) (xss.length + 1) c')) w') :
    if Region.wanted o (yielded ops a.tmps) = true then Oper.wp Try.prog o a (w.alloc (.cells #[u] 25)) K Q else E := by
  have hw : Region.wanted o (yielded ops a.tmps) = true := by simp [Region.wanted, hgd]
  rw [if_pos hw]
  exact wp_app_rowP P B m w v xss u xs s x ho hs hown hP hu hx hn hB hB2 h

/-- A store into an entry. -/
theorem OwnP.put {lo : Nat} {P : Nat → Prop} {w : World} {sa : Option Addr} {n c : Nat} {t : List (List Int)} (h : OwnP lo P w (.slice sa n c) t) {u y m : Nat} (hu : u < t.length) (hm : (row t u).length = m) (hy : y < m) :
    ∃ b g cr z0, sa = some ⟨b, 0, none⟩ ∧ P b ∧ P g ∧ b ≠ g ∧ w.cell? ⟨b, u, none⟩ = some (.slice (some ⟨g, 0, none⟩) m cr) ∧ w.cell? ⟨g, y, none⟩ = some z0 ∧ w.frozen? ⟨g, y, none⟩ = false ∧
      ∀ z : Int, OwnP lo P (w.setCell ⟨g, y, none⟩ (.int .i64 z)) (.slice sa n c) (t.set u ((row t u).set y z)) := by
  obtain ⟨us, h1, h2, h3, h4⟩ := h
  have hul : u < us.length := by rw [h2.len]; exact hu
  obtain ⟨a, c', hv, _, _, hc⟩ := ownsRow_cells h1
  obtain ⟨b, hab, hcell⟩ := hc u hul
  injection hv with e1 e2 e3
  subst e1 hab
  have hrow : t[u] = row t u := (row_nat t u hu).symm
  have hown := h2.own u hul hu
  rcases hown.open with ⟨_, k2⟩ | ⟨g, cs, k1, k2, k3, k4⟩
  · rw [hrow] at k2; rw [k2] at hm; simp at hm; omega
  · have hy' : y < (t[u]).length := by rw [hrow]; omega
    have hv1 : us[u] = .slice (some ⟨g, 0, none⟩) m ((t[u]).length + cs.length) := by rw [k1, hrow, hm]
    have hput := fun z => h2.put hul hu hv1 hy' z
    obtain ⟨p1, p2⟩ := h2.cellAt hul hu hv1 hy'
    have hg := h4 u hul g (by rw [hv1]; rfl)
    have hbg : b ≠ g := by
      obtain ⟨hl, hn | ⟨g', cap, cur, hv', hb', hg', r⟩⟩ := h1
      · simp at hn
      · injection hv' with e1 e2 e3
        injection e1 with e1
        injection e1 with e1
        subst e1
        have := hown.ne (g := b) (t := 25) (cs := cur.toList) (by unfold Blk; simpa using hg') (by decide)
        intro e
        apply this
        rw [hv1, e]; rfl
    refine ⟨b, g, _, _, rfl, h3 b rfl, hg, hbg, by rw [hcell, hv1], p1, p2, fun z => ⟨us, ?_, ?_, h3, h4⟩⟩
    · refine ownsRow_ne h1 hown ?_
      rw [hv1]
      exact keepB _ _ _ _ _ _
    · have := hput z
      rw [hrow] at this; exact this

/-- Two tables apart from each other and from a box q. -/
def TwoP (lo q : Nat) (W : World) (va vb : Value) (X Y : List (List Int)) : Prop :=
  ∃ P1 P2 : Nat → Prop, (∀ b, P1 b → lo ≤ b ∧ b < W.heap.size ∧ b ≠ q ∧ ¬ P2 b) ∧ (∀ b, P2 b → lo ≤ b ∧ b < W.heap.size ∧ b ≠ q) ∧ OwnP lo P1 W va X ∧ OwnP lo P2 W vb Y
theorem TwoP.keep {lo q : Nat} {S : Nat → Prop} {W W' : World} {va vb : Value} {X Y : List (List Int)} (h : TwoP lo q W va vb X Y) (k : Keep S W W') (hS : ∀ b, lo ≤ b → b ≠ q → b < W.heap.size → ¬ S b) : TwoP lo q W' va vb X Y := by
  obtain ⟨P1, P2, h1, h2, o1, o2⟩ := h
  have hs := k.size
  exact ⟨P1, P2, fun b hb => ⟨(h1 b hb).1, by have := (h1 b hb).2.1; omega, (h1 b hb).2.2⟩, fun b hb => ⟨(h2 b hb).1, by have := (h2 b hb).2.1; omega, (h2 b hb).2.2⟩,
    o1.keep k (fun x hx => hS x (h1 x hx).1 (h1 x hx).2.2.1 (h1 x hx).2.1), o2.keep k (fun x hx => hS x (h2 x hx).1 (h2 x hx).2.2 (h2 x hx).2.1)⟩
theorem TwoP.under {lo q : Nat} {W W' : World} {va vb : Value} {X Y : List (List Int)} (h : TwoP lo q W va vb X Y) (hb : Below W.heap.size W W') : TwoP lo q W' va vb X Y :=
  h.keep (S := fun b => W.heap.size ≤ b) (Keep.of_below hb) fun x _ _ x1 x2 => by omega
/-- An entry of each written, first in the first table. -/
theorem TwoP.put {lo q : Nat} {W : World} {sa sb : Option Addr} {n c n' c' : Nat} {X Y : List (List Int)} (h : TwoP lo q W (.slice sa n c) (.slice sb n' c') X Y) {u y m m' : Nat}
    (hu : u < X.length) (hu' : u < Y.length) (hm : (row X u).length = m) (hm' : (row Y u).length = m') (hy : y < m) (hy' : y < m') :
    ∃ b1 g1 r1 b2 g2 r2 z1 z2, sa = some ⟨b1, 0, none⟩ ∧ sb = some ⟨b2, 0, none⟩ ∧ (lo ≤ b1 ∧ lo ≤ g1 ∧ lo ≤ b2 ∧ lo ≤ g2) ∧ (q ≠ b1 ∧ q ≠ g1 ∧ q ≠ b2 ∧ q ≠ g2) ∧ (b1 ≠ g1 ∧ b1 ≠ g2 ∧ b2 ≠ g1 ∧ b2 ≠ g2 ∧ g1 ≠ g2) ∧
      W.cell? ⟨b1, u, none⟩ = some (.slice (some ⟨g1, 0, none⟩) m r1) ∧ W.cell? ⟨b2, u, none⟩ = some (.slice (some ⟨g2, 0, none⟩) m' r2) ∧ W.cell? ⟨g1, y, none⟩ = some z1 ∧ W.frozen? ⟨g1, y, none⟩ = false ∧ 
      (∀ s : Int, (W.setCell ⟨g1, y, none⟩ (.int .i64 s)).cell? ⟨g2, y, none⟩ = some z2 ∧ (W.setCell ⟨g1, y, none⟩ (.int .i64 s)).frozen? ⟨g2, y, none⟩ = false) ∧
      ∀ s t : Int, TwoP lo q ((W.setCell ⟨g1, y, none⟩ (.int .i64 s)).setCell ⟨g2, y, none⟩ (.int .i64 t)) (.slice sa n c) (.slice sb n' c') (X.set u ((row X u).set y s)) (Y.set u ((row Y u).set y t)) := by
  obtain ⟨P1, P2, h1, h2, o1, o2⟩ := h
  obtain ⟨b1, g1, r1, z1, rfl, p1, p3, p5, p6, p7, p8, p9⟩ := o1.put hu hm hy
  obtain ⟨b2, g2, r2, z2, rfl, k1, k3, k5, k6, k7, k8, k9⟩ := o2.put hu' hm' hy'
  have a1 := h1 b1 p1; have a2 := h1 g1 p3; have a3 := h2 b2 k1; have a4 := h2 g2 k3
  have e1 : b1 ≠ g2 := fun e => a1.2.2.2 (e ▸ k3)
  have e2 : b2 ≠ g1 := fun e => a2.2.2.2 (e ▸ k1)
  have e3 : g1 ≠ g2 := fun e => a2.2.2.2 (e ▸ k3)
  have hmid : ∀ s : Int, OwnP lo P2 (W.setCell ⟨g1, y, none⟩ (.int .i64 s)) (.slice (some ⟨b2, 0, none⟩) n' c') Y := fun s => by
    have kk := (Keep.refl (fun x => x = g1) W).setCell (p := ⟨g1, y, none⟩) (.inl rfl) (.int .i64 s)
    exact o2.keep kk (fun x hx e => a2.2.2.2 (e ▸ hx))
  have hmid2 : ∀ s : Int, (W.setCell ⟨g1, y, none⟩ (.int .i64 s)).cell? ⟨g2, y, none⟩ = some z2 ∧ (W.setCell ⟨g1, y, none⟩ (.int .i64 s)).frozen? ⟨g2, y, none⟩ = false ∧ ∀ t : Int, OwnP lo P2 ((W.setCell ⟨g1, y, none⟩ (.int .i64 s)).setCell ⟨g2, y, none⟩ (.int .i64 t)) (.slice (some ⟨b2, 0, none⟩) n' c') (Y.set u ((row Y u).set y t)) := fun s => by
    have kk := (Keep.refl (fun x => x = g1) W).setCell (p := ⟨g1, y, none⟩) (.inl rfl) (.int .i64 s)
    obtain ⟨b2', g2', r2', z2', hb', _, _, _, j6, j7, j8, j9⟩ := (hmid s).put hu' hm' hy'
    have k6' : (W.setCell ⟨g1, y, none⟩ (.int .i64 s)).cell? ⟨b2, u, none⟩ = some (.slice (some ⟨g2, 0, none⟩) m' r2) := (World.cell?_of_block (w := W) (kk.block b2 (cell_lt k6) (by omega))).trans k6
    have k7' : (W.setCell ⟨g1, y, none⟩ (.int .i64 s)).cell? ⟨g2, y, none⟩ = some z2 := (World.cell?_of_block (w := W) (kk.block g2 (cell_lt k7) (by omega))).trans k7
    injection hb' with hb'; injection hb' with hb'; subst hb'
    rw [k6'] at j6
    injection j6 with j6; injection j6 with j6; injection j6 with j6; injection j6 with j6; subst j6
    exact ⟨k7', j8, j9⟩
  refine ⟨b1, g1, r1, b2, g2, r2, z1, z2, rfl, rfl, ⟨a1.1, a2.1, a3.1, a4.1⟩, ⟨a1.2.2.1.symm, a2.2.2.1.symm, a3.2.2.symm, a4.2.2.symm⟩, ⟨p5, e1, e2, k5, e3⟩, p6, k6, p7, p8, fun s => ⟨(hmid2 s).1, (hmid2 s).2.1⟩, ?_⟩
  intro s t
  have kk2 := (Keep.refl (fun x => x = g2) (W.setCell ⟨g1, y, none⟩ (.int .i64 s))).setCell (p := ⟨g2, y, none⟩) (.inl rfl) (.int .i64 t)
  refine ⟨P1, P2, fun b hb => ⟨(h1 b hb).1, by rw [size_set, size_set]; exact (h1 b hb).2.1, (h1 b hb).2.2⟩, fun b hb => ⟨(h2 b hb).1, by rw [size_set, size_set]; exact (h2 b hb).2.1, (h2 b hb).2.2⟩, (p9 s).keep kk2 (fun x hx e => (h1 x hx).2.2.2 (e ▸ k3)), (hmid2 s).2.2 t⟩
end Go.Proofs.Ytkcobfkmeaakoaa
