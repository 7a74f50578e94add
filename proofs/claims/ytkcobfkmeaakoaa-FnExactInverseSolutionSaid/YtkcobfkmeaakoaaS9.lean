/-
  The reference's inverse of a pair map: two tables of zeros that grow side by side in a box (l02Empty), then written pair by pair (l02Inverse).
-/
import Derived.Test.YtkcobfkmeaakoaaS8
import Derived.Test.YtkcobfkmeaakoaaP9
import Derived.Test.YtkcobfkmeaakoaaI31
namespace Go.Proofs.Ytkcobfkmeaakoaa
open Go Go.RowKit

theorem OwnP.blk {lo : Nat} {P : Nat → Prop} {w : World} {v : Value} {t : List (List Int)} (h : OwnP lo P w v t) {k : Nat} (hk : v.ownBlock = some k) : P k := by
  obtain ⟨us, _, _, h3, _⟩ := h
  exact h3 k hk
/-- Two tables apart from each other, all behind the box q. -/
structure Emp (B q : Nat) (W0 W : World) (va vb : Value) (X Y : List (List Int)) (P1 P2 : Nat → Prop) : Prop where
  p1 : ∀ b, P1 b → q < b ∧ b < W.heap.size ∧ ¬ P2 b
  p2 : ∀ b, P2 b → q < b ∧ b < W.heap.size ∧ ¬ P1 b
  o1 : OwnP B P1 W va X
  o2 : OwnP B P2 W vb Y
  hb : Below B W0 W
theorem Emp.swap {B q : Nat} {W0 W : World} {va vb : Value} {X Y : List (List Int)} {P1 P2 : Nat → Prop} (h : Emp B q W0 W va vb X Y P1 P2) : Emp B q W0 W vb va Y X P2 P1 := ⟨h.p2, h.p1, h.o2, h.o1, h.hb⟩
theorem Emp.drew {B q : Nat} {W0 W : World} {va vb : Value} {X Y : List (List Int)} {P1 P2 : Nat → Prop} (h : Emp B q W0 W va vb X Y P1 P2) : Emp B q W0 W.drew va vb X Y P1 P2 :=
  ⟨h.p1, h.p2, h.o1.under (Below.refl _ _).drew, h.o2.under (Below.refl _ _).drew, h.hb.drew⟩
theorem Emp.app {B q : Nat} {W0 W w2 : World} {va vb va' u : Value} {X Y X' : List (List Int)} {P1 P2 : Nat → Prop} {o : Obj} {g : Nat} (h : Emp B q W0 W va vb X Y P1 P2) (hq : q < W.heap.size) (hB : B ≤ q) (hu : u.ownBlock = some W.heap.size) (hv' : va'.ownBlock = some g)
    (ho : OwnP B (fun b => P1 b ∨ u.ownBlock = some b ∨ b = g) w2 va' X') (k : Keep (fun b => va.ownBlock = some b) (W.alloc o) w2) (hg : va.ownBlock = some g ∨ (W.alloc o).heap.size ≤ g) (i : Nat) (z : Value) :
    Emp B q W0 (w2.setCell ⟨q, i, none⟩ z) va' vb X' Y (fun b => P1 b ∨ u.ownBlock = some b ∨ b = g) P2 := by
  have hs := k.size
  have hs1 : (W.alloc o).heap.size = W.heap.size + 1 := by simp
  have hgl := (OwnRows.lt ho.out hv').2
  have hz := size_set w2 ⟨q, i, none⟩ z
  have hgq : q < g ∧ ¬ P2 g := by
    rcases hg with hg | hg
    · have := h.p1 g (h.o1.blk hg); exact ⟨this.1, this.2.2⟩
    · exact ⟨by omega, fun e => by have := (h.p2 g e).2.1; omega⟩
  have kk : Keep (fun b => va.ownBlock = some b ∨ b = q) W (w2.setCell ⟨q, i, none⟩ z) := by
    have k1 : Keep (fun b => va.ownBlock = some b ∨ b = q) W (W.alloc o) := (Keep.refl _ W).alloc o
    have k2 : Keep (fun b => va.ownBlock = some b ∨ b = q) (W.alloc o) w2 := ⟨k.os, k.tape, k.output, k.size, fun x hx hn => k.block x hx (fun e => hn (.inl e))⟩
    exact (k1.trans k2).setCell (p := ⟨q, i, none⟩) (.inl (.inr rfl)) z
  refine ⟨fun b hb => ?_, fun b hb => ?_, ?_, ?_, ?_⟩
  · rcases hb with hb | hb | hb
    · have := h.p1 b hb; exact ⟨this.1, by omega, this.2.2⟩
    · rw [hu] at hb; injection hb with hb; subst hb
      exact ⟨hq, by omega, fun e => by have := (h.p2 _ e).2.1; omega⟩
    · subst hb; exact ⟨hgq.1, by omega, hgq.2⟩
  · have h2 := h.p2 b hb
    refine ⟨h2.1, by omega, fun e => ?_⟩
    rcases e with e | e | e
    · exact h2.2.2 e
    · rw [hu] at e; injection e with e; omega
    · subst e; exact hgq.2 hb
  · refine ho.keep (keep1 w2 q i z) fun b hb e => ?_
    have e : b = q := e
    subst e
    rcases hb with hb | hb | hb
    · have := (h.p1 _ hb).1; omega
    · rw [hu] at hb; injection hb with hb; omega
    · subst hb; omega
  · refine h.o2.keep kk fun b hb e => ?_
    rcases e with e | e
    · exact (h.p2 b hb).2.2 (h.o1.blk e)
    · subst e; have := (h.p2 _ hb).1; omega
  · refine h.hb.trans (kk.below fun b hb => ⟨by omega, fun e => ?_⟩)
    rcases e with e | e
    · have := (h.p1 _ (h.o1.blk e)).1; omega
    · omega

theorem Emp.old {B q : Nat} {W0 W w2 : World} {va vb : Value} {X Y : List (List Int)} {P1 P2 : Nat → Prop} {o : Obj} (h : Emp B q W0 W va vb X Y P1 P2) (k : Keep (fun b => va.ownBlock = some b) (W.alloc o) w2) (i : Nat) (z : Value) {b : Nat} (hb : b < q) (hl : b < W.heap.size) :
    (w2.setCell ⟨q, i, none⟩ z).heap[b]? = W.heap[b]? := by
  have kk : Keep (fun b => va.ownBlock = some b ∨ b = q) W (w2.setCell ⟨q, i, none⟩ z) := by
    have k1 : Keep (fun b => va.ownBlock = some b ∨ b = q) W (W.alloc o) := (Keep.refl _ W).alloc o
    have k2 : Keep (fun b => va.ownBlock = some b ∨ b = q) (W.alloc o) w2 := ⟨k.os, k.tape, k.output, k.size, fun x hx hn => k.block x hx (fun e => hn (.inl e))⟩
    exact (k1.trans k2).setCell (p := ⟨q, i, none⟩) (.inl (.inr rfl)) z
  refine kk.block b hl fun e => ?_
  rcases e with e | e
  · have := (h.p1 _ (h.o1.blk e)).1; omega
  · omega

/-- Two tables apart from each other. -/
def RTwo (w0 : World) (X Y : List (List Int)) (e : Ending) (w' : World) : Prop :=
  ∃ r1 r2 P1 P2, e = .returned (.agg #[r1, r2]) ∧ Emp w0.heap.size (w0.heap.size + 1) w0 w' r1 r2 X Y P1 P2
theorem own_made (n : Nat) (W : World) (h : n ≤ maxLen) : Own W.heap.size (W.alloc (.cells (madeCells #[.int .i64 0] n) 2)) (.slice (some ⟨W.heap.size, 0, none⟩) n n) (List.replicate n 0) := by
  have := Blk.made W (.int .i64 0) n 2
  exact Own.shut (cs := []) (by simpa using this) (Nat.le_refl _) (by simpa using h) (by simp) (by simp)

set_option maxHeartbeats 1000000 in
theorem c_l02Empty (n : Nat) (w : World) (hn : n ≤ 12) :
    Calls Try.prog 152 #[.int .i64 n] w (RTwo w (tabOf n fun _ _ => 0) (tabOf n fun _ _ => 0)) := by
  obtain ⟨f0, f1, hW0, hsz⟩ := boxes2 w [.slice none 0 0, .slice none 0 0] [.slice none 0 0, .slice none 0 0] 27 27
  have hmk := run_make_row' (P := Try.prog) 25 2 (.int .i64 0) 8 Try.underlying25 inf_int64 rfl .i64 .i64 n (by omega) (by omega)
  go_enter Try.func152, Try.ntmps152
  go_wp2
  have hB0 : Below w.heap.size w ((w.alloc (.cells #[.slice none 0 0, .slice none 0 0] 27)).alloc (.cells #[.slice none 0 0, .slice none 0 0] 27)) := hW0
  have hE0 := Emp.mk (B := w.heap.size) (q := w.heap.size + 1) (W0 := w) (W := ((w.alloc (.cells #[.slice none 0 0, .slice none 0 0] 27)).alloc (.cells #[.slice none 0 0, .slice none 0 0] 27))) (P1 := fun _ => False) (P2 := fun _ => False) (fun b hb => hb.elim) (fun b hb => hb.elim) (OwnP.nil _ _ _) (OwnP.nil _ _ _) hB0
  go_loopw [4] (fun i wr => ∃ (k : Nat) (va vb : Value) (P1 P2 : Nat → Prop), k ≤ n ∧ i = .int .i64 k ∧ Hid (w.heap.size + 2 ≤ wr.heap.size) ∧ Hid (Blk wr w.heap.size 27 [.slice none 0 0, .slice none 0 0]) ∧ Hid (Blk wr (w.heap.size + 1) 27 [va, vb]) ∧
    Hid (Emp w.heap.size (w.heap.size + 1) w wr va vb (List.replicate k (List.replicate n 0)) (List.replicate k (List.replicate n 0)) P1 P2)) (fun i _ => n - (intOf i).toNat)
  case atStart => exact ⟨0, _, _, _, _, Nat.zero_le _, rfl, Lib.hid (by simp), Lib.hid f0, Lib.hid f1, Lib.hid hE0⟩
  case round =>
    clear hB0 f0 f1 hW0 hsz hE0
    obtain ⟨k, va, vb, P1, P2, hk, rfl, HS, HQ0, HQ1, HE⟩ := hrel
    obtain ⟨wo, rfl⟩ : ∃ wo : World, wo = wr := ⟨_, rfl⟩
    by_cases hlt : k < n
    · have HQd := Lib.hid HQ1.out.drew
      have HEd := Lib.hid HE.out.drew
      obtain ⟨cA, cB, cF, cG⟩ := two_cells HQd.out
      have hcm := (two_cells (HQ1.out.alloc (.cells (madeCells #[.int .i64 0] n) 2))).1
      have hcm2 := (two_cells ((HQ1.out.alloc (.cells (madeCells #[.int .i64 0] n) 2)).alloc (.cells #[.slice (some ⟨wo.heap.size, 0, none⟩) n n] 25))).1
      go_wp2
      go_region_law (first
        | (refine step_app_rowP P1 w.heap.size wo.heap.size (wo.drew.alloc (.cells (madeCells #[.int .i64 0] n) 2)) va (List.replicate k (List.replicate n 0)) (.slice (some ⟨wo.heap.size, 0, none⟩) n n) (List.replicate n 0) (.tmp 12) (.tmp 15) rfl rfl rfl (HEd.out.o1.under ((Below.refl _ _).alloc (Nat.le_refl _) _)) (fun b hb => (HE.out.p1 b hb).2.1) (own_made n wo.drew (by unfold maxLen; omega)) (show Value.slice (some ⟨wo.heap.size + 1, 0, none⟩) 1 1 = _ from by simp) (by simp; omega) (by have := HS.out; omega) (by have := HS.out; simp; omega) ?_; intro g c2 w2 hown2 hk2 hg2; rw [List.length_replicate] at hown2; rw [List.length_replicate]
           have hQ2 := (HQd.out.alloc (.cells (madeCells #[.int .i64 0] n) 2)).of_block (hk2.block _ (HQd.out.alloc (.cells (madeCells #[.int .i64 0] n) 2)).lt (fun e => by have := (HE.out.p1 _ (HE.out.o1.blk e)).1; omega))
           obtain ⟨dA, dB, dF, dG⟩ := two_cells hQ2
           have HQ2 := Lib.hid hQ2; have HO := Lib.hid hown2; have HK := Lib.hid hk2; have HG := Lib.hid hg2; clear hown2 hk2 hg2 hQ2))
      all_goals
        have hs2 := HS.out
        have hE3 := HEd.out.app (va' := .slice (some ⟨g, 0, none⟩) (k + 1) c2) (u := .slice (some ⟨wo.heap.size, 0, none⟩) n n) (by show _ < wo.heap.size; omega) (by omega) rfl rfl HO.out HK.out HG.out 0 (.slice (some ⟨g, 0, none⟩) (k + 1) c2)
        have hQ3 := HQ2.out.set 0 (.slice (some ⟨g, 0, none⟩) (k + 1) c2)
        have hZ3 := (HQ0.out.drew).of_block (HEd.out.old HK.out 0 (.slice (some ⟨g, 0, none⟩) (k + 1) c2) (b := w.heap.size) (by omega) HQ0.out.lt)
        obtain ⟨w3, hw3⟩ : ∃ w3, w2.setCell ⟨w.heap.size + 1, 0, none⟩ (.slice (some ⟨g, 0, none⟩) (k + 1) c2) = w3 := ⟨_, rfl⟩
        rw [hw3] at hE3 hQ3 hZ3 ⊢
        have hs3 : w.heap.size + 2 ≤ w3.heap.size := hQ3.lt
        have HE3 := Lib.hid hE3.swap
        have HEd3 := Lib.hid hE3.swap.drew
        have HQ3 := Lib.hid hQ3; have HZ3 := Lib.hid hZ3; have HS3 := Lib.hid hs3
        clear hE3 hQ3 hZ3 hw3 dA dB dF dG cA cB cF cG hcm hcm2 hs2 hs3
        have HQd3 := Lib.hid HQ3.out.drew
        obtain ⟨cA, cB, cF, cG⟩ := two_cells HQd3.out
        have hcm := (two_cells (HQ3.out.alloc (.cells (madeCells #[.int .i64 0] n) 2))).2.1
        have hcm2 := (two_cells ((HQ3.out.alloc (.cells (madeCells #[.int .i64 0] n) 2)).alloc (.cells #[.slice (some ⟨w3.heap.size, 0, none⟩) n n] 25))).2.1
        go_wp2
        go_region_law (first
          | (refine step_app_rowP P2 w.heap.size w3.heap.size (w3.drew.alloc (.cells (madeCells #[.int .i64 0] n) 2)) vb (List.replicate k (List.replicate n 0)) (.slice (some ⟨w3.heap.size, 0, none⟩) n n) (List.replicate n 0) (.tmp 19) (.tmp 22) rfl rfl rfl (HEd3.out.o1.under ((Below.refl _ _).alloc (Nat.le_refl _) _)) (fun b hb => (HE3.out.p1 b hb).2.1) (own_made n w3.drew (by unfold maxLen; omega)) (show Value.slice (some ⟨w3.heap.size + 1, 0, none⟩) 1 1 = _ from by simp) (by simp; omega) (by have := HS3.out; omega) (by have := HS3.out; simp; omega) ?_; intro g4 c4 w4 hown2 hk2 hg2; rw [List.length_replicate] at hown2; rw [List.length_replicate]
             have hQ2 := (HQd3.out.alloc (.cells (madeCells #[.int .i64 0] n) 2)).of_block (hk2.block _ (HQd3.out.alloc (.cells (madeCells #[.int .i64 0] n) 2)).lt (fun e => by have := (HE3.out.p1 _ (HE3.out.o1.blk e)).1; omega))
             obtain ⟨dA, dB, dF, dG⟩ := two_cells hQ2
             have HQ4 := Lib.hid hQ2; have HO4 := Lib.hid hown2; have HK4 := Lib.hid hk2; have HG4 := Lib.hid hg2; clear hown2 hk2 hg2 hQ2))
        all_goals
          have hs2 := HS3.out
          have hE5 := HEd3.out.app (va' := .slice (some ⟨g4, 0, none⟩) (k + 1) c4) (u := .slice (some ⟨w3.heap.size, 0, none⟩) n n) (by show _ < w3.heap.size; omega) (by omega) rfl rfl HO4.out HK4.out HG4.out 1 (.slice (some ⟨g4, 0, none⟩) (k + 1) c4)
          have hQ5 := HQ4.out.set 1 (.slice (some ⟨g4, 0, none⟩) (k + 1) c4)
          have hZ5 := (HZ3.out.drew).of_block (HEd3.out.old HK4.out 1 (.slice (some ⟨g4, 0, none⟩) (k + 1) c4) (b := w.heap.size) (by omega) HZ3.out.lt)
          obtain ⟨w5, hw5⟩ : ∃ w5, w4.setCell ⟨w.heap.size + 1, 1, none⟩ (.slice (some ⟨g4, 0, none⟩) (k + 1) c4) = w5 := ⟨_, rfl⟩
          rw [hw5] at hE5 hQ5 hZ5 ⊢
          have HE5 := Lib.hid hE5.swap; have HQ5 := Lib.hid hQ5; have HZ5 := Lib.hid hZ5
          clear hE5 hQ5 hZ5 hw5 dA dB dF dG cA cB cF cG hcm hcm2 hs2 hmk
          go_wp2
          go_roundw
          case rel =>
            have hE := HE5.out
            rw [← List.replicate_succ'] at hE
            exact ⟨k + 1, _, _, _, _, by omega, by go_num, Lib.hid HQ5.out.lt, HZ5, HQ5, Lib.hid hE⟩
          case measure => simp [intOf]; omega
    · obtain rfl : k = n := by omega
      have hE := HE.out
      have hrep : List.replicate k (List.replicate k (0 : Int)) = tabOf k fun _ _ => 0 := by
        apply ext_row (by simp)
        intro x hx
        simp at hx
        rw [row_tabOf _ _ _ hx, rowOf_const, row_nat _ _ (by simpa using hx)]
        simp
      rw [hrep] at hE
      obtain ⟨ra1, rc1, rfl, hca⟩ := OwnRows.shape' hE.o1.out
      obtain ⟨ra2, rc2, rfl, hcb⟩ := OwnRows.shape' hE.o2.out
      rw [show (tabOf k fun _ _ => (0 : Int)).length = k from by simp] at hE
      obtain ⟨z0, z1, z2, z3⟩ := two_cells HQ0.out
      have HQ1' := HQ1.out
      rw [show (tabOf k fun _ _ => (0 : Int)).length = k from by simp] at HQ1'
      obtain ⟨y0, y1, y2, y3⟩ := two_cells HQ1'
      have HE' := Lib.hid hE; clear hE hca hcb HE
      go_wp2
      refine bodyPost_ret (v := .agg #[.slice ra1 k rc1, .slice ra2 k rc2]) (by simp [results, Try.results152, go_sem, z0, z1]) rfl ⟨_, _, P1, P2, rfl, ?_⟩
      have kz : Keep (fun b => b = w.heap.size) wo ((wo.setCell ⟨w.heap.size, 0, none⟩ (.slice ra1 k rc1)).setCell ⟨w.heap.size, 1, none⟩ (.slice ra2 k rc2)) := keep_early _ _ _ _
      have hks := kz.size
      have hE := HE'.out
      exact ⟨fun b hb => ⟨(hE.p1 b hb).1, by have := (hE.p1 b hb).2.1; omega, (hE.p1 b hb).2.2⟩, fun b hb => ⟨(hE.p2 b hb).1, by have := (hE.p2 b hb).2.1; omega, (hE.p2 b hb).2.2⟩, hE.o1.keep kz (fun b hb e => by have := (hE.p1 b hb).1; omega), hE.o2.keep kz (fun b hb e => by have := (hE.p2 b hb).1; omega), hE.hb.trans (kz.below fun b hb => ⟨by have : w.heap.size + 2 ≤ wo.heap.size := HS.out; omega, fun e => by have e : b = w.heap.size := e; omega⟩)⟩
end Go.Proofs.Ytkcobfkmeaakoaa
