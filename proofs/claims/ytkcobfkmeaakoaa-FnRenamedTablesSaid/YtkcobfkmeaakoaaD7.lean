/-
  The laws' own dice (roll, below), and the draw of FnRenamedTables.
-/
import Derived.Test.YtkcobfkmeaakoaaD6
namespace Go.Proofs.Ytkcobfkmeaakoaa
open Go Go.RowKit

/-- The source at block b. -/
def Dice (w : World) (b : Nat) : Prop :=
  ∃ (v : Value) (n i : Nat) (h : Int), Blk w b 102 [v, .int .i64 i, .int .u64 h] ∧ BytesB w v n b ∧ i ≤ n ∧ 0 ≤ h ∧ h ≤ 18446744073709551615
theorem Dice.keep {S : Nat → Prop} {w w' : World} {b : Nat} (h : Dice w b) (k : Keep S w w') (hs : ∀ p, p ≤ b → ¬ S p) : Dice w' b := by
  obtain ⟨v, n, i, x, h1, h2, h3⟩ := h
  exact ⟨v, n, i, x, h1.of_block (k.block b h1.lt (hs b (Nat.le_refl _))), h2.keep k (fun p hp => hs p (by omega)), h3⟩
theorem Dice.lt {w : World} {b : Nat} (h : Dice w b) : b < w.heap.size := by
  obtain ⟨v, n, i, x, h1, _⟩ := h; exact h1.lt
theorem Dice.under {w w' : World} {b : Nat} (h : Dice w b) (hb : Below w.heap.size w w') : Dice w' b :=
  h.keep (S := fun k => w.heap.size ≤ k) (Keep.of_below hb) (fun p hp e => by have := h.lt; omega)

/-- A draw leaves all but the source as it was. -/
def Rolled (b : Nat) (w w' : World) : Prop := Dice w' b ∧ Keep (fun k => k = b) w w'
theorem Rolled.refl {b : Nat} {w : World} (h : Dice w b) : Rolled b w w := ⟨h, Keep.refl _ _⟩
theorem Rolled.trans {b : Nat} {w w' w'' : World} (h : Rolled b w w') (k : Rolled b w' w'') : Rolled b w w'' := ⟨k.1, h.2.trans k.2⟩
theorem Rolled.under {b : Nat} {w w' w'' : World} (h : Rolled b w w') (k : Below w'.heap.size w' w'') : Rolled b w w'' := ⟨h.1.under k, h.2.under k⟩
theorem Rolled.own {b B : Nat} {w w' : World} {v : Value} {xs : List Int} (h : Rolled b w w') (ho : Own B w v xs) (hB : b < B) : Own B w' v xs := ho.keep h.2 (fun k h1 h2 e => by have e : k = b := e; omega)
theorem Rolled.below {b B : Nat} {w0 w w' : World} (h : Rolled b w w') (hb : Below B w0 w) (hB : B ≤ b) (hs : B ≤ w.heap.size) : Below B w0 w' := hb.trans (h.2.below fun k hk => ⟨by omega, fun e => by have e : k = b := e; omega⟩)
theorem Rolled.blk {b g : Nat} {w w' : World} {t : TypeId} {cs : List Value} (h : Rolled b w w') (hk : Blk w g t cs) (hg : g ≠ b) : Blk w' g t cs := hk.of_block (h.2.block g hk.lt hg)

set_option maxRecDepth 100000 in
set_option maxHeartbeats 1600000 in
theorem c_below (b : Nat) (n : Int) (w : World) (hs : Dice w b) (h1 : 1 ≤ n) (h2 : n ≤ 9223372036854775807) :
    Calls Try.prog 66 #[.pointer (some ⟨b, 0, none⟩), .int .i64 n] w (fun e w' => ∃ r : Int, e = .returned (.int .i64 r) ∧ 0 ≤ r ∧ r < n ∧ Rolled b w w') := by
  obtain ⟨v, m, i, h, hblk, hby, him, hh0, hh1⟩ := hs
  have HBy := Lib.hid hby
  obtain ⟨a, c, hv, hmc, hcm, hcell⟩ := hby
  subst hv
  obtain ⟨W, hW⟩ : ∃ W : Int, IntKind.u64.wrap (IntKind.u64.wrap (h * 6364136223846793005) + 1442695040888963407) = W := ⟨_, rfl⟩
  have hWr := wrap64 (IntKind.u64.wrap (h * 6364136223846793005) + 1442695040888963407)
  rw [hW] at hWr
  obtain ⟨hW0, hW1⟩ := hWr
  obtain ⟨X, hX⟩ : ∃ X : Int, bits BinOp.and IntKind.u64 (W / 8589934592) 16777215 = X := ⟨_, rfl⟩
  have hXr : 0 ≤ X ∧ X < 16777216 := by
    rw [and_24 _ (by omega) (by omega)] at hX; omega
  obtain ⟨hX0, hX1⟩ := hXr
  have hXw : IntKind.i64.wrap X = X := by rw [IntKind.wrap_i64]; omega
  have hb2 := hblk.set 2 (.int .u64 W)
  have hk2 : Keep (fun k => k = b) w (w.setCell ⟨b, 2, none⟩ (.int .u64 W)) := (Keep.refl (fun k => k = b) w).setCell (p := ⟨b, 2, none⟩) (.inl rfl) _
  have hBy2 := HBy.out.keep hk2 (fun p hp e => by have e : p = b := e; omega)
  go_enter Try.func66, Try.ntmps66
  have c0 := hblk.cell (i := 0) (by simp); have c1 := hblk.cell (i := 1) (by simp); have c2 := hblk.cell (i := 2) (by simp)
  have f2 := hblk.frozen 2
  have d0 := hb2.cell (i := 0) (by simp); have d1 := hb2.cell (i := 1) (by simp)
  simp only [List.getElem_cons_zero, List.getElem_cons_succ, List.set_cons_succ, List.set_cons_zero] at c0 c1 c2 d0 d1 hb2
  have HB2 := Lib.hid hb2; have HK2 := Lib.hid hk2; have HBY2 := Lib.hid hBy2
  clear hb2 hk2 hBy2 hblk
  by_cases hlt : i < m
  · obtain ⟨p0, o0, x, ha0, hpb, hcx, hx0, hx1⟩ := hcell i hlt
    subst ha0
    go_wp2
    go_quiet (fail)
    rename_i nq
    have hbq : Below (w.setCell ⟨b, 2, none⟩ (.int .u64 W)).heap.size (w.setCell ⟨b, 2, none⟩ (.int .u64 W)) ((w.setCell ⟨b, 2, none⟩ (.int .u64 W)).drewN nq) := below_drewN (Below.refl _ _) nq
    generalize (w.setCell ⟨b, 2, none⟩ (.int .u64 W)).drewN nq = wq at hbq ⊢
    have hBq := HB2.out.under hbq
    have e0 := hBq.cell (i := 0) (by simp); have e1 := hBq.cell (i := 1) (by simp)
    simp only [List.getElem_cons_zero, List.getElem_cons_succ] at e0 e1
    have g1 := hBq.frozen 1
    have hcx2 := cell_of_block (HK2.out.block p0 (cell_lt hcx) (fun e => by have e : p0 = b := e; omega)) hcx
    have hcq := cell_under hbq hcx2
    have HBq := Lib.hid hBq; have hKq := Lib.hid (HK2.out.under hbq)
    clear hBq c0 c1 c2 f2 d0 d1 hcx hcx2 hbq hW hX hXw
    go_wp2
    go_quiet (fail)
    have hbq : Below wq.heap.size wq (wq.drewN nq) := below_drewN (Below.refl _ _) nq
    have hBr := HBq.out.under hbq
    have hKr := hKq.out.under hbq
    generalize wq.drewN nq = wr at hbq hBr hKr ⊢
    have k1 := hBr.cell (i := 1) (by simp)
    simp only [List.getElem_cons_zero, List.getElem_cons_succ] at k1
    have g2 := hBr.frozen 1
    have hBs := hBr.set 1 (.int .i64 ((i + 1 : Nat) : Int))
    have hKs := hKr.setCell (p := ⟨b, 1, none⟩) (.inl rfl) (.int .i64 ((i + 1 : Nat) : Int))
    have HBs := Lib.hid hBs; have HKs := Lib.hid hKs
    have hmm : i + 1 ≤ m := hlt
    have hi63 : m ≤ 9223372036854775807 := by unfold maxLen at hcm; omega
    clear e0 e1 g1 hcq hbq hBr hKr hBs hKs
    have hn0 : 0 < n := by omega
    have hv0 := Int.emod_nonneg (X + x) (show n ≠ 0 by omega)
    have hv1 := Int.emod_lt_of_pos (X + x) hn0
    have HR := Lib.hid (And.intro hv0 hv1)
    clear hv0 hv1
    go_wp2
    go_ret
    exact ⟨(X + x) % n, rfl, HR.out.1, HR.out.2, ⟨_, m, i + 1, W, HBs.out, HBy.out.keep HKs.out (fun p hp e => by have e : p = b := e; omega), hmm, hW0, hW1⟩, HKs.out⟩
  · have hlt' : ¬ ((i : Int) < m) := by omega
    clear hlt
    go_wp2
    go_quiet (fail)
    have hbq : Below (w.setCell ⟨b, 2, none⟩ (.int .u64 W)).heap.size (w.setCell ⟨b, 2, none⟩ (.int .u64 W)) ((w.setCell ⟨b, 2, none⟩ (.int .u64 W)).drewN nq) := below_drewN (Below.refl _ _) nq
    generalize (w.setCell ⟨b, 2, none⟩ (.int .u64 W)).drewN nq = wq at hbq ⊢
    have HBs := Lib.hid (HB2.out.under hbq); have HKs := Lib.hid (HK2.out.under hbq)
    have hn0 : 0 < n := by omega
    have hv0 := Int.emod_nonneg X (show n ≠ 0 by omega)
    have hv1 := Int.emod_lt_of_pos X hn0
    have HR := Lib.hid (And.intro hv0 hv1)
    clear hv0 hv1 c0 c1 c2 f2 d0 d1 hbq hW hX hXw
    go_wp2
    go_ret
    exact ⟨X % n, rfl, HR.out.1, HR.out.2, ⟨_, m, i, W, HBs.out, HBy.out.keep HKs.out (fun p hp e => by have e : p = b := e; omega), him, hW0, hW1⟩, HKs.out⟩
set_option maxRecDepth 100000 in
set_option maxHeartbeats 1600000 in
theorem c_roll (v : Value) (n : Nat) (sd : Int) (w : World) (hv : BytesR w v n) (hn : n ≤ 4096) :
    Calls Try.prog 51 #[v, .int .u64 sd] w (fun e w' => ∃ b : Nat, e = .returned (.pointer (some ⟨b, 0, none⟩)) ∧ w.heap.size ≤ b ∧ Dice w' b ∧ Below w.heap.size w w') := by
  have HV := Lib.hid hv
  obtain ⟨a, c, hva, hnc, hcm, hcell⟩ := hv
  subst hva
  clear hcell
  obtain ⟨h0, hh0⟩ : ∃ h : Int, IntKind.u64.wrap (IntKind.u64.wrap (sd * 5507) + (n : Int)) = h := ⟨_, rfl⟩
  have hr := wrap64 (IntKind.u64.wrap (sd * 5507) + (n : Int))
  rw [hh0] at hr
  have HR := Lib.hid hr
  have HB1 : Hid (Below w.heap.size w (w.alloc (.cells #[.slice a n c, .int .i64 0, .int .u64 h0] 102))) := Lib.hid ((Below.refl _ _).alloc (Nat.le_refl _) _)
  have HK1 : Hid (Blk (w.alloc (.cells #[.slice a n c, .int .i64 0, .int .u64 h0] 102)) w.heap.size 102 [.slice a n c, .int .i64 0, .int .u64 h0]) := Lib.hid (Blk.new w [.slice a n c, .int .i64 0, .int .u64 h0] 102)
  go_enter Try.func51, Try.ntmps51
  have HR0 : Hid (0 ≤ h0 ∧ h0 ≤ 18446744073709551615) := HR
  go_wp2
  go_loopw [6] (fun i wr => ∃ (k : Nat) (h : Int), k ≤ n ∧ i = .int .i64 k ∧ Hid (Blk wr w.heap.size 102 [.slice a n c, .int .i64 0, .int .u64 h]) ∧ Hid (0 ≤ h ∧ h ≤ 18446744073709551615) ∧ Hid (Below w.heap.size w wr)) (fun i _ => n - (intOf i).toNat)
  case atStart => exact ⟨0, h0, Nat.zero_le _, rfl, HK1, HR0, HB1⟩
  case round =>
    clear HB1 HK1 HR0 HR hr
    obtain ⟨k, h, hk, rfl, HK, HH, HB⟩ := hrel
    by_cases hlt : k < n
    · obtain ⟨a', c', hva', -, -, hc⟩ := HV.out.below HB.out
      injection hva' with e1 e2 e3
      subst e1 e3
      clear e2
      obtain ⟨p0, o0, x, ha0, hcell, hx0, hx1⟩ := hc k hlt
      subst ha0
      clear hc
      have hk4 : (k : Int) < 4096 := by omega
      have c0 := HK.out.cell (i := 2) (by simp)
      simp only [List.getElem_cons_zero, List.getElem_cons_succ] at c0
      have f0 := HK.out.frozen 2
      obtain ⟨W, hW⟩ : ∃ W : Int, IntKind.u64.wrap (IntKind.u64.wrap (IntKind.u64.wrap (h * 1099511628211) + IntKind.u64.wrap x) + 5) = W := ⟨_, rfl⟩
      have hWr := wrap64 (IntKind.u64.wrap (IntKind.u64.wrap (h * 1099511628211) + IntKind.u64.wrap x) + 5)
      rw [hW] at hWr
      have HWr := Lib.hid hWr
      have HKs := Lib.hid (HK.out.set 2 (.int .u64 W))
      clear hWr
      go_wp2
      go_still_tail 15, (by kernel_rfl)
      change wpList _ _ _ _ _ wr.drew
      go_wp2
      go_roundw
      case rel => exact ⟨k + 1, W, by omega, by go_num, by first | exact HKs | exact Lib.hid HKs.out.drew, HWr, by first | exact Lib.hid (HB.out.setCell (p := ⟨w.heap.size, 2, none⟩) (Nat.le_refl _) _) | exact Lib.hid (HB.out.setCell (p := ⟨w.heap.size, 2, none⟩) (Nat.le_refl _) _).drew⟩
      case measure => simp [intOf]; omega
    · go_wp2
      go_ret
      exact ⟨w.heap.size, rfl, Nat.le_refl _, ⟨_, n, 0, h, HK.out, (HV.out.b (Nat.le_refl _)).keep (Keep.of_below HB.out) (fun p hp e => by omega), Nat.zero_le _, HH.out.1, HH.out.2⟩, HB.out⟩

set_option maxRecDepth 100000 in
set_option maxHeartbeats 1600000 in
theorem c_DrawRename (v : Value) (n : Nat) (w : World) (hv : BytesR w v n) (hn : n ≤ 4096) :
    Calls Try.prog 44 #[v] w (fun e w' => ∃ (v1 v2 : Value) (X : List (List Int)) (p : List Int), e = .returned (.tuple #[v1, v2]) ∧ Rows w' v1 X ∧ Ints w' v2 p ∧ X.length ≤ 101 ∧ (∀ r ∈ X, r.length ≤ 101) ∧ p.length ≤ 12 ∧ Below w.heap.size w w') := by
  have HV := Lib.hid hv
  obtain ⟨a, c, hva, -⟩ := hv
  subst hva
  go_enter Try.func44, Try.ntmps44
  go_wp2_with fail
  refine (c_l01From _ n _ HV.out hn).mono ?_; rintro e w1 ⟨b, rfl, hwb, hs, hb1⟩
  have HS := Lib.hid hs; have HB1 := Lib.hid hb1; clear hs hb1
  go_wp2_with fail
  refine (c_l01Size b _ HS.out).mono ?_; rintro e w2 ⟨m, rfl, m1, m12, hd2⟩
  have HD2 := Lib.hid hd2; clear hd2
  have hb2 : Hid (b < w2.heap.size) := Lib.hid HD2.out.1.lt
  go_wp2_with fail
  refine (c_l01Bad b m _ HD2.out.1 m1 (by omega)).mono ?_; rintro e w3 ⟨r, X, rfl, hXl, hXr, hrx, hd3⟩
  have HD3 := Lib.hid (HD2.out.trans hd3); have HX := Lib.hid hrx; have HXl := Lib.hid (And.intro hXl hXr)
  have HBel := Lib.hid (HD3.out.below HB1.out hwb HB1.out.size)
  clear hd3 hrx hXl hXr
  go_wp2_with fail
  refine (c_l01Next b 20 _ HD3.out.1 (by omega) (by omega)).mono ?_; rintro e w4 ⟨t, rfl, t0, t1, hd4⟩
  have HD4 := Lib.hid hd4
  have HX4 := Lib.hid (drew_at hd4 HX.out hb2.out)
  have HB4 := Lib.hid (hd4.below HBel.out hwb HBel.out.size)
  clear hd4
  by_cases ht : t = 0
  · subst ht
    obtain ⟨m2, hm2⟩ : ∃ m2 : Nat, (1 : Int) + (m : Int) % 12 = m2 := ⟨1 + m % 12, by omega⟩
    have hm2b : 1 ≤ m2 ∧ m2 ≤ 12 := by omega
    obtain ⟨g1, g2⟩ := hm2b
    go_wp2_with fail
    refine (c_l01Spoil b m2 _ HD4.out.1 g1 (by omega)).mono ?_; rintro e w5 ⟨r5, q, rfl, hql, hoq, hd5⟩
    have HQ := Lib.hid hoq; have HQL := Lib.hid hql
    have HX5 := Lib.hid (drew_at hd5 HX4.out hb2.out)
    have HB5 := Lib.hid (hd5.below HB4.out hwb HB4.out.size)
    clear hd5 hoq hql hm2
    go_wp2
    go_ret2
    exact ⟨_, _, X, q, rfl, HX5.out.rows, HQ.out.ints, HXl.out.1, HXl.out.2, by rw [HQL.out]; exact g2, HB5.out⟩
  · go_wp2_with fail
    refine (c_l01Spoil b m _ HD4.out.1 m1 (by omega)).mono ?_; rintro e w5 ⟨r5, q, rfl, hql, hoq, hd5⟩
    have HQ := Lib.hid hoq; have HQL := Lib.hid hql
    have HX5 := Lib.hid (drew_at hd5 HX4.out hb2.out)
    have HB5 := Lib.hid (hd5.below HB4.out hwb HB4.out.size)
    clear hd5 hoq hql
    go_wp2
    go_ret2
    exact ⟨_, _, X, q, rfl, HX5.out.rows, HQ.out.ints, HXl.out.1, HXl.out.2, by rw [HQL.out]; exact m12, HB5.out⟩
end Go.Proofs.Ytkcobfkmeaakoaa
