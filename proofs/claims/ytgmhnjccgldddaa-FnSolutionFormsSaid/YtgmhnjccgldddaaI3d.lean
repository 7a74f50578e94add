/-
  The reference's renamed table. Condition: a table and a permutation of its elements.
-/
import Derived.Test.YtgmhnjccgldddaaI3c
import Derived.Test.YtgmhnjccgldddaaLawB
import Derived.StillTailTactics
namespace Go.Proofs.Ytgmhnjccgldddaa
set_option linter.unusedVariables false
set_option linter.unusedSimpArgs false
open Go.RowKit

/-- The row that is filled in for x: k entries. -/
def rfill (t : List (List Int)) (p : List Int) (x : Int) : Nat → List Int
  | 0 => List.replicate t.length 0
  | k+1 => (rfill t p x k).set (nth p k).toNat (nth p (val2 t x k))
/-- The table that is filled in: k rows. -/
def tfill (t : List (List Int)) (p : List Int) : Nat → List (List Int)
  | 0 => List.replicate t.length (List.replicate t.length 0)
  | k+1 => (tfill t p k).set (nth p k).toNat (rfill t p k t.length)
@[simp] theorem rfill_length (t : List (List Int)) (p : List Int) (x : Int) : ∀ k, (rfill t p x k).length = t.length
  | 0 => by simp [rfill]
  | k+1 => by simp [rfill, rfill_length t p x k]
@[simp] theorem tfill_length (t : List (List Int)) (p : List Int) : ∀ k, (tfill t p k).length = t.length
  | 0 => by simp [tfill]
  | k+1 => by simp [tfill, tfill_length t p k]

theorem nth_rfill {t : List (List Int)} {p : List Int} (h : RenOk t p) (x : Int) : ∀ k : Nat, k ≤ t.length → ∀ j : Nat, j < k → nth (rfill t p x k) (nth p j) = nth p (val2 t x j)
  | 0, _, j, hj => absurd hj (Nat.not_lt_zero _)
  | k+1, hk, j, hj => by
    have hl := h.2.2
    have hp := h.2.1.lt (x := k) (by omega) (by omega)
    have hj' := h.2.1.lt (x := j) (by omega) (by omega)
    unfold rfill
    rw [nth_set _ _ _ _ hp.1 (by simp; omega) hj'.1]
    by_cases e : j = k
    · subst e; simp
    · rw [if_neg (fun e' => e (by have := h.2.1.inj (x := j) (y := k) (by omega) (by omega) (by omega) (by omega) e'; omega))]
      exact nth_rfill h x k (by omega) j (by omega)
theorem rfill_done {t : List (List Int)} {p : List Int} (h : RenOk t p) (x : Int) : rfill t p x t.length = rowOf t.length fun y => nth p (val2 t x (nth (invL p) y)) := by
  have hl := h.2.2
  apply ext_nth (by simp)
  intro k hk
  simp at hk
  rw [nth_rowOf _ _ _ hk]
  obtain ⟨j, h0, h1, e⟩ := ex_pre h.2.1 (y := k) (by omega) (by omega)
  rw [← e, nth_invL h.2.1 h0 h1]
  have := nth_rfill h x t.length (Nat.le_refl _) j.toNat (by omega)
  rwa [show ((j.toNat : Nat) : Int) = j from by omega] at this

theorem row_set (t : List (List Int)) (x y : Int) (r : List Int) (h0 : 0 ≤ x) (h : x < t.length) (hy : 0 ≤ y) : row (t.set x.toNat r) y = if y = x then r else row t y := by
  unfold row
  simp only [List.getD_eq_getElem?_getD, List.getElem?_set]
  by_cases e : y = x
  · subst e; simp [show y.toNat < t.length from by omega]
  · simp [e, show ¬ x.toNat = y.toNat from by omega]
theorem row_tfill {t : List (List Int)} {p : List Int} (h : RenOk t p) : ∀ k : Nat, k ≤ t.length → ∀ j : Nat, j < k → row (tfill t p k) (nth p j) = rfill t p j t.length
  | 0, _, j, hj => absurd hj (Nat.not_lt_zero _)
  | k+1, hk, j, hj => by
    have hl := h.2.2
    have hp := h.2.1.lt (x := k) (by omega) (by omega)
    have hj' := h.2.1.lt (x := j) (by omega) (by omega)
    unfold tfill
    rw [row_set _ _ _ _ hp.1 (by simp; omega) hj'.1]
    by_cases e : j = k
    · subst e; simp
    · rw [if_neg (fun e' => e (by have := h.2.1.inj (x := j) (y := k) (by omega) (by omega) (by omega) (by omega) e'; omega))]
      exact row_tfill h k (by omega) j (by omega)
theorem row_tfill_zero {t : List (List Int)} {p : List Int} (h : RenOk t p) : ∀ k : Nat, k ≤ t.length → ∀ j : Nat, k ≤ j → j < t.length → row (tfill t p k) (nth p j) = List.replicate t.length 0
  | 0, _, j, _, hj => by
    have hl := h.2.2
    have hj' := h.2.1.lt (x := j) (by omega) (by omega)
    have h1 : (nth p j).toNat < t.length := by omega
    simp [tfill, row, h1]
  | k+1, hk, j, hkj, hj => by
    have hl := h.2.2
    have hp := h.2.1.lt (x := k) (by omega) (by omega)
    have hj' := h.2.1.lt (x := j) (by omega) (by omega)
    unfold tfill
    rw [row_set _ _ _ _ hp.1 (by simp; omega) hj'.1, if_neg (fun e' => by have := h.2.1.inj (x := j) (y := k) (by omega) (by omega) (by omega) (by omega) e'; omega)]
    exact row_tfill_zero h k (by omega) j (by omega) hj
theorem ext_row {t u : List (List Int)} (hl : t.length = u.length) (h : ∀ k : Nat, k < t.length → row t k = row u k) : t = u := by
  apply List.ext_getElem hl
  intro k h1 h2
  have := h k h1
  rwa [row_nat t k h1, row_nat u k h2] at this
theorem tfill_done {t : List (List Int)} {p : List Int} (h : RenOk t p) : tfill t p t.length = renL t p := by
  have hl := h.2.2
  apply ext_row (by simp)
  intro k hk
  simp at hk
  have e1 : row (renL t p) k = rowOf t.length fun y => nth p (val2 t (nth (invL p) k) (nth (invL p) y)) := row_tabOf _ _ _ hk
  rw [e1]
  obtain ⟨j, h0, h1, e⟩ := ex_pre h.2.1 (y := k) (by omega) (by omega)
  rw [← e, nth_invL h.2.1 h0 h1]
  have := row_tfill h t.length (Nat.le_refl _) j.toNat (by omega)
  rw [show ((j.toNat : Nat) : Int) = j from by omega] at this
  rw [this, rfill_done h]

theorem cell_other (w : World) {b o g i : Nat} (v : Value) (h : ¬ b = g) : (w.setCell ⟨g, i, none⟩ v).drew.cell? ⟨b, o, none⟩ = w.cell? ⟨b, o, none⟩ := by
  show (w.setCell ⟨g, i, none⟩ v).cell? ⟨b, o, none⟩ = _
  exact World.cell?_of_block (w := w) (Below.heap_setCell w ⟨g, i, none⟩ v b h)
theorem keepB (w : World) (g n c i : Nat) (v : Value) : Keep (fun b => (Value.slice (some ⟨g, 0, none⟩) n c).ownBlock = some b) w (w.setCell ⟨g, i, none⟩ v) :=
  (Keep.refl (fun b => (Value.slice (some ⟨g, 0, none⟩) n c).ownBlock = some b) w).setCell (p := ⟨g, i, none⟩) (.inl rfl) v
/-- A store into a cell of a row of the table. -/
theorem RowVals.put {B : Nat} {w : World} {us : List Value} {xss : List (List Int)} (h : RowVals B w us xss) {u : Nat} (hu : u < us.length) (hu' : u < xss.length) {g n c : Nat} (hv : us[u] = .slice (some ⟨g, 0, none⟩) n c) {y : Nat} (hy : y < (xss[u]).length) (z : Int) :
    RowVals B (w.setCell ⟨g, y, none⟩ (.int .i64 z)) us (xss.set u ((xss[u]).set y z)) := by
  have hk : Keep (fun b => us[u].ownBlock = some b) w (w.setCell ⟨g, y, none⟩ (.int .i64 z)) := (Keep.refl _ w).setCell (p := ⟨g, y, none⟩) (.inl (by rw [hv]; rfl)) _
  refine h.turn hu ?_ hk
  have ho := h.own u hu hu'
  rcases ho.open with ⟨h1, h2⟩ | ⟨g', cs, h1, h2, h3, h4⟩
  · rw [h2] at hy; simp at hy
  · rw [h1] at hv
    injection hv with e1 e2 e3
    injection e1 with e1
    injection e1 with e1
    subst e1
    rw [h1]
    have hset := h3.set y (.int .i64 z)
    rw [List.set_append, if_pos (by simpa using hy), ← List.map_set] at hset
    exact Own.shut hset h2 (by simpa using h4) (by simp) (by simp)
theorem RowVals.cellAt {B : Nat} {w : World} {us : List Value} {xss : List (List Int)} (h : RowVals B w us xss) {u : Nat} (hu : u < us.length) (hu' : u < xss.length) {g n c : Nat} (hv : us[u] = .slice (some ⟨g, 0, none⟩) n c) {y : Nat} (hy : y < (xss[u]).length) :
    w.cell? ⟨g, y, none⟩ = some (.int .i64 (nth xss[u] y)) ∧ w.frozen? ⟨g, y, none⟩ = false := by
  have ho := h.own u hu hu'
  rcases ho.open with ⟨h1, h2⟩ | ⟨g', cs, h1, h2, h3, h4⟩
  · rw [h2] at hy; simp at hy
  · rw [h1] at hv
    injection hv with e1 e2 e3
    injection e1 with e1
    injection e1 with e1
    subst e1
    refine ⟨?_, h3.frozen y⟩
    rw [h3.cell (i := y) (by simp; omega), List.getElem_append_left (by simpa using hy)]
    simp [nth_nat _ _ hy]

set_option maxRecDepth 100000 in
set_option maxHeartbeats 2000000 in
theorem c_l01Rename (v1 v2 : Value) (t : List (List Int)) (p : List Int) (w : World) (hx : Rows w v1 t) (hp : Ints w v2 p) (hok : RenOk t p) :
    Calls Try.prog 58 #[v1, v2] w (RRows w (renL t p)) := by
  obtain ⟨a, c, rfl, _, _⟩ := hx.shape
  obtain ⟨a2, c2, rfl, _, _⟩ := hp.shape
  obtain ⟨hl1, hl2⟩ := isTab_len hok.1
  have hlp := hok.2.2
  have HOK := Lib.hid hok; have HLP := Lib.hid hlp; clear hok hlp
  have hmk := run_make_row' (P := Try.prog) 26 2 (.int .i64 0) 8 Try.underlying26 inf_int64 rfl .i64 .i64 t.length (by omega) (by omega)
  go_enter Try.func58, Try.ntmps58
  go_wp2
  go_loopw [5, 6] (fun s i wr => ∃ (k : Nat) (sa : Option Addr) (sc : Nat), k ≤ t.length ∧ i = .int .i64 k ∧ s = .slice sa k sc ∧ Below w.heap.size w wr ∧ OwnRows w.heap.size wr (.slice sa k sc) (List.replicate k (List.replicate t.length 0))) (fun _ i _ => t.length - (intOf i).toNat)
  case atStart => exact ⟨0, _, _, Nat.zero_le _, rfl, rfl, (Below.refl _ _).alloc (Nat.le_refl _) _, OwnRows.made0 w (Nat.le_refl _)⟩
  case round =>
    obtain ⟨k, sa, sc, hk, rfl, rfl, hb, hown⟩ := hrel
    by_cases hlt : k < t.length
    · have Hb := Lib.hid hb; have Ho := Lib.hid hown; have Hs := Lib.hid hb.size; clear hb hown
      obtain ⟨wo, rfl⟩ : ∃ wo : World, wo = wr := ⟨_, rfl⟩
      have HB1 : Hid (Below wo.heap.size wo (wo.alloc (.cells (madeCells #[.int .i64 0] t.length) 2))) := (Below.refl _ _).alloc (Nat.le_refl _) _
      have HR : Hid (Own wo.heap.size (wo.alloc (.cells (madeCells #[.int .i64 0] t.length) 2)) (.slice (some ⟨wo.heap.size, 0, none⟩) t.length t.length) (List.replicate t.length 0)) :=
        Own.of_blk (by have := Blk.made wo (.int .i64 0) t.length 2; simpa using this) (Nat.le_refl _) (by simp [maxLen]; omega) (by simp) (by simp)
      go_wp2_with (at_builtin; go_must (refine wpList_app_row w.heap.size wo _ _ (List.replicate k (List.replicate t.length 0)) _ (List.replicate t.length 0) _ _ rfl rfl rfl Ho.out HB1.out HR.out (by simp [Act.eval]) (by simp; omega) Hs.out ?_); intro a' c' w' hown' hkeep; rw [List.length_replicate]; have Hk := Lib.hid hkeep; have Ho' := Lib.hid hown'; clear hkeep hown')
      go_roundw
      case rel =>
        have h1 := Ho'.out
        rw [List.length_replicate, ← List.replicate_succ'] at h1
        exact ⟨k + 1, a', c', by omega, by go_num, rfl, OwnRows.frame Ho.out (bb Hb.out HB1.out) (Nat.le_refl _) (Nat.le_trans Hs.out HB1.out.size) Hk.out, h1⟩
      case measure => simp [intOf]; omega
    · obtain rfl : k = t.length := by omega
      obtain ⟨us, ho1, ho2⟩ := hown
      have hul : us.length = t.length := by rw [ho2.len]; simp
      have HU := Lib.hid hul
      have hvals0 : RowVals w.heap.size wr us (tfill t p 0) := ho2
      obtain ⟨wo, rfl⟩ : ∃ wo : World, wo = wr := ⟨_, rfl⟩
      have HB := Lib.hid hb; have HO := Lib.hid ho1; have HV := Lib.hid hvals0
      clear hmk hb ho1 ho2 hvals0 hul
      go_wp2
      go_loopw [7, 8, 9] (fun i _ _ wr => ∃ k : Nat, k ≤ t.length ∧ i = .int .i64 k ∧ Below w.heap.size w wr ∧ Hid (wr.ownsRow w.heap.size 26 1 (.slice sa t.length sc) us.length us) ∧ RowVals w.heap.size wr us (tfill t p k)) (fun i _ _ _ => t.length - (intOf i).toNat)
      case atStart => exact ⟨0, Nat.zero_le _, rfl, HB.out, HO, HV.out⟩
      case round =>
        clear HB HO HV
        obtain ⟨k, hk, rfl, hb, HOr, hvals⟩ := hrel
        by_cases hlt : k < t.length
        · have hkp : k < p.length := by rw [HLP.out]; exact hlt
          obtain ⟨b1, o1, rfl, hcp⟩ := (hp.below hb).get k hkp
          have hpk := HOK.out.2.1.lt (x := k) (by omega) (by rw [HLP.out]; omega)
          rw [HLP.out] at hpk
          obtain ⟨hpk0, hpk1⟩ := hpk
          obtain ⟨wz, rfl⟩ : ∃ wz : World, wz = wr := ⟨_, rfl⟩
          obtain ⟨sa', sc', hsl, _, _, hcells⟩ := ownsRow_cells HOr.out
          rw [HU.out] at hsl
          cases hsl
          have hku : (nth p k).toNat < us.length := by rw [HU.out]; omega
          obtain ⟨g, rfl, hcu⟩ := hcells _ hku
          have hku' : (nth p k).toNat < (tfill t p k).length := by simp; omega
          have hrow0 : (tfill t p k)[(nth p k).toNat] = List.replicate t.length 0 := by
            have := row_tfill_zero HOK.out k (by omega) k (Nat.le_refl _) hlt
            rw [← this]
            unfold row
            rw [List.getD_eq_getElem?_getD, List.getElem?_eq_getElem hku']; rfl
          have hown0 := hvals.own _ hku hku'
          rcases hown0.open with ⟨_, h2⟩ | ⟨gr, cs, h1, _, _, _⟩
          · rw [hrow0] at h2
            have : t.length = 0 := by simpa using congrArg List.length h2
            omega
          · rw [hrow0] at h1
            simp only [List.length_replicate] at h1
            rw [h1] at hcu
            have H1 := Lib.hid h1
            have hzero : (tfill t p k).set (nth p k).toNat (rfill t p k 0) = tfill t p k := by
              rw [show rfill t p k 0 = (tfill t p k)[(nth p k).toNat] from by rw [hrow0]; rfl]
              exact List.set_getElem_self hku'
            have hv0 : RowVals w.heap.size wz us ((tfill t p k).set (nth p k).toNat (rfill t p k 0)) := by rw [hzero]; exact hvals
            have Hb := Lib.hid hb; have HV0 := Lib.hid hv0; have HU2 := Lib.hid hku; have HT2 := Lib.hid hku'
            clear hb hvals hcells hown0 hv0 h1
            go_wp2
            go_loopw [9] (fun j wi => ∃ y : Nat, y ≤ t.length ∧ j = .int .i64 y ∧ Below w.heap.size w wi ∧ Hid (wi.ownsRow w.heap.size 26 1 (.slice (some ⟨g, 0, none⟩) t.length sc) us.length us) ∧ RowVals w.heap.size wi us ((tfill t p k).set (nth p k).toNat (rfill t p k y))) (fun j _ => t.length - (intOf j).toNat)
            case atStart => exact ⟨0, Nat.zero_le _, rfl, Hb.out, HOr, HV0.out⟩
            case round =>
              clear HV0 hcp hcu
              obtain ⟨y, hy, rfl, hb, HOi, hvals⟩ := hrel
              by_cases hlty : y < t.length
              · have hpy := HOK.out.2.1.lt (x := y) (by omega) (by rw [HLP.out]; omega)
                rw [HLP.out] at hpy
                obtain ⟨hpy0, hpy1⟩ := hpy
                have k1 := (hp.below hb).at y (by rw [HLP.out]; exact hlty)
                obtain ⟨bt, ot, ra, rc, rfl, k2, hr⟩ := (hx.below hb).getS k hlt
                have hrl := isTab_row HOK.out.1 (x := k) (by omega) (by omega)
                obtain ⟨br, or_, rfl, k3⟩ := hr.get y (by omega)
                have e : nth (row t k) y = val2 t k y := rfl
                rw [e] at k3
                have hval := val2_lt HOK.out.1 (x := k) (y := y) (by omega) (by omega) (by omega) (by omega)
                obtain ⟨hs0, hs1⟩ := hval
                have k4 := (hp.below hb).ati (val2 t k y) hs0 (by rw [HLP.out]; exact hs1)
                have hset1 : (nth p k).toNat < ((tfill t p k).set (nth p k).toNat (rfill t p k y)).length := by simpa using HT2.out
                have hrowset : ((tfill t p k).set (nth p k).toNat (rfill t p k y))[(nth p k).toNat]'hset1 = rfill t p k y := by simp
                have hylen : (nth p y).toNat < (((tfill t p k).set (nth p k).toNat (rfill t p k y))[(nth p k).toNat]'hset1).length := by rw [hrowset]; simp; omega
                have hvd : RowVals w.heap.size wr.drew us ((tfill t p k).set (nth p k).toNat (rfill t p k y)) := hvals.keep ((Keep.refl (fun _ => False) _).drew) (fun _ _ _ h => h)
                have hOd : wr.drew.ownsRow w.heap.size 26 1 (.slice (some ⟨g, 0, none⟩) t.length sc) us.length us := HOi.out
                have hbd := hb.drew
                obtain ⟨wd, hwd⟩ : ∃ wd, wr.drew = wd := ⟨_, rfl⟩
                rw [hwd] at hvd hOd hbd
                have HWD := Lib.hid hwd; clear hwd
                obtain ⟨k5', k6⟩ := hvd.cellAt HU2.out hset1 H1.out hylen
                obtain ⟨z5, k5⟩ : ∃ z, wd.cell? ⟨gr, (nth p y).toNat, none⟩ = some z := ⟨_, k5'⟩
                clear k5'
                have hput := hvd.put HU2.out hset1 H1.out hylen (nth p (val2 t k y))
                rw [hrowset, List.set_set] at hput
                have hO2 : Hid ((wd.setCell ⟨gr, (nth p y).toNat, none⟩ (.int .i64 (nth p (val2 t k y)))).ownsRow w.heap.size 26 1 (.slice (some ⟨g, 0, none⟩) t.length sc) us.length us) := by
                  have hown1 := hvd.own _ HU2.out hset1
                  refine ownsRow_ne hOd hown1 ?_
                  rw [H1.out]
                  exact keepB _ _ _ _ _ _
                have hgB : w.heap.size ≤ gr := by
                  have := (hvd.own _ HU2.out hset1).lt (k := gr) (by rw [H1.out]; rfl)
                  exact this.1
                have hb2 := hbd.setCell (p := ⟨gr, (nth p y).toNat, none⟩) hgB (.int .i64 (nth p (val2 t k y)))
                have hypl : y < p.length := by rw [HLP.out]; exact hlty
                have hvpl : val2 t k y < p.length := by rw [HLP.out]; exact hs1
                have hyrl : y < (row t k).length := by omega
                have hy0 : (0 : Int) ≤ y := by omega
                have hk0 : (0 : Int) ≤ k := by omega
                have hkt : (k : Int) < t.length := by omega
                have hyp : (y : Int) < p.length := by omega
                have hyr : (y : Int) < (row t k).length := by omega
                have Hb2 := Lib.hid hb2; have HP := Lib.hid hput; have HQ := Lib.hid hlty
                clear hb hvals hput hb2 hrowset hylen hset1 hgB hr hrl e hvd hOd hbd
                go_wp2
                go_still_tail 16, (by kernel_rfl)
                change wpList _ _ _ _ _ wr.drew
                rw [HWD.out]
                go_wp2
                go_roundw
                case rel => exact ⟨y + 1, by omega, by go_num, Hb2.out, hO2, HP.out⟩
                case measure => simp [intOf]; omega
              · obtain rfl : y = t.length := by omega
                have Hb2 := Lib.hid hb; have HP := Lib.hid hvals
                clear hb hvals
                go_wp2
                go_roundw
                case rel => exact ⟨k + 1, by omega, by go_num, Hb2.out, HOi, HP.out⟩
                case measure => simp [intOf]; omega
        · obtain rfl : k = t.length := by omega
          have Hb := Lib.hid hb; have HP := Lib.hid hvals
          clear hb hvals
          go_wp2
          go_ret
          exact ⟨_, rfl, ⟨us, HOr.out, by have := HP.out; rwa [tfill_done HOK.out] at this⟩, Hb.out⟩
end Go.Proofs.Ytgmhnjccgldddaa
