/-
  The reference's draw of a table that is seldom none (l01Bad), and the draw of FnRenamedTables.
-/
import Derived.Test.YtkcobfkmeaakoaaD5
import Derived.Test.YtkcobfkmeaakoaaS7
import Derived.Test.YtkcobfkmeaakoaaS5
namespace Go.Proofs.Ytkcobfkmeaakoaa
open Go Go.RowKit

/-- Integers that can be read, in a block from lo on. -/
def IntsAt (lo : Nat) (w : World) (v : Value) (xs : List Int) : Prop := Ints w v xs ∧ ∀ b o, (∃ n c, v = .slice (some ⟨b, o, none⟩) n c) → lo ≤ b
theorem Own.at' {lo : Nat} {w : World} {v : Value} {xs : List Int} (h : Own lo w v xs) : IntsAt lo w v xs := by
  refine ⟨h.ints, fun b o hv => ?_⟩
  obtain ⟨n, c, rfl⟩ := hv
  obtain ⟨hl, hn | ⟨g, cap, cur, hv, hb, hg, r⟩⟩ := h
  · cases hn.1
  · injection hv with e1; injection e1 with e1; injection e1 with e1; subst e1; exact hb
theorem IntsAt.keep {lo : Nat} {S : Nat → Prop} {w w' : World} {v : Value} {xs : List Int} (h : IntsAt lo w v xs) (k : Keep S w w') (hS : ∀ b, lo ≤ b → ¬ S b) : IntsAt lo w' v xs := by
  obtain ⟨⟨a, c, hv, h1, h2, hc⟩, hb⟩ := h
  refine ⟨⟨a, c, hv, h1, h2, fun i hi => ?_⟩, hb⟩
  obtain ⟨b, o, ha, hcell⟩ := hc i hi
  exact ⟨b, o, ha, cell_of_block (k.block b (cell_lt hcell) (hS b (hb b o ⟨_, _, by rw [hv, ha]⟩))) hcell⟩
/-- A table that can be read, all of it in blocks from lo on. -/
def RowsAt (lo : Nat) (w : World) (v : Value) (X : List (List Int)) : Prop :=
  ∃ (a : Option Addr) (c : Nat), v = .slice a X.length c ∧ X.length ≤ c ∧ c ≤ maxLen ∧ ∀ i (h : i < X.length), ∃ b o u, a = some ⟨b, o, none⟩ ∧ lo ≤ b ∧ w.cell? ⟨b, o + i, none⟩ = some u ∧ IntsAt lo w u X[i]
theorem RowsAt.rows {lo : Nat} {w : World} {v : Value} {X : List (List Int)} (h : RowsAt lo w v X) : Rows w v X := by
  obtain ⟨a, c, hv, h1, h2, hc⟩ := h
  exact ⟨a, c, hv, h1, h2, fun i hi => by obtain ⟨b, o, u, ha, _, hcell, hu⟩ := hc i hi; exact ⟨b, o, u, ha, hcell, hu.1⟩⟩
theorem RowsAt.keep {lo : Nat} {S : Nat → Prop} {w w' : World} {v : Value} {X : List (List Int)} (h : RowsAt lo w v X) (k : Keep S w w') (hS : ∀ b, lo ≤ b → ¬ S b) : RowsAt lo w' v X := by
  obtain ⟨a, c, hv, h1, h2, hc⟩ := h
  refine ⟨a, c, hv, h1, h2, fun i hi => ?_⟩
  obtain ⟨b, o, u, ha, hlo, hcell, hu⟩ := hc i hi
  exact ⟨b, o, u, ha, hlo, cell_of_block (k.block b (cell_lt hcell) (hS b hlo)) hcell, hu.keep k hS⟩
theorem OwnRows.at' {lo : Nat} {w : World} {v : Value} {X : List (List Int)} (h : OwnRows lo w v X) : RowsAt lo w v X := by
  obtain ⟨us, h1, h2⟩ := h
  have hlt := fun k (hk : v.ownBlock = some k) => World.ownsRow.lt h1 k hk
  obtain ⟨a, c, hv, hc, hm, hcell⟩ := ownsRow_cells h1
  rw [h2.len] at hv hc
  refine ⟨a, c, hv, hc, hm, fun i hi => ?_⟩
  have hi' : i < us.length := by rw [h2.len]; exact hi
  obtain ⟨g, ha, hg⟩ := hcell i hi'
  exact ⟨g, 0, us[i], ha, (hlt g (by rw [hv, ha]; rfl)).1, by rwa [Nat.zero_add], (h2.own i hi' hi).at'⟩
theorem RowVals.others {B : Nat} {w w' : World} {us : List Value} {xss : List (List Int)} (h : RowVals B w us xss) {k : Nat} (hk : k < us.length) (hkeep : Keep (fun b => us[k].ownBlock = some b) w w') (i : Nat) (hi : i < us.length) (hi' : i < xss.length) (e : k ≠ i) : Own B w' us[i] xss[i] := by
  have h0 := h.own i hi hi'
  obtain ⟨hl, hn | ⟨g, cap, cur, hv, hb, hg, r⟩⟩ := h0
  · exact ⟨hl, .inl hn⟩
  · refine ⟨hl, .inr ⟨g, cap, cur, hv, hb, ?_, r⟩⟩
    rw [hkeep.block g (Array.getElem?_eq_some_iff.1 hg).1 ?_]; exact hg
    intro e2
    have h1 : (us[i]).ownBlock = some g := by rw [hv]; rfl
    rcases Nat.lt_or_gt_of_ne e with hlt | hlt
    · have := List.pairwise_iff_getElem.1 h.apart k i hk hi hlt
      rcases this with h3 | h3
      · rw [h3] at e2; cases e2
      · exact h3 (e2.trans h1.symm)
    · have := List.pairwise_iff_getElem.1 h.apart i k hi hk hlt
      rcases this with h3 | h3
      · rw [h3] at h1; cases h1
      · exact h3 (h1.trans e2.symm)
/-- The first row appended to, and stored anew. -/
theorem first_row {lo : Nat} {w : World} {sa : Option Addr} {n c : Nat} {X : List (List Int)} (h : OwnRows lo w (.slice sa n c) X) (hX : 0 < X.length) :
    ∃ (b : Nat) (u : Value), sa = some ⟨b, 0, none⟩ ∧ lo ≤ b ∧ w.cell? ⟨b, 0, none⟩ = some u ∧ w.frozen? ⟨b, 0, none⟩ = false ∧ Own lo w u (row X 0) ∧
      ∀ (w' : World) (u' : Value) (ys : List Int), Keep (fun k => u.ownBlock = some k) w w' → Own lo w' u' ys → w'.cell? ⟨b, 0, none⟩ = some u ∧ w'.frozen? ⟨b, 0, none⟩ = false ∧ RowsAt lo (w'.setCell ⟨b, 0, none⟩ u') (.slice sa n c) (X.set 0 ys) := by
  obtain ⟨us, h1, h2⟩ := h
  have hlt := fun k (hk : (Value.slice sa n c).ownBlock = some k) => World.ownsRow.lt h1 k hk
  have h1' := h1
  obtain ⟨hl, hn | ⟨g, cap, cur, hv, hb, hg, hr1, hr2, hr3, hr4⟩⟩ := h1'
  · have := h2.len; have := hn.2; omega
  injection hv with e1 e2 e3
  subst e1
  have hul : 0 < us.length := by rw [h2.len]; exact hX
  obtain ⟨a, c', hv', hc', hm', hcell⟩ := ownsRow_cells h1
  injection hv' with e1 e4 e5
  subst e1
  have hblk : Blk w g 25 cur.toList := by unfold Blk; simpa using hg
  obtain ⟨g', hg', hcc⟩ := hcell 0 hul
  injection hg' with hg'; injection hg' with hg'; subst hg'
  have hrow : row X 0 = X[0] := row_nat X 0 hX
  have hown := h2.own 0 hul hX
  refine ⟨g, us[0], rfl, hb, hcc, hblk.frozen 0, by rw [hrow]; exact hown, fun w' u' ys hk ho => ?_⟩
  have hne : ∀ i (hi : i < us.length), us[i].ownBlock ≠ some g := fun i hi => (h2.own i hi (by rw [← h2.len]; exact hi)).ne hblk (by decide)
  have hblk' := hblk.of_block (hk.block g hblk.lt (hne 0 hul))
  have hcw : ∀ i (hi : i < us.length), w'.cell? ⟨g, i, none⟩ = some us[i] := fun i hi => by
    obtain ⟨g', hg', hcc⟩ := hcell i hi
    injection hg' with hg'; injection hg' with hg'; subst hg'
    exact cell_of_block (hk.block g hblk.lt (hne 0 hul)) hcc
  have hks : Keep (fun x => x = g) w' (w'.setCell ⟨g, 0, none⟩ u') := (Keep.refl (fun x => x = g) w').setCell (p := ⟨g, 0, none⟩) (.inl rfl) u'
  have hu'g : u'.ownBlock ≠ some g := ho.ne hblk' (by decide)
  have hfar : ∀ {v : Value} {xs : List Int}, Own lo w' v xs → v.ownBlock ≠ some g → IntsAt lo (w'.setCell ⟨g, 0, none⟩ u') v xs := fun h1 h2 => (h1.keep1 (p := ⟨g, 0, none⟩) u' h2).at'
  refine ⟨hcw 0 hul, hblk'.frozen 0, some ⟨g, 0, none⟩, c, ?_, ?_, ?_, fun i hi => ?_⟩
  · rw [List.length_set, ← h2.len]; rw [e4]
  · rw [List.length_set, ← h2.len, e5]; exact hc'
  · rw [e5]; exact hm'
  · rw [List.length_set] at hi
    have hi' : i < us.length := by rw [h2.len]; exact hi
    by_cases e : i = 0
    · subst e
      refine ⟨g, 0, u', rfl, hb, (by first | exact World.cell?_setCell_same _ _ _ (hcw 0 hul) | exact World.cell?_setCell_same _ _ (hcw 0 hul)), ?_⟩
      simp only [List.getElem_set_self]
      exact hfar ho hu'g
    · refine ⟨g, 0, us[i], rfl, hb, ?_, ?_⟩
      · have hs := hblk'.set 0 u'
        have h3 : i < cur.toList.length := by
          have := hcell i hi'
          rw [← hr4] at hi'
          simp at hi' ⊢; omega
        have := hs.cell (i := i) (by simpa using h3)
        rw [Nat.zero_add, this, List.getElem_set_ne (by omega)]
        have h4 := hblk'.cell (i := i) h3
        rw [hcw i hi'] at h4
        exact h4.symm
      · rw [List.getElem_set_ne (by omega)]
        exact hfar (h2.others hul hk i hi' hi (by omega)) (hne i hi')

theorem drew_at {b lo : Nat} {w1 w2 : World} {v : Value} {X : List (List Int)} (h : Drew b w1 w2) (hr : RowsAt lo w1 v X) (hb : b < lo) : RowsAt lo w2 v X := hr.keep h.2 (fun x hx e => by have e : x = b := e; omega)
theorem drew_int {b B : Nat} {w w1 w2 : World} {v : Value} {xs : List Int} (h : Drew b w w1) (ho : Own B w1 v xs) (k : Keep (fun x => v.ownBlock = some x) w1 w2) (hb : b < w.heap.size) (hB : w.heap.size ≤ B) : Drew b w w2 :=
  ⟨h.1.keep k (fun p hp e => by have := (ho.lt e).1; omega), h.2.chain k (fun x hx e => by have := (ho.lt e).1; omega)⟩
theorem keep_mono {S T : Nat → Prop} {w w' : World} (k : Keep S w w') (h : ∀ x, S x → T x) : Keep T w w' := ⟨k.os, k.tape, k.output, k.size, fun x hx hn => k.block x hx (fun e => hn (h x e))⟩
set_option maxRecDepth 100000 in
set_option maxHeartbeats 4000000 in
theorem c_l01Bad (b n : Nat) (w : World) (hs : Src w b) (h1 : 1 ≤ n) (h2 : n ≤ 100) :
    Calls Try.prog 120 #[.pointer (some ⟨b, 0, none⟩), .int .i64 n] w (fun e w' => ∃ (r : Value) (X : List (List Int)), e = .returned r ∧ X.length ≤ 101 ∧ (∀ row ∈ X, row.length ≤ 101) ∧ RowsAt w.heap.size w' r X ∧ Drew b w w') := by
  have hbl := hs.lt
  have HS := Lib.hid hs
  clear hs
  go_enter Try.func120, Try.ntmps120
  go_wp2_with fail
  refine (c_l01Tables b n _ HS.out h1 (by omega)).mono ?_; rintro e w1 ⟨r, X, rfl, hXl, hXr, hor, hd1⟩
  obtain ⟨ra, rc, hr, -⟩ := OwnRows.shape' hor
  rw [hXl] at hr
  subst hr
  have HO := Lib.hid hor; have HD1 := Lib.hid hd1; have HX := Lib.hid (And.intro hXl hXr)
  clear hor hd1 hXl hXr
  go_wp2_with fail
  refine (c_l01Next b 30 _ HD1.out.1 (by omega) (by omega)).mono ?_; rintro e w2 ⟨kd, rfl, k0, k30, hd2⟩
  have HD2 := Lib.hid (HD1.out.trans hd2)
  have HO2 := Lib.hid (HO.out.keep hd2.2 (fun x h1 h2 e => by have e : x = b := e; omega))
  clear hd2
  by_cases e0 : kd = 0
  · subst e0
    go_wp2_with fail
    refine (c_l01Unit n _ (by omega)).mono ?_; rintro e w3 ⟨ru, rfl, hou, hb3⟩
    have HO3 := Lib.hid (HO2.out.under hb3).inn; have HU := Lib.hid hou; have HD3 := Lib.hid (HD2.out.under hb3)
    have HB := Lib.hid hb3.size; have HW := Lib.hid HD2.out.2.size
    obtain ⟨ua, uc, hu, -, -⟩ := hou.ints.shape
    rw [iota_length] at hu
    subst hu
    clear hou
    have HI2 := Lib.hid (HO2.out.inn.under hb3)
    clear hb3
    go_wp2_with (at_builtin; refine wpList_app_row2 w.heap.size w2.heap.size w3 _ X _ (iota n) _ _ rfl rfl rfl HI2.out HU.out rfl (by have := HX.out.1; omega) HW.out (Nat.le_trans HW.out HB.out) ?_; intro ga gc w9 hown hkeep hor; have HOwn := Lib.hid hown; have HKp := Lib.hid hkeep; clear hown hkeep hor)
    go_ret
    refine ⟨_, X ++ [iota n], rfl, by have := HX.out.1; simp; omega, fun r hr => ?_, HOwn.out.at', drew_app HD3.out HI2.out.out HKp.out hbl⟩
    rcases List.mem_append.1 hr with h | h
    · have := HX.out.2 r h; omega
    · simp at h; subst h; simp; omega
  by_cases e1 : kd = 1
  · subst e1
    obtain ⟨tb, u, hra, htb, hc0, hf0, hou, hfin⟩ := first_row HO2.out (by have := HX.out.1; omega)
    subst hra
    have HFin := Lib.hid hfin; have HOu := Lib.hid hou; have HW := Lib.hid HD2.out.2.size
    have hrl : (row X 0).length = n := HX.out.2 _ (row_mem (by omega) (by have := HX.out.1; omega))
    have HRl := Lib.hid hrl
    obtain ⟨ua, uc, hu, -, -⟩ := hou.ints.shape
    rw [hrl] at hu
    subst hu
    clear hfin hou hrl
    go_wp2_with (at_builtin; refine wpList_app_int2 w.heap.size w2 _ (row X 0) 0 _ _ w2.heap.size rfl rfl rfl rfl HOu.out rfl (by rw [HRl.out]; omega) HW.out ?_; intro ga gc w9 hown hkeep hor; rw [HRl.out] at hown; rw [HRl.out]; obtain ⟨q1, q2, q3⟩ := HFin.out w9 _ _ hkeep hown; have HQ3 := Lib.hid q3; have HKp := Lib.hid hkeep; clear hown hkeep hor q3)
    go_ret
    refine ⟨_, X.set 0 (row X 0 ++ [0]), rfl, by have := HX.out.1; simp; omega, fun r hr => ?_, HQ3.out, ?_⟩
    · rcases List.mem_or_eq_of_mem_set hr with h | h
      · have := HX.out.2 r h; omega
      · subst h; have := HRl.out; simp; omega
    · exact drew_set (drew_int HD2.out HOu.out HKp.out hbl (Nat.le_refl _)) (p := ⟨tb, 0, none⟩) htb (by show b < tb; omega) _
  have z0 : (kd == 0) = false := by simp [e0]
  have z1 : (kd == 1) = false := by simp [e1]
  by_cases e2 : kd = 2
  · subst e2
    have hXl := HX.out.1
    have hrl : (row X ((0 : Nat) : Int)).length = n := HX.out.2 _ (row_mem (by omega) (by omega))
    have HRl := Lib.hid hrl
    obtain ⟨tb, g, cr, zz, hra, t1, t2, t3, t4, t5, hc, -, -, -⟩ := HO2.out.inn.put (u := 0) (y := 0) (m := n) (by omega) hrl (by omega)
    subst hra
    have HK : Hid (∀ w' : World, Keep (fun k => k = b ∨ k = g) w2 w' → w'.cell? ⟨tb, 0, none⟩ = some (.slice (some ⟨g, 0, none⟩) n cr)) := Lib.hid (fun w' k => cell_of_block (k.block tb (cell_lt hc) (by omega)) hc)
    have hbel : Below w2.heap.size w2 (w2.alloc (.cells #[.int .i64 (-1), .int .i64 n, .int .i64 1099511627776] 2)).drew := ((Below.refl _ _).alloc (Nat.le_refl _) _).drew
    have HD3 := Lib.hid (HD2.out.under hbel)
    have HOw : Hid (Own w2.heap.size (w2.alloc (.cells #[.int .i64 (-1), .int .i64 n, .int .i64 1099511627776] 2)).drew (.slice (some ⟨w2.heap.size, 0, none⟩) 3 3) [-1, (n : Int), 1099511627776]) := Lib.hid
      ((Own.shut (cs := []) (by simpa using Blk.new w2 [.int .i64 (-1), .int .i64 n, .int .i64 1099511627776] 2) (Nat.le_refl _) (by simp [maxLen]) (by simp) (by simp) : Own w2.heap.size (w2.alloc (.cells #[.int .i64 (-1), .int .i64 n, .int .i64 1099511627776] 2)) (.slice (some ⟨w2.heap.size, 0, none⟩) 3 3) [-1, (n : Int), 1099511627776]).under (Below.refl _ _).drew)
    have hlt2 := HD2.out.1.lt
    have HSrc := Lib.hid HD3.out.1
    have hn0 : 0 < n := by omega
    have hn00 : (0 : Int) < (n : Int) := by omega
    have K0 : Keep (fun k => k = b ∨ k = g) w2 w2.drew := (Keep.refl _ w2).drew
    have K1 : Keep (fun k => k = b ∨ k = g) w2 (w2.alloc (.cells #[.int .i64 (-1), .int .i64 n, .int .i64 1099511627776] 2)).drew := ((Keep.refl _ w2).alloc _).drew
    have zc := HK.out _ K0
    have HO3 := Lib.hid (HO2.out.inn.under hbel)
    clear hbel hc
    go_wp2
    go_region_held3 (fun w' => w'.cell? ⟨tb, 0, none⟩ = some (.slice (some ⟨g, 0, none⟩) n cr))
      (first | exact HK.out _ K0 | exact HK.out _ K1 | exact HK.out _ K5 | exact HK.out _ K6 | exact HK.out _ (K5.setCell (.inl (.inr rfl)) _))
      ((go_at_call 153; (with_reducible refine (c_l01Pick b w2.heap.size _ [-1, (n : Int), 1099511627776] _ HSrc.out HOw.out hlt2 (by simp) (by simp)).mono ?_); rintro e w5 ⟨x, rfl, hx, hd5⟩; have K5 := K1.trans (keep_mono hd5.2 (T := fun k => k = b ∨ k = g) (fun x hx => .inl hx)); have c5 := HK.out _ K5; obtain ⟨tb5, g5, cr5, zz5, f1, f2, f3, f4, f5, f6, f7, f8, f9, f10⟩ := (HO3.out.keep hd5.2 (fun x h1 h2 e => by have e : x = b := e; omega)).put (u := 0) (y := 0) (m := n) (by omega) HRl.out (by omega); injection f1 with f1; injection f1 with f1; subst f1; rw [c5] at f7; injection f7 with f7; injection f7 with f7; injection f7 with f7; injection f7 with f7; subst f7; have HF10 := Lib.hid f10; have HD5 := Lib.hid (HD3.out.trans hd5); clear f10 hd5 hx))
    all_goals
      have HD6 := Lib.hid (drew_set HD5.out (p := ⟨g, 0, none⟩) (by show w.heap.size ≤ g; omega) (by show b < g; omega) (.int .i64 x))
      have HT := Lib.hid (HF10.out x).out.at'
      rename_i hHz
      clear hHz
      go_wp2
      go_ret
      refine ⟨_, X.set 0 ((row X ((0 : Nat) : Int)).set 0 x), rfl, by have := HX.out.1; simp; omega, fun r hr => ?_, HT.out, HD6.out⟩
      rcases List.mem_or_eq_of_mem_set hr with h | h
      · have := HX.out.2 r h; omega
      · subst h; have := HRl.out; rw [List.length_set]; omega
  have z2 : (kd == 2) = false := by simp [e2]
  by_cases e3 : kd = 3
  · subst e3
    have HN := Lib.hid (OwnRows.made0 w2 (Nat.le_refl w2.heap.size))
    have HD3 := Lib.hid (HD2.out.under ((Below.refl w2.heap.size w2).alloc (Nat.le_refl _) (.cells #[] 25)))
    go_wp2
    go_ret
    exact ⟨_, [], rfl, by simp, by simp, (HN.out.mono HD2.out.2.size).at', HD3.out⟩
  have z3 : (kd == 3) = false := by simp [e3]
  by_cases e4 : kd = 4
  · subst e4
    go_wp2_with fail
    refine (c_l01Tables b 13 _ HD2.out.1 (by omega) (by omega)).mono ?_; rintro e w3 ⟨r3, Y, rfl, hYl, hYr, hor, hd3⟩
    have HO3 := Lib.hid hor; have HD3 := Lib.hid (HD2.out.trans hd3); have HY := Lib.hid (And.intro hYl hYr)
    clear hor hd3 hYl hYr
    go_wp2
    go_ret
    exact ⟨_, Y, rfl, by have := HY.out.1; omega, fun r hr => by have := HY.out.2 r hr; omega, (HO3.out.mono HD2.out.2.size).at', HD3.out⟩
  have z4 : (kd == 4) = false := by simp [e4]
  go_wp2
  go_ret
  exact ⟨_, X, rfl, by have := HX.out.1; omega, fun r hr => by have := HX.out.2 r hr; omega, HO2.out.at', HD2.out⟩
end Go.Proofs.Ytkcobfkmeaakoaa
