/-
  Contracts of the laws' own helpers for slices of slices of integers: size, copy, compare, mark, held. No condition but sizes.
-/
import Derived.Test.YtgmhnjccgldddaaLawA
namespace Go.Proofs.Ytgmhnjccgldddaa
set_option linter.unusedVariables false
set_option linter.unusedSimpArgs false
open Go.RowKit

/-- How many numbers a list of lists holds. -/
def total : List (List Int) → Nat
  | [] => 0
  | r :: rs => r.length + total rs
theorem total_append (a b : List (List Int)) : total (a ++ b) = total a + total b := by
  induction a with
  | nil => simp [total]
  | cons r rs ih => simp [total, ih]; omega
theorem total_snoc (t : List (List Int)) (k : Nat) (h : k < t.length) : total (t.take (k+1)) = total (t.take k) + (row t k).length := by
  rw [take_snoc_row t k h, total_append]; simp [total]
theorem total_take (t : List (List Int)) (k : Nat) : total (t.take k) ≤ total t := by
  have := total_append (t.take k) (t.drop k)
  rw [List.take_append_drop] at this; omega

/-- What is left of a budget, or -1. -/
def leftI (n : Nat) (left : Int) : Int := if (n : Int) ≤ left then left - n else -1
def leftR (t : List (List Int)) (left : Int) : Int := if (t.length : Int) + (total t : Int) ≤ left then left - t.length - total t else -1

theorem le_total {t : List (List Int)} {r : List Int} (h : r ∈ t) : r.length ≤ total t := by
  induction t with
  | nil => cases h
  | cons a rs ih =>
    rcases List.mem_cons.1 h with rfl | h
    · simp [total]
    · have := ih h; simp [total]; omega
theorem leftR_fits {t : List (List Int)} {left : Int} (h0 : 0 ≤ left) (h1 : left ≤ 1048576) (h : ¬ leftR t left < 0) :
    t.length ≤ 1048576 ∧ (∀ r ∈ t, r.length ≤ 1048576) ∧ total t ≤ 1048576 ∧ 0 ≤ leftR t left ∧ leftR t left ≤ 1048576 := by
  unfold leftR at h ⊢
  split at h
  · rename_i hf
    rw [if_pos hf]
    exact ⟨by omega, fun r hr => by have := le_total hr; omega, by omega, by omega, by omega⟩
  · omega
/-- What a mark of blocks beyond leaves. -/
theorem below_keep {lo hi : Nat} {w w1 w2 : World} (h : Below w.heap.size w w1) (hk : Keep (fun b => lo ≤ b ∧ b < hi) w1 w2) (hlo : w.heap.size ≤ lo) : Below w.heap.size w w2 :=
  h.trans (hk.below fun k hk' => ⟨Nat.lt_of_lt_of_le hk' h.size, fun e => by omega⟩)

set_option maxHeartbeats 400000 in
theorem c_szInt64S (v : Value) (xs : List Int) (left : Int) (w : World) (hx : Ints w v xs) (h0 : 0 ≤ left) (h1 : left ≤ 1048576) :
    Calls Try.prog 48 #[v, .int .i64 left] w fun e w' => e = .returned (.int .i64 (leftI xs.length left)) ∧ w = w' := by
  obtain ⟨a, c, rfl, hc, hm⟩ := hx.shape
  by_cases h : (xs.length : Int) ≤ left
  · have H := Lib.hid h
    have h' : ¬ left - (xs.length : Int) < 0 := by omega
    go_enter Try.func48, Try.ntmps48
    go_wp2
    go_ret
    exact ⟨ret_int (by rw [leftI, if_pos H.out]), rfl⟩
  · have H := Lib.hid h
    have h' : left - (xs.length : Int) < 0 := by omega
    go_enter Try.func48, Try.ntmps48
    go_wp2
    go_ret
    exact ⟨ret_int (by rw [leftI, if_neg (by omega)]), rfl⟩

set_option maxHeartbeats 400000 in
theorem c_szInt64SS (v : Value) (t : List (List Int)) (left : Int) (w : World) (hx : Rows w v t) (h0 : 0 ≤ left) (h1 : left ≤ 1048576) :
    Calls Try.prog 31 #[v, .int .i64 left] w fun e w' => e = .returned (.int .i64 (leftR t left)) ∧ w = w' := by
  obtain ⟨a, c, rfl, hc, hm⟩ := hx.shape
  by_cases h : (t.length : Int) ≤ left
  · have h' : ¬ left - (t.length : Int) < 0 := by omega
    go_enter Try.func31, Try.ntmps31
    go_wp2
    go_loop [1, 5] (fun l i => ∃ k : Nat, k ≤ t.length ∧ i = .int .i64 k ∧ l = .int .i64 (left - t.length - total (t.take k)) ∧ 0 ≤ left - t.length - total (t.take k)) (fun _ i => t.length - (intOf i).toNat)
    case atStart => exact ⟨0, Nat.zero_le _, rfl, by simp [total], by simp [total]; omega⟩
    case round =>
      obtain ⟨k, hk, rfl, rfl, hl⟩ := hrel
      by_cases hlt : k < t.length
      · obtain ⟨b, o, u, rfl, hcell, hu⟩ := hx.get k hlt
        have hs := total_snoc t k hlt
        have ht := total_take t (k+1)
        have HS := Lib.hid hs; have HT := Lib.hid ht; clear hs ht
        by_cases hf : ((row t k).length : Int) ≤ left - t.length - total (t.take k)
        · have he : leftI (row t k).length (left - t.length - total (t.take k)) = left - t.length - total (t.take k) - (row t k).length := by rw [leftI, if_pos hf]
          have hge : ¬ leftI (row t k).length (left - t.length - total (t.take k)) < 0 := by rw [he]; omega
          have HE := Lib.hid he; clear he
          go_wp2_with fail
          refine (c_szInt64S _ _ _ _ hu hl (by omega)).mono ?_; rintro e w' ⟨rfl, rfl⟩
          go_wp2
          go_round
          case rel => exact ⟨k + 1, by omega, by go_num, by rw [HE.out, HS.out]; go_num, by rw [HS.out]; omega⟩
          case measure => simp [intOf]; omega
        · have he : leftI (row t k).length (left - t.length - total (t.take k)) = -1 := by rw [leftI, if_neg hf]
          have hge : leftI (row t k).length (left - t.length - total (t.take k)) < 0 := by rw [he]; omega
          have HE := Lib.hid he; clear he
          go_wp2_with fail
          refine (c_szInt64S _ _ _ _ hu hl (by omega)).mono ?_; rintro e w' ⟨rfl, rfl⟩
          go_wp2
          go_ret
          exact ⟨ret_int (by rw [leftR, if_neg (by have := HS.out; have := HT.out; omega)]), rfl⟩
      · have htk : t.take k = t := List.take_of_length_le (by omega)
        rw [htk] at hl ⊢
        clear htk
        go_wp2
        go_ret
        exact ⟨ret_int (by rw [leftR, if_pos (by omega)]), rfl⟩
  · have H := Lib.hid h
    have h' : left - (t.length : Int) < 0 := by omega
    go_enter Try.func31, Try.ntmps31
    go_wp2
    go_ret
    exact ⟨ret_int (by rw [leftR, if_neg (by omega)]), rfl⟩

theorem vals_setB (us : List Value) (n : Nat) (z u : Value) (k : Nat) (hl : us.length = k) (hk : k < n) :
    (us ++ (List.replicate n z).drop k).set k u = us ++ [u] ++ (List.replicate n z).drop (k+1) := by
  rw [List.set_append, if_neg (by omega), hl, Nat.sub_self, List.drop_eq_getElem_cons (by simpa using hk)]
  simp only [List.set_cons_zero, List.append_assoc, List.cons_append, List.nil_append]

set_option maxHeartbeats 400000 in
theorem c_toInt64SS (v : Value) (t : List (List Int)) (w : World) (hx : Rows w v t) (hn : t.length ≤ 1048576) (hr : ∀ r ∈ t, r.length ≤ 1048576) :
    Calls Try.prog 34 #[v] w (RRows w t) := by
  obtain ⟨a, c, rfl, hc, hm⟩ := hx.shape
  have HR := Lib.hid hr; clear hr
  have hmk := run_make_row' (P := Try.prog) 22 26 (.slice none 0 0) 24 Try.underlying22 inf_ints rfl .i64 .i64 t.length (by omega) (by omega)
  go_enter Try.func34, Try.ntmps34
  go_wp2
  have hB0 : Below w.heap.size w (w.alloc (.cells (madeCells #[.slice none 0 0] t.length) 26)) := (Below.refl _ _).alloc (Nat.le_refl _) _
  have hK0 : Blk (w.alloc (.cells (madeCells #[.slice none 0 0] t.length) 26)) w.heap.size 26 ([] ++ (List.replicate t.length (Value.slice none 0 0)).drop 0) := by
    simpa using Blk.made w (.slice none 0 0) t.length 26
  clear hmk
  go_loopw [4] (fun i wr => ∃ (k : Nat) (us : List Value), k ≤ t.length ∧ i = .int .i64 k ∧ Below w.heap.size w wr ∧ Blk wr w.heap.size 26 (us ++ (List.replicate t.length (Value.slice none 0 0)).drop k) ∧ RowVals w.heap.size wr us (t.take k)) (fun i _ => t.length - (intOf i).toNat)
  case atStart => exact ⟨0, [], Nat.zero_le _, rfl, hB0, hK0, RowVals.nil _ _⟩
  case round =>
    clear hB0 hK0
    obtain ⟨k, us, hk, rfl, hb, hblk, hvals⟩ := hrel
    have hul : us.length = k := by rw [hvals.len]; simp; omega
    by_cases hlt : k < t.length
    · obtain ⟨b, o, u, rfl, hcell, hu⟩ := (hx.below hb).get k hlt
      have hrk := HR.out _ (row_mem (t := t) (x := k) (by omega) (by omega))
      have HU := Lib.hid hul; clear hul
      go_wp2_with fail
      refine (c_toInt64S _ _ _ hu (by omega)).mono ?_; rintro e w' ⟨r, rfl, ho, hb'⟩
      obtain ⟨ra, rc, rfl, _⟩ := ho.shape
      have hblk' := hblk.under hb'
      obtain ⟨z, h2⟩ := fill_cell0 hblk' (k := k) (by have := HU.out; simp; omega)
      have h3 := hblk'.frozen k
      have Hb := Lib.hid (bo hb hb'); have Hblk := Lib.hid hblk'; have Hv := Lib.hid (hvals.snoc hb' ho hb.size); have Hlt := Lib.hid hblk.lt
      clear hb hblk hblk' hvals ho hb' hu
      go_wp2
      go_roundw
      case rel =>
        refine ⟨k + 1, us ++ [.slice ra (row t k).length rc], by omega, by go_num, Hb.out.setCell (p := ⟨w.heap.size, k, none⟩) (Nat.le_refl _) _, ?_, ?_⟩
        · have := Hblk.out.set k (.slice ra (row t k).length rc)
          rwa [vals_setB _ _ _ _ _ HU.out hlt] at this
        · rw [take_snoc_row _ _ hlt]
          exact Hv.out.store Hblk.out (by decide) _ _
      case measure => simp [intOf]; omega
    · have Hb := Lib.hid hb; have Hblk := Lib.hid hblk; have Hv := Lib.hid hvals; have HU := Lib.hid hul; clear hb hblk hvals hul
      obtain rfl : k = t.length := by omega
      go_wp2
      go_ret
      refine ⟨_, rfl, ⟨us, ?_, by have := Hv.out; rwa [List.take_of_length_le (Nat.le_refl _)] at this⟩, Hb.out⟩
      have h := Hblk.out
      rw [List.drop_of_length_le (by simp), List.append_nil] at h
      exact ownsRow_blk h (Nat.le_refl _) HU.out.symm HU.out.symm (by rw [HU.out]; unfold maxLen; omega)

theorem eq_snoc_row {xs ys : List (List Int)} {k : Nat} (hk : k < xs.length) (hk' : k < ys.length) (h : xs.take k = ys.take k) (he : row xs k = row ys k) : xs.take (k+1) = ys.take (k+1) := by
  rw [take_snoc_row _ _ hk, take_snoc_row _ _ hk', h, he]

set_option maxHeartbeats 400000 in
theorem c_eqInt64SS (v1 v2 : Value) (xs ys : List (List Int)) (w : World) (hx : Rows w v1 xs) (hy : Rows w v2 ys) :
    Calls Try.prog 17 #[v1, v2] w (QVal w (.bool (decide (xs = ys)))) := by
  obtain ⟨a, c, rfl, hc, hm⟩ := hx.shape
  obtain ⟨a2, c2, rfl, hc2, hm2⟩ := hy.shape
  by_cases hlen : xs.length = ys.length
  · have hl1 : ((xs.length : Int) == (ys.length : Int)) = true := by simp [hlen]
    have hl2 : ((xs.length : Int) != (ys.length : Int)) = false := by simp [hlen]
    have HL := Lib.hid hlen; clear hlen
    go_enter Try.func17, Try.ntmps17
    go_wp2
    go_loopw [5] (fun i wr => ∃ k : Nat, k ≤ xs.length ∧ i = .int .i64 k ∧ Hid (∃ n, wr = w.drewN n) ∧ Hid (xs.take k = ys.take k)) (fun i _ => xs.length - (intOf i).toNat)
    case atStart => exact ⟨0, Nat.zero_le _, rfl, Lib.hid ⟨0, rfl⟩, Lib.hid rfl⟩
    case round =>
      obtain ⟨k, hk, rfl, HN, HE⟩ := hrel
      have hb : Below w.heap.size w wr := by obtain ⟨n, hn⟩ := HN.out; rw [hn]; exact below_drewN (Below.refl _ _) n
      by_cases hlt : k < xs.length
      · have hlt2 : k < ys.length := by have := HL.out; omega
        obtain ⟨b, o, u, rfl, hcell, hu⟩ := (hx.below hb).get k hlt
        obtain ⟨b2, o2, u2, rfl, hcell2, hu2⟩ := (hy.below hb).get k hlt2
        have hcon : ∀ n, Ints (wr.drewN n) u (row xs k) ∧ Ints (wr.drewN n) u2 (row ys k) := fun n => ⟨hu.below (below_drewN (Below.refl _ _) n), hu2.below (below_drewN (Below.refl _ _) n)⟩
        clear hb hu hu2
        have hk0 : (0 : Int) ≤ k := by omega
        have hk1 : (k : Int) < xs.length := by omega
        have hk2 : (k : Int) < ys.length := by omega
        by_cases he : row xs k = row ys k
        · have he1 : decide (row xs k = row ys k) = true := by simp [he]
          have HV := Lib.hid he; have HC := Lib.hid hcon; clear he hcon
          go_wp2
          go_quiet ((go_at_call 10; exact Calls.quiet_of (c_eqInt64S _ _ _ _ _ (HC.out _).1 (HC.out _).2)))
          go_wp2
          go_roundw
          case rel => exact ⟨k + 1, by omega, by go_num, by obtain ⟨n, hn⟩ := HN.out; exact Lib.hid ⟨n + _, by rw [hn]; exact drewN_drewN w n _⟩, Lib.hid (eq_snoc_row hlt hlt2 HE.out HV.out)⟩
          case measure => simp [intOf]; omega
        · have he1 : decide (row xs k = row ys k) = false := by simp [he]
          have HC := Lib.hid hcon; clear hcon
          go_wp2
          go_quiet ((go_at_call 10; exact Calls.quiet_of (c_eqInt64S _ _ _ _ _ (HC.out _).1 (HC.out _).2)))
          go_wp2
          go_ret
          refine ⟨ret_bool ?_, by obtain ⟨n, hn⟩ := HN.out; exact ⟨n + _, by rw [hn]; exact drewN_drewN w n _⟩⟩
          simp only [Eq.comm (a := false), decide_eq_false_iff_not]
          rintro rfl
          exact he rfl
      · go_wp2
        go_ret
        refine ⟨ret_bool ?_, HN.out⟩
        have h := HE.out
        rw [List.take_of_length_le (by omega), List.take_of_length_le (by have := HL.out; omega)] at h
        simp [h]
  · have hl1 : ((xs.length : Int) == (ys.length : Int)) = false := by simp; omega
    have hl2 : ((xs.length : Int) != (ys.length : Int)) = true := by simp; omega
    go_enter Try.func17, Try.ntmps17
    go_wp2
    go_ret
    refine ⟨ret_bool ?_, ⟨0, rfl⟩⟩
    simp only [Eq.comm (a := false), decide_eq_false_iff_not]
    rintro rfl
    exact hlen rfl

theorem c_eqR (v1 v2 : Value) (xs ys : List (List Int)) (w : World) (hx : Rows w v1 xs) (hy : Rows w v2 ys) :
    Calls Try.prog 17 #[v1, v2] w (RVal w (.bool (decide (xs = ys)))) := (c_eqInt64SS v1 v2 xs ys w hx hy).mono fun _ _ h => h.r

/-- The marks of a list of lists, row after row. -/
def marks2 (k : Int) : List (List Int) → List (List Int)
  | [] => []
  | r :: rs => marks k r.length :: marks2 (k + r.length) rs
theorem marks2_append (k : Int) (a b : List (List Int)) : marks2 k (a ++ b) = marks2 k a ++ marks2 (k + total a) b := by
  induction a generalizing k with
  | nil => simp [marks2, total]
  | cons r rs ih => simp [marks2, total, ih, Int.add_assoc]
@[simp] theorem marks2_length (k : Int) (a : List (List Int)) : (marks2 k a).length = a.length := by
  induction a generalizing k with
  | nil => rfl
  | cons r rs ih => simp [marks2, ih]
theorem marks2_snoc (k : Int) (t : List (List Int)) (i : Nat) (h : i < t.length) : marks2 k (t.take (i+1)) = marks2 k (t.take i) ++ [marks (k + total (t.take i)) (row t i).length] := by
  rw [take_snoc_row _ _ h, marks2_append]; rfl
theorem marks2_row (k : Int) (t : List (List Int)) (i : Nat) (h : i < t.length) : row (marks2 k t) i = marks (k + total (t.take i)) (row t i).length := by
  have e : marks2 k t = marks2 k (t.take (i+1)) ++ marks2 (k + total (t.take (i+1))) (t.drop (i+1)) := by
    rw [← marks2_append, List.take_append_drop]
  rw [e, marks2_snoc _ _ _ h]
  unfold row
  simp only [Int.toNat_natCast]
  have hl : i = (marks2 k (t.take i)).length := by simp; omega
  generalize hA : marks2 k (t.take i) = A at *
  rw [List.append_assoc, List.getD_eq_getElem?_getD, List.getElem?_append_right (by omega)]
  simp [← hl]
/-- Half marked. -/
def half (k : Int) (t : List (List Int)) (i : Nat) : List (List Int) := marks2 k (t.take i) ++ t.drop i
theorem half_zero (k : Int) (t : List (List Int)) : half k t 0 = t := by simp [half, marks2]
theorem half_all (k : Int) (t : List (List Int)) : half k t t.length = marks2 k t := by simp [half]
@[simp] theorem half_length (k : Int) (t : List (List Int)) (i : Nat) : (half k t i).length = t.length := by simp [half]; omega
theorem half_set (k : Int) (t : List (List Int)) (i : Nat) (h : i < t.length) : (half k t i).set i (marks (k + total (t.take i)) (row t i).length) = half k t (i+1) := by
  unfold half
  have hl : (marks2 k (t.take i)).length = i := by simp; omega
  rw [List.set_append, if_neg (by omega), hl, Nat.sub_self, List.drop_eq_getElem_cons h, marks2_snoc _ _ _ h]
  simp only [List.set_cons_zero, List.append_assoc, List.cons_append, List.nil_append]
theorem half_row (k : Int) (t : List (List Int)) (i : Nat) (h : i < t.length) (h' : i < (half k t i).length) : (half k t i)[i] = row t i := by
  unfold half at h' ⊢
  have hl : (marks2 k (t.take i)).length = i := by simp; omega
  rw [List.getElem_append_right (by omega)]
  simp [hl, row_nat _ _ h]

theorem RowVals.turn {B : Nat} {w w' : World} {us : List Value} {xss : List (List Int)} (h : RowVals B w us xss) {k : Nat} (hk : k < us.length) {ys : List Int} (ho : Own B w' us[k] ys) (hkeep : Keep (fun b => us[k].ownBlock = some b) w w') :
    RowVals B w' us (xss.set k ys) := by
  refine ⟨by simp [h.len], fun i hi hi' => ?_, h.apart⟩
  rw [List.getElem_set]
  by_cases e : k = i
  · subst e; simpa using ho
  · rw [if_neg e]
    have h0 := h.own i hi (by simpa using hi')
    obtain ⟨hl, hn | ⟨g, cap, cur, hv, hb, hg, r⟩⟩ := h0
    · exact ⟨hl, .inl hn⟩
    · refine ⟨hl, .inr ⟨g, cap, cur, hv, hb, ?_, r⟩⟩
      rw [hkeep.block g (Array.getElem?_eq_some_iff.1 hg).1 ?_]; exact hg
      intro e2
      have h1 : (us[i]).ownBlock = some g := by rw [hv]; rfl
      rcases Nat.lt_or_gt_of_ne e with hlt | hlt
      · have := List.pairwise_iff_getElem.1 h.apart k i hk hi hlt
        rcases this with h3 | h3
        · rw [h3] at e2; cases e2
        · exact h3 (e2.trans h1.symm)
      · have := List.pairwise_iff_getElem.1 h.apart i k hi hk hlt
        rcases this with h3 | h3
        · rw [h3] at h1; cases h1
        · exact h3 (h1.trans e2.symm)

theorem ownsRow_ne {B B' : Nat} {w w' : World} {v u : Value} {us : List Value} {xs : List Int} (h : w.ownsRow B 26 1 v us.length us) (hu : Own B' w u xs) (hkeep : Keep (fun b => u.ownBlock = some b) w w') : w'.ownsRow B 26 1 v us.length us := by
  obtain ⟨hl, hn | ⟨g, cap, cur, hv, hb, hg, r⟩⟩ := h
  · exact ⟨hl, .inl hn⟩
  · refine ⟨hl, .inr ⟨g, cap, cur, hv, hb, ?_, r⟩⟩
    rw [hkeep.block g (Array.getElem?_eq_some_iff.1 hg).1 ?_]; exact hg
    have := hu.ne (g := g) (t := 26) (cs := cur.toList) (by unfold Blk; simpa using hg) (by decide)
    exact this

/-- A table of the call's own, all its blocks from lo up to hi. -/
def OwnRowsIn (lo hi : Nat) (w : World) (v : Value) (t : List (List Int)) : Prop :=
  ∃ us, w.ownsRow lo 26 1 v us.length us ∧ RowVals lo w us t ∧ (∀ k, v.ownBlock = some k → k < hi) ∧ ∀ i (h : i < us.length) k, us[i].ownBlock = some k → k < hi
theorem OwnRows.inn {lo : Nat} {w : World} {v : Value} {t : List (List Int)} (h : OwnRows lo w v t) : OwnRowsIn lo w.heap.size w v t := by
  obtain ⟨us, h1, h2⟩ := h
  exact ⟨us, h1, h2, fun k hk => (World.ownsRow.lt h1 k hk).2, fun i hi k hk => ((h2.own i hi (by rw [← h2.len]; exact hi)).lt hk).2⟩
theorem OwnRowsIn.out {lo hi : Nat} {w : World} {v : Value} {t : List (List Int)} (h : OwnRowsIn lo hi w v t) : OwnRows lo w v t := by
  obtain ⟨us, h1, h2, _⟩ := h
  exact ⟨us, h1, h2⟩
theorem OwnRowsIn.rows {lo hi : Nat} {w : World} {v : Value} {t : List (List Int)} (h : OwnRowsIn lo hi w v t) : Rows w v t := h.out.rows
theorem OwnRowsIn.keep {lo hi : Nat} {S : Nat → Prop} {w w' : World} {v : Value} {t : List (List Int)} (h : OwnRowsIn lo hi w v t) (k : Keep S w w') (hs : ∀ b, lo ≤ b → b < hi → ¬ S b) : OwnRowsIn lo hi w' v t := by
  obtain ⟨us, h1, h2, h3, h4⟩ := h
  refine ⟨us, ?_, ⟨h2.len, fun i hi hi' => ?_, h2.apart⟩, h3, h4⟩
  · obtain ⟨hl, hn | ⟨g, cap, cur, hv, hb, hg, r⟩⟩ := h1
    · exact ⟨hl, .inl hn⟩
    · exact ⟨hl, .inr ⟨g, cap, cur, hv, hb, by rw [k.block g (Array.getElem?_eq_some_iff.1 hg).1 (hs g hb (h3 g (by rw [hv]; rfl)))]; exact hg, r⟩⟩
  · exact (OwnIn.keep ⟨h2.own i hi hi', h4 i hi⟩ k hs).1
theorem OwnRowsIn.under {lo hi : Nat} {w w' : World} {v : Value} {t : List (List Int)} (h : OwnRowsIn lo hi w v t) (hb : Below w.heap.size w w') : OwnRowsIn lo hi w' v t := by
  obtain ⟨us, h1, h2, h3, h4⟩ := h
  exact ⟨us, ownsRow_keep h1 (Keep.of_below hb) (fun b _ hlt => by omega), h2.under hb, h3, h4⟩

set_option maxHeartbeats 400000 in
theorem c_markR (B hi : Nat) (v : Value) (t : List (List Int)) (k0 : Int) (w : World) (hx : OwnRowsIn B hi w v t) (h0 : 0 ≤ k0) (h1 : k0 + total t ≤ 4611686018427387904) :
    Calls Try.prog 18 #[v, .int .i64 k0] w fun e w' => e = .returned (.int .i64 (k0 + total t)) ∧ OwnRowsIn B hi w' v (marks2 k0 t) ∧ Keep (fun b => B ≤ b ∧ b < hi) w w' := by
  obtain ⟨us, ho1, hv1, h3, h4⟩ := hx
  have hlt0 : ∀ i (h : i < us.length) k, us[i].ownBlock = some k → B ≤ k ∧ k < hi := fun i h k hk => ⟨((hv1.own i h (by rw [← hv1.len]; exact h)).lt hk).1, h4 i h k hk⟩
  have HLT := Lib.hid hlt0; have H3 := Lib.hid h3; have H4 := Lib.hid h4
  clear h3 h4
  obtain ⟨a, c, hval, hc, hm, hcells⟩ := ownsRow_cells ho1
  have hul := hv1.len
  have HUL := Lib.hid hul
  rw [hul] at hval hc
  subst hval
  have hm' : c ≤ 9223372036854775807 := by unfold maxLen at hm; omega
  have HO := Lib.hid ho1; have HV := Lib.hid hv1
  clear hlt0 ho1 hv1 hm hcells hul
  go_enter Try.func18, Try.ntmps18
  go_wp2
  go_loopw [1, 5] (fun kk i wr => ∃ k : Nat, k ≤ t.length ∧ kk = .int .i64 (k0 + total (t.take k)) ∧ i = .int .i64 k ∧ Hid (wr.ownsRow B 26 1 (.slice a t.length c) us.length us) ∧ RowVals B wr us (half k0 t k) ∧ Keep (fun b => B ≤ b ∧ b < hi) w wr) (fun _ i _ => t.length - (intOf i).toNat)
  case atStart => exact ⟨0, Nat.zero_le _, by simp [total], rfl, HO, by rw [half_zero]; exact HV.out, Keep.refl _ _⟩
  case round =>
    obtain ⟨k, hk, rfl, rfl, HOr, hvals, hkeep⟩ := hrel
    have hrow := HOr.out
    obtain ⟨a', c', hval', _, _, hcells⟩ := ownsRow_cells hrow
    rw [HUL.out] at hval'
    cases hval'
    by_cases hlt : k < t.length
    · have hku : k < us.length := by rw [HUL.out]; exact hlt
      obtain ⟨g, rfl, hcell⟩ := hcells k hku
      have hown := hvals.own k hku (by simpa using hlt)
      rw [half_row _ _ _ hlt] at hown
      have hs := total_snoc t k hlt
      have ht := total_take t (k+1)
      have hs1 : 0 ≤ k0 + total (t.take k) := by omega
      have hs2 : k0 + total (t.take k) + (row t k).length ≤ 4611686018427387904 := by omega
      have HS := Lib.hid hs; have Hk := Lib.hid hkeep; have Hr := Lib.hid hrow; have Hv := Lib.hid hvals; have Hown := Lib.hid hown; have HT := Lib.hid ht
      clear hs ht hkeep hrow hvals hcells
      obtain ⟨u, hu⟩ : ∃ u, u = us[k] := ⟨_, rfl⟩
      rw [← hu] at hcell hown
      have HU := Lib.hid hu; clear hu
      go_wp2_with fail
      refine (c_markInt64S B _ _ _ _ hown hs1 hs2).mono ?_; rintro e w' ⟨rfl, ho', hk'⟩
      have Hk' := Lib.hid hk'; have Ho' := Lib.hid ho'; clear ho' hk' hown
      go_wp2
      go_roundw
      case rel =>
        have e := HU.out
        have k1 := Hk'.out
        have o1 := Ho'.out
        have o0 := Hown.out
        subst e
        refine ⟨k + 1, by omega, by rw [HS.out]; go_num, by go_num, Lib.hid (ownsRow_ne Hr.out o0 k1), ?_, Hk.out.trans (k1.mono fun b _ hb => HLT.out k hku b hb)⟩
        have := Hv.out.turn hku o1 k1
        rwa [half_set _ _ _ hlt] at this
      case measure => simp [intOf]; omega
    · obtain rfl : k = t.length := by omega
      have Hk := Lib.hid hkeep; have Hr := Lib.hid hrow; have Hv := Lib.hid hvals
      clear hkeep hrow hvals hcells
      go_wp2
      go_ret
      refine ⟨ret_int (by rw [List.take_length]), ⟨us, Hr.out, by have := Hv.out; rwa [half_all] at this, H3.out, H4.out⟩, Hk.out⟩

set_option maxHeartbeats 400000 in
theorem c_heldR (v : Value) (t : List (List Int)) (k0 : Int) (w : World) (hx : Rows w v (marks2 k0 t)) (h0 : 0 ≤ k0) (h1 : k0 + total t ≤ 4611686018427387904) :
    Calls Try.prog 19 #[v, .int .i64 k0] w (RVal w (.int .i64 (k0 + total t))) := by
  obtain ⟨a, c, rfl, hc, hm⟩ := hx.shape
  simp only [marks2_length] at hc hx ⊢
  go_enter Try.func19, Try.ntmps19
  go_wp2
  go_loopw [1, 5] (fun kk i wr => ∃ k : Nat, k ≤ t.length ∧ kk = .int .i64 (k0 + total (t.take k)) ∧ i = .int .i64 k ∧ Below w.heap.size w wr) (fun _ i _ => t.length - (intOf i).toNat)
  case atStart => exact ⟨0, Nat.zero_le _, by simp [total], rfl, Below.refl _ _⟩
  case round =>
    obtain ⟨k, hk, rfl, rfl, hb⟩ := hrel
    by_cases hlt : k < t.length
    · obtain ⟨b, o, u, rfl, hcell, hu⟩ := (hx.below hb).get k (by simpa using hlt)
      rw [marks2_row _ _ _ hlt] at hu
      have hs := total_snoc t k hlt
      have ht := total_take t (k+1)
      have hs1 : 0 ≤ k0 + total (t.take k) := by omega
      have hs2 : k0 + total (t.take k) + (row t k).length ≤ 4611686018427387904 := by omega
      have hs3 : ¬ k0 + total (t.take k) + (row t k).length < 0 := by omega
      have HS := Lib.hid hs; clear hs ht
      go_wp2_with fail
      refine (c_heldInt64S _ _ _ _ hu hs1 hs2).mono ?_; rintro e w' ⟨rfl, hb'⟩
      have Hb := Lib.hid (bo hb hb'); clear hb hb' hu
      go_wp2
      go_roundw
      case rel => exact ⟨k + 1, by omega, by rw [HS.out]; go_num, by go_num, Hb.out⟩
      case measure => simp [intOf]; omega
    · obtain rfl : k = t.length := by omega
      have Hb := Lib.hid hb; clear hb
      go_wp2
      go_ret
      exact ⟨ret_int (by rw [List.take_length]), Hb.out⟩
end Go.Proofs.Ytgmhnjccgldddaa
