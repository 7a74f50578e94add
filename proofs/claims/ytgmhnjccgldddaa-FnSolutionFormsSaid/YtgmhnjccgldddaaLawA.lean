/-
  Contracts of the laws' own helpers for slices of integers: copy, compare, mark, held. No condition but sizes.
-/
import Derived.Test.YtgmhnjccgldddaaBase
namespace Go.Proofs.Ytgmhnjccgldddaa
set_option linter.unusedVariables false
set_option linter.unusedSimpArgs false
open Go.RowKit

theorem map_take_snoc (xs : List Int) (k : Nat) (h : k < xs.length) (r : List Value) (hr : r.length = xs.length) :
    ((xs.take k).map (Value.int .i64) ++ r.drop k).set k (.int .i64 xs[k]) = (xs.take (k+1)).map (Value.int .i64) ++ r.drop (k+1) := by
  apply List.ext_getElem?
  intro i
  simp only [List.getElem?_set, List.getElem?_append, List.length_append, List.length_map, List.length_take, List.length_drop, List.getElem?_map, List.getElem?_take, List.getElem?_drop]
  by_cases h1 : i < k
  · simp [h1, show ¬ k = i from by omega, show i < xs.length from by omega, show i < k + 1 from by omega, show i < min k xs.length from by omega, show i < min (k+1) xs.length from by omega]
  · by_cases h2 : i = k
    · subst h2
      simp [h, show min i xs.length = i from by omega, show min (i+1) xs.length = i + 1 from by omega]
      omega
    · simp [h1, h2, show ¬ k = i from by omega, show min k xs.length = k from by omega, show min (k+1) xs.length = k+1 from by omega, show ¬ i < k + 1 from by omega, show k + (i - k) = i from by omega, show k + 1 + (i - (k+1)) = i from by omega]

set_option maxHeartbeats 400000 in
theorem c_toInt64S (v : Value) (xs : List Int) (w : World) (hx : Ints w v xs) (hn : xs.length ≤ 35184372088832) :
    Calls Try.prog 51 #[v] w (RInts w xs) := by
  obtain ⟨a, c, rfl, hc, hm, hcell⟩ := hx
  have HC := Lib.hid hcell; clear hcell
  have hmk := run_make_row' (P := Try.prog) 26 2 (.int .i64 0) 8 Try.underlying26 inf_int64 rfl .i64 .i64 xs.length (by omega) (by omega)
  go_enter Try.func51, Try.ntmps51
  go_wp2
  have hB0 : Below w.heap.size w (w.alloc (.cells (madeCells #[.int .i64 0] xs.length) 2)) := (Below.refl _ _).alloc (Nat.le_refl _) _
  have hK0 : Blk (w.alloc (.cells (madeCells #[.int .i64 0] xs.length) 2)) w.heap.size 2 ((xs.take 0).map (Value.int .i64) ++ (List.replicate xs.length (Value.int .i64 0)).drop 0) := by
    simpa using Blk.made w (.int .i64 0) xs.length 2
  clear hmk
  go_loopw [4] (fun i wr => ∃ k : Nat, k ≤ xs.length ∧ i = .int .i64 k ∧ Below w.heap.size w wr ∧ Blk wr w.heap.size 2 ((xs.take k).map (Value.int .i64) ++ (List.replicate xs.length (Value.int .i64 0)).drop k)) (fun i _ => xs.length - (intOf i).toNat)
  case atStart => exact ⟨0, Nat.zero_le _, rfl, hB0, hK0⟩
  case round =>
    clear hB0 hK0
    obtain ⟨k, hk, rfl, hb, hblk⟩ := hrel
    by_cases hlt : k < xs.length
    · obtain ⟨b, o, rfl, hcell⟩ := HC.out k hlt
      have h1 : wr.cell? ⟨b, o + k, none⟩ = some (.int .i64 xs[k]) := cell_under hb hcell
      have h2 : wr.cell? ⟨w.heap.size, k, none⟩ = some (.int .i64 0) := by
        rw [hblk.cell (by simp; omega)]; simp [List.getElem_append, show min k xs.length = k from by omega]
      have h3 := hblk.frozen k
      have Hb := Lib.hid hb; have Hblk := Lib.hid hblk; clear hb hblk hcell
      go_wp2
      go_roundw
      case rel =>
        refine ⟨k + 1, by omega, by go_num, Hb.out.setCell (Nat.le_refl _) _, ?_⟩
        have := Hblk.out.set k (.int .i64 xs[k])
        rwa [map_take_snoc _ _ hlt _ (by simp)] at this
      case measure => simp [intOf]; omega
    · have Hb := Lib.hid hb; have Hblk := Lib.hid hblk; clear hb hblk
      obtain rfl : k = xs.length := by omega
      go_wp2
      go_ret
      exact ⟨_, rfl, Own.of_blk (by have := Hblk.out; simpa using this) (Nat.le_refl _) (by unfold maxLen; omega) rfl rfl, Hb.out⟩

theorem eq_snoc {xs ys : List Int} {k : Nat} (hk : k < xs.length) (hk' : k < ys.length) (h : xs.take k = ys.take k) (he : xs[k] = ys[k]) : xs.take (k+1) = ys.take (k+1) := by
  rw [List.take_succ_eq_append_getElem hk, List.take_succ_eq_append_getElem hk', h, he]

theorem drewN_drewN (w : World) (n m : Nat) : (w.drewN n).drewN m = w.drewN (n + m) := by
  simp [World.drewN, Nat.add_assoc]

set_option maxHeartbeats 400000 in
theorem c_eqInt64S (v1 v2 : Value) (xs ys : List Int) (w : World) (hx : Ints w v1 xs) (hy : Ints w v2 ys) :
    Calls Try.prog 10 #[v1, v2] w (QVal w (.bool (decide (xs = ys)))) := by
  obtain ⟨a, c, rfl, hc, hm, hcell⟩ := hx
  obtain ⟨a2, c2, rfl, hc2, hm2, hcell2⟩ := hy
  have hm' : xs.length ≤ 9223372036854775807 := by unfold maxLen at hm; omega
  have hm2' : ys.length ≤ 9223372036854775807 := by unfold maxLen at hm2; omega
  have HC := Lib.hid hcell; clear hcell
  have HC2 := Lib.hid hcell2; clear hcell2
  clear hm hm2
  by_cases hlen : xs.length = ys.length
  · have hl1 : ((xs.length : Int) == (ys.length : Int)) = true := by simp [hlen]
    have hl2 : ((xs.length : Int) != (ys.length : Int)) = false := by simp [hlen]
    have HL := Lib.hid hlen; clear hlen
    go_enter Try.func10, Try.ntmps10
    go_wp2
    go_loopw [5] (fun i wr => ∃ k : Nat, k ≤ xs.length ∧ i = .int .i64 k ∧ Hid (∃ n, wr = w.drewN n) ∧ Hid (xs.take k = ys.take k)) (fun i _ => xs.length - (intOf i).toNat)
    case atStart => exact ⟨0, Nat.zero_le _, rfl, Lib.hid ⟨0, rfl⟩, Lib.hid rfl⟩
    case round =>
      obtain ⟨k, hk, rfl, HN, HE⟩ := hrel
      have hb : Below w.heap.size w wr := by obtain ⟨n, hn⟩ := HN.out; rw [hn]; exact below_drewN (Below.refl _ _) n
      by_cases hlt : k < xs.length
      · have hlt2 : k < ys.length := by have := HL.out; omega
        obtain ⟨b, o, rfl, hcell⟩ := HC.out k hlt
        obtain ⟨b2, o2, rfl, hcell2⟩ := HC2.out k hlt2
        have h1 : wr.cell? ⟨b, o + k, none⟩ = some (.int .i64 xs[k]) := cell_under hb hcell
        have h2 : wr.cell? ⟨b2, o2 + k, none⟩ = some (.int .i64 ys[k]) := cell_under hb hcell2
        clear hb hcell hcell2
        have hk0 : (0 : Int) ≤ k := by omega
        have hk1 : (k : Int) < xs.length := by omega
        have hk2 : (k : Int) < ys.length := by omega
        by_cases he : xs[k] = ys[k]
        · have he1 : (xs[k] != ys[k]) = false := by simp [he]
          have HV := Lib.hid he; clear he
          go_wp2
          go_quiet (fail)
          go_wp2
          go_roundw
          case rel => exact ⟨k + 1, by omega, by go_num, by obtain ⟨n, hn⟩ := HN.out; exact Lib.hid ⟨n + _, by rw [hn]; exact drewN_drewN w n _⟩, Lib.hid (eq_snoc hlt hlt2 HE.out HV.out)⟩
          case measure => simp [intOf]; omega
        · have he1 : (xs[k] != ys[k]) = true := by simp [he]
          go_wp2
          go_quiet (fail)
          go_wp2
          go_ret
          refine ⟨ret_bool ?_, by obtain ⟨n, hn⟩ := HN.out; exact ⟨n + _, by rw [hn]; exact drewN_drewN w n _⟩⟩
          simp only [Eq.comm (a := false), decide_eq_false_iff_not]
          rintro rfl
          exact he rfl
      · go_wp2
        go_ret
        refine ⟨ret_bool ?_, HN.out⟩
        have h := HE.out
        rw [List.take_of_length_le (by omega), List.take_of_length_le (by have := HL.out; omega)] at h
        simp [h]
  · have hl1 : ((xs.length : Int) == (ys.length : Int)) = false := by simp; omega
    have hl2 : ((xs.length : Int) != (ys.length : Int)) = true := by simp; omega
    go_enter Try.func10, Try.ntmps10
    go_wp2
    go_ret
    refine ⟨ret_bool ?_, ⟨0, rfl⟩⟩
    simp only [Eq.comm (a := false), decide_eq_false_iff_not]
    rintro rfl
    exact hlen rfl

theorem c_eqI (v1 v2 : Value) (xs ys : List Int) (w : World) (hx : Ints w v1 xs) (hy : Ints w v2 ys) :
    Calls Try.prog 10 #[v1, v2] w (RVal w (.bool (decide (xs = ys)))) := (c_eqInt64S v1 v2 xs ys w hx hy).mono fun _ _ h => h.r

/-- The marks k, k + 1, ..: n of them. -/
def marks (k : Int) (n : Nat) : List Int := (List.range n).map fun (i : Nat) => k + (i : Int)
@[simp] theorem marks_length (k : Int) (n : Nat) : (marks k n).length = n := by simp [marks]
theorem marks_get (k : Int) (n i : Nat) (h : i < (marks k n).length) : (marks k n)[i] = k + i := by simp [marks]
theorem marks_snoc (k : Int) (n : Nat) : marks k (n + 1) = marks k n ++ [k + n] := by simp [marks, List.range_succ]
theorem marks_set (k : Int) (j : Nat) (r : List Value) (h : j < r.length) :
    ((marks k j).map (Value.int .i64) ++ r.drop j).set j (.int .i64 (k + j)) = (marks k (j+1)).map (Value.int .i64) ++ r.drop (j+1) := by
  rw [List.drop_eq_getElem_cons h, marks_snoc]
  rw [List.set_append]
  simp only [List.length_map, marks_length, Nat.lt_irrefl, if_false, Nat.sub_self, List.set_cons_zero, List.map_append, List.map_cons, List.map_nil, List.append_assoc, List.cons_append, List.nil_append]

def MarkPost (B : Nat) (w0 : World) (v : Value) (n : Nat) (k : Int) (e : Ending) (w' : World) : Prop :=
  e = .returned (.int .i64 (k + n)) ∧ Own B w' v (marks k n) ∧ Keep (fun b => v.ownBlock = some b) w0 w'

set_option maxHeartbeats 400000 in
theorem c_markInt64S (B : Nat) (v : Value) (xs : List Int) (k0 : Int) (w : World) (hx : Own B w v xs) (h0 : 0 ≤ k0) (h1 : k0 + xs.length ≤ 4611686018427387904) :
    Calls Try.prog 13 #[v, .int .i64 k0] w (MarkPost B w v xs.length k0) := by
  rcases hx.open with ⟨rfl, rfl⟩ | ⟨g, cs, rfl, hB, hblk, hm⟩
  · have HX := Lib.hid hx; clear hx
    have hlt0 : ¬ (0 : Int) < ((0 : Nat) : Int) := by omega
    go_enter Try.func13, Try.ntmps13
    go_wp2
    go_loopw [1, 5] (fun kk i wr => kk = .int .i64 k0 ∧ i = .int .i64 0 ∧ w = wr) (fun _ i _ => 1)
    case atStart => exact ⟨rfl, rfl, rfl⟩
    case round =>
      obtain ⟨rfl, rfl, rfl⟩ := hrel
      go_wp2
      go_ret
      exact ⟨ret_int (by simp), Own.nil _ _, Keep.refl _ _⟩
  · clear hx
    have HB := Lib.hid hblk; have HM := Lib.hid hm
    have hm1 : xs.length ≤ 4611686018427387904 := by omega
    clear hblk hm
    go_enter Try.func13, Try.ntmps13
    go_wp2
    go_loopw [1, 5] (fun kk i wr => ∃ j : Nat, j ≤ xs.length ∧ kk = .int .i64 (k0 + j) ∧ i = .int .i64 j ∧ Keep (fun b => (Value.slice (some ⟨g, 0, none⟩) xs.length (xs.length + cs.length)).ownBlock = some b) w wr ∧
      Blk wr g 2 ((marks k0 j).map (Value.int .i64) ++ (xs.map (Value.int .i64) ++ cs).drop j)) (fun _ i _ => xs.length - (intOf i).toNat)
    case atStart => exact ⟨0, Nat.zero_le _, by simp, rfl, Keep.refl _ _, by simpa [marks] using HB.out⟩
    case round =>
      obtain ⟨j, hj, rfl, rfl, hk, hblk⟩ := hrel
      by_cases hlt : j < xs.length
      · have h2 : wr.cell? ⟨g, j, none⟩ = some (((marks k0 j).map (Value.int .i64) ++ (xs.map (Value.int .i64) ++ cs).drop j)[j]'(by simp; omega)) := hblk.cell (by simp; omega)
        have h2' : ∃ u, wr.cell? ⟨g, j, none⟩ = some u := ⟨_, h2⟩
        clear h2
        obtain ⟨u, h2⟩ := h2'
        have h3 := hblk.frozen j
        have Hk := Lib.hid hk; have Hblk := Lib.hid hblk; clear hk hblk
        go_wp2
        go_roundw
        case rel =>
          refine ⟨j + 1, by omega, by go_num, by go_num, Hk.out.setCell (p := ⟨g, j, none⟩) (.inl rfl) _, ?_⟩
          have := Hblk.out.set j (.int .i64 (k0 + j))
          rwa [marks_set _ _ _ (by simp; omega)] at this
        case measure => simp [intOf]; omega
      · have Hk := Lib.hid hk; have Hblk := Lib.hid hblk; clear hk hblk
        obtain rfl : j = xs.length := by omega
        go_wp2
        go_ret
        refine ⟨rfl, ?_, Hk.out⟩
        have h := Hblk.out
        rw [List.drop_append_of_le_length (by simp), List.drop_of_length_le (by simp), List.nil_append] at h
        exact Own.shut h hB (by have := HM.out; simpa using this) (by simp) (by simp)

/-- Owned, in a block from lo up to hi. -/
def OwnIn (lo hi : Nat) (w : World) (v : Value) (xs : List Int) : Prop := Own lo w v xs ∧ ∀ k, v.ownBlock = some k → k < hi
theorem Own.inn {lo : Nat} {w : World} {v : Value} {xs : List Int} (h : Own lo w v xs) : OwnIn lo w.heap.size w v xs := ⟨h, fun _ hk => (h.lt hk).2⟩
theorem OwnIn.under {lo hi : Nat} {w w' : World} {v : Value} {xs : List Int} (h : OwnIn lo hi w v xs) (hb : Below w.heap.size w w') : OwnIn lo hi w' v xs := ⟨h.1.under hb, h.2⟩
theorem OwnIn.keep {lo hi : Nat} {S : Nat → Prop} {w w' : World} {v : Value} {xs : List Int} (h : OwnIn lo hi w v xs) (k : Keep S w w') (hs : ∀ b, lo ≤ b → b < hi → ¬ S b) : OwnIn lo hi w' v xs := by
  refine ⟨?_, h.2⟩
  obtain ⟨⟨hl, h1 | ⟨g, cap, cur, hv, hb, hg, r⟩⟩, h2⟩ := h
  · exact ⟨hl, .inl h1⟩
  · exact ⟨hl, .inr ⟨g, cap, cur, hv, hb, by rw [k.block g (Array.getElem?_eq_some_iff.1 hg).1 (hs g hb (h2 g (by rw [hv]; rfl)))]; exact hg, r⟩⟩
theorem OwnIn.ints {lo hi : Nat} {w : World} {v : Value} {xs : List Int} (h : OwnIn lo hi w v xs) : Ints w v xs := h.1.ints

theorem c_markI (lo hi : Nat) (v : Value) (xs : List Int) (k0 : Int) (w : World) (hx : OwnIn lo hi w v xs) (h0 : 0 ≤ k0) (h1 : k0 + xs.length ≤ 4611686018427387904) :
    Calls Try.prog 13 #[v, .int .i64 k0] w fun e w' => e = .returned (.int .i64 (k0 + xs.length)) ∧ OwnIn lo hi w' v (marks k0 xs.length) ∧ Keep (fun b => lo ≤ b ∧ b < hi) w w' :=
  (c_markInt64S lo v xs k0 w hx.1 h0 h1).mono fun e w' ⟨h2, h3, h4⟩ => ⟨h2, ⟨h3, hx.2⟩, h4.mono fun k _ he => ⟨(hx.1.lt he).1, hx.2 k he⟩⟩

set_option maxHeartbeats 400000 in
theorem c_heldInt64S (v : Value) (n : Nat) (k0 : Int) (w : World) (hx : Ints w v (marks k0 n)) (h0 : 0 ≤ k0) (h1 : k0 + n ≤ 4611686018427387904) :
    Calls Try.prog 14 #[v, .int .i64 k0] w (RVal w (.int .i64 (k0 + n))) := by
  obtain ⟨a, c, rfl, hc, hm, hcell⟩ := hx
  have HC := Lib.hid hcell; clear hcell hm
  simp only [marks_length] at hc ⊢
  go_enter Try.func14, Try.ntmps14
  go_wp2
  go_loopw [1, 5] (fun kk i wr => ∃ j : Nat, j ≤ n ∧ kk = .int .i64 (k0 + j) ∧ i = .int .i64 j ∧ w = wr) (fun _ i _ => n - (intOf i).toNat)
  case atStart => exact ⟨0, Nat.zero_le _, by simp, rfl, rfl⟩
  case round =>
    obtain ⟨j, hj, rfl, rfl, rfl⟩ := hrel
    by_cases hlt : j < n
    · obtain ⟨b, o, rfl, hcell⟩ := HC.out j (by simpa using hlt)
      rw [marks_get] at hcell
      have h3 : ((k0 + (j : Int)) != (k0 + (j : Int))) = false := by simp
      go_wp2
      go_roundw
      case rel => exact ⟨j + 1, by omega, by go_num, by go_num, by first | rfl | trivial⟩
      case measure => simp [intOf]; omega
    · obtain rfl : j = n := by omega
      go_wp2
      go_ret
      exact ⟨rfl, Below.refl _ _⟩
end Go.Proofs.Ytgmhnjccgldddaa
