/-
  The program's iterator over all permutations: its contract.
-/
import Derived.Test.YtgmhnjccgldddaaR1
import Derived.Test.YtgmhnjccgldddaaI4
import Derived.Test.YtgmhnjccgldddaaI10
namespace Go.Proofs.Ytgmhnjccgldddaa
set_option linter.unusedVariables false
set_option linter.unusedSimpArgs false
open Go Go.RowKit Go.Shelf
attribute [local go_sem] Oper.semAt_some

set_option maxHeartbeats 400000 in
theorem c_identityB (n : Nat) (w : World) (hn : n ≤ 1048576) :
    Calls Try.prog 86 #[.int .i64 n] w (fun e w' => ∃ g, e = .returned (.slice (some ⟨g, 0, none⟩) n n) ∧ w.heap.size ≤ g ∧ Blk w' g 2 ((iota n).map (Value.int .i64)) ∧ Below w.heap.size w w') := by
  have hmk := run_make_row' (P := Try.prog) 26 2 (.int .i64 0) 8 Try.underlying26 inf_int64 rfl .i64 .i64 n (by omega) (by omega)
  go_enter Try.func86, Try.ntmps86
  go_wp2
  have hB0 : Below w.heap.size w (w.alloc (.cells (madeCells #[.int .i64 0] n) 2)) := (Below.refl _ _).alloc (Nat.le_refl _) _
  have hK0 : Blk (w.alloc (.cells (madeCells #[.int .i64 0] n) 2)) w.heap.size 2 (((iota n).take 0).map (Value.int .i64) ++ (List.replicate n (Value.int .i64 0)).drop 0) := by
    simpa using Blk.made w (.int .i64 0) n 2
  clear hmk
  go_loopw [9, 4] (fun i _ wr => ∃ k : Nat, k ≤ n ∧ i = .int .i64 k ∧ Below w.heap.size w wr ∧ Blk wr w.heap.size 2 (((iota n).take k).map (Value.int .i64) ++ (List.replicate n (Value.int .i64 0)).drop k)) (fun i _ _ => n - (intOf i).toNat)
  case atStart => exact ⟨0, Nat.zero_le _, rfl, hB0, hK0⟩
  case round =>
    clear hB0 hK0
    obtain ⟨k, hk, rfl, hb, hblk⟩ := hrel
    by_cases hlt : k < n
    · obtain ⟨u, h2⟩ := fill_cell0 hblk (k := k) (by simp; omega)
      have h3 := hblk.frozen k
      have hk0 : (0 : Int) ≤ k := by omega
      have hk1 : (k : Int) < n := by omega
      have Hb := Lib.hid hb; have Hblk := Lib.hid hblk; clear hb hblk
      go_wp2
      go_roundw
      case rel =>
        refine ⟨k + 1, by omega, by go_num, Hb.out.setCell (p := ⟨w.heap.size, k, none⟩) (Nat.le_refl _) _, ?_⟩
        have := Hblk.out.set k (.int .i64 k)
        rwa [fill_set _ _ (by simpa using hlt) _ (by simp) _ (nth_iota n k hk0 hk1).symm] at this
      case measure => simp [intOf]; omega
    · have Hb := Lib.hid hb; have Hblk := Lib.hid hblk; clear hb hblk
      obtain rfl : k = n := by omega
      go_wp2
      go_ret
      have hr := Hblk.out
      rw [fill_done _ _ (by simp)] at hr
      exact ⟨_, rfl, Nat.le_refl _, hr, Hb.out⟩

theorem allPerms_inj {n i j : Nat} (hi : i < (allPerms n).length) (hj : j < (allPerms n).length) (h : row (allPerms n) i = row (allPerms n) j) : i = j := by
  rcases Nat.lt_trichotomy i j with g | g | g
  · have := allPerms_lt g hj; rw [h, lexB_irrefl] at this; cases this
  · exact g
  · have := allPerms_lt g hi; rw [h, lexB_irrefl] at this; cases this
/-- Which permutation lies in block b? -/
noncomputable def permAt (n b : Nat) (W : World) : Nat := Classical.epsilon fun k => k < (allPerms n).length ∧ Blk W b 2 ((row (allPerms n) k).map (Value.int .i64))
theorem permAt_eq {n b k : Nat} {W : World} (hk : k < (allPerms n).length) (h : Blk W b 2 ((row (allPerms n) k).map (Value.int .i64))) : permAt n b W = k := by
  have hs := Classical.epsilon_spec (p := fun k => k < (allPerms n).length ∧ Blk W b 2 ((row (allPerms n) k).map (Value.int .i64))) ⟨k, hk, h⟩
  refine allPerms_inj hs.1 hk ?_
  have h1 : some (Obj.cells ((row (allPerms n) (permAt n b W : Nat)).map (Value.int .i64)).toArray 2 (0, 0)) = some (Obj.cells ((row (allPerms n) k).map (Value.int .i64)).toArray 2 (0, 0)) := hs.2.symm.trans h
  simp only [Option.some.injEq, Obj.cells.injEq, and_true] at h1
  have h2 := congrArg Array.toList h1
  simp only at h2
  exact (List.map_inj_right (fun a b e => by injection e)).1 h2

set_option maxRecDepth 100000 in
set_option maxHeartbeats 1600000 in
theorem c_perms1 (N : Nat) (hN0 : 1 ≤ N) (hN : N ≤ 1048576) (n Bs : Nat) (w : World) (hbox : w.cell? ⟨Bs, 0, none⟩ = some (.int .i64 N)) :
    SeqRows Fence.wide n Try.prog 85 #[.pointer (some ⟨Bs, 0, none⟩)] (allPerms N) w := by
  intro l J Jx W1 hb hJ hJx h0 hY
  have hbox1 := cell_under hb hbox
  refine callsIn_of_wp Try.func85 rfl trivial ?_ rfl
  simp only [Try.ntmps85, List.size_toArray, List.length_cons, List.length_nil, Nat.reduceAdd, Nat.reduceSub, Array.replicate_succ, Array.replicate_zero, List.push_toArray, List.append_toArray, List.nil_append, List.cons_append]
  gi_wp2_with (refine ⟨trivial, fun h => (by cases h), ?_⟩; gi_at_call 86; refine (callsIn_wide.2 (c_identityB N _ hN)).mono ?_; rintro e W2 ⟨pb, rfl, hpb, hblk, hb2⟩)
  have hfirst := allPerms_first N
  have hJ0 := h0 W2 hb2
  have hlt := hblk.lt
  have hlen0 : ∀ k : Nat, k < (allPerms N).length → (row (allPerms N) k).length = N := fun k hk => (allPerms_row hk).2
  have hblk0 : Blk W2 pb 2 ((row (allPerms N) (0 : Nat)).map (Value.int .i64)) := by rw [hfirst.2]; exact hblk
  have HJ := Lib.hid hJ0; have HBk := Lib.hid hblk0; have HF := Lib.hid hfirst; have HLen := Lib.hid hlen0; have HSt := Lib.hid hJ; have HY := Lib.hid hY; have HSz := Lib.hid hb2.size
  clear hJ0 hblk0 hfirst hlen0 hJ hJx h0 hY hbox hbox1 hb hb2 hblk
  obtain ⟨hi, HHi⟩ : ∃ hi, Hid (hi = W2.heap.size) := ⟨_, rfl⟩
  rw [← HHi.out] at hlt HJ HSz
  gi_loopw [] (fun wr => ∃ k : Nat, Hid (k < (allPerms N).length) ∧ Hid (J hi k wr) ∧ Hid (Blk wr pb 2 ((row (allPerms N) k).map (Value.int .i64))) ∧ Hid (hi ≤ wr.heap.size)) (fun wr => (allPerms N).length - permAt N pb wr)
  case atStart => exact ⟨0, Lib.hid HF.out.1, HJ, HBk, Lib.hid (by rw [HHi.out]; exact Nat.le_refl _)⟩
  case round =>
    clear HJ HBk HF
    obtain ⟨k, HK, HJ, HBk, HS⟩ := hrel
    have hInts : Ints wr (.slice (some ⟨pb, 0, none⟩) N N) (row (allPerms N) k) := by
      have hl := HLen.out k HK.out
      exact (Own.of_blk HBk.out hpb (by rw [hl]; simp [maxLen]; omega) hl.symm hl.symm).ints
    obtain ⟨fn, tmps, assign, body, hy, hR⟩ := HY.out hi k _ wr HJ.out HSz.out HS.out HK.out hInts
    have HM := Lib.hid (permAt_eq HK.out HBk.out)
    clear hInts
    gi_wp2
    refine ⟨fun h => (by cases h), hR.mono ?_⟩
    rintro e W3 (⟨rfl, hJ3, hk3⟩ | ⟨rfl, hJx3⟩)
    · have hblk3 : Blk W3 pb 2 ((row (allPerms N) k).map (Value.int .i64)) := HBk.out.of_block (hk3.block pb HBk.out.lt (by omega))
      have HB3 := Lib.hid hblk3; have HJ3 := Lib.hid hJ3; have HS3 := Lib.hid (Nat.le_trans HS.out hk3.size)
      clear hblk3 hJ3 hk3 hR hy
      have hnx := fun (h : (row (allPerms N) k).length = N) => by
        have := c_nextPermutation pb (row (allPerms N) k) W3 (allPerms_row HK.out).1 (by omega) (by omega) HB3.out
        rw [h] at this
        exact this
      have HN := Lib.hid (hnx (HLen.out k HK.out))
      clear hnx
      gi_wp2_with (refine ⟨trivial, fun h => (by cases h), ?_⟩; gi_at_call 87; refine (callsIn_wide.2 HN.out).mono ?_; rintro e W4 (⟨q, hq, rfl, hblk4, hk4⟩ | ⟨hd, rfl, hk4⟩))
      · obtain ⟨h1, h2⟩ := allPerms_next HK.out hq
        have hJ4 := HSt.out hi (k + 1) W3 W4 HJ3.out (hk4.mono fun b _ e => by subst e; exact ⟨hpb, hlt⟩)
        rw [← h2] at hblk4
        have HM4 := Lib.hid (permAt_eq h1 hblk4)
        have HB4 := Lib.hid hblk4; have HJ4 := Lib.hid hJ4; have HS4 := Lib.hid (Nat.le_trans HS3.out hk4.size); have HK4 := Lib.hid h1
        clear hq hblk4 hk4 h1 h2 hJ4
        gi_wp2
        go_roundw
        case rel => exact ⟨k + 1, HK4, HJ4, HB4, HS4⟩
        case measure => rw [HM.out, HM4.out]; have := HK4.out; omega
      · have hl := allPerms_last HK.out hd
        have hJ4 := HSt.out hi (k + 1) W3 W4 HJ3.out (hk4.mono fun b _ e => by subst e; exact ⟨hpb, hlt⟩)
        rw [hl] at hJ4
        have HJ4 := Lib.hid hJ4
        clear hJ4 hl hd hk4
        gi_wp2
        refine bodyPost_ret (results_none rfl _ _ _) rfl ?_
        exact ⟨⟨_, rfl⟩, .inl ⟨hi, HJ4.out⟩⟩
    · have HJx3 := Lib.hid hJx3
      clear hJx3
      gi_wp2
      go_end0
      exact ⟨⟨_, rfl⟩, .inr ⟨hi, k + 1, HJx3.out⟩⟩
end Go.Proofs.Ytgmhnjccgldddaa
