/-
  Copies of tables and the order of tables: the program's and the reference's functions.
-/
import Derived.Test.YtkcobfkmeaakoaaI24
import Derived.Test.YtkcobfkmeaakoaaI21
import Derived.Test.YtkcobfkmeaakoaaI3c
import Derived.Deep.RegionHeld3
namespace Go.Proofs.Ytkcobfkmeaakoaa
open Go.RowKit

set_option maxHeartbeats 1600000 in
theorem c_cloneTable (v : Value) (t : List (List Int)) (w : World) (hx : Rows w v t) (hn : t.length ≤ 1048576) (hr : ∀ r ∈ t, r.length ≤ 1048576) :
    Calls Try.prog 91 #[v] w (RRows w t) := by
  obtain ⟨a, c, rfl, hc, hm⟩ := hx.shape
  have hmk := run_make_row' (P := Try.prog) 22 25 (.slice none 0 0) 24 Try.underlying22 inf_ints rfl .i64 .i64 t.length (by omega) (by omega)
  have HR := Lib.hid hr; clear hr
  have hB0 : Hid (Below w.heap.size w (w.alloc (.cells (madeCells #[.slice none 0 0] t.length) 25))) := Lib.hid ((Below.refl _ _).alloc (Nat.le_refl _) _)
  have hK0 : Hid (Blk (w.alloc (.cells (madeCells #[.slice none 0 0] t.length) 25)) w.heap.size 25 ([] ++ (List.replicate t.length (Value.slice none 0 0)).drop 0)) := by
    show Blk _ _ _ _
    simpa using Blk.made w (.slice none 0 0) t.length 25
  go_enter Try.func91, Try.ntmps91
  go_wp2
  clear hmk
  go_loopw [11, 4, 5] (fun i _ _ wr => ∃ (k : Nat) (us : List Value), k ≤ t.length ∧ i = .int .i64 k ∧ Hid (Below w.heap.size w wr) ∧ Hid (Blk wr w.heap.size 25 (us ++ (List.replicate t.length (Value.slice none 0 0)).drop k)) ∧ Hid (RowVals w.heap.size wr us (t.take k))) (fun i _ _ _ => t.length - (intOf i).toNat)
  case atStart => exact ⟨0, [], Nat.zero_le _, rfl, hB0, hK0, Lib.hid (RowVals.nil _ _)⟩
  case round =>
    clear hB0 hK0
    obtain ⟨k, us, hk, rfl, HB, HBk, HV⟩ := hrel
    obtain ⟨wo, rfl⟩ : ∃ wo : World, wo = wr := ⟨_, rfl⟩
    have hul : us.length = k := by rw [HV.out.len]; simp; omega
    by_cases hlt : k < t.length
    · obtain ⟨b, o, ra, rc, rfl, hcell, hu⟩ := (hx.below HB.out).getS k hlt
      have hrl : (row t k).length ≤ 1048576 := HR.out _ (row_mem (by omega) (by omega))
      have HU := Lib.hid hu; have HUl := Lib.hid hul
      clear hu hul
      go_wp2_with fail
      refine (c_Clone _ _ _ HU.out hrl).mono ?_; rintro e w1 ⟨r1, rfl, ho1, hb1⟩
      obtain ⟨x1, y1, hv1, _⟩ := ho1.shape
      subst hv1
      have hbk1 := HBk.out.under hb1
      obtain ⟨z, h2⟩ := fill_cell0 hbk1 (k := k) (by have := HUl.out; simp; omega)
      have h3 := hbk1.frozen k
      have hset := hbk1.set k (.slice x1 (row t k).length y1)
      rw [vals_set0 _ _ _ _ _ HUl.out hlt] at hset
      have hV1 := HV.out.snoc hb1 ho1 (Nat.le_trans (Below.size HB.out) (Nat.le_refl _))
      have hV2 := hV1.store hbk1 (by decide) k (.slice x1 (row t k).length y1)
      have HB1 := Lib.hid ((bb HB.out hb1).setCell (p := ⟨w.heap.size, k, none⟩) (Nat.le_refl _) (.slice x1 (row t k).length y1))
      have HS := Lib.hid hset; have HV2 := Lib.hid hV2
      clear hb1 hbk1 hset hV1 hV2 hcell ho1
      go_wp2
      go_roundw
      case rel =>
        refine ⟨k + 1, us ++ [.slice x1 (row t k).length y1], by omega, by go_num, HB1, HS, ?_⟩
        rw [take_snoc_row _ _ hlt]; exact HV2
      case measure => simp [intOf]; omega
    · obtain rfl : k = t.length := by omega
      have hv := HV.out
      rw [List.take_of_length_le (Nat.le_refl _)] at hv
      have hkk := HBk.out
      rw [List.drop_of_length_le (by simp), List.append_nil] at hkk
      have H1 := Lib.hid hv; have H2 := Lib.hid hkk; have HUl := Lib.hid hul
      clear hv hkk hul
      go_wp2
      go_ret
      exact ⟨_, rfl, ⟨us, ownsRow_blk H2.out (Nat.le_refl _) HUl.out.symm HUl.out.symm (by rw [HUl.out]; unfold maxLen; omega), H1.out⟩, HB.out⟩

set_option maxHeartbeats 1600000 in
theorem c_l01Own2 (v : Value) (t : List (List Int)) (w : World) (hx : Rows w v t) (hn : t.length ≤ 1048576) (hr : ∀ r ∈ t, r.length ≤ 1048576) :
    Calls Try.prog 114 #[v] w (RRows w t) := by
  obtain ⟨a, c, rfl, hc, hm⟩ := hx.shape
  have HR := Lib.hid hr; clear hr
  go_enter Try.func114, Try.ntmps114
  go_wp2
  go_loopw [3, 4] (fun s i wr => ∃ (k : Nat) (sa : Option Addr) (sc : Nat), k ≤ t.length ∧ i = .int .i64 k ∧ s = .slice sa k sc ∧ Below w.heap.size w wr ∧ OwnRows w.heap.size wr (.slice sa k sc) (t.take k)) (fun _ i _ => t.length - (intOf i).toNat)
  case atStart => exact ⟨0, _, _, Nat.zero_le _, rfl, rfl, (Below.refl _ _).alloc (Nat.le_refl _) _, OwnRows.made0 w (Nat.le_refl _)⟩
  case round =>
    obtain ⟨k, sa, sc, hk, rfl, rfl, hb, hown⟩ := hrel
    have hlen : (t.take k).length = k := by simp; omega
    by_cases hlt : k < t.length
    · obtain ⟨b, o, ra, rc, rfl, hcell, hu⟩ := (hx.below hb).getS k hlt
      have hrl : (row t k).length ≤ 1048576 := HR.out _ (row_mem (by omega) (by omega))
      have Hb := Lib.hid hb; have Ho := Lib.hid hown; have Hl := Lib.hid hlen; have Hs := Lib.hid hb.size; have HU := Lib.hid hu; clear hb hown hlen hu
      obtain ⟨wo, rfl⟩ : ∃ wo : World, wo = wr := ⟨_, rfl⟩
      go_wp2_with fail
      refine (c_l01Own _ _ _ HU.out hrl).mono ?_; rintro e w1 ⟨r, rfl, hor, hb1⟩
      obtain ⟨qa, qc, hqv, _⟩ := hor.shape
      subst hqv
      have HRr := Lib.hid hor; have HB1 := Lib.hid hb1; clear hor hb1 hcell
      go_wp2_with (at_builtin; refine wpList_app_row w.heap.size wo w1 _ (t.take k) _ (row t k) _ _ rfl rfl rfl Ho.out HB1.out HRr.out rfl (by rw [Hl.out]; omega) Hs.out ?_; intro a' c' w' hown' hkeep; rw [Hl.out]; have Hk := Lib.hid hkeep; have Ho' := Lib.hid hown'; clear hkeep hown')
      go_roundw
      case rel =>
        have h1 := Ho'.out
        rw [Hl.out, ← take_snoc_row _ _ hlt] at h1
        exact ⟨k + 1, a', c', by omega, by go_num, rfl, OwnRows.frame Ho.out (bb Hb.out HB1.out) (Nat.le_refl _) (Nat.le_trans Hs.out HB1.out.size) Hk.out, h1⟩
      case measure => simp [intOf]; omega
    · have Hb := Lib.hid hb; have Ho := Lib.hid hown; clear hb hown hlen
      obtain rfl : k = t.length := by omega
      go_wp2
      go_ret
      exact ⟨_, rfl, by have := Ho.out; rwa [List.take_of_length_le (Nat.le_refl _)] at this, Hb.out⟩

set_option maxHeartbeats 1600000 in
theorem c_l01Less2 (v1 v2 : Value) (xs ys : List (List Int)) (w : World) (hx : Rows w v1 xs) (hy : Rows w v2 ys) :
    Calls Try.prog 116 #[v1, v2] w (RVal w (.bool (lexR xs ys))) := by
  obtain ⟨a, c, rfl, hc, hm⟩ := hx.shape
  obtain ⟨a2, c2, rfl, hc2, hm2⟩ := hy.shape
  go_enter Try.func116, Try.ntmps116
  go_wp2
  go_loopw [5] (fun i wr => ∃ k : Nat, k ≤ xs.length ∧ k ≤ ys.length ∧ i = .int .i64 k ∧ Hid (Below w.heap.size w wr) ∧ Hid (xs.take k = ys.take k)) (fun i _ => xs.length - (intOf i).toNat)
  case atStart => exact ⟨0, Nat.zero_le _, Nat.zero_le _, rfl, Lib.hid (Below.refl _ _), Lib.hid rfl⟩
  case round =>
    obtain ⟨k, hk, hk2, rfl, HB, HE⟩ := hrel
    obtain ⟨wo, rfl⟩ : ∃ wo : World, wo = wr := ⟨_, rfl⟩
    by_cases hlt : k < xs.length
    · by_cases hlt2 : k < ys.length
      · obtain ⟨b, o, ra, rc, rfl, hcell, hu⟩ := (hx.below HB.out).getS k hlt
        obtain ⟨b2, o2, ra2, rc2, rfl, hcell2, hu2⟩ := (hy.below HB.out).getS k hlt2
        have HU := Lib.hid hu; have HU2 := Lib.hid hu2; clear hu hu2
        have hk0 : (0 : Int) ≤ k := by omega
        have hk1 : (k : Int) < xs.length := by omega
        have hkk : (k : Int) < ys.length := by omega
        have HCs : Hid (∀ w' : World, Below wo.heap.size wo w' → w'.cell? ⟨b, o + k, none⟩ = some (.slice ra (row xs k).length rc) ∧ w'.cell? ⟨b2, o2 + k, none⟩ = some (.slice ra2 (row ys k).length rc2)) := Lib.hid (fun w' hb => ⟨cell_under hb hcell, cell_under hb hcell2⟩)
        by_cases he : row xs k = row ys k
        · have hd : decide (row xs k = row ys k) = true := by simp [he]
          have HV := Lib.hid he; clear he
          go_wp2
          go_region_held3 (fun w' => w'.cell? ⟨b, o + k, none⟩ = some (.slice ra (row xs k).length rc) ∧ w'.cell? ⟨b2, o2 + k, none⟩ = some (.slice ra2 (row ys k).length rc2)) (first | go_keep | exact HCs.out _ (Below.refl _ _).drew | exact HCs.out _ HX.out)
            ((go_at_call 102; (with_reducible refine (c_l01Same _ _ _ _ _ (HU.out.below (Below.refl _ _).drew) (HU2.out.below (Below.refl _ _).drew)).mono ?_); rintro e w1 hh; obtain ⟨rfl, hb1⟩ := hh.r; have HX := Lib.hid (bb (Below.refl wo.heap.size wo).drew hb1); have HB1 := Lib.hid (bb HB.out HX.out); clear hb1 hh))
          go_wp2
          go_roundw
          case rel => exact ⟨k + 1, by omega, by omega, by go_num, HB1, Lib.hid (take_succ_eqR hlt hlt2 HE.out HV.out)⟩
          case measure => simp [intOf]; omega
        · have hd : decide (row xs k = row ys k) = false := by simp [he]
          have HR : Hid (lexB (row xs k) (row ys k) = lexR xs ys) := Lib.hid (lexR_at hlt hlt2 HE.out he).symm
          clear he
          go_wp2
          go_region_held3 (fun w' => w'.cell? ⟨b, o + k, none⟩ = some (.slice ra (row xs k).length rc) ∧ w'.cell? ⟨b2, o2 + k, none⟩ = some (.slice ra2 (row ys k).length rc2)) (first | go_keep | exact HCs.out _ (Below.refl _ _).drew | exact HCs.out _ HX.out)
            ((go_at_call 102; (with_reducible refine (c_l01Same _ _ _ _ _ (HU.out.below (Below.refl _ _).drew) (HU2.out.below (Below.refl _ _).drew)).mono ?_); rintro e w1 hh; obtain ⟨rfl, hb1⟩ := hh.r; have HX := Lib.hid (bb (Below.refl wo.heap.size wo).drew hb1); have HB1 := Lib.hid (bb HB.out HX.out); clear hb1 hh))
          have hcc := HCs.out _ HX.out
          obtain ⟨hcell3, hcell4⟩ := hcc
          go_wp2
          go_region_held3 (fun w' => w'.cell? ⟨b, o + k, none⟩ = some (.slice ra (row xs k).length rc) ∧ w'.cell? ⟨b2, o2 + k, none⟩ = some (.slice ra2 (row ys k).length rc2)) (first | go_keep | exact HCs.out _ (bb HX.out (Below.refl _ _).drew) | exact HCs.out _ HX2.out)
            ((go_at_call 159; (with_reducible refine (c_l01Less _ _ _ _ _ (HU.out.below (bb HX.out (Below.refl _ _).drew)) (HU2.out.below (bb HX.out (Below.refl _ _).drew))).mono ?_); rintro e w2 ⟨rfl, nq, rfl⟩; have HX2 := Lib.hid (bb (bb HX.out (Below.refl w1.heap.size w1).drew) (below_drewN (Below.refl _ _) nq)); have HB2 := Lib.hid (bb HB.out HX2.out)))
          go_wp2
          go_ret
          exact ⟨ret_bool HR.out, below_drewN (bb HB.out HX.out) _⟩
      · obtain rfl : k = ys.length := by omega
        have HR : Hid (decide (xs.length < ys.length) = lexR xs ys) := by
          show _ = _
          have := HE.out
          rw [List.take_length] at this
          rw [lexR_pre (this.trans (List.take_of_length_le (by omega)).symm)]
        go_wp2
        go_ret
        exact ⟨ret_bool HR.out, HB.out⟩
    · obtain rfl : k = xs.length := by omega
      have HR : Hid (decide (xs.length < ys.length) = lexR xs ys) := by
        show _ = _
        have := HE.out
        rw [List.take_length] at this
        rw [lexR_pre ((List.take_of_length_le hk2).trans this)]
      go_wp2
      go_ret
      exact ⟨ret_bool HR.out, HB.out⟩
end Go.Proofs.Ytkcobfkmeaakoaa
