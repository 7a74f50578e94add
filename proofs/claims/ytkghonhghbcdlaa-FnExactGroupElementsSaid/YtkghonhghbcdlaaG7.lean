/-
  The elements of a group: the reference's function.
-/
import Derived.Test.YtkghonhghbcdlaaG5
import Derived.Test.YtkghonhghbcdlaaG6
import Derived.Test.YtkghonhghbcdlaaI29
namespace Go.Proofs.Ytkghonhghbcdlaa
set_option linter.unusedVariables false
set_option linter.unusedSimpArgs false
open Go Go.RowKit

theorem Own.keepG {B B0 : Nat} {w w' : World} {u v : Value} {xs : List Int} {yss : List (List Int)} (h : Own B w u xs) (hv : OwnRows B0 w v yss) (k : Keep (fun b => v.ownBlock = some b) w w') : Own B w' u xs := by
  obtain ⟨us', h3, h4⟩ := hv
  have hr : RowVals B w [u] [xs] := ⟨rfl, fun i hi hi' => by
    have : i = 0 := by simp at hi; omega
    subst this
    exact h, by simp⟩
  exact (rowvals_keepT hr h3 k).own 0 (by simp) (by simp)
set_option maxRecDepth 100000 in
set_option maxHeartbeats 4000000 in
theorem c_l01Group (n : Nat) (v : Value) (L : List (List Int)) (w : World) (hx : Rows w v L) (hn0 : 1 ≤ n) (hn : n ≤ 12) (hL : L.length ≤ 16) (hs : SysOk n L) :
    Calls Try.prog 66 #[.int .i64 n, v, .int .i64 1000] w (RGrp n L w) := by
  obtain ⟨la, lc, rfl, -, -⟩ := hx.shape
  have HS := Lib.hid hs; have HX := Lib.hid hx
  clear hs hx
  go_enter Try.func66, Try.ntmps66
  go_wp2_with fail
  refine (c_l01Unit n _ (by omega)).mono ?_; rintro e w1 ⟨r1, rfl, ho1, hb1⟩
  obtain ⟨ra1, rc1, rfl, -⟩ := ho1.shape
  have HG1 := Lib.hid (one_row ho1 hb1)
  have HB1 := Lib.hid (bb hb1 ((Below.refl w1.heap.size w1).alloc (Nat.le_refl _) (.cells #[.slice ra1 (iota n).length rc1] 27)))
  rw [iota_length] at HG1 HB1 ⊢
  have hsz1 : w1.heap.size < (w1.alloc (.cells #[.slice ra1 n rc1] 27)).heap.size := by simp
  clear ho1 hb1
  obtain ⟨V, hV⟩ : ∃ V, (w1.alloc (.cells #[.slice ra1 n rc1] 27)) = V := ⟨_, rfl⟩
  rw [hV] at HG1 HB1 hsz1
  go_wp2_with fail
  clear hV
  refine (c_l01Unit n _ (by omega)).mono ?_; rintro e w2 ⟨r2, rfl, ho2, hb2⟩
  obtain ⟨ra2, rc2, rfl, -⟩ := ho2.shape
  have HG2 := Lib.hid (one_row ho2 hb2)
  have hb3 := bb hb2 ((Below.refl w2.heap.size w2).alloc (Nat.le_refl _) (.cells #[.slice ra2 (iota n).length rc2] 27))
  have hne : w1.heap.size ≠ w2.heap.size := by have := hb2.size; omega
  have HF1 := Lib.hid (HG1.out.under hb3)
  have HB2 := Lib.hid (bb HB1.out hb3)
  have HF2 := Lib.hid (HG2.out.mono HB1.out.size)
  rw [iota_length] at HF1 HB2 HF2 ⊢
  clear ho2 hb2 hb3 HG1 HB1 HG2
  go_wp2
  go_loopw [8, 9, 10, 11, 12, 13, 14] (fun f s i _ _ _ _ wr => ∃ (k : Nat) (F S : List (List Int)) (fg sg : Nat) (fc sc : Nat), i = .int .i64 k ∧ f = .slice (some ⟨fg, 0, none⟩) F.length fc ∧ s = .slice (some ⟨sg, 0, none⟩) S.length sc ∧ fg ≠ sg ∧ k ≤ F.length ∧ F.length ≤ 1000 ∧ Hid (F = gAt n L (k * L.length)) ∧ Hid (AscR S ∧ S.Perm F) ∧ Hid (OwnRows w.heap.size wr (.slice (some ⟨fg, 0, none⟩) F.length fc) F) ∧ Hid (OwnRows w.heap.size wr (.slice (some ⟨sg, 0, none⟩) S.length sc) S) ∧ Hid (Below w.heap.size w wr)) (fun _ _ i _ _ _ _ _ => 1001 - (intOf i).toNat)
  case atStart => exact ⟨0, [iota n], [iota n], _, _, _, _, rfl, rfl, rfl, hne, by simp, by simp, Lib.hid (by rw [Nat.zero_mul]; rfl), Lib.hid ⟨by simp [AscR], List.Perm.refl _⟩, HF1, HF2, HB2⟩
  case round =>
    clear HF1 HF2 HB2 hne hsz1
    obtain ⟨k, F, S, fg, sg, fc, sc, rfl, rfl, rfl, hfs, hk, hF, HGe, HA, HOF, HOS, HB⟩ := hrel
    obtain ⟨wo, rfl⟩ : ∃ wo : World, wo = wr := ⟨_, rfl⟩
    by_cases hlt : k < F.length
    · go_wp2
      go_loopw [8, 9, 11, 12, 13, 14] (fun f s x _ _ _ wr => ∃ (j : Nat) (F S : List (List Int)) (fg sg : Nat) (fc sc : Nat), x = .int .i64 j ∧ j ≤ L.length ∧ f = .slice (some ⟨fg, 0, none⟩) F.length fc ∧ s = .slice (some ⟨sg, 0, none⟩) S.length sc ∧ fg ≠ sg ∧ k < F.length ∧ F.length ≤ 1000 ∧ Hid (F = gAt n L (k * L.length + j)) ∧ Hid (AscR S ∧ S.Perm F) ∧ Hid (OwnRows w.heap.size wr (.slice (some ⟨fg, 0, none⟩) F.length fc) F) ∧ Hid (OwnRows w.heap.size wr (.slice (some ⟨sg, 0, none⟩) S.length sc) S) ∧ Hid (Below w.heap.size w wr)) (fun _ _ x _ _ _ _ => L.length - (intOf x).toNat)
      case atStart => exact ⟨0, F, S, _, _, _, _, rfl, Nat.zero_le _, rfl, rfl, hfs, hlt, hF, HGe, HA, HOF, HOS, HB⟩
      case round =>
        clear HGe HA HOF HOS HB hF hlt hk hfs
        obtain ⟨j, F, S, fg, sg, fc, sc, rfl, hj, rfl, rfl, hfs, hkF, hF, HGe, HA, HOF, HOS, HB⟩ := hrel
        obtain ⟨wo, rfl⟩ : ∃ wo : World, wo = wr := ⟨_, rfl⟩
        by_cases hlt : j < L.length
        · obtain ⟨b, o, xa, xc, rfl, hcell, hu⟩ := (HX.out.below HB.out).getS j hlt
          obtain ⟨b2, o2, ya, yc, e2, hcell2, hu2⟩ := HOF.out.rows.getS k hkF
          injection e2 with e2; injection e2 with e2 e3
          subst e2 e3
          rw [Nat.zero_add] at hcell2
          have hgr := gAt_gr HS.out (k * L.length + j)
          rw [← HGe.out] at hgr
          have hpk := hgr.perm _ (row_mem (x := (k : Int)) (by omega) (by omega))
          have hpj := HS.out _ (row_mem (t := L) (x := (j : Int)) (by omega) (by omega))
          have hin : ∀ x ∈ row F k, 0 ≤ x ∧ x < (row L j).length := fun x hx => by have := hpk.1.2 x hx; omega
          have HIn := Lib.hid hin
          have HLk := Lib.hid (show (row F k).length ≤ 1048576 by omega)
          have HU := Lib.hid hu; have HU2 := Lib.hid hu2
          have HNx := Lib.hid (gAt_next (n := n) (L := L) (i := k) (k := j) hlt (by rw [← HGe.out]; exact hkF))
          rw [← HGe.out] at HNx
          have hsz2 : w.heap.size ≤ wo.heap.size := HB.out.size
          have hfl : fg < wo.heap.size := (OwnRows.lt HOF.out rfl).2
          clear hgr hpk hpj hin hu hu2
          go_wp2
          go_region_held3 (fun w' => w'.cell? ⟨fg, k, none⟩ = some (.slice ya (row F k).length yc) ∧ w'.cell? ⟨b, o + j, none⟩ = some (.slice xa (row L j).length xc)) (first | go_keep | exact ⟨hcell2, hcell⟩ | exact ⟨cell_under HX1.out hcell2, cell_under HX1.out hcell⟩)
            ((go_at_call 100; (with_reducible refine (c_l01Then _ _ (row F k) (row L j) _ (HU2.out.below (Below.refl _ _).drew) (HU.out.below (Below.refl _ _).drew) HIn.out HLk.out).mono ?_); rintro e w1 ⟨r1, rfl, ho1, hb1⟩; obtain ⟨qa, qc, hv1, -⟩ := ho1.shape; subst hv1; have HO1 := Lib.hid ho1; have HX1 := Lib.hid (bb (Below.refl wo.heap.size wo).drew hb1); clear ho1 hb1))
          have hlen : (thenL (row F k) (row L j)).length = (row F k).length := by simp
          obtain ⟨p, hp⟩ : ∃ p, thenL (row F k) (row L j) = p := ⟨_, rfl⟩
          rw [hp] at HO1 hlen HNx
          have HOp : Hid (Own wo.heap.size w1 (.slice qa (row F k).length qc) p) := Lib.hid (by have := HO1.out; rw [hlen] at this; exact this)
          have hsz3 : wo.heap.size ≤ w1.heap.size := HX1.out.size
          have HSi := Lib.hid (HOS.out.inn.under HX1.out)
          have hSl : S.length ≤ 1048576 := by have := HA.out.2.length_eq; omega
          have hgS : sg < wo.heap.size := (OwnRows.lt HOS.out rfl).2
          clear HO1 hcell hcell2 HU HU2 HIn HLk
          go_wp2_with fail
          refine (c_l01Put w.heap.size wo.heap.size _ _ S p w1 HSi.out HA.out.1 HOp.out hSl hsz2 (by omega)).mono ?_; rintro e w2' hq
          rcases hq with ⟨hm, rfl, hb⟩ | ⟨hm, g, c, T, rfl, hT, hTa, hTp, hk, hg⟩
          · have HB2 := Lib.hid (bb HX1.out hb)
            have HM := Lib.hid (HA.out.2.mem_iff.1 hm)
            clear hb hm HSi HOp
            go_wp2
            go_roundw
            case rel => exact ⟨j + 1, F, S, fg, sg, fc, sc, by go_num, by omega, rfl, rfl, hfs, hkF, hF, Lib.hid (by have := HNx.out; unfold gStep at this; rw [if_pos HM.out] at this; rw [← Nat.add_assoc]; exact this.symm), HA, Lib.hid (HOF.out.under HB2.out), Lib.hid (HOS.out.under HB2.out), Lib.hid (bb HB.out HB2.out)⟩
            case measure => simp [intOf]; omega
          · have HM := Lib.hid (show gAt n L (k * L.length + j + 1) = F ++ [p] by have := HNx.out; unfold gStep at this; rw [if_neg (fun h => hm (HA.out.2.mem_iff.2 h))] at this; exact this)
            have HOF2 := Lib.hid (OwnRowsIn.keepT (HOF.out.inn.under HX1.out) HSi.out.out (fun b h1 h2 => by injection h1 with h1; injection h2 with h2; exact hfs (h1.trans h2.symm)) hk)
            have HOp2 := Lib.hid (HOp.out.keepG HSi.out.out hk)
            have hsz4 : w1.heap.size ≤ w2'.heap.size := hk.size
            have hgl : g < w2'.heap.size := (OwnRows.lt hT rfl).2
            have hgf : g ≠ fg := by
              rcases hg with h | h
              · injection h with h; intro e; exact hfs (by rw [← e]; exact h.symm)
              · omega
            have HT := Lib.hid (And.intro hT (And.intro hTa hTp)); have HBk := Lib.hid (OwnRows.frame HOS.out (bb HB.out HX1.out) (Nat.le_refl _) (by omega) hk)
            have hTl : T.length = S.length + 1 := by have := hTp.length_eq; simpa using this
            clear hm hT hTa hTp hk hg HSi HOp
            by_cases hfull : 1000 ≤ F.length
            · go_wp2_with (at_builtin; refine wpList_app_row2 w.heap.size wo.heap.size w2' _ F _ p _ _ rfl rfl rfl HOF2.out HOp2.out rfl (by omega) hsz2 (by omega) ?_; intro g3 c3 w3 ho3 hk3 hg3; have HB3 := Lib.hid (OwnRows.frame HOF.out HBk.out (Nat.le_refl _) (by omega) hk3); clear ho3 hk3 hg3)
              go_ret2
              have hov := g_over (n := n) (L := L) (t := k * L.length + j + 1) (by rw [HM.out]; simp; omega) (by have := Nat.mul_le_mul_right L.length (show k + 1 ≤ 1000 by omega); rw [Nat.add_mul] at this; omega)
              exact ⟨.slice none 0 0, [], by rw [hov]; rfl, OwnRows.nil _ _, (fun e => by rw [hov] at e; cases e), HB3.out⟩
            · go_wp2_with (at_builtin; refine wpList_app_row2 w.heap.size wo.heap.size w2' _ F _ p _ _ rfl rfl rfl HOF2.out HOp2.out rfl (by omega) hsz2 (by omega) ?_; intro g3 c3 w3 ho3 hk3 hg3; have HB3 := Lib.hid (OwnRows.frame HOF.out HBk.out (Nat.le_refl _) (by omega) hk3); have HF3 := Lib.hid ho3; have HT3 := Lib.hid (HT.out.1.keepT HOF2.out.out (fun b h1 h2 => by injection h1 with h1; injection h2 with h2; exact hgf (h1.trans h2.symm)) hk3); have hne3 : g3 ≠ g := (by rcases hg3 with h | h; (· injection h with h; intro e; exact hgf (by rw [← e]; exact h.symm)); (· omega)); clear ho3 hk3 hg3)
              go_roundw
              case rel => exact ⟨j + 1, F ++ [p], T, g3, g, c3, c, by go_num, by omega, by simp, by rw [hTl], hne3, by rw [List.length_append, List.length_singleton]; omega, by rw [List.length_append, List.length_singleton]; omega, Lib.hid (by rw [← Nat.add_assoc]; exact HM.out.symm), Lib.hid ⟨HT.out.2.1, HT.out.2.2.trans (HA.out.2.append_right _)⟩, Lib.hid (by simpa using HF3.out), Lib.hid (by rw [hTl]; exact HT3.out), HB3⟩
              case measure => simp [intOf]; omega
        · obtain rfl : j = L.length := by omega
          clear HX
          go_wp2_with fail
          go_roundw
          case rel => exact ⟨k + 1, F, S, _, _, _, _, by go_num, rfl, rfl, hfs, hkF, hF, Lib.hid (by rw [Nat.add_mul, Nat.one_mul]; exact HGe.out), HA, HOF, HOS, HB⟩
          case measure => simp [intOf]; omega
    · obtain rfl : k = F.length := by omega
      obtain ⟨hok, hall⟩ := g_ok (n := n) (L := L) (i := F.length) (by rw [← HGe.out]) hF
      rw [← HGe.out] at hall
      have hg := gAt_gr HS.out (F.length * L.length)
      rw [← HGe.out] at hg
      have HOk := Lib.hid hok
      have HSe := Lib.hid (gSort_is hg.nodup HA.out.2 HA.out.1)
      rw [← hall] at HSe
      have hSl : S.length ≤ 1048576 := by have := HA.out.2.length_eq; omega
      have HSr := Lib.hid (show ∀ r ∈ S, r.length ≤ 1048576 from fun r hr => by have := (hg.perm r (HA.out.2.mem_iff.1 hr)).2; omega)
      clear hok hall hg HX
      go_wp2_with fail
      refine (c_l01Own2 _ S _ HOS.out.rows hSl HSr.out).mono ?_; rintro e w2 ⟨r, rfl, hs2, hb2⟩
      have HS2 := Lib.hid (hs2.mono HB.out.size); have HB2 := Lib.hid (bb HB.out hb2)
      clear hs2 hb2
      go_wp2
      go_ret2
      exact ⟨_, S, by rw [HOk.out]; rfl, HS2.out, fun _ => HSe.out, HB2.out⟩
end Go.Proofs.Ytkghonhghbcdlaa
