/-
  The elements of a group: the program's function.
-/
import Derived.Test.YtkghonhghbcdlaaG4
import Derived.Test.YtkghonhghbcdlaaI5
import Derived.Test.YtkghonhghbcdlaaI1d
import Derived.Test.YtkghonhghbcdlaaI4
import Derived.Test.YtkghonhghbcdlaaI15
namespace Go.Proofs.Ytkghonhghbcdlaa
set_option linter.unusedVariables false
set_option linter.unusedSimpArgs false
open Go Go.RowKit

theorem one_row {w w1 : World} {u : Value} {xs : List Int} (hu : Own w.heap.size w1 u xs) (hb : Below w.heap.size w w1) : OwnRows w.heap.size (w1.alloc (.cells #[u] 27)) (.slice (some ⟨w1.heap.size, 0, none⟩) 1 1) [xs] := by
  have hu' := hu.under ((Below.refl w1.heap.size w1).alloc (Nat.le_refl _) (.cells #[u] 27))
  refine ⟨[u], ownsRow_blk (Blk.new w1 [u] 27) hb.size rfl rfl (by unfold maxLen; simp), ⟨rfl, fun i hi hi' => ?_, by simp⟩⟩
  have : i = 0 := by simp at hi; omega
  subst this
  exact hu'
theorem eg_groupElements1 : ∀ args w, (callFunc 109 args).run Try.prog w = .ok (.enter 109 args) w := Go.Proofs.enters_of Try.func109 (by kernel_rfl) rfl
set_option maxHeartbeats 400000 in
theorem c_groupElements1 (b : Nat) (own : List Int) (u o : Value) (r : List Int) (w : World) (hbox : w.cell? ⟨b, 0, none⟩ = some o) (ho : Ints w o own) (hu : Ints w u r) :
    Calls Try.prog 109 #[u, .pointer (some ⟨b, 0, none⟩)] w (RVal w (.bool (decide (r = own)))) := by
  obtain ⟨oa, oc, rfl, -, -⟩ := ho.shape
  obtain ⟨ua, uc, rfl, -, -⟩ := hu.shape
  have HO := Lib.hid ho; have HU := Lib.hid hu
  clear ho hu
  go_enter Try.func109, Try.ntmps109
  go_wp2_with fail
  refine (c_slicesEqual _ _ _ _ _ HU.out HO.out).mono ?_; rintro e w1 hq
  obtain ⟨he, hb⟩ := hq.r
  subst he
  have HB := Lib.hid hb
  clear hb hq
  go_wp2
  go_ret
  exact ⟨rfl, HB.out⟩
/-- What the group's function leaves. -/
def RGrp (n : Nat) (L : List (List Int)) (w : World) (e : Ending) (w' : World) : Prop :=
  ∃ r X, e = .returned (.tuple #[r, .bool (gOk n L)]) ∧ OwnRows w.heap.size w' r X ∧ (gOk n L = true → X = gSort (gAll n L)) ∧ Below w.heap.size w w'
theorem any_own {G : List (List Int)} {own : List Int} : (G.any fun r => decide (r = own)) = decide (own ∈ G) := by
  rw [Bool.eq_iff_iff, List.any_eq_true]
  simp only [decide_eq_true_eq]
  exact ⟨fun ⟨x, hx, e⟩ => e ▸ hx, fun h => ⟨own, h, rfl⟩⟩
set_option maxRecDepth 100000 in
set_option maxHeartbeats 4000000 in
theorem c_groupElements (n : Nat) (v : Value) (L : List (List Int)) (w : World) (hx : Rows w v L) (hn0 : 1 ≤ n) (hn : n ≤ 12) (hL : L.length ≤ 16) (hs : SysOk n L) :
    Calls Try.prog 69 #[.int .i64 n, v] w (RGrp n L w) := by
  obtain ⟨la, lc, rfl, -, -⟩ := hx.shape
  have HS := Lib.hid hs; have HX := Lib.hid hx
  clear hs hx
  go_enter Try.func69, Try.ntmps69
  go_wp2_with fail
  refine (c_identity n _ (by omega)).mono ?_; rintro e w1 ⟨r1, rfl, ho1, hb1⟩
  obtain ⟨ra1, rc1, rfl, -⟩ := ho1.shape
  have HG1 := Lib.hid (one_row ho1 hb1)
  have HB1 := Lib.hid (bb hb1 ((Below.refl w1.heap.size w1).alloc (Nat.le_refl _) (.cells #[.slice ra1 (iota n).length rc1] 27)))
  rw [iota_length] at HG1 HB1 ⊢
  clear ho1 hb1
  go_wp2
  go_loopw [6, 7, 9, 10] (fun g i _ _ wr => ∃ (k : Nat) (G : List (List Int)) (ra : Option Addr) (rc : Nat), i = .int .i64 k ∧ g = .slice ra G.length rc ∧ k ≤ G.length ∧ G.length ≤ 1000 ∧ Hid (G = gAt n L (k * L.length)) ∧ Hid (OwnRows w.heap.size wr (.slice ra G.length rc) G) ∧ Hid (Below w.heap.size w wr)) (fun _ i _ _ _ => 1001 - (intOf i).toNat)
  case atStart => exact ⟨0, [iota n], _, _, rfl, rfl, by simp, by simp, Lib.hid (by rw [Nat.zero_mul]; rfl), HG1, HB1⟩
  case round =>
    clear HG1 HB1
    obtain ⟨k, G, ra, rc, rfl, rfl, hk, hG, HGe, HO, HB⟩ := hrel
    obtain ⟨wo, rfl⟩ : ∃ wo : World, wo = wr := ⟨_, rfl⟩
    by_cases hlt : k < G.length
    · go_wp2
      go_loopw [22, 6, 9, 10] (fun x g _ _ wr => ∃ (j : Nat) (G : List (List Int)) (ra : Option Addr) (rc : Nat), x = .int .i64 j ∧ j ≤ L.length ∧ g = .slice ra G.length rc ∧ k < G.length ∧ G.length ≤ 1000 ∧ Hid (G = gAt n L (k * L.length + j)) ∧ Hid (OwnRows w.heap.size wr (.slice ra G.length rc) G) ∧ Hid (Below w.heap.size w wr)) (fun x _ _ _ _ => L.length - (intOf x).toNat)
      case atStart => exact ⟨0, G, _, _, rfl, Nat.zero_le _, rfl, hlt, hG, HGe, HO, HB⟩
      case round =>
        clear HGe HO HB hG hlt hk
        obtain ⟨j, G, ra, rc, rfl, hj, rfl, hkG, hG, HGe, HO, HB⟩ := hrel
        obtain ⟨wo, rfl⟩ : ∃ wo : World, wo = wr := ⟨_, rfl⟩
        by_cases hlt : j < L.length
        · obtain ⟨b, o, xa, xc, rfl, hcell, hu⟩ := (HX.out.below HB.out).getS j hlt
          obtain ⟨b2, o2, ya, yc, rfl, hcell2, hu2⟩ := HO.out.rows.getS k hkG
          have hgr := gAt_gr HS.out (k * L.length + j)
          rw [← HGe.out] at hgr
          have hpk := hgr.perm _ (row_mem (x := (k : Int)) (by omega) (by omega))
          have hpj := HS.out _ (row_mem (t := L) (x := (j : Int)) (by omega) (by omega))
          have hin : ∀ x ∈ row G k, 0 ≤ x ∧ x < (row L j).length := fun x hx => by have := hpk.1.2 x hx; omega
          have HIn := Lib.hid hin
          have HLk := Lib.hid (show (row G k).length ≤ 1048576 by omega)
          have HU := Lib.hid hu; have HU2 := Lib.hid hu2
          clear hgr hpk hpj hin hu hu2
          go_wp2_with fail
          refine (c_then _ _ _ _ _ HU2.out HU.out HIn.out HLk.out).mono ?_; rintro e w1 ⟨r1, rfl, ho1, hb1⟩
          obtain ⟨qa, qc, rfl, -⟩ := ho1.shape
          have HO1 := Lib.hid ho1; have HB1 := Lib.hid hb1
          clear ho1 hb1
          have hlen : (thenL (row G k) (row L j)).length = (row G k).length := by simp
          obtain ⟨own, how⟩ : ∃ own, thenL (row G k) (row L j) = own := ⟨_, rfl⟩
          rw [how] at HO1 hlen
          obtain ⟨hblk0, hb0, hsz0⟩ := boxes1' w1 [.slice qa (row G k).length qc] 27
          have HBV := Lib.hid (bb HB1.out ((Below.refl w1.heap.size w1).alloc (Nat.le_refl _) (.cells #[.slice qa (row G k).length qc] 27)))
          have HF := Lib.hid hblk0
          have HOV := Lib.hid (HO1.out.under hb0)
          have HGV := Lib.hid (HO.out.under HBV.out)
          have hsz1 : w1.heap.size < (w1.alloc (.cells #[.slice qa (row G k).length qc] 27)).heap.size := by rw [show (w1.alloc (.cells #[.slice qa (row G k).length qc] 27)).heap.size = w1.heap.size + 1 from hsz0]; omega
          have hsz2 : w.heap.size ≤ wo.heap.size := HB.out.size
          have hsz3 : wo.heap.size ≤ w1.heap.size := HB1.out.size
          have HNx := Lib.hid (gAt_next (n := n) (L := L) (i := k) (k := j) hlt (by rw [← HGe.out]; exact hkG))
          rw [← HGe.out, how] at HNx
          clear hblk0 hb0 hsz0 HU HU2 HIn HLk HO1 HB1
          obtain ⟨V, hV⟩ : ∃ V, (w1.alloc (.cells #[.slice qa (row G k).length qc] 27)) = V := ⟨_, rfl⟩
          have hF : Blk V w1.heap.size 27 [.slice qa (row G k).length qc] := by rw [← hV]; exact HF.out
          rw [hV] at HBV HOV HGV hsz1
          clear HF
          go_wp2_with fail
          clear hV
          have HP : Hid (Pays V 109 #[.pointer (some ⟨w1.heap.size, 0, none⟩)] G (fun r => decide (r = own))) := Lib.hid (fun W u r hbW hu _ => c_groupElements1 _ own _ _ r W ((hF.under hbW).cell (i := 0) (by simp)) (by have := (HOV.out.under hbW).ints; rw [hlen] at this; exact this) hu)
          refine (c_ContainsFunc _ _ _ _ _ _ HGV.out.rows eg_groupElements1 HP.out).mono ?_; rintro e w2 ⟨rfl, hb2⟩
          rw [any_own]
          have HB2 := Lib.hid (bb HBV.out hb2); have hc2 := (hF.under hb2).cell (i := 0) (by simp)
          have HO2 := Lib.hid (HOV.out.under hb2)
          rw [hlen] at HO2
          have hc2 : w2.cell? ⟨w1.heap.size, 0, none⟩ = some (.slice qa (row G k).length qc) := hc2
          clear hb2 HP hF HOV HGV HBV hsz1
          by_cases hm : own ∈ G
          · have HM := Lib.hid hm
            rw [decide_eq_true hm]; clear hm hc2 HO2
            go_wp2
            go_roundw
            case rel => exact ⟨j + 1, G, _, _, by go_num, by omega, rfl, hkG, hG, Lib.hid (by have := HNx.out; unfold gStep at this; rw [if_pos HM.out] at this; rw [← Nat.add_assoc]; exact this.symm), Lib.hid (HO.out.under HB2.out), Lib.hid (bb HB.out HB2.out)⟩
            case measure => simp [intOf]; omega
          · have HM := Lib.hid (show gAt n L (k * L.length + j + 1) = G ++ [own] by have := HNx.out; unfold gStep at this; rw [if_neg hm] at this; exact this)
            rw [decide_eq_false hm]; clear hm
            by_cases hfull : G.length = 1000
            · clear hc2 HO2
              go_wp2
              go_ret2
              have hov := g_over (n := n) (L := L) (t := k * L.length + j + 1) (by rw [HM.out]; simp; omega) (by have := Nat.mul_le_mul_right L.length (show k + 1 ≤ 1000 by omega); rw [Nat.add_mul] at this; omega)
              exact ⟨.slice none 0 0, [], by rw [hov]; rfl, OwnRows.nil _ _, (fun e => by rw [hov] at e; cases e), bb HB.out HB2.out⟩
            · go_wp2_with (at_builtin; refine wpList_app_row w.heap.size wo w2 _ G _ own _ _ rfl rfl rfl HO.out HB2.out HO2.out rfl (by omega) hsz2 ?_; intro a' c' w' hown' hkeep; have Hk := Lib.hid hkeep; have Ho' := Lib.hid hown'; clear hkeep hown')
              go_roundw
              case rel => exact ⟨j + 1, G ++ [own], a', c', by go_num, by omega, by simp, by simp; omega, by simp; omega, Lib.hid (by rw [← Nat.add_assoc]; exact HM.out.symm), Lib.hid (by simpa using Ho'.out), Lib.hid (OwnRows.frame HO.out (bb HB.out HB2.out) (Nat.le_refl _) (by have := HB2.out.size; omega) Hk.out)⟩
              case measure => simp [intOf]; omega
        · obtain rfl : j = L.length := by omega
          clear HX
          go_wp2_with fail
          go_roundw
          case rel => exact ⟨k + 1, G, _, _, by go_num, rfl, hkG, hG, Lib.hid (by rw [Nat.add_mul, Nat.one_mul]; exact HGe.out), HO, HB⟩
          case measure => simp [intOf]; omega
    · obtain rfl : k = G.length := by omega
      obtain ⟨hok, hall⟩ := g_ok (n := n) (L := L) (i := G.length) (by rw [← HGe.out]) hG
      rw [← HGe.out] at hall
      have hg := gAt_gr HS.out (G.length * L.length)
      have hp := gAt_pos n L (G.length * L.length)
      rw [← HGe.out] at hg hp
      have HOk := Lib.hid hok; have HAll := Lib.hid hall; have HNd := Lib.hid hg.nodup
      clear hok hall hg HX
      go_wp2_with fail
      refine (c_SortRows w.heap.size wo ra rc G HO.out HNd.out hp (by omega)).mono ?_; rintro e w2 ⟨rfl, hs2, hb2⟩
      have HS2 := Lib.hid hs2; have HB2 := Lib.hid hb2
      clear hs2 hb2
      go_wp2
      go_ret2
      exact ⟨_, gSort G, by rw [HOk.out]; rfl, HS2.out, fun _ => by rw [HAll.out], HB.out.trans HB2.out⟩
end Go.Proofs.Ytkghonhghbcdlaa
