/-
  The law FnExactIsLatinRack answers true, and leaves what was there as it was: at every list of lists of integers.
-/
import Derived.Test.YtdhbleiioagmlaaI8
import Derived.Test.YtdhbleiioagmlaaLawD
import Derived.Test.YtdhbleiioagmlaaT1
namespace Go.Proofs.Ytdhbleiioagmlaa
open Go.RowKit

def rkCodeL (T : List (List Int)) : Int := if isRk T then 0 else 1
def lrRes (T : List (List Int)) : Bool := if isRk T then permRows (transL T) else false

set_option maxRecDepth 100000 in
set_option maxHeartbeats 800000 in
theorem c_l03Latin (v0 : Value) (T : List (List Int)) (w : World) (hT : Rows w v0 T) (hp : isTab T = true) :
    Calls Try.prog 72 #[v0] w (RVal w (.bool (permRows (transL T)))) := by
  obtain ⟨n0, b0, o0, c0, rb0, ro0, rc0, rfl, hl0, hn0, hx0, hc0, hm0, t0⟩ := hT.tab hp
  have HL0 := Lib.hid hl0; clear hl0
  go_enter Try.func72, Try.ntmps72
  go_wp2
  have HT := Lib.hid t0
  clear t0 hT hp
  go_loopw [3, 4, 5] (fun i _ _ wr => ∃ k : Nat, k ≤ n0 ∧ i = .int .i64 k ∧ Hid (Below w.heap.size w wr) ∧ Hid (∀ x, x < k → isPerm (colL T (x : Nat)) = true)) (fun i _ _ _ => n0 - (intOf i).toNat)
  case atStart => exact ⟨0, Nat.zero_le _, rfl, Lib.hid (Below.refl _ _), Lib.hid (by intro x hx; omega)⟩
  case round =>
    obtain ⟨k, hk, rfl, HB1, HA⟩ := hrel
    obtain ⟨wo, rfl⟩ : ∃ wo : World, wo = wr := ⟨_, rfl⟩
    by_cases hlt : k < n0
    · have hk0 : (0 : Int) ≤ k := by omega
      have hk1 : (k : Int) < n0 := by omega
      have hcl : (colL T k).length = n0 := by simp [colL, HL0.out]
      have HCL := Lib.hid hcl; clear hcl
      go_wp2
      go_loopw [4, 5] (fun s i wr => ∃ (j : Nat) (sa : Option Addr) (sc : Nat), j ≤ n0 ∧ i = .int .i64 j ∧ s = .slice sa j sc ∧ Below wo.heap.size wo wr ∧ Own wo.heap.size wr (.slice sa j sc) ((colL T k).take j)) (fun _ i _ => n0 - (intOf i).toNat)
      case atStart => exact ⟨0, _, _, Nat.zero_le _, rfl, rfl, (Below.refl _ _).alloc (Nat.le_refl _) _, Own.made0 wo (Nat.le_refl _)⟩
      case round =>
        obtain ⟨j, sa, sc, hj, rfl, rfl, hb, hown⟩ := hrel
        have hlen : ((colL T k).take j).length = j := by simp [HCL.out]; omega
        by_cases hlj : j < n0
        · have T' := (HT.out.below HB1.out).below hb
          have r1 := T'.row j hlj; have v1 := T'.val j k hlj hlt
          have Hb := Lib.hid hb; have Ho := Lib.hid hown; have Hl := Lib.hid hlen; have Hs := Lib.hid hb.size; clear hb hown hlen T'
          go_wp2_with (at_builtin; refine wpList_app_int wo.heap.size wr _ ((colL T k).take j) (val2 T j k) _ _ rfl rfl rfl Ho.out rfl (by rw [Hl.out]; omega) Hs.out ?_; intro a' c' w' hown' hkeep; rw [Hl.out]; have Hk := Lib.hid hkeep; have Ho' := Lib.hid hown'; clear hkeep hown')
          go_roundw
          case rel =>
            have h1 := Ho'.out
            have e : (colL T k).take (j+1) = (colL T k).take j ++ [val2 T j k] := by
              rw [take_snoc _ _ (by rw [HCL.out]; exact hlj)]
              congr 2
              unfold colL; rw [HL0.out]
              exact nth_rowOf _ _ _ hlj
            rw [Hl.out, ← e] at h1
            exact ⟨j + 1, a', c', by omega, by go_num, rfl, Ho.out.frame Hb.out (Nat.le_refl _) Hs.out Hk.out, h1⟩
          case measure => simp [intOf]; omega
        · obtain rfl : j = n0 := by omega
          have hfull : Ints wr (.slice sa j sc) (colL T k) := by
            have h := hown.ints
            rwa [List.take_of_length_le (by rw [HCL.out]; exact Nat.le_refl _)] at h
          have HI := Lib.hid hfull; have Hb := Lib.hid (bb HB1.out hb); clear hb hown hlen hfull
          by_cases hp : isPerm (colL T k) = true
          · have HP := Lib.hid hp
            go_wp2_with fail
            refine (c_l01Perm _ _ _ HI.out).mono ?_; rintro e w' ⟨rfl, rfl⟩
            go_wp2
            go_roundw
            case rel => exact ⟨k + 1, by omega, by go_num, Hb, Lib.hid (lt_snoc HA.out HP.out)⟩
            case measure => simp [intOf]; omega
          · have hp' : isPerm (colL T k) = false := by simpa using hp
            have HP := Lib.hid hp'; clear hp
            go_wp2_with fail
            refine (c_l01Perm _ _ _ HI.out).mono ?_; rintro e w' ⟨rfl, rfl⟩
            go_wp2
            go_ret
            refine ⟨ret_bool (Eq.symm ?_), Hb.out⟩
            have hm := row_mem (t := transL T) (x := k) (by omega) (by simp [HL0.out]; omega)
            rw [transL_row T k (by rw [HL0.out]; exact hlt)] at hm
            exact List.all_eq_false.2 ⟨_, hm, by rw [HP.out]; simp⟩
    · obtain rfl : k = n0 := by omega
      go_wp2
      go_ret
      refine ⟨ret_bool (Eq.symm ?_), HB1.out⟩
      refine List.all_eq_true.2 fun r hr => ?_
      obtain ⟨x, hx, rfl⟩ := List.getElem_of_mem hr
      have hx' : x < T.length := by simpa using hx
      rw [← row_nat _ _ hx, transL_row T x hx']
      exact HA.out x (by rw [← HL0.out]; exact hx')

set_option maxRecDepth 100000 in
set_option maxHeartbeats 800000 in
theorem c_IsLatinRack (v0 : Value) (T : List (List Int)) (w : World) (hT : Rows w v0 T)  :
    Calls Try.prog 37 #[.agg #[v0]] w (RVal w (.tuple #[.bool (lrRes T), .int .i64 (rkCodeL T)])) := by
  by_cases hp0 : isRk T = true
  case neg =>
    have hq0 : isRk T = false := by simpa using hp0
    have HQ := Lib.hid hq0; clear hp0
    obtain ⟨a0, c0, rfl, _, _⟩ := hT.shape
    go_enter Try.func37, Try.ntmps37
    go_wp2_with fail
    obtain ⟨f0, hW0, hsz⟩ := boxes1 w [.slice a0 T.length c0] 45
    obtain ⟨W0, hW⟩ : ∃ W, (w.alloc (.cells #[.slice a0 T.length c0] 45)) = W := ⟨_, rfl⟩
    rw [hW] at f0 hW0 hsz ⊢
    clear hW hsz
    refine (c_IsRack _ _ _ (hT.below hW0)).mono ?_; rintro e g0 ⟨rfl, hbg0⟩
    have hB0 := bb hW0 hbg0
    replace f0 := f0.under hbg0
    have cA0 := one_cell f0
    clear hbg0
    have HB := Lib.hid hB0
    clear hB0 hW0
    go_wp2
    go_ret2
    exact ⟨by simp [lrRes, rkCodeL, HQ.out], HB.out⟩
  have HP0 := Lib.hid hp0
  obtain ⟨a0, c0, rfl, _, _⟩ := hT.shape
  go_enter Try.func37, Try.ntmps37
  go_wp2_with fail
  obtain ⟨f0, hW0, hsz⟩ := boxes1 w [.slice a0 T.length c0] 45
  obtain ⟨W0, hW⟩ : ∃ W, (w.alloc (.cells #[.slice a0 T.length c0] 45)) = W := ⟨_, rfl⟩
  rw [hW] at f0 hW0 hsz ⊢
  clear hW hsz
  refine (c_IsRack _ _ _ (hT.below hW0)).mono ?_; rintro e g0 ⟨rfl, hbg0⟩
  have hB0 := bb hW0 hbg0
  replace f0 := f0.under hbg0
  have cA0 := one_cell f0
  clear hbg0
  have ht := isRk_tab HP0.out
  have HT := Lib.hid ht; clear ht
  go_wp2_with fail
  refine (c_transposed _ _ _ (hT.below hB0) (isTab_sq HT.out)).mono ?_; rintro e w2 ⟨r, rfl, ho, hb⟩
  have HR := Lib.hid ho.rows; have HB := Lib.hid (bb hB0 hb); clear ho hb hB0 hW0 f0 hT
  go_wp2_with fail
  refine (c_permutationRows _ _ _ HR.out (isTab_transL HT.out)).mono ?_; rintro e w3 ⟨rfl, hb⟩
  have HB2 := Lib.hid (bb HB.out hb); clear hb
  go_wp2
  go_ret2
  exact ⟨by simp [lrRes, rkCodeL, HP0.out], HB2.out⟩
set_option maxRecDepth 100000 in
set_option maxHeartbeats 800000 in
theorem c_specIsLatinRack (v0 : Value) (T : List (List Int)) (w : World) (hT : Rows w v0 T)  :
    Calls Try.prog 36 #[.agg #[v0]] w (RVal w (.tuple #[.bool (lrRes T), .int .i64 (rkCodeL T)])) := by
  by_cases hp0 : isRk T = true
  case neg =>
    have hq0 : isRk T = false := by simpa using hp0
    have HQ := Lib.hid hq0; clear hp0
    obtain ⟨a0, c0, rfl, _, _⟩ := hT.shape
    go_enter Try.func36, Try.ntmps36
    go_wp2_with fail
    obtain ⟨f0, hW0, hsz⟩ := boxes1 w [.slice a0 T.length c0] 45
    obtain ⟨W0, hW⟩ : ∃ W, (w.alloc (.cells #[.slice a0 T.length c0] 45)) = W := ⟨_, rfl⟩
    rw [hW] at f0 hW0 hsz ⊢
    clear hW hsz
    refine (c_l03Is _ _ _ (hT.below hW0)).mono ?_; rintro e g0 ⟨rfl, hbg0⟩
    have hB0 := bb hW0 hbg0
    replace f0 := f0.under hbg0
    have cA0 := one_cell f0
    clear hbg0
    have HB := Lib.hid hB0
    clear hB0 hW0
    go_wp2
    go_ret2
    exact ⟨by simp [lrRes, rkCodeL, HQ.out], HB.out⟩
  have HP0 := Lib.hid hp0
  obtain ⟨a0, c0, rfl, _, _⟩ := hT.shape
  go_enter Try.func36, Try.ntmps36
  go_wp2_with fail
  obtain ⟨f0, hW0, hsz⟩ := boxes1 w [.slice a0 T.length c0] 45
  obtain ⟨W0, hW⟩ : ∃ W, (w.alloc (.cells #[.slice a0 T.length c0] 45)) = W := ⟨_, rfl⟩
  rw [hW] at f0 hW0 hsz ⊢
  clear hW hsz
  refine (c_l03Is _ _ _ (hT.below hW0)).mono ?_; rintro e g0 ⟨rfl, hbg0⟩
  have hB0 := bb hW0 hbg0
  replace f0 := f0.under hbg0
  have cA0 := one_cell f0
  clear hbg0
  have ht := isRk_tab HP0.out
  have HT := Lib.hid ht; clear ht
  go_wp2_with fail
  refine (c_l03Latin _ _ _ (hT.below hB0) HT.out).mono ?_; rintro e w3 ⟨rfl, hb⟩
  have HB2 := Lib.hid (bb hB0 hb); clear hb hB0 hW0 f0 hT
  go_wp2
  go_ret2
  exact ⟨by simp [lrRes, rkCodeL, HP0.out], HB2.out⟩
set_option maxHeartbeats 4000000 in
theorem law_IsLatinRack (v0 : Value) (x0 : List (List Int)) (w : World) (hx0 : Rows w v0 x0) :
    Calls Try.prog 8 #[.agg #[v0]] w (RVal w (.bool true)) := by
  obtain ⟨a0, c0, rfl, hc0, hm0⟩ := hx0.shape
  go_enter Try.func8, Try.ntmps8
  go_wp2_with fail
  obtain ⟨bx0, BW, hsz0⟩ := boxes1 w [.slice a0 x0.length c0] 42
  obtain ⟨W0, hW0⟩ : ∃ W, (w.alloc (.cells #[.slice a0 x0.length c0] 42)) = W := ⟨_, rfl⟩
  rw [hW0] at bx0 BW hsz0 ⊢
  have hs0 : w.heap.size + 1 ≤ W0.heap.size := by omega
  clear hW0 hsz0
  refine (c_szRack _ _ _ _ (hx0.below BW) (by omega) (by omega)).mono ?_; rintro e w1 ⟨rfl, hb1⟩
  have hs1 := hb1.size
  replace BW := bb BW hb1
  replace bx0 := bx0.under hb1
  have cA0 := bx0.cell (i := 0) (by simp)
  simp only [List.getElem_cons_zero] at cA0
  clear hb1
  by_cases hg0 : leftR x0 (1048576) < 0
  case pos =>
    have HB := Lib.hid BW; clear BW
    go_wp2
    go_ret
    exact ⟨rfl, HB.out⟩
  have hf0 := leftR_fits (left := 1048576) (by omega) (by omega) hg0
  have Hf0 := Lib.hid hf0
  clear hf0
  have hf0 : x0.length ≤ 1048576 ∧ total x0 ≤ 1048576 ∧ 0 ≤ leftR x0 (1048576) ∧ leftR x0 (1048576) ≤ 1048576 := ⟨Hf0.out.1, Hf0.out.2.2⟩
  obtain ⟨R0, hR0⟩ : ∃ z, z = lrRes x0 := ⟨_, rfl⟩
  obtain ⟨R1, hR1⟩ : ∃ z, z = rkCodeL x0 := ⟨_, rfl⟩
  have HR0 := Lib.hid hR0
  clear hR0
  have HR1 := Lib.hid hR1
  clear hR1
  have hk0 : (R0 != R0) = false := by simp
  have hk1 : (R1 != R1) = false := by simp
  have hda0 : decide (x0 = x0) = true := by simp
  go_wp2_with fail
  refine (c_toRack _ _ _ (hx0.below BW) hf0.1 Hf0.out.2.1).mono ?_; rintro e w2 ⟨t1, rfl, ot1r, hb2⟩
  have hs2 := hb2.size
  replace BW := bb BW hb2
  replace bx0 := bx0.under hb2
  clear cA0
  have cA0 := bx0.cell (i := 0) (by simp)
  simp only [List.getElem_cons_zero] at cA0
  have ot1 := ot1r.inn
  clear ot1r
  clear hb2
  go_wp2_with fail
  refine (c_specIsLatinRack _ _ _ (ot1.rows)).mono ?_
  rw [← HR0.out, ← HR1.out]
  rintro e w3 ⟨rfl, hb3⟩
  have hs3 := hb3.size
  replace ot1 := ot1.under hb3
  replace BW := bb BW hb3
  replace bx0 := bx0.under hb3
  clear cA0
  have cA0 := bx0.cell (i := 0) (by simp)
  simp only [List.getElem_cons_zero] at cA0
  clear ot1
  clear hb3
  go_wp2_with fail
  refine (c_toRack _ _ _ (hx0.below BW) hf0.1 Hf0.out.2.1).mono ?_; rintro e w4 ⟨z0, rfl, oz0r, hb4⟩
  have hs4 := hb4.size
  replace BW := bb BW hb4
  replace bx0 := bx0.under hb4
  clear cA0
  have cA0 := bx0.cell (i := 0) (by simp)
  simp only [List.getElem_cons_zero] at cA0
  have oz0 := oz0r.inn
  clear oz0r
  clear hb4
  obtain ⟨saz0, scz0, hvz0, _, _⟩ := oz0.rows.shape
  subst hvz0
  have cA0z := one_cell (bx0.alloc (.cells #[.slice saz0 x0.length scz0] 45))
  go_wp2_with fail
  clear cA0z
  obtain ⟨bxz0, hb5, hz5⟩ := boxes1 w4 [.slice saz0 x0.length scz0] 45
  obtain ⟨w5, hW5⟩ : ∃ W, w4.alloc (.cells #[.slice saz0 x0.length scz0] 45) = W := ⟨_, rfl⟩
  rw [hW5] at bxz0 hb5 hz5 ⊢
  have hs5 : w4.heap.size + 1 ≤ w5.heap.size := by omega
  clear hW5 hz5
  replace oz0 := oz0.under hb5
  replace BW := bb BW hb5
  replace bx0 := bx0.under hb5
  clear cA0
  have cA0 := bx0.cell (i := 0) (by simp)
  simp only [List.getElem_cons_zero] at cA0
  have cAz0 := bxz0.cell (i := 0) (by simp)
  simp only [List.getElem_cons_zero] at cAz0
  clear hb5
  refine (c_IsLatinRack _ _ _ (oz0.rows)).mono ?_
  rw [← HR0.out, ← HR1.out]
  rintro e w6 ⟨rfl, hb6⟩
  have hs6 := hb6.size
  replace oz0 := oz0.under hb6
  replace BW := bb BW hb6
  replace bx0 := bx0.under hb6
  clear cA0
  have cA0 := bx0.cell (i := 0) (by simp)
  simp only [List.getElem_cons_zero] at cA0
  replace bxz0 := bxz0.under hb6
  clear cAz0
  have cAz0 := bxz0.cell (i := 0) (by simp)
  simp only [List.getElem_cons_zero] at cAz0
  clear hb6
  go_wp2_with fail
  have BWd := BW.drew
  have oz0d := oz0.keep ((Keep.refl (fun _ => False) w6).drew) (fun _ _ _ h => h)
  have bx0d := bx0.drew
  have bxz0d := bxz0.drew
  go_region_held3 (fun w' => w'.cell? ⟨w.heap.size, 0, none⟩ = some (.slice a0 x0.length c0) ∧ w'.cell? ⟨w4.heap.size, 0, none⟩ = some (.slice saz0 x0.length scz0))
    (first | go_keep | exact ⟨one_cell (bx0d.under hb7), one_cell (bxz0d.under hb7)⟩ | exact ⟨one_cell ((bx0d.under hb7).under hb8), one_cell ((bxz0d.under hb7).under hb8)⟩)
    ((first | (go_at_call 31; refine (c_toRack _ _ _ (hx0.below BWd) hf0.1 Hf0.out.2.1).mono ?_; rintro e w7 ⟨t7, rfl, ot7, hb7⟩) | (go_at_call 33; refine (c_eqK _ _ _ _ _ (oz0d.under hb7).rows ot7.rows).mono ?_; rintro e w8 ⟨rfl, hb8⟩)))
  have hb8z : Below w6.heap.size w6 w8 := (Below.refl _ _).drew.trans (bb hb7 hb8)
  have hs8 : w6.heap.size ≤ w8.heap.size := hb8z.size
  replace oz0 := oz0.under hb8z
  replace BW := bb BW hb8z
  replace bx0 := bx0.under hb8z
  clear cA0
  have cA0 := bx0.cell (i := 0) (by simp)
  simp only [List.getElem_cons_zero] at cA0
  replace bxz0 := bxz0.under hb8z
  clear cAz0
  have cAz0 := bxz0.cell (i := 0) (by simp)
  simp only [List.getElem_cons_zero] at cAz0
  clear BWd oz0d bx0d bxz0d ot7 hb7 hb8 hb8z
  have HB := Lib.hid BW
  clear BW oz0 hx0 bx0 bxz0
  go_wp2
  go_ret
  exact ⟨rfl, HB.out⟩
end Go.Proofs.Ytdhbleiioagmlaa
