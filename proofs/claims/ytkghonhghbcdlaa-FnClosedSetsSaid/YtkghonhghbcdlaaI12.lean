/-
  The first list at which a pair map does not satisfy the equation: the reference's function. Condition: a pair map.
-/
import Derived.Test.YtkghonhghbcdlaaI9
import Derived.Test.YtkghonhghbcdlaaS1c
import Derived.StillTailTactics
import Derived.Deep.RegionHeld3
namespace Go.Proofs.Ytkghonhghbcdlaa
set_option linter.unusedVariables false
set_option linter.unusedSimpArgs false
open Go.RowKit

/-- Doing the pair map at the places i and i + 1. -/
def doL (A B : List (List Int)) (L : List Int) (i : Nat) : List Int := (L.set i (val2 A (nth L i) (nth L ((i : Int) + 1)))).set (i + 1) (val2 B (nth L i) (nth L ((i : Int) + 1)))
def LOk (n : Nat) (L : List Int) : Prop := L.length = 3 ∧ ∀ x ∈ L, 0 ≤ x ∧ x < n
theorem doL_ok {A B : List (List Int)} {n : Nat} {L : List Int} {i : Nat} (h : LOk n L) (hA : ∀ x y : Int, 0 ≤ x → x < n → 0 ≤ y → y < n → 0 ≤ val2 A x y ∧ val2 A x y < n) (hB : ∀ x y : Int, 0 ≤ x → x < n → 0 ≤ y → y < n → 0 ≤ val2 B x y ∧ val2 B x y < n) (hi : i ≤ 1) : LOk n (doL A B L i) := by
  obtain ⟨hl, hr⟩ := h
  have h1 := hr _ (nth_mem (p := L) (x := i) (by omega) (by omega))
  have h2 := hr _ (nth_mem (p := L) (x := (i : Int) + 1) (by omega) (by omega))
  refine ⟨by simp [doL, hl], fun x hx => ?_⟩
  unfold doL at hx
  rcases List.mem_or_eq_of_mem_set hx with hx | rfl
  · rcases List.mem_or_eq_of_mem_set hx with hx | rfl
    · exact hr x hx
    · exact hA _ _ h1.1 h1.2 h2.1 h2.2
  · exact hB _ _ h1.1 h1.2 h2.1 h2.2


set_option maxRecDepth 100000 in
set_option maxHeartbeats 800000 in
theorem c_l02Do (v0 u0 : Value) (A B : List (List Int)) (v1 : Value) (L : List Int) (w : World) (hA : Sol w v0 u0 A B) (hL : Ints w v1 L) (i : Nat) (M : List Int) (hM : doL A B L i = M) (hp : isPM A B = true) (hok : LOk A.length L) (hi : i ≤ 1) :
    Calls Try.prog 120 #[.agg #[v0, u0], v1, .int .i64 i] w (RInts w M) := by
  obtain ⟨n0, b0, o0, c0, rb0, ro0, rc0, b0s, o0s, c0s, rb0s, ro0s, rc0s, rfl, rfl, hl0, hl0s, hn0, hx0, hc0, hm0, hc0s, hm0s, t0, t0s⟩ := hA.tabs hp
  have HL0 := Lib.hid hl0; clear hl0
  have HL0s := Lib.hid hl0s; clear hl0s
  obtain ⟨a1, c1, rfl, hc1, hm1⟩ := hL.shape
  go_enter Try.func120, Try.ntmps120
  go_wp2_with fail
  obtain ⟨f0, hW0, hsz⟩ := boxes1 w [.slice (some ⟨b0, o0, none⟩) n0 c0, .slice (some ⟨b0s, o0s, none⟩) n0 c0s] 26
  obtain ⟨W0, hW⟩ : ∃ W, (w.alloc (.cells #[.slice (some ⟨b0, o0, none⟩) n0 c0, .slice (some ⟨b0s, o0s, none⟩) n0 c0s] 26)) = W := ⟨_, rfl⟩
  rw [hW] at f0 hW0 hsz ⊢
  have HSZ := Lib.hid hsz
  clear hW hsz
  obtain ⟨cA0, cB0, -, -⟩ := two_cells f0
  replace t0 := t0.below hW0; replace t0s := t0s.below hW0
  have HM := Lib.hid hM; have HOK := Lib.hid hok; have HT := Lib.hid t0; have HTs := Lib.hid t0s; have HW := Lib.hid hW0; have HF := Lib.hid f0
  have hn3 : L.length = 3 := hok.1
  have HN3 := Lib.hid hn3
  have hLW := hL.below hW0
  have hx' := hok.2 _ (nth_mem (p := L) (x := i) (by omega) (by omega))
  have hy' := hok.2 _ (nth_mem (p := L) (x := (i : Int) + 1) (by omega) (by omega))
  rw [HL0.out] at hx' hy'
  have hil : (i : Int) < L.length := by omega
  have hil2 : (i : Int) + 1 < L.length := by omega
  have hL10 : L.length ≤ 3 := by omega
  obtain ⟨bl, ol, rfl, _⟩ := hLW.geti (i : Int) (by omega) hil
  clear hM hok t0 t0s hW0 f0 cA0 cB0 hn3 hA hp
  refine (c_l01Own _ _ _ hLW (by omega)).mono ?_; rintro e w1 ⟨r, rfl, ho, hb1⟩
  rcases ho.open with ⟨_, h0⟩ | ⟨g, cs, hv, hg, hblk, hmx⟩
  · rw [h0] at hil; simp at hil; omega
  subst hv
  have T := HT.out.below hb1
  obtain ⟨cA1, cB1, -, -⟩ := two_cells (HF.out.under hb1)
  have l1 := (hLW.below hb1).at i (by omega)
  have l2 := (hLW.below hb1).ati ((i : Int) + 1) (by omega) hil2
  have e2 : ((i : Int) + 1).toNat = i + 1 := by omega
  rw [e2] at l2
  obtain ⟨x, hx⟩ : ∃ x, x = nth L (i : Int) := ⟨_, rfl⟩
  obtain ⟨y, hy⟩ : ∃ y, y = nth L ((i : Int) + 1) := ⟨_, rfl⟩
  rw [← hx] at l1 hx'; rw [← hy] at l2 hy'
  obtain ⟨hx0', hx1'⟩ := hx'
  obtain ⟨hy0', hy1'⟩ := hy'
  have r1 := T.rowi x hx0' hx1'
  have v1 := T.vali x y hx0' hx1' hy0' hy1'
  have hwr : IntKind.i64.wrap ((i : Int) + 1) = (i : Int) + 1 := IntWalk.i64_in _ (by omega)
  have hi1 : (0 : Int) ≤ (i : Int) + 1 := by omega
  have hlen : (L.map (Value.int .i64) ++ cs).length = L.length + cs.length := by simp
  obtain ⟨u1, s1⟩ : ∃ u, w1.cell? ⟨g, i, none⟩ = some u := fill_cell0 hblk (by omega)
  have s2 := hblk.frozen i
  have HX := Lib.hid hx; have HY := Lib.hid hy; have Hblk := Lib.hid hblk; have HB1 := Lib.hid hb1; have HG := Lib.hid hg; have HMX := Lib.hid hmx; have HLen := Lib.hid hlen
  have HLW := Lib.hid hLW
  have hlc : L.length + cs.length ≤ 9223372036854775807 := by unfold maxLen at hmx; omega
  clear hx hy hblk hb1 ho T hlen hLW hL e2 hmx
  go_wp2
  go_still_tail 18, (by kernel_rfl)
  change wpList _ _ _ _ _ w1.drew
  go_wp2_with fail
  have hb2 := (Hblk.out.set i (.int .i64 (val2 A x y))).drew
  have hB2 := (HB1.out.setCell (p := ⟨g, i, none⟩) HG.out (.int .i64 (val2 A x y))).drew
  obtain ⟨W2, hW2⟩ : ∃ W2, (w1.setCell ⟨g, i, none⟩ (.int .i64 (val2 A x y))).drew = W2 := ⟨_, rfl⟩
  rw [hW2] at hb2 hB2 ⊢
  clear hW2 cA1 cB1 l1 l2 r1 v1 s1 s2
  have T := HTs.out.below hB2
  obtain ⟨cA1, cB1, -, -⟩ := two_cells (HF.out.under hB2)
  have l1 := (HLW.out.below hB2).at i (by omega)
  have l2 := (HLW.out.below hB2).ati ((i : Int) + 1) (by omega) hil2
  have e2 : ((i : Int) + 1).toNat = i + 1 := by omega
  rw [e2] at l2
  rw [← HX.out] at l1; rw [← HY.out] at l2
  have r1 := T.rowi x hx0' hx1'
  have v1 := T.vali x y hx0' hx1' hy0' hy1'
  have hlen : ((L.map (Value.int .i64) ++ cs).set i (.int .i64 (val2 A x y))).length = L.length + cs.length := by simp
  obtain ⟨u2, s1⟩ : ∃ u, W2.cell? ⟨g, i + 1, none⟩ = some u := fill_cell0 hb2 (by omega)
  have s2 := hb2.frozen (i + 1)
  have Hb2 := Lib.hid hb2; have HB2 := Lib.hid hB2
  clear hb2 hB2 T hlen e2
  go_wp2
  go_still_tail 19, (by kernel_rfl)
  change wpList _ _ _ _ _ W2.drew
  clear l1 l2 r1 v1 cA1 cB1
  go_wp2
  go_ret
  have hb3 := (Hb2.out.set (i + 1) (.int .i64 (val2 B x y))).drew
  have hB3 := (HB2.out.setCell (p := ⟨g, i + 1, none⟩) HG.out (.int .i64 (val2 B x y))).drew
  refine ⟨_, rfl, ?_, bb HW.out hB3⟩
  have hMl : M.length = L.length := by rw [← HM.out]; simp [doL]
  have hMe : ((L.map (Value.int .i64) ++ cs).set i (.int .i64 (val2 A x y))).set (i + 1) (.int .i64 (val2 B x y)) = M.map (Value.int .i64) ++ cs := by
    rw [← HM.out, List.set_append, if_pos (by simp; omega), List.set_append, if_pos (by simp; omega), ← List.map_set, ← List.map_set]
    unfold doL
    rw [← HX.out, ← HY.out]
  rw [hMe] at hb3
  exact Own.shut hb3 (Nat.le_trans HW.out.size HG.out) (by rw [hMl]; exact HMX.out) hMl.symm (by rw [hMl])

theorem c_l02Do0 (v0 u0 : Value) (A B : List (List Int)) (v1 : Value) (L : List Int) (w : World) (hA : Sol w v0 u0 A B) (hL : Ints w v1 L) (M : List Int) (hM : doL A B L 0 = M) (hp : isPM A B = true) (hok : LOk A.length L) :
    Calls Try.prog 120 #[.agg #[v0, u0], v1, .int .i64 0] w (RInts w M) := c_l02Do v0 u0 A B v1 L w hA hL 0 M hM hp hok (by omega)
theorem c_l02Do1 (v0 u0 : Value) (A B : List (List Int)) (v1 : Value) (L : List Int) (w : World) (hA : Sol w v0 u0 A B) (hL : Ints w v1 L) (M : List Int) (hM : doL A B L 1 = M) (hp : isPM A B = true) (hok : LOk A.length L) :
    Calls Try.prog 120 #[.agg #[v0, u0], v1, .int .i64 1] w (RInts w M) := c_l02Do v0 u0 A B v1 L w hA hL 1 M hM hp hok (by omega)
set_option maxRecDepth 100000 in
set_option maxHeartbeats 4000000 in
theorem c_l02Fault (v0 u0 : Value) (A B : List (List Int)) (w : World) (hA : Sol w v0 u0 A B) (hp : isPM A B = true) :
    Calls Try.prog 94 #[.agg #[v0, u0]] w (RInts w (yF A B)) := by
  obtain ⟨n0, b0, o0, c0, rb0, ro0, rc0, b0s, o0s, c0s, rb0s, ro0s, rc0s, rfl, rfl, hl0, hl0s, hn0, hx0, hc0, hm0, hc0s, hm0s, t0, t0s⟩ := hA.tabs hp
  have HL0 := Lib.hid hl0; clear hl0
  have HL0s := Lib.hid hl0s; clear hl0s
  go_enter Try.func94, Try.ntmps94
  go_wp2
  obtain ⟨f0, hW0, hsz⟩ := boxes1 w [.slice (some ⟨b0, o0, none⟩) n0 c0, .slice (some ⟨b0s, o0s, none⟩) n0 c0s] 26
  obtain ⟨W0, hW⟩ : ∃ W, (w.alloc (.cells #[.slice (some ⟨b0, o0, none⟩) n0 c0, .slice (some ⟨b0s, o0s, none⟩) n0 c0s] 26)) = W := ⟨_, rfl⟩
  rw [hW] at f0 hW0 hsz ⊢
  have HSZ := Lib.hid hsz
  clear hW hsz
  obtain ⟨cA0, cB0, -, -⟩ := two_cells f0
  replace t0 := t0.below hW0; replace t0s := t0s.below hW0
  have HT := Lib.hid t0; have HTs := Lib.hid t0s; have HW := Lib.hid hW0; have HF := Lib.hid f0; have HS := Lib.hid (hA.below hW0); have HP := Lib.hid hp
  clear t0 t0s hA hp hW0 f0 cA0 cB0
  go_loopw [4, 5, 6, 7] (fun a _ _ _ wr => ∃ k : Nat, k ≤ n0 ∧ a = .int .i64 k ∧ Hid (Below W0.heap.size W0 wr) ∧ Hid (∀ x, x < k → ∀ y, y < n0 → ∀ z, z < n0 → yP A B x y z = false)) (fun a _ _ _ _ => n0 - (intOf a).toNat)
  case atStart => exact ⟨0, Nat.zero_le _, rfl, Lib.hid (Below.refl _ _), Lib.hid (by intro x hx; omega)⟩
  case round =>
    obtain ⟨k, hk, rfl, HB1, HA1⟩ := hrel
    obtain ⟨wo, rfl⟩ : ∃ wo : World, wo = wr := ⟨_, rfl⟩
    by_cases hlt : k < n0
    · go_wp2
      go_loopw [5, 6, 7] (fun a _ _ wr => ∃ j : Nat, j ≤ n0 ∧ a = .int .i64 j ∧ Hid (Below W0.heap.size W0 wr) ∧ Hid (∀ y, y < j → ∀ z, z < n0 → yP A B k y z = false)) (fun a _ _ _ => n0 - (intOf a).toNat)
      case atStart => exact ⟨0, Nat.zero_le _, rfl, HB1, Lib.hid (by intro x hx; omega)⟩
      case round =>
        obtain ⟨j, hj, rfl, HB2, HA2⟩ := hrel
        obtain ⟨wp, rfl⟩ : ∃ wp : World, wp = wr := ⟨_, rfl⟩
        by_cases hlj : j < n0
        · go_wp2
          go_loopw [6, 7] (fun a _ wr => ∃ m : Nat, m ≤ n0 ∧ a = .int .i64 m ∧ Hid (Below W0.heap.size W0 wr) ∧ Hid (∀ z, z < m → yP A B k j z = false)) (fun a _ _ => n0 - (intOf a).toNat)
          case atStart => exact ⟨0, Nat.zero_le _, rfl, HB2, Lib.hid (by intro x hx; omega)⟩
          case round =>
            obtain ⟨m, hm, rfl, HB3, HA3⟩ := hrel
            by_cases hlm : m < n0
            · have hr1 : (0 : Int) ≤ k ∧ (k : Int) < n0 := by omega
              have hr2 : (0 : Int) ≤ j ∧ (j : Int) < n0 := by omega
              have hr3 : (0 : Int) ≤ m ∧ (m : Int) < n0 := by omega
              have hok0 : LOk A.length [(k : Int), (j : Int), (m : Int)] := by
                rw [HL0.out]
                refine ⟨rfl, fun x hx => ?_⟩
                simp only [List.mem_cons, List.not_mem_nil, or_false] at hx
                rcases hx with rfl | rfl | rfl
                · exact hr1
                · exact hr2
                · exact hr3
              have hrA : ∀ x y : Int, 0 ≤ x → x < A.length → 0 ≤ y → y < A.length → 0 ≤ val2 A x y ∧ val2 A x y < A.length := by rw [HL0.out]; exact HT.out.rng
              have hrB : ∀ x y : Int, 0 ≤ x → x < A.length → 0 ≤ y → y < A.length → 0 ≤ val2 B x y ∧ val2 B x y < A.length := by rw [HL0.out]; exact HTs.out.rng
              obtain ⟨M1, E1⟩ : ∃ M, doL A B [(k : Int), (j : Int), (m : Int)] 0 = M := ⟨_, rfl⟩
              obtain ⟨M2, E2⟩ : ∃ M, doL A B M1 1 = M := ⟨_, rfl⟩
              obtain ⟨M3, E3⟩ : ∃ M, doL A B M2 0 = M := ⟨_, rfl⟩
              obtain ⟨N1, E4⟩ : ∃ M, doL A B [(k : Int), (j : Int), (m : Int)] 1 = M := ⟨_, rfl⟩
              obtain ⟨N2, E5⟩ : ∃ M, doL A B N1 0 = M := ⟨_, rfl⟩
              obtain ⟨N3, E6⟩ : ∃ M, doL A B N2 1 = M := ⟨_, rfl⟩
              have hok1 : LOk A.length M1 := by rw [← E1]; exact doL_ok hok0 hrA hrB (by omega)
              have hok2 : LOk A.length M2 := by rw [← E2]; exact doL_ok hok1 hrA hrB (by omega)
              have hok4 : LOk A.length N1 := by rw [← E4]; exact doL_ok hok0 hrA hrB (by omega)
              have hok5 : LOk A.length N2 := by rw [← E5]; exact doL_ok hok4 hrA hrB (by omega)
              have HY : Hid (yP A B k j m = decide (M3 ≠ N3)) := by show _ = _; subst E1 E2 E3 E4 E5 E6; rfl
              have HE1 := Lib.hid E1; have HE2 := Lib.hid E2; have HE3 := Lib.hid E3; have HE4 := Lib.hid E4; have HE5 := Lib.hid E5; have HE6 := Lib.hid E6
              have HO0 := Lib.hid hok0; have HO1 := Lib.hid hok1; have HO2 := Lib.hid hok2; have HO4 := Lib.hid hok4; have HO5 := Lib.hid hok5
              obtain ⟨wi, rfl⟩ : ∃ wi : World, wi = wr := ⟨_, rfl⟩
              obtain ⟨W1, hW1⟩ : ∃ W1, (wi.alloc (.cells #[.int .i64 k, .int .i64 j, .int .i64 m] 2)) = W1 := ⟨_, rfl⟩
              have hbW1 : Below W0.heap.size W0 W1 := by rw [← hW1]; exact HB3.out.alloc HB3.out.size _
              have hl0 : Ints W1 (.slice (some ⟨wi.heap.size, 0, none⟩) 3 3) [(k : Int), (j : Int), (m : Int)] := by
                rw [← hW1]
                exact (Own.of_blk (B := 0) (xs := [(k : Int), (j : Int), (m : Int)]) (Blk.new wi [.int .i64 k, .int .i64 j, .int .i64 m] _) (Nat.zero_le _) (by simp [maxLen]) rfl rfl).ints
              have hbk0 : Blk W1 wi.heap.size 2 [.int .i64 k, .int .i64 j, .int .i64 m] := by rw [← hW1]; exact Blk.new wi _ _
              have HW1 := Lib.hid hW1
              clear hW1 E1 E2 E3 E4 E5 E6 hok0 hok1 hok2 hok4 hok5 hrA hrB hr1 hr2 hr3
              go_wp2_with fail
              rw [HW1.out]
              have HL := Lib.hid (hl0.below (Below.refl _ _).drew); have HBk0 := Lib.hid hbk0.drew
              have HSc := Lib.hid (HS.out.below hbW1.drew)
              have HFc := Lib.hid ((HF.out.under hbW1).drew); have HBc := Lib.hid hbW1.drew
              obtain ⟨cA3, cB3, -, -⟩ := two_cells HFc.out
              clear hl0 hbk0 hbW1
              by_cases q1 : M3 = N3
              · have g1 : decide (M3 = N3) = true := by simp [q1]
                have Q1 := Lib.hid q1; clear q1
                go_region_held3 (fun w' => w'.cell? ⟨w.heap.size, 0, none⟩ = some (.slice (some ⟨b0, o0, none⟩) n0 c0) ∧ w'.cell? ⟨w.heap.size, 1, none⟩ = some (.slice (some ⟨b0s, o0s, none⟩) n0 c0s))
                  (first | go_keep | exact ⟨(two_cells HFc.out).1, (two_cells HFc.out).2.1⟩)
                  ((first | (go_at_call 120; (with_reducible refine (c_l02Do0 _ _ A B _ [(k : Int), (j : Int), (m : Int)] _ HSc.out HL.out M1 HE1.out HP.out HO0.out).mono ?_); rintro e w1 ⟨r1, rfl, ho1, hb1⟩; obtain ⟨ra1, rc1, hv1, _⟩ := ho1.shape; subst hv1; have HI1 := Lib.hid ho1.ints; replace HSc := Lib.hid (HSc.out.below hb1); replace HFc := Lib.hid (HFc.out.under hb1); replace HBc := Lib.hid (bb HBc.out hb1); replace HBk0 := Lib.hid (HBk0.out.under hb1); replace HL := Lib.hid (HL.out.below hb1); clear ho1 hb1) | (go_at_call 120; (with_reducible refine (c_l02Do1 _ _ A B _ M1 _ HSc.out HI1.out M2 HE2.out HP.out HO1.out).mono ?_); rintro e w2 ⟨r2, rfl, ho2, hb2⟩; obtain ⟨ra2, rc2, hv2, _⟩ := ho2.shape; subst hv2; have HI2 := Lib.hid ho2.ints; replace HSc := Lib.hid (HSc.out.below hb2); replace HFc := Lib.hid (HFc.out.under hb2); replace HBc := Lib.hid (bb HBc.out hb2); replace HBk0 := Lib.hid (HBk0.out.under hb2); replace HL := Lib.hid (HL.out.below hb2); clear ho2 hb2) | (go_at_call 120; (with_reducible refine (c_l02Do0 _ _ A B _ M2 _ HSc.out HI2.out M3 HE3.out HP.out HO2.out).mono ?_); rintro e w3 ⟨r3, rfl, ho3, hb3⟩; obtain ⟨ra3, rc3, hv3, _⟩ := ho3.shape; subst hv3; have HI3 := Lib.hid ho3.ints; replace HSc := Lib.hid (HSc.out.below hb3); replace HFc := Lib.hid (HFc.out.under hb3); replace HBc := Lib.hid (bb HBc.out hb3); replace HBk0 := Lib.hid (HBk0.out.under hb3); replace HL := Lib.hid (HL.out.below hb3); clear ho3 hb3) | (go_at_call 120; (with_reducible refine (c_l02Do1 _ _ A B _ [(k : Int), (j : Int), (m : Int)] _ HSc.out HL.out N1 HE4.out HP.out HO0.out).mono ?_); rintro e w4 ⟨r4, rfl, ho4, hb4⟩; obtain ⟨ra4, rc4, hv4, _⟩ := ho4.shape; subst hv4; have HI4 := Lib.hid ho4.ints; replace HSc := Lib.hid (HSc.out.below hb4); replace HFc := Lib.hid (HFc.out.under hb4); replace HBc := Lib.hid (bb HBc.out hb4); replace HBk0 := Lib.hid (HBk0.out.under hb4); replace HI3 := Lib.hid (HI3.out.below hb4); clear ho4 hb4) | (go_at_call 120; (with_reducible refine (c_l02Do0 _ _ A B _ N1 _ HSc.out HI4.out N2 HE5.out HP.out HO4.out).mono ?_); rintro e w5 ⟨r5, rfl, ho5, hb5⟩; obtain ⟨ra5, rc5, hv5, _⟩ := ho5.shape; subst hv5; have HI5 := Lib.hid ho5.ints; replace HSc := Lib.hid (HSc.out.below hb5); replace HFc := Lib.hid (HFc.out.under hb5); replace HBc := Lib.hid (bb HBc.out hb5); replace HBk0 := Lib.hid (HBk0.out.under hb5); replace HI3 := Lib.hid (HI3.out.below hb5); clear ho5 hb5) | (go_at_call 120; (with_reducible refine (c_l02Do1 _ _ A B _ N2 _ HSc.out HI5.out N3 HE6.out HP.out HO5.out).mono ?_); rintro e w6 ⟨r6, rfl, ho6, hb6⟩; obtain ⟨ra6, rc6, hv6, _⟩ := ho6.shape; subst hv6; have HI6 := Lib.hid ho6.ints; replace HSc := Lib.hid (HSc.out.below hb6); replace HFc := Lib.hid (HFc.out.under hb6); replace HBc := Lib.hid (bb HBc.out hb6); replace HBk0 := Lib.hid (HBk0.out.under hb6); replace HI3 := Lib.hid (HI3.out.below hb6); clear ho6 hb6) | (go_at_call 119; refine (c_l01Same _ _ M3 N3 _ HI3.out HI6.out).mono ?_; rintro e w7 hh; obtain ⟨rfl, hb7⟩ := hh.r; replace HBc := Lib.hid (bb HBc.out hb7); replace HBk0 := Lib.hid (HBk0.out.under hb7); replace HFc := Lib.hid (HFc.out.under hb7); clear hh hb7)))
                go_wp2
                go_roundw
                case rel => exact ⟨m + 1, by omega, by go_num, HBc, Lib.hid (lt_snoc HA3.out (by rw [HY.out]; simp [Q1.out]))⟩
                case measure => simp [intOf]; omega
              · have g1 : decide (M3 = N3) = false := by simp [q1]
                have Q1 := Lib.hid q1; clear q1
                go_region_held3 (fun w' => w'.cell? ⟨w.heap.size, 0, none⟩ = some (.slice (some ⟨b0, o0, none⟩) n0 c0) ∧ w'.cell? ⟨w.heap.size, 1, none⟩ = some (.slice (some ⟨b0s, o0s, none⟩) n0 c0s))
                  (first | go_keep | exact ⟨(two_cells HFc.out).1, (two_cells HFc.out).2.1⟩)
                  ((first | (go_at_call 120; (with_reducible refine (c_l02Do0 _ _ A B _ [(k : Int), (j : Int), (m : Int)] _ HSc.out HL.out M1 HE1.out HP.out HO0.out).mono ?_); rintro e w1 ⟨r1, rfl, ho1, hb1⟩; obtain ⟨ra1, rc1, hv1, _⟩ := ho1.shape; subst hv1; have HI1 := Lib.hid ho1.ints; replace HSc := Lib.hid (HSc.out.below hb1); replace HFc := Lib.hid (HFc.out.under hb1); replace HBc := Lib.hid (bb HBc.out hb1); replace HBk0 := Lib.hid (HBk0.out.under hb1); replace HL := Lib.hid (HL.out.below hb1); clear ho1 hb1) | (go_at_call 120; (with_reducible refine (c_l02Do1 _ _ A B _ M1 _ HSc.out HI1.out M2 HE2.out HP.out HO1.out).mono ?_); rintro e w2 ⟨r2, rfl, ho2, hb2⟩; obtain ⟨ra2, rc2, hv2, _⟩ := ho2.shape; subst hv2; have HI2 := Lib.hid ho2.ints; replace HSc := Lib.hid (HSc.out.below hb2); replace HFc := Lib.hid (HFc.out.under hb2); replace HBc := Lib.hid (bb HBc.out hb2); replace HBk0 := Lib.hid (HBk0.out.under hb2); replace HL := Lib.hid (HL.out.below hb2); clear ho2 hb2) | (go_at_call 120; (with_reducible refine (c_l02Do0 _ _ A B _ M2 _ HSc.out HI2.out M3 HE3.out HP.out HO2.out).mono ?_); rintro e w3 ⟨r3, rfl, ho3, hb3⟩; obtain ⟨ra3, rc3, hv3, _⟩ := ho3.shape; subst hv3; have HI3 := Lib.hid ho3.ints; replace HSc := Lib.hid (HSc.out.below hb3); replace HFc := Lib.hid (HFc.out.under hb3); replace HBc := Lib.hid (bb HBc.out hb3); replace HBk0 := Lib.hid (HBk0.out.under hb3); replace HL := Lib.hid (HL.out.below hb3); clear ho3 hb3) | (go_at_call 120; (with_reducible refine (c_l02Do1 _ _ A B _ [(k : Int), (j : Int), (m : Int)] _ HSc.out HL.out N1 HE4.out HP.out HO0.out).mono ?_); rintro e w4 ⟨r4, rfl, ho4, hb4⟩; obtain ⟨ra4, rc4, hv4, _⟩ := ho4.shape; subst hv4; have HI4 := Lib.hid ho4.ints; replace HSc := Lib.hid (HSc.out.below hb4); replace HFc := Lib.hid (HFc.out.under hb4); replace HBc := Lib.hid (bb HBc.out hb4); replace HBk0 := Lib.hid (HBk0.out.under hb4); replace HI3 := Lib.hid (HI3.out.below hb4); clear ho4 hb4) | (go_at_call 120; (with_reducible refine (c_l02Do0 _ _ A B _ N1 _ HSc.out HI4.out N2 HE5.out HP.out HO4.out).mono ?_); rintro e w5 ⟨r5, rfl, ho5, hb5⟩; obtain ⟨ra5, rc5, hv5, _⟩ := ho5.shape; subst hv5; have HI5 := Lib.hid ho5.ints; replace HSc := Lib.hid (HSc.out.below hb5); replace HFc := Lib.hid (HFc.out.under hb5); replace HBc := Lib.hid (bb HBc.out hb5); replace HBk0 := Lib.hid (HBk0.out.under hb5); replace HI3 := Lib.hid (HI3.out.below hb5); clear ho5 hb5) | (go_at_call 120; (with_reducible refine (c_l02Do1 _ _ A B _ N2 _ HSc.out HI5.out N3 HE6.out HP.out HO5.out).mono ?_); rintro e w6 ⟨r6, rfl, ho6, hb6⟩; obtain ⟨ra6, rc6, hv6, _⟩ := ho6.shape; subst hv6; have HI6 := Lib.hid ho6.ints; replace HSc := Lib.hid (HSc.out.below hb6); replace HFc := Lib.hid (HFc.out.under hb6); replace HBc := Lib.hid (bb HBc.out hb6); replace HBk0 := Lib.hid (HBk0.out.under hb6); replace HI3 := Lib.hid (HI3.out.below hb6); clear ho6 hb6) | (go_at_call 119; refine (c_l01Same _ _ M3 N3 _ HI3.out HI6.out).mono ?_; rintro e w7 hh; obtain ⟨rfl, hb7⟩ := hh.r; replace HBc := Lib.hid (bb HBc.out hb7); replace HBk0 := Lib.hid (HBk0.out.under hb7); replace HFc := Lib.hid (HFc.out.under hb7); clear hh hb7)))
                go_wp2
                go_ret
                have hr : yF A B = [(k : Int), (j : Int), (m : Int)] := by
                  unfold yF
                  rw [HL0.out, find3_hit hlt hlj hlm (P := yP A B) (by rw [HY.out]; simp [Q1.out]) HA1.out HA2.out HA3.out]; rfl
                rw [hr]
                exact ⟨_, rfl, Own.of_blk HBk0.out (bb HW.out HB3.out).size (by simp [maxLen]) rfl rfl, bb HW.out HBc.out⟩
            · obtain rfl : m = n0 := by omega
              go_wp2
              go_roundw
              case rel => exact ⟨j + 1, by omega, by go_num, HB3, Lib.hid (lt_snoc HA2.out HA3.out)⟩
              case measure => simp [intOf]; omega
        · obtain rfl : j = n0 := by omega
          go_wp2
          go_roundw
          case rel => exact ⟨k + 1, by omega, by go_num, HB2, Lib.hid (lt_snoc HA1.out HA2.out)⟩
          case measure => simp [intOf]; omega
    · obtain rfl : k = n0 := by omega
      go_wp2
      go_ret
      have hr : yF A B = [] := by
        unfold yF
        rw [HL0.out, find3_none HA1.out]; rfl
      rw [hr]
      exact ⟨_, rfl, Own.made0 _ (bb HW.out HB1.out).size, (bb HW.out HB1.out).alloc (bb HW.out HB1.out).size _⟩
end Go.Proofs.Ytkghonhghbcdlaa
