/-
  The law FnExactIsQuandle answers true, and leaves what was there as it was: at every list of lists of integers.
-/
import Derived.Test.YtdhbleiioagmlaaI8
import Derived.Test.YtdhbleiioagmlaaLawD
import Derived.Test.YtdhbleiioagmlaaS1c
import Derived.Test.YtdhbleiioagmlaaT1
namespace Go.Proofs.Ytdhbleiioagmlaa
open Go.RowKit

def rkCode (T : List (List Int)) : Int := if isRk T then 0 else 1
def kinkL (T : List (List Int)) : List Int := rowOf T.length fun x => val2 T x x
def qdF (T : List (List Int)) (x : Nat) : Bool := decide (val2 T x x = x)
def qdRes (T : List (List Int)) : Bool := if isRk T then all1 T.length (qdF T) else false

/-- As many numbers as the range has, strictly increasing: each is its own index. -/
theorem incr_range {p : List Int} (h : ∀ x ∈ p, 0 ≤ x ∧ x < p.length) : incr p = decide (∀ i : Nat, i < p.length → nth p i = i) := by
  rw [Bool.eq_iff_iff, incr_iff, decide_eq_true_eq]
  constructor
  · intro hi
    have hlt : ∀ i : Nat, i < p.length → 0 ≤ nth p i ∧ nth p i < p.length := fun i hl => h _ (nth_mem (by omega) (by omega))
    have hge : ∀ i : Nat, i < p.length → (i : Int) ≤ nth p i := by
      intro i
      induction i with
      | zero => intro hl; exact (hlt 0 hl).1
      | succ i ih =>
        intro hl
        have h1 := ih (by omega)
        have h2 := hi i hl
        have e : ((i + 1 : Nat) : Int) = (i : Int) + 1 := by omega
        rw [e]; omega
    have hle : ∀ d i : Nat, i + d + 1 = p.length → nth p i ≤ i := by
      intro d
      induction d with
      | zero => intro i hl; have := (hlt i (by omega)).2; omega
      | succ d ih =>
        intro i hl
        have h1 := ih (i + 1) (by omega)
        have h2 := hi i (by omega)
        have e : ((i + 1 : Nat) : Int) = (i : Int) + 1 := by omega
        rw [e] at h1; omega
    intro i hl
    have h1 := hge i hl
    have h2 := hle (p.length - 1 - i) i (by omega)
    omega
  · intro hi i hl
    have h1 := hi i (by omega)
    have h2 := hi (i + 1) hl
    have e : ((i + 1 : Nat) : Int) = (i : Int) + 1 := by omega
    rw [e] at h2; omega
theorem kink_incr {T : List (List Int)} (ht : isTab T = true) : incr (kinkL T) = all1 T.length (qdF T) := by
  have hr : ∀ x ∈ kinkL T, 0 ≤ x ∧ x < (kinkL T).length := by
    intro x hx
    obtain ⟨k, hk, rfl⟩ := List.getElem_of_mem hx
    have hk' : k < T.length := by simpa [kinkL] using hk
    rw [← nth_nat _ _ hk]
    unfold kinkL
    rw [nth_rowOf _ _ _ hk', rowOf_length]
    exact val2_lt ht (by omega) (by omega) (by omega) (by omega)
  rw [incr_range hr, Bool.eq_iff_iff, decide_eq_true_eq, all1_iff]
  have hl : (kinkL T).length = T.length := by simp [kinkL]
  rw [hl]
  refine forall_congr' fun i => forall_congr' fun hi => ?_
  unfold kinkL
  rw [nth_rowOf _ _ _ hi]
  simp [qdF]

set_option maxRecDepth 100000 in
set_option maxHeartbeats 800000 in
theorem c_kinkOf (v0 : Value) (T : List (List Int)) (w : World) (hT : Rows w v0 T) (hp : isTab T = true) :
    Calls Try.prog 71 #[.agg #[v0]] w (RInts w (kinkL T)) := by
  obtain ⟨n0, b0, o0, c0, rb0, ro0, rc0, rfl, hl0, hn0, hx0, hc0, hm0, t0⟩ := hT.tab hp
  have HL0 := Lib.hid hl0; clear hl0
  have hmk := run_make_row' (P := Try.prog) 49 2 (.int .i64 0) 8 Try.underlying49 inf_int64 rfl .i64 .i64 n0 (by omega) (by omega)
  go_enter Try.func71, Try.ntmps71
  go_wp2
  obtain ⟨f0, hW0, hsz⟩ := boxes1 w [.slice (some ⟨b0, o0, none⟩) n0 c0] 45
  obtain ⟨W0, hW⟩ : ∃ W, (w.alloc (.cells #[.slice (some ⟨b0, o0, none⟩) n0 c0] 45)) = W := ⟨_, rfl⟩
  rw [hW] at f0 hW0 hsz ⊢
  have HSZ := Lib.hid hsz
  clear hW hsz
  have cA0 := one_cell f0
  replace t0 := t0.below hW0
  have HT := Lib.hid t0; have HW := Lib.hid hW0; have HF := Lib.hid f0
  have hB0 : Below W0.heap.size W0 (W0.alloc (.cells (madeCells #[.int .i64 0] n0) 2)) := (Below.refl _ _).alloc (Nat.le_refl _) _
  have hK0 : Blk (W0.alloc (.cells (madeCells #[.int .i64 0] n0) 2)) W0.heap.size 2 (((kinkL T).take 0).map (Value.int .i64) ++ (List.replicate n0 (Value.int .i64 0)).drop 0) := by
    simpa using Blk.made W0 (.int .i64 0) n0 2
  rw [HSZ.out] at hK0
  have hkl : (kinkL T).length = n0 := by simp [kinkL, HL0.out]
  have HKL := Lib.hid hkl
  clear t0 hW0 f0 cA0 hmk hT hkl
  go_loopw [11, 4] (fun i _ wr => ∃ k : Nat, k ≤ n0 ∧ i = .int .i64 k ∧ Hid (Below W0.heap.size W0 wr) ∧ Hid (Blk wr (w.heap.size + 1) 2 (((kinkL T).take k).map (Value.int .i64) ++ (List.replicate n0 (Value.int .i64 0)).drop k))) (fun i _ _ => n0 - (intOf i).toNat)
  case atStart => exact ⟨0, Nat.zero_le _, rfl, Lib.hid hB0, Lib.hid hK0⟩
  case round =>
    clear hB0 hK0
    obtain ⟨k, hk, rfl, Hb, Hblk⟩ := hrel
    by_cases hlt : k < n0
    · have T' := HT.out.below Hb.out
      have cA1 := one_cell (HF.out.under Hb.out)
      have r1 := T'.row k hlt; have v1 := T'.val k k hlt hlt
      obtain ⟨u, h2⟩ := fill_cell0 Hblk.out (k := k) (by simp [HKL.out]; omega)
      have h3 := Hblk.out.frozen k
      clear T'
      go_wp2
      go_roundw
      case rel =>
        refine ⟨k + 1, by omega, by go_num, Lib.hid (Hb.out.setCell (p := ⟨w.heap.size + 1, k, none⟩) (by show W0.heap.size ≤ w.heap.size + 1; have := HSZ.out; omega) _), Lib.hid ?_⟩
        have := Hblk.out.set k (.int .i64 (val2 T k k))
        rwa [fill_set _ _ (by rw [HKL.out]; exact hlt) _ (by simp [HKL.out]) _ (by unfold kinkL; rw [HL0.out, nth_rowOf _ _ _ hlt])] at this
      case measure => simp [intOf]; omega
    · obtain rfl : k = n0 := by omega
      go_wp2
      go_ret
      have hr := Hblk.out
      rw [fill_done _ _ (by rw [HKL.out])] at hr
      exact ⟨_, rfl, Own.of_blk hr (by omega) (by rw [HKL.out]; simp [maxLen]; omega) (by rw [HKL.out]) (by rw [HKL.out]), bb HW.out Hb.out⟩

set_option maxRecDepth 100000 in
set_option maxHeartbeats 800000 in
theorem c_l03Quandle (v0 : Value) (T : List (List Int)) (w : World) (hT : Rows w v0 T) (hp : isTab T = true) :
    Calls Try.prog 69 #[.agg #[v0]] w (RVal w (.bool (all1 T.length (qdF T)))) := by
  obtain ⟨n0, b0, o0, c0, rb0, ro0, rc0, rfl, hl0, hn0, hx0, hc0, hm0, t0⟩ := hT.tab hp
  have HL0 := Lib.hid hl0; clear hl0
  go_enter Try.func69, Try.ntmps69
  go_wp2
  obtain ⟨f0, hW0, hsz⟩ := boxes1 w [.slice (some ⟨b0, o0, none⟩) n0 c0] 45
  obtain ⟨W0, hW⟩ : ∃ W, (w.alloc (.cells #[.slice (some ⟨b0, o0, none⟩) n0 c0] 45)) = W := ⟨_, rfl⟩
  rw [hW] at f0 hW0 hsz ⊢
  have HSZ := Lib.hid hsz
  clear hW hsz
  have cA0 := one_cell f0
  replace t0 := t0.below hW0
  have HT := Lib.hid t0; have HW := Lib.hid hW0
  clear t0 hW0 f0 hT
  go_loop [3] (fun i => ∃ k : Nat, k ≤ n0 ∧ i = .int .i64 k ∧ Hid (∀ x, x < k → qdF T x = true)) (fun i => n0 - (intOf i).toNat)
  case atStart => exact ⟨0, Nat.zero_le _, rfl, Lib.hid (by simp)⟩
  case round =>
    obtain ⟨k, hk, rfl, HA⟩ := hrel
    by_cases hlt : k < n0
    · have r1 := HT.out.row k hlt; have v1 := HT.out.val k k hlt hlt
      by_cases h1 : val2 T k k = k
      · have e1 : (val2 T k k != (k : Int)) = false := by simp [h1]
        have H1 := Lib.hid h1; clear h1
        go_wp2
        go_round
        case rel => exact ⟨k + 1, by omega, by go_num, Lib.hid (lt_snoc HA.out (by simp [qdF, H1.out]))⟩
        case measure => simp [intOf]; omega
      · have e1 : (val2 T k k != (k : Int)) = true := by simp [h1]
        have H1 := Lib.hid h1; clear h1
        go_wp2
        go_ret
        exact ⟨ret_bool (by rw [HL0.out, all1_no hlt (P := qdF T) (by simp [qdF, H1.out])]), HW.out⟩
    · go_wp2
      go_ret
      obtain rfl : k = n0 := by omega
      exact ⟨ret_bool (by rw [HL0.out, all1_iff.2 HA.out]), HW.out⟩

set_option maxRecDepth 100000 in
set_option maxHeartbeats 800000 in
theorem c_IsQuandle (v0 : Value) (T : List (List Int)) (w : World) (hT : Rows w v0 T)  :
    Calls Try.prog 35 #[.agg #[v0]] w (RVal w (.tuple #[.bool (qdRes T), .int .i64 (rkCode T)])) := by
  by_cases hp0 : isRk T = true
  case neg =>
    have hq0 : isRk T = false := by simpa using hp0
    have HQ := Lib.hid hq0; clear hp0
    obtain ⟨a0, c0, rfl, _, _⟩ := hT.shape
    go_enter Try.func35, Try.ntmps35
    go_wp2_with fail
    obtain ⟨f0, hW0, hsz⟩ := boxes1 w [.slice a0 T.length c0] 45
    obtain ⟨W0, hW⟩ : ∃ W, (w.alloc (.cells #[.slice a0 T.length c0] 45)) = W := ⟨_, rfl⟩
    rw [hW] at f0 hW0 hsz ⊢
    clear hW hsz
    refine (c_IsRack _ _ _ (hT.below hW0)).mono ?_; rintro e g0 ⟨rfl, hbg0⟩
    have hB0 := bb hW0 hbg0
    replace f0 := f0.under hbg0
    have cA0 := one_cell f0
    clear hbg0
    have HB := Lib.hid hB0
    clear hB0 hW0
    go_wp2
    go_ret2
    exact ⟨by simp [qdRes, rkCode, HQ.out], HB.out⟩
  have HP0 := Lib.hid hp0
  obtain ⟨a0, c0, rfl, _, _⟩ := hT.shape
  go_enter Try.func35, Try.ntmps35
  go_wp2_with fail
  obtain ⟨f0, hW0, hsz⟩ := boxes1 w [.slice a0 T.length c0] 45
  obtain ⟨W0, hW⟩ : ∃ W, (w.alloc (.cells #[.slice a0 T.length c0] 45)) = W := ⟨_, rfl⟩
  rw [hW] at f0 hW0 hsz ⊢
  clear hW hsz
  refine (c_IsRack _ _ _ (hT.below hW0)).mono ?_; rintro e g0 ⟨rfl, hbg0⟩
  have hB0 := bb hW0 hbg0
  replace f0 := f0.under hbg0
  have cA0 := one_cell f0
  clear hbg0
  have ht := isRk_tab HP0.out
  have HT := Lib.hid ht; clear ht
  go_wp2_with fail
  refine (c_kinkOf _ _ _ (hT.below hB0) HT.out).mono ?_; rintro e w2 ⟨r, rfl, ho, hb⟩
  obtain ⟨ra, rc, rfl, _⟩ := ho.shape
  have HI := Lib.hid ho.ints; have HB := Lib.hid (bb hB0 hb); clear ho hb hB0 hW0 f0 hT
  go_wp2_with fail
  refine (c_isIdentity _ _ _ HI.out).mono ?_; rintro e w3 ⟨rfl, hb⟩
  rw [kink_incr HT.out]
  have HB2 := Lib.hid (bb HB.out hb); clear hb
  go_wp2
  go_ret2
  exact ⟨by simp [qdRes, rkCode, HP0.out], HB2.out⟩
set_option maxRecDepth 100000 in
set_option maxHeartbeats 800000 in
theorem c_specIsQuandle (v0 : Value) (T : List (List Int)) (w : World) (hT : Rows w v0 T)  :
    Calls Try.prog 34 #[.agg #[v0]] w (RVal w (.tuple #[.bool (qdRes T), .int .i64 (rkCode T)])) := by
  by_cases hp0 : isRk T = true
  case neg =>
    have hq0 : isRk T = false := by simpa using hp0
    have HQ := Lib.hid hq0; clear hp0
    obtain ⟨a0, c0, rfl, _, _⟩ := hT.shape
    go_enter Try.func34, Try.ntmps34
    go_wp2_with fail
    obtain ⟨f0, hW0, hsz⟩ := boxes1 w [.slice a0 T.length c0] 45
    obtain ⟨W0, hW⟩ : ∃ W, (w.alloc (.cells #[.slice a0 T.length c0] 45)) = W := ⟨_, rfl⟩
    rw [hW] at f0 hW0 hsz ⊢
    clear hW hsz
    refine (c_l03Is _ _ _ (hT.below hW0)).mono ?_; rintro e g0 ⟨rfl, hbg0⟩
    have hB0 := bb hW0 hbg0
    replace f0 := f0.under hbg0
    have cA0 := one_cell f0
    clear hbg0
    have HB := Lib.hid hB0
    clear hB0 hW0
    go_wp2
    go_ret2
    exact ⟨by simp [qdRes, rkCode, HQ.out], HB.out⟩
  have HP0 := Lib.hid hp0
  obtain ⟨a0, c0, rfl, _, _⟩ := hT.shape
  go_enter Try.func34, Try.ntmps34
  go_wp2_with fail
  obtain ⟨f0, hW0, hsz⟩ := boxes1 w [.slice a0 T.length c0] 45
  obtain ⟨W0, hW⟩ : ∃ W, (w.alloc (.cells #[.slice a0 T.length c0] 45)) = W := ⟨_, rfl⟩
  rw [hW] at f0 hW0 hsz ⊢
  clear hW hsz
  refine (c_l03Is _ _ _ (hT.below hW0)).mono ?_; rintro e g0 ⟨rfl, hbg0⟩
  have hB0 := bb hW0 hbg0
  replace f0 := f0.under hbg0
  have cA0 := one_cell f0
  clear hbg0
  have ht := isRk_tab HP0.out
  have HT := Lib.hid ht; clear ht
  go_wp2_with fail
  refine (c_l03Quandle _ _ _ (hT.below hB0) HT.out).mono ?_; rintro e w3 ⟨rfl, hb⟩
  have HB2 := Lib.hid (bb hB0 hb); clear hb hB0 hW0 f0 hT
  go_wp2
  go_ret2
  exact ⟨by simp [qdRes, rkCode, HP0.out], HB2.out⟩
set_option maxHeartbeats 4000000 in
theorem law_IsQuandle (v0 : Value) (x0 : List (List Int)) (w : World) (hx0 : Rows w v0 x0) :
    Calls Try.prog 7 #[.agg #[v0]] w (RVal w (.bool true)) := by
  obtain ⟨a0, c0, rfl, hc0, hm0⟩ := hx0.shape
  go_enter Try.func7, Try.ntmps7
  go_wp2_with fail
  obtain ⟨bx0, BW, hsz0⟩ := boxes1 w [.slice a0 x0.length c0] 42
  obtain ⟨W0, hW0⟩ : ∃ W, (w.alloc (.cells #[.slice a0 x0.length c0] 42)) = W := ⟨_, rfl⟩
  rw [hW0] at bx0 BW hsz0 ⊢
  have hs0 : w.heap.size + 1 ≤ W0.heap.size := by omega
  clear hW0 hsz0
  refine (c_szRack _ _ _ _ (hx0.below BW) (by omega) (by omega)).mono ?_; rintro e w1 ⟨rfl, hb1⟩
  have hs1 := hb1.size
  replace BW := bb BW hb1
  replace bx0 := bx0.under hb1
  have cA0 := bx0.cell (i := 0) (by simp)
  simp only [List.getElem_cons_zero] at cA0
  clear hb1
  by_cases hg0 : leftR x0 (1048576) < 0
  case pos =>
    have HB := Lib.hid BW; clear BW
    go_wp2
    go_ret
    exact ⟨rfl, HB.out⟩
  have hf0 := leftR_fits (left := 1048576) (by omega) (by omega) hg0
  have Hf0 := Lib.hid hf0
  clear hf0
  have hf0 : x0.length ≤ 1048576 ∧ total x0 ≤ 1048576 ∧ 0 ≤ leftR x0 (1048576) ∧ leftR x0 (1048576) ≤ 1048576 := ⟨Hf0.out.1, Hf0.out.2.2⟩
  obtain ⟨R0, hR0⟩ : ∃ z, z = qdRes x0 := ⟨_, rfl⟩
  obtain ⟨R1, hR1⟩ : ∃ z, z = rkCode x0 := ⟨_, rfl⟩
  have HR0 := Lib.hid hR0
  clear hR0
  have HR1 := Lib.hid hR1
  clear hR1
  have hk0 : (R0 != R0) = false := by simp
  have hk1 : (R1 != R1) = false := by simp
  have hda0 : decide (x0 = x0) = true := by simp
  go_wp2_with fail
  refine (c_toRack _ _ _ (hx0.below BW) hf0.1 Hf0.out.2.1).mono ?_; rintro e w2 ⟨t1, rfl, ot1r, hb2⟩
  have hs2 := hb2.size
  replace BW := bb BW hb2
  replace bx0 := bx0.under hb2
  clear cA0
  have cA0 := bx0.cell (i := 0) (by simp)
  simp only [List.getElem_cons_zero] at cA0
  have ot1 := ot1r.inn
  clear ot1r
  clear hb2
  go_wp2_with fail
  refine (c_specIsQuandle _ _ _ (ot1.rows)).mono ?_
  rw [← HR0.out, ← HR1.out]
  rintro e w3 ⟨rfl, hb3⟩
  have hs3 := hb3.size
  replace ot1 := ot1.under hb3
  replace BW := bb BW hb3
  replace bx0 := bx0.under hb3
  clear cA0
  have cA0 := bx0.cell (i := 0) (by simp)
  simp only [List.getElem_cons_zero] at cA0
  clear ot1
  clear hb3
  go_wp2_with fail
  refine (c_toRack _ _ _ (hx0.below BW) hf0.1 Hf0.out.2.1).mono ?_; rintro e w4 ⟨z0, rfl, oz0r, hb4⟩
  have hs4 := hb4.size
  replace BW := bb BW hb4
  replace bx0 := bx0.under hb4
  clear cA0
  have cA0 := bx0.cell (i := 0) (by simp)
  simp only [List.getElem_cons_zero] at cA0
  have oz0 := oz0r.inn
  clear oz0r
  clear hb4
  obtain ⟨saz0, scz0, hvz0, _, _⟩ := oz0.rows.shape
  subst hvz0
  have cA0z := one_cell (bx0.alloc (.cells #[.slice saz0 x0.length scz0] 45))
  go_wp2_with fail
  clear cA0z
  obtain ⟨bxz0, hb5, hz5⟩ := boxes1 w4 [.slice saz0 x0.length scz0] 45
  obtain ⟨w5, hW5⟩ : ∃ W, w4.alloc (.cells #[.slice saz0 x0.length scz0] 45) = W := ⟨_, rfl⟩
  rw [hW5] at bxz0 hb5 hz5 ⊢
  have hs5 : w4.heap.size + 1 ≤ w5.heap.size := by omega
  clear hW5 hz5
  replace oz0 := oz0.under hb5
  replace BW := bb BW hb5
  replace bx0 := bx0.under hb5
  clear cA0
  have cA0 := bx0.cell (i := 0) (by simp)
  simp only [List.getElem_cons_zero] at cA0
  have cAz0 := bxz0.cell (i := 0) (by simp)
  simp only [List.getElem_cons_zero] at cAz0
  clear hb5
  refine (c_IsQuandle _ _ _ (oz0.rows)).mono ?_
  rw [← HR0.out, ← HR1.out]
  rintro e w6 ⟨rfl, hb6⟩
  have hs6 := hb6.size
  replace oz0 := oz0.under hb6
  replace BW := bb BW hb6
  replace bx0 := bx0.under hb6
  clear cA0
  have cA0 := bx0.cell (i := 0) (by simp)
  simp only [List.getElem_cons_zero] at cA0
  replace bxz0 := bxz0.under hb6
  clear cAz0
  have cAz0 := bxz0.cell (i := 0) (by simp)
  simp only [List.getElem_cons_zero] at cAz0
  clear hb6
  go_wp2_with fail
  have BWd := BW.drew
  have oz0d := oz0.keep ((Keep.refl (fun _ => False) w6).drew) (fun _ _ _ h => h)
  have bx0d := bx0.drew
  have bxz0d := bxz0.drew
  go_region_held3 (fun w' => w'.cell? ⟨w.heap.size, 0, none⟩ = some (.slice a0 x0.length c0) ∧ w'.cell? ⟨w4.heap.size, 0, none⟩ = some (.slice saz0 x0.length scz0))
    (first | go_keep | exact ⟨one_cell (bx0d.under hb7), one_cell (bxz0d.under hb7)⟩ | exact ⟨one_cell ((bx0d.under hb7).under hb8), one_cell ((bxz0d.under hb7).under hb8)⟩)
    ((first | (go_at_call 31; refine (c_toRack _ _ _ (hx0.below BWd) hf0.1 Hf0.out.2.1).mono ?_; rintro e w7 ⟨t7, rfl, ot7, hb7⟩) | (go_at_call 33; refine (c_eqK _ _ _ _ _ (oz0d.under hb7).rows ot7.rows).mono ?_; rintro e w8 ⟨rfl, hb8⟩)))
  have hb8z : Below w6.heap.size w6 w8 := (Below.refl _ _).drew.trans (bb hb7 hb8)
  have hs8 : w6.heap.size ≤ w8.heap.size := hb8z.size
  replace oz0 := oz0.under hb8z
  replace BW := bb BW hb8z
  replace bx0 := bx0.under hb8z
  clear cA0
  have cA0 := bx0.cell (i := 0) (by simp)
  simp only [List.getElem_cons_zero] at cA0
  replace bxz0 := bxz0.under hb8z
  clear cAz0
  have cAz0 := bxz0.cell (i := 0) (by simp)
  simp only [List.getElem_cons_zero] at cAz0
  clear BWd oz0d bx0d bxz0d ot7 hb7 hb8 hb8z
  have HB := Lib.hid BW
  clear BW oz0 hx0 bx0 bxz0
  go_wp2
  go_ret
  exact ⟨rfl, HB.out⟩
end Go.Proofs.Ytdhbleiioagmlaa
