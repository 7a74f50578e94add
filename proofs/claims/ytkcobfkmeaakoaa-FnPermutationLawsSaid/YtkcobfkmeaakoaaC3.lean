/-
  The lengths of a permutation's orbits: the program's function (slices.IndexFunc, CycleLengths).
-/
import Derived.Test.YtkcobfkmeaakoaaC1b
import Derived.Test.YtkcobfkmeaakoaaC2
import Derived.Test.YtkcobfkmeaakoaaI18
import Derived.Test.YtkcobfkmeaakoaaI21
namespace Go.Proofs.Ytkcobfkmeaakoaa
open Go Go.RowKit

theorem posI_hit {l : List Int} {k : Nat} (hk : k < l.length) (hn : ∀ x ∈ l.take k, x ≤ 0) (hp : 0 < nth l k) : posI l = k := by
  induction l generalizing k with
  | nil => simp at hk
  | cons a l ih =>
    cases k with
    | zero =>
      have : 0 < a := by simpa [nth] using hp
      simp [posI, this]
    | succ k =>
      have h1 : ¬ 0 < a := by have := hn a (by simp); omega
      have h2 := ih (k := k) (by simp at hk; omega) (fun x hx => hn x (by simp [hx])) (by
        rw [nth_nat _ _ (by simp at hk; omega)]
        rw [nth_nat _ _ hk] at hp
        simpa using hp)
      rw [posI, if_neg h1, h2, if_neg (by omega)]; omega
theorem posI_none {l : List Int} (hn : ∀ x ∈ l, x ≤ 0) : posI l = -1 := by
  induction l with
  | nil => rfl
  | cons a l ih =>
    rw [posI, if_neg (by have := hn a (by simp); omega), ih (fun x hx => hn x (by simp [hx]))]; simp
theorem Ints.dropL {w : World} {b c : Nat} {S : List Int} (h : Blk w b 2 (S.map (Value.int .i64) ++ [])) (hc : S.length ≤ c) (hm : c ≤ maxLen) (z : Nat) (hz : z ≤ S.length) {n m : Nat} (hn : n = S.length - z) (hm' : m = c - z) : Ints w (.slice (some ⟨b, z, none⟩) n m) (S.drop z) := by
  subst hn hm'
  refine ⟨some ⟨b, z, none⟩, c - z, by simp, by simp; omega, by omega, fun i hi => ?_⟩
  simp at hi
  have hl := h.labN (z + i) (by omega)
  refine ⟨b, z, rfl, ?_⟩
  rw [hl]
  congr 2
  rw [nth_nat _ _ (by omega), List.getElem_drop]

theorem eg_cyc1 : ∀ args w, (callFunc 139 args).run Try.prog w = .ok (.enter 139 args) w := Go.Proofs.enters_of Try.func139 (by kernel_rfl) rfl
set_option maxHeartbeats 400000 in
theorem c_cyc1 (x : Int) (w : World) : Calls Try.prog 139 #[.int .i64 x] w (fun e w' => e = .returned (.bool (decide (0 < x))) ∧ w = w') := by
  go_enter Try.func139, Try.ntmps139
  go_wp2
  go_ret
  exact ⟨rfl, rfl⟩
set_option maxHeartbeats 800000 in
theorem c_IndexPos (v : Value) (l : List Int) (w : World) (hx : Ints w v l) (hl : l.length ≤ 1048576) :
    Calls Try.prog 138 #[v, .func (.func 139) #[] #[]] w (fun e w' => e = .returned (.int .i64 (posI l)) ∧ w = w') := by
  obtain ⟨a, c, rfl, hc, hm⟩ := hx.shape
  have eg := eg_cyc1
  go_enter Try.func138, Try.ntmps138
  go_wp2
  go_loopw [8] (fun i wr => ∃ k : Nat, k ≤ l.length ∧ i = .int .i64 k ∧ wr = w ∧ Hid (∀ x ∈ l.take k, x ≤ 0)) (fun i _ => l.length - (intOf i).toNat)
  case atStart => exact ⟨0, Nat.zero_le _, rfl, rfl, Lib.hid (by simp)⟩
  case round =>
    obtain ⟨k, hk, rfl, rfl, HA⟩ := hrel
    by_cases hlt : k < l.length
    · obtain ⟨b, o, rfl, hcell⟩ := hx.get k hlt
      by_cases hp : 0 < nth l k
      · have HP := Lib.hid hp
        go_wp2_with fail
        refine (c_cyc1 _ _).mono ?_; rintro e w' ⟨rfl, rfl⟩
        go_wp2
        go_ret
        exact ⟨ret_int (posI_hit hlt HA.out HP.out).symm, rfl⟩
      · have HP := Lib.hid hp
        go_wp2_with fail
        refine (c_cyc1 _ _).mono ?_; rintro e w' ⟨rfl, rfl⟩
        go_wp2
        go_roundw
        case rel =>
          refine ⟨k + 1, by omega, by go_num, by first | rfl | trivial, Lib.hid ?_⟩
          rw [take_snoc _ _ hlt]
          intro x hx
          rcases List.mem_append.1 hx with h | h
          · exact HA.out x h
          · simp at h; subst h; have := HP.out; omega
        case measure => simp [intOf]; omega
    · go_wp2
      go_ret
      refine ⟨ret_int ?_, rfl⟩
      have h := HA.out
      rw [List.take_of_length_le (by omega)] at h
      exact (posI_none h).symm

set_option maxRecDepth 100000 in
set_option maxHeartbeats 4000000 in
theorem c_CycleLengths (v0 : Value) (p : List Int) (w : World) (hp : Ints w v0 p)  :
    Calls Try.prog 68 #[v0] w (RIntsC w (clRes p) (clCode p)) := by
  by_cases hp0 : isPerm p = true
  case neg =>
    have hq0 : isPerm p = false := by simpa using hp0
    have HQ := Lib.hid hq0; clear hp0
    obtain ⟨a0, c0, rfl, hc0, hm0⟩ := hp.shape
    go_enter Try.func68, Try.ntmps68
    go_wp2_with fail
    refine (c_IsPermutation _ _ _ (hp.below (Below.refl _ _))).mono ?_; rintro e g0 ⟨rfl, hbg0⟩
    have hB0 := hbg0
    clear hbg0
    have HB := Lib.hid hB0
    clear hB0
    go_wp2
    go_ret2
    exact ⟨.slice none 0 0, by simp [clCode, HQ.out], by simpa [clRes, HQ.out] using Own.nil _ _, HB.out⟩
  have HP0 := Lib.hid hp0
  obtain ⟨a0, c0, rfl, hc0, hm0⟩ := hp.shape
  go_enter Try.func68, Try.ntmps68
  go_wp2_with fail
  refine (c_IsPermutation _ _ _ (hp.below (Below.refl _ _))).mono ?_; rintro e g0 ⟨rfl, hbg0⟩
  have hB0 := hbg0
  clear hbg0
  obtain ⟨hsys, h1, h12⟩ := sys_one HP0.out
  have HSys := Lib.hid hsys
  have HPI := Lib.hid (hp.below hB0)
  have HB0 := Lib.hid hB0
  clear hsys hp hB0
  have hmk := run_make_row' (P := Try.prog) 25 2 (.int .i64 0) 8 Try.underlying25 inf_int64 rfl .i64 .i64 p.length (by omega) (by omega)
  have hb1 : Hid (Below g0.heap.size g0 (g0.alloc (.cells (madeCells #[.int .i64 0] p.length) 2))) := Lib.hid ((Below.refl _ _).alloc (Nat.le_refl _) _)
  have hk1 : Hid (Blk (g0.alloc (.cells (madeCells #[.int .i64 0] p.length) 2)) g0.heap.size 2 ((List.replicate p.length (0 : Int)).map (Value.int .i64) ++ [])) := by
    have := Blk.made g0 (.int .i64 0) p.length 2
    show Blk _ _ _ _
    simpa using this
  have hrow : Hid (Rows ((g0.alloc (.cells (madeCells #[.int .i64 0] p.length) 2)).alloc (.cells #[.slice a0 p.length c0] 25)) (.slice (some ⟨g0.heap.size + 1, 0, none⟩) 1 1) [p]) := Lib.hid (by
    have := one_row (HPI.out.below hb1.out)
    simpa using this)
  have hBW : Hid (Below g0.heap.size g0 ((g0.alloc (.cells (madeCells #[.int .i64 0] p.length) 2)).alloc (.cells #[.slice a0 p.length c0] 25))) := Lib.hid (hb1.out.alloc hb1.out.size _)
  have hkW : Hid (Blk ((g0.alloc (.cells (madeCells #[.int .i64 0] p.length) 2)).alloc (.cells #[.slice a0 p.length c0] 25)) g0.heap.size 2 ((List.replicate p.length (0 : Int)).map (Value.int .i64) ++ [])) := Lib.hid (hk1.out.alloc _)
  have hsW : Hid (g0.heap.size < ((g0.alloc (.cells (madeCells #[.int .i64 0] p.length) 2)).alloc (.cells #[.slice a0 p.length c0] 25)).heap.size) := Lib.hid (by simp; omega)
  go_wp2_with fail
  generalize (g0.alloc (.cells (madeCells #[.int .i64 0] p.length) 2)).alloc (.cells #[.slice a0 p.length c0] 25) = W1 at hrow hBW hkW hsW ⊢
  refine (c_orbitLabels p.length _ [p] _ hrow.out h1 h12 (by simp) HSys.out).mono ?_; rintro e w2 ⟨r, rfl, ho, hb2⟩
  obtain ⟨ra, rc, hv, hrc, hrm⟩ := ho.ints.shape
  subst hv
  obtain ⟨L, hL⟩ : ∃ L, orbL [p] p.length = L := ⟨_, rfl⟩
  have hLl : L.length = p.length := by rw [← hL, orbL_len]
  rw [hL] at ho hrc ⊢
  rw [hLl] at ho hrc ⊢
  have HL := Lib.hid hL; have HLl := Lib.hid hLl
  have HLr := Lib.hid (fun y hy => by rw [← hL]; exact orbL_range HSys.out hy : ∀ y : Nat, y < p.length → 0 ≤ nth L y ∧ nth L y < p.length)
  have HO := Lib.hid ho
  have HB2 := Lib.hid (bb hBW.out hb2)
  have hK0 : Hid (Keep (fun b => b = g0.heap.size) w2 w2) := Lib.hid (Keep.refl _ _)
  have hk2 : Hid (Blk w2 g0.heap.size 2 ((cnt L p.length 0).map (Value.int .i64) ++ [])) := Lib.hid (by rw [cnt_zero]; exact hkW.out.under hb2)
  have HCM : Hid (cnt L p.length p.length = cyM p) := Lib.hid (by rw [← hL]; rfl)
  clear hL hLl ho hb2 hrow hBW hkW hmk hb1 hk1
  go_wp2
  go_loopw [19, 6] (fun i _ wr => ∃ k : Nat, k ≤ p.length ∧ i = .int .i64 k ∧ Hid (Keep (fun b => b = g0.heap.size) w2 wr) ∧ Hid (Blk wr g0.heap.size 2 ((cnt L p.length k).map (Value.int .i64) ++ []))) (fun i _ _ => p.length - (intOf i).toNat)
  case atStart => exact ⟨0, Nat.zero_le _, rfl, hK0, hk2⟩
  case round =>
    clear hK0 hk2
    obtain ⟨k, hk, rfl, HK, HC⟩ := hrel
    by_cases hlt : k < p.length
    · have hLI : Ints wr (.slice ra p.length rc) L := (HO.out.keep HK.out (fun b h1 h2 h3 => by have := hsW.out; omega)).ints
      obtain ⟨lb, lo, rfl, hcell⟩ := hLI.get k (by rw [HLl.out]; exact hlt)
      have hr := HLr.out k hlt
      obtain ⟨u, hu⟩ : ∃ u : Nat, nth L k = u := ⟨(nth L k).toNat, by omega⟩
      rw [hu] at hcell
      have hun : u < p.length := by omega
      have hcv := cnt_nth (X := L) (n := p.length) (k := k) (o := (u : Int)) (by omega) (by omega)
      have hcl := List.count_le_length (a := (u : Int)) (l := L.take k)
      rw [List.length_take] at hcl
      obtain ⟨cc, hcc⟩ : ∃ cc : Int, nth (cnt L p.length k) u = cc := ⟨_, rfl⟩
      have hc0 : 0 ≤ cc ∧ cc ≤ 12 := by omega
      obtain ⟨hc00, hc01⟩ := hc0
      have c1 := HC.out.labN u (by simpa using hun)
      rw [hcc] at c1
      have f1 := HC.out.frozen u
      have hset := HC.out.labSet (u : Int) (by omega) (by simpa using hun) (cc + 1)
      have hst := cnt_step (X := L) (n := p.length) (k := k) (by rw [HLl.out]; exact hlt) hr.1 hr.2
      rw [hu, hcc] at hst
      rw [hst, Int.toNat_natCast] at hset
      have HSt := Lib.hid hset
      have hkk := Lib.hid (HK.out.setCell (p := ⟨g0.heap.size, u, none⟩) (.inl rfl) (.int .i64 (cc + 1)))
      clear hset hst hcc hcv hcl hu hr hLI
      go_wp2
      go_roundw
      case rel => exact ⟨k + 1, by omega, by go_num, hkk, HSt⟩
      case measure => simp [intOf]; omega
    · obtain rfl : p.length = k := by omega
      have hC := HC.out
      rw [HCM.out] at hC
      have hMl : (cyM p).length = p.length := by simp [cyM]
      have hsort := c_Sort g0.heap.size p.length (cyM p) wr hC (by omega) (by omega) (by omega)
      rw [hMl] at hsort
      have HSort := Lib.hid hsort; have HMl := Lib.hid hMl
      clear hsort hMl hC
      go_wp2_with fail
      refine HSort.out.mono ?_; rintro e w3 ⟨⟨v3, rfl⟩, S, hp1, hp2, hbk, hkk⟩
      have hS := sort_is (M := cyM p) (S := S) (n := p.length + 1) (cyM_range p) hp1 hp2
      obtain ⟨e1, e2, e3⟩ := cyS_parts HSys.out h1 hS
      obtain ⟨z, hz⟩ : ∃ z, (cyM p).count 0 = z := ⟨_, rfl⟩
      rw [hz] at e1 e2 e3
      have hSl : S.length = p.length := by rw [hp1.length_eq, HMl.out]
      have hSI := Ints.dropL hbk (Nat.le_refl _) (by rw [hSl]; unfold maxLen; omega) 0 (Nat.zero_le _) (n := p.length) (m := p.length) (by omega) (by omega)
      rw [List.drop_zero] at hSI
      have hSD := Ints.dropL hbk (Nat.le_refl _) (by rw [hSl]; unfold maxLen; omega) z (by omega) (n := p.length - z) (m := p.length - z) (by omega) (by omega)
      rw [e3] at hSD
      have hzn : z < p.length := by omega
      have hzne : ¬ (p.length = z) := by omega
      have HE1 := Lib.hid e1; have HSI := Lib.hid hSI; have HSD := Lib.hid hSD
      have hcl : (cyL p).length ≤ 1048576 := by rw [← e3, List.length_drop]; omega
      have HCL := Lib.hid hcl
      have HSL := Lib.hid hSl
      have HB3 := Lib.hid (show Below g0.heap.size g0 w3 from HB2.out.trans ((HK.out.trans hkk).below fun b hb => ⟨by have := HB2.out.size; omega, fun e => by have e : b = g0.heap.size := e; omega⟩))
      clear hS e1 e2 e3 hz hbk hkk hp1 hp2 hSI hSD hcl hSl
      go_wp2_with fail
      refine (c_IndexPos _ S _ HSI.out (by rw [HSL.out]; omega)).mono ?_; rintro e w4 ⟨rfl, rfl⟩
      rw [HE1.out]
      go_wp2_with fail
      refine (c_Clone _ (cyL p) _ HSD.out HCL.out).mono ?_; rintro e w4 ⟨r, rfl, ho4, hb4⟩
      have HO4 := Lib.hid ho4; have HB4 := Lib.hid hb4
      clear ho4 hb4
      go_wp2
      go_ret2
      exact ⟨r, by simp [clCode, HP0.out], by simpa [clRes, HP0.out] using HO4.out.mono (by have := HB0.out.size; have := HB3.out.size; omega), bb (bb HB0.out HB3.out) HB4.out⟩
end Go.Proofs.Ytkcobfkmeaakoaa
