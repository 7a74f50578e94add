/-
  The lengths of a permutation's orbits: the reference's function (l01Greatest, CycleLengths).
-/
import Derived.Test.YtkcobfkmeaakoaaC0
import Derived.Test.YtkcobfkmeaakoaaI17
import Derived.Test.YtkcobfkmeaakoaaLTables
namespace Go.Proofs.Ytkcobfkmeaakoaa
open Go Go.RowKit

noncomputable def clRes (p : List Int) : List Int := if isPerm p then cyL p else []
def clCode (p : List Int) : Int := if isPerm p then 0 else 1
theorem sys_one {p : List Int} (h : isPerm p = true) : SysOk p.length [p] ∧ 1 ≤ p.length ∧ p.length ≤ 12 := by
  simp only [isPerm, Bool.and_eq_true, inR, decide_eq_true_eq] at h
  refine ⟨?_, by omega, by omega⟩
  intro q hq
  simp at hq; subst hq
  exact ⟨h.2, rfl⟩

/-- A slice of one slice, laid anew. -/
theorem one_row {w : World} {v : Value} {p : List Int} (hp : Ints w v p) : Rows (w.alloc (.cells #[v] 25)) (.slice (some ⟨w.heap.size, 0, none⟩) 1 1) [p] := by
  refine ⟨some ⟨w.heap.size, 0, none⟩, 1, rfl, by simp, by decide, fun i hi => ?_⟩
  simp at hi
  obtain rfl : i = 0 := by omega
  refine ⟨w.heap.size, 0, v, rfl, by simp, ?_⟩
  exact hp.below ((Below.refl _ _).alloc (Nat.le_refl _) _)

set_option maxHeartbeats 400000 in
theorem c_l01Greatest (v : Value) (L : List Int) (w : World) (hx : Ints w v L) (hr : ∀ x ∈ L, 0 ≤ x ∧ x < ((1000 : Nat) : Int)) :
    Calls Try.prog 134 #[v] w (fun e w' => e = .returned (.int .i64 (grt L)) ∧ w = w') := by
  obtain ⟨a, c, rfl, hc, hm⟩ := hx.shape
  have HR := Lib.hid hr; clear hr
  go_enter Try.func134, Try.ntmps134
  go_wp2
  go_loopw [3, 4] (fun m i wr => ∃ k : Nat, k ≤ L.length ∧ i = .int .i64 k ∧ m = .int .i64 (grt (L.take k)) ∧ wr = w) (fun _ i _ => L.length - (intOf i).toNat)
  case atStart => exact ⟨0, Nat.zero_le _, rfl, by simp [grt], rfl⟩
  case round =>
    obtain ⟨k, hk, rfl, rfl, rfl⟩ := hrel
    by_cases hlt : k < L.length
    · obtain ⟨b, o, rfl, hcell⟩ := hx.get k hlt
      have h0 := grt_ge (L.take k)
      have h1 := grt_le (L := L.take k) (n := 1000) (fun x hx => (HR.out x (List.mem_of_mem_take hx)).2)
      have h2 := HR.out _ (nth_mem (p := L) (x := k) (by omega) (by omega))
      have hs := grt_snoc L k hlt
      have h00 := h0.1
      generalize hg : grt (L.take k) = g at *
      have HS := Lib.hid hs
      clear hs h0
      by_cases hle : g ≤ nth L k
      · go_wp2
        go_roundw
        case rel => exact ⟨k + 1, by omega, by go_num, by rw [HS.out, if_pos hle], by first | rfl | trivial⟩
        case measure => simp [intOf]; omega
      · go_wp2
        go_roundw
        case rel => exact ⟨k + 1, by omega, by go_num, by rw [HS.out, if_neg hle], by first | rfl | trivial⟩
        case measure => simp [intOf]; omega
    · obtain rfl : k = L.length := by omega
      go_wp2
      go_ret
      exact ⟨ret_int (by rw [List.take_length]), rfl⟩

set_option maxRecDepth 100000 in
set_option maxHeartbeats 4000000 in
theorem c_specCycleLengths (v0 : Value) (p : List Int) (w : World) (hp : Ints w v0 p)  :
    Calls Try.prog 67 #[v0] w (RIntsC w (clRes p) (clCode p)) := by
  by_cases hp0 : isPerm p = true
  case neg =>
    have hq0 : isPerm p = false := by simpa using hp0
    have HQ := Lib.hid hq0; clear hp0
    obtain ⟨a0, c0, rfl, hc0, hm0⟩ := hp.shape
    go_enter Try.func67, Try.ntmps67
    go_wp2_with fail
    refine (c_l01PermV _ _ _ (hp.below (Below.refl _ _))).mono ?_; rintro e g0 ⟨rfl, hbg0⟩
    have hB0 := hbg0
    clear hbg0
    have HB := Lib.hid hB0
    clear hB0
    go_wp2
    go_ret2
    exact ⟨.slice none 0 0, by simp [clCode, HQ.out], by simpa [clRes, HQ.out] using Own.nil _ _, HB.out⟩
  have HP0 := Lib.hid hp0
  obtain ⟨a0, c0, rfl, hc0, hm0⟩ := hp.shape
  go_enter Try.func67, Try.ntmps67
  go_wp2_with fail
  refine (c_l01PermV _ _ _ (hp.below (Below.refl _ _))).mono ?_; rintro e g0 ⟨rfl, hbg0⟩
  have hB0 := hbg0
  clear hbg0
  obtain ⟨hsys, h1, h12⟩ := sys_one HP0.out
  have HSys := Lib.hid hsys
  have HPI := Lib.hid (hp.below hB0)
  have HB0 := Lib.hid hB0
  clear hsys hp hB0
  have hrow := one_row (w := g0) HPI.out
  have HRow := Lib.hid hrow; clear hrow
  have HBa : Hid (Below g0.heap.size g0 (g0.alloc (.cells #[.slice a0 p.length c0] 25))) := Lib.hid ((Below.refl _ _).alloc (Nat.le_refl _) _)
  go_wp2_with fail
  refine (c_l01Orbits p.length _ [p] _ HRow.out h1 h12 (by simp) HSys.out).mono ?_; rintro e w2 ⟨r, rfl, ho, hb2⟩
  obtain ⟨ra, rc, hv, hrc, hrm⟩ := ho.ints.shape
  subst hv
  obtain ⟨L, hL⟩ : ∃ L, orbL [p] p.length = L := ⟨_, rfl⟩
  obtain ⟨n, hn⟩ : ∃ n, p.length = n := ⟨_, rfl⟩
  have hLl : L.length = n := by rw [← hL, orbL_len, hn]
  rw [hL] at ho hrc ⊢
  rw [hLl] at ho hrc ⊢
  have HL := Lib.hid hL; have HN := Lib.hid hn
  have HLr := Lib.hid (fun x hx => show 0 ≤ x ∧ x < (n : Int) by rw [← hn]; exact orbL_mem HSys.out (by rw [hL]; exact hx) : ∀ x ∈ L, 0 ≤ x ∧ x < (n : Int))
  have hgl := grt_le (L := L) (n := n) (fun x hx => (HLr.out x hx).2)
  have hgg := (grt_ge L).1
  have HLl := Lib.hid hLl
  have HLI := Lib.hid ho.ints
  have HB2 := Lib.hid (bb (bb HB0.out HBa.out) hb2)
  rw [hn] at h1 h12
  have hnp := hn
  clear hL hn hLl ho hb2 HRow
  have hO0 : Hid (Own w2.heap.size (w2.alloc (.cells #[] 2)) (.slice (some ⟨w2.heap.size, 0, none⟩) 0 0) []) := Lib.hid (Own.made0 w2 (Nat.le_refl _))
  have hB0 : Hid (Below w2.heap.size w2 (w2.alloc (.cells #[] 2))) := Lib.hid ((Below.refl _ _).alloc (Nat.le_refl _) _)
  obtain ⟨M, hM⟩ : ∃ M, cyM p = M := ⟨_, rfl⟩
  have HM := Lib.hid hM
  have hMl : Hid (∀ s o : Nat, (cyO p s o).length ≤ 24) := Lib.hid (fun s o => by have := cyO_len p s o; have := HN.out; omega)
  have hML : Hid (∀ j : Nat, j < n → nth (cyM p) j = (L.count (j : Int) : Int)) := Lib.hid (fun j hj => by rw [cyM_eq, HN.out, nth_rowOf _ _ _ hj, ← HN.out, HL.out])
  clear hM
  go_wp2
  go_loopw [5, 6, 7, 8, 9] (fun out i _ _ _ wr => ∃ (k : Nat) (xs : List Int) (sa : Option Addr) (sc : Nat), 1 ≤ k ∧ k ≤ n + 1 ∧ i = .int .i64 k ∧ out = .slice sa xs.length sc ∧ Hid (xs = cycS (k - 1) (cyM p)) ∧ Hid (Below w2.heap.size w2 wr) ∧ Hid (Own w2.heap.size wr (.slice sa xs.length sc) xs)) (fun _ i _ _ _ _ => n + 1 - (intOf i).toNat)
  case atStart => exact ⟨1, [], _, _, Nat.le_refl _, by omega, rfl, rfl, Lib.hid (by simp [cycS]), hB0, hO0⟩
  case round =>
    clear hB0 hO0
    obtain ⟨k, xs, sa, sc, hk1, hk2, rfl, rfl, HX, HB, HO⟩ := hrel
    obtain ⟨s, hs⟩ : ∃ s, k = s + 1 := ⟨k - 1, by omega⟩
    have hX0 := HX.out
    rw [hs, Nat.add_sub_cancel] at hX0
    have HX := Lib.hid hX0; have HK := Lib.hid hs; clear hX0 hs
    obtain ⟨wo, rfl⟩ : ∃ wo : World, wo = wr := ⟨_, rfl⟩
    by_cases hlt : k ≤ n
    · go_wp2
      go_loopw [5, 7, 8, 9] (fun out o _ _ wr => ∃ (j : Nat) (xs : List Int) (sa : Option Addr) (sc : Nat), (j : Int) ≤ grt L ∧ o = .int .i64 j ∧ out = .slice sa xs.length sc ∧ Hid (xs = cyO p s j) ∧ Hid (Below w2.heap.size w2 wr) ∧ Hid (Own w2.heap.size wr (.slice sa xs.length sc) xs)) (fun _ o _ _ _ => n - (intOf o).toNat)
      case atStart => exact ⟨0, xs, sa, sc, by omega, rfl, rfl, Lib.hid (by rw [cyO_zero]; exact HX.out), HB, HO⟩
      case round =>
        clear HX HB HO
        obtain ⟨j, xs, sa, sc, hj, rfl, rfl, HX, HB, HO⟩ := hrel
        obtain ⟨wo, rfl⟩ : ∃ wo : World, wo = wr := ⟨_, rfl⟩
        go_wp2_with fail
        refine (c_l01Greatest _ L _ (HLI.out.below HB.out) (fun x hx => by have := HLr.out x hx; omega)).mono ?_; rintro e w' ⟨rfl, rfl⟩
        by_cases hlj : (j : Int) < grt L
        · have hjn : j < n := by omega
          go_wp2
          go_loopw [8, 9] (fun cnt x wr => ∃ (m : Nat), m ≤ n ∧ x = .int .i64 m ∧ cnt = .int .i64 ((L.take m).count (j : Int)) ∧ wr = wo) (fun _ x _ => n - (intOf x).toNat)
          case atStart => exact ⟨0, Nat.zero_le _, rfl, by simp, rfl⟩
          case round =>
            obtain ⟨m, hm, rfl, rfl, rfl⟩ := hrel
            have hcl : ((L.take m).count (j : Int)) ≤ 12 := by
              have := List.count_le_length (a := (j : Int)) (l := L.take m)
              rw [List.length_take] at this; omega
            by_cases hlm : m < n
            · have hml : m < L.length := by rw [HLl.out]; exact hlm
              have hc := (HLI.out.below HB.out).get m hml
              obtain ⟨lb, lo, rfl, hcell⟩ := hc
              have hsn := take_snoc L m hml
              have HSn := Lib.hid hsn; clear hsn hml
              by_cases he : nth L m = (j : Int)
              · have hcn : Hid (((L.take (m + 1)).count (j : Int) : Int) = (L.take m).count (j : Int) + 1) := Lib.hid (by rw [HSn.out, List.count_append, he]; simp)
                go_wp2
                go_roundw
                case rel => exact ⟨m + 1, by omega, by go_num, by rw [hcn.out], by first | rfl | trivial⟩
                case measure => simp [intOf]; omega
              · have hcn : Hid (((L.take (m + 1)).count (j : Int) : Int) = (L.take m).count (j : Int)) := Lib.hid (by rw [HSn.out, List.count_append, List.count_eq_zero.2 (by simp; omega : ¬ (j : Int) ∈ [nth L m])]; simp)
                go_wp2
                go_roundw
                case rel => exact ⟨m + 1, by omega, by go_num, by rw [hcn.out], by first | rfl | trivial⟩
                case measure => simp [intOf]; omega
            · obtain rfl : n = m := by omega
              have hct : Hid (L.take n = L) := Lib.hid (by rw [← HLl.out, List.take_length])
              have hMj := hML.out j hjn
              rw [hct.out] at hcl ⊢
              have HMj := Lib.hid hMj
              have hst := cyO_step (p := p) (s := s) (o := j) (by omega)
              have hlen := hMl.out s j
              rw [← HX.out] at hlen
              have HST := Lib.hid hst
              clear hst hMj hct
              by_cases he : (L.count (j : Int) : Int) = (k : Int)
              · have HE := Lib.hid he
                have Ho := HO; have Hs := Lib.hid HB.out.size; have Hb := HB
                go_wp2_with (at_builtin; refine wpList_app_int w2.heap.size wr _ xs (k : Int) _ _ rfl rfl rfl Ho.out rfl (by omega) Hs.out ?_; intro a' c' w' hown' hkeep; have Hk := Lib.hid hkeep; have Ho' := Lib.hid hown'; clear hkeep hown')
                go_roundw
                case rel => exact ⟨j + 1, xs ++ [(k : Int)], a', c', by omega, by go_num, by simp, Lib.hid (by rw [HST.out, if_pos (by rw [HMj.out, HE.out, HK.out]; rfl), HX.out, HK.out]; rfl), Lib.hid (Ho.out.frame Hb.out (Nat.le_refl _) Hs.out Hk.out), Lib.hid (by simpa using Ho'.out)⟩
                case measure => simp [intOf]; omega
              · have HE := Lib.hid he
                go_wp2
                go_roundw
                case rel => exact ⟨j + 1, _, _, _, by omega, by go_num, rfl, Lib.hid (by rw [HST.out, if_neg (by rw [HMj.out]; have := HE.out; have := HK.out; omega), HX.out]), HB, HO⟩
                case measure => simp [intOf]; omega
        · have hjg : (j : Int) = grt L := by omega
          have HG := Lib.hid hjg
          clear hjg
          go_wp2
          go_roundw
          case rel =>
            refine ⟨k + 1, _, _, _, by omega, by omega, by go_num, rfl, Lib.hid ?_, HB, HO⟩
            rw [Nat.add_sub_cancel, HK.out, ← cyO_done HSys.out s, HX.out, HL.out, ← HG.out, Int.toNat_natCast]
          case measure => simp [intOf]; omega
    · have hsn : s = n := by have := HK.out; omega
      subst hsn
      have HXn : Hid (xs = clRes p) := Lib.hid (by rw [HX.out]; simp [clRes, HP0.out, cyL, HN.out])
      go_wp2
      go_ret2
      exact ⟨.slice sa xs.length sc, by simp [clCode, HP0.out], by rw [← HXn.out]; exact HO.out.mono HB2.out.size, bb HB2.out HB.out⟩
end Go.Proofs.Ytkcobfkmeaakoaa
