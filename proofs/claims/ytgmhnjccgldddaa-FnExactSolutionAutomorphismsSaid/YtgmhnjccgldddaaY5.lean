/-
  The program's iterator over isomorphisms: it hands all of them, in lexicographic order.
-/
import Derived.Test.YtgmhnjccgldddaaY4
import Derived.Test.YtgmhnjccgldddaaI3
namespace Go.Proofs.Ytgmhnjccgldddaa
set_option linter.unusedVariables false
set_option linter.unusedSimpArgs false
open Go Go.RowKit

theorem three (W : World) (o1 o2 o3 : Obj) : (((W.alloc o1).alloc o2).alloc o3).drew.heap[W.heap.size]? = some o1 ∧ (((W.alloc o1).alloc o2).alloc o3).drew.heap[W.heap.size + 1]? = some o2 ∧ (((W.alloc o1).alloc o2).alloc o3).drew.heap[W.heap.size + 1 + 1]? = some o3 ∧ (((W.alloc o1).alloc o2).alloc o3).drew.heap.size = W.heap.size + 3 := by
  have h1 := heap_alloc_new W o1
  have h2 := heap_alloc_new (W.alloc o1) o2
  have h3 := heap_alloc_new ((W.alloc o1).alloc o2) o3
  have e1 : (W.alloc o1).heap.size = W.heap.size + 1 := by simp
  have e2 : ((W.alloc o1).alloc o2).heap.size = W.heap.size + 1 + 1 := by simp
  rw [e1] at h2
  rw [e2] at h3
  refine ⟨?_, ?_, h3, by simp [World.drew]⟩
  · show (((W.alloc o1).alloc o2).alloc o3).heap[W.heap.size]? = some o1
    rw [Below.heap_alloc _ _ _ (by simp; omega), Below.heap_alloc _ _ _ (by simp)]; exact h1
  · show (((W.alloc o1).alloc o2).alloc o3).heap[W.heap.size + 1]? = some o2
    rw [Below.heap_alloc _ _ _ (by simp)]; exact h2
theorem map_new {V : World} {mb ib ub n mz : Nat} {vF vG : Value} (hi : V.heap[ib]? = some (.cells (madeCells #[.int .i64 0] n) 2)) (hu : V.heap[ub]? = some (.cells (madeCells #[.bool false] n) 4))
    (hm : V.heap[mb]? = some (.cells #[vF, vG, .slice (some ⟨ib, 0, none⟩) n n, .slice (some ⟨ub, 0, none⟩) n n, .slice none 0 0] 77)) (ne : mb ≠ ib ∧ mb ≠ ub ∧ ib ≠ ub ∧ mb < mz + 3 ∧ ib < mz + 3 ∧ ub < mz + 3) (lo : mz ≤ mb ∧ mz ≤ ib ∧ mz ≤ ub) :
    MapAt V mb ib ub n (mz + 3) vF vG none 0 (List.replicate n 0) (List.replicate n false) [] ∧ (mz ≤ mb ∧ mz ≤ ib ∧ mz ≤ ub) := by
  refine ⟨⟨hm, ?_, ?_, Own.nil _ _, ne⟩, lo⟩
  · unfold Blk
    rw [hi]
    congr 2
    apply Array.ext'
    rw [toList_madeCells_one]; simp
  · unfold Blk
    rw [hu]
    congr 2
    apply Array.ext'
    rw [toList_madeCells_one]; simp
theorem MapAt.putI {w : World} {mb ib ub n L : Nat} {vF vG : Value} {a : Option Addr} {c : Nat} {im : List Int} {us : List Bool} {st : List Int} (h : MapAt w mb ib ub n L vF vG a c im us st) (k : Nat) (u : Int) : MapAt (w.setCell ⟨ib, k, none⟩ (.int .i64 u)) mb ib ub n L vF vG a c (im.set k u) us st := by
  obtain ⟨n1, n2, n3, n4, n5, n6⟩ := h.ne
  refine ⟨h.box.other n1 _, ?_, h.usb.other (a := ⟨ib, k, none⟩) (fun e => n3 e.symm) _, ?_, h.ne⟩
  · have := h.imb.set k (.int .i64 u)
    rwa [← List.map_set] at this
  · refine h.own.keepB (S := fun b => b = ib) ((Keep.refl (fun b => b = ib) w).setCell (p := ⟨ib, k, none⟩) (.inl rfl) _) fun b hb e => ?_
    have := (h.own.ownLt hb).1
    have e : b = ib := e
    omega
theorem fill_one (n k : Nat) (hk : k < n) : (List.replicate k (-1 : Int) ++ List.replicate (n - k) 0).set k (-1) = List.replicate (k + 1) (-1) ++ List.replicate (n - (k + 1)) 0 := by
  rw [List.set_append_right _ _ (by simp)]
  simp only [List.length_replicate, Nat.sub_self]
  rw [show n - k = (n - (k + 1)) + 1 by omega, List.replicate_succ, List.set_cons_zero, List.replicate_succ', List.append_assoc]
  rfl
theorem cut_waysY {p G : Prop} (k : Hid p → G) (h : p) : G := k (Lib.hid h)
theorem made1 (W : World) (o1 : Obj) : Below W.heap.size W (W.alloc o1).drew := ((Below.refl _ W).alloc (Nat.le_refl _) _).drew
theorem made2 (W : World) (o1 o2 : Obj) : Below W.heap.size W ((W.alloc o1).alloc o2).drew := (((Below.refl _ W).alloc (Nat.le_refl _) _).alloc (by simp) _).drew
theorem made3 (W : World) (o1 o2 o3 : Obj) : Below W.heap.size W (((W.alloc o1).alloc o2).alloc o3).drew := ((((Below.refl _ W).alloc (Nat.le_refl _) _).alloc (by simp) _).alloc (by simp; omega) _).drew
theorem eg_iso1 : ∀ args w, (callFunc 53 args).run Try.prog w = .ok (.enter 53 args) w := Go.Proofs.enters_of Try.func53 (by kernel_rfl) rfl
set_option maxHeartbeats 400000 in
theorem c_isomorphisms (b1 o1 n1 k1 b2 o2 n2 k2 : Nat) (w : World) :
    Calls Try.prog 36 #[.slice (some ⟨b1, o1, none⟩) n1 k1, .slice (some ⟨b2, o2, none⟩) n2 k2] w (fun e w' => ∃ g1 g2, e = .returned (.func (.func 53) #[] #[.pointer (some ⟨g1, 0, none⟩), .pointer (some ⟨g2, 0, none⟩)]) ∧
      w'.cell? ⟨g1, 0, none⟩ = some (.slice (some ⟨b1, o1, none⟩) n1 k1) ∧ w'.cell? ⟨g2, 0, none⟩ = some (.slice (some ⟨b2, o2, none⟩) n2 k2) ∧ Below w.heap.size w w') := by
  obtain ⟨f0, f1, hW0, hsz⟩ := boxes2 w [.slice (some ⟨b1, o1, none⟩) n1 k1] [.slice (some ⟨b2, o2, none⟩) n2 k2] 59 59
  have hf := one_cell f0
  have hg := one_cell f1
  have HW := Lib.hid hW0; have HF := Lib.hid hf; have HG := Lib.hid hg
  clear f0 f1 hW0 hsz hf hg
  go_enter Try.func36, Try.ntmps36
  go_wp2
  go_ret
  exact ⟨w.heap.size, w.heap.size + 1, by simp, HF.out, HG.out, HW.out⟩

/-- The other number of elements: nothing is handed. -/
theorem c_iso1_none {m : Nat} {v1 v2 : Value} {fb fo n1 fc gb go' n2 gc K1 K2 c1 c2 : Nat} {tb1 to1 tb2 to2 : Nat} (N g1 g2 : Nat) (w : World) (hb1 : w.cell? ⟨g1, 0, none⟩ = some (.slice (some ⟨fb, fo, none⟩) K1 fc)) (hb2 : w.cell? ⟨g2, 0, none⟩ = some (.slice (some ⟨gb, go', none⟩) K2 gc))
    (hk1 : 0 < K1) (hk2 : 0 < K2) (h1 : w.cell? ⟨fb, fo, none⟩ = some (.slice (some ⟨tb1, to1, none⟩) n1 c1)) (h2 : w.cell? ⟨gb, go', none⟩ = some (.slice (some ⟨tb2, to2, none⟩) n2 c2)) (hne : n1 ≠ n2) (Z : World → Prop) :
    SeqRowsK Fence.wide N Try.prog 53 #[.pointer (some ⟨g1, 0, none⟩), .pointer (some ⟨g2, 0, none⟩)] [] Z w := by
  intro l J Jx W1 hb _ hJ hJx h0 hY
  have q1 := cell_under hb hb1; have q2 := cell_under hb hb2; have q3 := cell_under hb h1; have q4 := cell_under hb h2
  have H0 := Lib.hid h0
  have hne2 : ((n2 : Int) != (n1 : Int)) = true := by simp; omega
  have p1 : (0 : Int) < K1 := by omega
  have p2 : (0 : Int) < K2 := by omega
  clear hJ hJx h0 hY hb hb1 hb2 h1 h2
  refine callsIn_wide.2 ?_
  show Calls Try.prog 53 #[.func (.yield l) #[] #[], .pointer (some ⟨g1, 0, none⟩), .pointer (some ⟨g2, 0, none⟩)] W1 _
  go_enter Try.func53, Try.ntmps53
  go_wp2
  refine bodyPost_ret (results_none rfl _ _ _) rfl ?_
  exact ⟨⟨_, rfl⟩, .inl ⟨_, H0.out _ (Below.refl _ _)⟩⟩
set_option maxRecDepth 100000 in
set_option maxHeartbeats 8000000 in
theorem c_iso1 {n K : Nat} {F G : List (List (List Int))} (w0 : World) {fb fo fc gb go' gc : Nat} {tb to tc tb' to' tc' : Nat → Nat} {rb ro rc rb' ro' rc' : Nat → Nat → Nat} (hF : Tb3 w0 fb fo n K F tb to tc rb ro rc) (hG : Tb3 w0 gb go' n K G tb' to' tc' rb' ro' rc')
    (hKF : K = F.length) (hKG : K = G.length) (hn : n ≤ 12) (hK : K ≤ 12) (hK0 : 0 < K) (hfc : K ≤ fc) (hgc : K ≤ gc) (N g1 g2 : Nat) (w : World) (hw : Below w0.heap.size w0 w) (hb1 : w.cell? ⟨g1, 0, none⟩ = some (.slice (some ⟨fb, fo, none⟩) K fc)) (hb2 : w.cell? ⟨g2, 0, none⟩ = some (.slice (some ⟨gb, go', none⟩) K gc)) :
    SeqRowsK Fence.wide N Try.prog 53 #[.pointer (some ⟨g1, 0, none⟩), .pointer (some ⟨g2, 0, none⟩)] (isoAll n F G) (Below w0.heap.size w0) w := by
  intro l J Jx W1 hb hZ hJ hJx h0 hY
  have q1 := cell_under hb hb1; have q2 := cell_under hb hb2
  have hw1 : Below w0.heap.size w0 W1 := bb hw hb
  have q3 := (hF.below hw1).tab 0 hK0
  have q4 := (hG.below hw1).tab 0 hK0
  simp only [Nat.add_zero] at q3 q4
  have p1 : (0 : Int) < K := by omega
  have hmk1 := run_make_row' (P := Try.prog) 26 2 (.int .i64 0) 8 Try.underlying26 inf_int64 rfl .i64 .i64 n (by omega) (by omega)
  have hmk2 := run_make_row' (P := Try.prog) 75 4 (.bool false) 1 Try.underlying75 inf_bool rfl .i64 .i64 n (by omega) (by omega)
  refine callsIn_wide.2 ?_
  show Calls Try.prog 53 #[.func (.yield l) #[] #[], .pointer (some ⟨g1, 0, none⟩), .pointer (some ⟨g2, 0, none⟩)] W1 _
  have HEx : Hid (∀ (mb ib ub L : Nat) (hlo : W1.heap.size ≤ mb ∧ W1.heap.size ≤ ib ∧ W1.heap.size ≤ ub), _) := Lib.hid fun mb ib ub L hlo => c_extend w0 W1 hw1 hF hG hKF hKG hn hK hfc hgc mb ib ub L hlo l (N - 1) J Jx hZ hJ hJx h0 hY (n + 1) ⟨List.replicate n (-1), List.replicate n false, []⟩ none 0
  have H0 := Lib.hid h0
  clear hF hG hKF hKG hZ hJ hJx h0 hY hb hb1 hb2 hw hw1
  go_enter Try.func53, Try.ntmps53
  have e1 := cell_lt q1
  have e2 := cell_lt q2
  simp only at e1 e2
  have Q1 := Lib.hid q1; have Q2 := Lib.hid q2
  obtain ⟨mz, hmz⟩ : ∃ z, z = W1.heap.size := ⟨_, rfl⟩
  have HMZ := Lib.hid hmz
  go_wp2_with fail
  apply cut_waysY
  · intro key
    go_region_held3 (fun w' => w'.cell? ⟨g1, 0, none⟩ = some (.slice (some ⟨fb, fo, none⟩) K fc) ∧ w'.cell? ⟨g2, 0, none⟩ = some (.slice (some ⟨gb, go', none⟩) K gc)) (first | exact ⟨Q1.out, Q2.out⟩ | exact ⟨cell_under (made1 W1 _) Q1.out, cell_under (made1 W1 _) Q2.out⟩ | exact ⟨cell_under (made2 W1 _ _) Q1.out, cell_under (made2 W1 _ _) Q2.out⟩ | exact ⟨cell_under (made3 W1 _ _ _) Q1.out, cell_under (made3 W1 _ _ _) Q2.out⟩) (fail)
    all_goals
      rename_i hHz
      clear hHz
      generalize hV : World.drew (World.alloc (World.alloc (World.alloc W1 _) _) _) = V
      obtain ⟨t0, t1, t2, t3⟩ := three W1 _ _ _
      rw [hV] at t0 t1 t2 t3
      have HB := Lib.hid (show Below W1.heap.size W1 V by rw [← hV]; exact made3 W1 _ _ _)
      have HSz := Lib.hid (show mz + 3 ≤ V.heap.size by omega)
      clear hV
      first
        | (have hMz := map_new (mz := mz) (vF := .slice (some ⟨fb, fo, none⟩) K fc) (vG := .slice (some ⟨gb, go', none⟩) K gc) t0 t1 t2 (by omega) (by omega); generalize W1.heap.size + 1 + 1 = mb at hMz ⊢; generalize W1.heap.size + 1 = ub at hMz ⊢; generalize W1.heap.size = ib at hMz ⊢; have HMz := Lib.hid hMz; clear hMz)
        | (have hMz := map_new (mz := mz) (vF := .slice (some ⟨fb, fo, none⟩) K fc) (vG := .slice (some ⟨gb, go', none⟩) K gc) t0 t2 t1 (by omega) (by omega); generalize W1.heap.size + 1 + 1 = ub at hMz ⊢; generalize W1.heap.size + 1 = mb at hMz ⊢; generalize W1.heap.size = ib at hMz ⊢; have HMz := Lib.hid hMz; clear hMz)
        | (have hMz := map_new (mz := mz) (vF := .slice (some ⟨fb, fo, none⟩) K fc) (vG := .slice (some ⟨gb, go', none⟩) K gc) t1 t0 t2 (by omega) (by omega); generalize W1.heap.size + 1 + 1 = mb at hMz ⊢; generalize W1.heap.size + 1 = ib at hMz ⊢; generalize W1.heap.size = ub at hMz ⊢; have HMz := Lib.hid hMz; clear hMz)
        | (have hMz := map_new (mz := mz) (vF := .slice (some ⟨fb, fo, none⟩) K fc) (vG := .slice (some ⟨gb, go', none⟩) K gc) t1 t2 t0 (by omega) (by omega); generalize W1.heap.size + 1 + 1 = ub at hMz ⊢; generalize W1.heap.size + 1 = ib at hMz ⊢; generalize W1.heap.size = mb at hMz ⊢; have HMz := Lib.hid hMz; clear hMz)
        | (have hMz := map_new (mz := mz) (vF := .slice (some ⟨fb, fo, none⟩) K fc) (vG := .slice (some ⟨gb, go', none⟩) K gc) t2 t0 t1 (by omega) (by omega); generalize W1.heap.size + 1 + 1 = ib at hMz ⊢; generalize W1.heap.size + 1 = mb at hMz ⊢; generalize W1.heap.size = ub at hMz ⊢; have HMz := Lib.hid hMz; clear hMz)
        | (have hMz := map_new (mz := mz) (vF := .slice (some ⟨fb, fo, none⟩) K fc) (vG := .slice (some ⟨gb, go', none⟩) K gc) t2 t1 t0 (by omega) (by omega); generalize W1.heap.size + 1 + 1 = ib at hMz ⊢; generalize W1.heap.size + 1 = ub at hMz ⊢; generalize W1.heap.size = mb at hMz ⊢; have HMz := Lib.hid hMz; clear hMz)
      clear t0 t1 t2 t3
      revert HMz HSz HB
      revert mb
      revert ub
      revert ib
      revert V
      exact key.out
  intro V ib ub mb HB HSz HMz
  obtain ⟨hM0, hlo⟩ := HMz.out
  rw [HMZ.out] at hlo
  have HEx2 := Lib.hid (HEx.out mb ib ub (mz + 3) hlo)
  have HLo := Lib.hid hlo
  have HM := Lib.hid hM0
  clear HMz hM0 HEx hlo
  obtain ⟨m0, m1, m2, m3, m4, m5⟩ := HM.out.cells
  go_wp2
  go_loopw [27] (fun v wr => ∃ k : Nat, k ≤ n ∧ v = .int .i64 k ∧ Hid (MapAt wr mb ib ub n (mz + 3) (.slice (some ⟨fb, fo, none⟩) K fc) (.slice (some ⟨gb, go', none⟩) K gc) none 0 (List.replicate k (-1) ++ List.replicate (n - k) 0) (List.replicate n false) []) ∧ Hid (Below W1.heap.size W1 wr) ∧ Hid (mz + 3 ≤ wr.heap.size)) (fun v _ => n - (intOf v).toNat)
  case atStart => exact ⟨0, Nat.zero_le _, rfl, by simpa using HM, HB, HSz⟩
  case round =>
    clear HM HB HSz m0 m1 m2 m3 m4 m5
    obtain ⟨k, hk, rfl, HM, HB, HSz⟩ := hrel
    obtain ⟨wo, rfl⟩ : ∃ wo : World, wo = wr := ⟨_, rfl⟩
    obtain ⟨m0, m1, m2, m3, m4, m5⟩ := HM.out.cells
    by_cases hkn : k < n
    · obtain ⟨gi, gi2⟩ := HM.out.imc k (by omega) (by simp; omega)
      simp only [Int.toNat_natCast] at gi gi2
      have HM2 := Lib.hid (HM.out.putI k (-1))
      rw [fill_one n k hkn] at HM2
      have hib : W1.heap.size ≤ ib := HLo.out.2.1
      go_wp2
      go_roundw
      case rel => exact ⟨k + 1, by omega, by go_num, HM2, Lib.hid (HB.out.setCell (p := ⟨ib, k, none⟩) hib _), Lib.hid (by simpa [World.setCell] using HSz.out)⟩
      case measure => simp [intOf]; omega
    · obtain rfl : n = k := by omega
      have hM := HM.out
      rw [Nat.sub_self, List.replicate_zero, List.append_nil] at hM
      have HC := HEx2.out wo [] [] (Mp.start n) (by simp) (fun y hy => by simp at hy) hM (.inl ⟨rfl, HB.out⟩) (by simp [isoM_start]) HSz.out
      have HCx := Lib.hid HC
      clear HC hM HEx2
      go_wp2_with fail
      refine HCx.out.mono ?_; rintro e w5 (⟨rfl, a, c, hM5, hP5, hL5⟩ | ⟨rfl, hi, k', a, c, hJ5, hmb, hM5⟩)
      · have P5 := Lib.hid hP5
        clear hM5 hP5 hL5
        go_wp2
        go_end0
        refine ⟨⟨_, rfl⟩, .inl ?_⟩
        have h := P5.out
        rw [isoM_start, List.length_nil, Nat.zero_add] at h
        rcases h with ⟨h1, h2⟩ | ⟨hi, h1, _⟩
        · exact ⟨_, by rw [h1]; exact H0.out _ h2⟩
        · exact ⟨hi, h1⟩
      · have J5 := Lib.hid hJ5
        clear hM5 hJ5 hmb
        go_wp2
        go_end0
        exact ⟨⟨_, rfl⟩, .inr ⟨hi, k', J5.out⟩⟩
end Go.Proofs.Ytgmhnjccgldddaa
