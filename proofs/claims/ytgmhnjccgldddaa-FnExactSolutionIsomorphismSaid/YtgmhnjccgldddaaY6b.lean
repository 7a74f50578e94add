/-
  SolutionIsomorphism: the program's function at two pair maps.
-/
import Derived.Test.YtgmhnjccgldddaaY6
namespace Go.Proofs.Ytgmhnjccgldddaa
set_option linter.unusedVariables false
set_option linter.unusedSimpArgs false
open Go Go.RowKit Go.Shelf
attribute [local go_sem] Oper.semAt_some

set_option maxRecDepth 100000 in
set_option maxHeartbeats 4000000 in
theorem c_SolutionIsomorphism (v0 u0 v1 u1 : Value) (A B C D : List (List Int)) (w : World) (hA : Sol w v0 u0 A B) (hC : Sol w v1 u1 C D) :
    Calls Try.prog 9 #[.agg #[v0, u0], .agg #[v1, u1]] w (RIntsC w (isoRes A B C D) (isoCode A B C D)) := by
  by_cases hp : (isPM A B && isPM C D) = true
  case neg => exact c_SolutionIsomorphism_neg v0 u0 v1 u1 A B C D w hA hC hp
  have hp1 : isPM A B = true := by simp at hp; exact hp.1
  have hp2 : isPM C D = true := by simp at hp; exact hp.2
  have HRes := Lib.hid (show isoRes A B C D = (isoL A B C D).headD [] ∧ isoCode A B C D = (if (isoL A B C D).isEmpty then 4 else 0) by simp only [isoRes, isoCode, if_pos hp]; exact ⟨trivial, trivial⟩)
  obtain ⟨n, b0, o0, c0, rb0, ro0, rc0, b0s, o0s, c0s, rb0s, ro0s, rc0s, rfl, rfl, hl0, hl0s, hn0, hx0, hc0, hm0, hc0s, hm0s, t0, t0s⟩ := hA.tabs hp1
  obtain ⟨m, b1, o1, c1, rb1, ro1, rc1, b1s, o1s, c1s, rb1s, ro1s, rc1s, rfl, rfl, hl1, hl1s, hn1, hx1, hc1, hm1, hc1s, hm1s, t1, t1s⟩ := hC.tabs hp2
  obtain ⟨f0, f1, f2, f3, hB0, hsz⟩ := boxes4 w [.slice (some ⟨b0, o0, none⟩) n c0, .slice (some ⟨b0s, o0s, none⟩) n c0s] [.slice (some ⟨b1, o1, none⟩) m c1, .slice (some ⟨b1s, o1s, none⟩) m c1s] [.slice none 0 0] [.int .i64 0] 29 29 26 2
  obtain ⟨z0, z1, -, -⟩ := two_cells f0
  obtain ⟨z2, z3, -, -⟩ := two_cells f1
  have z4 := one_cell f2; have z5 := one_cell f3; have z6 := f2.frozen 0; have z7 := f3.frozen 0
  have HA := Lib.hid ((⟨hA.1.below hB0, hA.2.below hB0⟩ : Sol _ _ _ A B)); have HC := Lib.hid ((⟨hC.1.below hB0, hC.2.below hB0⟩ : Sol _ _ _ C D))
  have F0 := Lib.hid f0; have F1 := Lib.hid f1; have F2 := Lib.hid f2; have F3 := Lib.hid f3; have HB0 := Lib.hid hB0; have HSz := Lib.hid hsz
  have HT := Lib.hid (And.intro (And.intro t0 t0s) (And.intro t1 t1s))
  have HLn := Lib.hid (And.intro (And.intro hl0 hl0s) (And.intro hl1 hl1s))
  have HP1 := Lib.hid hp1; have HP2 := Lib.hid hp2
  clear f0 f1 f2 f3 hB0 hsz hA hC t0 t0s t1 t1s hl0 hl0s hl1 hl1s hp hp1 hp2
  refine (callsIn_wide (n := 4)).1 ?_
  refine callsIn_of_wp_marks Try.func9 rfl trivial ?_ rfl
  simp only [Try.ntmps9, List.size_toArray, List.length_cons, List.length_nil, Nat.reduceAdd, Nat.reduceSub, Array.replicate_succ, Array.replicate_zero, List.push_toArray, List.append_toArray, List.nil_append, List.cons_append]
  gi_wp2_with fail
  refine ⟨trivial, ?_⟩
  gi_at_call 35
  refine (callsIn_wide.2 (c_IsPairMap _ _ A B _ HA.out)).mono ?_
  rintro e w1 ⟨rfl, hb1⟩
  rw [HP1.out]
  obtain ⟨x2, x3, -, -⟩ := two_cells (F1.out.under hb1)
  have HC1 := Lib.hid ((⟨HC.out.1.below hb1, HC.out.2.below hb1⟩ : Sol _ _ _ C D))
  have HBw := Lib.hid hb1
  clear hb1 z0 z1 z2 z3 z4 z5 z6 z7
  gi_wp2_with fail
  refine ⟨trivial, ?_⟩
  gi_at_call 35
  refine (callsIn_wide.2 (c_IsPairMap _ _ C D _ HC1.out)).mono ?_
  rintro e w2 ⟨rfl, hb2⟩
  rw [HP2.out]
  have hb1 := HBw.out.trans (hb2.mono HBw.out.size)
  obtain ⟨x0, x1, -, -⟩ := two_cells (F0.out.under hb1)
  clear x2 x3
  obtain ⟨x2, x3, -, -⟩ := two_cells (F1.out.under hb1)
  have HBx := Lib.hid hb1
  clear hb1 hb2
  obtain ⟨wa, hwa⟩ : ∃ wa, w2.alloc (Obj.cells #[.slice (some ⟨b0, o0, none⟩) n c0, .slice (some ⟨b0s, o0s, none⟩) n c0s] 22) = wa := ⟨_, rfl⟩
  obtain ⟨wb, hwb⟩ : ∃ wb, wa.alloc (Obj.cells #[.slice (some ⟨b1, o1, none⟩) m c1, .slice (some ⟨b1s, o1s, none⟩) m c1s] 22) = wb := ⟨_, rfl⟩
  have hba : Below w2.heap.size w2 wa := by rw [← hwa]; exact (Below.refl _ w2).alloc (Nat.le_refl _) _
  have hbb : Below wa.heap.size wa wb := by rw [← hwb]; exact (Below.refl _ wa).alloc (Nat.le_refl _) _
  have hsa : wa.heap.size = w2.heap.size + 1 := by rw [← hwa]; simp
  have hsb : wb.heap.size = w2.heap.size + 1 + 1 := by rw [← hwb]; simp [hsa]
  have hxa : Blk wa w2.heap.size 22 [.slice (some ⟨b0, o0, none⟩) n c0, .slice (some ⟨b0s, o0s, none⟩) n c0s] := by rw [← hwa]; exact Blk.new w2 _ _
  have hxb : Blk wb (w2.heap.size + 1) 22 [.slice (some ⟨b1, o1, none⟩) m c1, .slice (some ⟨b1s, o1s, none⟩) m c1s] := by rw [← hwb, ← hsa]; exact Blk.new wa _ _
  have y2 := cell_under hba x2; have y3 := cell_under hba x3
  rw [← hwa] at y2 y3
  have hw2 := HB0.out.trans (HBx.out.mono (show w.heap.size ≤ _ by rw [HSz.out]; omega))
  have HB2 := Lib.hid (bb hw2 (bb hba hbb))
  have hbab := bb hba hbb
  have T0 := Lib.hid (show Tb3 wb w2.heap.size 0 n 2 [A, B] _ _ _ _ _ _ from Tb3.two (hxa.under hbb) ((HT.out.1.1.below hw2).below hbab) ((HT.out.1.2.below hw2).below hbab))
  have T1 := Lib.hid (show Tb3 wb (w2.heap.size + 1) 0 m 2 [C, D] _ _ _ _ _ _ from Tb3.two hxb ((HT.out.2.1.below hw2).below hbab) ((HT.out.2.2.below hw2).below hbab))
  have G2 := Lib.hid ((F2.out.under HBx.out).under hbab)
  have G3 := Lib.hid ((F3.out.under HBx.out).under hbab)
  have HXa := Lib.hid (And.intro (hxa.under hbb) hxb)
  have HSa := Lib.hid hsa; have HSb := Lib.hid hsb; have HWa := Lib.hid hwa; have HWb := Lib.hid hwb
  have hsw : w.heap.size + 4 ≤ w2.heap.size := by rw [← HSz.out]; exact HBx.out.size
  clear hba hbb hsa hsb hxa hxb hbab HT HA HC HC1 HBw HBx F0 F1 F2 F3 HB0 hwa hwb hw2
  gi_wp2_with fail
  refine ⟨trivial, ?_⟩
  gi_at_call 36
  rw [HWa.out, HWb.out]
  refine (callsIn_wide.2 (c_isomorphisms _ _ _ _ _ _ _ _ _)).mono ?_
  rintro e w3 ⟨g1, g2, rfl, hg1, hg2, hb3⟩
  have Q1 := Lib.hid hg1; have Q2 := Lib.hid hg2
  have HB3 := Lib.hid (bb HB2.out hb3)
  have HBb := Lib.hid hb3
  have G2' := Lib.hid (G2.out.under hb3); have G3' := Lib.hid (G3.out.under hb3)
  have HSeq : Hid (SeqRowsK Fence.wide 3 Try.prog 53 #[.pointer (some ⟨g1, 0, none⟩), .pointer (some ⟨g2, 0, none⟩)] (isoL A B C D) (Below wb.heap.size wb) w3) := by
    by_cases hnm : n = m
    · subst hnm
      have e : isoL A B C D = isoAll n [A, B] [C, D] := by unfold isoL; rw [HLn.out.1.1, HLn.out.2.1, if_pos rfl]
      rw [e]
      exact Lib.hid (c_iso1 wb T0.out T1.out rfl rfl hx0 (by omega) (by omega) (by omega) (by omega) _ g1 g2 w3 hb3 hg1 hg2)
    · have e : isoL A B C D = [] := by unfold isoL; rw [HLn.out.1.1, HLn.out.2.1, if_neg hnm]
      rw [e]
      have q1 := (T0.out.below hb3).tab 0 (by omega)
      have q2 := (T1.out.below hb3).tab 0 (by omega)
      exact Lib.hid (c_iso1_none (m := 0) (v1 := undef) (v2 := undef) _ g1 g2 w3 hg1 hg2 (by omega) (by omega) q1 q2 hnm _)
  have hs3 := hb3.size
  clear hg1 hg2 hb3 HXa HWa HWb x0 x1 x2 x3 y2 y3 T0 T1 G2 G3
  gi_wp2_with fail
  have g2lt := G2'.out.lt
  have g3lt := G3'.out.lt
  have hlen : ∀ k, k < (isoL A B C D).length → (row (isoL A B C D) k).length = n := fun k hk => by
    have hm := row_mem (t := isoL A B C D) (x := (k : Int)) (by omega) (by omega)
    unfold isoL at hm ⊢
    rw [HLn.out.1.1] at hm ⊢
    split at hm
    · rename_i e1; rw [if_pos e1]; exact (mem_isoQ.1 hm).1.1.2
    · simp at hm
  have HLen := Lib.hid hlen
  clear hlen
  refine wpIn_rangeFunc_rowsK rfl (by omega) (gf := 53) (lb := #[.pointer (some ⟨g1, 0, none⟩), .pointer (some ⟨g2, 0, none⟩)]) rfl trivial eg_iso1
    (fun b => b = w.heap.size + 1 + 1 ∨ b = w.heap.size + 1 + 1 + 1) (by rintro b (rfl | rfl) <;> assumption) HSeq.out rfl
    (fun hi k W => k = 0 ∧ Blk W (w.heap.size + 1 + 1) 26 [.slice none 0 0] ∧ Blk W (w.heap.size + 1 + 1 + 1) 2 [.int .i64 0] ∧ Below w.heap.size w W ∧ Below wb.heap.size wb W ∧ w3.heap.size ≤ W.heap.size)
    (fun c hi k W => c = .ret ∧ ∃ v, Blk W (w.heap.size + 1 + 1) 26 [v] ∧ Blk W (w.heap.size + 1 + 1 + 1) 2 [.int .i64 0] ∧ Own hi W v (isoRes A B C D) ∧ isoCode A B C D = 0 ∧ Below w.heap.size w W ∧ w3.heap.size ≤ hi)
    (fun hi k W h => h.2.2.2.2.1) ?hI ?hIx ?h0
    (fun u => { tmps := #[.agg #[.slice (some ⟨b0, o0, none⟩) n c0, .slice (some ⟨b0s, o0s, none⟩) n c0s], .agg #[.slice (some ⟨b1, o1, none⟩) m c1, .slice (some ⟨b1s, o1s, none⟩) m c1s], .pointer (some ⟨w.heap.size, 0, none⟩), .pointer (some ⟨w.heap.size + 1, 0, none⟩), .pointer (some ⟨w.heap.size + 1 + 1, 0, none⟩), .pointer (some ⟨w.heap.size + 1 + 1 + 1, 0, none⟩), u, .agg #[.slice (some ⟨b0, o0, none⟩) n c0, .slice (some ⟨b0s, o0s, none⟩) n c0s], .bool true, .bool false, .bool false, .agg #[.slice (some ⟨b1, o1, none⟩) m c1, .slice (some ⟨b1s, o1s, none⟩) m c1s], .bool true, .bool false, .bool false, .pointer (some ⟨w.heap.size, 0, none⟩), .slice (some ⟨b0, o0, none⟩) n c0, .pointer (some ⟨w.heap.size, 1, none⟩), .slice (some ⟨b0s, o0s, none⟩) n c0s, .slice (some ⟨w2.heap.size, 0, none⟩) 2 2, .pointer (some ⟨w.heap.size + 1, 0, none⟩), .slice (some ⟨b1, o1, none⟩) m c1, .pointer (some ⟨w.heap.size + 1, 1, none⟩), .slice (some ⟨b1s, o1s, none⟩) m c1s, .slice (some ⟨w2.heap.size + 1, 0, none⟩) 2 2, .func (.func 53) #[] #[.pointer (some ⟨g1, 0, none⟩), .pointer (some ⟨g2, 0, none⟩)], u, undef, undef], defers := [] })
    ?assign ?body ?done ?stop
  case hI =>
    rintro hi k W W' ⟨h1, h2, h3, h4, h5, h6⟩ hk
    exact ⟨h1, h2.of_block (hk.block _ h2.lt (by omega)), h3.of_block (hk.block _ h3.lt (by omega)), h4.trans (hk.below fun k hk' => ⟨by have := h4.size; omega, by omega⟩), h5.trans (hk.below fun k hk' => ⟨by have := h5.size; omega, by omega⟩), Nat.le_trans h6 hk.size⟩
  case hIx =>
    rintro c hi k W W' ⟨h1, v, h2, h3, h4, h5, h6, h7⟩ hk
    exact ⟨h1, v, h2.of_block (hk.block _ h2.lt (by omega)), h3.of_block (hk.block _ h3.lt (by omega)), h4.keep hk (fun b hb _ h => by omega), h5, h6.trans (hk.below fun k hk' => ⟨by have := h6.size; omega, by omega⟩), h7⟩
  case h0 =>
    intro W' hb
    exact ⟨rfl, G2'.out.under hb, G3'.out.under hb, bb HB3.out hb, bb HBb.out hb, hb.size⟩
  case assign =>
    intro l u W K hK
    gi_wp2
    exact hK
  case body =>
    rintro l hi k u W ⟨h1, h2, h3, h4, h5, h6⟩ hhi hW hk hu
    subst h1
    have HU := Lib.hid hu; have H2 := Lib.hid h2; have H3 := Lib.hid h3; have H4 := Lib.hid h4
    have hl0 := HLen.out 0 hk
    have q4 := one_cell h2; have q5 := one_cell h3; have q6 := h2.frozen 0; have q7 := h3.frozen 0
    clear hu h2 h3 h4 h5 h6
    gi_wp2_with fail
    refine ⟨trivial, ?_⟩
    gi_at_call 37
    refine (CallsIn.inRound l (callsIn_wide.2 (c_Clone _ _ _ HU.out (by rw [hl0]; omega)))).mono ?_
    rintro e w' ⟨r, rfl, ho, hb⟩
    obtain ⟨qa, qc, hqv, _⟩ := ho.shape
    rw [hl0] at hqv
    subst hqv
    obtain ⟨r, hr⟩ : ∃ r, r = Value.slice qa n qc := ⟨_, rfl⟩
    have p2 := H2.out.under hb; have p3 := H3.out.under hb
    have r4 := one_cell p2; have r5 := one_cell p3; have r6 := p2.frozen 0; have r7 := p3.frozen 0
    have r8 := (p2.set 0 r).frozen 0
    have r9 := (p3.other (a := ⟨w.heap.size + 1 + 1, 0, none⟩) (by show w.heap.size + 1 + 1 + 1 ≠ w.heap.size + 1 + 1; omega) r).frozen 0
    have P2 := Lib.hid p2; have P3 := Lib.hid p3; have HO := Lib.hid ho; have HBw := Lib.hid hb
    clear q4 q5 q6 q7 p2 p3 ho hb
    subst hr
    gi_wp2
    have hk0 : Keep (fun b => (b = w.heap.size + 1 + 1 ∨ b = w.heap.size + 1 + 1 + 1) ∨ hi ≤ b) W w' := (Keep.of_below HBw.out).mono fun b hb h => by omega
    have hk1 := (hk0.setCell (p := ⟨w.heap.size + 1 + 1, 0, none⟩) (.inl (.inl (.inl rfl))) (.slice qa n qc)).setCell (p := ⟨w.heap.size + 1 + 1 + 1, 0, none⟩) (.inl (.inl (.inr rfl))) (.int .i64 0)
    refine ⟨hk1, rfl, .slice qa n qc, ?_, ?_, ?_, ?_, ?_, by omega⟩
    · have := (P2.out.set 0 (.slice qa n qc)).other (a := ⟨w.heap.size + 1 + 1 + 1, 0, none⟩) (by show w.heap.size + 1 + 1 ≠ w.heap.size + 1 + 1 + 1; omega) (.int .i64 0)
      simpa using this
    · have := (P3.out.other (a := ⟨w.heap.size + 1 + 1, 0, none⟩) (by show w.heap.size + 1 + 1 + 1 ≠ w.heap.size + 1 + 1; omega) (.slice qa n qc)).set 0 (.int .i64 0)
      simpa using this
    · have e : isoRes A B C D = row (isoL A B C D) (0 : Nat) := by
        rw [HRes.out.1]
        unfold row
        cases isoL A B C D <;> simp
      rw [e]
      have h1 : Own hi w' (.slice qa n qc) (row (isoL A B C D) (0 : Nat)) := HO.out.mono hW
      exact (h1.keep (keep1 w' (w.heap.size + 1 + 1) 0 (.slice qa n qc)) (fun b h1 _ h3 => by have h3 : b = w.heap.size + 1 + 1 := h3; omega)).keep (keep1 _ (w.heap.size + 1 + 1 + 1) 0 (.int .i64 0)) (fun b h1 _ h3 => by have h3 : b = w.heap.size + 1 + 1 + 1 := h3; omega)
    · rw [HRes.out.2, if_neg]
      intro h
      have : isoL A B C D = [] := by simpa using h
      rw [this] at hk
      simp at hk
    · exact H4.out.trans (hk1.below fun b hb => ⟨by have := H4.out.size; omega, by omega⟩)
  case done =>
    rintro dd hi W hD hDh ⟨h1, h2, h3, h4, h5, h6⟩ hK
    have he : isoL A B C D = [] := List.eq_nil_of_length_eq_zero h1.symm.symm
    have HE := Lib.hid he
    have q4 := one_cell h2; have q5 := one_cell h3; have q6 := h2.frozen 0; have q7 := h3.frozen 0
    have r9 := (h3.other (a := ⟨w.heap.size + 1 + 1, 0, none⟩) (by show w.heap.size + 1 + 1 + 1 ≠ w.heap.size + 1 + 1; omega) (.slice none 0 0)).frozen 0
    have HK := Lib.hid (show ((W.setCell ⟨w.heap.size + 1 + 1, 0, none⟩ (.slice none 0 0)).setCell ⟨w.heap.size + 1 + 1 + 1, 0, none⟩ (.int .i64 4)).heap[dd]? = some (.deferred (some [])) by
      rw [Below.heap_setCell _ _ _ _ (by show dd ≠ w.heap.size + 1 + 1 + 1; omega), Below.heap_setCell _ _ _ _ (by show dd ≠ w.heap.size + 1 + 1; omega)]; exact hK)
    have p2 := (h2.set 0 (.slice none 0 0)).other (a := ⟨w.heap.size + 1 + 1 + 1, 0, none⟩) (by show w.heap.size + 1 + 1 ≠ w.heap.size + 1 + 1 + 1; omega) (.int .i64 4)
    have p3 := (h3.other (a := ⟨w.heap.size + 1 + 1, 0, none⟩) (by show w.heap.size + 1 + 1 + 1 ≠ w.heap.size + 1 + 1; omega) (.slice none 0 0)).set 0 (.int .i64 4)
    have H4 := Lib.hid ((h4.setCell (p := ⟨w.heap.size + 1 + 1, 0, none⟩) (by show w.heap.size ≤ w.heap.size + 1 + 1; omega) (.slice none 0 0)).setCell (p := ⟨w.heap.size + 1 + 1 + 1, 0, none⟩) (by show w.heap.size ≤ w.heap.size + 1 + 1 + 1; omega) (.int .i64 4))
    have P2 := Lib.hid p2; have P3 := Lib.hid p3
    clear h1 h2 h3 h4 h5 h6 he hK p2 p3
    gi_wp2
    refine ⟨by simp, .inl ⟨_, _, rfl, run_takeDeferred HK.out, ?_⟩⟩
    have hk := keep_putObj ((W.setCell ⟨w.heap.size + 1 + 1, 0, none⟩ (.slice none 0 0)).setCell ⟨w.heap.size + 1 + 1 + 1, 0, none⟩ (.int .i64 4)) dd (.deferred none)
    have c4 := one_cell (P2.out.of_block (hk.block _ P2.out.lt (by show w.heap.size + 1 + 1 ≠ dd; omega)))
    have c5 := one_cell (P3.out.of_block (hk.block _ P3.out.lt (by show w.heap.size + 1 + 1 + 1 ≠ dd; omega)))
    refine ⟨.tuple #[.slice none 0 0, .int .i64 4], by simp [results, Try.results9, go_sem, c4, c5], .slice none 0 0, by rw [HRes.out.2, HE.out]; rfl, by rw [HRes.out.1, HE.out]; exact Own.nil _ _, ?_⟩
    exact H4.out.trans (hk.below fun k hk' => ⟨by have := H4.out.size; omega, by omega⟩)
  case stop =>
    rintro dd hi k c W hD hDh ⟨rfl, v, h2, h3, h4, h5, h6, h7⟩ hK
    obtain ⟨va, vc, rfl, _⟩ := h4.shape
    have hk := keep_putObj W dd (.deferred none)
    have c4 := one_cell (h2.of_block (hk.block _ h2.lt (by show w.heap.size + 1 + 1 ≠ dd; omega)))
    have c5 := one_cell (h3.of_block (hk.block _ h3.lt (by show w.heap.size + 1 + 1 + 1 ≠ dd; omega)))
    gi_wp2
    refine ⟨by simp, .inl ⟨_, _, rfl, run_takeDeferred hK, ?_⟩⟩
    refine ⟨.tuple #[.slice va (isoRes A B C D).length vc, .int .i64 0], by simp [results, Try.results9, go_sem, c4, c5], .slice va (isoRes A B C D).length vc, by rw [h5], ?_, ?_⟩
    · exact (h4.keep hk (fun b hb _ h => by have h : b = dd := h; omega)).mono (show w.heap.size ≤ hi by omega)
    · exact h6.trans (hk.below fun k hk' => ⟨by have := h6.size; omega, by omega⟩)
end Go.Proofs.Ytgmhnjccgldddaa
