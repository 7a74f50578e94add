/-
  SolutionAutomorphisms: the program's function.
-/
import Derived.Test.YtgmhnjccgldddaaY6
import Derived.Test.YtgmhnjccgldddaaR3
namespace Go.Proofs.Ytgmhnjccgldddaa
set_option linter.unusedVariables false
set_option linter.unusedSimpArgs false
open Go Go.RowKit Go.Shelf
attribute [local go_sem] Oper.semAt_some

/-- All automorphisms of a pair map. -/
noncomputable def autL (A B : List (List Int)) : List (List Int) := isoAll A.length [A, B] [A, B]
noncomputable def autRes (A B : List (List Int)) : List (List Int) := if isPM A B then (if (autL A B).length ≤ 1000 then autL A B else []) else []
noncomputable def autCode (A B : List (List Int)) : Int := if isPM A B then (if (autL A B).length ≤ 1000 then 0 else 3) else 1

set_option maxRecDepth 100000 in
set_option maxHeartbeats 4000000 in
theorem c_SolutionAutomorphisms_neg (v0 u0 : Value) (A B : List (List Int)) (w : World) (hA : Sol w v0 u0 A B) (hp : isPM A B = false) :
    Calls Try.prog 16 #[.agg #[v0, u0]] w (RRowsC w (autRes A B) (autCode A B)) := by
  have HRes := Lib.hid (show autRes A B = [] ∧ autCode A B = 1 by simp [autRes, autCode, hp])
  obtain ⟨a0, c0, rfl, _, _⟩ := hA.1.shape
  obtain ⟨a0s, c0s, rfl, _, _⟩ := hA.2.shape
  obtain ⟨f0, f1, f2, hB0, hsz⟩ := boxes3 w [.slice a0 A.length c0, .slice a0s B.length c0s] [.slice none 0 0] [.int .i64 0] 29 22 2
  obtain ⟨z0, z1, -, -⟩ := two_cells f0
  have HA := Lib.hid ((⟨hA.1.below hB0, hA.2.below hB0⟩ : Sol _ _ _ A B))
  have F1 := Lib.hid f1; have F2 := Lib.hid f2; have HB0 := Lib.hid hB0; have HSz := Lib.hid hsz; have HP := Lib.hid hp
  clear f0 f1 f2 hB0 hsz hA hp
  go_enter Try.func16, Try.ntmps16
  go_wp2_with fail
  refine (c_IsPairMap _ _ A B _ HA.out).mono ?_; rintro e w1 ⟨rfl, hb1⟩
  rw [HP.out]
  have q4 := one_cell (F1.out.under hb1); have q5 := one_cell (F2.out.under hb1); have q6 := (F1.out.under hb1).frozen 0; have q7 := (F2.out.under hb1).frozen 0
  have HB1 := Lib.hid (HB0.out.trans (hb1.mono (by rw [HSz.out]; omega)))
  clear hb1 z0 z1
  go_wp2
  refine bodyPost_ret (v := .tuple #[.slice none 0 0, .int .i64 1]) (by simp [results, Try.results16, go_sem, q4, q5]) rfl ⟨.slice none 0 0, by rw [HRes.out.2], by rw [HRes.out.1]; exact OwnRows.nil _ _, ?_⟩
  exact (HB1.out.setCell (p := ⟨w.heap.size + 1, 0, none⟩) (by show w.heap.size ≤ w.heap.size + 1; omega) _).setCell (p := ⟨w.heap.size + 1 + 1, 0, none⟩) (by show w.heap.size ≤ w.heap.size + 1 + 1; omega) _

set_option maxRecDepth 100000 in
set_option maxHeartbeats 8000000 in
theorem c_SolutionAutomorphisms (v0 u0 : Value) (A B : List (List Int)) (w : World) (hA : Sol w v0 u0 A B) :
    Calls Try.prog 16 #[.agg #[v0, u0]] w (RRowsC w (autRes A B) (autCode A B)) := by
  by_cases hp : isPM A B = true
  case neg => exact c_SolutionAutomorphisms_neg v0 u0 A B w hA (by simpa using hp)
  have HRes := Lib.hid (show autRes A B = (if (autL A B).length ≤ 1000 then autL A B else []) ∧ autCode A B = (if (autL A B).length ≤ 1000 then 0 else 3) by simp only [autRes, autCode, if_pos hp]; exact ⟨trivial, trivial⟩)
  obtain ⟨n, b0, o0, c0, rb0, ro0, rc0, b0s, o0s, c0s, rb0s, ro0s, rc0s, rfl, rfl, hl0, hl0s, hn0, hx0, hc0, hm0, hc0s, hm0s, t0, t0s⟩ := hA.tabs hp
  obtain ⟨f0, f1, f2, hB0, hsz⟩ := boxes3 w [.slice (some ⟨b0, o0, none⟩) n c0, .slice (some ⟨b0s, o0s, none⟩) n c0s] [.slice none 0 0] [.int .i64 0] 29 22 2
  obtain ⟨z0, z1, -, -⟩ := two_cells f0
  have HA := Lib.hid ((⟨hA.1.below hB0, hA.2.below hB0⟩ : Sol _ _ _ A B))
  have F0 := Lib.hid f0; have F1 := Lib.hid f1; have F2 := Lib.hid f2; have HB0 := Lib.hid hB0; have HSz := Lib.hid hsz
  have HT := Lib.hid (And.intro t0 t0s)
  have HLn := Lib.hid hl0
  have HP := Lib.hid hp
  have hL : autL A B = isoAll n [A, B] [A, B] := by unfold autL; rw [hl0]
  obtain ⟨L, hLL⟩ : ∃ L, autL A B = L := ⟨_, rfl⟩
  rw [hLL] at HRes hL
  have HL := Lib.hid hL
  clear f0 f1 f2 hB0 hsz hA t0 t0s hl0 hl0s hp hL hLL
  refine (callsIn_wide (n := 4)).1 ?_
  refine callsIn_of_wp_marks Try.func16 rfl trivial ?_ rfl
  simp only [Try.ntmps16, List.size_toArray, List.length_cons, List.length_nil, Nat.reduceAdd, Nat.reduceSub, Array.replicate_succ, Array.replicate_zero, List.push_toArray, List.append_toArray, List.nil_append, List.cons_append]
  gi_wp2_with fail
  refine ⟨trivial, ?_⟩
  gi_at_call 35
  refine (callsIn_wide.2 (c_IsPairMap _ _ A B _ HA.out)).mono ?_
  rintro e w1 ⟨rfl, hb1⟩
  rw [HP.out]
  obtain ⟨x0, x1, -, -⟩ := two_cells (F0.out.under hb1)
  have hw2 := HB0.out.trans (hb1.mono (show w.heap.size ≤ _ by rw [HSz.out]; omega))
  have hsw : w.heap.size + 3 ≤ w1.heap.size := by rw [← HSz.out]; exact hb1.size
  have G1 := Lib.hid (F1.out.under hb1); have G2 := Lib.hid (F2.out.under hb1)
  have HW := Lib.hid hw2
  clear z0 z1 hb1 hw2 F0 F1 F2 HB0 HSz
  obtain ⟨wa, hwa⟩ : ∃ wa, w1.alloc (Obj.cells #[.slice (some ⟨b0, o0, none⟩) n c0, .slice (some ⟨b0s, o0s, none⟩) n c0s] 22) = wa := ⟨_, rfl⟩
  obtain ⟨wb, hwb⟩ : ∃ wb, wa.alloc (Obj.cells #[.slice none 0 0] 22) = wb := ⟨_, rfl⟩
  have hba : Below w1.heap.size w1 wa := by rw [← hwa]; exact (Below.refl _ w1).alloc (Nat.le_refl _) _
  have hbb : Below wa.heap.size wa wb := by rw [← hwb]; exact (Below.refl _ wa).alloc (Nat.le_refl _) _
  have hsa : wa.heap.size = w1.heap.size + 1 := by rw [← hwa]; simp
  have hsb : wb.heap.size = w1.heap.size + 1 + 1 := by rw [← hwb]; simp [hsa]
  have hxa : Blk wa w1.heap.size 22 [.slice (some ⟨b0, o0, none⟩) n c0, .slice (some ⟨b0s, o0s, none⟩) n c0s] := by rw [← hwa]; exact Blk.new w1 _ _
  have hxb : Blk wb (w1.heap.size + 1) 22 [.slice none 0 0] := by rw [← hwb, ← hsa]; exact Blk.new wa _ _
  have T0 := Lib.hid (show Tb3 wa w1.heap.size 0 n 2 [A, B] _ _ _ _ _ _ from Tb3.two hxa ((HT.out.1.below HW.out).below hba) ((HT.out.2.below HW.out).below hba))
  have HB2 := Lib.hid (bb HW.out (bb hba hbb))
  have HBab := Lib.hid hbb
  have G1' := Lib.hid (G1.out.under (bb hba hbb)); have G2' := Lib.hid (G2.out.under (bb hba hbb))
  have HXb := Lib.hid hxb
  have HWa := Lib.hid hwa; have HWb := Lib.hid hwb
  clear hba hbb hxa hxb hwa hwb G1 G2 HT HA
  gi_wp2_with fail
  refine ⟨trivial, ?_⟩
  gi_at_call 36
  rw [HWa.out, HWb.out]
  refine (callsIn_wide.2 (c_isomorphisms _ _ _ _ _ _ _ _ _)).mono ?_
  rintro e w2 ⟨g1, g2, rfl, hg1, hg2, hb3⟩
  have HSeq : Hid (SeqRowsK Fence.wide 3 Try.prog 53 #[.pointer (some ⟨g1, 0, none⟩), .pointer (some ⟨g2, 0, none⟩)] L (Below wa.heap.size wa) w2) := by
    rw [HL.out]
    exact Lib.hid (c_iso1 wa T0.out T0.out rfl rfl hx0 (by omega) (by omega) (by omega) (by omega) _ g1 g2 w2 (bb HBab.out hb3) hg1 hg2)
  have HB3 := Lib.hid (bb HB2.out hb3)
  have HBa := Lib.hid (bb HBab.out hb3)
  have R1' := Lib.hid (G1'.out.under hb3); have R2' := Lib.hid (G2'.out.under hb3); have RX := Lib.hid (HXb.out.under hb3)
  have hs3 : w1.heap.size + 1 + 1 ≤ w2.heap.size := by rw [← hsb]; exact hb3.size
  clear hg1 hg2 hb3 x0 x1 T0 HB2 HBab G1' G2' HXb
  gi_wp2_with fail
  have r1lt := R1'.out.lt
  have r2lt := R2'.out.lt
  have rxlt := RX.out.lt
  have HLen : Hid (∀ k : Nat, k < L.length → (row L k).length = n) := Lib.hid fun k hk => by
    have hm := row_mem (t := L) (x := (k : Int)) (by omega) (by omega)
    rw [HL.out] at hm ⊢
    exact (mem_isoQ.1 hm).1.1.2
  refine wpIn_rangeFunc_rowsK rfl (by omega) (gf := 53) (lb := #[.pointer (some ⟨g1, 0, none⟩), .pointer (some ⟨g2, 0, none⟩)]) rfl trivial eg_iso1
    (fun b => b = w.heap.size + 1 ∨ b = w.heap.size + 1 + 1 ∨ b = w1.heap.size + 1) (by rintro b (rfl | rfl | rfl) <;> assumption) HSeq.out rfl
    (fun hi k W => k ≤ 1000 ∧ Blk W (w.heap.size + 1) 22 [.slice none 0 0] ∧ Blk W (w.heap.size + 1 + 1) 2 [.int .i64 0] ∧ (∃ v, Blk W (w1.heap.size + 1) 22 [v] ∧ OwnRows hi W v (L.take k)) ∧ Below w.heap.size w W ∧ Below wa.heap.size wa W ∧ w2.heap.size ≤ W.heap.size)
    (fun c hi k W => c = .ret ∧ Blk W (w.heap.size + 1) 22 [.slice none 0 0] ∧ Blk W (w.heap.size + 1 + 1) 2 [.int .i64 3] ∧ 1000 < L.length ∧ Below w.heap.size w W)
    (fun hi k W h => h.2.2.2.2.2.1) ?hI ?hIx ?h0
    (fun u => { tmps := #[.agg #[.slice (some ⟨b0, o0, none⟩) n c0, .slice (some ⟨b0s, o0s, none⟩) n c0s], .pointer (some ⟨w.heap.size, 0, none⟩), .pointer (some ⟨w.heap.size + 1, 0, none⟩), .pointer (some ⟨w.heap.size + 1 + 1, 0, none⟩), .slice (some ⟨w1.heap.size, 0, none⟩) 2 2, .pointer (some ⟨w1.heap.size + 1, 0, none⟩), u, .agg #[.slice (some ⟨b0, o0, none⟩) n c0, .slice (some ⟨b0s, o0s, none⟩) n c0s], .bool true, .bool false, .pointer (some ⟨w.heap.size, 0, none⟩), .slice (some ⟨b0, o0, none⟩) n c0, .pointer (some ⟨w.heap.size, 1, none⟩), .slice (some ⟨b0s, o0s, none⟩) n c0s, .slice (some ⟨w1.heap.size, 0, none⟩) 2 2, .slice (some ⟨w1.heap.size, 0, none⟩) 2 2, .slice (some ⟨w1.heap.size, 0, none⟩) 2 2, .func (.func 53) #[] #[.pointer (some ⟨g1, 0, none⟩), .pointer (some ⟨g2, 0, none⟩)], u, undef, undef, undef, undef, undef, undef, undef, undef, undef], defers := [] })
    ?assign ?body ?done ?stop
  case hI =>
    rintro hi k W W' ⟨h1, h2, h3, ⟨v, h4, h4'⟩, h5, h6, h7⟩ hk
    exact ⟨h1, h2.of_block (hk.block _ h2.lt (by omega)), h3.of_block (hk.block _ h3.lt (by omega)), ⟨v, h4.of_block (hk.block _ h4.lt (by omega)), h4'.keep hk (fun b hb _ h => by omega)⟩, h5.trans (hk.below fun k hk' => ⟨by have := h5.size; omega, by omega⟩), h6.trans (hk.below fun k hk' => ⟨by have := h6.size; omega, by omega⟩), Nat.le_trans h7 hk.size⟩
  case hIx =>
    rintro c hi k W W' ⟨h1, h2, h3, h4, h5⟩ hk
    exact ⟨h1, h2.of_block (hk.block _ h2.lt (by omega)), h3.of_block (hk.block _ h3.lt (by omega)), h4, h5.trans (hk.below fun k hk' => ⟨by have := h5.size; omega, by omega⟩)⟩
  case h0 =>
    intro W' hb
    exact ⟨by omega, R1'.out.under hb, R2'.out.under hb, ⟨_, RX.out.under hb, by simpa using OwnRows.nil _ _⟩, bb HB3.out hb, bb HBa.out hb, hb.size⟩
  case assign =>
    intro l u W K hK
    gi_wp2
    exact hK
  case body =>
    rintro l hi k u W ⟨h1, h2, h3, ⟨v, h4, h4'⟩, h5, h6, h7⟩ hhi hW hk hu
    have hlk : (L.take k).length = k := by simp; omega
    obtain ⟨ra, rc, hv, _⟩ := h4'.rows.shape
    rw [hlk] at hv
    subst hv
    have H1 := Lib.hid h2; have H2 := Lib.hid h3; have HX := Lib.hid h4; have HR := Lib.hid h4'; have H3 := Lib.hid h5; have H6 := Lib.hid h6
    have hpl := HLen.out k hk
    have hmix : Try.prog.follows .mixedOrders = true := by kernel_rfl
    by_cases hk10 : k = 1000
    · subst hk10
      have q2 := h2.frozen 0; have q3 := h3.frozen 0; have q4 := one_cell h2; have q5 := one_cell h3
      have q8 := (h3.other (a := ⟨w.heap.size + 1, 0, none⟩) (by show w.heap.size + 1 + 1 ≠ w.heap.size + 1; omega) (.slice none 0 0)).frozen 0
      have hc := one_cell h4
      clear hu h2 h3 h4 h4' h5 h6 h1
      gi_wp2
      have hk1 : Keep (fun b => (b = w.heap.size + 1 ∨ b = w.heap.size + 1 + 1 ∨ b = w1.heap.size + 1) ∨ hi ≤ b) W ((W.setCell ⟨w.heap.size + 1, 0, none⟩ (.slice none 0 0)).setCell ⟨w.heap.size + 1 + 1, 0, none⟩ (.int .i64 3)) := ((Keep.refl _ W).setCell (p := ⟨w.heap.size + 1, 0, none⟩) (.inl (.inl (.inl rfl))) _).setCell (p := ⟨w.heap.size + 1 + 1, 0, none⟩) (.inl (.inl (.inr (.inl rfl)))) _
      refine ⟨hk1, rfl, ?_, ?_, by omega, ?_⟩
      · exact (H1.out.set 0 (.slice none 0 0)).other (a := ⟨w.heap.size + 1 + 1, 0, none⟩) (by show w.heap.size + 1 ≠ w.heap.size + 1 + 1; omega) _
      · exact (H2.out.other (a := ⟨w.heap.size + 1, 0, none⟩) (by show w.heap.size + 1 + 1 ≠ w.heap.size + 1; omega) _).set 0 (.int .i64 3)
      · exact H3.out.trans (hk1.below fun b hb => ⟨by have := H3.out.size; omega, by omega⟩)
    have hkn : ((k : Int) == 1000) = false := by simp; omega
    have hc := one_cell h4
    have HU := Lib.hid (hu.below (Below.refl _ _).drew)
    clear hu h2 h3 h4 h4' h5 h6
    have HHi : Hid (w.heap.size + 1 + 1 < hi ∧ w1.heap.size + 1 < hi ∧ w.heap.size + 1 + 1 < w1.heap.size ∧ w2.heap.size ≤ hi) := Lib.hid (by omega)
    have HHW := Lib.hid hW
    have HKL := Lib.hid hk
    have HK10 : Hid (k + 1 ≤ 1000) := Lib.hid (by omega)
    have HWs := Lib.hid h7
    have HHx := Lib.hid (hx0)
    have hc := one_cell HX.out.drew
    have HXd := Lib.hid HX.out.drew
    gi_wp2_with fail
    have HAp : Hid (∀ (w' : World) (r : Value), Below W.drew.heap.size W.drew w' → Own W.drew.heap.size w' r (row L k) → ∃ g c' w2, (Builtin.append_ #[22, 22] 22 #[.slice ra k rc, .slice (some ⟨w'.heap.size, 0, none⟩) 1 1]).run Try.prog (w'.alloc (.cells #[r] 26)) = .ok (.slice (some ⟨g, 0, none⟩) ((L.take k).length + 1) c') w2 ∧ OwnRows hi w2 (.slice (some ⟨g, 0, none⟩) ((L.take k).length + 1) c') (L.take k ++ [row L k]) ∧ Keep (fun b => (Value.slice ra k rc).ownBlock = some b) w' w2) := by
      intro w' r hb ho
      exact run_app_row2 hi W.drew.heap.size w' _ _ _ _ _ ((OwnRows.inn (HR.out.under (Below.refl _ _).drew)).under hb) ho (by rw [hlk]; omega) HHW.out (Nat.le_trans HHW.out hb.size)
    have HLo : Hid (∀ b, (Value.slice ra k rc).ownBlock = some b → w1.heap.size + 1 < b) := by
      intro b e
      have := (OwnRows.lt HR.out e).1
      have := HHi.out
      omega
    have Fin : Hid (∀ (w' w2' : World) (g2 c2 : Nat), Below W.drew.heap.size W.drew w' → OwnRows hi w2' (.slice (some ⟨g2, 0, none⟩) (k + 1) c2) (L.take k ++ [row L k]) → Keep (fun b => (Value.slice ra k rc).ownBlock = some b) w' w2' → Blk w2' (w1.heap.size + 1) 22 [.slice ra k rc] →
        Keep (fun b => (b = w.heap.size + 1 ∨ b = w.heap.size + 1 + 1 ∨ b = w1.heap.size + 1) ∨ hi ≤ b) W (w2'.setCell ⟨w1.heap.size + 1, 0, none⟩ (.slice (some ⟨g2, 0, none⟩) (k + 1) c2)) ∧ k + 1 ≤ 1000 ∧
        Blk (w2'.setCell ⟨w1.heap.size + 1, 0, none⟩ (.slice (some ⟨g2, 0, none⟩) (k + 1) c2)) (w.heap.size + 1) 22 [.slice none 0 0] ∧
        Blk (w2'.setCell ⟨w1.heap.size + 1, 0, none⟩ (.slice (some ⟨g2, 0, none⟩) (k + 1) c2)) (w.heap.size + 1 + 1) 2 [.int .i64 0] ∧
        (∃ v, Blk (w2'.setCell ⟨w1.heap.size + 1, 0, none⟩ (.slice (some ⟨g2, 0, none⟩) (k + 1) c2)) (w1.heap.size + 1) 22 [v] ∧ OwnRows hi (w2'.setCell ⟨w1.heap.size + 1, 0, none⟩ (.slice (some ⟨g2, 0, none⟩) (k + 1) c2)) v (L.take (k + 1))) ∧
        Below w.heap.size w (w2'.setCell ⟨w1.heap.size + 1, 0, none⟩ (.slice (some ⟨g2, 0, none⟩) (k + 1) c2)) ∧ Below wa.heap.size wa (w2'.setCell ⟨w1.heap.size + 1, 0, none⟩ (.slice (some ⟨g2, 0, none⟩) (k + 1) c2)) ∧ w2.heap.size ≤ (w2'.setCell ⟨w1.heap.size + 1, 0, none⟩ (.slice (some ⟨g2, 0, none⟩) (k + 1) c2)).heap.size) := by
      intro w' w2' g2 c2 hb ho hk2 hbx
      obtain ⟨i1, i2, i3, i4⟩ := HHi.out
      have hW' : W.drew.heap.size = W.heap.size := rfl
      have hkeep0 : Keep (fun b => hi ≤ b) W w2' := by
        have k1 : Keep (fun b => hi ≤ b) W w' := ((Keep.refl (fun _ => False) W).drew.under (by rw [hW']; exact hb)).mono fun _ _ h => h.elim
        have k2 : Keep (fun b => hi ≤ b) w' w2' := hk2.mono fun b _ e => (OwnRows.lt HR.out e).1
        exact k1.trans k2
      have hkeepx : Keep (fun b => b = w1.heap.size + 1 ∨ hi ≤ b) W (w2'.setCell ⟨w1.heap.size + 1, 0, none⟩ (.slice (some ⟨g2, 0, none⟩) (k + 1) c2)) := (hkeep0.mono fun b _ e => .inr e).setCell (p := ⟨w1.heap.size + 1, 0, none⟩) (.inl (.inl rfl)) _
      refine ⟨hkeepx.mono fun b _ e => ?_, HK10.out, ?_, ?_, ⟨_, hbx.set 0 _, ?_⟩, ?_, ?_, Nat.le_trans HWs.out hkeepx.size⟩
      · rcases e with e | e
        · exact .inl (.inr (.inr e))
        · exact .inr e
      · exact H1.out.of_block (hkeepx.block _ H1.out.lt (by omega))
      · exact H2.out.of_block (hkeepx.block _ H2.out.lt (by omega))
      · have e : L.take (k + 1) = L.take k ++ [row L k] := take_snoc_row _ _ HKL.out
        rw [e]
        exact ho.keep (keep1 w2' (w1.heap.size + 1) 0 _) (fun b h1 _ h3 => by have h3 : b = w1.heap.size + 1 := h3; omega)
      · exact H3.out.trans (hkeepx.below fun b hb => ⟨by have := H3.out.size; omega, by omega⟩)
      · exact H6.out.trans (hkeepx.below fun b hb => ⟨by have := H6.out.size; omega, by omega⟩)
    refine wpIn_region_any hmix ?_
    change wpAnyIn _ _ _ _ _ _ _ _ _ (World.drew _)
    refine wpAnyIn_ready (rs := [0, 1]) (by kernel_rfl) (by simp) ?_
    refine AllReadyIn.cons rfl (fun K hK => ?_) (AllReadyIn.cons rfl (fun K hK => ?_) AllReadyIn.nil)
    · go_simp
      refine hK _ _ ?_
      clear hK K
      refine wpAnyIn_ready (rs := [1]) (by kernel_rfl) (by simp) ?_
      refine AllReadyIn.cons rfl (fun K hK => ?_) AllReadyIn.nil
      go_simp
      refine hK _ _ ?_
      clear hK K
      refine wpAnyIn_ready (rs := [2]) (by kernel_rfl) (by simp) ?_
      refine AllReadyIn.cons rfl (fun K hK => ?_) AllReadyIn.nil
      go_simp
      gi_wp2_with (refine ⟨trivial, ?_⟩; gi_at_call 37; refine (CallsIn.inRound l (callsIn_wide.2 (c_Clone _ _ _ HU.out (by rw [hpl]; omega)))).mono ?_; rintro e w' ⟨r, rfl, ho, hb⟩; obtain ⟨qa, qc, hqv, _⟩ := ho.shape; rw [hpl] at hqv; subst hqv; have hc1 := one_cell (HXd.out.under hb); have hc1z := one_cell ((HXd.out.under hb).alloc (Obj.cells #[.slice qa n qc] 26)); have hbx := HXd.out.under hb; obtain ⟨g2, c2, w2', hrun, hown2, hk2⟩ := HAp.out w' _ hb ho; rw [hlk] at hrun hown2; have hbx2 := hbx.of_block (hk2.block _ hbx.lt (fun e => by have := (HLo.out _ e); omega)); have hc2 := one_cell hbx2; have hf2 := hbx2.frozen 0; have HRun := Lib.hid hrun; have HO2 := Lib.hid hown2; have HK2 := Lib.hid hk2; have HB := Lib.hid hb; have HBX := Lib.hid hbx2; clear ho hb hrun hown2 hk2 hbx hbx2)
      refine wpAnyIn_ready (rs := [3]) (by kernel_rfl) (by simp) ?_
      refine AllReadyIn.cons rfl (fun K hK => ?_) AllReadyIn.nil
      go_simp
      refine hK _ _ ?_
      clear hK K
      refine wpAnyIn_ready (rs := [4]) (by kernel_rfl) (by simp) ?_
      refine AllReadyIn.cons rfl (fun K hK => ?_) AllReadyIn.nil
      refine stepIn_append rfl (fun _ => trivial) (.tmp 22) (.tmp 25) 22 rfl HRun.out ?_
      refine hK _ _ ?_
      clear hK K
      refine wpAnyIn_ready (rs := [5]) (by kernel_rfl) (by simp) ?_
      refine AllReadyIn.cons rfl (fun K hK => ?_) AllReadyIn.nil
      go_simp
      refine hK _ _ ?_
      clear hK K
      refine wpAnyIn_done (by kernel_rfl) ?_ _
      exact Fin.out _ _ _ _ HB.out HO2.out HK2.out HBX.out
    · go_simp
      refine hK _ _ ?_
      clear hK K
      refine wpAnyIn_ready (rs := [0, 2]) (by kernel_rfl) (by simp) ?_
      refine AllReadyIn.cons rfl (fun K hK => ?_) (AllReadyIn.cons rfl (fun K hK => ?_) AllReadyIn.nil)
      · go_simp
        refine hK _ _ ?_
        clear hK K
        refine wpAnyIn_ready (rs := [2]) (by kernel_rfl) (by simp) ?_
        refine AllReadyIn.cons rfl (fun K hK => ?_) AllReadyIn.nil
        go_simp
        gi_wp2_with (refine ⟨trivial, ?_⟩; gi_at_call 37; refine (CallsIn.inRound l (callsIn_wide.2 (c_Clone _ _ _ HU.out (by rw [hpl]; omega)))).mono ?_; rintro e w' ⟨r, rfl, ho, hb⟩; obtain ⟨qa, qc, hqv, _⟩ := ho.shape; rw [hpl] at hqv; subst hqv; have hc1 := one_cell (HXd.out.under hb); have hc1z := one_cell ((HXd.out.under hb).alloc (Obj.cells #[.slice qa n qc] 26)); have hbx := HXd.out.under hb; obtain ⟨g2, c2, w2', hrun, hown2, hk2⟩ := HAp.out w' _ hb ho; rw [hlk] at hrun hown2; have hbx2 := hbx.of_block (hk2.block _ hbx.lt (fun e => by have := (HLo.out _ e); omega)); have hc2 := one_cell hbx2; have hf2 := hbx2.frozen 0; have HRun := Lib.hid hrun; have HO2 := Lib.hid hown2; have HK2 := Lib.hid hk2; have HB := Lib.hid hb; have HBX := Lib.hid hbx2; clear ho hb hrun hown2 hk2 hbx hbx2)
        refine wpAnyIn_ready (rs := [3]) (by kernel_rfl) (by simp) ?_
        refine AllReadyIn.cons rfl (fun K hK => ?_) AllReadyIn.nil
        go_simp
        refine hK _ _ ?_
        clear hK K
        refine wpAnyIn_ready (rs := [4]) (by kernel_rfl) (by simp) ?_
        refine AllReadyIn.cons rfl (fun K hK => ?_) AllReadyIn.nil
        refine stepIn_append rfl (fun _ => trivial) (.tmp 22) (.tmp 25) 22 rfl HRun.out ?_
        refine hK _ _ ?_
        clear hK K
        refine wpAnyIn_ready (rs := [5]) (by kernel_rfl) (by simp) ?_
        refine AllReadyIn.cons rfl (fun K hK => ?_) AllReadyIn.nil
        go_simp
        refine hK _ _ ?_
        clear hK K
        refine wpAnyIn_done (by kernel_rfl) ?_ _
        exact Fin.out _ _ _ _ HB.out HO2.out HK2.out HBX.out
      · go_simp
        gi_wp2_with (refine ⟨trivial, ?_⟩; gi_at_call 37; refine (CallsIn.inRound l (callsIn_wide.2 (c_Clone _ _ _ HU.out (by rw [hpl]; omega)))).mono ?_; rintro e w' ⟨r, rfl, ho, hb⟩; obtain ⟨qa, qc, hqv, _⟩ := ho.shape; rw [hpl] at hqv; subst hqv; have hc1 := one_cell (HXd.out.under hb); have hc1z := one_cell ((HXd.out.under hb).alloc (Obj.cells #[.slice qa n qc] 26)); have hbx := HXd.out.under hb; obtain ⟨g2, c2, w2', hrun, hown2, hk2⟩ := HAp.out w' _ hb ho; rw [hlk] at hrun hown2; have hbx2 := hbx.of_block (hk2.block _ hbx.lt (fun e => by have := (HLo.out _ e); omega)); have hc2 := one_cell hbx2; have hf2 := hbx2.frozen 0; have HRun := Lib.hid hrun; have HO2 := Lib.hid hown2; have HK2 := Lib.hid hk2; have HB := Lib.hid hb; have HBX := Lib.hid hbx2; clear ho hb hrun hown2 hk2 hbx hbx2)
        refine wpAnyIn_ready (rs := [0, 3]) (by kernel_rfl) (by simp) ?_
        refine AllReadyIn.cons rfl (fun K hK => ?_) (AllReadyIn.cons rfl (fun K hK => ?_) AllReadyIn.nil)
        · go_simp
          refine hK _ _ ?_
          clear hK K
          refine wpAnyIn_ready (rs := [3]) (by kernel_rfl) (by simp) ?_
          refine AllReadyIn.cons rfl (fun K hK => ?_) AllReadyIn.nil
          go_simp
          refine hK _ _ ?_
          clear hK K
          refine wpAnyIn_ready (rs := [4]) (by kernel_rfl) (by simp) ?_
          refine AllReadyIn.cons rfl (fun K hK => ?_) AllReadyIn.nil
          refine stepIn_append rfl (fun _ => trivial) (.tmp 22) (.tmp 25) 22 rfl HRun.out ?_
          refine hK _ _ ?_
          clear hK K
          refine wpAnyIn_ready (rs := [5]) (by kernel_rfl) (by simp) ?_
          refine AllReadyIn.cons rfl (fun K hK => ?_) AllReadyIn.nil
          go_simp
          refine hK _ _ ?_
          clear hK K
          refine wpAnyIn_done (by kernel_rfl) ?_ _
          exact Fin.out _ _ _ _ HB.out HO2.out HK2.out HBX.out
        · go_simp
          refine hK _ _ ?_
          clear hK K
          refine wpAnyIn_ready (rs := [0]) (by kernel_rfl) (by simp) ?_
          refine AllReadyIn.cons rfl (fun K hK => ?_) AllReadyIn.nil
          go_simp
          refine hK _ _ ?_
          clear hK K
          refine wpAnyIn_ready (rs := [4]) (by kernel_rfl) (by simp) ?_
          refine AllReadyIn.cons rfl (fun K hK => ?_) AllReadyIn.nil
          refine stepIn_append rfl (fun _ => trivial) (.tmp 22) (.tmp 25) 22 rfl HRun.out ?_
          refine hK _ _ ?_
          clear hK K
          refine wpAnyIn_ready (rs := [5]) (by kernel_rfl) (by simp) ?_
          refine AllReadyIn.cons rfl (fun K hK => ?_) AllReadyIn.nil
          go_simp
          refine hK _ _ ?_
          clear hK K
          refine wpAnyIn_done (by kernel_rfl) ?_ _
          exact Fin.out _ _ _ _ HB.out HO2.out HK2.out HBX.out
  case done =>
    rintro dd hi W hD hDh ⟨h1, h2, h3, ⟨v, h4, h4'⟩, h5, h6, h7⟩ hK
    rw [List.take_of_length_le (Nat.le_refl _)] at h4'
    obtain ⟨ra, rc, rfl, _⟩ := h4'.rows.shape
    have q4 := one_cell h2; have q5 := one_cell h3; have q6 := h2.frozen 0; have q7 := h3.frozen 0; have q8 := one_cell h4
    have r9 := (h3.other (a := ⟨w.heap.size + 1, 0, none⟩) (by show w.heap.size + 1 + 1 ≠ w.heap.size + 1; omega) (.slice ra L.length rc)).frozen 0
    have HK := Lib.hid (show ((W.setCell ⟨w.heap.size + 1, 0, none⟩ (.slice ra L.length rc)).setCell ⟨w.heap.size + 1 + 1, 0, none⟩ (.int .i64 0)).heap[dd]? = some (.deferred (some [])) by
      rw [Below.heap_setCell _ _ _ _ (by show dd ≠ w.heap.size + 1 + 1; omega), Below.heap_setCell _ _ _ _ (by show dd ≠ w.heap.size + 1; omega)]; exact hK)
    have p2 := (h2.set 0 (.slice ra L.length rc)).other (a := ⟨w.heap.size + 1 + 1, 0, none⟩) (by show w.heap.size + 1 ≠ w.heap.size + 1 + 1; omega) (.int .i64 0)
    have p3 := (h3.other (a := ⟨w.heap.size + 1, 0, none⟩) (by show w.heap.size + 1 + 1 ≠ w.heap.size + 1; omega) (.slice ra L.length rc)).set 0 (.int .i64 0)
    have H4 := Lib.hid ((h5.setCell (p := ⟨w.heap.size + 1, 0, none⟩) (by show w.heap.size ≤ w.heap.size + 1; omega) (.slice ra L.length rc)).setCell (p := ⟨w.heap.size + 1 + 1, 0, none⟩) (by show w.heap.size ≤ w.heap.size + 1 + 1; omega) (.int .i64 0))
    have HO := Lib.hid ((h4'.keep (keep1 W (w.heap.size + 1) 0 (.slice ra L.length rc)) (fun b h1 _ h3 => by have h3 : b = w.heap.size + 1 := h3; omega)).keep (keep1 _ (w.heap.size + 1 + 1) 0 (.int .i64 0)) (fun b h1 _ h3 => by have h3 : b = w.heap.size + 1 + 1 := h3; omega))
    have P2 := Lib.hid p2; have P3 := Lib.hid p3; have H1L := Lib.hid h1
    clear h1 h2 h3 h4 h4' h5 h6 hK p2 p3
    gi_wp2
    refine ⟨by simp, .inl ⟨_, _, rfl, run_takeDeferred HK.out, ?_⟩⟩
    have hk := keep_putObj ((W.setCell ⟨w.heap.size + 1, 0, none⟩ (.slice ra L.length rc)).setCell ⟨w.heap.size + 1 + 1, 0, none⟩ (.int .i64 0)) dd (.deferred none)
    have c4 := one_cell (P2.out.of_block (hk.block _ P2.out.lt (by show w.heap.size + 1 ≠ dd; omega)))
    have c5 := one_cell (P3.out.of_block (hk.block _ P3.out.lt (by show w.heap.size + 1 + 1 ≠ dd; omega)))
    refine ⟨.tuple #[.slice ra L.length rc, .int .i64 0], by simp [results, Try.results16, go_sem, c4, c5], .slice ra L.length rc, by rw [HRes.out.2, if_pos H1L.out], ?_, ?_⟩
    · rw [HRes.out.1, if_pos H1L.out]
      exact (HO.out.keep hk (fun b hb _ h => by have h : b = dd := h; omega)).mono (show w.heap.size ≤ hi by omega)
    · exact H4.out.trans (hk.below fun k hk' => ⟨by have := H4.out.size; omega, by omega⟩)
  case stop =>
    rintro dd hi k c W hD hDh ⟨rfl, h2, h3, h4, h5⟩ hK
    have hk := keep_putObj W dd (.deferred none)
    have c4 := one_cell (h2.of_block (hk.block _ h2.lt (by show w.heap.size + 1 ≠ dd; omega)))
    have c5 := one_cell (h3.of_block (hk.block _ h3.lt (by show w.heap.size + 1 + 1 ≠ dd; omega)))
    gi_wp2
    refine ⟨by simp, .inl ⟨_, _, rfl, run_takeDeferred hK, ?_⟩⟩
    refine ⟨.tuple #[.slice none 0 0, .int .i64 3], by simp [results, Try.results16, go_sem, c4, c5], .slice none 0 0, by rw [HRes.out.2, if_neg (by omega)], ?_, ?_⟩
    · rw [HRes.out.1, if_neg (by omega)]; exact OwnRows.nil _ _
    · exact h5.trans (hk.below fun k hk' => ⟨by have := h5.size; omega, by omega⟩)
end Go.Proofs.Ytgmhnjccgldddaa
