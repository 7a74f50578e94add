/-
  What the law FnRenamedTables reaches, and the law itself: it answers true, and leaves what was there as it was.
-/
import Derived.Test.YtkcobfkmeaakoaaMG1
import Derived.Test.YtkcobfkmeaakoaaI3d
import Derived.Test.YtkcobfkmeaakoaaI3b
import Derived.Test.YtkcobfkmeaakoaaLTables
import Derived.Test.YtkcobfkmeaakoaaD3
namespace Go.Proofs.Ytkcobfkmeaakoaa
open Go Go.RowKit Go.Shelf
attribute [local go_sem] Oper.semAt_some

def lsT (t : List (List Int)) : List (List Int) := bestR (renL t) t (allPerms t.length)
def lsRes (t : List (List Int)) : List (List Int) := if isTab t && decide (t.length ≤ 7) then lsT t else []
def lsCode (t : List (List Int)) : Int := if isTab t then (if t.length ≤ 7 then 0 else 3) else 1
theorem renOk_all {t : List (List Int)} (h : isTab t = true) {k : Nat} (hk : k < (allPerms t.length).length) : RenOk t (row (allPerms t.length) k) := by
  obtain ⟨h1, h2⟩ := allPerms_row hk
  exact ⟨h, h1, h2⟩

/-- The best table so far: made ahead of the loop, or behind hi. -/
def BestAt (B m hi : Nat) (W : World) (v : Value) (X : List (List Int)) : Prop := OwnRowsIn B m W v X ∨ OwnRows hi W v X
theorem BestAt.own {B m hi : Nat} {W : World} {v : Value} {X : List (List Int)} (h : BestAt B m hi W v X) (hB : B ≤ hi) : OwnRows B W v X := by
  rcases h with h | h
  · exact h.out
  · exact h.mono hB
theorem BestAt.keep {B m hi : Nat} {S : Nat → Prop} {W W' : World} {v : Value} {X : List (List Int)} (h : BestAt B m hi W v X) (k : Keep S W W') (h1 : ∀ b, B ≤ b → b < m → ¬ S b) (h2 : ∀ b, hi ≤ b → ¬ S b) : BestAt B m hi W' v X := by
  rcases h with h | h
  · exact .inl (h.keep k h1)
  · exact .inr (h.keep k (fun b hb _ => h2 b hb))

set_option maxRecDepth 100000 in
set_option maxHeartbeats 4000000 in
theorem c_LeastTable (v0 : Value) (t : List (List Int)) (w : World) (ht : Rows w v0 t) :
    Calls Try.prog 40 #[v0] w (RRowsC w (lsRes t) (lsCode t)) := by
  obtain ⟨a0, c0, rfl, hc0, hm0⟩ := ht.shape
  obtain ⟨f0, hW0, hsz⟩ := boxes1' w [.slice a0 t.length c0] 22
  obtain ⟨W0, hW⟩ : ∃ W, (w.alloc (.cells #[.slice a0 t.length c0] 22)) = W := ⟨_, rfl⟩
  have f0' : Blk W0 w.heap.size 22 [.slice a0 t.length c0] := by rw [← hW]; exact f0
  have hW0' : Below w.heap.size w W0 := by rw [← hW]; exact hW0
  have HW := Lib.hid hW
  clear hW f0 hW0 hsz
  by_cases hp0 : isTab t = true
  case neg =>
    have hq0 : isTab t = false := by simpa using hp0
    have HQ := Lib.hid hq0; clear hp0 hq0
    go_enter Try.func40, Try.ntmps40
    go_wp2_with fail
    rw [HW.out]
    refine (c_IsTable _ _ _ (ht.below hW0')).mono ?_; rintro e g0 ⟨rfl, hb⟩
    rw [HQ.out]
    have HB := Lib.hid (bb hW0' hb)
    clear hb hW0' f0' ht
    go_wp2
    go_ret2
    exact ⟨.slice none 0 0, by simp [lsCode, HQ.out], by simpa [lsRes, HQ.out] using OwnRows.nil _ _, HB.out⟩
  have HP := Lib.hid hp0
  obtain ⟨hl1, hl2⟩ := isTab_len hp0
  by_cases h7 : t.length ≤ 7
  case neg =>
    have H7 := Lib.hid h7
    have h7' : (7 : Int) < t.length := by omega
    clear h7 hp0
    go_enter Try.func40, Try.ntmps40
    go_wp2_with fail
    rw [HW.out]
    refine (c_IsTable _ _ _ (ht.below hW0')).mono ?_; rintro e g0 ⟨rfl, hb⟩
    rw [HP.out]
    have HB := Lib.hid (bb hW0' hb)
    have cA := one_cell (f0'.under hb)
    clear hb hW0' f0' ht
    go_wp2
    go_ret2
    exact ⟨.slice none 0 0, by simp [lsCode, HP.out, H7.out], by simpa [lsRes, HP.out, H7.out] using OwnRows.nil _ _, HB.out⟩
  have H7 := Lib.hid h7
  have hap := allPerms_le h7
  have h7' : ¬ ((7 : Int) < t.length) := by omega
  have hrl : ∀ r ∈ t, r.length ≤ 1048576 := fun r hr => by
    obtain ⟨j, hj, rfl⟩ := List.getElem_of_mem hr
    have := isTab_row hp0 (x := j) (by omega) (by omega)
    rw [row_nat _ _ hj] at this; omega
  have HRl := Lib.hid hrl
  clear hp0 hrl
  refine (callsIn_wide (n := 4)).1 ?_
  refine callsIn_of_wp_marks Try.func40 rfl trivial ?_ rfl
  simp only [Try.ntmps40, List.size_toArray, List.length_cons, List.length_nil, Nat.reduceAdd, Nat.reduceSub, Array.replicate_succ, Array.replicate_zero, List.push_toArray, List.append_toArray, List.nil_append, List.cons_append]
  gi_wp2_with (refine ⟨trivial, ?_⟩; gi_at_call 48; rw [HW.out]; refine (callsIn_wide.2 (c_IsTable _ _ _ (ht.below hW0'))).mono ?_; rintro e g0 ⟨rfl, hb⟩; rw [HP.out]; have hB1 := bb hW0' hb; have f1 := f0'.under hb; have cA1 := one_cell f1)
  gi_wp2_with (refine ⟨trivial, ?_⟩; gi_at_call 91; refine (callsIn_wide.2 (c_cloneTable _ _ _ (ht.below hB1) (by omega) HRl.out)).mono ?_; rintro e g1 ⟨r0, rfl, ho0, hb0⟩; obtain ⟨ba, bc, hbv, _⟩ := ho0.rows.shape; subst hbv; have f2 := f1.under hb0; have cA2 := one_cell f2; have cA2z := one_cell (f2.alloc (.cells #[.slice ba t.length bc] 22)))
  gi_wp2_with (refine ⟨trivial, ?_⟩; gi_at_call 117; refine (callsIn_wide.2 (c_permutations _ _)).mono ?_; rintro e w2 ⟨g, rfl, hg, hcell, hb2⟩)
  have hgg : Below g1.heap.size g1 w2 := ((Below.refl _ g1).alloc (Nat.le_refl _) _).trans (hb2.mono (by simp))
  have hbox : Blk w2 g1.heap.size 22 [.slice ba t.length bc] := (Blk.new g1 [.slice ba t.length bc] 22).under hb2
  have hT2 : Blk w2 w.heap.size 22 [.slice a0 t.length c0] := f2.under hgg
  have hB2 : Below w.heap.size w w2 := bb (bb hB1 hb0) hgg
  have hbest0 : OwnRowsIn g0.heap.size g1.heap.size w2 (.slice ba t.length bc) t := (OwnRows.inn ho0).under hgg
  have hltB := hbox.lt
  have hwg : w.heap.size ≤ g0.heap.size := hB1.size
  have hgg1 : g0.heap.size ≤ g1.heap.size := hb0.size
  have hltT : w.heap.size < g0.heap.size := f1.lt
  obtain ⟨N, hN⟩ : ∃ N, N = t.length := ⟨_, rfl⟩
  have hcellN : w2.cell? ⟨g, 0, none⟩ = some (.int .i64 N) := by rw [hN]; exact hcell
  have HN := Lib.hid hN
  have HAp : ∀ k : Nat, k < (allPerms N).length → RenOk t (row (allPerms N) k) := by rw [hN]; exact fun k hk => renOk_all HP.out hk
  have hN1 : 1 ≤ N ∧ N ≤ 7 := by omega
  clear hN hb2 hg hcell hgg hb0 f2 f1 f0' cA1 cA2 cA2z ho0
  refine wpIn_rangeFunc_rows rfl (by omega) (gf := 160) (lb := #[.pointer (some ⟨g, 0, none⟩)]) rfl trivial eg_permutations1
    (fun b => b = g1.heap.size) (by rintro b rfl; exact hltB) (c_perms1 N hN1.1 (by omega) _ g w2 hcellN) rfl
    (fun hi k W => ∃ v, Blk W g1.heap.size 22 [v] ∧ BestAt g0.heap.size g1.heap.size hi W v (bestR (renL t) t ((allPerms N).take k)) ∧ Blk W w.heap.size 22 [.slice a0 t.length c0] ∧ Below w.heap.size w W ∧ w2.heap.size ≤ W.heap.size)
    (fun _ _ _ _ => False)
    ?hI (fun _ _ _ _ _ h _ => h) ?h0
    (fun u => { tmps := #[.slice a0 t.length c0, .pointer (some ⟨w.heap.size, 0, none⟩), .slice none 0 0, .int .i64 0, .pointer (some ⟨g1.heap.size, 0, none⟩), u, undef, .slice a0 t.length c0, .bool true, .bool false, .slice a0 t.length c0,   .int .i64 t.length, .bool (decide ((7 : Int) < t.length)), .slice a0 t.length c0, .slice ba t.length bc, .slice a0 t.length c0, .int .i64 t.length, .func (.func 160) #[] #[.pointer (some ⟨g, 0, none⟩)], u, undef, undef, undef, undef, undef, undef, undef, undef, undef], defers := [] })
    ?assign ?body ?done ?stop
  case hI =>
    rintro hi k W W' ⟨v, h1, h2, h3, h4, h5⟩ hk
    exact ⟨v, h1.of_block (hk.block _ h1.lt (by omega)), h2.keep hk (fun b _ hb h => by omega) (fun b hb h => by omega), h3.of_block (hk.block _ h3.lt (by omega)), h4.trans (hk.below fun k hk' => ⟨by have := h4.size; omega, by omega⟩), Nat.le_trans h5 hk.size⟩
  case h0 =>
    intro W' hb
    exact ⟨_, hbox.under hb, .inl (by simpa [bestR] using hbest0.under hb), hT2.under hb, bb hB2 hb, hb.size⟩
  case assign =>
    intro l u W K hK
    gi_wp2
    exact hK
  case body =>
    rintro l hi k u W ⟨v, h1, h2, h3, h4, h5⟩ hhi hW hk hu
    have hrn := HAp k hk
    have hXl : (bestR (renL t) t ((allPerms N).take k)).length = t.length := by
      rcases bestR_mem (renL t) t ((allPerms N).take k) with h | ⟨p, _, h⟩
      · rw [h]
      · rw [h]; simp
    have hbr := (h2.own (by omega)).rows
    obtain ⟨va, vc, hv, _, _⟩ := hbr.shape
    rw [hXl] at hv
    subst hv
    have HU := Lib.hid hu; have HR := Lib.hid h2; have H1 := Lib.hid h1; have H3 := Lib.hid h3; have H4 := Lib.hid h4; have HRn := Lib.hid hrn; have HBr := Lib.hid hbr; have HXl := Lib.hid hXl
    have c3 := one_cell h3
    clear hu h2 h1 h3 h4 hrn hbr hbox hT2 hB2 hbest0 hcellN HAp hXl
    gi_wp2_with (refine ⟨trivial, ?_⟩; gi_at_call 118; refine (CallsIn.inRound l (callsIn_wide.2 (c_renamed _ _ t _ _ (ht.below H4.out) HU.out HRn.out))).mono ?_; rintro e w1 ⟨r1, rfl, ho1, hb1⟩; obtain ⟨qa, qc, hqv, _⟩ := ho1.rows.shape; rw [renL_length] at hqv; subst hqv; have c4 := one_cell (H1.out.under hb1); have HO1 := Lib.hid ho1; have HB1 := Lib.hid hb1; clear ho1 hb1)
    have hkeep1 : Keep (fun b => b = g1.heap.size ∨ hi ≤ b) W w1 := ((Keep.refl (fun _ => False) W).under HB1.out).mono fun _ _ h => h.elim
    by_cases hc : lexR (renL t (row (allPerms N) k)) (bestR (renL t) t ((allPerms N).take k)) = true
    · have hc1 : cmpR (renL t (row (allPerms N) k)) (bestR (renL t) t ((allPerms N).take k)) < 0 := cmpR_neg.2 hc
      have HC := Lib.hid hc; have HKp := Lib.hid hkeep1
      have f5 := (H1.out.under HB1.out).frozen 0
      clear hc hkeep1
      gi_wp2_with (refine ⟨trivial, ?_⟩; gi_at_call 119; refine (CallsIn.inRound l (callsIn_wide.2 (c_compareTables _ _ _ _ _ HO1.out.rows (HBr.out.below HB1.out)))).mono ?_; rintro e w3 ⟨rfl, nq, rfl⟩)
      have hkp : Keep (fun b => b = g1.heap.size ∨ hi ≤ b) W ((w1.drewN nq).setCell ⟨g1.heap.size, 0, none⟩ (.slice qa t.length qc)) := ((HKp.out.drewN nq).setCell (p := ⟨g1.heap.size, 0, none⟩) (.inl (.inl rfl)) _)
      have hs1 : hi ≤ w1.heap.size := Nat.le_trans hW HB1.out.size
      refine ⟨hkp, .slice qa t.length qc, ((H1.out.under HB1.out).drewN nq).set 0 _, .inr ?_, (((H3.out.under HB1.out).drewN nq).other (a := ⟨g1.heap.size, 0, none⟩) (by show w.heap.size ≠ g1.heap.size; omega) _), H4.out.trans (hkp.below fun b hb => ⟨by have := H4.out.size; omega, fun e => by rcases e with e | e <;> omega⟩), Nat.le_trans h5 hkp.size⟩
      have e : bestR (renL t) t ((allPerms N).take (k + 1)) = renL t (row (allPerms N) k) := by rw [bestR_snoc _ _ _ _ hk, if_pos HC.out]
      rw [e]
      have ho := HO1.out.mono (show hi ≤ W.heap.size from hW)
      exact (ho.keep ((Keep.refl (fun _ => False) w1).drewN nq) (fun _ _ _ h => h)).keep (keep1 _ g1.heap.size 0 _) (fun b h1 _ h3 => by have h3 : b = g1.heap.size := h3; omega)
    · have hc0 : lexR (renL t (row (allPerms N) k)) (bestR (renL t) t ((allPerms N).take k)) = false := by simpa using hc
      have hc1 : ¬ (cmpR (renL t (row (allPerms N) k)) (bestR (renL t) t ((allPerms N).take k)) < 0) := fun h => hc (cmpR_neg.1 h)
      have HC := Lib.hid hc0; have HKp := Lib.hid hkeep1
      clear hc hc0 hkeep1
      gi_wp2_with (refine ⟨trivial, ?_⟩; gi_at_call 119; refine (CallsIn.inRound l (callsIn_wide.2 (c_compareTables _ _ _ _ _ HO1.out.rows (HBr.out.below HB1.out)))).mono ?_; rintro e w3 ⟨rfl, nq, rfl⟩)
      have hkp : Keep (fun b => b = g1.heap.size ∨ hi ≤ b) W (w1.drewN nq) := HKp.out.drewN nq
      have hkz : Keep (fun _ => False) W (w1.drewN nq) := ((Keep.refl (fun _ => False) W).under HB1.out).mono (fun _ _ h => h) |>.drewN nq
      have e : bestR (renL t) t ((allPerms N).take (k + 1)) = bestR (renL t) t ((allPerms N).take k) := by rw [bestR_snoc _ _ _ _ hk, if_neg (by rw [HC.out]; simp)]
      refine ⟨hkp, .slice va t.length vc, (H1.out.under HB1.out).drewN nq, ?_, (H3.out.under HB1.out).drewN nq, H4.out.trans (hkz.below fun b hb => ⟨by have := H4.out.size; omega, fun h => h⟩), Nat.le_trans h5 hkp.size⟩
      rw [e]
      exact HR.out.keep hkz (fun _ _ _ h => h) (fun _ _ h => h)
  case done =>
    rintro D hi W hD hDh ⟨v, h1, h2, h3, h4, h5⟩ hK
    have hc := one_cell h1
    rw [List.take_of_length_le (Nat.le_refl _)] at h2
    have ho := h2.own (by omega : g0.heap.size ≤ hi)
    have H2 := Lib.hid h2; have H4 := Lib.hid h4; have HK := Lib.hid hK
    obtain ⟨ra, rc, rfl, _⟩ := ho.rows.shape
    clear h1 h2 h3 h4 hK hbox hB2 hcellN hT2 hbest0 ho
    gi_wp2
    refine ⟨by simp, .inl ⟨_, _, rfl, run_takeDeferred HK.out, ?_⟩⟩
    have hk := keep_putObj W D (.deferred none)
    refine ⟨.tuple #[.slice ra (bestR (renL t) t (allPerms N)).length rc, .int .i64 0], by simp [results, Try.results40, go_sem], .slice ra (bestR (renL t) t (allPerms N)).length rc, by simp [lsCode, HP.out, H7.out], ?_, ?_⟩
    · have h1 := H2.out.keep hk (fun b _ hb h => by omega) (fun b hb h => by omega)
      have h2 := (h1.own (by omega : g0.heap.size ≤ hi)).mono hwg
      have e : lsRes t = bestR (renL t) t (allPerms N) := by simp [lsRes, lsT, HP.out, H7.out, HN.out]
      rw [e]; exact h2
    · exact H4.out.trans (hk.below fun k hk' => ⟨by have := H4.out.size; omega, by omega⟩)
  case stop =>
    rintro D hi k c W hD _ h _
    exact h.elim

set_option maxRecDepth 100000 in
set_option maxHeartbeats 2000000 in
theorem c_specLeastTable (v0 : Value) (t : List (List Int)) (w : World) (ht : Rows w v0 t)  :
    Calls Try.prog 38 #[v0] w (RRowsC w (lsRes t) (lsCode t)) := by
  by_cases hp0 : isTab t = true
  case neg =>
    have hq0 : isTab t = false := by simpa using hp0
    have HQ := Lib.hid hq0; clear hp0
    obtain ⟨a0, c0, rfl, hc0, hm0⟩ := ht.shape
    go_enter Try.func38, Try.ntmps38
    go_wp2_with fail
    refine (c_l01TableV _ _ _ (ht.below (Below.refl _ _))).mono ?_; rintro e g0 ⟨rfl, hbg0⟩
    have hB0 := hbg0
    clear hbg0
    have HB := Lib.hid hB0
    clear hB0
    go_wp2
    go_ret2
    exact ⟨.slice none 0 0, by simp [lsCode, HQ.out], by simpa [lsRes, HQ.out] using OwnRows.nil _ _, HB.out⟩
  have HP0 := Lib.hid hp0
  obtain ⟨a0, c0, rfl, hc0, hm0⟩ := ht.shape
  go_enter Try.func38, Try.ntmps38
  go_wp2_with fail
  refine (c_l01TableV _ _ _ (ht.below (Below.refl _ _))).mono ?_; rintro e g0 ⟨rfl, hbg0⟩
  have hB0 := hbg0
  clear hbg0
  obtain ⟨hl1, hl2⟩ := isTab_len HP0.out
  by_cases h7 : t.length ≤ 7
  case neg =>
    have H7 := Lib.hid h7
    have h7' : (7 : Int) < t.length := by omega
    have HB := Lib.hid hB0
    clear h7 hB0 ht
    go_wp2
    go_ret2
    exact ⟨.slice none 0 0, by simp [lsCode, HP0.out, H7.out], by simpa [lsRes, HP0.out, H7.out] using OwnRows.nil _ _, HB.out⟩
  have H7 := Lib.hid h7
  have hap := allPerms_le h7
  have h7' : ¬ ((7 : Int) < t.length) := by omega
  have hrl : ∀ r ∈ t, r.length ≤ 1048576 := fun r hr => by
    obtain ⟨j, hj, rfl⟩ := List.getElem_of_mem hr
    have := isTab_row HP0.out (x := j) (by omega) (by omega)
    rw [row_nat _ _ hj] at this; omega
  have HRl := Lib.hid hrl
  clear hrl
  go_wp2_with fail
  refine (c_l01Perms t.length _ hl1 h7).mono ?_; rintro e w1 ⟨r1, rfl, ho1, hb1⟩
  obtain ⟨pa, pc, hpv, _, _⟩ := ho1.rows.shape
  subst hpv
  have hB1 := bb hB0 hb1
  have HAll := Lib.hid ho1.rows
  clear ho1 hb1
  go_wp2_with fail
  refine (c_l01Own2 _ _ _ (ht.below hB1) (by omega) HRl.out).mono ?_; rintro e w2 ⟨r2, rfl, ho2, hb2⟩
  obtain ⟨ba, bc, hbv, _, _⟩ := ho2.rows.shape
  subst hbv
  have hB2 := Lib.hid (bb hB1 hb2)
  have HAll2 := Lib.hid (HAll.out.below hb2)
  have HO2 := Lib.hid (ho2.mono (show w.heap.size ≤ w1.heap.size from hB1.size))
  have HT := Lib.hid (ht.below hB2.out)
  clear ho2 hb2 hB0 hB1
  go_wp2
  go_loopw [5, 6, 7] (fun b i _ wr => ∃ (k : Nat) (va : Option Addr) (vc : Nat), k ≤ (allPerms t.length).length ∧ i = .int .i64 k ∧ b = .slice va t.length vc ∧ Hid (Below w2.heap.size w2 wr) ∧ Hid (OwnRows w.heap.size wr (.slice va t.length vc) (bestR (renL t) t ((allPerms t.length).take k)))) (fun _ i _ _ => (allPerms t.length).length - (intOf i).toNat)
  case atStart => exact ⟨0, _, _, Nat.zero_le _, rfl, rfl, Lib.hid (Below.refl _ _), Lib.hid (by simpa [bestR] using HO2.out)⟩
  case round =>
    clear HO2
    obtain ⟨k, va, vc, hk, rfl, rfl, HB, HO⟩ := hrel
    obtain ⟨wo, rfl⟩ : ∃ wo : World, wo = wr := ⟨_, rfl⟩
    by_cases hlt : k < (allPerms t.length).length
    · obtain ⟨b, o, ra, rc, hpa, hcell, hu⟩ := (HAll2.out.below HB.out).getS k hlt
      have HU := Lib.hid hu
      have hrn := renOk_all HP0.out hlt
      have HRn := Lib.hid hrn
      subst hpa
      clear hu hrn
      go_wp2_with fail
      refine (c_l01Rename _ _ t _ _ (HT.out.below HB.out) HU.out HRn.out).mono ?_; rintro e w3 ⟨r3, rfl, ho3, hb3⟩
      obtain ⟨qa, qc, hqv, _, _⟩ := ho3.rows.shape
      rw [renL_length] at hqv
      subst hqv
      have HO3 := Lib.hid ho3; have HB3 := Lib.hid hb3
      clear ho3 hb3 hcell
      go_wp2_with fail
      refine (c_l01Less2 _ _ _ _ _ HO3.out.rows (HO.out.rows.below HB3.out)).mono ?_; rintro e w4 ⟨rfl, hb4⟩
      have HB4 := Lib.hid (bb HB3.out hb4); have HO4 := Lib.hid (HO3.out.under hb4)
      clear hb4
      have HBn := Lib.hid (bb HB.out HB4.out)
      have hs3 : w.heap.size ≤ wo.heap.size := Nat.le_trans hB2.out.size HB.out.size
      by_cases hc : lexR (renL t (row (allPerms t.length) k)) (bestR (renL t) t ((allPerms t.length).take k)) = true
      · have e : bestR (renL t) t ((allPerms t.length).take (k + 1)) = renL t (row (allPerms t.length) k) := by rw [bestR_snoc _ _ _ _ hlt, if_pos hc]
        have HE := Lib.hid e
        clear e
        go_wp2
        go_roundw
        case rel => exact ⟨k + 1, qa, qc, by omega, by go_num, rfl, HBn, Lib.hid (by rw [HE.out]; exact HO4.out.mono hs3)⟩
        case measure => simp [intOf]; omega
      · have hc0 : lexR (renL t (row (allPerms t.length) k)) (bestR (renL t) t ((allPerms t.length).take k)) = false := by simpa using hc
        have e : bestR (renL t) t ((allPerms t.length).take (k + 1)) = bestR (renL t) t ((allPerms t.length).take k) := by rw [bestR_snoc _ _ _ _ hlt, if_neg hc]
        have HE := Lib.hid e
        clear e hc
        go_wp2
        go_roundw
        case rel => exact ⟨k + 1, va, vc, by omega, by go_num, rfl, HBn, Lib.hid (by rw [HE.out]; exact HO.out.under HB4.out)⟩
        case measure => simp [intOf]; omega
    · have HFin := Lib.hid (show lsRes t = bestR (renL t) t ((allPerms t.length).take k) by rw [List.take_of_length_le (by omega)]; simp [lsRes, lsT, HP0.out, H7.out])
      go_wp2
      go_ret2
      exact ⟨.slice va t.length vc, by simp [lsCode, HP0.out, H7.out], by rw [HFin.out]; exact HO.out, bb hB2.out HB.out⟩

theorem ls_total (t : List (List Int)) : total (lsRes t) ≤ 144 := by
  unfold lsRes
  split
  · rename_i h
    simp only [Bool.and_eq_true, decide_eq_true_eq] at h
    have hl := isTab_len h.1
    have htab : ∀ X : List (List Int), X.length = t.length → (∀ r ∈ X, r.length ≤ 12) → total X ≤ 144 := by
      intro X h1 h2
      have := total_le X h2
      omega
    rcases bestR_mem (renL t) t (allPerms t.length) with e | ⟨p, hp, e⟩
    · unfold lsT; rw [e]
      refine htab t rfl fun r hr => ?_
      obtain ⟨j, hj, rfl⟩ := List.getElem_of_mem hr
      have := isTab_row h.1 (x := j) (by omega) (by omega)
      rw [row_nat _ _ hj] at this; omega
    · unfold lsT; rw [e]
      refine htab _ (by simp) ?_
      exact tab_rows (by omega)
  · simp [total]
theorem cut_waysLeastTable {p G : Prop} (k : Hid p → G) (h : p) : G := k (Lib.hid h)
set_option maxHeartbeats 16000000 in
theorem law_LeastTable (v0 : Value) (x0 : List (List Int)) (w : World) (hx0 : Rows w v0 x0) :
    Calls Try.prog 6 #[v0] w (RVal w (.bool true)) := by
  obtain ⟨a0, c0, rfl, hc0, hm0⟩ := hx0.shape
  go_enter Try.func6, Try.ntmps6
  have BW : Below w.heap.size w w := Below.refl _ _
  go_wp2_with fail
  refine (c_szInt64SS _ _ _ _ (hx0.below BW) (by omega) (by omega)).mono ?_; rintro e w1 ⟨rfl, rfl⟩
  by_cases hg0 : leftR x0 (1048576) < 0
  case pos =>
    have HB := Lib.hid BW; clear BW
    go_wp2
    go_ret
    exact ⟨rfl, HB.out⟩
  have hf0 := leftR_fits (left := 1048576) (by omega) (by omega) hg0
  have Hf0 := Lib.hid hf0
  clear hf0
  have hf0 : x0.length ≤ 1048576 ∧ total x0 ≤ 1048576 ∧ 0 ≤ leftR x0 (1048576) ∧ leftR x0 (1048576) ≤ 1048576 := ⟨Hf0.out.1, Hf0.out.2.2⟩
  have hB0 : total (lsRes x0) ≤ 1152921504606846976 := by have := ls_total x0; omega
  obtain ⟨R0, hR0⟩ : ∃ z, z = lsRes x0 := ⟨_, rfl⟩
  obtain ⟨R1, hR1⟩ : ∃ z, z = lsCode x0 := ⟨_, rfl⟩
  rw [← hR0] at hB0
  have HR0 := Lib.hid hR0
  clear hR0
  have HR1 := Lib.hid hR1
  clear hR1
  have hd0 : decide (R0 = R0) = true := by simp
  have hk1 : (R1 != R1) = false := by simp
  have hda0 : decide (x0 = x0) = true := by simp
  have hq0 : ((1 + (total R0 : Int)) != (1 + (total R0 : Int))) = false := by simp
  go_wp2_with fail
  refine (c_toInt64SS _ _ _ (hx0.below BW) hf0.1 Hf0.out.2.1).mono ?_; rintro e w1 ⟨t1, rfl, ot1r, hb1⟩
  have hs1 := hb1.size
  replace BW := bb BW hb1
  have ot1 := ot1r.inn
  clear ot1r
  clear hb1
  go_wp2_with fail
  refine (c_specLeastTable _ _ _ (ot1.rows)).mono ?_
  rw [← HR0.out, ← HR1.out]
  rintro e w2 ⟨s0, rfl, os0r, hb2⟩
  have hs2 := hb2.size
  replace ot1 := ot1.under hb2
  replace BW := bb BW hb2
  clear ot1
  have hS := os0r.rows
  clear os0r
  have BS : Below w2.heap.size w2 w2 := Below.refl _ _
  clear hb2
  go_wp2_with fail
  refine (c_toInt64SS _ _ _ (hx0.below BW) hf0.1 Hf0.out.2.1).mono ?_; rintro e w3 ⟨z0, rfl, oz0r, hb3⟩
  have hs3 := hb3.size
  replace BW := bb BW hb3
  replace BS := bb BS hb3
  have oz0 := oz0r.inn
  clear oz0r
  clear hb3
  go_wp2_with fail
  refine (c_LeastTable _ _ _ (oz0.rows)).mono ?_
  rw [← HR0.out, ← HR1.out]
  rintro e w4 ⟨g0, rfl, og0r, hb4⟩
  have hs4 := hb4.size
  replace oz0 := oz0.under hb4
  replace BW := bb BW hb4
  replace BS := bb BS hb4
  have og0 := og0r.inn
  clear og0r
  clear hb4
  go_wp2_with fail
  refine (c_eqR _ _ _ _ _ (og0.rows) (hS.below BS)).mono ?_; rintro e w5 ⟨rfl, hb5⟩
  have hs5 := hb5.size
  replace oz0 := oz0.under hb5
  replace og0 := og0.under hb5
  replace BW := bb BW hb5
  replace BS := bb BS hb5
  clear hb5
  go_wp2_with fail
  refine (c_toInt64SS _ _ _ (hx0.below BW) hf0.1 Hf0.out.2.1).mono ?_; rintro e w6 ⟨t2, rfl, ot2r, hb6⟩
  have hs6 := hb6.size
  replace oz0 := oz0.under hb6
  replace og0 := og0.under hb6
  replace BW := bb BW hb6
  replace BS := bb BS hb6
  have ot2 := ot2r.inn
  clear ot2r
  clear hb6
  go_wp2_with fail
  refine (c_eqR _ _ _ _ _ (oz0.rows) (ot2.rows)).mono ?_; rintro e w7 ⟨rfl, hb7⟩
  have hs7 := hb7.size
  replace oz0 := oz0.under hb7
  replace og0 := og0.under hb7
  replace ot2 := ot2.under hb7
  replace BW := bb BW hb7
  replace BS := bb BS hb7
  clear hb7
  clear ot2
  go_wp2_with fail
  refine (c_markR _ _ _ _ _ _ oz0 (by omega) (by omega)).mono ?_; rintro e w8 ⟨rfl, oz0m, hkw8⟩
  have hs8 := hkw8.size
  replace og0 := og0.keep hkw8 (fun b p q r => by omega)
  replace BW := below_keep BW hkw8 (by omega)
  replace BS := below_keep BS hkw8 (by omega)
  clear oz0
  have oz0 := oz0m
  clear oz0m hkw8
  clear oz0
  go_wp2_with fail
  refine (c_eqR _ _ _ _ _ (og0.rows) (hS.below BS)).mono ?_; rintro e w9 ⟨rfl, hb9⟩
  have hs9 := hb9.size
  replace og0 := og0.under hb9
  replace BW := bb BW hb9
  replace BS := bb BS hb9
  clear hb9
  go_wp2_with fail
  refine (c_markR _ _ _ _ _ _ og0 (by omega) (by omega)).mono ?_; rintro e w10 ⟨rfl, og0m, hkw10⟩
  have hs10 := hkw10.size
  replace BW := below_keep BW hkw10 (by omega)
  replace BS := below_keep BS hkw10 (by omega)
  clear og0
  have og0 := og0m
  clear og0m hkw10
  go_wp2_with fail
  refine (c_heldR _ _ _ _ (og0.rows) (by omega) (by omega)).mono ?_; rintro e w11 ⟨rfl, hb11⟩
  have hs11 := hb11.size
  replace og0 := og0.under hb11
  replace BW := bb BW hb11
  replace BS := bb BS hb11
  clear hb11
  go_wp2_with fail
  refine (c_toInt64SS _ _ _ (hx0.below BW) hf0.1 Hf0.out.2.1).mono ?_; rintro e w12 ⟨t3, rfl, ot3r, hb12⟩
  have hs12 := hb12.size
  replace og0 := og0.under hb12
  replace BW := bb BW hb12
  replace BS := bb BS hb12
  have ot3 := ot3r.inn
  clear ot3r
  clear hb12
  go_wp2_with fail
  refine (c_LeastTable _ _ _ (ot3.rows)).mono ?_
  rw [← HR0.out, ← HR1.out]
  rintro e w13 ⟨h0, rfl, oh0r, hb13⟩
  have hs13 := hb13.size
  replace og0 := og0.under hb13
  replace ot3 := ot3.under hb13
  replace BW := bb BW hb13
  replace BS := bb BS hb13
  have oh0 := oh0r.inn
  clear oh0r
  clear ot3
  clear hb13
  go_wp2_with fail
  refine (c_eqR _ _ _ _ _ (oh0.rows) (hS.below BS)).mono ?_; rintro e w14 ⟨rfl, hb14⟩
  have hs14 := hb14.size
  replace og0 := og0.under hb14
  replace oh0 := oh0.under hb14
  replace BW := bb BW hb14
  replace BS := bb BS hb14
  clear hb14
  go_wp2_with fail
  refine (c_heldR _ _ _ _ (og0.rows) (by omega) (by omega)).mono ?_; rintro e w15 ⟨rfl, hb15⟩
  have hs15 := hb15.size
  replace og0 := og0.under hb15
  replace oh0 := oh0.under hb15
  replace BW := bb BW hb15
  replace BS := bb BS hb15
  clear hb15
  have HB := Lib.hid BW
  clear BW BS hS og0 oh0 hx0
  go_wp2
  go_ret
  exact ⟨rfl, HB.out⟩
end Go.Proofs.Ytkcobfkmeaakoaa

namespace Go.Proofs.Ytkcobfkmeaakoaa
open Go Go.RowKit

set_option maxHeartbeats 400000 in
theorem c_specIsTable (v : Value) (t : List (List Int)) (w : World) (hx : Rows w v t) :
    Calls Try.prog 49 #[v] w (RVal w (.bool (isTab t))) := by
  go_enter Try.func49, Try.ntmps49
  go_wp2_with fail
  refine (c_l01Table _ _ _ hx).mono ?_; rintro e w' ⟨rfl, rfl⟩
  go_wp2
  go_ret
  exact ⟨rfl, Below.refl _ _⟩
/-- Lists and tables that can be read, side by side. -/
def AS (w W : World) (L : List (Value × List Int)) (M : List (Value × List (List Int))) : Prop := (∀ e ∈ L, Ints W e.1 e.2) ∧ (∀ e ∈ M, Rows W e.1 e.2) ∧ Below w.heap.size w W
theorem AS.under {w W W' : World} {L : List (Value × List Int)} {M : List (Value × List (List Int))} (h : AS w W L M) (k : Below W.heap.size W W') : AS w W' L M := ⟨fun e he => (h.1 e he).below k, fun e he => (h.2.1 e he).below k, h.2.2.trans (k.mono h.2.2.size)⟩
theorem AS.addI {w W : World} {L : List (Value × List Int)} {M : List (Value × List (List Int))} (h : AS w W L M) {v : Value} {xs : List Int} (hi : Ints W v xs) : AS w W ((v, xs) :: L) M :=
  ⟨fun e he => by rcases List.mem_cons.1 he with rfl | he; exact hi; exact h.1 e he, h.2⟩
theorem AS.addR {w W : World} {L : List (Value × List Int)} {M : List (Value × List (List Int))} (h : AS w W L M) {v : Value} {xs : List (List Int)} (hi : Rows W v xs) : AS w W L ((v, xs) :: M) :=
  ⟨h.1, fun e he => by rcases List.mem_cons.1 he with rfl | he; exact hi; exact h.2.1 e he, h.2.2⟩
theorem AS.getI {w W : World} {L : List (Value × List Int)} {M : List (Value × List (List Int))} (h : AS w W L M) {v : Value} {xs : List Int} (he : (v, xs) ∈ L) : Ints W v xs := h.1 _ he
theorem AS.getR {w W : World} {L : List (Value × List Int)} {M : List (Value × List (List Int))} (h : AS w W L M) {v : Value} {xs : List (List Int)} (he : (v, xs) ∈ M) : Rows W v xs := h.2.1 _ he
theorem renOkB_of {t : List (List Int)} {p : List Int} (h : RenOk t p) : renOkB t p = true := by
  obtain ⟨h1, h2, h3⟩ := h
  obtain ⟨a, b⟩ := isTab_len h1
  simp [renOkB, h1, isPerm, inR, h2, h3]; omega
theorem lat_perm {t : List (List Int)} (ht : isTab t = true) (h : latRes t = true) : permRows t = true := by
  simp [latRes, ht] at h; exact h.1

set_option maxRecDepth 100000 in
set_option maxHeartbeats 8000000 in
theorem law_RenamedTables (v : Value) (bs : List Int) (w : World) (hv : Bytes w v bs) : Calls Try.prog 7 #[v] w (RVal w (.bool true)) := by
  have HV : Hid (BytesR w v bs.length) := Lib.hid hv
  obtain ⟨a, c, hva, -⟩ := hv
  subst hva
  go_enter Try.func7, Try.ntmps7
  go_wp2_with fail
  refine (c_big a bs.length c _).mono ?_; rintro e w' ⟨rfl, rfl⟩
  by_cases hbig : 4096 < bs.length
  case pos =>
    have hd : decide (4096 < bs.length) = true := by simpa using hbig
    rw [hd]; clear hd hbig
    go_wp2
    go_ret
    exact ⟨rfl, Below.refl _ _⟩
  have hd : decide (4096 < bs.length) = false := by simpa using hbig
  rw [hd]; clear hd
  go_wp2_with fail
  refine (c_DrawRename _ bs.length _ HV.out (by omega)).mono ?_; rintro e w1 ⟨v1, v2, X, p, rfl, hx, hp, hXl, hXr, hpl, hb1⟩
  obtain ⟨pa, pc, hv2, _, _⟩ := hp.shape
  subst hv2
  obtain ⟨xa, xc, hv1, _, _⟩ := hx.shape
  subst hv1
  have H1 := Lib.hid (show AS w w1 [(.slice pa p.length pc, p)] [(.slice xa X.length xc, X)] from ⟨fun e he => by simp at he; subst he; exact hp, fun e he => by simp at he; subst he; exact hx, hb1⟩)
  have HXr := Lib.hid hXr
  clear hp hx hb1 hXr
  go_wp2_with fail
  refine (c_RenameTable _ _ X p _ (H1.out.getR (by simp)) (H1.out.getI (by simp))).mono ?_; rintro e w2 ⟨r5, rfl, ho, hb⟩
  have H2 := Lib.hid ((H1.out.under hb).addR ho.rows)
  clear ho hb
  obtain ⟨cd, hcd⟩ : ∃ cd, renCode X p = cd := ⟨_, rfl⟩
  have hcc : (cd != cd) = false := by simp
  have HCd := Lib.hid hcd
  rw [hcd]
  clear hcd
  go_wp2_with fail
  refine (c_specRenameTable _ _ X p _ (H2.out.getR (by simp)) (H2.out.getI (by simp))).mono ?_; rintro e w3 ⟨r7, rfl, ho, hb⟩
  rw [HCd.out]
  have H3 := Lib.hid ((H2.out.under hb).addR ho.rows)
  clear ho hb
  go_wp2_with fail
  refine (c_likeRows5 _ _ (renRes X p) (renRes X p) _ (H3.out.getR (by simp)) (H3.out.getR (by simp))).mono ?_; rintro e w4 ⟨rfl, hb⟩
  rw [show decide (renRes X p = renRes X p) = true from by simp]
  have H4 := Lib.hid (H3.out.under hb)
  clear hb hcc
  go_wp2_with fail
  refine (c_IsTable _ X _ (H4.out.getR (by simp))).mono ?_; rintro e w5 ⟨rfl, hb⟩
  have H5 := Lib.hid (H4.out.under hb)
  clear hb
  obtain ⟨bp, hbp⟩ : ∃ b, isTab X = b := ⟨_, rfl⟩
  have hbb : (bp != bp) = false := by simp
  have HBp := Lib.hid hbp
  rw [hbp]
  clear hbp
  go_wp2_with fail
  refine (c_specIsTable _ X _ (H5.out.getR (by simp))).mono ?_; rintro e w6 ⟨rfl, hb⟩
  rw [HBp.out]
  have H6 := Lib.hid (H5.out.under hb)
  clear hb
  by_cases hok : renOkB X p = true
  case neg =>
    have h1 : renCode X p = 1 := by simp [renCode, hok]
    have e1 : cd = 1 := by rw [← HCd.out]; exact h1
    subst e1
    clear h1 hok
    go_wp2
    go_ret
    exact ⟨rfl, H6.out.2.2⟩
  have h0 : renCode X p = 0 := by simp [renCode, hok]
  have e0 : cd = 0 := by rw [← HCd.out]; exact h0
  subst e0
  have hR := renOkB_ok hok
  have hrr : renRes X p = renL X p := by simp [renRes, hok]
  rw [hrr] at H6
  have HR := Lib.hid hR
  obtain ⟨hl1, hl12⟩ := isTab_len hR.1
  have hpX : p.length = X.length := hR.2.2
  have HPX := Lib.hid hpX
  have HTt := Lib.hid (show isTab X = true ∧ isTab (renL X p) = true from ⟨hR.1, isTab_renL hR⟩)
  clear h0 hok hR hrr hbb hpX hXl
  have HV6 := Lib.hid (HV.out.below H6.out.2.2)
  go_wp2_with fail
  refine (c_roll _ bs.length 812 _ HV6.out (by omega)).mono ?_; rintro e w7 ⟨b, rfl, hwb, hdi, hb⟩
  have H7 := Lib.hid (H6.out.under hb); have HDi := Lib.hid hdi
  have hwb7 : Hid (w.heap.size ≤ b) := Lib.hid (Nat.le_trans H6.out.2.2.size hwb)
  have hwb6 : w6.heap.size ≤ b := hwb
  have hbel6 := Lib.hid hb
  clear hdi hb HV6 hbig
  go_wp2_with fail
  refine (c_perm5 b p.length _ HDi.out (by omega)).mono ?_; rintro e w8 ⟨rq, q, rfl, hql, hqp, hoq, hrd⟩
  have hb8 : Below w7.heap.size w7 w8 ∨ True := .inr trivial
  have H8a := Lib.hid (show Below w.heap.size w w8 from hrd.below H7.out.2.2 hwb7.out H7.out.2.2.size)
  have hbw : Hid (Below w6.heap.size w6 w8) := Lib.hid (hrd.below hbel6.out hwb6 hbel6.out.size)
  have H8 := Lib.hid ((H6.out.under hbw.out).addI hoq.ints)
  have HRq : Hid (RenOk (renL X p) q) := Lib.hid (renOk_ren HR.out hqp (by rw [hql, HPX.out]))
  have HQp := Lib.hid hqp
  have HQl := Lib.hid hql
  clear hoq hrd hqp hql hb8 H7 HDi hwb7 H8a
  have HE1 := Lib.hid (show renRes (renL X p) q = renL (renL X p) q ∧ renCode (renL X p) q = 0 by have := renOkB_of HRq.out; simp [renRes, renCode, this])
  go_wp2_with fail
  refine (c_RenameTable _ _ (renL X p) q _ (H8.out.getR (by simp)) (H8.out.getI (by simp))).mono ?_; rintro e w9 ⟨lf, rfl, ho, hb⟩
  rw [HE1.out.1] at ho
  rw [HE1.out.2]
  have H9 := Lib.hid ((H8.out.under hb).addR ho.rows)
  clear ho hb
  go_wp2_with fail
  refine (c_then5 _ _ p q _ (H9.out.getI (by simp)) (H9.out.getI (by simp))).mono ?_; rintro e w10 ⟨pq, rfl, ho, hb⟩
  have HT1 := Lib.hid (show thenRes p q = thenL p q by
    have a1 := HR.out; have a2 := HRq.out
    obtain ⟨b1, b2⟩ := isTab_len a1.1
    have c1 : isPerm p = true := by simp [isPerm, inR, a1.2.1, a1.2.2]; omega
    have c2 : isPerm q = true := by have := HQl.out; simp [isPerm, inR, HQp.out, this, a1.2.2]; omega
    simp [thenRes, okThen, c1, c2, HQl.out])
  rw [HT1.out] at ho
  have H10 := Lib.hid ((H9.out.under hb).addI ho.ints)
  clear ho hb
  have HR2 : Hid (RenOk X (thenL p q)) := Lib.hid ⟨HR.out.1, then_perm HR.out.2.1 HQp.out HQl.out, by simp; exact HPX.out⟩
  have HE2 := Lib.hid (show renRes X (thenL p q) = renL (renL X p) q ∧ renCode X (thenL p q) = 0 by
    have := renOkB_of HR2.out
    rw [ren_then HR.out HQp.out (by rw [HQl.out, HPX.out])]
    simp [renRes, renCode, this])
  go_wp2_with fail
  refine (c_RenameTable _ _ X (thenL p q) _ (H10.out.getR (by simp)) (H10.out.getI (by simp))).mono ?_; rintro e w11 ⟨rg, rfl, ho, hb⟩
  rw [HE2.out.1] at ho
  rw [HE2.out.2]
  have H11 := Lib.hid ((H10.out.under hb).addR ho.rows)
  clear ho hb
  have HTc := Lib.hid (show tabCode X = 0 ∧ tabCode (renL X p) = 0 by simp [tabCode, HTt.out.1, HTt.out.2])
  obtain ⟨la, hla⟩ : ∃ b, latRes X = b := ⟨_, rfl⟩
  have hlb : latRes (renL X p) = la := by rw [lat_ren HR.out, hla]
  obtain ⟨pr, hpr⟩ : ∃ b, permRows X = b := ⟨_, rfl⟩
  have hp1 : hprRes X = pr := by simp [hprRes, HTt.out.1, hpr]
  have hp2 : hprRes (renL X p) = pr := by simp [hprRes, HTt.out.2, permRows_ren_iff HR.out, hpr]
  have hlp : la = true → pr = true := fun e => by rw [← hpr]; exact lat_perm HTt.out.1 (by rw [hla, e])
  have HLa := Lib.hid hla; have HLb := Lib.hid hlb; have HP1 := Lib.hid hp1; have HP2 := Lib.hid hp2; have HLP := Lib.hid hlp
  have HTr1 := Lib.hid (show transRes X = transL X by simp [transRes, HTt.out.1])
  have HTr2 := Lib.hid (show transRes (transL X) = X ∧ tabCode (transL X) = 0 by
    have := isTab_transL HTt.out.1
    simp [transRes, tabCode, this, trans_trans HTt.out.1])
  clear hla hlb hpr hp1 hp2 hlp
  go_wp2_with fail
  refine (c_IsLatin _ X _ (H11.out.getR (by simp))).mono ?_; rintro e w12 ⟨rfl, hb⟩
  rw [HLa.out, HTc.out.1]
  have H12 := Lib.hid (H11.out.under hb)
  clear hb
  go_wp2_with fail
  refine (c_IsLatin _ (renL X p) _ (H12.out.getR (by simp))).mono ?_; rintro e w13 ⟨rfl, hb⟩
  rw [HLb.out, HTc.out.2]
  have H13 := Lib.hid (H12.out.under hb)
  clear hb
  go_wp2_with fail
  refine (c_HasPermutationRows _ X _ (H13.out.getR (by simp))).mono ?_; rintro e w14 ⟨rfl, hb⟩
  rw [HP1.out, HTc.out.1]
  have H14 := Lib.hid (H13.out.under hb)
  clear hb
  go_wp2_with fail
  refine (c_HasPermutationRows _ (renL X p) _ (H14.out.getR (by simp))).mono ?_; rintro e w15 ⟨rfl, hb⟩
  rw [HP2.out, HTc.out.2]
  have H15 := Lib.hid (H14.out.under hb)
  clear hb
  go_wp2_with fail
  refine (c_TransposeTable _ X _ (H15.out.getR (by simp))).mono ?_; rintro e w16 ⟨tu, rfl, ho, hb⟩
  rw [HTr1.out] at ho
  rw [HTc.out.1]
  have H16 := Lib.hid ((H15.out.under hb).addR ho.rows)
  clear ho hb
  go_wp2_with fail
  refine (c_TransposeTable _ (transL X) _ (H16.out.getR (by simp))).mono ?_; rintro e w17 ⟨ag, rfl, ho, hb⟩
  rw [HTr2.out.1] at ho
  rw [HTr2.out.2]
  have H17 := Lib.hid ((H16.out.under hb).addR ho.rows)
  clear ho hb
  go_wp2_with fail
  refine (c_likeRows5 _ _ (renL (renL X p) q) (renL (renL X p) q) _ (H17.out.getR (by simp)) (H17.out.getR (by simp))).mono ?_; rintro e w18 ⟨rfl, hb⟩
  rw [show decide (renL (renL X p) q = renL (renL X p) q) = true from by simp]
  have H18 := Lib.hid (H17.out.under hb)
  clear hb
  have hll : (la != la) = false := by simp
  have hpp : (pr != pr) = false := by simp
  have hcase : (la = true ∧ pr = true) ∨ la = false := by
    cases h : la with
    | false => exact .inr rfl
    | true => exact .inl ⟨rfl, HLP.out h⟩
  rcases hcase with ⟨ea, eb⟩ | ea
  · subst ea eb
    clear hll hpp HLP
    go_wp2_with fail
    refine (c_likeRows5 _ _ X X _ (H18.out.getR (by simp)) (H18.out.getR (by simp))).mono ?_; rintro e w19 ⟨rfl, hb⟩
    rw [show decide (X = X) = true from by simp]
    have H19 := Lib.hid (H18.out.under hb)
    clear hb
    by_cases h5 : 5 < X.length
    · have h5' : (5 : Int) < X.length := by omega
      go_wp2
      go_ret
      exact ⟨rfl, H19.out.2.2⟩
    have h5' : ¬ (5 : Int) < X.length := by omega
    have HL1 := Lib.hid (show lsRes X = lsT X ∧ lsCode X = 0 by
      have h7 : X.length ≤ 7 := by omega
      simp [lsRes, lsCode, HTt.out.1, h7])
    have HL2 := Lib.hid (show lsRes (renL X p) = lsT X ∧ lsCode (renL X p) = 0 by
      have h7 : X.length ≤ 7 := by omega
      have e : lsT (renL X p) = lsT X := lsT_ren HR.out
      simp [lsRes, lsCode, HTt.out.2, h7, e])
    go_wp2_with fail
    refine (c_LeastTable _ X _ (H19.out.getR (by simp))).mono ?_; rintro e w20 ⟨lx, rfl, ho, hb⟩
    rw [HL1.out.1] at ho
    rw [HL1.out.2]
    have H20 := Lib.hid ((H19.out.under hb).addR ho.rows)
    clear ho hb
    go_wp2_with fail
    refine (c_LeastTable _ (renL X p) _ (H20.out.getR (by simp))).mono ?_; rintro e w21 ⟨ly, rfl, ho, hb⟩
    rw [HL2.out.1] at ho
    rw [HL2.out.2]
    have H21 := Lib.hid ((H20.out.under hb).addR ho.rows)
    clear ho hb
    go_wp2_with fail
    refine (c_likeRows5 _ _ (lsT X) (lsT X) _ (H21.out.getR (by simp)) (H21.out.getR (by simp))).mono ?_; rintro e w22 ⟨rfl, hb⟩
    rw [show decide (lsT X = lsT X) = true from by simp]
    have H22 := Lib.hid (H21.out.under hb)
    clear hb
    go_wp2
    go_ret
    exact ⟨rfl, H22.out.2.2⟩
  · subst ea
    clear hll HLP
    go_wp2_with fail
    refine (c_likeRows5 _ _ X X _ (H18.out.getR (by simp)) (H18.out.getR (by simp))).mono ?_; rintro e w19 ⟨rfl, hb⟩
    rw [show decide (X = X) = true from by simp]
    have H19 := Lib.hid (H18.out.under hb)
    clear hb
    by_cases h5 : 5 < X.length
    · have h5' : (5 : Int) < X.length := by omega
      go_wp2
      go_ret
      exact ⟨rfl, H19.out.2.2⟩
    have h5' : ¬ (5 : Int) < X.length := by omega
    have HL1 := Lib.hid (show lsRes X = lsT X ∧ lsCode X = 0 by
      have h7 : X.length ≤ 7 := by omega
      simp [lsRes, lsCode, HTt.out.1, h7])
    have HL2 := Lib.hid (show lsRes (renL X p) = lsT X ∧ lsCode (renL X p) = 0 by
      have h7 : X.length ≤ 7 := by omega
      have e : lsT (renL X p) = lsT X := lsT_ren HR.out
      simp [lsRes, lsCode, HTt.out.2, h7, e])
    go_wp2_with fail
    refine (c_LeastTable _ X _ (H19.out.getR (by simp))).mono ?_; rintro e w20 ⟨lx, rfl, ho, hb⟩
    rw [HL1.out.1] at ho
    rw [HL1.out.2]
    have H20 := Lib.hid ((H19.out.under hb).addR ho.rows)
    clear ho hb
    go_wp2_with fail
    refine (c_LeastTable _ (renL X p) _ (H20.out.getR (by simp))).mono ?_; rintro e w21 ⟨ly, rfl, ho, hb⟩
    rw [HL2.out.1] at ho
    rw [HL2.out.2]
    have H21 := Lib.hid ((H20.out.under hb).addR ho.rows)
    clear ho hb
    go_wp2_with fail
    refine (c_likeRows5 _ _ (lsT X) (lsT X) _ (H21.out.getR (by simp)) (H21.out.getR (by simp))).mono ?_; rintro e w22 ⟨rfl, hb⟩
    rw [show decide (lsT X = lsT X) = true from by simp]
    have H22 := Lib.hid (H21.out.under hb)
    clear hb
    go_wp2
    go_ret
    exact ⟨rfl, H22.out.2.2⟩
end Go.Proofs.Ytkcobfkmeaakoaa
