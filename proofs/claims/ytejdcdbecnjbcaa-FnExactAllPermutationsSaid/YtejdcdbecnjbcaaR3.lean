/-
  AllPermutations: the program's function.
-/
import Derived.Test.YtejdcdbecnjbcaaR2
import Derived.Test.YtejdcdbecnjbcaaI21
import Derived.Test.YtejdcdbecnjbcaaI3c
import Derived.Test.YtejdcdbecnjbcaaS4
import Derived.Test.YtejdcdbecnjbcaaI1
namespace Go.Proofs.Ytejdcdbecnjbcaa
open Go Go.RowKit Go.Shelf
attribute [local go_sem] Oper.semAt_some

theorem eg_permutations1 : ∀ args w, (callFunc 87 args).run Try.prog w = .ok (.enter 87 args) w := Go.Proofs.enters_of Try.func87 (by kernel_rfl) rfl
set_option maxHeartbeats 400000 in
theorem c_permutations (n : Int) (w : World) :
    Calls Try.prog 72 #[.int .i64 n] w (fun e w' => ∃ g, e = .returned (.func (.func 87) #[] #[.pointer (some ⟨g, 0, none⟩)]) ∧ w.heap.size ≤ g ∧ w'.cell? ⟨g, 0, none⟩ = some (.int .i64 n) ∧ Below w.heap.size w w') := by
  obtain ⟨f0, hW0, hsz⟩ := boxes1' w [.int .i64 n] 3
  have hf := one_cell f0
  have HW := Lib.hid hW0; have HF := Lib.hid hf
  clear f0 hW0 hsz hf
  go_enter Try.func72, Try.ntmps72
  go_wp2
  go_ret
  exact ⟨w.heap.size, rfl, Nat.le_refl _, HF.out, HW.out⟩

theorem stepIn_append {F : Fence} {n : Nat} {P : Program} {ops : Array Oper} {o : Oper} {a : Act} {K : Act → World → Prop} {Q : Exit → Act → World → Prop} {E : Prop} {W W' : World} {v' : Value} (hgd : o.guard = none) (hF : ∀ f, F.fn f) (s x : Operand) (t : TypeId)
    (ho : o.op = .call { callee := .builtin .append, args := #[s, x], argTypes := #[t, t] }) (hrun : (Builtin.append_ #[t, t] o.type #[a.eval s, a.eval x]).run P W = .ok v' W') (h : K (a.put o.dst v') W') :
    if Region.wanted o (yielded ops a.tmps) = true then Oper.wpIn F n P o a W K Q else E := by
  have hw : Region.wanted o (yielded ops a.tmps) = true := by simp [Region.wanted, hgd]
  rw [if_pos hw]
  refine ⟨fun f _ => hF f, ?_⟩
  rw [Oper.semAt_eq _ _ _ (by rw [ho]; intro c hc; cases hc)]
  unfold execOp
  simp only [ho, resolve, invoke, builtin, Sem.run_bind, Sem.run_pure, Result.andThen_ok, List.map_toArray, List.map_cons, List.map_nil, hrun]
  exact h

/-- 'append(s, u)' of one row: the run. -/
theorem run_app_row2 (B m : Nat) (w : World) (ty : TypeId) (v : Value) (xss : List (List Int)) (u : Value) (xs : List Int) (hown : OwnRowsIn B m w v xss) (hu : Own m w u xs) (hn : xss.length ≤ 1099511627776) (hB : B ≤ m) (hB2 : B ≤ w.heap.size) :
    ∃ g c' w', (Builtin.append_ #[33, 33] ty #[v, .slice (some ⟨w.heap.size, 0, none⟩) 1 1]).run Try.prog (w.alloc (.cells #[u] 23)) = .ok (.slice (some ⟨g, 0, none⟩) (xss.length + 1) c') w' ∧ OwnRows B w' (.slice (some ⟨g, 0, none⟩) (xss.length + 1) c') (xss ++ [xs]) ∧ Keep (fun b => v.ownBlock = some b) w w' := by
  obtain ⟨us, h1, h2, _, hlt⟩ := hown
  have h2' := rowvals_snoc h2 hlt hu hB
  have hlen := h2.len
  obtain ⟨ua, uc, hu1, _⟩ := hu.shape
  obtain ⟨i0, hi, hz0, hz1, hz2⟩ := info_parts inf_ints
  obtain ⟨g, cap, w', hr, h3, h4, h5, _⟩ := run_append_lies (P := Try.prog) (w.alloc (.cells #[u] 23)) 33 ty B 23 i0 (.slice none 0 0) 1 24 Try.underlying33 hi hz0 hz1 hz2 rfl (by decide) v us.length us (h1.alloc _) ⟨w.heap.size, 0, none⟩ 1 1 [u] rfl
    (by
      intro j u' hj
      match j, hj with
      | 0, hj => simp at hj; subst hj; simp [Addr.add])
    (by intro u' hu'; simp at hu'; subst hu'; subst hu1; rfl) (by decide) (by unfold maxLen; omega) (by omega) (by simp; omega) (w.heap.size + 1) (by simp)
  have hk := Keep.of_grown h4
  have hk2 : Keep (fun b => v.ownBlock = some b) w w' := ((Keep.refl _ w).alloc _).trans hk
  rw [hlen] at h3 hr
  exact ⟨g, cap, w', hr, ⟨us ++ [u], by simpa [hlen] using h3, rowvals_keepT h2' h1 hk2⟩, hk2⟩

def apRes (n : Int) : List (List Int) := if inR n 1 7 then allPerms n.toNat else []
def apCode (n : Int) : Int := if inR n 1 7 then 0 else 2

set_option maxRecDepth 100000 in
set_option maxHeartbeats 2000000 in
theorem c_AllPermutations (n : Int) (w : World) (hlo : -9223372036854775808 ≤ n) (hhi : n ≤ 9223372036854775807) :
    Calls Try.prog 42 #[.int .i64 n] w (RRowsC w (apRes n) (apCode n)) := by
  by_cases hp : inR n 1 7 = true
  case neg =>
    have hp' : inR n 1 7 = false := by simpa using hp
    have HP := Lib.hid hp'; clear hp hp'
    go_enter Try.func42, Try.ntmps42
    go_wp2_with fail
    refine (c_within _ _ _ _).mono ?_; rintro e w' ⟨rfl, rfl⟩
    rw [HP.out]
    go_wp2
    go_ret2
    exact ⟨.slice none 0 0, by simp [apCode, HP.out], by simpa [apRes, HP.out] using OwnRows.nil _ _, Below.refl _ _⟩
  have HP := Lib.hid hp
  obtain ⟨N, rfl⟩ : ∃ N : Nat, n = N := ⟨n.toNat, by simp [inR] at hp; omega⟩
  have hN : 1 ≤ N ∧ N ≤ 7 := by simp [inR] at hp; omega
  obtain ⟨hN1, hN2⟩ := hN
  have hap := allPerms_le hN2
  clear hp
  refine (callsIn_wide (n := 4)).1 ?_
  refine callsIn_of_wp_marks Try.func42 rfl trivial ?_ rfl
  simp only [Try.ntmps42, List.size_toArray, List.length_cons, List.length_nil, Nat.reduceAdd, Nat.reduceSub, Array.replicate_succ, Array.replicate_zero, List.push_toArray, List.append_toArray, List.nil_append, List.cons_append]
  gi_wp2_with (refine ⟨trivial, ?_⟩; gi_at_call 52; refine (callsIn_wide.2 (c_within _ _ _ _)).mono ?_; rintro e w' ⟨rfl, rfl⟩; rw [HP.out])
  gi_wp2_with (refine ⟨trivial, ?_⟩; gi_at_call 72; refine (callsIn_wide.2 (c_permutations _ _)).mono ?_; rintro e w2 ⟨g, rfl, hg, hcell, hb2⟩)
  have hbox : Blk w2 w.heap.size 33 [.slice none 0 0] := (Blk.new w [.slice none 0 0] 33).under hb2
  have hB2 : Below w.heap.size w w2 := ((Below.refl _ w).alloc (Nat.le_refl _) _).trans (hb2.mono (by simp))
  have hlt := hbox.lt
  clear hb2 hg
  refine wpIn_rangeFunc_rows rfl (by omega) (gf := 87) (lb := #[.pointer (some ⟨g, 0, none⟩)]) rfl trivial eg_permutations1
    (fun b => b = w.heap.size) (by rintro b rfl; exact hlt) (c_perms1 N hN1 (by omega) _ g w2 hcell) rfl
    (fun hi k W => ∃ v, Blk W w.heap.size 33 [v] ∧ OwnRows hi W v ((allPerms N).take k) ∧ Below w.heap.size w W ∧ w2.heap.size ≤ W.heap.size)
    (fun _ _ _ _ => False)
    ?hI (fun _ _ _ _ _ h _ => h) ?h0
    (fun u => { tmps := #[.int .i64 N, undef, .slice none 0 0, .int .i64 0, .pointer (some ⟨w.heap.size, 0, none⟩), u, .int .i64 N, .bool true, .bool false, .int .i64 N, .func (.func 87) #[] #[.pointer (some ⟨g, 0, none⟩)], u, undef, undef, undef, undef, undef, undef], defers := [] })
    ?assign ?body ?done ?stop
  case hI =>
    rintro hi k W W' ⟨v, h1, h2, h3, h4⟩ hk
    exact ⟨v, h1.of_block (hk.block _ h1.lt (by omega)), h2.keep hk (fun b hb _ h => by omega), h3.trans (hk.below fun k hk' => ⟨by have := h3.size; omega, by omega⟩), Nat.le_trans h4 hk.size⟩
  case h0 =>
    intro W' hb
    exact ⟨_, hbox.under hb, by simpa using OwnRows.nil _ _, bb hB2 hb, hb.size⟩
  case assign =>
    intro l u W K hK
    gi_wp2
    exact hK
  case body =>
    rintro l hi k u W ⟨v, h1, h2, h3, h4⟩ hhi hW hk hu
    have hmix : Try.prog.follows .mixedOrders = true := by kernel_rfl
    have hlk : ((allPerms N).take k).length = k := by simp; omega
    obtain ⟨ra, rc, hv, _⟩ := h2.rows.shape
    rw [hlk] at hv
    subst hv
    have hpl := (allPerms_row hk).2
    have HU := Lib.hid (hu.below (Below.refl _ _).drew); have HR := Lib.hid h2; have HX := Lib.hid h1.drew; have H3 := Lib.hid h3
    have hc := one_cell h1.drew
    clear hu h2 h1 h3 hcell hbox hB2
    gi_wp2
    have HAp : Hid (∀ (w' : World) (r : Value), Below W.drew.heap.size W.drew w' → Own W.drew.heap.size w' r (row (allPerms N) k) → ∃ g c' w2, (Builtin.append_ #[33, 33] 33 #[.slice ra k rc, .slice (some ⟨w'.heap.size, 0, none⟩) 1 1]).run Try.prog (w'.alloc (.cells #[r] 23)) = .ok (.slice (some ⟨g, 0, none⟩) (((allPerms N).take k).length + 1) c') w2 ∧ OwnRows hi w2 (.slice (some ⟨g, 0, none⟩) (((allPerms N).take k).length + 1) c') ((allPerms N).take k ++ [row (allPerms N) k]) ∧ Keep (fun b => (Value.slice ra k rc).ownBlock = some b) w' w2) := by
      intro w' r hb ho
      exact run_app_row2 hi W.drew.heap.size w' _ _ _ _ _ ((OwnRows.inn (HR.out.under (Below.refl _ _).drew)).under hb) ho (by rw [hlk]; omega) hW (Nat.le_trans hW hb.size)
    have HLo : Hid (∀ b, (Value.slice ra k rc).ownBlock = some b → w.heap.size < b) := by
      intro b e
      have := (OwnRows.lt HR.out e).1
      have := hlt
      omega
    have Fin : Hid (∀ (w' w2' : World) (g2 c2 : Nat), Below W.drew.heap.size W.drew w' → OwnRows hi w2' (.slice (some ⟨g2, 0, none⟩) (k + 1) c2) ((allPerms N).take k ++ [row (allPerms N) k]) → Keep (fun b => (Value.slice ra k rc).ownBlock = some b) w' w2' → Blk w2' w.heap.size 33 [.slice ra k rc] →
        Keep (fun b => b = w.heap.size ∨ hi ≤ b) W (w2'.setCell ⟨w.heap.size, 0, none⟩ (.slice (some ⟨g2, 0, none⟩) (k + 1) c2)) ∧ ∃ v, Blk (w2'.setCell ⟨w.heap.size, 0, none⟩ (.slice (some ⟨g2, 0, none⟩) (k + 1) c2)) w.heap.size 33 [v] ∧ OwnRows hi (w2'.setCell ⟨w.heap.size, 0, none⟩ (.slice (some ⟨g2, 0, none⟩) (k + 1) c2)) v ((allPerms N).take (k + 1)) ∧ Below w.heap.size w (w2'.setCell ⟨w.heap.size, 0, none⟩ (.slice (some ⟨g2, 0, none⟩) (k + 1) c2)) ∧ w2.heap.size ≤ (w2'.setCell ⟨w.heap.size, 0, none⟩ (.slice (some ⟨g2, 0, none⟩) (k + 1) c2)).heap.size) := by
      intro w' w2' g2 c2 hb ho hk2 hbx
      have hW' : W.drew.heap.size = W.heap.size := rfl
      have hkeep : Keep (fun b => b = w.heap.size ∨ hi ≤ b) W (w2'.setCell ⟨w.heap.size, 0, none⟩ (.slice (some ⟨g2, 0, none⟩) (k + 1) c2)) := by
        have k1 : Keep (fun b => b = w.heap.size ∨ hi ≤ b) W w' := ((Keep.refl (fun _ => False) W).drew.under (by rw [hW']; exact hb)).mono fun _ _ h => h.elim
        have k2 : Keep (fun b => b = w.heap.size ∨ hi ≤ b) w' w2' := hk2.mono fun b _ e => .inr (OwnRows.lt HR.out e).1
        exact (k1.trans k2).setCell (p := ⟨w.heap.size, 0, none⟩) (.inl (.inl rfl)) _
      refine ⟨hkeep, _, hbx.set 0 _, ?_, ?_, Nat.le_trans h4 hkeep.size⟩
      · have e : (allPerms N).take (k + 1) = (allPerms N).take k ++ [row (allPerms N) k] := take_snoc_row _ _ hk
        rw [e]
        exact ho.keep (keep1 w2' w.heap.size 0 _) (fun b h1 _ h3 => by have h3 : b = w.heap.size := h3; omega)
      · exact H3.out.trans (hkeep.below fun b hb => ⟨by have := H3.out.size; omega, fun e => by rcases e with e | e <;> omega⟩)
    refine wpIn_region_any hmix ?_
    change wpAnyIn _ _ _ _ _ _ _ _ _ (World.drew _)
    refine wpAnyIn_ready (rs := [0, 1]) (by kernel_rfl) (by simp) ?_
    refine AllReadyIn.cons rfl (fun K hK => ?_) (AllReadyIn.cons rfl (fun K hK => ?_) AllReadyIn.nil)
    · go_simp
      refine hK _ _ ?_
      clear hK K
      refine wpAnyIn_ready (rs := [1]) (by kernel_rfl) (by simp) ?_
      refine AllReadyIn.cons rfl (fun K hK => ?_) AllReadyIn.nil
      go_simp
      refine hK _ _ ?_
      clear hK K
      refine wpAnyIn_ready (rs := [2]) (by kernel_rfl) (by simp) ?_
      refine AllReadyIn.cons rfl (fun K hK => ?_) AllReadyIn.nil
      go_simp
      gi_wp2_with (refine ⟨trivial, ?_⟩; gi_at_call 73; refine (CallsIn.inRound l (callsIn_wide.2 (c_Clone _ _ _ HU.out (by omega)))).mono ?_; rintro e w' ⟨r, rfl, ho, hb⟩; obtain ⟨qa, qc, hqv, _⟩ := ho.shape; rw [hpl] at hqv; subst hqv; have hc1 := one_cell (HX.out.under hb); have hc1z := one_cell ((HX.out.under hb).alloc (Obj.cells #[.slice qa N qc] 23)); have hbx := HX.out.under hb; obtain ⟨g2, c2, w2', hrun, hown2, hk2⟩ := HAp.out w' _ hb ho; rw [hlk] at hrun hown2; have hbx2 := hbx.of_block (hk2.block _ hbx.lt (fun e => by have := (HLo.out _ e); omega)); have hc2 := one_cell hbx2; have hf2 := hbx2.frozen 0; have HRun := Lib.hid hrun; have HO2 := Lib.hid hown2; have HK2 := Lib.hid hk2; have HB := Lib.hid hb; have HBX := Lib.hid hbx2; clear ho hb hrun hown2 hk2 hbx hbx2)
      refine wpAnyIn_ready (rs := [3]) (by kernel_rfl) (by simp) ?_
      refine AllReadyIn.cons rfl (fun K hK => ?_) AllReadyIn.nil
      go_simp
      refine hK _ _ ?_
      clear hK K
      refine wpAnyIn_ready (rs := [4]) (by kernel_rfl) (by simp) ?_
      refine AllReadyIn.cons rfl (fun K hK => ?_) AllReadyIn.nil
      refine stepIn_append rfl (fun _ => trivial) (.tmp 12) (.tmp 15) 33 rfl HRun.out ?_
      refine hK _ _ ?_
      clear hK K
      refine wpAnyIn_ready (rs := [5]) (by kernel_rfl) (by simp) ?_
      refine AllReadyIn.cons rfl (fun K hK => ?_) AllReadyIn.nil
      go_simp
      refine hK _ _ ?_
      clear hK K
      refine wpAnyIn_done (by kernel_rfl) ?_ _
      exact Fin.out _ _ _ _ HB.out HO2.out HK2.out HBX.out
    · go_simp
      refine hK _ _ ?_
      clear hK K
      refine wpAnyIn_ready (rs := [0, 2]) (by kernel_rfl) (by simp) ?_
      refine AllReadyIn.cons rfl (fun K hK => ?_) (AllReadyIn.cons rfl (fun K hK => ?_) AllReadyIn.nil)
      · go_simp
        refine hK _ _ ?_
        clear hK K
        refine wpAnyIn_ready (rs := [2]) (by kernel_rfl) (by simp) ?_
        refine AllReadyIn.cons rfl (fun K hK => ?_) AllReadyIn.nil
        go_simp
        gi_wp2_with (refine ⟨trivial, ?_⟩; gi_at_call 73; refine (CallsIn.inRound l (callsIn_wide.2 (c_Clone _ _ _ HU.out (by omega)))).mono ?_; rintro e w' ⟨r, rfl, ho, hb⟩; obtain ⟨qa, qc, hqv, _⟩ := ho.shape; rw [hpl] at hqv; subst hqv; have hc1 := one_cell (HX.out.under hb); have hc1z := one_cell ((HX.out.under hb).alloc (Obj.cells #[.slice qa N qc] 23)); have hbx := HX.out.under hb; obtain ⟨g2, c2, w2', hrun, hown2, hk2⟩ := HAp.out w' _ hb ho; rw [hlk] at hrun hown2; have hbx2 := hbx.of_block (hk2.block _ hbx.lt (fun e => by have := (HLo.out _ e); omega)); have hc2 := one_cell hbx2; have hf2 := hbx2.frozen 0; have HRun := Lib.hid hrun; have HO2 := Lib.hid hown2; have HK2 := Lib.hid hk2; have HB := Lib.hid hb; have HBX := Lib.hid hbx2; clear ho hb hrun hown2 hk2 hbx hbx2)
        refine wpAnyIn_ready (rs := [3]) (by kernel_rfl) (by simp) ?_
        refine AllReadyIn.cons rfl (fun K hK => ?_) AllReadyIn.nil
        go_simp
        refine hK _ _ ?_
        clear hK K
        refine wpAnyIn_ready (rs := [4]) (by kernel_rfl) (by simp) ?_
        refine AllReadyIn.cons rfl (fun K hK => ?_) AllReadyIn.nil
        refine stepIn_append rfl (fun _ => trivial) (.tmp 12) (.tmp 15) 33 rfl HRun.out ?_
        refine hK _ _ ?_
        clear hK K
        refine wpAnyIn_ready (rs := [5]) (by kernel_rfl) (by simp) ?_
        refine AllReadyIn.cons rfl (fun K hK => ?_) AllReadyIn.nil
        go_simp
        refine hK _ _ ?_
        clear hK K
        refine wpAnyIn_done (by kernel_rfl) ?_ _
        exact Fin.out _ _ _ _ HB.out HO2.out HK2.out HBX.out
      · go_simp
        gi_wp2_with (refine ⟨trivial, ?_⟩; gi_at_call 73; refine (CallsIn.inRound l (callsIn_wide.2 (c_Clone _ _ _ HU.out (by omega)))).mono ?_; rintro e w' ⟨r, rfl, ho, hb⟩; obtain ⟨qa, qc, hqv, _⟩ := ho.shape; rw [hpl] at hqv; subst hqv; have hc1 := one_cell (HX.out.under hb); have hc1z := one_cell ((HX.out.under hb).alloc (Obj.cells #[.slice qa N qc] 23)); have hbx := HX.out.under hb; obtain ⟨g2, c2, w2', hrun, hown2, hk2⟩ := HAp.out w' _ hb ho; rw [hlk] at hrun hown2; have hbx2 := hbx.of_block (hk2.block _ hbx.lt (fun e => by have := (HLo.out _ e); omega)); have hc2 := one_cell hbx2; have hf2 := hbx2.frozen 0; have HRun := Lib.hid hrun; have HO2 := Lib.hid hown2; have HK2 := Lib.hid hk2; have HB := Lib.hid hb; have HBX := Lib.hid hbx2; clear ho hb hrun hown2 hk2 hbx hbx2)
        refine wpAnyIn_ready (rs := [0, 3]) (by kernel_rfl) (by simp) ?_
        refine AllReadyIn.cons rfl (fun K hK => ?_) (AllReadyIn.cons rfl (fun K hK => ?_) AllReadyIn.nil)
        · go_simp
          refine hK _ _ ?_
          clear hK K
          refine wpAnyIn_ready (rs := [3]) (by kernel_rfl) (by simp) ?_
          refine AllReadyIn.cons rfl (fun K hK => ?_) AllReadyIn.nil
          go_simp
          refine hK _ _ ?_
          clear hK K
          refine wpAnyIn_ready (rs := [4]) (by kernel_rfl) (by simp) ?_
          refine AllReadyIn.cons rfl (fun K hK => ?_) AllReadyIn.nil
          refine stepIn_append rfl (fun _ => trivial) (.tmp 12) (.tmp 15) 33 rfl HRun.out ?_
          refine hK _ _ ?_
          clear hK K
          refine wpAnyIn_ready (rs := [5]) (by kernel_rfl) (by simp) ?_
          refine AllReadyIn.cons rfl (fun K hK => ?_) AllReadyIn.nil
          go_simp
          refine hK _ _ ?_
          clear hK K
          refine wpAnyIn_done (by kernel_rfl) ?_ _
          exact Fin.out _ _ _ _ HB.out HO2.out HK2.out HBX.out
        · go_simp
          refine hK _ _ ?_
          clear hK K
          refine wpAnyIn_ready (rs := [0]) (by kernel_rfl) (by simp) ?_
          refine AllReadyIn.cons rfl (fun K hK => ?_) AllReadyIn.nil
          go_simp
          refine hK _ _ ?_
          clear hK K
          refine wpAnyIn_ready (rs := [4]) (by kernel_rfl) (by simp) ?_
          refine AllReadyIn.cons rfl (fun K hK => ?_) AllReadyIn.nil
          refine stepIn_append rfl (fun _ => trivial) (.tmp 12) (.tmp 15) 33 rfl HRun.out ?_
          refine hK _ _ ?_
          clear hK K
          refine wpAnyIn_ready (rs := [5]) (by kernel_rfl) (by simp) ?_
          refine AllReadyIn.cons rfl (fun K hK => ?_) AllReadyIn.nil
          go_simp
          refine hK _ _ ?_
          clear hK K
          refine wpAnyIn_done (by kernel_rfl) ?_ _
          exact Fin.out _ _ _ _ HB.out HO2.out HK2.out HBX.out
  case done =>
    rintro D hi W hD hDh ⟨v, h1, h2, h3, h4⟩ hK
    have hc := one_cell h1
    rw [List.take_of_length_le (Nat.le_refl _)] at h2
    have H2 := Lib.hid h2; have H3 := Lib.hid h3; have HK := Lib.hid hK
    obtain ⟨ra, rc, rfl, _⟩ := h2.rows.shape
    clear h1 h2 h3 hK hbox hB2 hcell
    gi_wp2
    refine ⟨by simp, .inl ⟨_, _, rfl, run_takeDeferred HK.out, ?_⟩⟩
    have hk := keep_putObj W D (.deferred none)
    refine ⟨.tuple #[.slice ra (allPerms N).length rc, .int .i64 0], by simp [results, Try.results42, go_sem], .slice ra (allPerms N).length rc, by simp [apCode, HP.out], ?_, ?_⟩
    · have h1 := H2.out.keep hk (fun b hb _ h => by omega)
      have h2 := h1.mono (show w.heap.size ≤ hi by omega)
      simpa [apRes, HP.out] using h2
    · exact H3.out.trans (hk.below fun k hk' => ⟨by have := H3.out.size; omega, by omega⟩)
  case stop =>
    rintro D hi k c W hD _ h _
    exact h.elim
end Go.Proofs.Ytejdcdbecnjbcaa
