/-
  Texts of the proof of FnSolutions, joined: draws of solutions, what the calls leave, the law's walk.
-/
import Derived.Test.YtkcobfkmeaakoaaP5
import Derived.Test.YtkcobfkmeaakoaaSO1
import Derived.Test.YtkcobfkmeaakoaaS1
import Derived.Test.YtkcobfkmeaakoaaI3c
import Derived.Test.YtkcobfkmeaakoaaI1
import Derived.Test.YtkcobfkmeaakoaaI3d
import Derived.Test.YtkcobfkmeaakoaaI3b
import Derived.Test.YtkcobfkmeaakoaaLTables
import Derived.ControlIn
import Derived.Test.YtkcobfkmeaakoaaI13
import Derived.BigQuiet
import Derived.Deep.RegionHeld3
import Derived.Test.YtkcobfkmeaakoaaT1
import Derived.Test.YtkcobfkmeaakoaaI20
import Derived.Test.YtkcobfkmeaakoaaD2
import Derived.Test.YtkcobfkmeaakoaaI6
import Derived.StillTailTactics
namespace Go.Proofs.Ytkcobfkmeaakoaa
set_option linter.unusedVariables false
set_option linter.unusedSimpArgs false
open Go.RowKit

theorem Keep.chain {S T : Nat → Prop} {w w1 w2 : World} (h1 : Keep S w w1) (h2 : Keep T w1 w2) (hT : ∀ b, b < w.heap.size → T b → S b) : Keep S w w2 :=
  ⟨h2.os.trans h1.os, h2.tape.trans h1.tape, h2.output.trans h1.output, Nat.le_trans h1.size h2.size, fun k hk hn => (h2.block k (Nat.lt_of_lt_of_le hk h1.size) (fun h => hn (hT k hk h))).trans (h1.block k hk hn)⟩
theorem Own.keepR {B B0 : Nat} {w w' : World} {u v : Value} {xs : List Int} {yss : List (List Int)} (h : Own B w u xs) (hv : OwnRows B0 w v yss) (k : Keep (fun b => v.ownBlock = some b) w w') : Own B w' u xs := by
  obtain ⟨us', h3, h4⟩ := hv
  obtain ⟨hl, hn' | ⟨g, cap, cur, hv5, hbg, hg, r⟩⟩ := h
  · exact ⟨hl, .inl hn'⟩
  · refine ⟨hl, .inr ⟨g, cap, cur, hv5, hbg, ?_, r⟩⟩
    rw [k.block g (Array.getElem?_eq_some_iff.1 hg).1 ?_]; exact hg
    intro e
    obtain ⟨_, hnn | ⟨g', cap', cur', hv', _, hg', _⟩⟩ := h3
    · rw [hnn.1] at e; cases e
    · rw [hv'] at e
      simp [Value.ownBlock] at e
      subst e
      rw [hg] at hg'
      simp at hg'

def partG (n m : Nat) (start : List Int) (k : Nat) : List (List Int) := ((iota k).filter fun x => decide (¬ x ∈ start)).flatMap fun x => growL n m (start ++ [x])
theorem partG_succ (n m : Nat) (start : List Int) (k : Nat) : partG n m start (k + 1) = partG n m start k ++ (if (k : Int) ∈ start then [] else growL n m (start ++ [(k : Int)])) := by
  unfold partG
  rw [show iota (k + 1) = iota k ++ [(k : Int)] from by simp [iota, List.range_succ], List.filter_append, List.flatMap_append]
  congr 1
  by_cases h : (k : Int) ∈ start
  · simp [h]
  · simp [h]
theorem partG_mono (n m : Nat) (start : List Int) (k : Nat) : ∀ d, (partG n m start k).length ≤ (partG n m start (k + d)).length
  | 0 => Nat.le_refl _
  | d + 1 => by
    have := partG_mono n m start k d
    rw [← Nat.add_assoc, partG_succ, List.length_append]; omega
theorem partG_le {n m : Nat} {start : List Int} {k : Nat} (h : k ≤ n) : (partG n m start k).length ≤ (growL n (m + 1) start).length := by
  have := partG_mono n m start k (n - k)
  rw [show k + (n - k) = n from by omega] at this
  exact this

def GrowPost (w : World) (v : Value) (B : Nat) (ys : List (List Int)) (e : Ending) (w' : World) : Prop :=
  ∃ r, e = .returned r ∧ OwnRows B w' r ys ∧ Keep (fun b => v.ownBlock = some b) w w' ∧ ∀ b, r.ownBlock = some b → v.ownBlock = some b ∨ w.heap.size ≤ b

set_option maxRecDepth 100000 in
set_option maxHeartbeats 1600000 in
theorem c_l01GrowS (n : Nat) (hn : n ≤ 1048576) (m : Nat) (start : List Int) (hm : start.length + (m + 1) = n) (u v : Value) (xss : List (List Int)) (B hi : Nat) (w : World) (hx : OwnRows B w v xss) (hu : Own hi w u start) (hB : B ≤ w.heap.size) (hb : xss.length + (growL n (m + 1) start).length ≤ 1099511627776)
    (ih : ∀ (start : List Int) (hm : start.length + m = n) (u v : Value) (xss : List (List Int)) (B hi : Nat) (w : World) (hx : OwnRowsIn B hi w v xss) (hu : Own hi w u start) (hB : B ≤ hi) (hhi : hi ≤ w.heap.size) (hb : xss.length + (growL n m start).length ≤ 1099511627776), Calls Try.prog 158 #[.int .i64 n, u, v] w (GrowPost w v B (xss ++ growL n m start))) :
    Calls Try.prog 158 #[.int .i64 n, u, v] w (GrowPost w v B (xss ++ growL n (m + 1) start)) := by
  obtain ⟨a, c, rfl, _⟩ := hu.shape
  obtain ⟨a2, c2, rfl, _⟩ := hx.rows.shape
  have he : ((start.length : Int) == (n : Int)) = false := by simp; omega
  have HX := Lib.hid hx; have HU := Lib.hid hu; have IH := Lib.hid ih; have HBd := Lib.hid hb; have HMs := Lib.hid hm
  clear hx hu hb hm ih
  go_enter Try.func158, Try.ntmps158
  go_wp2
  go_loopw [2, 7] (fun s x wr => ∃ (k : Nat) (ys : List (List Int)) (ra : Option Addr) (rc : Nat), k ≤ n ∧ x = .int .i64 k ∧ s = .slice ra ys.length rc ∧ Hid (ys = xss ++ partG n m start k) ∧ Hid (OwnRows B wr (.slice ra ys.length rc) ys) ∧ Hid (Keep (fun b => (Value.slice a2 xss.length c2).ownBlock = some b) w wr) ∧ Hid (∀ b, (Value.slice ra ys.length rc).ownBlock = some b → (Value.slice a2 xss.length c2).ownBlock = some b ∨ w.heap.size ≤ b) ∧ Hid (Own hi wr (.slice a start.length c) start)) (fun _ x _ => n - (intOf x).toNat)
  case atStart => exact ⟨0, xss, a2, c2, Nat.zero_le _, rfl, rfl, Lib.hid (by simp [partG, iota]), HX, Lib.hid (Keep.refl _ _), Lib.hid fun b e => .inl e, HU⟩
  case round =>
    clear HU HX
    obtain ⟨k, ys, ra, rc, hk, rfl, rfl, HY, HR, HK, HOB, HU⟩ := hrel
    obtain ⟨wo, rfl⟩ : ∃ wo : World, wo = wr := ⟨_, rfl⟩
    by_cases hlt : k < n
    · by_cases hin : (k : Int) ∈ start
      · have d1 : decide ((k : Int) ∈ start) = true := by simp [hin]
        have e := partG_succ n m start k
        rw [if_pos hin, List.append_nil] at e
        have HE := Lib.hid e
        clear hin e
        go_wp2_with fail
        refine (c_l01Has _ _ _ _ HU.out.ints).mono ?_; rintro e w' ⟨rfl, rfl⟩
        go_wp2
        go_roundw
        case rel => exact ⟨k + 1, ys, ra, rc, by omega, by go_num, rfl, Lib.hid (by rw [HE.out]; exact HY.out), HR, HK, HOB, HU⟩
        case measure => simp [intOf]; omega
      · have d1 : decide ((k : Int) ∈ start) = false := by simp [hin]
        have e := partG_succ n m start k
        rw [if_neg hin] at e
        have HE := Lib.hid e
        have hle := partG_le (m := m) (start := start) (show k + 1 ≤ n by omega)
        have HLe := Lib.hid hle
        clear hin e hle
        go_wp2_with fail
        refine (c_l01Has _ _ _ _ HU.out.ints).mono ?_; rintro e w' ⟨rfl, rfl⟩
        go_wp2_with fail
        refine (c_l01Own _ start _ HU.out.ints (by have := HMs.out; omega)).mono ?_; rintro e w1 ⟨r1, rfl, ho1, hb1⟩
        obtain ⟨a1, c1, rfl, _⟩ := ho1.shape
        have HO1 := Lib.hid ho1; have HB1 := Lib.hid hb1; have HSz := Lib.hid hb1.size
        have HSl : Hid (start.length ≤ 1099511627776) := by have := HMs.out; show _ ≤ _; omega
        clear ho1 hb1
        go_wp2_with (at_builtin; go_must (refine wpList_app_int wo.heap.size w1 _ start k _ _ rfl rfl rfl HO1.out rfl HSl.out HSz.out ?_); intro a' c' w2 hown' hkeep; have Hk := Lib.hid hkeep; have Ho' := Lib.hid hown'; clear hkeep hown')
        have hb2 : Below wo.heap.size wo w2 := HO1.out.frame HB1.out (Nat.le_refl _) HSz.out Hk.out
        have hown2 := HR.out.inn.under hb2
        have hl2 : start.length + 1 = (start ++ [(k : Int)]).length := by simp
        refine (IH.out (start ++ [(k : Int)]) (by have := HMs.out; simp; omega) _ _ ys B wo.heap.size w2 hown2 (by have := Ho'.out; simpa using this) (Nat.le_trans hB HK.out.size) hb2.size ?_).mono ?_
        · have h1 := HLe.out; rw [HE.out, List.length_append] at h1
          have h2 := HBd.out
          rw [HY.out, List.length_append]
          omega
        rintro e w3 ⟨r, rfl, hr, hk3, hob3⟩
        obtain ⟨ra3, rc3, rfl, _⟩ := hr.rows.shape
        have HR3 := Lib.hid hr; have HK3 := Lib.hid hk3; have HOB3 := Lib.hid hob3; have HB2 := Lib.hid hb2; have HOwn2 := Lib.hid hown2
        clear hr hk3 hob3 hb2 hown2 hl2
        go_wp2
        go_roundw
        case rel =>
          refine ⟨k + 1, ys ++ growL n m (start ++ [(k : Int)]), ra3, rc3, by omega, by go_num, by simp, Lib.hid (by rw [HE.out, HY.out, List.append_assoc]), HR3, Lib.hid ?_, Lib.hid fun b hb => ?_, Lib.hid ?_⟩
          · refine (HK.out.under HB2.out).chain HK3.out fun b hb h => ?_
            rcases HOB.out b h with h1 | h1
            · exact h1
            · omega
          · rcases HOB3.out b hb with h1 | h1
            · exact HOB.out b h1
            · exact .inr (Nat.le_trans HK.out.size (Nat.le_trans HB2.out.size h1))
          · exact (HU.out.under HB2.out).keepR HOwn2.out.out HK3.out
        case measure => simp [intOf]; omega
    · obtain rfl : k = n := by omega
      have hfin : xss ++ growL k (m + 1) start = ys := HY.out.symm
      have HF := Lib.hid hfin
      clear hfin
      go_wp2
      go_ret
      exact ⟨_, rfl, by rw [HF.out]; exact HR.out, HK.out, HOB.out⟩

set_option maxRecDepth 100000 in
set_option maxHeartbeats 1600000 in
theorem c_l01Grow (n : Nat) (hn : n ≤ 1048576) : ∀ (m : Nat) (start : List Int) (hm : start.length + m = n) (u v : Value) (xss : List (List Int)) (B hi : Nat) (w : World) (hx : OwnRowsIn B hi w v xss) (hu : Own hi w u start) (hB : B ≤ hi) (hhi : hi ≤ w.heap.size) (hb : xss.length + (growL n m start).length ≤ 1099511627776),
    Calls Try.prog 158 #[.int .i64 n, u, v] w (GrowPost w v B (xss ++ growL n m start))
  | 0, start, hm, u, v, xss, B, hi, w, hx, hu, hB, hhi, hb => by
    obtain ⟨a, c, rfl, _⟩ := hu.shape
    obtain ⟨a2, c2, rfl, _⟩ := hx.rows.shape
    have hl : start.length = n := by omega
    have he : ((start.length : Int) == (n : Int)) = true := by simp [hl]
    have HX := Lib.hid hx; have HU := Lib.hid hu
    have hb1 : Hid (xss.length ≤ 1099511627776) := by show _ ≤ _; omega
    have hB2 : Hid (B ≤ w.heap.size) := by show _ ≤ _; omega
    clear hx hu hl hm hb
    go_enter Try.func158, Try.ntmps158
    go_wp2_with (at_builtin; go_must (refine wpList_app_row2 B hi w _ xss _ start _ _ rfl rfl rfl HX.out HU.out rfl hb1.out hB hB2.out ?_); intro g c' w' hown' hkeep hg; have Hk := Lib.hid hkeep; have Ho' := Lib.hid hown'; have HG := Lib.hid hg; clear hkeep hown' hg)
    go_ret
    refine ⟨_, rfl, Ho'.out, Hk.out, fun b e => ?_⟩
    simp [Value.ownBlock] at e
    subst e
    exact HG.out
  | m + 1, start, hm, u, v, xss, B, hi, w, hx, hu, hB, hhi, hb => c_l01GrowS n hn m start hm u v xss B hi w hx.out hu (Nat.le_trans hB hhi) hb (c_l01Grow n hn m)

theorem growL_length (n : Nat) : ∀ (m : Nat) (start : List Int), (growL n m start).length ≤ n ^ m
  | 0, start => by simp [growL]
  | m + 1, start => by
    have h : ∀ k, (partG n m start k).length ≤ k * n ^ m := by
      intro k
      induction k with
      | zero => simp [partG, iota]
      | succ k ih =>
        rw [partG_succ, List.length_append, Nat.add_mul, Nat.one_mul]
        have : (if (k : Int) ∈ start then [] else growL n m (start ++ [(k : Int)])).length ≤ n ^ m := by
          split
          · simp
          · exact growL_length n m _
        omega
    have := h n
    rw [Nat.pow_succ, Nat.mul_comm]
    exact this
theorem allPerms_le {n : Nat} (h : n ≤ 7) : (allPerms n).length ≤ 823543 := by
  refine Nat.le_trans (growL_length n n []) ?_
  have h1 : n ^ n ≤ 7 ^ n := Nat.pow_le_pow_left h n
  have h2 : 7 ^ n ≤ 7 ^ 7 := Nat.pow_le_pow_right (by omega) h
  omega

set_option maxRecDepth 100000 in
set_option maxHeartbeats 800000 in
theorem c_l01Perms (n : Nat) (w : World) (hn0 : 1 ≤ n) (hn : n ≤ 7) :
    Calls Try.prog 113 #[.int .i64 n] w (RRows w (allPerms n)) := by
  obtain ⟨m, rfl⟩ : ∃ m, n = m + 1 := ⟨n - 1, by omega⟩
  have h1 : Hid (Own w.heap.size ((w.alloc (.cells #[] 2)).alloc (.cells #[] 25)) (.slice (some ⟨w.heap.size, 0, none⟩) 0 0) []) := Lib.hid ((Own.made0 w (Nat.le_refl _)).under ((Below.refl _ _).alloc (Nat.le_refl _) _))
  have h2 : Hid (OwnRows w.heap.size ((w.alloc (.cells #[] 2)).alloc (.cells #[] 25)) (.slice (some ⟨w.heap.size + 1, 0, none⟩) 0 0) []) := by
    have := OwnRows.made0 (B := w.heap.size) (w.alloc (.cells #[] 2)) (by simp)
    show OwnRows _ _ _ _
    simpa using this
  have h3 : Hid (Below w.heap.size w ((w.alloc (.cells #[] 2)).alloc (.cells #[] 25))) := Lib.hid (((Below.refl _ _).alloc (Nat.le_refl _) _).alloc (by simp) _)
  have hle := allPerms_le hn
  go_enter Try.func113, Try.ntmps113
  go_wp2_with fail
  refine (c_l01GrowS (m + 1) (by omega) m [] (by simp) _ _ [] w.heap.size w.heap.size _ h2.out h1.out h3.out.size (by simpa [allPerms] using Nat.le_trans hle (by omega)) (c_l01Grow (m + 1) (by omega) m)).mono ?_; rintro e w3 ⟨r, rfl, hr, hk, -⟩
  have HR := Lib.hid hr; have HK := Lib.hid hk; clear hr hk
  go_wp2
  go_ret
  refine ⟨_, rfl, by simpa [allPerms] using HR.out, ?_⟩
  exact h3.out.trans (HK.out.below fun k hk => ⟨Nat.lt_of_lt_of_le hk h3.out.size, fun e => by simp [Value.ownBlock] at e; omega⟩)
end Go.Proofs.Ytkcobfkmeaakoaa

namespace Go.Proofs.Ytkcobfkmeaakoaa
open Go Go.RowKit Go.Shelf
attribute [local go_sem] Oper.semAt_some

theorem eg_permutations1 : ∀ args w, (callFunc 160 args).run Try.prog w = .ok (.enter 160 args) w := Go.Proofs.enters_of Try.func160 (by kernel_rfl) rfl
set_option maxHeartbeats 400000 in
theorem c_permutations (n : Int) (w : World) :
    Calls Try.prog 117 #[.int .i64 n] w (fun e w' => ∃ g, e = .returned (.func (.func 160) #[] #[.pointer (some ⟨g, 0, none⟩)]) ∧ w.heap.size ≤ g ∧ w'.cell? ⟨g, 0, none⟩ = some (.int .i64 n) ∧ Below w.heap.size w w') := by
  obtain ⟨f0, hW0, hsz⟩ := boxes1' w [.int .i64 n] 3
  have hf := one_cell f0
  have HW := Lib.hid hW0; have HF := Lib.hid hf
  clear f0 hW0 hsz hf
  go_enter Try.func117, Try.ntmps117
  go_wp2
  go_ret
  exact ⟨w.heap.size, rfl, Nat.le_refl _, HF.out, HW.out⟩

theorem stepIn_append {F : Fence} {n : Nat} {P : Program} {ops : Array Oper} {o : Oper} {a : Act} {K : Act → World → Prop} {Q : Exit → Act → World → Prop} {E : Prop} {W W' : World} {v' : Value} (hgd : o.guard = none) (hF : ∀ f, F.fn f) (s x : Operand) (t : TypeId)
    (ho : o.op = .call { callee := .builtin .append, args := #[s, x], argTypes := #[t, t] }) (hrun : (Builtin.append_ #[t, t] o.type #[a.eval s, a.eval x]).run P W = .ok v' W') (h : K (a.put o.dst v') W') :
    if Region.wanted o (yielded ops a.tmps) = true then Oper.wpIn F n P o a W K Q else E := by
  have hw : Region.wanted o (yielded ops a.tmps) = true := by simp [Region.wanted, hgd]
  rw [if_pos hw]
  refine ⟨fun f _ => hF f, ?_⟩
  rw [Oper.semAt_eq _ _ _ (by rw [ho]; intro c hc; cases hc)]
  unfold execOp
  simp only [ho, resolve, invoke, builtin, Sem.run_bind, Sem.run_pure, Result.andThen_ok, List.map_toArray, List.map_cons, List.map_nil, hrun]
  exact h

/-- 'append(s, u)' of one row: the run. -/
theorem run_app_row2 (B m : Nat) (w : World) (ty : TypeId) (v : Value) (xss : List (List Int)) (u : Value) (xs : List Int) (hown : OwnRowsIn B m w v xss) (hu : Own m w u xs) (hn : xss.length ≤ 1099511627776) (hB : B ≤ m) (hB2 : B ≤ w.heap.size) :
    ∃ g c' w', (Builtin.append_ #[22, 22] ty #[v, .slice (some ⟨w.heap.size, 0, none⟩) 1 1]).run Try.prog (w.alloc (.cells #[u] 25)) = .ok (.slice (some ⟨g, 0, none⟩) (xss.length + 1) c') w' ∧ OwnRows B w' (.slice (some ⟨g, 0, none⟩) (xss.length + 1) c') (xss ++ [xs]) ∧ Keep (fun b => v.ownBlock = some b) w w' := by
  obtain ⟨us, h1, h2, _, hlt⟩ := hown
  have h2' := rowvals_snoc h2 hlt hu hB
  have hlen := h2.len
  obtain ⟨ua, uc, hu1, _⟩ := hu.shape
  obtain ⟨i0, hi, hz0, hz1, hz2⟩ := info_parts inf_ints
  obtain ⟨g, cap, w', hr, h3, h4, h5, _⟩ := run_append_lies (P := Try.prog) (w.alloc (.cells #[u] 25)) 22 ty B 25 i0 (.slice none 0 0) 1 24 Try.underlying22 hi hz0 hz1 hz2 rfl (by decide) v us.length us (h1.alloc _) ⟨w.heap.size, 0, none⟩ 1 1 [u] rfl
    (by
      intro j u' hj
      match j, hj with
      | 0, hj => simp at hj; subst hj; simp [Addr.add])
    (by intro u' hu'; simp at hu'; subst hu'; subst hu1; rfl) (by decide) (by unfold maxLen; omega) (by omega) (by simp; omega) (w.heap.size + 1) (by simp)
  have hk := Keep.of_grown h4
  have hk2 : Keep (fun b => v.ownBlock = some b) w w' := ((Keep.refl _ w).alloc _).trans hk
  rw [hlen] at h3 hr
  exact ⟨g, cap, w', hr, ⟨us ++ [u], by simpa [hlen] using h3, rowvals_keepT h2' h1 hk2⟩, hk2⟩

end Go.Proofs.Ytkcobfkmeaakoaa

namespace Go.Proofs.Ytkcobfkmeaakoaa
open Go Go.RowKit Go.Shelf
attribute [local go_sem] Oper.semAt_some

abbrev Tabs := List (List Int) × List (List Int)
def stepS (A B : List (List Int)) (X : Tabs) (p : List Int) : Tabs := if lexS (renL A p) (renL B p) X.1 X.2 then (renL A p, renL B p) else X
def bestS (A B : List (List Int)) (X : Tabs) (ps : List (List Int)) : Tabs := ps.foldl (stepS A B) X
theorem bestS_snoc (A B : List (List Int)) (X : Tabs) (ps : List (List Int)) (k : Nat) (h : k < ps.length) : bestS A B X (ps.take (k + 1)) = stepS A B (bestS A B X (ps.take k)) (row ps k) := by
  unfold bestS; rw [take_snoc_row _ _ h, List.foldl_append]; rfl
theorem bestS_len {A B : List (List Int)} (hl : B.length = A.length) : ∀ (X : Tabs) (ps : List (List Int)), X.1.length = A.length → X.2.length = A.length → (bestS A B X ps).1.length = A.length ∧ (bestS A B X ps).2.length = A.length
  | X, [], h1, h2 => ⟨h1, h2⟩
  | X, p :: ps, h1, h2 => by
    unfold bestS; rw [List.foldl_cons]
    refine bestS_len hl _ ps ?_ ?_
    · unfold stepS; split
      · simp
      · exact h1
    · unfold stepS; split
      · simpa using hl
      · exact h2
theorem lexS_pos {X P Y Q : List (List Int)} (h : 0 < cmpR X Y) : lexS X P Y Q = false := by
  unfold lexS
  have h1 : X ≠ Y := fun e => by rw [cmpR_zero.2 e] at h; omega
  rw [if_neg h1]
  cases e : lexR X Y with
  | false => rfl
  | true => have := cmpR_neg.2 e; omega
theorem lexS_neg {X P Y Q : List (List Int)} (h : cmpR X Y < 0) : lexS X P Y Q = true := by
  unfold lexS
  have h1 : X ≠ Y := fun e => by rw [cmpR_zero.2 e] at h; omega
  rw [if_neg h1, cmpR_neg.1 h]
def lsSA (A B : List (List Int)) : List (List Int) := (bestS A B (A, B) (allPerms A.length)).1
def lsSB (A B : List (List Int)) : List (List Int) := (bestS A B (A, B) (allPerms A.length)).2

/-- The best pair so far: made ahead of the loop (below m), or behind hi. -/
def BestP (lo m hi : Nat) (W : World) (va vb : Value) (X Y : List (List Int)) : Prop :=
  ∃ l1 h1 l2 h2, lo ≤ l1 ∧ lo ≤ l2 ∧ (h1 ≤ l2 ∨ h2 ≤ l1) ∧ ((h1 ≤ m ∧ h2 ≤ m) ∨ (hi ≤ l1 ∧ hi ≤ l2)) ∧ h1 ≤ W.heap.size ∧ h2 ≤ W.heap.size ∧ OwnRowsIn l1 h1 W va X ∧ OwnRowsIn l2 h2 W vb Y
theorem BestP.keep {lo m hi : Nat} {S : Nat → Prop} {W W' : World} {va vb : Value} {X Y : List (List Int)} (h : BestP lo m hi W va vb X Y) (k : Keep S W W') (h1 : ∀ b, b < m → ¬ S b) (h2 : ∀ b, hi ≤ b → ¬ S b) : BestP lo m hi W' va vb X Y := by
  obtain ⟨l1, g1, l2, g2, a, b, c, d, e, f, o1, o2⟩ := h
  have hs := k.size
  refine ⟨l1, g1, l2, g2, a, b, c, d, by omega, by omega, o1.keep k ?_, o2.keep k ?_⟩
  · intro x x1 x2
    rcases d with d | d
    · exact h1 x (by omega)
    · exact h2 x (by omega)
  · intro x x1 x2
    rcases d with d | d
    · exact h1 x (by omega)
    · exact h2 x (by omega)
theorem BestP.under {lo m hi : Nat} {W W' : World} {va vb : Value} {X Y : List (List Int)} (h : BestP lo m hi W va vb X Y) (hb : Below W.heap.size W W') : BestP lo m hi W' va vb X Y := by
  obtain ⟨l1, g1, l2, g2, a, b, c, d, e, f, o1, o2⟩ := h
  have hs := hb.size
  exact ⟨l1, g1, l2, g2, a, b, c, d, by omega, by omega, o1.under hb, o2.under hb⟩
theorem BestP.own {lo m hi : Nat} {W : World} {va vb : Value} {X Y : List (List Int)} (h : BestP lo m hi W va vb X Y) : OwnSol lo W.heap.size W va vb X Y := by
  obtain ⟨l1, g1, l2, g2, a, b, c, d, e, f, o1, o2⟩ := h
  exact ⟨l1, g1, l2, g2, a, e, b, f, c, o1, o2⟩

theorem BestP.keepL {lo m hi : Nat} {S : Nat → Prop} {W W' : World} {va vb : Value} {X Y : List (List Int)} (h : BestP lo m hi W va vb X Y) (k : Keep S W W') (h1 : ∀ b, lo ≤ b → b < m → ¬ S b) (h2 : ∀ b, lo ≤ b → hi ≤ b → ¬ S b) : BestP lo m hi W' va vb X Y := by
  obtain ⟨l1, g1, l2, g2, a, b, c, d, e, f, o1, o2⟩ := h
  have hs := k.size
  refine ⟨l1, g1, l2, g2, a, b, c, d, by omega, by omega, o1.keep k ?_, o2.keep k ?_⟩
  · intro x x1 x2
    rcases d with d | d
    · exact h1 x (by omega) (by omega)
    · exact h2 x (by omega) (by omega)
  · intro x x1 x2
    rcases d with d | d
    · exact h1 x (by omega) (by omega)
    · exact h2 x (by omega) (by omega)
theorem BestP.ownL {lo' lo m hi : Nat} {W : World} {va vb : Value} {X Y : List (List Int)} (h : BestP lo m hi W va vb X Y) (hl : lo' ≤ lo) : OwnSol lo' W.heap.size W va vb X Y := by
  obtain ⟨l1, g1, l2, g2, a, b, c, d, e, f, o1, o2⟩ := h
  exact ⟨l1, g1, l2, g2, by omega, e, by omega, f, c, o1, o2⟩
theorem BestP.mk0 {lo q s1 s2 hi : Nat} {w1 w2 V : World} {a b : Value} {A B : List (List Int)} (ho1 : OwnRows s1 w1 a A) (hb : Below w1.heap.size w1 w2) (ho2 : OwnRows s2 w2 b B) (hs1 : lo ≤ s1) (hs2 : w1.heap.size ≤ s2) (hlo : lo ≤ w1.heap.size)
    (hk : Keep (fun k => k = q) w2 V) (hq1 : q < s1 ∨ w1.heap.size ≤ q) (hq2 : q < s2 ∨ w2.heap.size ≤ q) : BestP lo V.heap.size hi V a b A B := by
  have h1 := hb.size; have h2 := hk.size
  exact ⟨s1, w1.heap.size, s2, w2.heap.size, hs1, by omega, .inl hs2, .inl ⟨by omega, h2⟩, by omega, h2, (ho1.inn.under hb).keep hk (fun x _ _ e => by omega), ho2.inn.keep hk (fun x _ _ e => by omega)⟩
theorem fin_up {lo m hi q : Nat} {W w1 w9 w5 wz : World} {a b : Value} {XA XB : List (List Int)} (ho1 : OwnRows W.heap.size w1 a XA) (b0 : W.heap.size ≤ w1.heap.size) (b1 : Below w1.heap.size w1 w9) (ho2 : OwnRows w9.heap.size w5 b XB) (b95 : Below w9.heap.size w9 w5) (b2 : Below w5.heap.size w5 wz)
    (hW : hi ≤ W.heap.size) (hlo : lo ≤ W.heap.size) (hq : q < W.heap.size) : BestP lo m hi ((wz.setCell ⟨q, 0, none⟩ a).setCell ⟨q, 1, none⟩ b) a b XA XB := by
  have s1 := b1.size; have s2 := b95.size; have s3 := b2.size
  have hz : ((wz.setCell ⟨q, 0, none⟩ a).setCell ⟨q, 1, none⟩ b).heap.size = wz.heap.size := by simp [World.setCell]
  exact ⟨W.heap.size, w1.heap.size, w9.heap.size, w5.heap.size, hlo, by omega, .inl s1, .inr ⟨hW, by omega⟩, by omega, by omega, (((ho1.inn.under b1).under b95).under b2).keep (keep_early _ _ _ _) (fun x _ _ e => by omega), (ho2.inn.under b2).keep (keep_early _ _ _ _) (fun x _ _ e => by omega)⟩

set_option maxRecDepth 100000 in
set_option maxHeartbeats 8000000 in
theorem c_leastSolution (v0 u0 : Value) (A B : List (List Int)) (w : World) (hA : Sol w v0 u0 A B) (hp : isPM A B = true) (h7 : A.length ≤ 7) :
    Calls Try.prog 128 #[.agg #[v0, u0]] w (RSol w (lsSA A B) (lsSB A B)) := by
  obtain ⟨a0, c0, rfl, _, _⟩ := hA.1.shape
  obtain ⟨a0s, c0s, rfl, _, _⟩ := hA.2.shape
  obtain ⟨q1, q2, q3⟩ := isPM_parts hp
  obtain ⟨hl1, hl2⟩ := isTab_len q1
  have hap := allPerms_le h7
  have hrl : ∀ {t : List (List Int)}, isTab t = true → ∀ r ∈ t, r.length ≤ 1048576 := by
    intro t ht r hr
    obtain ⟨j, hj, rfl⟩ := List.getElem_of_mem hr
    have := isTab_row ht (x := j) (by omega) (by omega)
    have := isTab_len ht
    rw [row_nat _ _ hj] at *; omega
  have HRl := Lib.hid (And.intro (hrl q1) (hrl q2)); have HQ1 := Lib.hid q1; have HQ2 := Lib.hid q2; have HQ3 := Lib.hid q3.symm
  have hBl : B.length ≤ 1048576 := by omega
  clear hrl q1 q2 q3
  refine (callsIn_wide (n := 4)).1 ?_
  refine callsIn_of_wp_marks Try.func128 rfl trivial ?_ rfl
  simp only [Try.ntmps128, List.size_toArray, List.length_cons, List.length_nil, Nat.reduceAdd, Nat.reduceSub, Array.replicate_succ, Array.replicate_zero, List.push_toArray, List.append_toArray, List.nil_append, List.cons_append]
  refine wpIn_wide.2 ?_
  go_wp2_with fail
  obtain ⟨f0, f1, hW0, hsz⟩ := boxes2 w [.slice a0 A.length c0, .slice a0s B.length c0s] [.slice none 0 0, .slice none 0 0] 27 27
  obtain ⟨W0, hW⟩ : ∃ W, ((w.alloc (.cells #[.slice a0 A.length c0, .slice a0s B.length c0s] 27)).alloc (.cells #[.slice none 0 0, .slice none 0 0] 27)) = W := ⟨_, rfl⟩
  rw [hW] at f0 f1 hW0 hsz ⊢
  clear hW
  have HSZ := Lib.hid hsz
  have HRA := Lib.hid ((hA.1.below hW0).below (Below.refl _ _).drew); have HRB := Lib.hid ((hA.2.below hW0).below (Below.refl _ _).drew)
  have HF0 := Lib.hid f0; have HF1 := Lib.hid f1; have HB0 := Lib.hid hW0
  have HSk : Hid (∀ w' : World, Below W0.drew.heap.size W0.drew w' → w'.cell? ⟨w.heap.size, 0, none⟩ = some (.slice a0 A.length c0) ∧ w'.cell? ⟨w.heap.size, 1, none⟩ = some (.slice a0s B.length c0s)) := Lib.hid (fun w' hb => ⟨(two_cells (f0.drew.under hb)).1, (two_cells (f0.drew.under hb)).2.1⟩)
  have BC0 : Below W0.drew.heap.size W0.drew W0.drew := Below.refl _ _
  clear f0 f1 hW0 hsz
  have BCd : Below W0.drew.heap.size W0.drew (W0.alloc (.cells #[.slice none 0 0, .slice none 0 0] 27)).drew := (Below.refl W0.drew.heap.size W0.drew).alloc (Nat.le_refl _) (.cells #[.slice none 0 0, .slice none 0 0] 27)
  have zz := HSk.out _ BC0
  have zd := HSk.out _ BCd
  go_region_held3 (fun w' => w'.cell? ⟨w.heap.size, 0, none⟩ = some (.slice a0 A.length c0) ∧ w'.cell? ⟨w.heap.size, 1, none⟩ = some (.slice a0s B.length c0s))
    (first | go_keep | exact HSk.out _ BC0 | exact HSk.out _ BC1 | exact HSk.out _ BC2 | exact HSk.out _ BCd | exact HSk.out _ (BC1.alloc BC1.size _) | exact HSk.out _ (BC2.alloc BC2.size _) | exact HSk.out _ ((BC2.setCell (p := ⟨w1.heap.size, 0, none⟩) BC1.size _).setCell (p := ⟨w1.heap.size, 1, none⟩) BC1.size _) | exact HSk.out _ ((BC2.setCell (p := ⟨W0.heap.size, 0, none⟩) (Nat.le_refl _) _).setCell (p := ⟨W0.heap.size, 1, none⟩) (Nat.le_refl _) _))
    ((first
      | (go_at_call 91; (with_reducible refine (c_cloneTable _ A _ (HRA.out.below (by first | exact Below.refl _ _ | exact BCd)) (by omega) HRl.out.1).mono ?_); rintro e w1 ⟨r1, rfl, ho1, hb1⟩; obtain ⟨ra1, rc1, hv1, _⟩ := ho1.rows.shape; subst hv1; have BC1 : Below W0.drew.heap.size W0.drew w1 := bb (by first | exact BC0 | exact BCd) hb1; try (have HQ : Blk w1 W0.heap.size 27 [.slice none 0 0, .slice none 0 0] := ((Blk.new W0 [.slice none 0 0, .slice none 0 0] 27).drew).under hb1))
      | (go_at_call 91; (with_reducible refine (c_cloneTable _ B _ (HRB.out.below (bb BC1 (by first | exact Below.refl _ _ | exact (Below.refl _ _).alloc (Nat.le_refl _) _))) hBl HRl.out.2).mono ?_); rintro e w2 ⟨r2, rfl, ho2, hb2⟩; obtain ⟨ra2, rc2, hv2, _⟩ := ho2.rows.shape; subst hv2; have BC12 : Below w1.heap.size w1 w2 := bb (by first | exact Below.refl _ _ | exact (Below.refl _ _).alloc (Nat.le_refl _) _) hb2; have BC2 := bb BC1 BC12; first | (have HQz : Blk w2 W0.heap.size 27 [.slice none 0 0, .slice none 0 0] := HQ.under BC12; have hzz := two_cells HQz; obtain ⟨z1, z2, z3, z4⟩ := hzz) | (have HQz : Blk w2 w1.heap.size 27 [.slice none 0 0, .slice none 0 0] := (Blk.new w1 [.slice none 0 0, .slice none 0 0] 27).under hb2; have hzz := two_cells HQz; obtain ⟨z1, z2, z3, z4⟩ := hzz) | skip)))
  all_goals
    have hsz1 : W0.heap.size ≤ w1.heap.size := BC1.size
    have hsz2 : w1.heap.size ≤ w2.heap.size := BC12.size
    first
      | (obtain ⟨V, hV⟩ : ∃ V, w2.alloc (.cells #[.slice ra1 A.length rc1, .slice ra2 B.length rc2] 27) = V := ⟨_, rfl⟩
         rw [hV]
         have hkk : Keep (fun k => k = w2.heap.size) w2 V := by rw [← hV]; exact keep_late _ _
         have FQ : Blk V (w2.heap.size) 27 [.slice ra1 A.length rc1, .slice ra2 B.length rc2] := by rw [← hV]; exact Blk.new w2 [.slice ra1 A.length rc1, .slice ra2 B.length rc2] 27
         have hb0 : ∀ hi, BestP W0.heap.size V.heap.size hi V (.slice ra1 A.length rc1) (.slice ra2 B.length rc2) A B := fun hi => BestP.mk0 ho1 BC12 ho2 (by first | exact Nat.le_refl _ | (simp; done) | (simp; omega)) (by first | exact Nat.le_refl _ | (simp; done) | (simp; omega)) hsz1 hkk (by first | exact .inr (Nat.le_refl _) | (left; simp; done) | (right; exact hsz2) | (left; simp; omega)) (by first | exact .inr (Nat.le_refl _) | (left; have := HQ.lt; omega) | (left; simp; done) | (left; simp; omega))
         obtain ⟨q, hq⟩ : ∃ q, w2.heap.size = q := ⟨_, rfl⟩
         rw [hq] at hkk FQ ⊢
         have hq0 : W0.heap.size ≤ q := by omega
         clear hV hq)
      | (obtain ⟨V, hV⟩ : ∃ V, (w2.setCell ⟨w1.heap.size, 0, none⟩ (.slice ra1 A.length rc1)).setCell ⟨w1.heap.size, 1, none⟩ (.slice ra2 B.length rc2) = V := ⟨_, rfl⟩
         rw [hV]
         have hkk : Keep (fun k => k = w1.heap.size) w2 V := by rw [← hV]; exact keep_early _ _ _ _
         have FQ : Blk V (w1.heap.size) 27 [.slice ra1 A.length rc1, .slice ra2 B.length rc2] := by rw [← hV]; exact box_early HQz
         have hb0 : ∀ hi, BestP W0.heap.size V.heap.size hi V (.slice ra1 A.length rc1) (.slice ra2 B.length rc2) A B := fun hi => BestP.mk0 ho1 BC12 ho2 (by first | exact Nat.le_refl _ | (simp; done) | (simp; omega)) (by first | exact Nat.le_refl _ | (simp; done) | (simp; omega)) hsz1 hkk (by first | exact .inr (Nat.le_refl _) | (left; simp; done) | (right; exact hsz2) | (left; simp; omega)) (by first | exact .inr (Nat.le_refl _) | (left; have := HQ.lt; omega) | (left; simp; done) | (left; simp; omega))
         obtain ⟨q, hq⟩ : ∃ q, w1.heap.size = q := ⟨_, rfl⟩
         rw [hq] at hkk FQ ⊢
         have hq0 : W0.heap.size ≤ q := by omega
         clear hV hq)
      | (obtain ⟨V, hV⟩ : ∃ V, (w2.setCell ⟨W0.heap.size, 0, none⟩ (.slice ra1 A.length rc1)).setCell ⟨W0.heap.size, 1, none⟩ (.slice ra2 B.length rc2) = V := ⟨_, rfl⟩
         rw [hV]
         have hkk : Keep (fun k => k = W0.heap.size) w2 V := by rw [← hV]; exact keep_early _ _ _ _
         have FQ : Blk V (W0.heap.size) 27 [.slice ra1 A.length rc1, .slice ra2 B.length rc2] := by rw [← hV]; exact box_early HQz
         have hb0 : ∀ hi, BestP W0.heap.size V.heap.size hi V (.slice ra1 A.length rc1) (.slice ra2 B.length rc2) A B := fun hi => BestP.mk0 ho1 BC12 ho2 (by first | exact Nat.le_refl _ | (simp; done) | (simp; omega)) (by first | exact Nat.le_refl _ | (simp; done) | (simp; omega)) hsz1 hkk (by first | exact .inr (Nat.le_refl _) | (left; simp; done) | (right; exact hsz2) | (left; simp; omega)) (by first | exact .inr (Nat.le_refl _) | (left; have := HQ.lt; omega) | (left; simp; done) | (left; simp; omega))
         obtain ⟨q, hq⟩ : ∃ q, W0.heap.size = q := ⟨_, rfl⟩
         rw [hq] at hkk FQ ⊢
         have hq0 : W0.heap.size ≤ q := by omega
         clear hV hq)
    have BV : Below W0.heap.size W0 V := (show Below W0.heap.size W0 w2 from bb (Below.refl W0.heap.size W0).drew BC2).trans (hkk.below fun k hk => ⟨by omega, by omega⟩)
    have HBest := Lib.hid hb0; have HFQ := Lib.hid FQ; have HBV := Lib.hid BV
    have hqV := FQ.lt
    obtain ⟨y1, y2, y3, y4⟩ := two_cells (HF0.out.under BV)
    clear hb0 FQ BV hkk BC0 BC1 BC2 BC12 BCd ho1 ho2 hb1 hb2 HSk HRA HRB
    go_wp2_with fail
    refine (c_permutations _ _).mono ?_; rintro e w3 ⟨g, rfl, hg, hcell, hb3⟩
    have hgg : Below W0.heap.size W0 w3 := bb HBV.out hb3
    have hB3 : Below w.heap.size w w3 := bb HB0.out hgg
    have hbox := HFQ.out.under hb3
    have hs2 : Blk w3 w.heap.size 27 [.slice a0 A.length c0, .slice a0s B.length c0s] := HF0.out.under hgg
    have hr2 : Blk w3 (w.heap.size + 1) 27 [.slice none 0 0, .slice none 0 0] := HF1.out.under hgg
    have hVs : V.heap.size ≤ w3.heap.size := hb3.size
    have hW0s : W0.heap.size = w.heap.size + 1 + 1 := HSZ.out
    have hb0 : ∀ hi W, Below w3.heap.size w3 W → BestP W0.heap.size V.heap.size hi W (.slice ra1 A.length rc1) (.slice ra2 B.length rc2) A B := fun hi W hb =>
      (HBest.out hi).under (bb hb3 hb)
    clear hb3 y1 y2 y3 y4
    go_wp2_with fail
    refine (wpIn_wide (n := 4)).1 ?_
    obtain ⟨N, hN⟩ : ∃ N, N = A.length := ⟨_, rfl⟩
    have hcellN : w3.cell? ⟨g, 0, none⟩ = some (.int .i64 N) := by rw [hN]; exact hcell
    have HN := Lib.hid hN
    have hN1 : 1 ≤ N ∧ N ≤ 7 := by omega
    have HRnA : Hid (∀ k : Nat, k < (allPerms N).length → RenOk A (row (allPerms N) k)) := Lib.hid (by rw [hN]; intro k hk; exact ⟨HQ1.out, (allPerms_row hk).1, (allPerms_row hk).2⟩)
    have HRnB : Hid (∀ k : Nat, k < (allPerms N).length → RenOk B (row (allPerms N) k)) := Lib.hid (by rw [hN]; intro k hk; exact ⟨HQ2.out, (allPerms_row hk).1, (allPerms_row hk).2.trans HQ3.out.symm⟩)
    clear hN hcell
    refine wpIn_rangeFunc_rows rfl (by omega) (gf := 160) (lb := #[.pointer (some ⟨g, 0, none⟩)]) rfl trivial eg_permutations1
      (fun b => b = q) (by rintro b rfl; exact hbox.lt) (c_perms1 N hN1.1 (by omega) _ g w3 hcellN) rfl
      (fun hi k W => ∃ va vb, Blk W q 27 [va, vb] ∧ BestP W0.heap.size V.heap.size hi W va vb (bestS A B (A, B) ((allPerms N).take k)).1 (bestS A B (A, B) ((allPerms N).take k)).2 ∧ Blk W w.heap.size 27 [.slice a0 A.length c0, .slice a0s B.length c0s] ∧ Blk W (w.heap.size + 1) 27 [.slice none 0 0, .slice none 0 0] ∧ Below w.heap.size w W ∧ w3.heap.size ≤ W.heap.size)
      (fun _ _ _ _ => False)
      ?hI (fun _ _ _ _ _ h _ => h) ?h0
      (fun u => { tmps := #[.agg #[.slice a0 A.length c0, .slice a0s B.length c0s], .pointer (some ⟨w.heap.size, 0, none⟩), .pointer (some ⟨w.heap.size + 1, 0, none⟩), .pointer (some ⟨q, 0, none⟩), u, undef, undef, undef, .pointer (some ⟨w.heap.size, 0, none⟩), .slice a0 A.length c0, .slice ra1 A.length rc1, .pointer (some ⟨w.heap.size, 1, none⟩), .slice a0s B.length c0s, .slice ra2 B.length rc2, .agg #[.slice ra1 A.length rc1, .slice ra2 B.length rc2], .pointer (some ⟨w.heap.size, 0, none⟩), .slice a0 A.length c0, .int .i64 A.length, .func (.func 160) #[] #[.pointer (some ⟨g, 0, none⟩)], u, undef, undef, undef, undef, undef, undef, undef, undef, undef, undef, undef, undef, undef, undef, undef, undef, undef, undef, undef, undef, undef, undef, undef, undef, undef, undef], defers := [] })
      ?assign ?body ?done ?stop
    case hI =>
      rintro hi k W W' ⟨va, vb, h1, h2, h3, h4, h5, h6⟩ hk
      exact ⟨va, vb, h1.of_block (hk.block _ h1.lt (by omega)), h2.keep hk (fun b hb h => by omega) (fun b hb h => by omega), h3.of_block (hk.block _ h3.lt (by omega)), h4.of_block (hk.block _ h4.lt (by omega)), h5.trans (hk.below fun k hk' => ⟨by have := h5.size; omega, by omega⟩), Nat.le_trans h6 hk.size⟩
    case h0 =>
      intro W' hb
      exact ⟨_, _, hbox.under hb, by simpa [bestS] using hb0 W'.heap.size W' hb, hs2.under hb, hr2.under hb, bb hB3 hb, hb.size⟩
    case assign =>
      intro l u W K hK
      gi_wp2
      exact hK
    case body =>
      rintro l hi k u W ⟨va, vb, h1, h2, h3, h4, h5, h6⟩ hhi hW hk hu
      have hX := bestS_len HQ3.out (A, B) ((allPerms N).take k) rfl HQ3.out
      obtain ⟨X, hXe⟩ : ∃ X, X = bestS A B (A, B) ((allPerms N).take k) := ⟨_, rfl⟩
      have hsnoc := bestS_snoc A B (A, B) (allPerms N) k hk
      rw [← hXe] at h2 hX hsnoc
      have hbr := h2.own.sol
      obtain ⟨xa, xc, hv1, _, _⟩ := hbr.1.shape
      obtain ⟨ya, yc, hv2, _, _⟩ := hbr.2.shape
      rw [hX.1] at hv1; rw [hX.2] at hv2
      subst hv1 hv2
      have hrnA := HRnA.out k hk; have hrnB := HRnB.out k hk
      have HU := Lib.hid hu; have HR := Lib.hid h2; have H1 := Lib.hid h1; have H3 := Lib.hid h3; have H4 := Lib.hid h4; have H5 := Lib.hid h5; have HBrA := Lib.hid hbr.1; have HBrB := Lib.hid hbr.2; have HSn := Lib.hid hsnoc; have HrA := Lib.hid hrnA; have HrB := Lib.hid hrnB
      have HAr := Lib.hid (hA.1.below h5); have HBrr := Lib.hid (hA.2.below h5)
      obtain ⟨c31, c32, -, -⟩ := two_cells h3
      have hqw3 : q < w3.heap.size := hbox.lt
      clear hu h2 h1 h3 h4 h5 hbr hbox hs2 hr2 hB3 hgg hb0 hcellN hX hXe hsnoc hrnA hrnB
      gi_wp2_with (refine ⟨trivial, ?_⟩; gi_at_call 118; refine (CallsIn.inRound l (callsIn_wide.2 (c_renamed _ _ A _ _ HAr.out HU.out HrA.out))).mono ?_; rintro e w1 ⟨r1, rfl, ho1, hb1⟩; obtain ⟨qa, qc, hqv, _⟩ := ho1.rows.shape; rw [renL_length] at hqv; subst hqv; obtain ⟨c41, c42, -, -⟩ := two_cells (H1.out.under hb1); obtain ⟨c43, c44, -, -⟩ := two_cells (H3.out.under hb1); have HO1 := Lib.hid ho1; have HB1 := Lib.hid hb1; clear ho1 hb1)
      rcases Int.lt_trichotomy (cmpR (renL A (row (allPerms N) k)) X.1) 0 with hc | hc | hc
      · have HLx := Lib.hid (lexS_neg (P := renL B (row (allPerms N) k)) (Q := X.2) hc)
        have hc0 : ¬ (0 < cmpR (renL A (row (allPerms N) k)) X.1) := by omega
        gi_wp2_with (refine ⟨trivial, ?_⟩; gi_at_call 119; refine (CallsIn.inRound l (callsIn_wide.2 (c_compareTables _ _ _ _ _ HO1.out.rows (HBrA.out.below HB1.out)))).mono ?_; rintro e w9 ⟨rfl, nq, hw9⟩; have HX9 := Lib.hid (show Below w1.heap.size w1 w9 by rw [hw9]; exact below_drewN (Below.refl _ _) nq); clear hw9; obtain ⟨d41, d42, d4f, d4g⟩ := two_cells ((H1.out.under HB1.out).under HX9.out); obtain ⟨d43, d44, -, -⟩ := two_cells ((H3.out.under HB1.out).under HX9.out))
        gi_wp2_with (refine ⟨trivial, ?_⟩; gi_at_call 118; refine (CallsIn.inRound l (callsIn_wide.2 (c_renamed _ _ B _ _ (HBrr.out.below (bb HB1.out HX9.out)) (HU.out.below (bb HB1.out HX9.out)) HrB.out))).mono ?_; rintro e w5 ⟨r5, rfl, ho5, hb5⟩; obtain ⟨qb, qd, hqv5, _⟩ := ho5.rows.shape; rw [renL_length, HQ3.out] at hqv5; subst hqv5; have HO5 := Lib.hid ho5; have HB5 := Lib.hid hb5; have hq5 := (((H1.out.under HB1.out).under HX9.out).under hb5); obtain ⟨e41, e42, e4f, e4g⟩ := two_cells hq5; obtain ⟨g41, g42, g4f, g4g⟩ := two_cells (hq5.alloc (.cells #[.slice qa A.length qc, .slice qb A.length qd] 27)); clear ho5 hb5 hq5)
        gi_wp2_with (refine ⟨trivial, ?_⟩)
        have hz : Below w5.heap.size w5 (w5.alloc (.cells #[.slice qa A.length qc, .slice qb A.length qd] 27)) := (Below.refl _ _).alloc (Nat.le_refl _) _
        refine ⟨(((Keep.refl (fun b => b = q ∨ hi ≤ b) W).under (bb (bb (bb HB1.out HX9.out) HB5.out) hz)).setCell (p := ⟨q, 0, none⟩) (.inl (.inl rfl)) _).setCell (p := ⟨q, 1, none⟩) (.inl (.inl rfl)) _, _, _, box_early (H1.out.under (bb (bb (bb HB1.out HX9.out) HB5.out) hz)), ?_, ?_, ?_, ?_, ?_⟩
        · rw [HSn.out]
          unfold stepS
          rw [if_pos HLx.out]
          exact fin_up HO1.out HB1.out.size HX9.out HO5.out HB5.out hz hW (by omega) (by omega)
        · exact (((H3.out.under (bb (bb (bb HB1.out HX9.out) HB5.out) hz)).other (a := ⟨q, 0, none⟩) (by show w.heap.size ≠ q; omega) _).other (a := ⟨q, 1, none⟩) (by show w.heap.size ≠ q; omega) _)
        · exact (((H4.out.under (bb (bb (bb HB1.out HX9.out) HB5.out) hz)).other (a := ⟨q, 0, none⟩) (by show w.heap.size + 1 ≠ q; omega) _).other (a := ⟨q, 1, none⟩) (by show w.heap.size + 1 ≠ q; omega) _)
        · exact ((bb H5.out (bb (bb (bb HB1.out HX9.out) HB5.out) hz)).setCell (p := ⟨q, 0, none⟩) (by show w.heap.size ≤ q; omega) _).setCell (p := ⟨q, 1, none⟩) (by show w.heap.size ≤ q; omega) _
        · have hs := (bb (bb (bb HB1.out HX9.out) HB5.out) hz).size
          exact Nat.le_trans (Nat.le_trans h6 hs) (by simp [World.setCell])
      · have hc0 : ¬ (0 < cmpR (renL A (row (allPerms N) k)) X.1) := by omega
        have hc1 : ¬ (cmpR (renL A (row (allPerms N) k)) X.1 < 0) := by omega
        gi_wp2_with (refine ⟨trivial, ?_⟩; gi_at_call 119; refine (CallsIn.inRound l (callsIn_wide.2 (c_compareTables _ _ _ _ _ HO1.out.rows (HBrA.out.below HB1.out)))).mono ?_; rintro e w9 ⟨rfl, nq, hw9⟩; have HX9 := Lib.hid (show Below w1.heap.size w1 w9 by rw [hw9]; exact below_drewN (Below.refl _ _) nq); clear hw9; obtain ⟨d41, d42, d4f, d4g⟩ := two_cells ((H1.out.under HB1.out).under HX9.out); obtain ⟨d43, d44, -, -⟩ := two_cells ((H3.out.under HB1.out).under HX9.out))
        gi_wp2_with (refine ⟨trivial, ?_⟩; gi_at_call 118; refine (CallsIn.inRound l (callsIn_wide.2 (c_renamed _ _ B _ _ (HBrr.out.below (bb HB1.out HX9.out)) (HU.out.below (bb HB1.out HX9.out)) HrB.out))).mono ?_; rintro e w5 ⟨r5, rfl, ho5, hb5⟩; obtain ⟨qb, qd, hqv5, _⟩ := ho5.rows.shape; rw [renL_length, HQ3.out] at hqv5; subst hqv5; have HO5 := Lib.hid ho5; have HB5 := Lib.hid hb5; have hq5 := (((H1.out.under HB1.out).under HX9.out).under hb5); obtain ⟨e41, e42, e4f, e4g⟩ := two_cells hq5; obtain ⟨g41, g42, g4f, g4g⟩ := two_cells (hq5.alloc (.cells #[.slice qa A.length qc, .slice qb A.length qd] 27)); clear ho5 hb5 hq5)
        have hrdO : Sol (w5.alloc (.cells #[.slice qa A.length qc, .slice qb A.length qd] 27)) (.slice qa A.length qc) (.slice qb A.length qd) (renL A (row (allPerms N) k)) (renL B (row (allPerms N) k)) := ⟨((HO1.out.rows.below HX9.out).below HB5.out).below ((Below.refl _ _).alloc (Nat.le_refl _) _), HO5.out.rows.below ((Below.refl _ _).alloc (Nat.le_refl _) _)⟩
        have hrdB : Sol (w5.alloc (.cells #[.slice qa A.length qc, .slice qb A.length qd] 27)) (.slice xa A.length xc) (.slice ya A.length yc) X.1 X.2 := ⟨(HBrA.out.below (bb (bb HB1.out HX9.out) HB5.out)).below ((Below.refl _ _).alloc (Nat.le_refl _) _), (HBrB.out.below (bb (bb HB1.out HX9.out) HB5.out)).below ((Below.refl _ _).alloc (Nat.le_refl _) _)⟩
        have HrdO := Lib.hid hrdO; have HrdB := Lib.hid hrdB
        clear hrdO hrdB
        by_cases hx : lexS (renL A (row (allPerms N) k)) (renL B (row (allPerms N) k)) X.1 X.2 = true
        · have HLx := Lib.hid hx
          have hcs : orI 0 (cmpR (renL B (row (allPerms N) k)) X.2) < 0 := by have h := orI_neg.2 hx; rwa [hc] at h
          clear hx
          gi_wp2_with (refine ⟨trivial, ?_⟩; gi_at_call 173; refine (CallsIn.inRound l (callsIn_wide.2 (c_compareSolutions _ _ _ _ _ _ _ _ _ HrdO.out HrdB.out))).mono ?_; rintro e w7 ⟨rfl, hb7⟩; obtain ⟨h41, h42, h4f, h4g⟩ := two_cells (((((H1.out.under HB1.out).under HX9.out).under HB5.out).alloc (.cells #[.slice qa A.length qc, .slice qb A.length qd] 27)).under hb7); obtain ⟨i41, i42, -, -⟩ := two_cells ((Blk.new w5 [.slice qa A.length qc, .slice qb A.length qd] 27).under hb7); have HB7 := Lib.hid hb7; clear hb7)
          have hz : Below w5.heap.size w5 w7 := bb ((Below.refl _ _).alloc (Nat.le_refl _) _) HB7.out
          refine ⟨(((Keep.refl (fun b => b = q ∨ hi ≤ b) W).under (bb (bb (bb HB1.out HX9.out) HB5.out) hz)).setCell (p := ⟨q, 0, none⟩) (.inl (.inl rfl)) _).setCell (p := ⟨q, 1, none⟩) (.inl (.inl rfl)) _, _, _, box_early (H1.out.under (bb (bb (bb HB1.out HX9.out) HB5.out) hz)), ?_, ?_, ?_, ?_, ?_⟩
          · rw [HSn.out]
            unfold stepS
            rw [if_pos HLx.out]
            exact fin_up HO1.out HB1.out.size HX9.out HO5.out HB5.out hz hW (by omega) (by omega)
          · exact (((H3.out.under (bb (bb (bb HB1.out HX9.out) HB5.out) hz)).other (a := ⟨q, 0, none⟩) (by show w.heap.size ≠ q; omega) _).other (a := ⟨q, 1, none⟩) (by show w.heap.size ≠ q; omega) _)
          · exact (((H4.out.under (bb (bb (bb HB1.out HX9.out) HB5.out) hz)).other (a := ⟨q, 0, none⟩) (by show w.heap.size + 1 ≠ q; omega) _).other (a := ⟨q, 1, none⟩) (by show w.heap.size + 1 ≠ q; omega) _)
          · exact ((bb H5.out (bb (bb (bb HB1.out HX9.out) HB5.out) hz)).setCell (p := ⟨q, 0, none⟩) (by show w.heap.size ≤ q; omega) _).setCell (p := ⟨q, 1, none⟩) (by show w.heap.size ≤ q; omega) _
          · have hs := (bb (bb (bb HB1.out HX9.out) HB5.out) hz).size
            exact Nat.le_trans (Nat.le_trans h6 hs) (by simp [World.setCell])
        · have hx0 : lexS (renL A (row (allPerms N) k)) (renL B (row (allPerms N) k)) X.1 X.2 = false := by simpa using hx
          have HLx := Lib.hid hx0
          have hcs : ¬ (orI 0 (cmpR (renL B (row (allPerms N) k)) X.2) < 0) := fun h => hx (orI_neg.1 (by rw [hc]; exact h))
          clear hx hx0
          gi_wp2_with (refine ⟨trivial, ?_⟩; gi_at_call 173; refine (CallsIn.inRound l (callsIn_wide.2 (c_compareSolutions _ _ _ _ _ _ _ _ _ HrdO.out HrdB.out))).mono ?_; rintro e w7 ⟨rfl, hb7⟩; have HB7 := Lib.hid hb7; clear hb7)
          have hz : Below W.heap.size W w7 := bb (bb (bb (bb HB1.out HX9.out) HB5.out) ((Below.refl _ _).alloc (Nat.le_refl _) _)) HB7.out
          refine ⟨(Keep.refl (fun b => b = q ∨ hi ≤ b) W).under hz, _, _, H1.out.under hz, ?_, H3.out.under hz, H4.out.under hz, bb H5.out hz, Nat.le_trans h6 hz.size⟩
          rw [HSn.out]
          unfold stepS
          rw [if_neg (by rw [HLx.out]; simp)]
          exact HR.out.under hz
      · have HLx := Lib.hid (lexS_pos (P := renL B (row (allPerms N) k)) (Q := X.2) hc)
        gi_wp2_with (refine ⟨trivial, ?_⟩; gi_at_call 119; refine (CallsIn.inRound l (callsIn_wide.2 (c_compareTables _ _ _ _ _ HO1.out.rows (HBrA.out.below HB1.out)))).mono ?_; rintro e w9 ⟨rfl, nq, hw9⟩; have HX9 := Lib.hid (show Below w1.heap.size w1 w9 by rw [hw9]; exact below_drewN (Below.refl _ _) nq); clear hw9; obtain ⟨d41, d42, d4f, d4g⟩ := two_cells ((H1.out.under HB1.out).under HX9.out); obtain ⟨d43, d44, -, -⟩ := two_cells ((H3.out.under HB1.out).under HX9.out))
        have hz : Below W.heap.size W w9 := bb HB1.out HX9.out
        refine ⟨(Keep.refl (fun b => b = q ∨ hi ≤ b) W).under hz, _, _, H1.out.under hz, ?_, H3.out.under hz, H4.out.under hz, bb H5.out hz, Nat.le_trans h6 hz.size⟩
        rw [HSn.out]
        unfold stepS
        rw [if_neg (by rw [HLx.out]; simp)]
        exact HR.out.under hz
    case done =>
      rintro D hi W hD hDh ⟨va, vb, h1, h2, h3, h4, h5, h6⟩ hK
      rw [List.take_of_length_le (Nat.le_refl _)] at h2
      obtain ⟨X, hXe⟩ : ∃ X, X = bestS A B (A, B) (allPerms N) := ⟨_, rfl⟩
      have hX := bestS_len HQ3.out (A, B) (allPerms N) rfl HQ3.out
      rw [← hXe] at h2 hX
      have hbr := h2.own.sol
      obtain ⟨xa, xc, hv1, _, _⟩ := hbr.1.shape
      obtain ⟨ya, yc, hv2, _, _⟩ := hbr.2.shape
      rw [hX.1] at hv1; rw [hX.2] at hv2
      subst hv1 hv2
      have hqw3 : q < w3.heap.size := hbox.lt
      obtain ⟨c51, c52, -, -⟩ := two_cells h1
      obtain ⟨c61, c62, c63, c64⟩ := two_cells h4
      have H2 := Lib.hid h2; have H5 := Lib.hid h5; have HK := Lib.hid hK; have HXe := Lib.hid hXe; have H4 := Lib.hid h4
      clear h1 h2 h3 h4 h5 hK hbr hbox hs2 hr2 hB3 hgg hb0 hcellN hX hXe
      go_wp2_with fail
      obtain ⟨W1, hW1⟩ : ∃ W1, (W.setCell ⟨w.heap.size + 1, 0, none⟩ (.slice xa A.length xc)).setCell ⟨w.heap.size + 1, 1, none⟩ (.slice ya A.length yc) = W1 := ⟨_, rfl⟩
      have hk1 : Keep (fun b => b = w.heap.size + 1) W W1 := by rw [← hW1]; exact keep_early _ _ _ _
      have hbx : Blk W1 (w.heap.size + 1) 27 [.slice xa A.length xc, .slice ya A.length yc] := by rw [← hW1]; exact box_early H4.out
      have hDW : D < W.heap.size := by
        rcases Nat.lt_or_ge D W.heap.size with h | h
        · exact h
        · have := HK.out; rw [Array.getElem?_eq_none h] at this; cases this
      have hK1 : W1.heap[D]? = some (.deferred (some [])) := by rw [hk1.block D hDW (by omega)]; exact HK.out
      rw [hW1]
      clear hW1
      refine ⟨by simp, .inl ⟨_, _, rfl, run_takeDeferred hK1, ?_⟩⟩
      have hk := keep_putObj W1 D (.deferred none)
      have hbx2 := hbx.of_block (hk.block _ hbx.lt (by omega))
      obtain ⟨x1, x2, -, -⟩ := two_cells hbx2
      refine ⟨.agg #[.slice xa A.length xc, .slice ya A.length yc], by simp [results, Try.results128, go_sem, x1, x2], _, _, rfl, ?_, ?_⟩
      · have g1 := (H2.out.keepL hk1 (fun b hb _ h => by omega) (fun b hb _ h => by omega)).keepL hk (fun b hb hb2 h => by omega) (fun b hb hb2 h => by omega)
        have e : X = bestS A B (A, B) (allPerms A.length) := by rw [HXe.out, HN.out]
        have g2 := g1.ownL (lo' := w.heap.size) (by omega)
        rw [e] at g2; exact g2
      · have hs5 := H5.out.size
        have hs6 := hk1.size
        exact (H5.out.trans (hk1.below fun k hk' => ⟨by omega, by omega⟩)).trans (hk.below fun k hk' => ⟨by omega, by omega⟩)
    case stop =>
      rintro D hi k c W hD _ h _
      exact h.elim
end Go.Proofs.Ytkcobfkmeaakoaa

namespace Go.Proofs.Ytkcobfkmeaakoaa
open Go Go.RowKit

theorem OwnP.blk {lo : Nat} {P : Nat → Prop} {w : World} {v : Value} {t : List (List Int)} (h : OwnP lo P w v t) {k : Nat} (hk : v.ownBlock = some k) : P k := by
  obtain ⟨us, _, _, h3, _⟩ := h
  exact h3 k hk
/-- Two tables apart from each other, all behind the box q. -/
structure Emp (B q : Nat) (W0 W : World) (va vb : Value) (X Y : List (List Int)) (P1 P2 : Nat → Prop) : Prop where
  p1 : ∀ b, P1 b → q < b ∧ b < W.heap.size ∧ ¬ P2 b
  p2 : ∀ b, P2 b → q < b ∧ b < W.heap.size ∧ ¬ P1 b
  o1 : OwnP B P1 W va X
  o2 : OwnP B P2 W vb Y
  hb : Below B W0 W
theorem Emp.swap {B q : Nat} {W0 W : World} {va vb : Value} {X Y : List (List Int)} {P1 P2 : Nat → Prop} (h : Emp B q W0 W va vb X Y P1 P2) : Emp B q W0 W vb va Y X P2 P1 := ⟨h.p2, h.p1, h.o2, h.o1, h.hb⟩
theorem Emp.drew {B q : Nat} {W0 W : World} {va vb : Value} {X Y : List (List Int)} {P1 P2 : Nat → Prop} (h : Emp B q W0 W va vb X Y P1 P2) : Emp B q W0 W.drew va vb X Y P1 P2 :=
  ⟨h.p1, h.p2, h.o1.under (Below.refl _ _).drew, h.o2.under (Below.refl _ _).drew, h.hb.drew⟩
theorem Emp.app {B q : Nat} {W0 W w2 : World} {va vb va' u : Value} {X Y X' : List (List Int)} {P1 P2 : Nat → Prop} {o : Obj} {g : Nat} (h : Emp B q W0 W va vb X Y P1 P2) (hq : q < W.heap.size) (hB : B ≤ q) (hu : u.ownBlock = some W.heap.size) (hv' : va'.ownBlock = some g)
    (ho : OwnP B (fun b => P1 b ∨ u.ownBlock = some b ∨ b = g) w2 va' X') (k : Keep (fun b => va.ownBlock = some b) (W.alloc o) w2) (hg : va.ownBlock = some g ∨ (W.alloc o).heap.size ≤ g) (i : Nat) (z : Value) :
    Emp B q W0 (w2.setCell ⟨q, i, none⟩ z) va' vb X' Y (fun b => P1 b ∨ u.ownBlock = some b ∨ b = g) P2 := by
  have hs := k.size
  have hs1 : (W.alloc o).heap.size = W.heap.size + 1 := by simp
  have hgl := (OwnRows.lt ho.out hv').2
  have hz := size_set w2 ⟨q, i, none⟩ z
  have hgq : q < g ∧ ¬ P2 g := by
    rcases hg with hg | hg
    · have := h.p1 g (h.o1.blk hg); exact ⟨this.1, this.2.2⟩
    · exact ⟨by omega, fun e => by have := (h.p2 g e).2.1; omega⟩
  have kk : Keep (fun b => va.ownBlock = some b ∨ b = q) W (w2.setCell ⟨q, i, none⟩ z) := by
    have k1 : Keep (fun b => va.ownBlock = some b ∨ b = q) W (W.alloc o) := (Keep.refl _ W).alloc o
    have k2 : Keep (fun b => va.ownBlock = some b ∨ b = q) (W.alloc o) w2 := ⟨k.os, k.tape, k.output, k.size, fun x hx hn => k.block x hx (fun e => hn (.inl e))⟩
    exact (k1.trans k2).setCell (p := ⟨q, i, none⟩) (.inl (.inr rfl)) z
  refine ⟨fun b hb => ?_, fun b hb => ?_, ?_, ?_, ?_⟩
  · rcases hb with hb | hb | hb
    · have := h.p1 b hb; exact ⟨this.1, by omega, this.2.2⟩
    · rw [hu] at hb; injection hb with hb; subst hb
      exact ⟨hq, by omega, fun e => by have := (h.p2 _ e).2.1; omega⟩
    · subst hb; exact ⟨hgq.1, by omega, hgq.2⟩
  · have h2 := h.p2 b hb
    refine ⟨h2.1, by omega, fun e => ?_⟩
    rcases e with e | e | e
    · exact h2.2.2 e
    · rw [hu] at e; injection e with e; omega
    · subst e; exact hgq.2 hb
  · refine ho.keep (keep1 w2 q i z) fun b hb e => ?_
    have e : b = q := e
    subst e
    rcases hb with hb | hb | hb
    · have := (h.p1 _ hb).1; omega
    · rw [hu] at hb; injection hb with hb; omega
    · subst hb; omega
  · refine h.o2.keep kk fun b hb e => ?_
    rcases e with e | e
    · exact (h.p2 b hb).2.2 (h.o1.blk e)
    · subst e; have := (h.p2 _ hb).1; omega
  · refine h.hb.trans (kk.below fun b hb => ⟨by omega, fun e => ?_⟩)
    rcases e with e | e
    · have := (h.p1 _ (h.o1.blk e)).1; omega
    · omega

theorem Emp.old {B q : Nat} {W0 W w2 : World} {va vb : Value} {X Y : List (List Int)} {P1 P2 : Nat → Prop} {o : Obj} (h : Emp B q W0 W va vb X Y P1 P2) (k : Keep (fun b => va.ownBlock = some b) (W.alloc o) w2) (i : Nat) (z : Value) {b : Nat} (hb : b < q) (hl : b < W.heap.size) :
    (w2.setCell ⟨q, i, none⟩ z).heap[b]? = W.heap[b]? := by
  have kk : Keep (fun b => va.ownBlock = some b ∨ b = q) W (w2.setCell ⟨q, i, none⟩ z) := by
    have k1 : Keep (fun b => va.ownBlock = some b ∨ b = q) W (W.alloc o) := (Keep.refl _ W).alloc o
    have k2 : Keep (fun b => va.ownBlock = some b ∨ b = q) (W.alloc o) w2 := ⟨k.os, k.tape, k.output, k.size, fun x hx hn => k.block x hx (fun e => hn (.inl e))⟩
    exact (k1.trans k2).setCell (p := ⟨q, i, none⟩) (.inl (.inr rfl)) z
  refine kk.block b hl fun e => ?_
  rcases e with e | e
  · have := (h.p1 _ (h.o1.blk e)).1; omega
  · omega

/-- Two tables apart from each other. -/
def RTwo (w0 : World) (X Y : List (List Int)) (e : Ending) (w' : World) : Prop :=
  ∃ r1 r2 P1 P2, e = .returned (.agg #[r1, r2]) ∧ Emp w0.heap.size (w0.heap.size + 1) w0 w' r1 r2 X Y P1 P2
theorem own_made (n : Nat) (W : World) (h : n ≤ maxLen) : Own W.heap.size (W.alloc (.cells (madeCells #[.int .i64 0] n) 2)) (.slice (some ⟨W.heap.size, 0, none⟩) n n) (List.replicate n 0) := by
  have := Blk.made W (.int .i64 0) n 2
  exact Own.shut (cs := []) (by simpa using this) (Nat.le_refl _) (by simpa using h) (by simp) (by simp)

set_option maxHeartbeats 1000000 in
theorem c_l02Empty (n : Nat) (w : World) (hn : n ≤ 12) :
    Calls Try.prog 152 #[.int .i64 n] w (RTwo w (tabOf n fun _ _ => 0) (tabOf n fun _ _ => 0)) := by
  obtain ⟨f0, f1, hW0, hsz⟩ := boxes2 w [.slice none 0 0, .slice none 0 0] [.slice none 0 0, .slice none 0 0] 27 27
  have hmk := run_make_row' (P := Try.prog) 25 2 (.int .i64 0) 8 Try.underlying25 inf_int64 rfl .i64 .i64 n (by omega) (by omega)
  go_enter Try.func152, Try.ntmps152
  go_wp2
  have hB0 : Below w.heap.size w ((w.alloc (.cells #[.slice none 0 0, .slice none 0 0] 27)).alloc (.cells #[.slice none 0 0, .slice none 0 0] 27)) := hW0
  have hE0 := Emp.mk (B := w.heap.size) (q := w.heap.size + 1) (W0 := w) (W := ((w.alloc (.cells #[.slice none 0 0, .slice none 0 0] 27)).alloc (.cells #[.slice none 0 0, .slice none 0 0] 27))) (P1 := fun _ => False) (P2 := fun _ => False) (fun b hb => hb.elim) (fun b hb => hb.elim) (OwnP.nil _ _ _) (OwnP.nil _ _ _) hB0
  go_loopw [4] (fun i wr => ∃ (k : Nat) (va vb : Value) (P1 P2 : Nat → Prop), k ≤ n ∧ i = .int .i64 k ∧ Hid (w.heap.size + 2 ≤ wr.heap.size) ∧ Hid (Blk wr w.heap.size 27 [.slice none 0 0, .slice none 0 0]) ∧ Hid (Blk wr (w.heap.size + 1) 27 [va, vb]) ∧
    Hid (Emp w.heap.size (w.heap.size + 1) w wr va vb (List.replicate k (List.replicate n 0)) (List.replicate k (List.replicate n 0)) P1 P2)) (fun i _ => n - (intOf i).toNat)
  case atStart => exact ⟨0, _, _, _, _, Nat.zero_le _, rfl, Lib.hid (by simp), Lib.hid f0, Lib.hid f1, Lib.hid hE0⟩
  case round =>
    clear hB0 f0 f1 hW0 hsz hE0
    obtain ⟨k, va, vb, P1, P2, hk, rfl, HS, HQ0, HQ1, HE⟩ := hrel
    obtain ⟨wo, rfl⟩ : ∃ wo : World, wo = wr := ⟨_, rfl⟩
    by_cases hlt : k < n
    · have HQd := Lib.hid HQ1.out.drew
      have HEd := Lib.hid HE.out.drew
      obtain ⟨cA, cB, cF, cG⟩ := two_cells HQd.out
      have hcm := (two_cells (HQ1.out.alloc (.cells (madeCells #[.int .i64 0] n) 2))).1
      have hcm2 := (two_cells ((HQ1.out.alloc (.cells (madeCells #[.int .i64 0] n) 2)).alloc (.cells #[.slice (some ⟨wo.heap.size, 0, none⟩) n n] 25))).1
      go_wp2
      go_region_law (first
        | (refine step_app_rowP P1 w.heap.size wo.heap.size (wo.drew.alloc (.cells (madeCells #[.int .i64 0] n) 2)) va (List.replicate k (List.replicate n 0)) (.slice (some ⟨wo.heap.size, 0, none⟩) n n) (List.replicate n 0) (.tmp 12) (.tmp 15) rfl rfl rfl (HEd.out.o1.under ((Below.refl _ _).alloc (Nat.le_refl _) _)) (fun b hb => (HE.out.p1 b hb).2.1) (own_made n wo.drew (by unfold maxLen; omega)) (show Value.slice (some ⟨wo.heap.size + 1, 0, none⟩) 1 1 = _ from by simp) (by simp; omega) (by have := HS.out; omega) (by have := HS.out; simp; omega) ?_; intro g c2 w2 hown2 hk2 hg2; rw [List.length_replicate] at hown2; rw [List.length_replicate]
           have hQ2 := (HQd.out.alloc (.cells (madeCells #[.int .i64 0] n) 2)).of_block (hk2.block _ (HQd.out.alloc (.cells (madeCells #[.int .i64 0] n) 2)).lt (fun e => by have := (HE.out.p1 _ (HE.out.o1.blk e)).1; omega))
           obtain ⟨dA, dB, dF, dG⟩ := two_cells hQ2
           have HQ2 := Lib.hid hQ2; have HO := Lib.hid hown2; have HK := Lib.hid hk2; have HG := Lib.hid hg2; clear hown2 hk2 hg2 hQ2))
      all_goals
        have hs2 := HS.out
        have hE3 := HEd.out.app (va' := .slice (some ⟨g, 0, none⟩) (k + 1) c2) (u := .slice (some ⟨wo.heap.size, 0, none⟩) n n) (by show _ < wo.heap.size; omega) (by omega) rfl rfl HO.out HK.out HG.out 0 (.slice (some ⟨g, 0, none⟩) (k + 1) c2)
        have hQ3 := HQ2.out.set 0 (.slice (some ⟨g, 0, none⟩) (k + 1) c2)
        have hZ3 := (HQ0.out.drew).of_block (HEd.out.old HK.out 0 (.slice (some ⟨g, 0, none⟩) (k + 1) c2) (b := w.heap.size) (by omega) HQ0.out.lt)
        obtain ⟨w3, hw3⟩ : ∃ w3, w2.setCell ⟨w.heap.size + 1, 0, none⟩ (.slice (some ⟨g, 0, none⟩) (k + 1) c2) = w3 := ⟨_, rfl⟩
        rw [hw3] at hE3 hQ3 hZ3 ⊢
        have hs3 : w.heap.size + 2 ≤ w3.heap.size := hQ3.lt
        have HE3 := Lib.hid hE3.swap
        have HEd3 := Lib.hid hE3.swap.drew
        have HQ3 := Lib.hid hQ3; have HZ3 := Lib.hid hZ3; have HS3 := Lib.hid hs3
        clear hE3 hQ3 hZ3 hw3 dA dB dF dG cA cB cF cG hcm hcm2 hs2 hs3
        have HQd3 := Lib.hid HQ3.out.drew
        obtain ⟨cA, cB, cF, cG⟩ := two_cells HQd3.out
        have hcm := (two_cells (HQ3.out.alloc (.cells (madeCells #[.int .i64 0] n) 2))).2.1
        have hcm2 := (two_cells ((HQ3.out.alloc (.cells (madeCells #[.int .i64 0] n) 2)).alloc (.cells #[.slice (some ⟨w3.heap.size, 0, none⟩) n n] 25))).2.1
        go_wp2
        go_region_law (first
          | (refine step_app_rowP P2 w.heap.size w3.heap.size (w3.drew.alloc (.cells (madeCells #[.int .i64 0] n) 2)) vb (List.replicate k (List.replicate n 0)) (.slice (some ⟨w3.heap.size, 0, none⟩) n n) (List.replicate n 0) (.tmp 19) (.tmp 22) rfl rfl rfl (HEd3.out.o1.under ((Below.refl _ _).alloc (Nat.le_refl _) _)) (fun b hb => (HE3.out.p1 b hb).2.1) (own_made n w3.drew (by unfold maxLen; omega)) (show Value.slice (some ⟨w3.heap.size + 1, 0, none⟩) 1 1 = _ from by simp) (by simp; omega) (by have := HS3.out; omega) (by have := HS3.out; simp; omega) ?_; intro g4 c4 w4 hown2 hk2 hg2; rw [List.length_replicate] at hown2; rw [List.length_replicate]
             have hQ2 := (HQd3.out.alloc (.cells (madeCells #[.int .i64 0] n) 2)).of_block (hk2.block _ (HQd3.out.alloc (.cells (madeCells #[.int .i64 0] n) 2)).lt (fun e => by have := (HE3.out.p1 _ (HE3.out.o1.blk e)).1; omega))
             obtain ⟨dA, dB, dF, dG⟩ := two_cells hQ2
             have HQ4 := Lib.hid hQ2; have HO4 := Lib.hid hown2; have HK4 := Lib.hid hk2; have HG4 := Lib.hid hg2; clear hown2 hk2 hg2 hQ2))
        all_goals
          have hs2 := HS3.out
          have hE5 := HEd3.out.app (va' := .slice (some ⟨g4, 0, none⟩) (k + 1) c4) (u := .slice (some ⟨w3.heap.size, 0, none⟩) n n) (by show _ < w3.heap.size; omega) (by omega) rfl rfl HO4.out HK4.out HG4.out 1 (.slice (some ⟨g4, 0, none⟩) (k + 1) c4)
          have hQ5 := HQ4.out.set 1 (.slice (some ⟨g4, 0, none⟩) (k + 1) c4)
          have hZ5 := (HZ3.out.drew).of_block (HEd3.out.old HK4.out 1 (.slice (some ⟨g4, 0, none⟩) (k + 1) c4) (b := w.heap.size) (by omega) HZ3.out.lt)
          obtain ⟨w5, hw5⟩ : ∃ w5, w4.setCell ⟨w.heap.size + 1, 1, none⟩ (.slice (some ⟨g4, 0, none⟩) (k + 1) c4) = w5 := ⟨_, rfl⟩
          rw [hw5] at hE5 hQ5 hZ5 ⊢
          have HE5 := Lib.hid hE5.swap; have HQ5 := Lib.hid hQ5; have HZ5 := Lib.hid hZ5
          clear hE5 hQ5 hZ5 hw5 dA dB dF dG cA cB cF cG hcm hcm2 hs2 hmk
          go_wp2
          go_roundw
          case rel =>
            have hE := HE5.out
            rw [← List.replicate_succ'] at hE
            exact ⟨k + 1, _, _, _, _, by omega, by go_num, Lib.hid HQ5.out.lt, HZ5, HQ5, Lib.hid hE⟩
          case measure => simp [intOf]; omega
    · obtain rfl : k = n := by omega
      have hE := HE.out
      have hrep : List.replicate k (List.replicate k (0 : Int)) = tabOf k fun _ _ => 0 := by
        apply ext_row (by simp)
        intro x hx
        simp at hx
        rw [row_tabOf _ _ _ hx, rowOf_const, row_nat _ _ (by simpa using hx)]
        simp
      rw [hrep] at hE
      obtain ⟨ra1, rc1, rfl, hca⟩ := OwnRows.shape' hE.o1.out
      obtain ⟨ra2, rc2, rfl, hcb⟩ := OwnRows.shape' hE.o2.out
      rw [show (tabOf k fun _ _ => (0 : Int)).length = k from by simp] at hE
      obtain ⟨z0, z1, z2, z3⟩ := two_cells HQ0.out
      have HQ1' := HQ1.out
      rw [show (tabOf k fun _ _ => (0 : Int)).length = k from by simp] at HQ1'
      obtain ⟨y0, y1, y2, y3⟩ := two_cells HQ1'
      have HE' := Lib.hid hE; clear hE hca hcb HE
      go_wp2
      refine bodyPost_ret (v := .agg #[.slice ra1 k rc1, .slice ra2 k rc2]) (by simp [results, Try.results152, go_sem, z0, z1]) rfl ⟨_, _, P1, P2, rfl, ?_⟩
      have kz : Keep (fun b => b = w.heap.size) wo ((wo.setCell ⟨w.heap.size, 0, none⟩ (.slice ra1 k rc1)).setCell ⟨w.heap.size, 1, none⟩ (.slice ra2 k rc2)) := keep_early _ _ _ _
      have hks := kz.size
      have hE := HE'.out
      exact ⟨fun b hb => ⟨(hE.p1 b hb).1, by have := (hE.p1 b hb).2.1; omega, (hE.p1 b hb).2.2⟩, fun b hb => ⟨(hE.p2 b hb).1, by have := (hE.p2 b hb).2.1; omega, (hE.p2 b hb).2.2⟩, hE.o1.keep kz (fun b hb e => by have := (hE.p1 b hb).1; omega), hE.o2.keep kz (fun b hb e => by have := (hE.p2 b hb).1; omega), hE.hb.trans (kz.below fun b hb => ⟨by have : w.heap.size + 2 ≤ wo.heap.size := HS.out; omega, fun e => by have e : b = w.heap.size := e; omega⟩)⟩
end Go.Proofs.Ytkcobfkmeaakoaa

namespace Go.Proofs.Ytkcobfkmeaakoaa
open Go Go.RowKit Go.Shelf

theorem ivT_row {A B : List (List Int)} {n : Nat} {z : Int → Int} {ini : Int → Int → Int} {k u : Nat} (hu : u < n) : (row (ivT A B n z ini k) u).length = n := by
  unfold ivT; rw [row_tabOf _ _ _ hu]; simp

theorem two_start {w1 : World} {B q0 : Nat} {W0 : World} {va vb : Value} {X Y : List (List Int)} {P1 P2 : Nat → Prop} (h : Emp B q0 W0 w1 va vb X Y P1 P2) (hB : B ≤ q0) (o : Obj) :
    TwoP B w1.heap.size (w1.alloc o) va vb X Y := by
  have hs : (w1.alloc o).heap.size = w1.heap.size + 1 := by simp
  have hb : Below w1.heap.size w1 (w1.alloc o) := (Below.refl _ _).alloc (Nat.le_refl _) _
  refine ⟨P1, P2, fun b hb => ?_, fun b hb => ?_, h.o1.under hb, h.o2.under hb⟩
  · have := h.p1 b hb; exact ⟨by omega, by omega, by omega, this.2.2⟩
  · have := h.p2 b hb; exact ⟨by omega, by omega, by omega⟩
theorem row_zeros {n u : Nat} (hu : u < n) : (row (tabOf n fun _ _ => (0 : Int)) u).length = n := by rw [row_tabOf _ _ _ hu]; simp

set_option maxRecDepth 100000 in
set_option maxHeartbeats 4000000 in
theorem c_l02InverseC (v0 u0 : Value) (A B : List (List Int)) (w : World) (hA : Sol w v0 u0 A B) (hs : collL A B = []) (hp : isPM A B = true) :
    Calls Try.prog 90 #[.agg #[v0, u0]] w (RSolR w (ivA A B A.length) (ivB A B A.length)) := by
  have hPm := pmL_perm hp hs
  clear hs
  obtain ⟨n0, b0, o0, c0, rb0, ro0, rc0, b0s, o0s, c0s, rb0s, ro0s, rc0s, rfl, rfl, hl0, hl0s, hn0, hx0, hc0, hm0, hc0s, hm0s, t0, t0s⟩ := hA.tabs hp
  rw [hl0] at hPm ⊢
  have HPm := Lib.hid hPm; clear hPm
  have HL0 := Lib.hid hl0; clear hl0
  have HL0s := Lib.hid hl0s; clear hl0s
  go_enter Try.func90, Try.ntmps90
  obtain ⟨f0, f2, hW0, hsz⟩ := boxes2 w [.slice (some ⟨b0, o0, none⟩) n0 c0, .slice (some ⟨b0s, o0s, none⟩) n0 c0s] [.slice none 0 0, .slice none 0 0] 27 27
  obtain ⟨W0, hW⟩ : ∃ W0, ((w.alloc (.cells #[.slice (some ⟨b0, o0, none⟩) n0 c0, .slice (some ⟨b0s, o0s, none⟩) n0 c0s] 27)).alloc (.cells #[.slice none 0 0, .slice none 0 0] 27)) = W0 := ⟨_, rfl⟩
  rw [hW] at f0 f2 hW0 hsz
  have HSZ := Lib.hid hsz
  obtain ⟨cA0, cB0, -, -⟩ := two_cells f0
  replace t0 := t0.below hW0; replace t0s := t0s.below hW0
  have HT0 := Lib.hid t0; have HT0s := Lib.hid t0s
  have HF0 := Lib.hid f0; have HF2 := Lib.hid f2; have HW0 := Lib.hid hW0
  have hsz := HSZ.out
  have hW' := hW
  subst hW'
  clear hA hp f0 f2 t0 t0s hW0
  go_wp2_with fail
  obtain ⟨W0, hW⟩ : ∃ W0, ((w.alloc (.cells #[.slice (some ⟨b0, o0, none⟩) n0 c0, .slice (some ⟨b0s, o0s, none⟩) n0 c0s] 27)).alloc (.cells #[.slice none 0 0, .slice none 0 0] 27)) = W0 := ⟨_, rfl⟩
  rw [hW] at HF0 HF2 HW0 HSZ HT0 HT0s hsz cA0 cB0 ⊢
  clear hW
  refine (c_l02Empty n0 _ hx0).mono ?_; rintro e w1 ⟨r1, r2, P1, P2, rfl, hE⟩
  obtain ⟨ra1, rc1, hv1, -⟩ := OwnRows.shape' hE.o1.out
  obtain ⟨ra2, rc2, hv2, -⟩ := OwnRows.shape' hE.o2.out
  rw [show (tabOf n0 fun _ _ => (0 : Int)).length = n0 from by simp] at hv1 hv2
  subst hv1 hv2
  have hT := two_start hE (by omega) (.cells #[.slice ra1 n0 rc1, .slice ra2 n0 rc2] 27)
  have hQ : Blk (w1.alloc (.cells #[.slice ra1 n0 rc1, .slice ra2 n0 rc2] 27)) w1.heap.size 27 [.slice ra1 n0 rc1, .slice ra2 n0 rc2] := Blk.new w1 [.slice ra1 n0 rc1, .slice ra2 n0 rc2] 27
  have hB1 : Below W0.heap.size W0 (w1.alloc (.cells #[.slice ra1 n0 rc1, .slice ra2 n0 rc2] 27)) := hE.hb.alloc hE.hb.size _
  have hqs : W0.heap.size ≤ w1.heap.size := hE.hb.size
  obtain ⟨tb1, _, _, tb2, _, _, _, _, rfl, rfl, -⟩ := hT.put (u := 0) (y := 0) (m := n0) (m' := n0) (by simp; omega) (by simp; omega) (row_zeros (by omega)) (row_zeros (by omega)) (by omega) (by omega)
  have hZ : TwoP W0.heap.size w1.heap.size (w1.alloc (.cells #[.slice (some ⟨tb1, 0, none⟩) n0 rc1, .slice (some ⟨tb2, 0, none⟩) n0 rc2] 27)) (.slice (some ⟨tb1, 0, none⟩) n0 rc1) (.slice (some ⟨tb2, 0, none⟩) n0 rc2) (ivT A B n0 (fun c => c / n0) (fun _ _ => 0) (0 * n0)) (ivT A B n0 (fun c => c % n0) (fun _ _ => 0) (0 * n0)) := by
    rw [Nat.zero_mul, ivT_zero HPm.out, ivT_zero HPm.out]; exact hT
  have HT := Lib.hid hZ; have HQ := Lib.hid hQ; have HB1 := Lib.hid hB1
  have hqV : w1.heap.size < (w1.alloc (.cells #[.slice (some ⟨tb1, 0, none⟩) n0 rc1, .slice (some ⟨tb2, 0, none⟩) n0 rc2] 27)).heap.size := by simp
  clear hT hZ hQ hB1 hE cA0 cB0
  go_wp2
  obtain ⟨V, hV⟩ : ∃ V, (w1.alloc (.cells #[.slice (some ⟨tb1, 0, none⟩) n0 rc1, .slice (some ⟨tb2, 0, none⟩) n0 rc2] 27)) = V := ⟨_, rfl⟩
  rw [hV] at HT HQ HB1 hqV ⊢
  clear hV
  generalize w1.heap.size = q at HT HQ hqs hqV ⊢
  have HFV := Lib.hid (HF0.out.under HB1.out); have HGV := Lib.hid (HF2.out.under HB1.out)
  go_loopw [5, 6, 7, 8] (fun i _ _ _ wr => ∃ x : Nat, x ≤ n0 ∧ i = .int .i64 x ∧ Hid (Below W0.heap.size W0 wr) ∧ Hid (Blk wr w.heap.size 27 [.slice (some ⟨b0, o0, none⟩) n0 c0, .slice (some ⟨b0s, o0s, none⟩) n0 c0s]) ∧ Hid (Blk wr (w.heap.size + 1) 27 [.slice none 0 0, .slice none 0 0]) ∧ Hid (Blk wr q 27 [.slice (some ⟨tb1, 0, none⟩) n0 rc1, .slice (some ⟨tb2, 0, none⟩) n0 rc2]) ∧
    Hid (TwoP W0.heap.size q wr (.slice (some ⟨tb1, 0, none⟩) n0 rc1) (.slice (some ⟨tb2, 0, none⟩) n0 rc2) (ivT A B n0 (fun c => c / n0) (fun _ _ => 0) (x * n0)) (ivT A B n0 (fun c => c % n0) (fun _ _ => 0) (x * n0)))) (fun i _ _ _ _ => n0 - (intOf i).toNat)
  case atStart => exact ⟨0, Nat.zero_le _, rfl, HB1, HFV, HGV, HQ, HT⟩
  case round =>
    clear HFV HGV HQ HB1 HT hqV
    obtain ⟨x, hx, rfl, HB, HG, HR, HF, HT⟩ := hrel
    obtain ⟨wo, rfl⟩ : ∃ wo : World, wo = wr := ⟨_, rfl⟩
    by_cases hlt : x < n0
    · go_wp2
      go_loopw [6, 7, 8] (fun j _ _ wi => ∃ y : Nat, y ≤ n0 ∧ j = .int .i64 y ∧ Hid (Below W0.heap.size W0 wi) ∧ Hid (Blk wi w.heap.size 27 [.slice (some ⟨b0, o0, none⟩) n0 c0, .slice (some ⟨b0s, o0s, none⟩) n0 c0s]) ∧ Hid (Blk wi (w.heap.size + 1) 27 [.slice none 0 0, .slice none 0 0]) ∧ Hid (Blk wi q 27 [.slice (some ⟨tb1, 0, none⟩) n0 rc1, .slice (some ⟨tb2, 0, none⟩) n0 rc2]) ∧
        Hid (TwoP W0.heap.size q wi (.slice (some ⟨tb1, 0, none⟩) n0 rc1) (.slice (some ⟨tb2, 0, none⟩) n0 rc2) (ivT A B n0 (fun c => c / n0) (fun _ _ => 0) (x * n0 + y)) (ivT A B n0 (fun c => c % n0) (fun _ _ => 0) (x * n0 + y)))) (fun j _ _ _ => n0 - (intOf j).toNat)
      case atStart => exact ⟨0, Nat.zero_le _, rfl, HB, HG, HR, HF, HT⟩
      case round =>
        clear HB HG HR HF HT
        obtain ⟨y, hy, rfl, HB, HG, HR, HF, HT⟩ := hrel
        obtain ⟨wi, rfl⟩ : ∃ wi : World, wi = wr := ⟨_, rfl⟩
        by_cases hlty : y < n0
        · have T := HT0.out.below HB.out
          have T' := HT0s.out.below HB.out
          have va := T.rng x y (by omega) (by omega) (by omega) (by omega)
          have vb := T'.rng x y (by omega) (by omega) (by omega) (by omega)
          have HVa := Lib.hid va; have HVb := Lib.hid vb
          obtain ⟨u, hu⟩ : ∃ u : Nat, val2 A x y = u := ⟨(val2 A x y).toNat, by omega⟩
          obtain ⟨v, hv⟩ : ∃ v : Nat, val2 B x y = v := ⟨(val2 B x y).toNat, by omega⟩
          have e1 := T.row x hlt; have e2 := T'.row x hlt
          have e3 := T.val x y hlt hlty; have e4 := T'.val x y hlt hlty
          rw [hu] at e3; rw [hv] at e4
          have hun : u < n0 := by omega
          have hvn : v < n0 := by omega
          have HU0 := Lib.hid hu; have HV0 := Lib.hid hv
          have HE := Lib.hid (And.intro e2 e4)
          clear hu hv va vb T T' e2 e4
          obtain ⟨c1, c2, -, -⟩ := two_cells HG.out
          obtain ⟨q1, q2, q3, q4⟩ := two_cells HF.out
          obtain ⟨_, g1, r1, _, g2, r2, _, _, E1, E2, -, -, -, p1, p2, -⟩ := HT.out.put (u := u) (y := v) (m := n0) (m' := n0) (by simpa using hun) (by simpa using hun) (ivT_row hun) (ivT_row hun) hvn hvn
          injection E1 with E1; injection E1 with E1; injection E2 with E2; injection E2 with E2; subst E1 E2
          have HP := Lib.hid (And.intro p1 p2)
          go_wp2
          go_quiet (fail)
          rename_i nq
          have hbq : Below wi.heap.size wi (wi.drewN nq) := below_drewN (Below.refl _ _) nq
          generalize wi.drewN nq = wq at hbq ⊢
          clear p1 p2 q1 q2 q3 q4 c1 c2 e1 e3
          have P1 := cell_under hbq HP.out.1; have P2 := cell_under hbq HP.out.2
          obtain ⟨_, g1', r1', _, g2', r2', z1, z2, E1, E2, ⟨m1, m2, m3, m4⟩, ⟨n1, n2, n3, n4⟩, ⟨o1, o2, o3, o4, o5⟩, p1, p2, p3, p4, p5, p6⟩ := (HT.out.under hbq).put (u := u) (y := v) (m := n0) (m' := n0) (by simpa using hun) (by simpa using hun) (ivT_row hun) (ivT_row hun) hvn hvn
          injection E1 with E1; injection E1 with E1; injection E2 with E2; injection E2 with E2; subst E1 E2
          rw [P1] at p1; rw [P2] at p2
          injection p1 with p1; injection p1 with p1; injection p1 with p1; injection p1 with p1
          injection p2 with p2; injection p2 with p2; injection p2 with p2; injection p2 with p2
          subst p1 p2
          have hBq : Below W0.heap.size W0 wq := HB.out.trans (hbq.mono HB.out.size)
          have hB9 : Below W0.heap.size W0 (wq.setCell ⟨g1, v, none⟩ (.int .i64 (x : Int))) := hBq.setCell (p := ⟨g1, v, none⟩) m2 _
          have H6 := Lib.hid p6; have HB9 := Lib.hid hB9
          have hBX := (HT0s.out.below hBq); have hBY := (HT0s.out.below hB9)
          have a1 := hBX.row x hlt; have a2 := hBX.val x y hlt hlty
          have a3 := hBY.row x hlt; have a4 := hBY.val x y hlt hlty
          rw [HV0.out] at a2 a4
          obtain ⟨b1, b2, -, -⟩ := two_cells (HF0.out.under hBq)
          obtain ⟨b3, b4, -, -⟩ := two_cells (HF0.out.under hB9)
          obtain ⟨s1, s2⟩ := p5 x
          have HPk := Lib.hid hbq
          clear hBX hBY P1 P2 hBq hB9 p5 p6 hbq
          go_wp2
          have kz : Keep (fun b => b = g1 ∨ b = g2) wi ((wq.setCell ⟨g1, v, none⟩ (.int .i64 (x : Int))).setCell ⟨g2, v, none⟩ (.int .i64 (y : Int))) := by
            have k0 : Keep (fun b => b = g1 ∨ b = g2) wi wq := (Keep.refl _ wi).under HPk.out
            exact (k0.setCell (p := ⟨g1, v, none⟩) (.inl (.inl rfl)) (.int .i64 (x : Int))).setCell (p := ⟨g2, v, none⟩) (.inl (.inr rfl)) (.int .i64 (y : Int))
          have hT9 : TwoP W0.heap.size q ((wq.setCell ⟨g1, v, none⟩ (.int .i64 (x : Int))).setCell ⟨g2, v, none⟩ (.int .i64 (y : Int))) (.slice (some ⟨tb1, 0, none⟩) n0 rc1) (.slice (some ⟨tb2, 0, none⟩) n0 rc2) (ivT A B n0 (fun c => c / n0) (fun _ _ => 0) (x * n0 + y + 1)) (ivT A B n0 (fun c => c % n0) (fun _ _ => 0) (x * n0 + y + 1)) := by
            have h9 := H6.out x y
            have hcd := code_div (n := n0) (x := (x : Int)) (y := (y : Int)) (by omega) (by omega)
            have va := HVa.out
            have vb := HVb.out
            have e1 := ivT_step HPm.out (fun c => c / n0) (fun _ _ => 0) hlt hlty va.1 va.2 vb.1 vb.2
            have e2 := ivT_step HPm.out (fun c => c % n0) (fun _ _ => 0) hlt hlty va.1 va.2 vb.1 vb.2
            rw [HU0.out, HV0.out] at e1 e2
            simp only [Int.toNat_natCast] at e1 e2
            rw [hcd.1] at e1
            rw [hcd.2] at e2
            rw [← e1, ← e2]
            exact h9
          have hz := HSZ.out
          go_roundw
          case rel =>
            exact ⟨y + 1, by omega, by go_num, Lib.hid (HB9.out.setCell (p := ⟨g2, v, none⟩) m4 _), Lib.hid (HG.out.of_block (kz.block _ HG.out.lt (by omega))), Lib.hid (HR.out.of_block (kz.block _ HR.out.lt (by omega))), Lib.hid (HF.out.of_block (kz.block _ HF.out.lt (by omega))), Lib.hid hT9⟩
          case measure => simp [intOf]; omega
        · obtain rfl : y = n0 := by omega
          go_wp2
          go_roundw
          case rel => exact ⟨x + 1, by omega, by go_num, HB, HG, HR, HF, Lib.hid (by have h := HT.out; rw [show x * y + y = (x + 1) * y from by rw [Nat.succ_mul]] at h; exact h)⟩
          case measure => simp [intOf]; omega
    · obtain rfl : x = n0 := by omega
      obtain ⟨q1, q2, -, -⟩ := two_cells HF.out
      obtain ⟨d1, d2, d3, d4⟩ := two_cells HR.out
      have hz := HSZ.out
      have HPd := HPm
      go_wp2
      have hT := HT.out
      rw [ivA_eq HPd.out, ivB_eq HPd.out] at hT
      obtain ⟨Q1, Q2, k1, k2, o1, o2⟩ := hT
      have kz : Keep (fun b => b = w.heap.size + 1) wo ((wo.setCell ⟨w.heap.size + 1, 0, none⟩ (.slice (some ⟨tb1, 0, none⟩) x rc1)).setCell ⟨w.heap.size + 1, 1, none⟩ (.slice (some ⟨tb2, 0, none⟩) x rc2)) := keep_early _ _ _ _
      have hBz : Below w.heap.size w wo := HW0.out.trans (HB.out.mono HW0.out.size)
      refine bodyPost_ret (v := .agg #[.slice (some ⟨tb1, 0, none⟩) x rc1, .slice (some ⟨tb2, 0, none⟩) x rc2]) (by simp [results, Try.results90, go_sem, d1, d2]) rfl ⟨_, _, rfl, ⟨?_, ?_⟩, hBz.trans (kz.below fun b hb => ⟨by have := hBz.size; omega, fun e => by have e : b = w.heap.size + 1 := e; omega⟩)⟩
      · exact ((o1.keep kz (fun b hb e => by have := (k1 b hb).1; have e : b = w.heap.size + 1 := e; omega)).out).mono (by omega)
      · exact ((o2.keep kz (fun b hb e => by have := (k2 b hb).1; have e : b = w.heap.size + 1 := e; omega)).out).mono (by omega)
theorem c_l02Inverse (v0 u0 : Value) (A B : List (List Int)) (w : World) (hA : Sol w v0 u0 A B) (hs : isSol A B = true) (hp : isPM A B = true) :
    Calls Try.prog 90 #[.agg #[v0, u0]] w (RSolR w (ivA A B A.length) (ivB A B A.length)) := c_l02InverseC v0 u0 A B w hA (isSol_coll hs) hp
end Go.Proofs.Ytkcobfkmeaakoaa

namespace Go.Proofs.Ytkcobfkmeaakoaa
open Go Go.RowKit Go.Shelf

def inRA (A B : List (List Int)) : List (List Int) := if isSol A B then ivA A B A.length else []
def inRB (A B : List (List Int)) : List (List Int) := if isSol A B then ivB A B A.length else []
def inCode (A B : List (List Int)) : Int := if isSol A B then 0 else 1
theorem cut_waysInv {p G : Prop} (k : Hid p → G) (h : p) : G := k (Lib.hid h)

set_option maxRecDepth 100000 in
set_option maxHeartbeats 8000000 in
theorem c_InverseSolution (v0 u0 : Value) (A B : List (List Int)) (w : World) (hA : Sol w v0 u0 A B)  :
    Calls Try.prog 24 #[.agg #[v0, u0]] w (RSolC w (inRA A B) (inRB A B) (inCode A B)) := by
  by_cases hp0 : isSol A B = true
  case neg =>
    have hq0 : isSol A B = false := by simpa using hp0
    have HQ := Lib.hid hq0; clear hp0
    obtain ⟨a0, c0, rfl, _, _⟩ := hA.1.shape
    obtain ⟨a0s, c0s, rfl, _, _⟩ := hA.2.shape
    go_enter Try.func24, Try.ntmps24
    go_wp2_with fail
    obtain ⟨f0, f1, hW0, hsz⟩ := boxes2 w [.slice a0 A.length c0, .slice a0s B.length c0s] [.slice none 0 0, .slice none 0 0] 27 27
    obtain ⟨W0, hW⟩ : ∃ W, ((w.alloc (.cells #[.slice a0 A.length c0, .slice a0s B.length c0s] 27)).alloc (.cells #[.slice none 0 0, .slice none 0 0] 27)) = W := ⟨_, rfl⟩
    rw [hW] at f0 f1 hW0 hsz ⊢
    clear hW hsz
    refine (c_IsSolution _ _ _ _ _ (hA.below hW0)).mono ?_; rintro e g0 ⟨rfl, hbg0⟩
    have hB0 := bb hW0 hbg0
    replace f0 := f0.under hbg0
    obtain ⟨cA0, cB0, -, -⟩ := two_cells f0
    replace f1 := f1.under hbg0
    obtain ⟨cA1, cB1, fA1, fB1⟩ := two_cells f1
    clear hbg0
    have HB := Lib.hid hB0
    clear hB0 hW0
    go_wp2
    refine bodyPost_ret (v := .tuple #[.agg #[.slice none 0 0, .slice none 0 0], .int .i64 1]) (by simp [results, Try.results24, go_sem, cA1, cB1]) rfl ⟨.slice none 0 0, .slice none 0 0, by simp [inRA, inRB, inCode, HQ.out], ?_, ?_⟩
    · have hz : w.heap.size ≤ g0.heap.size := HB.out.size
      rw [show inRA A B = [] from by simp [inRA, inRB, inCode, HQ.out], show inRB A B = [] from by simp [inRA, inRB, inCode, HQ.out]]
      exact OwnSol.nil0 (by first | exact hz | (simp [World.setCell]; exact hz))
    · first | exact HB.out | exact (HB.out.setCell (p := ⟨w.heap.size + 1, 0, none⟩) (by show _ ≤ w.heap.size + 1; omega) _).setCell (p := ⟨w.heap.size + 1, 1, none⟩) (by show _ ≤ w.heap.size + 1; omega) _
  have HP0 := Lib.hid hp0
  obtain ⟨a0, c0, rfl, _, _⟩ := hA.1.shape
  obtain ⟨a0s, c0s, rfl, _, _⟩ := hA.2.shape
  go_enter Try.func24, Try.ntmps24
  go_wp2_with fail
  obtain ⟨f0, f1, hW0, hsz⟩ := boxes2 w [.slice a0 A.length c0, .slice a0s B.length c0s] [.slice none 0 0, .slice none 0 0] 27 27
  obtain ⟨W0, hW⟩ : ∃ W, ((w.alloc (.cells #[.slice a0 A.length c0, .slice a0s B.length c0s] 27)).alloc (.cells #[.slice none 0 0, .slice none 0 0] 27)) = W := ⟨_, rfl⟩
  rw [hW] at f0 f1 hW0 hsz ⊢
  clear hW hsz
  refine (c_IsSolution _ _ _ _ _ (hA.below hW0)).mono ?_; rintro e g0 ⟨rfl, hbg0⟩
  have hB0 := bb hW0 hbg0
  replace f0 := f0.under hbg0
  obtain ⟨cA0, cB0, -, -⟩ := two_cells f0
  replace f1 := f1.under hbg0
  obtain ⟨cA1, cB1, fA1, fB1⟩ := two_cells f1
  clear hbg0
  have hpm := isSol_pm HP0.out
  have HPm := Lib.hid (pmL_perm hpm (isSol_coll HP0.out))
  obtain ⟨q1, q2, q3⟩ := isPM_parts hpm
  obtain ⟨hl1, hl2⟩ := isTab_len q1
  have hrl : ∀ {t : List (List Int)}, isTab t = true → ∀ r ∈ t, r.length ≤ 1048576 := by
    intro t ht r hr
    obtain ⟨j, hj, rfl⟩ := List.getElem_of_mem hr
    have := isTab_row ht (x := j) (by omega) (by omega)
    have := isTab_len ht
    rw [row_nat _ _ hj] at *; omega
  have HRl := Lib.hid (And.intro (hrl q1) (hrl q2)); have HQ1 := Lib.hid q1; have HQ2 := Lib.hid q2; have HQ3 := Lib.hid q3.symm
  have hBl : B.length ≤ 1048576 := by omega
  clear hrl q1 q2 q3 hpm
  go_wp2_with fail
  obtain ⟨W0, rfl⟩ : ∃ W0 : World, W0 = g0 := ⟨_, rfl⟩
  have HRA := Lib.hid (show Rows W0.drew _ A from (hA.1.below hB0).below (Below.refl _ _).drew); have HRB := Lib.hid (show Rows W0.drew _ B from (hA.2.below hB0).below (Below.refl _ _).drew)
  have HS0 := Lib.hid (hA.below hB0)
  have HF0 := Lib.hid f0; have HF1 := Lib.hid f1; have HB0 := Lib.hid hB0
  have HSk : Hid (∀ w' : World, Below W0.drew.heap.size W0.drew w' → w'.cell? ⟨w.heap.size, 0, none⟩ = some (.slice a0 A.length c0) ∧ w'.cell? ⟨w.heap.size, 1, none⟩ = some (.slice a0s B.length c0s)) := Lib.hid (fun w' hb => ⟨(two_cells (f0.drew.under hb)).1, (two_cells (f0.drew.under hb)).2.1⟩)
  have BC0 : Below W0.drew.heap.size W0.drew W0.drew := Below.refl _ _
  have BCd : Below W0.drew.heap.size W0.drew (W0.alloc (.cells #[.slice none 0 0, .slice none 0 0] 27)).drew := (Below.refl W0.drew.heap.size W0.drew).alloc (Nat.le_refl _) (.cells #[.slice none 0 0, .slice none 0 0] 27)
  have hqa := f0.lt; have hqb := f1.lt
  clear f0 f1 hB0 hA hW0 cA0 cB0 cA1 cB1 fA1 fB1
  have zz := HSk.out _ BC0
  have zd := HSk.out _ BCd
  obtain ⟨mz, hm1, hm2⟩ : ∃ z : Nat, z ≤ W0.heap.size ∧ W0.heap.size ≤ z := ⟨_, Nat.le_refl _, Nat.le_refl _⟩
  apply cut_waysInv
  · intro key
    go_region_held3 (fun w' => w'.cell? ⟨w.heap.size, 0, none⟩ = some (.slice a0 A.length c0) ∧ w'.cell? ⟨w.heap.size, 1, none⟩ = some (.slice a0s B.length c0s))
      (first | go_keep | exact HSk.out _ BC0 | exact HSk.out _ BC1 | exact HSk.out _ BC2 | exact HSk.out _ BCd | exact HSk.out _ (BC1.alloc BC1.size _) | exact HSk.out _ (BC2.alloc BC2.size _) | exact HSk.out _ ((BC2.setCell (p := ⟨w1.heap.size, 0, none⟩) BC1.size _).setCell (p := ⟨w1.heap.size, 1, none⟩) BC1.size _) | exact HSk.out _ ((BC2.setCell (p := ⟨W0.heap.size, 0, none⟩) (Nat.le_refl _) _).setCell (p := ⟨W0.heap.size, 1, none⟩) (Nat.le_refl _) _))
      ((first
        | (go_at_call 91; (with_reducible refine (c_cloneTable _ A _ (HRA.out.below (by first | exact Below.refl _ _ | exact BCd)) (by omega) HRl.out.1).mono ?_); rintro e w1 ⟨r1, rfl, ho1, hb1⟩; obtain ⟨ra1, rc1, hv1, -⟩ := ho1.rows.shape; subst hv1; have BC1 : Below W0.drew.heap.size W0.drew w1 := bb (by first | exact BC0 | exact BCd) hb1; try (have HQ : Blk w1 W0.heap.size 27 [.slice none 0 0, .slice none 0 0] := ((Blk.new W0 [.slice none 0 0, .slice none 0 0] 27).drew).under hb1))
        | (go_at_call 91; (with_reducible refine (c_cloneTable _ B _ (HRB.out.below (bb BC1 (by first | exact Below.refl _ _ | exact (Below.refl _ _).alloc (Nat.le_refl _) _))) hBl HRl.out.2).mono ?_); rintro e w2 ⟨r2, rfl, ho2, hb2⟩; obtain ⟨ra2, rc2, hv2, -⟩ := ho2.rows.shape; subst hv2; have BC12 : Below w1.heap.size w1 w2 := bb (by first | exact Below.refl _ _ | exact (Below.refl _ _).alloc (Nat.le_refl _) _) hb2; have BC2 := bb BC1 BC12; first | (have HQz : Blk w2 W0.heap.size 27 [.slice none 0 0, .slice none 0 0] := HQ.under BC12; have hzz := two_cells HQz; obtain ⟨z1, z2, z3, z4⟩ := hzz) | (have HQz : Blk w2 w1.heap.size 27 [.slice none 0 0, .slice none 0 0] := (Blk.new w1 [.slice none 0 0, .slice none 0 0] 27).under hb2; have hzz := two_cells HQz; obtain ⟨z1, z2, z3, z4⟩ := hzz) | skip)))
    all_goals
      have hz1 : W0.heap.size ≤ w1.heap.size := BC1.size
      have hz2 : w1.heap.size ≤ w2.heap.size := BC12.size
      have e0z : W0.drew.heap.size = W0.heap.size := rfl
      have e1z : (W0.alloc (.cells #[.slice none 0 0, .slice none 0 0] 27)).drew.heap.size = W0.heap.size + 1 := by simp
      have e2z : (w1.alloc (.cells #[.slice none 0 0, .slice none 0 0] 27)).heap.size = w1.heap.size + 1 := by simp
      first
        | (obtain ⟨V, hV⟩ : ∃ V, w2.alloc (.cells #[.slice ra1 A.length rc1, .slice ra2 B.length rc2] 27) = V := ⟨_, rfl⟩
           rw [hV]
           have hkk : Keep (fun k => k = w2.heap.size) w2 V := by rw [← hV]; exact keep_late _ _
           have FQ : Blk V (w2.heap.size) 27 [.slice ra1 A.length rc1, .slice ra2 B.length rc2] := by rw [← hV]; exact Blk.new w2 [.slice ra1 A.length rc1, .slice ra2 B.length rc2] 27
           have hsv := hkk.size
           have hTT : TwoIn mz (w2.heap.size) V (.slice ra1 A.length rc1) (.slice ra2 B.length rc2) A B := ⟨_, w1.heap.size, _, w2.heap.size, (by first | omega | (simp; omega)), (by first | omega | (simp; omega)), (by first | omega | (simp; omega)), (by omega), (by omega), (by first | omega | (simp; omega)), (by first | omega | (simp; omega)), (ho1.inn.under BC12).keep hkk (fun x x1 x2 e => by first | omega | (simp at x1; omega)), ho2.inn.keep hkk (fun x x1 x2 e => by first | omega | (simp at x1; omega))⟩
           have hqz : mz ≤ w2.heap.size := by omega
           have BZ : Below W0.drew.heap.size W0.drew V := BC2.trans (hkk.below fun k hk => ⟨by omega, by omega⟩)
           clear hkk hV hsv
           generalize w2.heap.size = q at FQ hqz hTT ⊢)
        | (obtain ⟨V, hV⟩ : ∃ V, (w2.setCell ⟨w1.heap.size, 0, none⟩ (.slice ra1 A.length rc1)).setCell ⟨w1.heap.size, 1, none⟩ (.slice ra2 B.length rc2) = V := ⟨_, rfl⟩
           rw [hV]
           have hkk : Keep (fun k => k = w1.heap.size) w2 V := by rw [← hV]; exact keep_early _ _ _ _
           have FQ : Blk V (w1.heap.size) 27 [.slice ra1 A.length rc1, .slice ra2 B.length rc2] := by rw [← hV]; exact box_early HQz
           have hsv := hkk.size
           have hTT : TwoIn mz (w1.heap.size) V (.slice ra1 A.length rc1) (.slice ra2 B.length rc2) A B := ⟨_, w1.heap.size, _, w2.heap.size, (by first | omega | (simp; omega)), (by first | omega | (simp; omega)), (by first | omega | (simp; omega)), (by omega), (by omega), (by first | omega | (simp; omega)), (by first | omega | (simp; omega)), (ho1.inn.under BC12).keep hkk (fun x x1 x2 e => by first | omega | (simp at x1; omega)), ho2.inn.keep hkk (fun x x1 x2 e => by first | omega | (simp at x1; omega))⟩
           have hqz : mz ≤ w1.heap.size := by omega
           have BZ : Below W0.drew.heap.size W0.drew V := BC2.trans (hkk.below fun k hk => ⟨by omega, by omega⟩)
           clear hkk hV hsv
           generalize w1.heap.size = q at FQ hqz hTT ⊢)
        | (obtain ⟨V, hV⟩ : ∃ V, (w2.setCell ⟨W0.heap.size, 0, none⟩ (.slice ra1 A.length rc1)).setCell ⟨W0.heap.size, 1, none⟩ (.slice ra2 B.length rc2) = V := ⟨_, rfl⟩
           rw [hV]
           have hql := HQ.lt
           have hkk : Keep (fun k => k = W0.heap.size) w2 V := by rw [← hV]; exact keep_early _ _ _ _
           have FQ : Blk V (W0.heap.size) 27 [.slice ra1 A.length rc1, .slice ra2 B.length rc2] := by rw [← hV]; exact box_early HQz
           have hsv := hkk.size
           have hTT : TwoIn mz (W0.heap.size) V (.slice ra1 A.length rc1) (.slice ra2 B.length rc2) A B := ⟨_, w1.heap.size, _, w2.heap.size, (by first | omega | (simp; omega)), (by first | omega | (simp; omega)), (by first | omega | (simp; omega)), (by omega), (by omega), (by first | omega | (simp; omega)), (by first | omega | (simp; omega)), (ho1.inn.under BC12).keep hkk (fun x x1 x2 e => by first | omega | (simp at x1; omega)), ho2.inn.keep hkk (fun x x1 x2 e => by first | omega | (simp at x1; omega))⟩
           have hqz : mz ≤ W0.heap.size := by omega
           have BZ : Below W0.drew.heap.size W0.drew V := BC2.trans (hkk.below fun k hk => ⟨by omega, by omega⟩)
           clear hkk hV hsv
           generalize W0.heap.size = q at FQ hqz hTT ⊢)
      clear ho1 ho2
      rename_i hHz
      clear hHz
      have pk := And.intro FQ (And.intro hTT (And.intro hqz BZ))
      clear FQ hTT hqz BZ
      revert pk
      revert q
      revert V
      revert rc2
      revert ra2
      revert rc1
      revert ra1
      exact key.out
  rintro ra1 rc1 ra2 rc2 V q ⟨FQ, hTT, hqz, BZ⟩
  have hsz : W0.heap.size ≤ V.heap.size := BZ.size
  have BW : Below W0.heap.size W0 V := (show Below W0.heap.size W0 W0.drew from (Below.refl _ _).drew).trans BZ
  have HF0V := Lib.hid (HF0.out.drew.under BZ); have HF1V := Lib.hid (HF1.out.drew.under BZ)
  have HFQ := Lib.hid FQ; have HTT := Lib.hid hTT; have HBW := Lib.hid BW
  have hqv := FQ.lt
  obtain ⟨cA0, cB0, -, -⟩ := two_cells HF0V.out
  clear FQ hTT BW BZ zz zd BC0 BCd HSk HRA HRB
  go_wp2
  have hbl : B.length = A.length := HQ3.out
  obtain ⟨tb1, _, _, tb2, _, _, _, _, rfl, rfl, -⟩ := HTT.out.put (u := 0) (y := 0) (m := A.length) (m' := A.length) (by omega) (by omega) (isTab_row HQ1.out (x := ((0 : Nat) : Int)) (by omega) (by omega)) ((isTab_row HQ2.out (x := ((0 : Nat) : Int)) (by omega) (by omega)).trans hbl) (by omega) (by omega)
  have h00 : Hid (TwoIn mz q V (.slice (some ⟨tb1, 0, none⟩) A.length rc1) (.slice (some ⟨tb2, 0, none⟩) B.length rc2) (ivT A B A.length (fun c => c / A.length) (val2 A) (0 * A.length)) (ivT A B A.length (fun c => c % A.length) (val2 B) (0 * A.length))) := Lib.hid (by
    have e2 : tabOf A.length (val2 B) = B := by rw [← HQ3.out]; exact tabOf_val2 HQ2.out
    rw [Nat.zero_mul, ivT_zero HPm.out, ivT_zero HPm.out, tabOf_val2 HQ1.out, e2]; exact HTT.out)
  clear hbl
  go_loopw [24, 5, 6, 7, 8, 9] (fun i _ _ _ _ _ wr => ∃ x : Nat, x ≤ A.length ∧ i = .int .i64 x ∧ Hid (Below W0.heap.size W0 wr) ∧ Hid (Blk wr w.heap.size 27 [.slice a0 A.length c0, .slice a0s B.length c0s]) ∧ Hid (Blk wr (w.heap.size + 1) 27 [.slice none 0 0, .slice none 0 0]) ∧ Hid (Blk wr q 27 [.slice (some ⟨tb1, 0, none⟩) A.length rc1, .slice (some ⟨tb2, 0, none⟩) B.length rc2]) ∧ Hid (TwoIn mz q wr (.slice (some ⟨tb1, 0, none⟩) A.length rc1) (.slice (some ⟨tb2, 0, none⟩) B.length rc2) (ivT A B A.length (fun c => c / A.length) (val2 A) (x * A.length)) (ivT A B A.length (fun c => c % A.length) (val2 B) (x * A.length)))) (fun i _ _ _ _ _ _ => A.length - (intOf i).toNat)
  case atStart => exact ⟨0, Nat.zero_le _, rfl, HBW, HF0V, HF1V, HFQ, h00⟩
  case round =>
    clear h00 HF0V HF1V HFQ HTT HBW cA0 cB0
    obtain ⟨x, hx, rfl, HB, HG, HR, HF, HT⟩ := hrel
    obtain ⟨wo, rfl⟩ : ∃ wo : World, wo = wr := ⟨_, rfl⟩
    by_cases hlt : x < A.length
    · have hbl : B.length = A.length := HQ3.out
      obtain ⟨b, o, xa, xc, hpa, hcell0, hu⟩ := HS0.out.1.getS x hlt
      have hcell := cell_under HB.out hcell0
      subst hpa
      obtain ⟨b', o', ya, yc, hpa', hcell0', hu'⟩ := HS0.out.2.getS x (by omega)
      subst hpa'
      have hrl := isTab_row HQ1.out (x := x) (by omega) (by omega)
      have hrl' := isTab_row HQ2.out (x := x) (by omega) (by omega)
      obtain ⟨rb, ro, rfl, -⟩ := hu.get 0 (by omega)
      obtain ⟨rb', ro', rfl, -⟩ := hu'.get 0 (by omega)
      have HU := Lib.hid hu; have HU' := Lib.hid hu'; have HC' := Lib.hid hcell0'; have HL := Lib.hid (And.intro hrl hrl')
      clear hu hu' hcell0 hcell0' hrl' hbl
      go_wp2
      go_loopw [31, 7, 8, 9] (fun j _ _ _ wi => ∃ y : Nat, y ≤ A.length ∧ j = .int .i64 y ∧ Hid (Below W0.heap.size W0 wi) ∧ Hid (Blk wi w.heap.size 27 [.slice (some ⟨b, o, none⟩) A.length c0, .slice (some ⟨b', o', none⟩) B.length c0s]) ∧ Hid (Blk wi (w.heap.size + 1) 27 [.slice none 0 0, .slice none 0 0]) ∧ Hid (Blk wi q 27 [.slice (some ⟨tb1, 0, none⟩) A.length rc1, .slice (some ⟨tb2, 0, none⟩) B.length rc2]) ∧ Hid (TwoIn mz q wi (.slice (some ⟨tb1, 0, none⟩) A.length rc1) (.slice (some ⟨tb2, 0, none⟩) B.length rc2) (ivT A B A.length (fun c => c / A.length) (val2 A) (x * A.length + y)) (ivT A B A.length (fun c => c % A.length) (val2 B) (x * A.length + y)))) (fun j _ _ _ _ => A.length - (intOf j).toNat)
      case atStart => exact ⟨0, Nat.zero_le _, rfl, HB, HG, HR, HF, HT⟩
      case round =>
        clear HB HG HR HF HT
        obtain ⟨y, hy, rfl, HB, HG, HR, HF, HT⟩ := hrel
        obtain ⟨wo2, rfl⟩ : ∃ wo2 : World, wo2 = wr := ⟨_, rfl⟩
        by_cases hlty : y < A.length
        · have hbl : B.length = A.length := HQ3.out
          have hrl := HL.out.1
          have hrl' := HL.out.2
          obtain ⟨_, _, e1, hc1'⟩ := (HU.out.below HB.out).get y (by omega)
          injection e1 with e1; injection e1 with e1 e2; subst e1 e2
          obtain ⟨_, _, e1, hc2'⟩ := (HU'.out.below HB.out).get y (by omega)
          injection e1 with e1; injection e1 with e1 e2; subst e1 e2
          have hc3 := cell_under HB.out HC'.out
          have va := val2_lt HQ1.out (x := x) (y := y) (by omega) (by omega) (by omega) (by omega)
          have vb := val2_lt HQ2.out (x := x) (y := y) (by omega) (by omega) (by omega) (by omega)
          have HVa := Lib.hid va; have HVb := Lib.hid vb
          obtain ⟨u, hu⟩ : ∃ u : Nat, val2 A x y = u := ⟨(val2 A x y).toNat, by omega⟩
          obtain ⟨v, hv⟩ : ∃ v : Nat, val2 B x y = v := ⟨(val2 B x y).toNat, by omega⟩
          have hc1 : wo2.cell? ⟨rb, ro + y, none⟩ = some (.int .i64 (u : Int)) := by rw [← hu]; exact hc1'
          have hc2 : wo2.cell? ⟨rb', ro' + y, none⟩ = some (.int .i64 (v : Int)) := by rw [← hv]; exact hc2'
          have hun : u < A.length := by omega
          have hvn : v < A.length := by omega
          have HU0 := Lib.hid hu; have HV0 := Lib.hid hv
          have hlyb : (y : Int) < B.length := by omega
          have hlyc : (y : Int) < (row B (x : Int)).length := by omega
          clear hu hv va vb hrl hrl' hbl hc1' hc2'
          have hlb : (x : Int) < B.length := by rw [HQ3.out]; omega
          have hub : u < B.length := by rw [HQ3.out]; omega
          obtain ⟨c1, c2, -, -⟩ := two_cells HG.out
          have hTd := HT.out.under (Below.refl wo2.heap.size wo2).drew
          have hQd := HF.out.under (Below.refl wo2.heap.size wo2).drew
          obtain ⟨_, g1, r1, _, g2, r2, z1, z2, e1, e2, ⟨m1, m2, m3, m4⟩, ⟨n1, n2, n3, n4⟩, ⟨o1, o2, o3, o4, o5⟩, p1, p2, p3, p4, p5, p6, p7, p8⟩ := hTd.put (u := u) (y := v) (m := A.length) (m' := A.length) (by simpa using hun) (by simpa using hun) (ivT_row hun) (ivT_row hun) hvn hvn
          injection e1 with e1; injection e1 with e1; injection e2 with e2; injection e2 with e2; subst e1 e2
          clear hTd
          obtain ⟨q1, q2, q3, q4⟩ := two_cells hQd
          go_wp2
          have hs1 : (wo2.drew.setCell ⟨g1, v, none⟩ (.int .i64 (x : Int))).cell? ⟨g2, v, none⟩ = some z2 ∧ (wo2.drew.setCell ⟨g1, v, none⟩ (.int .i64 (x : Int))).frozen? ⟨g2, v, none⟩ = false := by
            have e : (wo2.drew.setCell ⟨g1, v, none⟩ (.int .i64 (x : Int))).heap[g2]? = wo2.drew.heap[g2]? := ((Keep.refl (fun x => x = g1) wo2.drew).setCell (p := ⟨g1, v, none⟩) (.inl rfl) _).block g2 (cell_lt p5) (by omega)
            exact ⟨(World.cell?_of_block e).trans p5, (World.frozen?_of_block e).trans p6⟩
          have hs2 : (wo2.drew.setCell ⟨g2, v, none⟩ (.int .i64 (y : Int))).cell? ⟨g1, v, none⟩ = some z1 ∧ (wo2.drew.setCell ⟨g2, v, none⟩ (.int .i64 (y : Int))).frozen? ⟨g1, v, none⟩ = false := by
            have e : (wo2.drew.setCell ⟨g2, v, none⟩ (.int .i64 (y : Int))).heap[g1]? = wo2.drew.heap[g1]? := ((Keep.refl (fun x => x = g2) wo2.drew).setCell (p := ⟨g2, v, none⟩) (.inl rfl) _).block g1 (cell_lt p3) (by omega)
            exact ⟨(World.cell?_of_block e).trans p3, (World.frozen?_of_block e).trans p4⟩
          obtain ⟨s1, s2⟩ := hs1
          have s3 : (wo2.setCell ⟨g1, v, none⟩ (.int .i64 (x : Int))).cell? ⟨g2, v, none⟩ = some z2 := s1
          have s4 : (wo2.setCell ⟨g1, v, none⟩ (.int .i64 (x : Int))).frozen? ⟨g2, v, none⟩ = false := s2
          clear hs2
          have HK : Hid (∀ w' : World, Keep (fun b => b = g1 ∨ b = g2) wo2.drew w' → w'.cell? ⟨q, 0, none⟩ = some (.slice (some ⟨tb1, 0, none⟩) A.length rc1) ∧ w'.cell? ⟨q, 1, none⟩ = some (.slice (some ⟨tb2, 0, none⟩) B.length rc2) ∧ w'.cell? ⟨tb1, u, none⟩ = some (.slice (some ⟨g1, 0, none⟩) A.length r1) ∧ w'.cell? ⟨tb2, u, none⟩ = some (.slice (some ⟨g2, 0, none⟩) A.length r2)) := Lib.hid (fun w' k =>
            ⟨(World.cell?_of_block (k.block q (cell_lt q1) (by omega))).trans q1, (World.cell?_of_block (k.block q (cell_lt q1) (by omega))).trans q2, (World.cell?_of_block (k.block tb1 (cell_lt p1) (by omega))).trans p1, (World.cell?_of_block (k.block tb2 (cell_lt p2) (by omega))).trans p2⟩)
          have K0 := Keep.refl (fun b => b = g1 ∨ b = g2) wo2.drew
          have o5s := o5.symm
          have zz := HK.out _ K0
          have P7 := Lib.hid p7; have P8 := Lib.hid p8
          clear p7 p8
          go_region_held3 (fun w' => w'.cell? ⟨q, 0, none⟩ = some (.slice (some ⟨tb1, 0, none⟩) A.length rc1) ∧ w'.cell? ⟨q, 1, none⟩ = some (.slice (some ⟨tb2, 0, none⟩) B.length rc2) ∧ w'.cell? ⟨tb1, u, none⟩ = some (.slice (some ⟨g1, 0, none⟩) A.length r1) ∧ w'.cell? ⟨tb2, u, none⟩ = some (.slice (some ⟨g2, 0, none⟩) A.length r2))
            (first | exact HK.out _ K0 | exact HK.out _ (K0.setCell (.inl (.inl rfl)) _) | exact HK.out _ (K0.setCell (.inl (.inr rfl)) _) | exact HK.out _ ((K0.setCell (.inl (.inl rfl)) _).setCell (.inl (.inr rfl)) _) | exact HK.out _ ((K0.setCell (.inl (.inr rfl)) _).setCell (.inl (.inl rfl)) _)) (fail)
          rename_i hHz
          clear hHz
          clear zz
          have kz : Keep (fun b => b = g1 ∨ b = g2) wo2 ((wo2.setCell ⟨g1, v, none⟩ (.int .i64 (x : Int))).setCell ⟨g2, v, none⟩ (.int .i64 (y : Int))).drew := (((Keep.refl (fun b => b = g1 ∨ b = g2) wo2).setCell (p := ⟨g1, v, none⟩) (.inl (.inl rfl)) (.int .i64 (x : Int))).setCell (p := ⟨g2, v, none⟩) (.inl (.inr rfl)) (.int .i64 (y : Int))).drew
          have hT9 : TwoIn mz q ((wo2.setCell ⟨g1, v, none⟩ (.int .i64 (x : Int))).setCell ⟨g2, v, none⟩ (.int .i64 (y : Int))).drew (.slice (some ⟨tb1, 0, none⟩) A.length rc1) (.slice (some ⟨tb2, 0, none⟩) B.length rc2) (ivT A B A.length (fun c => c / A.length) (val2 A) (x * A.length + y + 1)) (ivT A B A.length (fun c => c % A.length) (val2 B) (x * A.length + y + 1)) := by
            have h9 := P7.out x y
            have hcd := code_div (n := A.length) (x := (x : Int)) (y := (y : Int)) (by omega) (by omega)
            have va := HVa.out
            have vb := HVb.out
            have e1 := ivT_step HPm.out (fun c => c / A.length) (val2 A) hlt hlty va.1 va.2 vb.1 (by have := HQ3.out; omega)
            have e2 := ivT_step HPm.out (fun c => c % A.length) (val2 B) hlt hlty va.1 va.2 vb.1 (by have := HQ3.out; omega)
            rw [HU0.out, HV0.out] at e1 e2
            simp only [Int.toNat_natCast] at e1 e2
            rw [hcd.1] at e1
            rw [hcd.2] at e2
            rw [← e1, ← e2]
            exact h9
          have hB9 : Below W0.heap.size W0 ((wo2.setCell ⟨g1, v, none⟩ (.int .i64 (x : Int))).setCell ⟨g2, v, none⟩ (.int .i64 (y : Int))).drew := ((HB.out.setCell (p := ⟨g1, v, none⟩) (by show _ ≤ g1; omega) _).setCell (p := ⟨g2, v, none⟩) (by show _ ≤ g2; omega) _).drew
          have H9 := Lib.hid (And.intro hT9 (And.intro hB9 kz))
          clear hT9 hB9 kz s1 s2 s3 s4 p1 p2 p3 p4 p5 p6 q1 q2 q3 q4 c1 c2 K0 hQd
          go_wp2
          go_roundw
          case rel =>
            exact ⟨y + 1, by omega, by go_num, Lib.hid H9.out.2.1, Lib.hid (HG.out.of_block (H9.out.2.2.block _ HG.out.lt (by omega))), Lib.hid (HR.out.of_block (H9.out.2.2.block _ HR.out.lt (by omega))), Lib.hid (HF.out.of_block (H9.out.2.2.block _ HF.out.lt (by omega))), Lib.hid H9.out.1⟩
          case measure => simp [intOf]; omega
        · obtain rfl : y = A.length := by omega
          go_wp2
          go_roundw
          case rel => exact ⟨x + 1, by omega, by go_num, HB, HG, HR, HF, Lib.hid (by have h := HT.out; rw [show x * A.length + A.length = (x + 1) * A.length from by rw [Nat.succ_mul]] at h; exact h)⟩
          case measure => simp [intOf]; omega
    · obtain rfl : x = A.length := by omega
      obtain ⟨c1, c2, -, -⟩ := two_cells HF.out
      obtain ⟨d1, d2, d3, d4⟩ := two_cells HR.out
      go_wp2
      have hT := HT.out
      rw [ivA_eq HPm.out, ivB_eq HPm.out] at hT
      have hS : OwnSol mz wo.heap.size wo (.slice (some ⟨tb1, 0, none⟩) A.length rc1) (.slice (some ⟨tb2, 0, none⟩) B.length rc2) (ivA A B A.length) (ivB A B A.length) := by
        obtain ⟨l1, h1, l2, h2, a1, a2, a3, a4, a5, _, _, o1, o2⟩ := hT
        exact ⟨l1, h1, l2, h2, a1, a4, a2, a5, .inl a3, o1, o2⟩
      obtain ⟨hA, hB⟩ := stored (q := w.heap.size + 1) (bb HB0.out HB.out) hS (by omega) (by omega)
      refine bodyPost_ret (v := .tuple #[.agg #[.slice (some ⟨tb1, 0, none⟩) A.length rc1, .slice (some ⟨tb2, 0, none⟩) B.length rc2], .int .i64 0]) (by simp [results, Try.results24, go_sem, d1, d2]) rfl ⟨_, _, by simp [inCode, HP0.out]; exact ⟨rfl, rfl⟩, by simpa [inRA, inRB, HP0.out] using hA, hB⟩

set_option maxRecDepth 100000 in
set_option maxHeartbeats 2000000 in
theorem c_specInverseSolution (v0 u0 : Value) (A B : List (List Int)) (w : World) (hA : Sol w v0 u0 A B)  :
    Calls Try.prog 23 #[.agg #[v0, u0]] w (RSolRC w (inRA A B) (inRB A B) (inCode A B)) := by
  by_cases hp0 : isSol A B = true
  case neg =>
    have hq0 : isSol A B = false := by simpa using hp0
    have HQ := Lib.hid hq0; clear hp0
    obtain ⟨a0, c0, rfl, _, _⟩ := hA.1.shape
    obtain ⟨a0s, c0s, rfl, _, _⟩ := hA.2.shape
    go_enter Try.func23, Try.ntmps23
    go_wp2_with fail
    obtain ⟨f0, f1, hW0, hsz⟩ := boxes2 w [.slice a0 A.length c0, .slice a0s B.length c0s] [.slice none 0 0, .slice none 0 0] 27 27
    obtain ⟨W0, hW⟩ : ∃ W, ((w.alloc (.cells #[.slice a0 A.length c0, .slice a0s B.length c0s] 27)).alloc (.cells #[.slice none 0 0, .slice none 0 0] 27)) = W := ⟨_, rfl⟩
    rw [hW] at f0 f1 hW0 hsz ⊢
    clear hW hsz
    refine (c_l02Is _ _ _ _ _ (hA.below hW0)).mono ?_; rintro e g0 ⟨rfl, hbg0⟩
    have hB0 := bb hW0 hbg0
    replace f0 := f0.under hbg0
    obtain ⟨cA0, cB0, -, -⟩ := two_cells f0
    replace f1 := f1.under hbg0
    obtain ⟨cA1, cB1, fA1, fB1⟩ := two_cells f1
    clear hbg0
    have HB := Lib.hid hB0
    clear hB0 hW0
    go_wp2
    refine bodyPost_ret (v := .tuple #[.agg #[.slice none 0 0, .slice none 0 0], .int .i64 1]) (by simp [results, Try.results23, go_sem, cA1, cB1]) rfl ⟨.slice none 0 0, .slice none 0 0, by simp [inRA, inRB, inCode, HQ.out], ?_, ?_⟩
    · exact ⟨_, rfl, ⟨by simpa [inRA, inRB, inCode, HQ.out] using (OwnRowsIn.nil0 0 0 _).rows, by simpa [inRA, inRB, inCode, HQ.out] using (OwnRowsIn.nil0 0 0 _).rows⟩, Nat.le_refl _, Below.refl _ _⟩
    · first | exact HB.out | exact (HB.out.setCell (p := ⟨w.heap.size + 1, 0, none⟩) (by show _ ≤ w.heap.size + 1; omega) _).setCell (p := ⟨w.heap.size + 1, 1, none⟩) (by show _ ≤ w.heap.size + 1; omega) _
  have HP0 := Lib.hid hp0
  obtain ⟨a0, c0, rfl, _, _⟩ := hA.1.shape
  obtain ⟨a0s, c0s, rfl, _, _⟩ := hA.2.shape
  go_enter Try.func23, Try.ntmps23
  go_wp2_with fail
  obtain ⟨f0, f1, hW0, hsz⟩ := boxes2 w [.slice a0 A.length c0, .slice a0s B.length c0s] [.slice none 0 0, .slice none 0 0] 27 27
  obtain ⟨W0, hW⟩ : ∃ W, ((w.alloc (.cells #[.slice a0 A.length c0, .slice a0s B.length c0s] 27)).alloc (.cells #[.slice none 0 0, .slice none 0 0] 27)) = W := ⟨_, rfl⟩
  rw [hW] at f0 f1 hW0 hsz ⊢
  clear hW hsz
  refine (c_l02Is _ _ _ _ _ (hA.below hW0)).mono ?_; rintro e g0 ⟨rfl, hbg0⟩
  have hB0 := bb hW0 hbg0
  replace f0 := f0.under hbg0
  obtain ⟨cA0, cB0, -, -⟩ := two_cells f0
  replace f1 := f1.under hbg0
  obtain ⟨cA1, cB1, fA1, fB1⟩ := two_cells f1
  clear hbg0
  have HSo := Lib.hid (hA.below hB0); have HBW := Lib.hid hB0; have HF1 := Lib.hid f1
  clear hA hB0 hW0
  go_wp2_with fail
  refine (c_l02Inverse _ _ A B _ HSo.out HP0.out (isSol_pm HP0.out)).mono ?_; rintro e wz ⟨s1, s2, rfl, hs, hbz⟩
  obtain ⟨sa1, sl1, sc1, rfl⟩ := hs.1.any
  obtain ⟨sa2, sl2, sc2, rfl⟩ := hs.2.any
  clear cA0 cB0 cA1 cB1 fA1 fB1 f0 f1
  obtain ⟨z0, z1, z2, z3⟩ := two_cells (HF1.out.under hbz)
  have HLo := Lib.hid HF1.out.lt; have HS := Lib.hid hs; have HBz := Lib.hid (bb HBW.out hbz); clear hs hbz
  go_wp2
  obtain ⟨hA, hB⟩ := storedR (q := w.heap.size + 1) HBz.out HS.out (by omega) HLo.out
  refine bodyPost_ret (v := .tuple #[.agg #[.slice sa1 sl1 sc1, .slice sa2 sl2 sc2], .int .i64 0]) (by simp [results, Try.results23, go_sem, z0, z1]) rfl ⟨_, _, by simp [inCode, HP0.out]; exact ⟨rfl, rfl⟩, by simpa [inRA, inRB, HP0.out] using hA, hB⟩

theorem in_total (A B : List (List Int)) : total (inRA A B) ≤ 144 ∧ total (inRB A B) ≤ 144 := by
  unfold inRA inRB
  split
  · rename_i h
    obtain ⟨q1, q2, _⟩ := isPM_parts (isSol_pm h)
    have l1 := isTab_len q1
    have h1 := total_le _ (tab_rows (n := A.length) (g := fun u v => nth (invL (pmL A B A.length)) (u * A.length + v) / A.length) l1.2)
    have h2 := total_le _ (tab_rows (n := A.length) (g := fun u v => nth (invL (pmL A B A.length)) (u * A.length + v) % A.length) l1.2)
    rw [tabOf_length] at h1 h2
    unfold ivA ivB
    omega
  · simp [total]
theorem cut_waysInverseSolution {p G : Prop} (k : Hid p → G) (h : p) : G := k (Lib.hid h)
set_option maxHeartbeats 16000000 in
theorem law_InverseSolution (v0 u0 : Value) (x0 y0 : List (List Int)) (w : World) (hr0 : Rows w v0 x0) (hr0' : Rows w u0 y0) :
    Calls Try.prog 4 #[.agg #[v0, u0]] w (RVal w (.bool true)) := by
  obtain ⟨a0, c0, rfl, hc0, hm0⟩ := hr0.shape
  obtain ⟨a0s, c0s, rfl, hc0s, hm0s⟩ := hr0'.shape
  have hx0 : Sol w (.slice a0 x0.length c0) (.slice a0s y0.length c0s) x0 y0 := ⟨hr0, hr0'⟩
  clear hr0 hr0'
  go_enter Try.func4, Try.ntmps4
  go_wp2_with fail
  obtain ⟨bx0, BW, hsz0⟩ := boxes1 w [.slice a0 x0.length c0, .slice a0s y0.length c0s] 24
  obtain ⟨W0, hW0⟩ : ∃ W, (w.alloc (.cells #[.slice a0 x0.length c0, .slice a0s y0.length c0s] 24)) = W := ⟨_, rfl⟩
  rw [hW0] at bx0 BW hsz0 ⊢
  have hs0 : w.heap.size + 1 ≤ W0.heap.size := by omega
  clear hW0 hsz0
  refine (c_szSolution _ _ _ _ _ _ (hx0.below BW) (by omega) (by omega)).mono ?_; rintro e w1 ⟨rfl, hb1⟩
  have hs1 := hb1.size
  replace BW := bb BW hb1
  replace bx0 := bx0.under hb1
  obtain ⟨cA0, cB0, -, -⟩ := two_cells bx0
  clear hb1
  by_cases hg0 : leftS x0 y0 (1048576) < 0
  case pos =>
    have HB := Lib.hid BW; clear BW
    go_wp2
    go_ret
    exact ⟨rfl, HB.out⟩
  have hf0 := leftS_fits (left := 1048576) (by omega) (by omega) hg0
  have Hf0 := Lib.hid hf0
  clear hf0
  have hf0 : (x0.length ≤ 1048576 ∧ total x0 ≤ 1048576) ∧ (y0.length ≤ 1048576 ∧ total y0 ≤ 1048576) ∧ 0 ≤ leftS x0 y0 (1048576) ∧ leftS x0 y0 (1048576) ≤ 1048576 := ⟨⟨Hf0.out.1.1, Hf0.out.1.2.2⟩, ⟨Hf0.out.2.1.1, Hf0.out.2.1.2.2⟩, Hf0.out.2.2⟩
  have hB0 : total (inRA x0 y0) + total (inRB x0 y0) ≤ 1152921504606846976 := by have := in_total x0 y0; omega
  obtain ⟨RA0, hRA0⟩ : ∃ z, z = inRA x0 y0 := ⟨_, rfl⟩
  obtain ⟨RB0, hRB0⟩ : ∃ z, z = inRB x0 y0 := ⟨_, rfl⟩
  obtain ⟨R1, hR1⟩ : ∃ z, z = inCode x0 y0 := ⟨_, rfl⟩
  rw [← hRA0, ← hRB0] at hB0
  have HRA0 := Lib.hid hRA0
  clear hRA0
  have HRB0 := Lib.hid hRB0
  clear hRB0
  have HR1 := Lib.hid hR1
  clear hR1
  have hd0 : decide (RA0 = RA0 ∧ RB0 = RB0) = true := by simp
  have hk1 : (R1 != R1) = false := by simp
  have hda0 : decide (x0 = x0 ∧ y0 = y0) = true := by simp
  have hq0 : ((1 + (total RA0 : Int) + (total RB0 : Int)) != (1 + (total RA0 : Int) + (total RB0 : Int))) = false := by simp
  go_wp2_with fail
  refine (c_toSolution _ _ _ _ _ (hx0.below BW) hf0.1.1 Hf0.out.1.2.1 hf0.2.1.1 Hf0.out.2.1.2.1).mono ?_; rintro e w2 ⟨t11, t12, rfl, ot1, hb2⟩
  have hs2 := hb2.size
  replace BW := bb BW hb2
  replace bx0 := bx0.under hb2
  clear cA0 cB0
  obtain ⟨cA0, cB0, -, -⟩ := two_cells bx0
  clear hb2
  go_wp2_with fail
  refine (c_specInverseSolution _ _ _ _ _ (ot1.sol)).mono ?_
  rw [← HRA0.out, ← HRB0.out, ← HR1.out]
  rintro e w3 ⟨s01, s02, rfl, os0, hb3⟩
  have hs3 := hb3.size
  replace ot1 := ot1.under hb3
  replace BW := bb BW hb3
  replace bx0 := bx0.under hb3
  clear cA0 cB0
  obtain ⟨cA0, cB0, -, -⟩ := two_cells bx0
  clear ot1
  have hS := os0.sol
  clear os0
  obtain ⟨sas0, scs0, hvs0, _, _⟩ := hS.1.shape
  subst hvs0
  obtain ⟨sbs0, sds0, hvs0, _, _⟩ := hS.2.shape
  subst hvs0
  have BS : Below w3.heap.size w3 w3 := Below.refl _ _
  clear hb3
  obtain ⟨cA0z, cB0z, -, -⟩ := two_cells (bx0.alloc (.cells #[.slice sas0 RA0.length scs0, .slice sbs0 RB0.length sds0] 27))
  go_wp2_with fail
  clear cA0z cB0z
  obtain ⟨bxs0, hb4, hz4⟩ := boxes1 w3 [.slice sas0 RA0.length scs0, .slice sbs0 RB0.length sds0] 27
  obtain ⟨w4, hW4⟩ : ∃ W, w3.alloc (.cells #[.slice sas0 RA0.length scs0, .slice sbs0 RB0.length sds0] 27) = W := ⟨_, rfl⟩
  rw [hW4] at bxs0 hb4 hz4 ⊢
  have hs4 : w3.heap.size + 1 ≤ w4.heap.size := by omega
  clear hW4 hz4
  replace BW := bb BW hb4
  replace BS := bb BS hb4
  replace bx0 := bx0.under hb4
  clear cA0 cB0
  obtain ⟨cA0, cB0, -, -⟩ := two_cells bx0
  obtain ⟨cAs0, cBs0, -, -⟩ := two_cells bxs0
  clear hb4
  refine (c_toSolution _ _ _ _ _ (hx0.below BW) hf0.1.1 Hf0.out.1.2.1 hf0.2.1.1 Hf0.out.2.1.2.1).mono ?_; rintro e w5 ⟨z01, z02, rfl, oz0, hb5⟩
  have hs5 := hb5.size
  replace BW := bb BW hb5
  replace BS := bb BS hb5
  replace bx0 := bx0.under hb5
  clear cA0 cB0
  obtain ⟨cA0, cB0, -, -⟩ := two_cells bx0
  replace bxs0 := bxs0.under hb5
  clear cAs0 cBs0
  obtain ⟨cAs0, cBs0, -, -⟩ := two_cells bxs0
  clear hb5
  obtain ⟨saz0, scz0, hvz0, _, _⟩ := oz0.sol.1.shape
  subst hvz0
  obtain ⟨sbz0, sdz0, hvz0, _, _⟩ := oz0.sol.2.shape
  subst hvz0
  obtain ⟨cA0z, cB0z, -, -⟩ := two_cells (bx0.alloc (.cells #[.slice saz0 x0.length scz0, .slice sbz0 y0.length sdz0] 27))
  obtain ⟨cAs0z, cBs0z, -, -⟩ := two_cells (bxs0.alloc (.cells #[.slice saz0 x0.length scz0, .slice sbz0 y0.length sdz0] 27))
  go_wp2_with fail
  clear cA0z cB0z
  clear cAs0z cBs0z
  obtain ⟨bxz0, hb6, hz6⟩ := boxes1 w5 [.slice saz0 x0.length scz0, .slice sbz0 y0.length sdz0] 27
  obtain ⟨w6, hW6⟩ : ∃ W, w5.alloc (.cells #[.slice saz0 x0.length scz0, .slice sbz0 y0.length sdz0] 27) = W := ⟨_, rfl⟩
  rw [hW6] at bxz0 hb6 hz6 ⊢
  have hs6 : w5.heap.size + 1 ≤ w6.heap.size := by omega
  clear hW6 hz6
  replace oz0 := oz0.under hb6
  replace BW := bb BW hb6
  replace BS := bb BS hb6
  replace bx0 := bx0.under hb6
  clear cA0 cB0
  obtain ⟨cA0, cB0, -, -⟩ := two_cells bx0
  replace bxs0 := bxs0.under hb6
  clear cAs0 cBs0
  obtain ⟨cAs0, cBs0, -, -⟩ := two_cells bxs0
  obtain ⟨cAz0, cBz0, -, -⟩ := two_cells bxz0
  clear hb6
  refine (c_InverseSolution _ _ _ _ _ (oz0.sol)).mono ?_
  rw [← HRA0.out, ← HRB0.out, ← HR1.out]
  rintro e w7 ⟨g01, g02, rfl, og0, hb7⟩
  have hs7 := hb7.size
  replace oz0 := oz0.under hb7
  replace BW := bb BW hb7
  replace BS := bb BS hb7
  replace bx0 := bx0.under hb7
  clear cA0 cB0
  obtain ⟨cA0, cB0, -, -⟩ := two_cells bx0
  replace bxs0 := bxs0.under hb7
  clear cAs0 cBs0
  obtain ⟨cAs0, cBs0, -, -⟩ := two_cells bxs0
  replace bxz0 := bxz0.under hb7
  clear cAz0 cBz0
  obtain ⟨cAz0, cBz0, -, -⟩ := two_cells bxz0
  obtain ⟨sag0, scg0, hvg0, _, _⟩ := og0.sol.1.shape
  subst hvg0
  obtain ⟨sbg0, sdg0, hvg0, _, _⟩ := og0.sol.2.shape
  subst hvg0
  clear hb7
  obtain ⟨cA0z, cB0z, -, -⟩ := two_cells (bx0.alloc (.cells #[.slice sag0 RA0.length scg0, .slice sbg0 RB0.length sdg0] 27))
  obtain ⟨cAs0z, cBs0z, -, -⟩ := two_cells (bxs0.alloc (.cells #[.slice sag0 RA0.length scg0, .slice sbg0 RB0.length sdg0] 27))
  obtain ⟨cAz0z, cBz0z, -, -⟩ := two_cells (bxz0.alloc (.cells #[.slice sag0 RA0.length scg0, .slice sbg0 RB0.length sdg0] 27))
  go_wp2_with fail
  clear cA0z cB0z
  clear cAs0z cBs0z
  clear cAz0z cBz0z
  obtain ⟨bxg0, hb8, hz8⟩ := boxes1 w7 [.slice sag0 RA0.length scg0, .slice sbg0 RB0.length sdg0] 27
  obtain ⟨w8, hW8⟩ : ∃ W, w7.alloc (.cells #[.slice sag0 RA0.length scg0, .slice sbg0 RB0.length sdg0] 27) = W := ⟨_, rfl⟩
  rw [hW8] at bxg0 hb8 hz8 ⊢
  have hs8 : w7.heap.size + 1 ≤ w8.heap.size := by omega
  clear hW8 hz8
  replace oz0 := oz0.under hb8
  replace og0 := og0.under hb8
  replace BW := bb BW hb8
  replace BS := bb BS hb8
  replace bx0 := bx0.under hb8
  clear cA0 cB0
  obtain ⟨cA0, cB0, -, -⟩ := two_cells bx0
  replace bxs0 := bxs0.under hb8
  clear cAs0 cBs0
  obtain ⟨cAs0, cBs0, -, -⟩ := two_cells bxs0
  replace bxz0 := bxz0.under hb8
  clear cAz0 cBz0
  obtain ⟨cAz0, cBz0, -, -⟩ := two_cells bxz0
  obtain ⟨cAg0, cBg0, -, -⟩ := two_cells bxg0
  clear hb8
  refine (c_eqS _ _ _ _ _ _ _ _ _ (og0.sol) (hS.below BS)).mono ?_; rintro e w9 ⟨rfl, hb9⟩
  have hs9 := hb9.size
  replace oz0 := oz0.under hb9
  replace og0 := og0.under hb9
  replace BW := bb BW hb9
  replace BS := bb BS hb9
  replace bx0 := bx0.under hb9
  clear cA0 cB0
  obtain ⟨cA0, cB0, -, -⟩ := two_cells bx0
  replace bxs0 := bxs0.under hb9
  clear cAs0 cBs0
  obtain ⟨cAs0, cBs0, -, -⟩ := two_cells bxs0
  replace bxz0 := bxz0.under hb9
  clear cAz0 cBz0
  obtain ⟨cAz0, cBz0, -, -⟩ := two_cells bxz0
  replace bxg0 := bxg0.under hb9
  clear cAg0 cBg0
  obtain ⟨cAg0, cBg0, -, -⟩ := two_cells bxg0
  clear hb9
  go_wp2_with fail
  have BWd := BW.drew
  have oz0d := oz0.keep ((Keep.refl (fun _ => False) w9).drew) (fun _ _ _ h => h)
  have bx0d := bx0.drew
  have bxz0d := bxz0.drew
  go_region_held3 (fun w' => w'.cell? ⟨w.heap.size, 0, none⟩ = some (.slice a0 x0.length c0) ∧ w'.cell? ⟨w.heap.size, 1, none⟩ = some (.slice a0s y0.length c0s) ∧ w'.cell? ⟨w5.heap.size, 0, none⟩ = some (.slice saz0 x0.length scz0) ∧ w'.cell? ⟨w5.heap.size, 1, none⟩ = some (.slice sbz0 y0.length sdz0))
    (first | go_keep | exact ⟨(two_cells (bx0d.under hb10)).1, (two_cells (bx0d.under hb10)).2.1, (two_cells (bxz0d.under hb10)).1, (two_cells (bxz0d.under hb10)).2.1⟩ | exact ⟨(two_cells ((bx0d.under hb10).under hb11)).1, (two_cells ((bx0d.under hb10).under hb11)).2.1, (two_cells ((bxz0d.under hb10).under hb11)).1, (two_cells ((bxz0d.under hb10).under hb11)).2.1⟩)
    ((first | (go_at_call 15; refine (c_toSolution _ _ _ _ _ (hx0.below BWd) hf0.1.1 Hf0.out.1.2.1 hf0.2.1.1 Hf0.out.2.1.2.1).mono ?_; rintro e w10 ⟨t101, t102, rfl, ot10, hb10⟩) | (go_at_call 18; refine (c_eqS _ _ _ _ _ _ _ _ _ (oz0d.under hb10).sol ot10.sol).mono ?_; rintro e w11 ⟨rfl, hb11⟩)))
  have hb11z : Below w9.heap.size w9 w11 := (Below.refl _ _).drew.trans (bb hb10 hb11)
  have hs11 : w9.heap.size ≤ w11.heap.size := hb11z.size
  replace oz0 := oz0.under hb11z
  replace og0 := og0.under hb11z
  replace BW := bb BW hb11z
  replace BS := bb BS hb11z
  replace bx0 := bx0.under hb11z
  clear cA0 cB0
  obtain ⟨cA0, cB0, -, -⟩ := two_cells bx0
  replace bxs0 := bxs0.under hb11z
  clear cAs0 cBs0
  obtain ⟨cAs0, cBs0, -, -⟩ := two_cells bxs0
  replace bxz0 := bxz0.under hb11z
  clear cAz0 cBz0
  obtain ⟨cAz0, cBz0, -, -⟩ := two_cells bxz0
  replace bxg0 := bxg0.under hb11z
  clear cAg0 cBg0
  obtain ⟨cAg0, cBg0, -, -⟩ := two_cells bxg0
  clear BWd oz0d bx0d bxz0d ot10 hb10 hb11 hb11z
  go_wp2_with fail
  refine (c_markS _ _ _ _ _ _ _ _ oz0 (by omega) (by omega) (by omega)).mono ?_; rintro e w12 ⟨rfl, oz0m, hkw12⟩
  have hs12 := hkw12.size
  replace og0 := og0.keep hkw12 (fun b p q r => by omega)
  replace bx0 := bx0.of_block (hkw12.block _ (by omega) (by omega))
  clear cA0 cB0
  obtain ⟨cA0, cB0, -, -⟩ := two_cells bx0
  replace bxs0 := bxs0.of_block (hkw12.block _ (by omega) (by omega))
  clear cAs0 cBs0
  obtain ⟨cAs0, cBs0, -, -⟩ := two_cells bxs0
  replace bxz0 := bxz0.of_block (hkw12.block _ (by omega) (by omega))
  clear cAz0 cBz0
  obtain ⟨cAz0, cBz0, -, -⟩ := two_cells bxz0
  replace bxg0 := bxg0.of_block (hkw12.block _ (by omega) (by omega))
  clear cAg0 cBg0
  obtain ⟨cAg0, cBg0, -, -⟩ := two_cells bxg0
  replace BW := below_keep BW hkw12 (by omega)
  replace BS := below_keep BS hkw12 (by omega)
  clear oz0
  have oz0 := oz0m
  clear oz0m hkw12
  clear oz0
  go_wp2_with fail
  refine (c_eqS _ _ _ _ _ _ _ _ _ (og0.sol) (hS.below BS)).mono ?_; rintro e w13 ⟨rfl, hb13⟩
  have hs13 := hb13.size
  replace og0 := og0.under hb13
  replace BW := bb BW hb13
  replace BS := bb BS hb13
  replace bx0 := bx0.under hb13
  clear cA0 cB0
  obtain ⟨cA0, cB0, -, -⟩ := two_cells bx0
  replace bxs0 := bxs0.under hb13
  clear cAs0 cBs0
  obtain ⟨cAs0, cBs0, -, -⟩ := two_cells bxs0
  replace bxz0 := bxz0.under hb13
  clear cAz0 cBz0
  obtain ⟨cAz0, cBz0, -, -⟩ := two_cells bxz0
  replace bxg0 := bxg0.under hb13
  clear cAg0 cBg0
  obtain ⟨cAg0, cBg0, -, -⟩ := two_cells bxg0
  clear hb13
  go_wp2_with fail
  refine (c_markS _ _ _ _ _ _ _ _ og0 (by omega) (by omega) (by omega)).mono ?_; rintro e w14 ⟨rfl, og0m, hkw14⟩
  have hs14 := hkw14.size
  replace bx0 := bx0.of_block (hkw14.block _ (by omega) (by omega))
  clear cA0 cB0
  obtain ⟨cA0, cB0, -, -⟩ := two_cells bx0
  replace bxs0 := bxs0.of_block (hkw14.block _ (by omega) (by omega))
  clear cAs0 cBs0
  obtain ⟨cAs0, cBs0, -, -⟩ := two_cells bxs0
  replace bxz0 := bxz0.of_block (hkw14.block _ (by omega) (by omega))
  clear cAz0 cBz0
  obtain ⟨cAz0, cBz0, -, -⟩ := two_cells bxz0
  replace bxg0 := bxg0.of_block (hkw14.block _ (by omega) (by omega))
  clear cAg0 cBg0
  obtain ⟨cAg0, cBg0, -, -⟩ := two_cells bxg0
  replace BW := below_keep BW hkw14 (by omega)
  replace BS := below_keep BS hkw14 (by omega)
  clear og0
  have og0 := og0m
  clear og0m hkw14
  go_wp2_with fail
  refine (c_heldS _ _ _ _ _ _ (og0.sol) (by omega) (by omega)).mono ?_; rintro e w15 ⟨rfl, hb15⟩
  have hs15 := hb15.size
  replace og0 := og0.under hb15
  replace BW := bb BW hb15
  replace BS := bb BS hb15
  replace bx0 := bx0.under hb15
  clear cA0 cB0
  obtain ⟨cA0, cB0, -, -⟩ := two_cells bx0
  replace bxs0 := bxs0.under hb15
  clear cAs0 cBs0
  obtain ⟨cAs0, cBs0, -, -⟩ := two_cells bxs0
  replace bxz0 := bxz0.under hb15
  clear cAz0 cBz0
  obtain ⟨cAz0, cBz0, -, -⟩ := two_cells bxz0
  replace bxg0 := bxg0.under hb15
  clear cAg0 cBg0
  obtain ⟨cAg0, cBg0, -, -⟩ := two_cells bxg0
  clear hb15
  go_wp2_with fail
  refine (c_toSolution _ _ _ _ _ (hx0.below BW) hf0.1.1 Hf0.out.1.2.1 hf0.2.1.1 Hf0.out.2.1.2.1).mono ?_; rintro e w16 ⟨t21, t22, rfl, ot2, hb16⟩
  have hs16 := hb16.size
  replace og0 := og0.under hb16
  replace BW := bb BW hb16
  replace BS := bb BS hb16
  replace bx0 := bx0.under hb16
  clear cA0 cB0
  obtain ⟨cA0, cB0, -, -⟩ := two_cells bx0
  replace bxs0 := bxs0.under hb16
  clear cAs0 cBs0
  obtain ⟨cAs0, cBs0, -, -⟩ := two_cells bxs0
  replace bxz0 := bxz0.under hb16
  clear cAz0 cBz0
  obtain ⟨cAz0, cBz0, -, -⟩ := two_cells bxz0
  replace bxg0 := bxg0.under hb16
  clear cAg0 cBg0
  obtain ⟨cAg0, cBg0, -, -⟩ := two_cells bxg0
  clear hb16
  go_wp2_with fail
  refine (c_InverseSolution _ _ _ _ _ (ot2.sol)).mono ?_
  rw [← HRA0.out, ← HRB0.out, ← HR1.out]
  rintro e w17 ⟨h01, h02, rfl, oh0, hb17⟩
  have hs17 := hb17.size
  replace og0 := og0.under hb17
  replace ot2 := ot2.under hb17
  replace BW := bb BW hb17
  replace BS := bb BS hb17
  replace bx0 := bx0.under hb17
  clear cA0 cB0
  obtain ⟨cA0, cB0, -, -⟩ := two_cells bx0
  replace bxs0 := bxs0.under hb17
  clear cAs0 cBs0
  obtain ⟨cAs0, cBs0, -, -⟩ := two_cells bxs0
  replace bxz0 := bxz0.under hb17
  clear cAz0 cBz0
  obtain ⟨cAz0, cBz0, -, -⟩ := two_cells bxz0
  replace bxg0 := bxg0.under hb17
  clear cAg0 cBg0
  obtain ⟨cAg0, cBg0, -, -⟩ := two_cells bxg0
  obtain ⟨sah0, sch0, hvh0, _, _⟩ := oh0.sol.1.shape
  subst hvh0
  obtain ⟨sbh0, sdh0, hvh0, _, _⟩ := oh0.sol.2.shape
  subst hvh0
  clear ot2
  clear hb17
  obtain ⟨cA0z, cB0z, -, -⟩ := two_cells (bx0.alloc (.cells #[.slice sah0 RA0.length sch0, .slice sbh0 RB0.length sdh0] 27))
  obtain ⟨cAs0z, cBs0z, -, -⟩ := two_cells (bxs0.alloc (.cells #[.slice sah0 RA0.length sch0, .slice sbh0 RB0.length sdh0] 27))
  obtain ⟨cAz0z, cBz0z, -, -⟩ := two_cells (bxz0.alloc (.cells #[.slice sah0 RA0.length sch0, .slice sbh0 RB0.length sdh0] 27))
  obtain ⟨cAg0z, cBg0z, -, -⟩ := two_cells (bxg0.alloc (.cells #[.slice sah0 RA0.length sch0, .slice sbh0 RB0.length sdh0] 27))
  go_wp2_with fail
  clear cA0z cB0z
  clear cAs0z cBs0z
  clear cAz0z cBz0z
  clear cAg0z cBg0z
  obtain ⟨bxh0, hb18, hz18⟩ := boxes1 w17 [.slice sah0 RA0.length sch0, .slice sbh0 RB0.length sdh0] 27
  obtain ⟨w18, hW18⟩ : ∃ W, w17.alloc (.cells #[.slice sah0 RA0.length sch0, .slice sbh0 RB0.length sdh0] 27) = W := ⟨_, rfl⟩
  rw [hW18] at bxh0 hb18 hz18 ⊢
  have hs18 : w17.heap.size + 1 ≤ w18.heap.size := by omega
  clear hW18 hz18
  replace og0 := og0.under hb18
  replace oh0 := oh0.under hb18
  replace BW := bb BW hb18
  replace BS := bb BS hb18
  replace bx0 := bx0.under hb18
  clear cA0 cB0
  obtain ⟨cA0, cB0, -, -⟩ := two_cells bx0
  replace bxs0 := bxs0.under hb18
  clear cAs0 cBs0
  obtain ⟨cAs0, cBs0, -, -⟩ := two_cells bxs0
  replace bxz0 := bxz0.under hb18
  clear cAz0 cBz0
  obtain ⟨cAz0, cBz0, -, -⟩ := two_cells bxz0
  replace bxg0 := bxg0.under hb18
  clear cAg0 cBg0
  obtain ⟨cAg0, cBg0, -, -⟩ := two_cells bxg0
  obtain ⟨cAh0, cBh0, -, -⟩ := two_cells bxh0
  clear hb18
  refine (c_eqS _ _ _ _ _ _ _ _ _ (oh0.sol) (hS.below BS)).mono ?_; rintro e w19 ⟨rfl, hb19⟩
  have hs19 := hb19.size
  replace og0 := og0.under hb19
  replace oh0 := oh0.under hb19
  replace BW := bb BW hb19
  replace BS := bb BS hb19
  replace bx0 := bx0.under hb19
  clear cA0 cB0
  obtain ⟨cA0, cB0, -, -⟩ := two_cells bx0
  replace bxs0 := bxs0.under hb19
  clear cAs0 cBs0
  obtain ⟨cAs0, cBs0, -, -⟩ := two_cells bxs0
  replace bxz0 := bxz0.under hb19
  clear cAz0 cBz0
  obtain ⟨cAz0, cBz0, -, -⟩ := two_cells bxz0
  replace bxg0 := bxg0.under hb19
  clear cAg0 cBg0
  obtain ⟨cAg0, cBg0, -, -⟩ := two_cells bxg0
  replace bxh0 := bxh0.under hb19
  clear cAh0 cBh0
  obtain ⟨cAh0, cBh0, -, -⟩ := two_cells bxh0
  clear hb19
  go_wp2_with fail
  refine (c_heldS _ _ _ _ _ _ (og0.sol) (by omega) (by omega)).mono ?_; rintro e w20 ⟨rfl, hb20⟩
  have hs20 := hb20.size
  replace og0 := og0.under hb20
  replace oh0 := oh0.under hb20
  replace BW := bb BW hb20
  replace BS := bb BS hb20
  replace bx0 := bx0.under hb20
  clear cA0 cB0
  obtain ⟨cA0, cB0, -, -⟩ := two_cells bx0
  replace bxs0 := bxs0.under hb20
  clear cAs0 cBs0
  obtain ⟨cAs0, cBs0, -, -⟩ := two_cells bxs0
  replace bxz0 := bxz0.under hb20
  clear cAz0 cBz0
  obtain ⟨cAz0, cBz0, -, -⟩ := two_cells bxz0
  replace bxg0 := bxg0.under hb20
  clear cAg0 cBg0
  obtain ⟨cAg0, cBg0, -, -⟩ := two_cells bxg0
  replace bxh0 := bxh0.under hb20
  clear cAh0 cBh0
  obtain ⟨cAh0, cBh0, -, -⟩ := two_cells bxh0
  clear hb20
  have HB := Lib.hid BW
  clear BW BS hS og0 oh0 hx0 bx0 bxs0 bxz0 bxg0 bxh0
  go_wp2
  go_ret
  exact ⟨rfl, HB.out⟩
end Go.Proofs.Ytkcobfkmeaakoaa

namespace Go.Proofs.Ytkcobfkmeaakoaa
open Go.RowKit

def miA (A B : List (List Int)) : List (List Int) := if isPM A B then transL B else []
def miB (A B : List (List Int)) : List (List Int) := if isPM A B then transL A else []
def pmCodeM (A B : List (List Int)) : Int := if isPM A B then 0 else 1


set_option maxRecDepth 100000 in
set_option maxHeartbeats 800000 in
theorem c_MirrorSolution (v0 u0 : Value) (A B : List (List Int)) (w : World) (hA : Sol w v0 u0 A B)  :
    Calls Try.prog 78 #[.agg #[v0, u0]] w (RSolC w (miA A B) (miB A B) (pmCodeM A B)) := by
  by_cases hp0 : isPM A B = true
  case neg =>
    have hq0 : isPM A B = false := by simpa using hp0
    have HQ := Lib.hid hq0; clear hp0
    obtain ⟨a0, c0, rfl, _, _⟩ := hA.1.shape
    obtain ⟨a0s, c0s, rfl, _, _⟩ := hA.2.shape
    go_enter Try.func78, Try.ntmps78
    go_wp2_with fail
    obtain ⟨f0, f1, hW0, hsz⟩ := boxes2 w [.slice a0 A.length c0, .slice a0s B.length c0s] [.slice none 0 0, .slice none 0 0] 27 27
    obtain ⟨W0, hW⟩ : ∃ W, ((w.alloc (.cells #[.slice a0 A.length c0, .slice a0s B.length c0s] 27)).alloc (.cells #[.slice none 0 0, .slice none 0 0] 27)) = W := ⟨_, rfl⟩
    rw [hW] at f0 f1 hW0 hsz ⊢
    clear hW hsz
    refine (c_IsPairMap _ _ _ _ _ (hA.below hW0)).mono ?_; rintro e g0 ⟨rfl, hbg0⟩
    have hB0 := bb hW0 hbg0
    replace f0 := f0.under hbg0
    obtain ⟨cA0, cB0, -, -⟩ := two_cells f0
    replace f1 := f1.under hbg0
    obtain ⟨cA1, cB1, fA1, fB1⟩ := two_cells f1
    clear hbg0
    have HB := Lib.hid hB0
    clear hB0 hW0
    go_wp2
    refine bodyPost_ret (v := .tuple #[.agg #[.slice none 0 0, .slice none 0 0], .int .i64 1]) (by simp [results, Try.results78, go_sem, cA1, cB1]) rfl ⟨.slice none 0 0, .slice none 0 0, by simp [miA, miB, pmCodeM, HQ.out], ?_, ?_⟩
    · have hz : w.heap.size ≤ g0.heap.size := HB.out.size
      rw [show miA A B = [] from by simp [miA, miB, pmCodeM, HQ.out], show miB A B = [] from by simp [miA, miB, pmCodeM, HQ.out]]
      exact OwnSol.nil0 (by first | exact hz | (simp [World.setCell]; exact hz))
    · first | exact HB.out | exact (HB.out.setCell (p := ⟨w.heap.size + 1, 0, none⟩) (by show _ ≤ w.heap.size + 1; omega) _).setCell (p := ⟨w.heap.size + 1, 1, none⟩) (by show _ ≤ w.heap.size + 1; omega) _
  have HP0 := Lib.hid hp0
  obtain ⟨a0, c0, rfl, _, _⟩ := hA.1.shape
  obtain ⟨a0s, c0s, rfl, _, _⟩ := hA.2.shape
  go_enter Try.func78, Try.ntmps78
  go_wp2_with fail
  obtain ⟨f0, f1, hW0, hsz⟩ := boxes2 w [.slice a0 A.length c0, .slice a0s B.length c0s] [.slice none 0 0, .slice none 0 0] 27 27
  obtain ⟨W0, hW⟩ : ∃ W, ((w.alloc (.cells #[.slice a0 A.length c0, .slice a0s B.length c0s] 27)).alloc (.cells #[.slice none 0 0, .slice none 0 0] 27)) = W := ⟨_, rfl⟩
  rw [hW] at f0 f1 hW0 hsz ⊢
  clear hW hsz
  refine (c_IsPairMap _ _ _ _ _ (hA.below hW0)).mono ?_; rintro e g0 ⟨rfl, hbg0⟩
  have hB0 := bb hW0 hbg0
  replace f0 := f0.under hbg0
  obtain ⟨cA0, cB0, -, -⟩ := two_cells f0
  replace f1 := f1.under hbg0
  obtain ⟨cA1, cB1, fA1, fB1⟩ := two_cells f1
  clear hbg0
  obtain ⟨q1, q2, -⟩ := isPM_parts HP0.out
  have HRA := Lib.hid ((hA.1.below hB0).below (Below.refl _ _).drew); have HRB := Lib.hid ((hA.2.below hB0).below (Below.refl _ _).drew)
  have HFc := Lib.hid f0.drew; have HGc := Lib.hid f1.drew; have HBc := Lib.hid hB0.drew; have HLt := Lib.hid f1.lt
  clear hA hB0 hW0 f0 f1 cA1 cB1 fA1 fB1
  go_wp2
  go_region_held3 (fun w' => w'.cell? ⟨w.heap.size, 0, none⟩ = some (.slice a0 A.length c0) ∧ w'.cell? ⟨w.heap.size, 1, none⟩ = some (.slice a0s B.length c0s))
    (first | go_keep | exact ⟨(two_cells HFc.out).1, (two_cells HFc.out).2.1⟩)
    ((first | (go_at_call 125; (with_reducible refine (c_transposed _ B _ HRB.out (isTab_sq q2)).mono ?_); rintro e w1 ⟨r1, rfl, ho1, hb1⟩; obtain ⟨ra1, rc1, hv1, _⟩ := ho1.rows.shape; rw [transL_length] at hv1; subst hv1; replace HFc := Lib.hid (HFc.out.under hb1); replace HGc := Lib.hid (HGc.out.under hb1); replace HBc := Lib.hid (bb HBc.out hb1); replace HRA := Lib.hid (HRA.out.below hb1); have HO1 := Lib.hid ho1; have HS1 := Lib.hid hb1.size; clear ho1 hb1) | (go_at_call 125; (with_reducible refine (c_transposed _ A _ HRA.out (isTab_sq q1)).mono ?_); rintro e w2 ⟨r2, rfl, ho2, hb2⟩; obtain ⟨ra2, rc2, hv2, _⟩ := ho2.rows.shape; rw [transL_length] at hv2; subst hv2; replace HFc := Lib.hid (HFc.out.under hb2); replace HGc := Lib.hid (HGc.out.under hb2); have HB2 := Lib.hid (bb HBc.out hb2); have HO2 := Lib.hid ho2; have HBx := Lib.hid hb2; obtain ⟨z0, z1, z2, z3⟩ := two_cells HGc.out; clear ho2 hb2)))
  obtain ⟨hA, hB⟩ := stored (q := w.heap.size + 1) HB2.out (OwnSol.mk HO1.out HBx.out HO2.out HS1.out) (by omega) HLt.out
  have HA := Lib.hid hA; have HB := Lib.hid hB
  clear hA hB
  go_wp2
  exact bodyPost_ret (v := .tuple #[.agg #[.slice ra1 B.length rc1, .slice ra2 A.length rc2], .int .i64 0]) (by simp [results, Try.results78, go_sem, z0, z1]) rfl ⟨.slice ra1 B.length rc1, .slice ra2 A.length rc2, by simp [pmCodeM, HP0.out], by simpa [miA, miB, HP0.out] using HA.out, HB.out⟩


theorem mi_total (A B : List (List Int)) : total (miA A B) ≤ 144 ∧ total (miB A B) ≤ 144 := by
  unfold miA miB
  split
  · rename_i h
    obtain ⟨q1, q2, _⟩ := isPM_parts h
    have l1 := isTab_len q1; have l2 := isTab_len q2
    have h1 := total_le _ (tab_rows (g := fun x y => val2 B y x) l2.2)
    have h2 := total_le _ (tab_rows (g := fun x y => val2 A y x) l1.2)
    rw [tabOf_length] at h1 h2
    unfold transL
    omega
  · simp [total]
end Go.Proofs.Ytkcobfkmeaakoaa

namespace Go.Proofs.Ytkcobfkmeaakoaa
open Go.RowKit

def pmCode (A B : List (List Int)) : Int := if isPM A B then 0 else 1
def sqF (A B : List (List Int)) (x : Nat) : Bool := decide (val2 A x x = x) && decide (val2 B x x = x)
def sqRes (A B : List (List Int)) : Bool := if isPM A B then all1 A.length (sqF A B) else false


set_option maxRecDepth 100000 in
set_option maxHeartbeats 800000 in
theorem c_IsSquareFree (v0 u0 : Value) (A B : List (List Int)) (w : World) (hA : Sol w v0 u0 A B)  :
    Calls Try.prog 79 #[.agg #[v0, u0]] w (RVal w (.tuple #[.bool (sqRes A B), .int .i64 (pmCode A B)])) := by
  by_cases hp0 : isPM A B = true
  case neg =>
    have hq0 : isPM A B = false := by simpa using hp0
    have HQ := Lib.hid hq0; clear hp0
    obtain ⟨a0, c0, rfl, _, _⟩ := hA.1.shape
    obtain ⟨a0s, c0s, rfl, _, _⟩ := hA.2.shape
    go_enter Try.func79, Try.ntmps79
    go_wp2_with fail
    obtain ⟨f0, hW0, hsz⟩ := boxes1 w [.slice a0 A.length c0, .slice a0s B.length c0s] 27
    obtain ⟨W0, hW⟩ : ∃ W, (w.alloc (.cells #[.slice a0 A.length c0, .slice a0s B.length c0s] 27)) = W := ⟨_, rfl⟩
    rw [hW] at f0 hW0 hsz ⊢
    clear hW hsz
    refine (c_IsPairMap _ _ _ _ _ (hA.below hW0)).mono ?_; rintro e g0 ⟨rfl, hbg0⟩
    have hB0 := bb hW0 hbg0
    replace f0 := f0.under hbg0
    obtain ⟨cA0, cB0, -, -⟩ := two_cells f0
    clear hbg0
    have HB := Lib.hid hB0
    clear hB0 hW0
    go_wp2
    go_ret2
    exact ⟨by simp [sqRes, pmCode, HQ.out], HB.out⟩
  have HP0 := Lib.hid hp0
  obtain ⟨n0, b0, o0, c0, rb0, ro0, rc0, b0s, o0s, c0s, rb0s, ro0s, rc0s, rfl, rfl, hl0, hl0s, hn0, hx0, hc0, hm0, hc0s, hm0s, t0, t0s⟩ := hA.tabs hp0
  have HL0 := Lib.hid hl0; clear hl0
  have HL0s := Lib.hid hl0s; clear hl0s
  go_enter Try.func79, Try.ntmps79
  go_wp2_with fail
  obtain ⟨f0, hW0, hsz⟩ := boxes1 w [.slice (some ⟨b0, o0, none⟩) n0 c0, .slice (some ⟨b0s, o0s, none⟩) n0 c0s] 27
  obtain ⟨W0, hW⟩ : ∃ W, (w.alloc (.cells #[.slice (some ⟨b0, o0, none⟩) n0 c0, .slice (some ⟨b0s, o0s, none⟩) n0 c0s] 27)) = W := ⟨_, rfl⟩
  rw [hW] at f0 hW0 hsz ⊢
  clear hW hsz
  refine (c_IsPairMap _ _ _ _ _ (hA.below hW0)).mono ?_; rintro e g0 ⟨rfl, hbg0⟩
  have hB0 := bb hW0 hbg0
  replace f0 := f0.under hbg0
  obtain ⟨cA0, cB0, -, -⟩ := two_cells f0
  clear hbg0
  have HT := Lib.hid (t0.below hB0); have HTs := Lib.hid (t0s.below hB0); have HB := Lib.hid hB0
  clear hB0 hW0 t0 t0s f0 hA
  go_wp2
  go_loop [11, 4] (fun i _ => ∃ k : Nat, k ≤ n0 ∧ i = .int .i64 k ∧ Hid (∀ x, x < k → sqF A B x = true)) (fun i _ => n0 - (intOf i).toNat)
  case atStart => exact ⟨0, Nat.zero_le _, rfl, Lib.hid (by simp)⟩
  case round =>
    obtain ⟨k, hk, rfl, HA⟩ := hrel
    by_cases hlt : k < n0
    · have r1 := HT.out.row k hlt; have v1 := HT.out.val k k hlt hlt
      have r2 := HTs.out.row k hlt; have v2 := HTs.out.val k k hlt hlt
      by_cases h1 : val2 A k k = k
      · have e1 : (val2 A k k != (k : Int)) = false := by simp [h1]
        by_cases h2 : val2 B k k = k
        · have e2 : (val2 B k k != (k : Int)) = false := by simp [h2]
          have H1 := Lib.hid h1; have H2 := Lib.hid h2; clear h1 h2
          go_wp2
          go_round
          case rel => exact ⟨k + 1, by omega, by go_num, Lib.hid (lt_snoc HA.out (by simp [sqF, H1.out, H2.out]))⟩
          case measure => simp [intOf]; omega
        · have e2 : (val2 B k k != (k : Int)) = true := by simp [h2]
          have H2 := Lib.hid h2; clear h1 h2
          go_wp2
          go_ret2
          exact ⟨by simp [sqRes, pmCode, HP0.out, HL0.out, all1_no hlt (P := sqF A B) (by simp [sqF, H2.out])], HB.out⟩
      · have e1 : (val2 A k k != (k : Int)) = true := by simp [h1]
        have H1 := Lib.hid h1; clear h1
        go_wp2
        go_ret2
        exact ⟨by simp [sqRes, pmCode, HP0.out, HL0.out, all1_no hlt (P := sqF A B) (by simp [sqF, H1.out])], HB.out⟩
    · go_wp2
      go_ret2
      obtain rfl : k = n0 := by omega
      exact ⟨by simp [sqRes, pmCode, HP0.out, HL0.out, all1_iff.2 HA.out], HB.out⟩

end Go.Proofs.Ytkcobfkmeaakoaa

namespace Go.Proofs.Ytkcobfkmeaakoaa
open Go.RowKit

open Classical in
noncomputable def soRes (A B : List (List Int)) : Int := if isSol A B = true then (if ∀ j, j < A.length * A.length → ordS (pmL A B A.length) (j + 1) ≤ 1000000 then ordS (pmL A B A.length) (A.length * A.length) else 0) else 0
open Classical in
noncomputable def soCode (A B : List (List Int)) : Int := if isSol A B = true then (if ∀ j, j < A.length * A.length → ordS (pmL A B A.length) (j + 1) ≤ 1000000 then 0 else 3) else 1
theorem so_all {A B : List (List Int)} {n : Nat} (h : isSol A B = true) (hl : A.length = n) (h1 : ∀ j, j < n * n → ordS (pmL A B n) (j + 1) ≤ 1000000) : soRes A B = ordS (pmL A B n) (n * n) ∧ soCode A B = 0 := by
  subst hl; unfold soRes soCode; rw [if_pos h, if_pos h1, if_pos h, if_pos h1]; exact ⟨rfl, rfl⟩
theorem so_lim {A B : List (List Int)} {n k : Nat} (h : isSol A B = true) (hl : A.length = n) (hk : k < n * n) (h1 : 1000000 < ordS (pmL A B n) (k + 1)) : soRes A B = 0 ∧ soCode A B = 3 := by
  subst hl; unfold soRes soCode
  have : ¬ ∀ j, j < A.length * A.length → ordS (pmL A B A.length) (j + 1) ≤ 1000000 := fun h2 => by have := h2 k hk; omega
  rw [if_pos h, if_neg this, if_pos h, if_neg this]; exact ⟨rfl, rfl⟩
/-- One step of the order: its bounds. -/
theorem ord_step {o : Int} {r : Nat} (ho : 1 ≤ o) (ho2 : o ≤ 1000000) (hr : 1 ≤ r) (hr2 : r ≤ 144) :
    (0 < gcdI o r ∧ gcdI o r ≤ 1000000) ∧ (0 ≤ o / gcdI o r ∧ o / gcdI o r ≤ 1000000) ∧ (0 ≤ o / gcdI o r * r ∧ o / gcdI o r * r ≤ 144000000) := by
  obtain ⟨h1, h2⟩ := gcdI_pos (a := o) (b := r) (by omega) (by omega)
  have h3 : 0 ≤ o / gcdI o r := Int.ediv_nonneg (by omega) (by omega)
  have h4 : o / gcdI o r ≤ o := Int.ediv_le_self _ (by omega)
  have h5 : o / gcdI o r * r ≤ 1000000 * 144 := Int.mul_le_mul (by omega) (by omega) (by omega) (by omega)
  exact ⟨⟨h1, by omega⟩, ⟨h3, by omega⟩, Int.mul_nonneg h3 (by omega), by omega⟩
theorem code_mul {n : Nat} {x : Int} (hn : n ≤ 12) (hx0 : 0 ≤ x) (hx : x < n) : 0 ≤ x * (n : Int) ∧ x * (n : Int) ≤ 144 := by
  have h1 : x * (n : Int) ≤ 12 * 12 := Int.mul_le_mul (by omega) (by omega) (by omega) (by omega)
  exact ⟨Int.mul_nonneg hx0 (by omega), by omega⟩

theorem lt_snocP {k : Nat} {P : Nat → Prop} (h : ∀ j, j < k → P j) (hk : P k) : ∀ j, j < k + 1 → P j := fun j hj => by
  by_cases e : j = k
  · subst e; exact hk
  · exact h j (by omega)

set_option maxRecDepth 100000 in
set_option maxHeartbeats 2000000 in
theorem c_OrderOfSolution (v0 u0 : Value) (A B : List (List Int)) (w : World) (hA : Sol w v0 u0 A B)  :
    Calls Try.prog 80 #[.agg #[v0, u0]] w (RVal w (.tuple #[.int .i64 (soRes A B), .int .i64 (soCode A B)])) := by
  by_cases hp0 : isSol A B = true
  case neg =>
    have hq0 : isSol A B = false := by simpa using hp0
    have HQ := Lib.hid hq0; clear hp0
    obtain ⟨a0, c0, rfl, _, _⟩ := hA.1.shape
    obtain ⟨a0s, c0s, rfl, _, _⟩ := hA.2.shape
    go_enter Try.func80, Try.ntmps80
    go_wp2_with fail
    obtain ⟨f0, hW0, hsz⟩ := boxes1 w [.slice a0 A.length c0, .slice a0s B.length c0s] 27
    obtain ⟨W0, hW⟩ : ∃ W, (w.alloc (.cells #[.slice a0 A.length c0, .slice a0s B.length c0s] 27)) = W := ⟨_, rfl⟩
    rw [hW] at f0 hW0 hsz ⊢
    clear hW hsz
    refine (c_IsSolution _ _ _ _ _ (hA.below hW0)).mono ?_; rintro e g0 ⟨rfl, hbg0⟩
    have hB0 := bb hW0 hbg0
    replace f0 := f0.under hbg0
    obtain ⟨cA0, cB0, -, -⟩ := two_cells f0
    clear hbg0
    have HB := Lib.hid hB0
    clear hB0 hW0
    go_wp2
    go_ret2
    exact ⟨by simp [soRes, soCode, HQ.out], HB.out⟩
  have HP0 := Lib.hid hp0
  obtain ⟨n0, b0, o0, c0, rb0, ro0, rc0, b0s, o0s, c0s, rb0s, ro0s, rc0s, rfl, rfl, hl0, hl0s, hn0, hx0, hc0, hm0, hc0s, hm0s, t0, t0s⟩ := hA.tabs (isSol_pm hp0)
  have HL0 := Lib.hid hl0; clear hl0
  have HL0s := Lib.hid hl0s; clear hl0s
  go_enter Try.func80, Try.ntmps80
  go_wp2_with fail
  obtain ⟨f0, hW0, hsz⟩ := boxes1 w [.slice (some ⟨b0, o0, none⟩) n0 c0, .slice (some ⟨b0s, o0s, none⟩) n0 c0s] 27
  obtain ⟨W0, hW⟩ : ∃ W, (w.alloc (.cells #[.slice (some ⟨b0, o0, none⟩) n0 c0, .slice (some ⟨b0s, o0s, none⟩) n0 c0s] 27)) = W := ⟨_, rfl⟩
  rw [hW] at f0 hW0 hsz ⊢
  clear hW hsz
  refine (c_IsSolution _ _ _ _ _ (hA.below hW0)).mono ?_; rintro e g0 ⟨rfl, hbg0⟩
  have hB0 := bb hW0 hbg0
  replace f0 := f0.under hbg0
  obtain ⟨cA0, cB0, -, -⟩ := two_cells f0
  clear hbg0
  have hperm := pmL_perm (isSol_pm HP0.out) (isSol_coll HP0.out)
  rw [HL0.out] at hperm
  have HPm := Lib.hid hperm
  have HT := Lib.hid (t0.below hB0); have HTs := Lib.hid (t0s.below hB0); have HW := Lib.hid hB0; have HF := Lib.hid f0
  clear hB0 hW0 t0 t0s f0 hA hperm
  have hnn : n0 * n0 ≤ 144 := Nat.mul_le_mul hx0 hx0
  have hnnI : (n0 : Int) * n0 ≤ 144 := by exact_mod_cast hnn
  have hnnJ : (0 : Int) ≤ (n0 : Int) * n0 := by exact_mod_cast Nat.zero_le _
  go_wp2
  go_loopw [5, 6, 7, 8, 9, 19] (fun o _ _ _ _ i wr => ∃ (k : Nat) (o' : Int), k ≤ n0 * n0 ∧ i = .int .i64 k ∧ o = .int .i64 o' ∧ 1 ≤ o' ∧ o' ≤ 1000000 ∧ Hid (o' = ordS (pmL A B n0) k) ∧ Hid (∀ j, j < k → ordS (pmL A B n0) (j + 1) ≤ 1000000) ∧ Hid (Below g0.heap.size g0 wr)) (fun _ _ _ _ _ i _ => n0 * n0 - (intOf i).toNat)
  case atStart => exact ⟨0, 1, Nat.zero_le _, rfl, rfl, by omega, by omega, Lib.hid rfl, Lib.hid (by intro j hj; omega), Lib.hid (Below.refl _ _)⟩
  case round =>
    obtain ⟨k, o, hk, rfl, rfl, ho1, ho2, HO, HA, HB⟩ := hrel
    obtain ⟨wo, rfl⟩ : ∃ wo : World, wo = wr := ⟨_, rfl⟩
    by_cases hlt : k < n0 * n0
    · have hltI : (k : Int) < (n0 : Int) * n0 := by exact_mod_cast hlt
      obtain ⟨d1, d2, d3, d4⟩ := divI hlt hn0
      have T := HT.out.below HB.out; have Ts := HTs.out.below HB.out
      have hd1 : k / n0 < n0 := div_lt_sq hlt
      have hd2 : k % n0 < n0 := Nat.mod_lt k (by omega)
      have r1 := T.row (k / n0) hd1; have r2 := Ts.row (k / n0) hd1
      have x1 := T.val (k / n0) (k % n0) hd1 hd2; have x2 := Ts.val (k / n0) (k % n0) hd1 hd2
      rw [Int.natCast_ediv, Int.natCast_emod] at x1 x2
      obtain ⟨b1, b2⟩ := T.rng ((k : Int) / (n0 : Int)) ((k : Int) % (n0 : Int)) d1 d2 d3 d4
      obtain ⟨b3, b4⟩ := Ts.rng ((k : Int) / (n0 : Int)) ((k : Int) % (n0 : Int)) d1 d2 d3 d4
      obtain ⟨cA2, cB2, -, -⟩ := two_cells (HF.out.under HB.out)
      obtain ⟨X0, hX0⟩ : ∃ x : Int, x = val2 A ((k : Int) / (n0 : Int)) ((k : Int) % (n0 : Int)) := ⟨_, rfl⟩
      obtain ⟨Y0, hY0⟩ : ∃ x : Int, x = val2 B ((k : Int) / (n0 : Int)) ((k : Int) % (n0 : Int)) := ⟨_, rfl⟩
      rw [← hX0] at x1 b1 b2; rw [← hY0] at x2 b3 b4
      have hcode : X0 * (n0 : Int) + Y0 = nth (pmL A B n0) k := by
        have e := code_div (n := n0) (x := (k : Int) / (n0 : Int)) d3 d4
        have := nth_pmL (A := A) (B := B) (n := n0) d1 d2 d3 d4
        rw [← hX0, ← hY0, show (k : Int) / (n0 : Int) * (n0 : Int) + (k : Int) % (n0 : Int) = k from by have := Int.emod_add_mul_ediv (k : Int) n0; rw [Int.mul_comm] at this; omega] at this
        exact this.symm
      have HCode := Lib.hid hcode
      clear T Ts hX0 hY0 hcode
      go_wp2
      go_quiet (fail)
      go_wp2
      go_loopw [7, 8, 9] (fun x y r wr => ∃ (X Y : Int) (r' : Nat), x = .int .i64 X ∧ y = .int .i64 Y ∧ r = .int .i64 r' ∧ 0 ≤ X ∧ X < n0 ∧ 0 ≤ Y ∧ Y < n0 ∧ 1 ≤ r' ∧ Hid (X * (n0 : Int) + Y = iter (nth (pmL A B n0)) r' k) ∧ Hid (∀ j, 1 ≤ j → j < r' → iter (nth (pmL A B n0)) j k ≠ k) ∧ Hid (Below g0.heap.size g0 wr)) (fun _ _ r _ => n0 * n0 + 1 - (intOf r).toNat)
      case atStart => exact ⟨X0, Y0, 1, rfl, rfl, rfl, b1, b2, b3, b4, Nat.le_refl _, HCode, Lib.hid (by intro j h1 h2; omega), Lib.hid (below_drewN HB.out _)⟩
      case round =>
        clear HCode x1 x2 b1 b2 b3 b4 r1 r2 d1 d2 d3 d4 cA2 cB2
        obtain ⟨X, Y, r, rfl, rfl, rfl, hX0, hX1, hY0, hY1, hr1, HC, HNo, HB2⟩ := hrel
        have hrc := cyc_bound HPm.out (k := (k : Int)) (by omega) (by rw [pmL_length]; omega) HNo.out hr1
        have hcl := (cyc_le HPm.out (k := (k : Int)) (by omega) (by rw [pmL_length]; omega)).2
        rw [pmL_length] at hcl
        obtain ⟨m1, m2⟩ := code_mul hx0 hX0 hX1
        have hr144 : r ≤ 144 := by omega
        by_cases he : X * (n0 : Int) + Y = k
        · have e1 : (X * (n0 : Int) + Y != (k : Int)) = false := by simp [he]
          have hcy : cyc (pmL A B n0) k = r := cyc_eq ⟨hr1, by rw [← HC.out]; exact he, HNo.out⟩
          have hor : ordS (pmL A B n0) (k + 1) = o / gcdI o r * r := by
            show ordS _ k / gcdI (ordS _ k) (cyc _ k) * cyc _ k = _
            rw [hcy, ← HO.out]
          obtain ⟨⟨s1, s2⟩, ⟨s3, s4⟩, s5, s6⟩ := ord_step ho1 ho2 hr1 hr144
          have s7 : (gcdI o r == 0) = false := by simp; omega
          have hop := ordS_pos HPm.out (k + 1) (by rw [pmL_length]; omega)
          rw [hor] at hop
          have HOr := Lib.hid hor; have HE := Lib.hid he
          clear he hcy hor hrc hcl
          go_wp2_with fail
          refine (c_divisorOf o r _ (by omega) (by omega) (by omega) (by omega)).mono ?_; rintro e w3 ⟨rfl, hb3⟩
          have HB3 := Lib.hid (bb HB2.out hb3); clear hb3
          obtain ⟨q, hq⟩ : ∃ q, gcdI o r = q := ⟨_, rfl⟩
          rw [hq] at s1 s2 s3 s4 s5 s6 s7 hop ⊢
          rw [hq] at HOr
          clear hq
          by_cases hlim : 1000000 < o / q * r
          · have HLm := Lib.hid hlim
            go_wp2
            go_ret2
            obtain ⟨q1, q2⟩ := so_lim HP0.out HL0.out hlt (by rw [HOr.out]; exact HLm.out)
            exact ⟨by simp [q1, q2], bb HW.out HB3.out⟩
          · have HLm := Lib.hid hlim
            go_wp2
            go_roundw
            case rel => exact ⟨k + 1, o / q * r, by omega, by go_num, rfl, by omega, by have := HLm.out; omega, Lib.hid HOr.out.symm, Lib.hid (lt_snocP HA.out (by rw [HOr.out]; have := HLm.out; omega)), HB3⟩
            case measure => simp [intOf]; omega
        · have e1 : (X * (n0 : Int) + Y != (k : Int)) = true := by simp [he]
          have hrc2 := cyc_bound HPm.out (k := (k : Int)) (r := r + 1) (by omega) (by rw [pmL_length]; omega) (fun j j1 j2 => by
            by_cases ej : j = r
            · subst ej; rw [← HC.out]; exact he
            · exact HNo.out j j1 (by omega)) (by omega)
          have HE := Lib.hid he
          have T := HT.out.below HB2.out; have Ts := HTs.out.below HB2.out
          have r1 := T.rowi X hX0 hX1; have r2 := Ts.rowi X hX0 hX1
          have x1 := T.vali X Y hX0 hX1 hY0 hY1; have x2 := Ts.vali X Y hX0 hX1 hY0 hY1
          obtain ⟨b1, b2⟩ := T.rng X Y hX0 hX1 hY0 hY1
          obtain ⟨b3, b4⟩ := Ts.rng X Y hX0 hX1 hY0 hY1
          obtain ⟨cA2, cB2, -, -⟩ := two_cells (HF.out.under HB2.out)
          have HRc := Lib.hid hrc2
          clear T Ts he hrc2 hrc
          go_wp2
          go_quiet (fail)
          go_wp2
          go_roundw
          case rel =>
            refine ⟨val2 A X Y, val2 B X Y, r + 1, rfl, rfl, by go_num, b1, b2, b3, b4, by omega, Lib.hid ?_, Lib.hid ?_, Lib.hid (below_drewN HB2.out _)⟩
            · show _ = nth (pmL A B n0) (iter (nth (pmL A B n0)) r k)
              rw [← HC.out, nth_pmL hX0 hX1 hY0 hY1]
            · intro j j1 j2
              by_cases ej : j = r
              · subst ej; rw [← HC.out]; exact HE.out
              · exact HNo.out j j1 (by omega)
          case measure => have := HRc.out; simp [intOf]; omega
    · obtain rfl : k = n0 * n0 := by omega
      have hh := so_all HP0.out HL0.out HA.out
      have HH := Lib.hid hh
      go_wp2
      go_ret2
      exact ⟨by simp [HH.out.1, HH.out.2, HO.out], bb HW.out HB.out⟩

theorem code_nat {n x y : Nat} (hx : x < n) (hy : y < n) : x * n + y < n * n := by
  have := code_lt (n := n) (x := (x : Int)) (y := (y : Int)) (by omega) (by omega) (by omega) (by omega)
  have h := this.2
  rw [← Int.natCast_mul, ← Int.natCast_add] at h
  exact Int.ofNat_lt.1 h


end Go.Proofs.Ytkcobfkmeaakoaa

namespace Go.Proofs.Ytkcobfkmeaakoaa

def InR (n : Nat) (x : Int) : Prop := 0 ≤ x ∧ x < n
theorem InR.nat {n : Nat} {x : Int} (h : InR n x) : ∃ k : Nat, k < n ∧ x = k := ⟨x.toNat, by unfold InR at h; omega, by unfold InR at h; omega⟩
theorem InR.of {n k : Nat} (h : k < n) : InR n (k : Int) := ⟨by omega, by omega⟩
/-- No two pairs are led to the same one. -/
def Inj (n : Nat) (F G : Int → Int → Int) : Prop := ∀ x y u v : Int, InR n x → InR n y → InR n u → InR n v → F x y = F u v → G x y = G u v → x = u ∧ y = v
/-- The equation. -/
def Yb (n : Nat) (F G : Int → Int → Int) : Prop := ∀ x y z : Int, InR n x → InR n y → InR n z →
  F (F x y) (F (G x y) z) = F x (F y z) ∧ G (F x y) (F (G x y) z) = F (G x (F y z)) (G y z) ∧ G (G x y) z = G (G x (F y z)) (G y z)
def Rng (n : Nat) (F G : Int → Int → Int) : Prop := ∀ x y : Int, InR n x → InR n y → InR n (F x y) ∧ InR n (G x y)

theorem pm_rng {A B : List (List Int)} (hp : isPM A B = true) : Rng A.length (val2 A) (val2 B) := by
  obtain ⟨h1, h2, h3⟩ := isPM_parts hp
  intro x y hx hy
  refine ⟨val2_lt h1 hx.1 hx.2 hy.1 hy.2, ?_⟩
  have := val2_lt h2 hx.1 (by rw [← h3]; exact hx.2) hy.1 (by rw [← h3]; exact hy.2)
  rw [← h3] at this; exact this
theorem coll_iff {A B : List (List Int)} (hp : isPM A B = true) : collL A B = [] ↔ Inj A.length (val2 A) (val2 B) := by
  obtain ⟨h1, h2, h3⟩ := isPM_parts hp
  obtain ⟨l1, l2⟩ := isTab_len h1
  have hr := pm_rng hp
  constructor
  · intro hc x y u v hx hy hu hv e1 e2
    have hP := pmL_perm hp hc
    have c1 := code_lt hx.1 hx.2 hy.1 hy.2
    have c2 := code_lt hu.1 hu.2 hv.1 hv.2
    have e : nth (pmL A B A.length) (x * A.length + y) = nth (pmL A B A.length) (u * A.length + v) := by
      rw [nth_pmL hx.1 hx.2 hy.1 hy.2, nth_pmL hu.1 hu.2 hv.1 hv.2, e1, e2]
    have := perm_inj hP c1.1 (by rw [pmL_length]; exact c1.2) c2.1 (by rw [pmL_length]; exact c2.2) e
    exact code_inj hy.1 hy.2 hv.1 hv.2 this
  · intro hi
    unfold collL
    refine quad_none (find2_none fun a ha b hb => ?_)
    have a1 := div_lt_sq ha; have a2 := Nat.mod_lt a (show 0 < A.length by omega)
    have b1 := div_lt_sq hb; have b2 := Nat.mod_lt b (show 0 < A.length by omega)
    have g1 := Nat.div_add_mod a A.length
    have g2 := Nat.div_add_mod b A.length
    unfold colP
    by_cases e1 : val2 A (a / A.length : Nat) (a % A.length : Nat) = val2 A (b / A.length : Nat) (b % A.length : Nat)
    · by_cases e2 : val2 B (a / A.length : Nat) (a % A.length : Nat) = val2 B (b / A.length : Nat) (b % A.length : Nat)
      · obtain ⟨f1, f2⟩ := hi _ _ _ _ (InR.of a1) (InR.of a2) (InR.of b1) (InR.of b2) e1 e2
        have : a = b := by rw [← g1, ← g2, show a / A.length = b / A.length by omega, show a % A.length = b % A.length by omega]
        simp [this]
      · simp only [e2, decide_false, Bool.and_false]
    · simp only [e1, decide_false, Bool.false_and, Bool.and_false]
theorem find3_none' {n : Nat} {P : Nat → Nat → Nat → Bool} (h : find3 n P = none) {x y z : Nat} (hx : x < n) (hy : y < n) (hz : z < n) : P x y z = false := by
  unfold find3 at h
  rw [List.findSome?_eq_none_iff] at h
  have h1 := h x (by simpa using hx)
  simp only [Option.map_eq_none_iff] at h1
  exact find2_none' h1 hy hz
theorem yF_iff {A B : List (List Int)} : yF A B = [] ↔ Yb A.length (val2 A) (val2 B) := by
  have key : ∀ x y z : Int, yL A B x y z = yR A B x y z ↔ (val2 A (val2 A x y) (val2 A (val2 B x y) z) = val2 A x (val2 A y z) ∧ val2 B (val2 A x y) (val2 A (val2 B x y) z) = val2 A (val2 B x (val2 A y z)) (val2 B y z) ∧ val2 B (val2 B x y) z = val2 B (val2 B x (val2 A y z)) (val2 B y z)) := by
    intro x y z
    simp [yL, yR]
  constructor
  · intro h x y z hx hy hz
    obtain ⟨x, lx, rfl⟩ := hx.nat
    obtain ⟨y, ly, rfl⟩ := hy.nat
    obtain ⟨z, lz, rfl⟩ := hz.nat
    have hn : find3 A.length (yP A B) = none := by
      unfold yF at h
      cases e : find3 A.length (yP A B) with
      | none => rfl
      | some t => rw [e] at h; simp [trip] at h
    have := find3_none' hn lx ly lz
    simp only [yP, ne_eq, decide_eq_false_iff_not, Decidable.not_not] at this
    exact (key _ _ _).1 this
  · intro h
    have hn : find3 A.length (yP A B) = none := find3_none fun x hx y hy z hz => by
      have := (key x y z).2 (h x y z (InR.of hx) (InR.of hy) (InR.of hz))
      simp [yP, this]
    unfold yF
    rw [hn]; rfl
theorem isSol_iff {A B : List (List Int)} : isSol A B = true ↔ isPM A B = true ∧ Inj A.length (val2 A) (val2 B) ∧ Yb A.length (val2 A) (val2 B) := by
  constructor
  · intro h
    have hp := isSol_pm h
    exact ⟨hp, (coll_iff hp).1 (isSol_coll h), yF_iff.1 (isSol_yF h)⟩
  · rintro ⟨hp, h1, h2⟩
    simp [isSol, hp, (coll_iff hp).2 h1, yF_iff.2 h2]

/-- Two maps of pairs, inverse to each other. -/
def Back (n : Nat) (F G F' G' : Int → Int → Int) : Prop := ∀ x y : Int, InR n x → InR n y → F' (F x y) (G x y) = x ∧ G' (F x y) (G x y) = y
theorem yb_inv {n : Nat} {F G F' G' : Int → Int → Int} (r1 : Rng n F G) (r2 : Rng n F' G') (b1 : Back n F G F' G') (b2 : Back n F' G' F G) (h : Yb n F G) : Yb n F' G' := by
  intro x y z hx hy hz
  obtain ⟨ix1, iy1⟩ := r2 x y hx hy
  obtain ⟨e1, e2⟩ := b2 x y hx hy
  generalize F' x y = x1 at *
  generalize G' x y = y1 at *
  obtain ⟨iy2, iz2⟩ := r2 y1 z iy1 hz
  obtain ⟨e3, e4⟩ := b2 y1 z iy1 hz
  generalize F' y1 z = y2 at *
  generalize G' y1 z = z2 at *
  obtain ⟨ix3, iy3⟩ := r2 x1 y2 ix1 iy2
  obtain ⟨e5, e6⟩ := b2 x1 y2 ix1 iy2
  generalize F' x1 y2 = x3 at *
  generalize G' x1 y2 = y3 at *
  obtain ⟨h1, h2, h3⟩ := h x3 y3 z2 ix3 iy3 iz2
  rw [e5, e6, e3, e1] at h1
  rw [e5, e6, e3, e2] at h2
  rw [e6, e4] at h3
  obtain ⟨ip, iq⟩ := r1 y3 z2 iy3 iz2
  obtain ⟨k1, k2⟩ := b1 y3 z2 iy3 iz2
  generalize F y3 z2 = p at *
  generalize G y3 z2 = q at *
  obtain ⟨-, im⟩ := r1 x3 p ix3 ip
  obtain ⟨k3, k4⟩ := b1 x3 p ix3 ip
  rw [← h1] at k3 k4
  generalize G x3 p = m at *
  obtain ⟨k5, k6⟩ := b1 m q im iq
  rw [← h2, ← h3] at k5 k6
  rw [k5, k6, k3, k4, k1, k2]
  exact ⟨rfl, rfl, rfl⟩
theorem inj_back {n : Nat} {F G F' G' : Int → Int → Int} (b : Back n F G F' G') : Inj n F G := by
  intro x y u v hx hy hu hv e1 e2
  obtain ⟨a1, a2⟩ := b x y hx hy
  obtain ⟨c1, c2⟩ := b u v hu hv
  rw [e1, e2, c1] at a1
  rw [e1, e2, c2] at a2
  exact ⟨a1.symm, a2.symm⟩

theorem iv_back {A B : List (List Int)} (hp : isPM A B = true) (hc : collL A B = []) : Back A.length (val2 A) (val2 B) (val2 (ivA A B A.length)) (val2 (ivB A B A.length)) := by
  intro x y hx hy
  have hP := pmL_perm hp hc
  obtain ⟨hu, hv⟩ := pm_rng hp x y hx hy
  have c1 := code_lt hx.1 hx.2 hy.1 hy.2
  have e : nth (invL (pmL A B A.length)) (val2 A x y * A.length + val2 B x y) = x * A.length + y := by
    rw [← nth_pmL hx.1 hx.2 hy.1 hy.2, nth_invL hP c1.1 (by rw [pmL_length]; exact c1.2)]
  unfold ivA ivB
  rw [val2_tabOf' hu.1 hu.2 hv.1 hv.2, val2_tabOf' hu.1 hu.2 hv.1 hv.2, e]
  exact code_div hy.1 hy.2
theorem iv_rng {A B : List (List Int)} (hp : isPM A B = true) (hc : collL A B = []) : Rng A.length (val2 (ivA A B A.length)) (val2 (ivB A B A.length)) := by
  intro u v hu hv
  have hP := pmL_perm hp hc
  obtain ⟨h0, h1, h2⟩ := iv_range hP hu.1 hu.2 hv.1 hv.2
  obtain ⟨x, y, hx, hy, e⟩ := code_ex h0 h1
  unfold ivA ivB
  rw [val2_tabOf' hu.1 hu.2 hv.1 hv.2, val2_tabOf' hu.1 hu.2 hv.1 hv.2, e]
  obtain ⟨d1, d2⟩ := code_div (n := A.length) (x := x) hy.1 hy.2
  rw [d1, d2]
  exact ⟨hx, hy⟩
theorem iv_forth {A B : List (List Int)} (hp : isPM A B = true) (hc : collL A B = []) : Back A.length (val2 (ivA A B A.length)) (val2 (ivB A B A.length)) (val2 A) (val2 B) := by
  intro u v hu hv
  have hP := pmL_perm hp hc
  obtain ⟨h0, h1, h2⟩ := iv_range hP hu.1 hu.2 hv.1 hv.2
  obtain ⟨x, y, hx, hy, e⟩ := code_ex h0 h1
  unfold ivA ivB
  rw [val2_tabOf' hu.1 hu.2 hv.1 hv.2, val2_tabOf' hu.1 hu.2 hv.1 hv.2, e]
  obtain ⟨d1, d2⟩ := code_div (n := A.length) (x := x) hy.1 hy.2
  rw [d1, d2]
  rw [e, nth_pmL hx.1 hx.2 hy.1 hy.2] at h2
  obtain ⟨-, g2⟩ := pm_rng hp x y hx hy
  exact code_inj g2.1 g2.2 hv.1 hv.2 h2
@[simp] theorem ivA_len (A B : List (List Int)) (n : Nat) : (ivA A B n).length = n := by simp [ivA]
@[simp] theorem ivB_len (A B : List (List Int)) (n : Nat) : (ivB A B n).length = n := by simp [ivB]
theorem iv_pm' {A B : List (List Int)} (hp : isPM A B = true) (hc : collL A B = []) : isPM (ivA A B A.length) (ivB A B A.length) = true := by
  have hl := isTab_len (isPM_parts hp).1
  have hr := iv_rng hp hc
  have ha : isTab (ivA A B A.length) = true := isTab_tabOf hl.1 hl.2 fun x y hx hy => by
    have := (hr x y (InR.of hx) (InR.of hy)).1
    unfold ivA at this
    rw [val2_tabOf' (by omega) (by omega) (by omega) (by omega)] at this; exact this
  have hb : isTab (ivB A B A.length) = true := isTab_tabOf hl.1 hl.2 fun x y hx hy => by
    have := (hr x y (InR.of hx) (InR.of hy)).2
    unfold ivB at this
    rw [val2_tabOf' (by omega) (by omega) (by omega) (by omega)] at this; exact this
  simp [isPM, ha, hb]
theorem iv_sol {A B : List (List Int)} (h : isSol A B = true) : isSol (ivA A B A.length) (ivB A B A.length) = true := by
  obtain ⟨hp, h1, h2⟩ := isSol_iff.1 h
  have hc := (coll_iff hp).2 h1
  refine isSol_iff.2 ⟨iv_pm' hp hc, ?_, ?_⟩
  · rw [ivA_len]; exact inj_back (iv_forth hp hc)
  · rw [ivA_len]; exact yb_inv (pm_rng hp) (iv_rng hp hc) (iv_back hp hc) (iv_forth hp hc) h2
/-- A table is what its values say. -/
theorem tab_ext {S T : List (List Int)} (hS : isTab S = true) (hT : isTab T = true) (hl : S.length = T.length) (h : ∀ x y : Int, InR S.length x → InR S.length y → val2 S x y = val2 T x y) : S = T := by
  rw [← tabOf_val2 hS, ← tabOf_val2 hT, ← hl]
  exact tabOf_congr fun x y hx hy => h x y (InR.of hx) (InR.of hy)
theorem iv_iv {A B : List (List Int)} (h : isSol A B = true) : ivA (ivA A B A.length) (ivB A B A.length) A.length = A ∧ ivB (ivA A B A.length) (ivB A B A.length) A.length = B := by
  obtain ⟨hp, h1, h2⟩ := isSol_iff.1 h
  have hc := (coll_iff hp).2 h1
  have h' := iv_sol h
  obtain ⟨hp', h1', h2'⟩ := isSol_iff.1 h'
  have hc' := (coll_iff hp').2 h1'
  have k1 := iv_back hp' hc'
  have k2 := iv_forth hp hc
  have k3 := iv_back hp hc
  have k4 := iv_pm' hp' hc'
  have hr := pm_rng hp
  have hr3 := iv_rng hp' hc'
  rw [ivA_len] at k1 k4 hr3
  obtain ⟨t1, t2, t3⟩ := isPM_parts hp
  obtain ⟨s1, s2, s3⟩ := isPM_parts k4
  have key : ∀ x y : Int, InR A.length x → InR A.length y → val2 A x y = val2 (ivA (ivA A B A.length) (ivB A B A.length) A.length) x y ∧ val2 B x y = val2 (ivB (ivA A B A.length) (ivB A B A.length) A.length) x y := by
    intro x y hx hy
    obtain ⟨hu, hv⟩ := hr x y hx hy
    obtain ⟨a1, a2⟩ := k1 _ _ hu hv
    obtain ⟨b1, b2⟩ := k3 x y hx hy
    rw [b1, b2] at a1 a2
    exact ⟨a1.symm, a2.symm⟩
  exact ⟨(tab_ext t1 s1 (by simp) fun x y hx hy => (key x y hx hy).1).symm, (tab_ext t2 s2 (by rw [ivB_len, t3]) fun x y hx hy => (key x y (by rw [t3]; exact hx) (by rw [t3]; exact hy)).2).symm⟩

theorem invol_iff {A B : List (List Int)} : involL A B = true ↔ ∀ x y : Int, InR A.length x → InR A.length y → val2 A (val2 A x y) (val2 B x y) = x ∧ val2 B (val2 A x y) (val2 B x y) = y := by
  unfold involL
  rw [all2_iff]
  constructor
  · intro h x y hx hy
    obtain ⟨x, lx, rfl⟩ := hx.nat
    obtain ⟨y, ly, rfl⟩ := hy.nat
    have := h x lx y ly
    simpa [ivF] using this
  · intro h x hx y hy
    have := h x y (InR.of hx) (InR.of hy)
    simp [ivF, this.1, this.2]
theorem invol_own {A B : List (List Int)} (h : isSol A B = true) : (decide (A = ivA A B A.length) && decide (B = ivB A B A.length)) = involL A B := by
  obtain ⟨hp, h1, h2⟩ := isSol_iff.1 h
  have hc := (coll_iff hp).2 h1
  have hr := pm_rng hp
  have k3 := iv_back hp hc
  have k4 := iv_pm' hp hc
  obtain ⟨t1, t2, t3⟩ := isPM_parts hp
  obtain ⟨s1, s2, s3⟩ := isPM_parts k4
  rw [Bool.eq_iff_iff, invol_iff, Bool.and_eq_true, decide_eq_true_eq, decide_eq_true_eq]
  constructor
  · rintro ⟨e1, e2⟩ x y hx hy
    have := k3 x y hx hy
    rw [← e1, ← e2] at this
    exact this
  · intro hi
    have key : ∀ x y : Int, InR A.length x → InR A.length y → val2 A x y = val2 (ivA A B A.length) x y ∧ val2 B x y = val2 (ivB A B A.length) x y := by
      intro x y hx hy
      obtain ⟨hu, hv⟩ := hr x y hx hy
      obtain ⟨a1, a2⟩ := k3 _ _ hu hv
      obtain ⟨b1, b2⟩ := hi x y hx hy
      rw [b1, b2] at a1 a2
      exact ⟨a1.symm, a2.symm⟩
    exact ⟨tab_ext t1 s1 (by simp) fun x y hx hy => (key x y hx hy).1, tab_ext t2 s2 (by rw [ivB_len, t3]) fun x y hx hy => (key x y (by rw [t3]; exact hx) (by rw [t3]; exact hy)).2⟩

/-! The mirror. -/
theorem val2_transL {B : List (List Int)} {x y : Int} (hx : InR B.length x) (hy : InR B.length y) : val2 (transL B) x y = val2 B y x := by
  unfold transL; rw [val2_tabOf' hx.1 hx.2 hy.1 hy.2]
@[simp] theorem transL_len (B : List (List Int)) : (transL B).length = B.length := by simp [transL]
theorem mi_pm {A B : List (List Int)} (hp : isPM A B = true) : isPM (transL B) (transL A) = true := by
  obtain ⟨t1, t2, t3⟩ := isPM_parts hp
  simp [isPM, isTab_transL t1, isTab_transL t2, t3]
theorem mi_sol {A B : List (List Int)} (h : isSol A B = true) : isSol (transL B) (transL A) = true := by
  obtain ⟨hp, h1, h2⟩ := isSol_iff.1 h
  obtain ⟨t1, t2, t3⟩ := isPM_parts hp
  have hr := pm_rng hp
  have ta : ∀ {x y : Int}, InR A.length x → InR A.length y → val2 (transL A) x y = val2 A y x := fun hx hy => val2_transL hx hy
  have tb : ∀ {x y : Int}, InR A.length x → InR A.length y → val2 (transL B) x y = val2 B y x := fun hx hy => val2_transL (by rw [← t3]; exact hx) (by rw [← t3]; exact hy)
  have hl : (transL B).length = A.length := by simp [t3]
  refine isSol_iff.2 ⟨mi_pm hp, ?_, ?_⟩
  · rw [hl]
    intro x y u v hx hy hu hv e1 e2
    rw [tb hx hy, tb hu hv] at e1
    rw [ta hx hy, ta hu hv] at e2
    obtain ⟨a, b⟩ := h1 y x v u hy hx hv hu e2 e1
    exact ⟨b, a⟩
  · rw [hl]
    intro x y z hx hy hz
    obtain ⟨k1, k2, k3⟩ := h2 z y x hz hy hx
    obtain ⟨r1, r2⟩ := hr y x hy hx
    obtain ⟨r3, r4⟩ := hr z y hz hy
    obtain ⟨r5, r6⟩ := hr z (val2 A y x) hz r1
    obtain ⟨r7, r8⟩ := hr (val2 B z y) x r4 hx
    rw [tb hx hy, ta hx hy, tb hy hz, ta hy hz, tb r1 hz, ta r1 hz, tb hx r4, ta hx r4, tb r2 r6, ta r2 r6, tb r7 r3, ta r7 r3]
    exact ⟨k3.symm, k2.symm, k1.symm⟩
theorem mi_nd {A B : List (List Int)} (hp : isPM A B = true) : nondegL (transL B) (transL A) = nondegL A B := by
  obtain ⟨t1, t2, t3⟩ := isPM_parts hp
  unfold nondegL
  rw [trans_trans t1, Bool.and_comm]
theorem mi_inv {A B : List (List Int)} (hp : isPM A B = true) : involL (transL B) (transL A) = involL A B := by
  obtain ⟨t1, t2, t3⟩ := isPM_parts hp
  have hr := pm_rng hp
  have ta : ∀ {x y : Int}, InR A.length x → InR A.length y → val2 (transL A) x y = val2 A y x := fun hx hy => val2_transL hx hy
  have tb : ∀ {x y : Int}, InR A.length x → InR A.length y → val2 (transL B) x y = val2 B y x := fun hx hy => val2_transL (by rw [← t3]; exact hx) (by rw [← t3]; exact hy)
  have hl : (transL B).length = A.length := by simp [t3]
  rw [Bool.eq_iff_iff, invol_iff, invol_iff, hl]
  constructor
  · intro h x y hx hy
    obtain ⟨r1, r2⟩ := hr x y hx hy
    have := h y x hy hx
    rw [tb hy hx, ta hy hx, tb r2 r1, ta r2 r1] at this
    exact ⟨this.2, this.1⟩
  · intro h x y hx hy
    obtain ⟨r1, r2⟩ := hr y x hy hx
    have := h y x hy hx
    rw [tb hx hy, ta hx hy, tb r2 r1, ta r2 r1]
    exact ⟨this.2, this.1⟩
theorem mi_sq {A B : List (List Int)} (hp : isPM A B = true) : all1 (transL B).length (sqF (transL B) (transL A)) = all1 A.length (sqF A B) := by
  obtain ⟨t1, t2, t3⟩ := isPM_parts hp
  have ta : ∀ {x y : Int}, InR A.length x → InR A.length y → val2 (transL A) x y = val2 A y x := fun hx hy => val2_transL hx hy
  have tb : ∀ {x y : Int}, InR A.length x → InR A.length y → val2 (transL B) x y = val2 B y x := fun hx hy => val2_transL (by rw [← t3]; exact hx) (by rw [← t3]; exact hy)
  have hl : (transL B).length = A.length := by simp [t3]
  have key : ∀ x, x < A.length → sqF (transL B) (transL A) x = sqF A B x := fun x hx => by
    unfold sqF
    rw [ta (InR.of hx) (InR.of hx), tb (InR.of hx) (InR.of hx), Bool.and_comm]
  rw [Bool.eq_iff_iff, all1_iff, all1_iff, hl]
  exact ⟨fun h x hx => by rw [← key x hx]; exact h x hx, fun h x hx => by rw [key x hx]; exact h x hx⟩

/-! The order. -/
theorem gcd_dvd {a b : Int} (ha : 0 < a) (hb : 0 < b) : 0 < gcdI a b ∧ gcdI a b ≤ b ∧ ∃ c, 1 ≤ c ∧ a = gcdI a b * c := by
  have h1 := gcdI_pos hb ha
  refine ⟨h1.1, ?_, ?_⟩
  · have := Nat.gcd_le_right a.toNat (show 0 < b.toNat by omega)
    unfold gcdI; omega
  · obtain ⟨c, hc⟩ := Nat.gcd_dvd_left a.toNat b.toNat
    have hc' : a = gcdI a b * (c : Int) := by
      have h2 : ((a.toNat : Nat) : Int) = ((Nat.gcd a.toNat b.toNat * c : Nat) : Int) := congrArg _ hc
      rw [Int.natCast_mul, Int.toNat_of_nonneg (by omega)] at h2
      exact h2
    refine ⟨c, ?_, hc'⟩
    rcases Nat.eq_zero_or_pos c with e | e
    · subst e; simp at hc'; omega
    · omega
theorem lcm_ge {o : Int} {r : Nat} (ho : 1 ≤ o) (hr : 1 ≤ r) : o ≤ o / gcdI o r * r ∧ (r : Int) ≤ o / gcdI o r * r := by
  obtain ⟨h1, h2, c, hc, e⟩ := gcd_dvd (a := o) (b := (r : Int)) (by omega) (by omega)
  have e2 : o / gcdI o r = c := by
    have := Int.mul_ediv_cancel_left c (show gcdI o r ≠ 0 by omega)
    rw [← e] at this; exact this
  rw [e2]
  constructor
  · rw [show o = c * gcdI o r by rw [Int.mul_comm]; exact e] 
    have : c * gcdI o r ≤ c * r := Int.mul_le_mul_of_nonneg_left h2 (by omega)
    rw [show c * gcdI o r = o by rw [Int.mul_comm]; exact e.symm] at this ⊢
    exact this
  · have : (1 : Int) * r ≤ c * r := Int.mul_le_mul_of_nonneg_right hc (by omega)
    omega
theorem lcm_two {o : Int} {r : Nat} (ho : o = 1 ∨ o = 2) (hr : r = 1 ∨ r = 2) : o / gcdI o r * r = 1 ∨ o / gcdI o r * r = 2 := by
  rcases ho with rfl | rfl <;> rcases hr with rfl | rfl <;> decide
theorem ordS_mono {p : List Int} (hp : Permuted p) : ∀ {k : Nat}, k < p.length → ordS p k ≤ ordS p (k + 1) ∧ (cyc p k : Int) ≤ ordS p (k + 1) := by
  intro k hk
  have h1 := ordS_pos hp k (by omega)
  have h2 := cyc_le hp (k := (k : Int)) (by omega) (by omega)
  exact lcm_ge h1 h2.1
theorem ordS_le {p : List Int} (hp : Permuted p) {k : Nat} : ∀ {m : Nat}, k ≤ m → m ≤ p.length → ordS p k ≤ ordS p m := by
  intro m
  induction m with
  | zero => intro h _; obtain rfl : k = 0 := by omega
            exact Int.le_refl _
  | succ m ih =>
    intro h hm
    rcases Nat.lt_or_ge k (m + 1) with g | g
    · exact Int.le_trans (ih (by omega) (by omega)) (ordS_mono hp (by omega)).1
    · obtain rfl : k = m + 1 := by omega
      exact Int.le_refl _
theorem ordS_two {p : List Int} (h : ∀ k : Nat, k < p.length → cyc p k = 1 ∨ cyc p k = 2) : ∀ k : Nat, k ≤ p.length → ordS p k = 1 ∨ ordS p k = 2
  | 0, _ => .inl rfl
  | k + 1, hk => lcm_two (ordS_two h k (by omega)) (h k (by omega))
theorem so_inv {A B : List (List Int)} (h : isSol A B = true) : (soCode A B = 3 ∧ involL A B = false) ∨ (soCode A B = 0 ∧ involL A B = decide (soRes A B ≤ 2)) := by
  obtain ⟨hp, h1, h2⟩ := isSol_iff.1 h
  have hc := (coll_iff hp).2 h1
  have hP := pmL_perm hp hc
  have hl := isTab_len (isPM_parts hp).1
  have hr := pm_rng hp
  have two : ∀ x y : Int, InR A.length x → InR A.length y → iter (nth (pmL A B A.length)) 2 (x * A.length + y) = val2 A (val2 A x y) (val2 B x y) * A.length + val2 B (val2 A x y) (val2 B x y) := by
    intro x y hx hy
    obtain ⟨r1, r2⟩ := hr x y hx hy
    show nth (pmL A B A.length) (nth (pmL A B A.length) (x * A.length + y)) = _
    rw [nth_pmL hx.1 hx.2 hy.1 hy.2, nth_pmL r1.1 r1.2 r2.1 r2.2]
  by_cases hi : involL A B = true
  · have hcyc : ∀ k : Nat, k < (pmL A B A.length).length → cyc (pmL A B A.length) k = 1 ∨ cyc (pmL A B A.length) k = 2 := by
      intro k hk
      rw [pmL_length] at hk
      obtain ⟨x, y, hx, hy, e⟩ := code_ex (n := A.length) (k := (k : Int)) (by omega) (by omega)
      have e2 := two x y hx hy
      obtain ⟨i1, i2⟩ := invol_iff.1 hi x y hx hy
      rw [i1, i2, ← e] at e2
      have hcl := cyc_le hP (k := (k : Int)) (by omega) (by rw [pmL_length]; omega)
      obtain ⟨s, hs, _⟩ := isCyc_ex hP (k := (k : Int)) (by omega) (by rw [pmL_length]; omega)
      rw [cyc_eq hs]
      rcases Nat.lt_or_ge 2 s with g | g
      · exact absurd e2 (hs.2.2 2 (by omega) g)
      · have := hs.1; omega
    have h3 := ordS_two hcyc
    rw [pmL_length] at h3
    obtain ⟨a1, a2⟩ := so_all h rfl (n := A.length) fun j hj => by have := h3 (j + 1) (by omega); omega
    right
    refine ⟨a2, ?_⟩
    have := h3 _ (Nat.le_refl _)
    rw [hi, a1, eq_comm, decide_eq_true_eq]; omega
  · have hex : ∃ x y : Int, InR A.length x ∧ InR A.length y ∧ ¬ (val2 A (val2 A x y) (val2 B x y) = x ∧ val2 B (val2 A x y) (val2 B x y) = y) := by
      apply Classical.byContradiction
      intro hno
      apply hi
      rw [invol_iff]
      intro x y hx hy
      apply Classical.byContradiction
      intro hxy
      exact hno ⟨x, y, hx, hy, hxy⟩
    obtain ⟨x, y, hx, hy, hne⟩ := hex
    obtain ⟨c0, c1⟩ := code_lt hx.1 hx.2 hy.1 hy.2
    obtain ⟨k, hk⟩ : ∃ k : Nat, x * A.length + y = k := ⟨(x * A.length + y).toNat, by omega⟩
    have hk2 : k < A.length * A.length := by omega
    have e2 := two x y hx hy
    obtain ⟨s, hs, _⟩ := isCyc_ex hP (k := (k : Int)) (by omega) (by rw [pmL_length]; omega)
    have hs3 : 3 ≤ s := by
      have hne2 : iter (nth (pmL A B A.length)) 2 (k : Int) ≠ k := by
        intro e
        rw [hk] at e2
        rw [e2] at e
        rw [← hk] at e
        obtain ⟨r1, r2⟩ := hr x y hx hy
        obtain ⟨r3, r4⟩ := hr _ _ r1 r2
        obtain ⟨f1, f2⟩ := code_inj r4.1 r4.2 hy.1 hy.2 e
        exact hne ⟨f1, f2⟩
      rcases Nat.lt_or_ge s 3 with g | g
      · exfalso
        have hs1 := hs.1
        apply hne2
        have : s = 1 ∨ s = 2 := by omega
        rcases this with rfl | rfl
        · have e1 : nth (pmL A B A.length) (k : Int) = k := hs.2.1
          show nth (pmL A B A.length) (nth (pmL A B A.length) (k : Int)) = k
          rw [e1, e1]
        · exact hs.2.1
      · exact g
    have hm := ordS_mono hP (k := k) (by rw [pmL_length]; exact hk2)
    rw [cyc_eq hs] at hm
    have hle := ordS_le hP (k := k + 1) (m := A.length * A.length) (by omega) (by rw [pmL_length]; exact Nat.le_refl _)
    have hi' : involL A B = false := by simpa using hi
    by_cases hall : ∀ j, j < A.length * A.length → ordS (pmL A B A.length) (j + 1) ≤ 1000000
    · obtain ⟨a1, a2⟩ := so_all h rfl (n := A.length) hall
      right
      refine ⟨a2, ?_⟩
      rw [hi', a1, eq_comm, decide_eq_false_iff_not]; omega
    · have : ∃ j, j < A.length * A.length ∧ 1000000 < ordS (pmL A B A.length) (j + 1) := by
        apply Classical.byContradiction
        intro hno
        apply hall
        intro j hj
        apply Classical.byContradiction
        intro hg
        exact hno ⟨j, hj, by omega⟩
      obtain ⟨j, hj, hg⟩ := this
      left
      exact ⟨(so_lim h rfl hj hg).2, hi'⟩
/-- What is told as a collision is one. -/
theorem coll_some {A B : List (List Int)} (hp : isPM A B = true) (h : collL A B ≠ []) : ∃ x y u v : Nat, collL A B = [(x : Int), (y : Int), (u : Int), (v : Int)] ∧ (x < A.length ∧ y < A.length ∧ u < A.length ∧ v < A.length) ∧ val2 A x y = val2 A u v ∧ val2 B x y = val2 B u v ∧ ¬ (x = u ∧ y = v) := by
  obtain ⟨l1, l2⟩ := isTab_len (isPM_parts hp).1
  unfold collL at h ⊢
  cases e : find2 (A.length * A.length) (A.length * A.length) (colP A B A.length) with
  | none => rw [e] at h; exact absurd rfl h
  | some ab =>
    obtain ⟨a, b⟩ := ab
    unfold find2 at e
    obtain ⟨a', ha, hm⟩ := List.exists_of_findSome?_eq_some e
    simp only [Option.map_eq_some_iff, Prod.mk.injEq] at hm
    obtain ⟨b', hb', rfl, rfl⟩ := hm
    have hP := List.find?_some hb'
    have hb := List.mem_of_find?_eq_some hb'
    simp only [List.mem_range] at ha hb
    refine ⟨a' / A.length, a' % A.length, b' / A.length, b' % A.length, rfl, ⟨div_lt_sq ha, Nat.mod_lt _ (by omega), div_lt_sq hb, Nat.mod_lt _ (by omega)⟩, ?_⟩
    simp only [colP, Bool.and_eq_true, decide_eq_true_eq] at hP
    refine ⟨hP.2.1, hP.2.2, fun hh => hP.1 ?_⟩
    have g1 := Nat.div_add_mod a' A.length
    have g2 := Nat.div_add_mod b' A.length
    rw [← g1, ← g2, hh.1, hh.2]
end Go.Proofs.Ytkcobfkmeaakoaa

namespace Go.Proofs.Ytkcobfkmeaakoaa
open Go Go.RowKit

theorem Own.keep1 {B : Nat} {w : World} {v : Value} {xs : List Int} (h : Own B w v xs) {p : Addr} (z : Value) (hp : v.ownBlock ≠ some p.block) : Own B (w.setCell p z) v xs := by
  obtain ⟨hl, hn | ⟨g, cap, cur, hv, hb, hg, r⟩⟩ := h
  · exact ⟨hl, .inl hn⟩
  · refine ⟨hl, .inr ⟨g, cap, cur, hv, hb, ?_, r⟩⟩
    rw [Below.heap_setCell _ _ _ _ (by intro e; apply hp; rw [hv, ← e]; rfl)]; exact hg
theorem drew_set {b : Nat} {w w' : World} (h : Drew b w w') {p : Addr} (hp : w.heap.size ≤ p.block) (hb : b < p.block) (z : Value) : Drew b w (w'.setCell p z) :=
  ⟨h.1.keep (S := fun x => x = p.block) ((Keep.refl (fun x => x = p.block) w').setCell (p := p) (.inl rfl) z) (fun q hq e => by omega), h.2.setCell (p := p) (.inr hp) z⟩
theorem drew_app {b B : Nat} {w w1 w2 : World} {v : Value} {xss : List (List Int)} (h : Drew b w w1) (ho : OwnRows B w1 v xss) (k : Keep (fun x => v.ownBlock = some x) w1 w2) (hb : b < w.heap.size) (hB : w.heap.size ≤ B := by exact Nat.le_refl _) : Drew b w w2 :=
  ⟨h.1.keep k (fun p hp e => by have := (OwnRows.lt ho e).1; omega), h.2.chain k (fun x hx e => by have := (OwnRows.lt ho e).1; omega)⟩

set_option maxRecDepth 100000 in
set_option maxHeartbeats 4000000 in
theorem c_l01Tables (b n : Nat) (w : World) (hs : Src w b) (h1 : 1 ≤ n) (h2 : n ≤ 1000) :
    Calls Try.prog 166 #[.pointer (some ⟨b, 0, none⟩), .int .i64 n] w (fun e w' => ∃ (r : Value) (X : List (List Int)), e = .returned r ∧ X.length = n ∧ (∀ row ∈ X, row.length = n) ∧ OwnRows w.heap.size w' r X ∧ Drew b w w') := by
  have hbl := hs.lt
  have hbel : Below w.heap.size w (w.alloc (.cells #[] 25)) := (Below.refl _ _).alloc (Nat.le_refl _) _
  have HD0 := Lib.hid ((Drew.refl hs).under hbel)
  have HO0 := Lib.hid (OwnRows.made0 w (Nat.le_refl w.heap.size))
  clear hs hbel
  go_enter Try.func166, Try.ntmps166
  go_wp2_with fail
  refine (c_l01Next b 3 _ HD0.out.1 (by omega) (by omega)).mono ?_; rintro e w1 ⟨kd, rfl, k0, k3, hd1⟩
  have HD1 := Lib.hid (HD0.out.trans hd1)
  have HO1 := Lib.hid (HO0.out.keep hd1.2 (fun x h1 h2 e => by have e : x = b := e; omega))
  clear hd1
  go_wp2_with fail
  refine (c_l01Draw b n _ HD1.out.1 h1 h2).mono ?_; rintro e w2 ⟨rf, fs, rfl, hfl, hof, hd2⟩
  have HD2 := Lib.hid (HD1.out.trans hd2)
  have HO2 := Lib.hid (HO1.out.keep hd2.2 (fun x h1 h2 e => by have e : x = b := e; omega))
  rcases hof.open with ⟨_, h0⟩ | ⟨gf, cf, hv, hgf, hblk, hmx⟩
  · rw [h0] at hfl; simp at hfl; omega
  rw [hfl] at hv hmx
  subst hv
  have HF2 := Lib.hid (And.intro (hof.mono HD1.out.2.size) hfl)
  clear hof hd2 hblk hmx hgf
  go_wp2
  go_loopw [5, 8] (fun t x wr => ∃ (k : Nat) (X : List (List Int)) (ta : Option Addr) (tc : Nat), k ≤ n ∧ x = .int .i64 k ∧ t = .slice ta k tc ∧ Hid (X.length = k ∧ ∀ row ∈ X, row.length = n) ∧ Hid (OwnRows w.heap.size wr (.slice ta k tc) X) ∧ Hid (Own w.heap.size wr (.slice (some ⟨gf, 0, none⟩) n (n + cf.length)) fs ∧ fs.length = n) ∧ Hid (Drew b w wr)) (fun _ x _ => n - (intOf x).toNat)
  case atStart => exact ⟨0, [], _, _, Nat.zero_le _, rfl, rfl, Lib.hid (by simp), HO2, HF2, HD2⟩
  case round =>
    clear HO2 HF2 HD2 HO1 HD1 HO0 HD0
    obtain ⟨k, X, ta, tc, hk, rfl, rfl, HX, HO, HF, HDr⟩ := hrel
    obtain ⟨wo, rfl⟩ : ∃ wo : World, wo = wr := ⟨_, rfl⟩
    have hwo : w.heap.size ≤ wo.heap.size := HDr.out.2.size
    by_cases hlt : k < n
    · go_wp2_with fail
      refine (c_l01Draw b n _ HDr.out.1 h1 h2).mono ?_; rintro e w3 ⟨rr, ys0, rfl, hyl, hor, hd3⟩
      rcases hor.open with ⟨_, h0⟩ | ⟨g, cs, hv, hgo, hblk, hmx⟩
      · rw [h0] at hyl; simp at hyl; omega
      rw [hyl] at hv hmx
      subst hv
      have HMX := Lib.hid hmx
      have HD2 := Lib.hid (HDr.out.trans hd3); have HB2 := Lib.hid hblk; have HY0 := Lib.hid hyl
      have HR2 := Lib.hid (HO.out.inn.keep hd3.2 (fun x h1 h2 e => by have e : x = b := e; omega))
      have HF2 := Lib.hid (And.intro (hd3.own HF.out.1 hbl) (And.intro HF.out.2 (HF.out.1.lt (k := gf) rfl).2))
      clear hor hd3 hblk hmx hyl HO HF HDr
      by_cases hk0 : kd = 0
      · subst hk0
        go_wp2
        go_loopw [10] (fun y wi => ∃ (j : Nat) (ys : List Int), j ≤ n ∧ y = .int .i64 j ∧ Hid (ys.length = n) ∧ Hid (Blk wi g 2 (ys.map (Value.int .i64) ++ cs)) ∧ Hid (OwnRowsIn w.heap.size wo.heap.size wi (.slice ta k tc) X) ∧ Hid (Own w.heap.size wi (.slice (some ⟨gf, 0, none⟩) n (n + cf.length)) fs ∧ fs.length = n ∧ gf < wo.heap.size) ∧ Hid (Drew b w wi)) (fun y _ => n - (intOf y).toNat)
        case atStart => exact ⟨0, ys0, Nat.zero_le _, rfl, HY0, HB2, HR2, HF2, HD2⟩
        case round =>
          clear HY0 HB2 HR2 HF2 HD2
          obtain ⟨j, ys, hj, rfl, HY, HBk, HR, HFs, HD⟩ := hrel
          obtain ⟨wi, rfl⟩ : ∃ wi : World, wi = wr := ⟨_, rfl⟩
          by_cases hlj : j < n
          · go_wp2_with fail
            refine (c_l01Next b n _ HD.out.1 (by omega) (by omega)).mono ?_; rintro e w4 ⟨z, rfl, z0, z1, hd⟩
            have hB4 := hd.blk HBk.out (by omega)
            have hl := HY.out
            have l1 := hB4.labN j (by omega)
            have f1 := hB4.frozen j
            have s1 := hB4.labSet (j : Int) (by omega) (by omega) z
            rw [Int.toNat_natCast] at s1
            have HS := Lib.hid s1
            have HRk := Lib.hid ((HR.out.keep hd.2 (fun x h1 h2 e => by have e : x = b := e; omega)).keep ((Keep.refl (fun x => x = g) w4).setCell (p := ⟨g, j, none⟩) (.inl rfl) (.int .i64 z)) (fun x h1 h2 e => by have e : x = g := e; have := hgo; omega))
            have HFk := Lib.hid (And.intro ((hd.own HFs.out.1 hbl).keep1 (p := ⟨g, j, none⟩) (.int .i64 z) (fun e => by simp [Value.ownBlock] at e; have := HFs.out.2.2; have := hgo; omega)) HFs.out.2)
            have HDk := Lib.hid (drew_set (HD.out.trans hd) (p := ⟨g, j, none⟩) (by show w.heap.size ≤ g; have := hgo; have := hwo; omega) (by show b < g; have := hgo; have := hwo; omega) (.int .i64 z))
            clear hB4 hl s1 hd
            go_wp2
            go_roundw
            case rel => exact ⟨j + 1, _, by omega, by go_num, Lib.hid (by simpa using HY.out), HS, HRk, HFk, HDk⟩
            case measure => simp [intOf]; omega
          · have HRI := Lib.hid HR.out
            have HFi := Lib.hid HFs.out
            have HDi := Lib.hid HD.out
            have HYs := Lib.hid HY.out
            have HOr := Lib.hid (Own.shut HBk.out (Nat.le_refl _) (by rw [HYs.out]; exact HMX.out) HYs.out.symm (by rw [HYs.out]) : Own g wi (.slice (some ⟨g, 0, none⟩) n (n + cs.length)) ys)
            have HSz : Hid (wo.heap.size ≤ wi.heap.size ∧ w.heap.size ≤ wi.heap.size) := Lib.hid ⟨by have := HOr.out.lt (k := g) rfl; have := hgo; omega, by have := HDi.out.2.size; omega⟩
            go_wp2_with (at_builtin; refine wpList_app_row2 w.heap.size wo.heap.size wi _ X _ ys _ _ rfl rfl rfl HRI.out (HOr.out.mono (by have := hgo; omega)) rfl (by have := HX.out.1; omega) (by have := hwo; omega) HSz.out.2 ?_; intro ga gc w9 hown hkeep hor; have HOwn := Lib.hid hown; have HKp := Lib.hid hkeep; clear hown hkeep hor)
            go_roundw
            case rel =>
              have hX := HX.out
              refine ⟨k + 1, X ++ [ys], some ⟨ga, 0, none⟩, gc, by omega, by go_num, by rw [hX.1], Lib.hid ⟨by simp [hX.1], fun r hr => ?_⟩, Lib.hid (by have h := HOwn.out; rw [hX.1] at h; exact h), Lib.hid ⟨HFi.out.1.keepR HRI.out.out HKp.out, HFi.out.2.1⟩, Lib.hid (drew_app HDi.out HRI.out.out HKp.out hbl)⟩
              rcases List.mem_append.1 hr with h | h
              · exact hX.2 r h
              · simp at h; subst h; exact HYs.out
            case measure => simp [intOf]; omega
      · by_cases hk1 : kd = 1
        · subst hk1
          go_wp2
          go_loopw [11] (fun y wi => ∃ (j : Nat) (ys : List Int), j ≤ n ∧ y = .int .i64 j ∧ Hid (ys.length = n) ∧ Hid (Blk wi g 2 (ys.map (Value.int .i64) ++ cs)) ∧ Hid (OwnRowsIn w.heap.size wo.heap.size wi (.slice ta k tc) X) ∧ Hid (Own w.heap.size wi (.slice (some ⟨gf, 0, none⟩) n (n + cf.length)) fs ∧ fs.length = n ∧ gf < wo.heap.size) ∧ Hid (Drew b w wi)) (fun y _ => n - (intOf y).toNat)
          case atStart => exact ⟨0, ys0, Nat.zero_le _, rfl, HY0, HB2, HR2, HF2, HD2⟩
          case round =>
            clear HY0 HB2 HR2 HF2 HD2
            obtain ⟨j, ys, hj, rfl, HY, HBk, HR, HFs, HD⟩ := hrel
            obtain ⟨wi, rfl⟩ : ∃ wi : World, wi = wr := ⟨_, rfl⟩
            by_cases hlj : j < n
            · have hmod0 := Int.emod_nonneg ((k : Int) + (j : Int)) (show (n : Int) ≠ 0 by omega)
              have hmod1 := Int.emod_lt_of_pos ((k : Int) + (j : Int)) (show (0 : Int) < n by omega)
              obtain ⟨u, hu⟩ : ∃ u : Nat, ((k : Int) + (j : Int)) % (n : Int) = u := ⟨(((k : Int) + (j : Int)) % (n : Int)).toNat, by omega⟩
              have hun : u < n := by omega
              obtain ⟨_, _, e1, hcf⟩ := HFs.out.1.ints.get u (by rw [HFs.out.2.1]; exact hun)
              injection e1 with e1; injection e1 with e1 e2; subst e1 e2
              rw [Nat.zero_add] at hcf
              have hl := HY.out
              have l1 := HBk.out.labN j (by omega)
              have f1 := HBk.out.frozen j
              obtain ⟨z, hz⟩ : ∃ z, nth fs u = z := ⟨_, rfl⟩
              rw [hz] at hcf
              have s1 := HBk.out.labSet (j : Int) (by omega) (by omega) z
              rw [Int.toNat_natCast] at s1
              have HS := Lib.hid s1
              have HRk := Lib.hid (HR.out.keep ((Keep.refl (fun x => x = g) wi).setCell (p := ⟨g, j, none⟩) (.inl rfl) (.int .i64 z)) (fun x h1 h2 e => by have e : x = g := e; have := hgo; omega))
              have HFk := Lib.hid (And.intro (HFs.out.1.keep1 (p := ⟨g, j, none⟩) (.int .i64 z) (fun e => by simp [Value.ownBlock] at e; have := HFs.out.2.2; have := hgo; omega)) HFs.out.2)
              have HDk := Lib.hid (drew_set HD.out (p := ⟨g, j, none⟩) (by show w.heap.size ≤ g; have := hgo; have := hwo; omega) (by show b < g; have := hgo; have := hwo; omega) (.int .i64 z))
              clear hl s1 hz hmod0 hmod1
              go_wp2
              go_roundw
              case rel => exact ⟨j + 1, _, by omega, by go_num, Lib.hid (by simpa using HY.out), HS, HRk, HFk, HDk⟩
              case measure => simp [intOf]; omega
            · have HRI := Lib.hid HR.out
              have HFi := Lib.hid HFs.out
              have HDi := Lib.hid HD.out
              have HYs := Lib.hid HY.out
              have HOr := Lib.hid (Own.shut HBk.out (Nat.le_refl _) (by rw [HYs.out]; exact HMX.out) HYs.out.symm (by rw [HYs.out]) : Own g wi (.slice (some ⟨g, 0, none⟩) n (n + cs.length)) ys)
              have HSz : Hid (wo.heap.size ≤ wi.heap.size ∧ w.heap.size ≤ wi.heap.size) := Lib.hid ⟨by have := HOr.out.lt (k := g) rfl; have := hgo; omega, by have := HDi.out.2.size; omega⟩
              go_wp2_with (at_builtin; refine wpList_app_row2 w.heap.size wo.heap.size wi _ X _ ys _ _ rfl rfl rfl HRI.out (HOr.out.mono (by have := hgo; omega)) rfl (by have := HX.out.1; omega) (by have := hwo; omega) HSz.out.2 ?_; intro ga gc w9 hown hkeep hor; have HOwn := Lib.hid hown; have HKp := Lib.hid hkeep; clear hown hkeep hor)
              go_roundw
              case rel =>
                have hX := HX.out
                refine ⟨k + 1, X ++ [ys], some ⟨ga, 0, none⟩, gc, by omega, by go_num, by rw [hX.1], Lib.hid ⟨by simp [hX.1], fun r hr => ?_⟩, Lib.hid (by have h := HOwn.out; rw [hX.1] at h; exact h), Lib.hid ⟨HFi.out.1.keepR HRI.out.out HKp.out, HFi.out.2.1⟩, Lib.hid (drew_app HDi.out HRI.out.out HKp.out hbl)⟩
                rcases List.mem_append.1 hr with h | h
                · exact hX.2 r h
                · simp at h; subst h; exact HYs.out
              case measure => simp [intOf]; omega
        · have hz0 : (kd == 0) = false := by simp [hk0]
          have hz1 : (kd == 1) = false := by simp [hk1]
          have HRI := Lib.hid HR2.out
          have HFi := Lib.hid HF2.out
          have HDi := Lib.hid HD2.out
          have HYs := Lib.hid HY0.out
          have HOr := Lib.hid (Own.shut HB2.out (Nat.le_refl _) (by rw [HYs.out]; exact HMX.out) HYs.out.symm (by rw [HYs.out]) : Own g w3 (.slice (some ⟨g, 0, none⟩) n (n + cs.length)) ys0)
          have HSz : Hid (wo.heap.size ≤ w3.heap.size ∧ w.heap.size ≤ w3.heap.size) := Lib.hid ⟨by have := HOr.out.lt (k := g) rfl; have := hgo; omega, by have := HDi.out.2.size; omega⟩
          go_wp2_with (at_builtin; refine wpList_app_row2 w.heap.size wo.heap.size w3 _ X _ ys0 _ _ rfl rfl rfl HRI.out (HOr.out.mono (by have := hgo; omega)) rfl (by have := HX.out.1; omega) (by have := hwo; omega) HSz.out.2 ?_; intro ga gc w9 hown hkeep hor; have HOwn := Lib.hid hown; have HKp := Lib.hid hkeep; clear hown hkeep hor)
          go_roundw
          case rel =>
            have hX := HX.out
            refine ⟨k + 1, X ++ [ys0], some ⟨ga, 0, none⟩, gc, by omega, by go_num, by rw [hX.1], Lib.hid ⟨by simp [hX.1], fun r hr => ?_⟩, Lib.hid (by have h := HOwn.out; rw [hX.1] at h; exact h), Lib.hid ⟨HFi.out.1.keepR HRI.out.out HKp.out, HFi.out.2.1⟩, Lib.hid (drew_app HDi.out HRI.out.out HKp.out hbl)⟩
            rcases List.mem_append.1 hr with h | h
            · exact hX.2 r h
            · simp at h; subst h; exact HYs.out
          case measure => simp [intOf]; omega
    · obtain rfl : n = k := by omega
      go_wp2
      go_ret
      exact ⟨_, X, rfl, HX.out.1, HX.out.2, HO.out, HDr.out⟩
end Go.Proofs.Ytkcobfkmeaakoaa

namespace Go.Proofs.Ytkcobfkmeaakoaa
open Go Go.RowKit

/-- Integers that can be read, in a block from lo on. -/
def IntsAt (lo : Nat) (w : World) (v : Value) (xs : List Int) : Prop := Ints w v xs ∧ ∀ b o, (∃ n c, v = .slice (some ⟨b, o, none⟩) n c) → lo ≤ b
theorem Own.at' {lo : Nat} {w : World} {v : Value} {xs : List Int} (h : Own lo w v xs) : IntsAt lo w v xs := by
  refine ⟨h.ints, fun b o hv => ?_⟩
  obtain ⟨n, c, rfl⟩ := hv
  obtain ⟨hl, hn | ⟨g, cap, cur, hv, hb, hg, r⟩⟩ := h
  · cases hn.1
  · injection hv with e1; injection e1 with e1; injection e1 with e1; subst e1; exact hb
theorem IntsAt.keep {lo : Nat} {S : Nat → Prop} {w w' : World} {v : Value} {xs : List Int} (h : IntsAt lo w v xs) (k : Keep S w w') (hS : ∀ b, lo ≤ b → ¬ S b) : IntsAt lo w' v xs := by
  obtain ⟨⟨a, c, hv, h1, h2, hc⟩, hb⟩ := h
  refine ⟨⟨a, c, hv, h1, h2, fun i hi => ?_⟩, hb⟩
  obtain ⟨b, o, ha, hcell⟩ := hc i hi
  exact ⟨b, o, ha, cell_of_block (k.block b (cell_lt hcell) (hS b (hb b o ⟨_, _, by rw [hv, ha]⟩))) hcell⟩
/-- A table that can be read, all of it in blocks from lo on. -/
def RowsAt (lo : Nat) (w : World) (v : Value) (X : List (List Int)) : Prop :=
  ∃ (a : Option Addr) (c : Nat), v = .slice a X.length c ∧ X.length ≤ c ∧ c ≤ maxLen ∧ ∀ i (h : i < X.length), ∃ b o u, a = some ⟨b, o, none⟩ ∧ lo ≤ b ∧ w.cell? ⟨b, o + i, none⟩ = some u ∧ IntsAt lo w u X[i]
theorem RowsAt.rows {lo : Nat} {w : World} {v : Value} {X : List (List Int)} (h : RowsAt lo w v X) : Rows w v X := by
  obtain ⟨a, c, hv, h1, h2, hc⟩ := h
  exact ⟨a, c, hv, h1, h2, fun i hi => by obtain ⟨b, o, u, ha, _, hcell, hu⟩ := hc i hi; exact ⟨b, o, u, ha, hcell, hu.1⟩⟩
theorem RowsAt.keep {lo : Nat} {S : Nat → Prop} {w w' : World} {v : Value} {X : List (List Int)} (h : RowsAt lo w v X) (k : Keep S w w') (hS : ∀ b, lo ≤ b → ¬ S b) : RowsAt lo w' v X := by
  obtain ⟨a, c, hv, h1, h2, hc⟩ := h
  refine ⟨a, c, hv, h1, h2, fun i hi => ?_⟩
  obtain ⟨b, o, u, ha, hlo, hcell, hu⟩ := hc i hi
  exact ⟨b, o, u, ha, hlo, cell_of_block (k.block b (cell_lt hcell) (hS b hlo)) hcell, hu.keep k hS⟩
theorem OwnRows.at' {lo : Nat} {w : World} {v : Value} {X : List (List Int)} (h : OwnRows lo w v X) : RowsAt lo w v X := by
  obtain ⟨us, h1, h2⟩ := h
  have hlt := fun k (hk : v.ownBlock = some k) => World.ownsRow.lt h1 k hk
  obtain ⟨a, c, hv, hc, hm, hcell⟩ := ownsRow_cells h1
  rw [h2.len] at hv hc
  refine ⟨a, c, hv, hc, hm, fun i hi => ?_⟩
  have hi' : i < us.length := by rw [h2.len]; exact hi
  obtain ⟨g, ha, hg⟩ := hcell i hi'
  exact ⟨g, 0, us[i], ha, (hlt g (by rw [hv, ha]; rfl)).1, by rwa [Nat.zero_add], (h2.own i hi' hi).at'⟩
theorem RowVals.others {B : Nat} {w w' : World} {us : List Value} {xss : List (List Int)} (h : RowVals B w us xss) {k : Nat} (hk : k < us.length) (hkeep : Keep (fun b => us[k].ownBlock = some b) w w') (i : Nat) (hi : i < us.length) (hi' : i < xss.length) (e : k ≠ i) : Own B w' us[i] xss[i] := by
  have h0 := h.own i hi hi'
  obtain ⟨hl, hn | ⟨g, cap, cur, hv, hb, hg, r⟩⟩ := h0
  · exact ⟨hl, .inl hn⟩
  · refine ⟨hl, .inr ⟨g, cap, cur, hv, hb, ?_, r⟩⟩
    rw [hkeep.block g (Array.getElem?_eq_some_iff.1 hg).1 ?_]; exact hg
    intro e2
    have h1 : (us[i]).ownBlock = some g := by rw [hv]; rfl
    rcases Nat.lt_or_gt_of_ne e with hlt | hlt
    · have := List.pairwise_iff_getElem.1 h.apart k i hk hi hlt
      rcases this with h3 | h3
      · rw [h3] at e2; cases e2
      · exact h3 (e2.trans h1.symm)
    · have := List.pairwise_iff_getElem.1 h.apart i k hi hk hlt
      rcases this with h3 | h3
      · rw [h3] at h1; cases h1
      · exact h3 (h1.trans e2.symm)
/-- The first row appended to, and stored anew. -/
theorem first_row {lo : Nat} {w : World} {sa : Option Addr} {n c : Nat} {X : List (List Int)} (h : OwnRows lo w (.slice sa n c) X) (hX : 0 < X.length) :
    ∃ (b : Nat) (u : Value), sa = some ⟨b, 0, none⟩ ∧ lo ≤ b ∧ w.cell? ⟨b, 0, none⟩ = some u ∧ w.frozen? ⟨b, 0, none⟩ = false ∧ Own lo w u (row X 0) ∧
      ∀ (w' : World) (u' : Value) (ys : List Int), Keep (fun k => u.ownBlock = some k) w w' → Own lo w' u' ys → w'.cell? ⟨b, 0, none⟩ = some u ∧ w'.frozen? ⟨b, 0, none⟩ = false ∧ RowsAt lo (w'.setCell ⟨b, 0, none⟩ u') (.slice sa n c) (X.set 0 ys) := by
  obtain ⟨us, h1, h2⟩ := h
  have hlt := fun k (hk : (Value.slice sa n c).ownBlock = some k) => World.ownsRow.lt h1 k hk
  have h1' := h1
  obtain ⟨hl, hn | ⟨g, cap, cur, hv, hb, hg, hr1, hr2, hr3, hr4⟩⟩ := h1'
  · have := h2.len; have := hn.2; omega
  injection hv with e1 e2 e3
  subst e1
  have hul : 0 < us.length := by rw [h2.len]; exact hX
  obtain ⟨a, c', hv', hc', hm', hcell⟩ := ownsRow_cells h1
  injection hv' with e1 e4 e5
  subst e1
  have hblk : Blk w g 25 cur.toList := by unfold Blk; simpa using hg
  obtain ⟨g', hg', hcc⟩ := hcell 0 hul
  injection hg' with hg'; injection hg' with hg'; subst hg'
  have hrow : row X 0 = X[0] := row_nat X 0 hX
  have hown := h2.own 0 hul hX
  refine ⟨g, us[0], rfl, hb, hcc, hblk.frozen 0, by rw [hrow]; exact hown, fun w' u' ys hk ho => ?_⟩
  have hne : ∀ i (hi : i < us.length), us[i].ownBlock ≠ some g := fun i hi => (h2.own i hi (by rw [← h2.len]; exact hi)).ne hblk (by decide)
  have hblk' := hblk.of_block (hk.block g hblk.lt (hne 0 hul))
  have hcw : ∀ i (hi : i < us.length), w'.cell? ⟨g, i, none⟩ = some us[i] := fun i hi => by
    obtain ⟨g', hg', hcc⟩ := hcell i hi
    injection hg' with hg'; injection hg' with hg'; subst hg'
    exact cell_of_block (hk.block g hblk.lt (hne 0 hul)) hcc
  have hks : Keep (fun x => x = g) w' (w'.setCell ⟨g, 0, none⟩ u') := (Keep.refl (fun x => x = g) w').setCell (p := ⟨g, 0, none⟩) (.inl rfl) u'
  have hu'g : u'.ownBlock ≠ some g := ho.ne hblk' (by decide)
  have hfar : ∀ {v : Value} {xs : List Int}, Own lo w' v xs → v.ownBlock ≠ some g → IntsAt lo (w'.setCell ⟨g, 0, none⟩ u') v xs := fun h1 h2 => (h1.keep1 (p := ⟨g, 0, none⟩) u' h2).at'
  refine ⟨hcw 0 hul, hblk'.frozen 0, some ⟨g, 0, none⟩, c, ?_, ?_, ?_, fun i hi => ?_⟩
  · rw [List.length_set, ← h2.len]; rw [e4]
  · rw [List.length_set, ← h2.len, e5]; exact hc'
  · rw [e5]; exact hm'
  · rw [List.length_set] at hi
    have hi' : i < us.length := by rw [h2.len]; exact hi
    by_cases e : i = 0
    · subst e
      refine ⟨g, 0, u', rfl, hb, (by first | exact World.cell?_setCell_same _ _ _ (hcw 0 hul) | exact World.cell?_setCell_same _ _ (hcw 0 hul)), ?_⟩
      simp only [List.getElem_set_self]
      exact hfar ho hu'g
    · refine ⟨g, 0, us[i], rfl, hb, ?_, ?_⟩
      · have hs := hblk'.set 0 u'
        have h3 : i < cur.toList.length := by
          have := hcell i hi'
          rw [← hr4] at hi'
          simp at hi' ⊢; omega
        have := hs.cell (i := i) (by simpa using h3)
        rw [Nat.zero_add, this, List.getElem_set_ne (by omega)]
        have h4 := hblk'.cell (i := i) h3
        rw [hcw i hi'] at h4
        exact h4.symm
      · rw [List.getElem_set_ne (by omega)]
        exact hfar (h2.others hul hk i hi' hi (by omega)) (hne i hi')

theorem drew_at {b lo : Nat} {w1 w2 : World} {v : Value} {X : List (List Int)} (h : Drew b w1 w2) (hr : RowsAt lo w1 v X) (hb : b < lo) : RowsAt lo w2 v X := hr.keep h.2 (fun x hx e => by have e : x = b := e; omega)
theorem drew_int {b B : Nat} {w w1 w2 : World} {v : Value} {xs : List Int} (h : Drew b w w1) (ho : Own B w1 v xs) (k : Keep (fun x => v.ownBlock = some x) w1 w2) (hb : b < w.heap.size) (hB : w.heap.size ≤ B) : Drew b w w2 :=
  ⟨h.1.keep k (fun p hp e => by have := (ho.lt e).1; omega), h.2.chain k (fun x hx e => by have := (ho.lt e).1; omega)⟩
theorem keep_mono {S T : Nat → Prop} {w w' : World} (k : Keep S w w') (h : ∀ x, S x → T x) : Keep T w w' := ⟨k.os, k.tape, k.output, k.size, fun x hx hn => k.block x hx (fun e => hn (h x e))⟩
set_option maxRecDepth 100000 in
set_option maxHeartbeats 4000000 in
theorem c_l01Bad (b n : Nat) (w : World) (hs : Src w b) (h1 : 1 ≤ n) (h2 : n ≤ 100) :
    Calls Try.prog 120 #[.pointer (some ⟨b, 0, none⟩), .int .i64 n] w (fun e w' => ∃ (r : Value) (X : List (List Int)), e = .returned r ∧ X.length ≤ 101 ∧ (∀ row ∈ X, row.length ≤ 101) ∧ RowsAt w.heap.size w' r X ∧ Drew b w w') := by
  have hbl := hs.lt
  have HS := Lib.hid hs
  clear hs
  go_enter Try.func120, Try.ntmps120
  go_wp2_with fail
  refine (c_l01Tables b n _ HS.out h1 (by omega)).mono ?_; rintro e w1 ⟨r, X, rfl, hXl, hXr, hor, hd1⟩
  obtain ⟨ra, rc, hr, -⟩ := OwnRows.shape' hor
  rw [hXl] at hr
  subst hr
  have HO := Lib.hid hor; have HD1 := Lib.hid hd1; have HX := Lib.hid (And.intro hXl hXr)
  clear hor hd1 hXl hXr
  go_wp2_with fail
  refine (c_l01Next b 30 _ HD1.out.1 (by omega) (by omega)).mono ?_; rintro e w2 ⟨kd, rfl, k0, k30, hd2⟩
  have HD2 := Lib.hid (HD1.out.trans hd2)
  have HO2 := Lib.hid (HO.out.keep hd2.2 (fun x h1 h2 e => by have e : x = b := e; omega))
  clear hd2
  by_cases e0 : kd = 0
  · subst e0
    go_wp2_with fail
    refine (c_l01Unit n _ (by omega)).mono ?_; rintro e w3 ⟨ru, rfl, hou, hb3⟩
    have HO3 := Lib.hid (HO2.out.under hb3).inn; have HU := Lib.hid hou; have HD3 := Lib.hid (HD2.out.under hb3)
    have HB := Lib.hid hb3.size; have HW := Lib.hid HD2.out.2.size
    obtain ⟨ua, uc, hu, -, -⟩ := hou.ints.shape
    rw [iota_length] at hu
    subst hu
    clear hou
    have HI2 := Lib.hid (HO2.out.inn.under hb3)
    clear hb3
    go_wp2_with (at_builtin; refine wpList_app_row2 w.heap.size w2.heap.size w3 _ X _ (iota n) _ _ rfl rfl rfl HI2.out HU.out rfl (by have := HX.out.1; omega) HW.out (Nat.le_trans HW.out HB.out) ?_; intro ga gc w9 hown hkeep hor; have HOwn := Lib.hid hown; have HKp := Lib.hid hkeep; clear hown hkeep hor)
    go_ret
    refine ⟨_, X ++ [iota n], rfl, by have := HX.out.1; simp; omega, fun r hr => ?_, HOwn.out.at', drew_app HD3.out HI2.out.out HKp.out hbl⟩
    rcases List.mem_append.1 hr with h | h
    · have := HX.out.2 r h; omega
    · simp at h; subst h; simp; omega
  by_cases e1 : kd = 1
  · subst e1
    obtain ⟨tb, u, hra, htb, hc0, hf0, hou, hfin⟩ := first_row HO2.out (by have := HX.out.1; omega)
    subst hra
    have HFin := Lib.hid hfin; have HOu := Lib.hid hou; have HW := Lib.hid HD2.out.2.size
    have hrl : (row X 0).length = n := HX.out.2 _ (row_mem (by omega) (by have := HX.out.1; omega))
    have HRl := Lib.hid hrl
    obtain ⟨ua, uc, hu, -, -⟩ := hou.ints.shape
    rw [hrl] at hu
    subst hu
    clear hfin hou hrl
    go_wp2_with (at_builtin; refine wpList_app_int2 w.heap.size w2 _ (row X 0) 0 _ _ w2.heap.size rfl rfl rfl rfl HOu.out rfl (by rw [HRl.out]; omega) HW.out ?_; intro ga gc w9 hown hkeep hor; rw [HRl.out] at hown; rw [HRl.out]; obtain ⟨q1, q2, q3⟩ := HFin.out w9 _ _ hkeep hown; have HQ3 := Lib.hid q3; have HKp := Lib.hid hkeep; clear hown hkeep hor q3)
    go_ret
    refine ⟨_, X.set 0 (row X 0 ++ [0]), rfl, by have := HX.out.1; simp; omega, fun r hr => ?_, HQ3.out, ?_⟩
    · rcases List.mem_or_eq_of_mem_set hr with h | h
      · have := HX.out.2 r h; omega
      · subst h; have := HRl.out; simp; omega
    · exact drew_set (drew_int HD2.out HOu.out HKp.out hbl (Nat.le_refl _)) (p := ⟨tb, 0, none⟩) htb (by show b < tb; omega) _
  have z0 : (kd == 0) = false := by simp [e0]
  have z1 : (kd == 1) = false := by simp [e1]
  by_cases e2 : kd = 2
  · subst e2
    have hXl := HX.out.1
    have hrl : (row X ((0 : Nat) : Int)).length = n := HX.out.2 _ (row_mem (by omega) (by omega))
    have HRl := Lib.hid hrl
    obtain ⟨tb, g, cr, zz, hra, t1, t2, t3, t4, t5, hc, -, -, -⟩ := HO2.out.inn.put (u := 0) (y := 0) (m := n) (by omega) hrl (by omega)
    subst hra
    have HK : Hid (∀ w' : World, Keep (fun k => k = b ∨ k = g) w2 w' → w'.cell? ⟨tb, 0, none⟩ = some (.slice (some ⟨g, 0, none⟩) n cr)) := Lib.hid (fun w' k => cell_of_block (k.block tb (cell_lt hc) (by omega)) hc)
    have hbel : Below w2.heap.size w2 (w2.alloc (.cells #[.int .i64 (-1), .int .i64 n, .int .i64 1099511627776] 2)).drew := ((Below.refl _ _).alloc (Nat.le_refl _) _).drew
    have HD3 := Lib.hid (HD2.out.under hbel)
    have HOw : Hid (Own w2.heap.size (w2.alloc (.cells #[.int .i64 (-1), .int .i64 n, .int .i64 1099511627776] 2)).drew (.slice (some ⟨w2.heap.size, 0, none⟩) 3 3) [-1, (n : Int), 1099511627776]) := Lib.hid
      ((Own.shut (cs := []) (by simpa using Blk.new w2 [.int .i64 (-1), .int .i64 n, .int .i64 1099511627776] 2) (Nat.le_refl _) (by simp [maxLen]) (by simp) (by simp) : Own w2.heap.size (w2.alloc (.cells #[.int .i64 (-1), .int .i64 n, .int .i64 1099511627776] 2)) (.slice (some ⟨w2.heap.size, 0, none⟩) 3 3) [-1, (n : Int), 1099511627776]).under (Below.refl _ _).drew)
    have hlt2 := HD2.out.1.lt
    have HSrc := Lib.hid HD3.out.1
    have hn0 : 0 < n := by omega
    have hn00 : (0 : Int) < (n : Int) := by omega
    have K0 : Keep (fun k => k = b ∨ k = g) w2 w2.drew := (Keep.refl _ w2).drew
    have K1 : Keep (fun k => k = b ∨ k = g) w2 (w2.alloc (.cells #[.int .i64 (-1), .int .i64 n, .int .i64 1099511627776] 2)).drew := ((Keep.refl _ w2).alloc _).drew
    have zc := HK.out _ K0
    have HO3 := Lib.hid (HO2.out.inn.under hbel)
    clear hbel hc
    go_wp2
    go_region_held3 (fun w' => w'.cell? ⟨tb, 0, none⟩ = some (.slice (some ⟨g, 0, none⟩) n cr))
      (first | exact HK.out _ K0 | exact HK.out _ K1 | exact HK.out _ K5 | exact HK.out _ K6 | exact HK.out _ (K5.setCell (.inl (.inr rfl)) _))
      ((go_at_call 153; (with_reducible refine (c_l01Pick b w2.heap.size _ [-1, (n : Int), 1099511627776] _ HSrc.out HOw.out hlt2 (by simp) (by simp)).mono ?_); rintro e w5 ⟨x, rfl, hx, hd5⟩; have K5 := K1.trans (keep_mono hd5.2 (T := fun k => k = b ∨ k = g) (fun x hx => .inl hx)); have c5 := HK.out _ K5; obtain ⟨tb5, g5, cr5, zz5, f1, f2, f3, f4, f5, f6, f7, f8, f9, f10⟩ := (HO3.out.keep hd5.2 (fun x h1 h2 e => by have e : x = b := e; omega)).put (u := 0) (y := 0) (m := n) (by omega) HRl.out (by omega); injection f1 with f1; injection f1 with f1; subst f1; rw [c5] at f7; injection f7 with f7; injection f7 with f7; injection f7 with f7; injection f7 with f7; subst f7; have HF10 := Lib.hid f10; have HD5 := Lib.hid (HD3.out.trans hd5); clear f10 hd5 hx))
    all_goals
      have HD6 := Lib.hid (drew_set HD5.out (p := ⟨g, 0, none⟩) (by show w.heap.size ≤ g; omega) (by show b < g; omega) (.int .i64 x))
      have HT := Lib.hid (HF10.out x).out.at'
      rename_i hHz
      clear hHz
      go_wp2
      go_ret
      refine ⟨_, X.set 0 ((row X ((0 : Nat) : Int)).set 0 x), rfl, by have := HX.out.1; simp; omega, fun r hr => ?_, HT.out, HD6.out⟩
      rcases List.mem_or_eq_of_mem_set hr with h | h
      · have := HX.out.2 r h; omega
      · subst h; have := HRl.out; rw [List.length_set]; omega
  have z2 : (kd == 2) = false := by simp [e2]
  by_cases e3 : kd = 3
  · subst e3
    have HN := Lib.hid (OwnRows.made0 w2 (Nat.le_refl w2.heap.size))
    have HD3 := Lib.hid (HD2.out.under ((Below.refl w2.heap.size w2).alloc (Nat.le_refl _) (.cells #[] 25)))
    go_wp2
    go_ret
    exact ⟨_, [], rfl, by simp, by simp, (HN.out.mono HD2.out.2.size).at', HD3.out⟩
  have z3 : (kd == 3) = false := by simp [e3]
  by_cases e4 : kd = 4
  · subst e4
    go_wp2_with fail
    refine (c_l01Tables b 13 _ HD2.out.1 (by omega) (by omega)).mono ?_; rintro e w3 ⟨r3, Y, rfl, hYl, hYr, hor, hd3⟩
    have HO3 := Lib.hid hor; have HD3 := Lib.hid (HD2.out.trans hd3); have HY := Lib.hid (And.intro hYl hYr)
    clear hor hd3 hYl hYr
    go_wp2
    go_ret
    exact ⟨_, Y, rfl, by have := HY.out.1; omega, fun r hr => by have := HY.out.2 r hr; omega, (HO3.out.mono HD2.out.2.size).at', HD3.out⟩
  have z4 : (kd == 4) = false := by simp [e4]
  go_wp2
  go_ret
  exact ⟨_, X, rfl, by have := HX.out.1; omega, fun r hr => by have := HX.out.2 r hr; omega, HO2.out.at', HD2.out⟩
end Go.Proofs.Ytkcobfkmeaakoaa

namespace Go.Proofs.Ytkcobfkmeaakoaa
open Go.RowKit

def prT (A C : List (List Int)) : List (List Int) := tabOf (A.length * C.length) fun x y => val2 A (x / C.length) (y / C.length) * C.length + val2 C (x % C.length) (y % C.length)
def prOk (A B C D : List (List Int)) : Bool := isPM A B && isPM C D
def prSm (A C : List (List Int)) : Bool := decide (A.length * C.length ≤ 12)
def prRA (A B C D : List (List Int)) : List (List Int) := if prOk A B C D && prSm A C then prT A C else []
def prRB (A B C D : List (List Int)) : List (List Int) := if prOk A B C D && prSm A C then prT B D else []
def prCode (A B C D : List (List Int)) : Int := if prOk A B C D then (if prSm A C then 0 else 3) else 1
theorem prOk_of {A B C D : List (List Int)} (h1 : isPM A B = true) (h2 : isPM C D = true) : prOk A B C D = true := by simp [prOk, h1, h2]
theorem divN {k n m : Nat} (h : k < n * m) (hm : 1 ≤ m) : k / m < n ∧ k % m < m := ⟨Nat.div_lt_of_lt_mul (by rw [Nat.mul_comm]; exact h), Nat.mod_lt _ (by omega)⟩
theorem divI2 {k n m : Nat} (h : k < n * m) (hm : 1 ≤ m) : 0 ≤ (k : Int) / (m : Int) ∧ (k : Int) / (m : Int) < n ∧ 0 ≤ (k : Int) % (m : Int) ∧ (k : Int) % (m : Int) < m := by
  obtain ⟨h1, h2⟩ := divN h hm
  rw [← Int.natCast_ediv, ← Int.natCast_emod]; exact ⟨Int.natCast_nonneg _, Int.ofNat_lt.2 h1, Int.natCast_nonneg _, Int.ofNat_lt.2 h2⟩
theorem pairI {a b : Int} {n m : Nat} (ha0 : 0 ≤ a) (ha : a < n) (hb0 : 0 ≤ b) (hb : b < m) : 0 ≤ a * m + b ∧ a * m + b < n * m := by
  have h1 : 0 ≤ a * (m : Int) := Int.mul_nonneg ha0 (by omega)
  have h2 : (a + 1) * (m : Int) ≤ n * m := Int.mul_le_mul_of_nonneg_right (by omega) (by omega)
  have h3 : (a + 1) * (m : Int) = a * m + m := by rw [Int.add_mul, Int.one_mul]
  omega



set_option maxRecDepth 100000 in
set_option maxHeartbeats 4000000 in
theorem c_l02Product (v0 u0 : Value) (A B : List (List Int)) (v1 u1 : Value) (C D : List (List Int)) (w : World) (hA : Sol w v0 u0 A B) (hC : Sol w v1 u1 C D) (hp : isPM A B = true) (hq : isPM C D = true) (hsm : A.length * C.length ≤ 12) :
    Calls Try.prog 198 #[.agg #[v0, u0], .agg #[v1, u1]] w (RSolR w (prT A C) (prT B D)) := by
  obtain ⟨n0, b0, o0, c0, rb0, ro0, rc0, b0s, o0s, c0s, rb0s, ro0s, rc0s, rfl, rfl, hl0, hl0s, hn0, hx0, hc0, hm0, hc0s, hm0s, t0, t0s⟩ := hA.tabs hp
  have HL0 := Lib.hid hl0; clear hl0
  have HL0s := Lib.hid hl0s; clear hl0s
  obtain ⟨n1, b1, o1, c1, rb1, ro1, rc1, b1s, o1s, c1s, rb1s, ro1s, rc1s, rfl, rfl, hl1, hl1s, hn1, hx1, hc1, hm1, hc1s, hm1s, t1, t1s⟩ := hC.tabs hq
  have HL1 := Lib.hid hl1; clear hl1
  have HL1s := Lib.hid hl1s; clear hl1s
  go_enter Try.func198, Try.ntmps198
  go_wp2
  obtain ⟨f0, f1, f2, hW0, hsz⟩ := boxes3 w [.slice (some ⟨b0, o0, none⟩) n0 c0, .slice (some ⟨b0s, o0s, none⟩) n0 c0s] [.slice (some ⟨b1, o1, none⟩) n1 c1, .slice (some ⟨b1s, o1s, none⟩) n1 c1s] [.slice none 0 0, .slice none 0 0] 27 27 27
  obtain ⟨W0, hW⟩ : ∃ W, (((w.alloc (.cells #[.slice (some ⟨b0, o0, none⟩) n0 c0, .slice (some ⟨b0s, o0s, none⟩) n0 c0s] 27)).alloc (.cells #[.slice (some ⟨b1, o1, none⟩) n1 c1, .slice (some ⟨b1s, o1s, none⟩) n1 c1s] 27)).alloc (.cells #[.slice none 0 0, .slice none 0 0] 27)) = W := ⟨_, rfl⟩
  rw [hW] at f0 f1 f2 hW0 hsz ⊢
  have HSZ := Lib.hid hsz
  clear hW hsz
  obtain ⟨cA0, cB0, -, -⟩ := two_cells f0
  obtain ⟨cA1, cB1, -, -⟩ := two_cells f1
  obtain ⟨cA2, cB2, -, -⟩ := two_cells f2
  replace t0 := t0.below hW0; replace t0s := t0s.below hW0
  replace t1 := t1.below hW0; replace t1s := t1s.below hW0
  rw [HL0.out, HL1.out] at hsm
  obtain ⟨N, hN⟩ : ∃ N, N = n0 * n1 := ⟨_, rfl⟩
  have hNI : (n0 : Int) * n1 = N := by rw [hN]; push_cast; rfl
  obtain ⟨gA, hgA⟩ : ∃ g : Int → Int → Int, g = fun x y => val2 A (x / n1) (y / n1) * n1 + val2 C (x % n1) (y % n1) := ⟨_, rfl⟩
  obtain ⟨gB, hgB⟩ : ∃ g : Int → Int → Int, g = fun x y => val2 B (x / n1) (y / n1) * n1 + val2 D (x % n1) (y % n1) := ⟨_, rfl⟩
  have hRA : prT A C = tabOf N gA := by unfold prT; rw [HL0.out, HL1.out, hgA, hN]
  have hRB : prT B D = tabOf N gB := by unfold prT; rw [HL0s.out, HL1s.out, hgB, hN]
  have HRA := Lib.hid hRA; have HRB := Lib.hid hRB
  have HGA : Hid (∀ x y : Int, gA x y = val2 A (x / n1) (y / n1) * n1 + val2 C (x % n1) (y % n1)) := Lib.hid (by rw [hgA]; intro x y; rfl)
  have HGB : Hid (∀ x y : Int, gB x y = val2 B (x / n1) (y / n1) * n1 + val2 D (x % n1) (y % n1)) := Lib.hid (by rw [hgB]; intro x y; rfl)
  have HN := Lib.hid hN
  rw [← hN] at hsm
  clear hgA hgB hRA hRB hN hA hC hp hq
  go_quiet (fail)
  rename_i nq
  have hdn : Below W0.heap.size W0 (W0.drewN nq) := below_drewN (Below.refl _ _) nq
  replace f0 := f0.under hdn; replace f1 := f1.under hdn; replace f2 := f2.under hdn; replace hW0 := bb hW0 hdn
  have HT0 := Lib.hid (t0.below hdn); have HT0s := Lib.hid (t0s.below hdn); have HT1 := Lib.hid (t1.below hdn); have HT1s := Lib.hid (t1s.below hdn)
  have HSV : Hid ((W0.drewN nq).heap.size = w.heap.size + 1 + 1 + 1) := HSZ.out
  generalize W0.drewN nq = V at f0 f1 f2 hW0 HT0 HT0s HT1 HT1s HSV ⊢
  have HF2lt := Lib.hid f2.lt
  have hV := hW0
  clear t0 t0s t1 t1s cA0 cB0 cA1 cB1 cA2 cB2 hdn HSZ hW0
  go_wp2
  have hB1 : Below V.heap.size V (V.alloc (.cells #[.slice none 0 0, .slice none 0 0] 27)) := (Below.refl _ _).alloc (Nat.le_refl _) _
  have hout := Blk.new V [.slice none 0 0, .slice none 0 0] 27
  have hs1 : (V.alloc (.cells #[.slice none 0 0, .slice none 0 0] 27)).heap.size = V.heap.size + 1 := by simp
  have hqq : V.heap.size = V.heap.size := rfl
  change Blk (V.alloc (.cells #[.slice none 0 0, .slice none 0 0] 27)) _ _ _ at hout
  obtain ⟨W1, hW1⟩ : ∃ W, V.alloc (.cells #[.slice none 0 0, .slice none 0 0] 27) = W := ⟨_, rfl⟩
  rw [hW1] at hB1 hout hs1 ⊢
  clear hW1
  have hout' : Blk W1 (V.heap.size) 27 [.slice none 0 0, .slice none 0 0] := by rw [← hqq]; exact hout
  have HOut := Lib.hid (Out2.start (lo := V.heap.size + 1) (q := V.heap.size) (w := W1) (by omega) (by omega) hout')
  have HB1 := Lib.hid hB1; have HWW := Lib.hid hV; have HS1 := Lib.hid hs1
  have HQLE : Hid (V.heap.size ≤ V.heap.size) := Lib.hid (by omega)
  clear hB1 hout hout' hs1 hV hqq
  go_loopw [8, 9, 10, 11] (fun a _ _ _ wr => ∃ (k : Nat) (va vb : Value), k ≤ N ∧ a = .int .i64 k ∧ Hid (Below V.heap.size V wr) ∧ Hid (Out2 (V.heap.size + 1) wr.heap.size (V.heap.size) wr va vb ((tabOf N gA).take k) ((tabOf N gB).take k))) (fun a _ _ _ _ => N - (intOf a).toNat)
  case atStart => exact ⟨0, _, _, Nat.zero_le _, rfl, HB1, HOut⟩
  case round =>
    clear HB1 HOut
    obtain ⟨k, va, vb, hk, rfl, HB, HO⟩ := hrel
    obtain ⟨wo, rfl⟩ : ∃ wo : World, wo = wr := ⟨_, rfl⟩
    by_cases hlt : k < N
    · go_wp2
      go_loopw [9, 10, 11] (fun s t y wi => ∃ (j : Nat) (sa : Option Addr) (sc : Nat) (ta : Option Addr) (tc : Nat), j ≤ N ∧ y = .int .i64 j ∧ s = .slice sa j sc ∧ t = .slice ta j tc ∧ Hid (Below wo.heap.size wo wi) ∧ Hid (Two wo.heap.size wi (.slice sa j sc) (.slice ta j tc) ((rowOf N (gA k)).take j) ((rowOf N (gB k)).take j))) (fun _ _ y _ => N - (intOf y).toNat)
      case atStart => exact ⟨0, _, _, _, _, Nat.zero_le _, rfl, rfl, rfl, Lib.hid (((Below.refl wo.heap.size wo).alloc (Nat.le_refl _) _).alloc (by simp) _), Lib.hid (Two.made0 wo)⟩
      case round =>
        obtain ⟨j, sa, sc, ta, tc, hj, rfl, rfl, rfl, Hb, HTw⟩ := hrel
        obtain ⟨wi, rfl⟩ : ∃ wi : World, wi = wr := ⟨_, rfl⟩
        by_cases hlj : j < N
        · have hB2 := bb HB.out Hb.out
          obtain ⟨cA0, cB0, -, -⟩ := two_cells (f0.under hB2)
          obtain ⟨cA1, cB1, -, -⟩ := two_cells (f1.under hB2)
          have T0 := HT0.out.below hB2; have T1 := HT1.out.below hB2
          have hkN : k < n0 * n1 := by have := HN.out; omega
          have hjN : j < n0 * n1 := by have := HN.out; omega
          obtain ⟨d1, d2, d3, d4⟩ := divI2 hkN hn1
          obtain ⟨d5, d6, d7, d8⟩ := divI2 hjN hn1
          clear hkN hjN
          have HEA := Lib.hid (HGA.out k j); have HEB := Lib.hid (HGB.out k j)
          have w1 : IntKind.i64.wrap ((k : Int) / (n1 : Int)) = (k : Int) / (n1 : Int) := by rw [IntKind.wrap_i64]; omega
          have w2 : Int.tmod (k : Int) (n1 : Int) = (k : Int) % (n1 : Int) := Int.tmod_eq_emod_of_nonneg (by omega)
          have w3 : IntKind.i64.wrap ((j : Int) / (n1 : Int)) = (j : Int) / (n1 : Int) := by rw [IntKind.wrap_i64]; omega
          have w4 : Int.tmod (j : Int) (n1 : Int) = (j : Int) % (n1 : Int) := Int.tmod_eq_emod_of_nonneg (by omega)
          obtain ⟨x1, hx1⟩ : ∃ x : Int, (k : Int) / (n1 : Int) = x := ⟨_, rfl⟩
          obtain ⟨x2, hx2⟩ : ∃ x : Int, (k : Int) % (n1 : Int) = x := ⟨_, rfl⟩
          obtain ⟨x3, hx3⟩ : ∃ x : Int, (j : Int) / (n1 : Int) = x := ⟨_, rfl⟩
          obtain ⟨x4, hx4⟩ : ∃ x : Int, (j : Int) % (n1 : Int) = x := ⟨_, rfl⟩
          rw [hx1] at d1 d2 HEA HEB; rw [hx2] at d3 d4 HEA HEB; rw [hx3] at d5 d6 HEA HEB; rw [hx4] at d7 d8 HEA HEB
          replace w1 := w1.trans hx1; replace w2 := w2.trans hx2; replace w3 := w3.trans hx3; replace w4 := w4.trans hx4
          clear hx1 hx2 hx3 hx4
          have rA := T0.rowi _ d1 d2; have rC := T1.rowi _ d3 d4; have vA := T0.vali _ _ d1 d2 d5 d6; have vC := T1.vali _ _ d3 d4 d7 d8
          have gA1 := T0.rng _ _ d1 d2 d5 d6; have gC1 := T1.rng _ _ d3 d4 d7 d8
          have gB1 := HT0s.out.rng _ _ d1 d2 d5 d6; have gD1 := HT1s.out.rng _ _ d3 d4 d7 d8
          have pA := pairI gA1.1 gA1.2 gC1.1 gC1.2; have pB := pairI gB1.1 gB1.2 gD1.1 gD1.2
          have hm0 : ¬ (n1 = 0) := by omega
          obtain ⟨va1, hva⟩ : ∃ z, z = val2 A x1 x3 := ⟨_, rfl⟩
          obtain ⟨vb1, hvb⟩ : ∃ z, z = val2 B x1 x3 := ⟨_, rfl⟩
          obtain ⟨vc1, hvc⟩ : ∃ z, z = val2 C x2 x4 := ⟨_, rfl⟩
          obtain ⟨vd1, hvd⟩ : ∃ z, z = val2 D x2 x4 := ⟨_, rfl⟩
          rw [← hva] at vA gA1 pA HEA; rw [← hvb] at gB1 pB HEB; rw [← hvc] at vC gC1 pA HEA; rw [← hvd] at gD1 pB HEB
          have mA : 0 ≤ va1 * (n1 : Int) := Int.mul_nonneg gA1.1 (by omega)
          have mB : 0 ≤ vb1 * (n1 : Int) := Int.mul_nonneg gB1.1 (by omega)
          have u1 : IntKind.i64.wrap (va1 * (n1 : Int)) = va1 * (n1 : Int) := by rw [IntKind.wrap_i64]; omega
          have u2 : IntKind.i64.wrap (va1 * (n1 : Int) + vc1) = va1 * (n1 : Int) + vc1 := by rw [IntKind.wrap_i64]; omega
          have u3 : IntKind.i64.wrap (vb1 * (n1 : Int)) = vb1 * (n1 : Int) := by rw [IntKind.wrap_i64]; omega
          have u4 : IntKind.i64.wrap (vb1 * (n1 : Int) + vd1) = vb1 * (n1 : Int) + vd1 := by rw [IntKind.wrap_i64]; omega
          have HVB := Lib.hid hvb; have HVD := Lib.hid hvd; have HVA := Lib.hid hva; have HVC := Lib.hid hvc
          have HSA : Hid (∀ w' : World, Below V.heap.size V w' → w'.cell? ⟨w.heap.size, 0, none⟩ = some (.slice (some ⟨b0, o0, none⟩) n0 c0) ∧ w'.cell? ⟨w.heap.size + 1, 0, none⟩ = some (.slice (some ⟨b1, o1, none⟩) n1 c1) ∧ w'.cell? ⟨b0, o0 + x1.toNat, none⟩ = some (.slice (some ⟨rb0 x1.toNat, ro0 x1.toNat, none⟩) n0 (rc0 x1.toNat)) ∧ w'.cell? ⟨b1, o1 + x2.toNat, none⟩ = some (.slice (some ⟨rb1 x2.toNat, ro1 x2.toNat, none⟩) n1 (rc1 x2.toNat)) ∧ w'.cell? ⟨rb0 x1.toNat, ro0 x1.toNat + x3.toNat, none⟩ = some (.int .i64 va1) ∧ w'.cell? ⟨rb1 x2.toNat, ro1 x2.toNat + x4.toNat, none⟩ = some (.int .i64 vc1)) := Lib.hid (by
            intro w' hb
            have T0 := HT0.out.below hb; have T1 := HT1.out.below hb
            have a1 := T0.rowi _ d1 d2; have a2 := T1.rowi _ d3 d4; have a3 := T0.vali _ _ d1 d2 d5 d6; have a4 := T1.vali _ _ d3 d4 d7 d8
            rw [← HVA.out] at a3; rw [← HVC.out] at a4
            exact ⟨(two_cells (f0.under hb)).1, (two_cells (f1.under hb)).1, a1, a2, a3, a4⟩)
          have HSB : Hid (∀ w' : World, Below V.heap.size V w' → w'.cell? ⟨w.heap.size, 1, none⟩ = some (.slice (some ⟨b0s, o0s, none⟩) n0 c0s) ∧ w'.cell? ⟨w.heap.size + 1, 1, none⟩ = some (.slice (some ⟨b1s, o1s, none⟩) n1 c1s) ∧ w'.cell? ⟨b0s, o0s + x1.toNat, none⟩ = some (.slice (some ⟨rb0s x1.toNat, ro0s x1.toNat, none⟩) n0 (rc0s x1.toNat)) ∧ w'.cell? ⟨b1s, o1s + x2.toNat, none⟩ = some (.slice (some ⟨rb1s x2.toNat, ro1s x2.toNat, none⟩) n1 (rc1s x2.toNat)) ∧ w'.cell? ⟨rb0s x1.toNat, ro0s x1.toNat + x3.toNat, none⟩ = some (.int .i64 vb1) ∧ w'.cell? ⟨rb1s x2.toNat, ro1s x2.toNat + x4.toNat, none⟩ = some (.int .i64 vd1)) := Lib.hid (by
            intro w' hb
            have T0 := HT0s.out.below hb; have T1 := HT1s.out.below hb
            have a1 := T0.rowi _ d1 d2; have a2 := T1.rowi _ d3 d4; have a3 := T0.vali _ _ d1 d2 d5 d6; have a4 := T1.vali _ _ d3 d4 d7 d8
            rw [← HVB.out] at a3; rw [← HVD.out] at a4
            exact ⟨(two_cells (f0.under hb)).2.1, (two_cells (f1.under hb)).2.1, a1, a2, a3, a4⟩)
          clear hva hvb hvc hvd T0 T1 hB2
          have HX1 := Lib.hid (HTw.out.under ((Below.refl wi.heap.size wi).drew))
          have HZ1 := Lib.hid (bb Hb.out ((Below.refl wi.heap.size wi).drew))
          have hl1 : ((rowOf N (gA k)).take j).length = j := by simp; omega
          have hl2 : ((rowOf N (gB k)).take j).length = j := by simp; omega
          have HL1a := Lib.hid hl1; have HL2a := Lib.hid hl2
          have HN1a : Hid (((rowOf N (gA k)).take j).length ≤ 1099511627776) := by show _ ≤ _; rw [hl1]; omega
          have HN2a : Hid (((rowOf N (gB k)).take j).length ≤ 1099511627776) := by show _ ≤ _; rw [hl2]; omega
          have HS1a : Hid (wo.heap.size ≤ (wi.drew).heap.size) := Lib.hid HZ1.out.size
          clear hl1 hl2
          go_wp2
          go_region_held3 (fun w' => w'.cell? ⟨w.heap.size, 0, none⟩ = some (.slice (some ⟨b0, o0, none⟩) n0 c0) ∧ w'.cell? ⟨w.heap.size + 1, 0, none⟩ = some (.slice (some ⟨b1, o1, none⟩) n1 c1) ∧ w'.cell? ⟨b0, o0 + x1.toNat, none⟩ = some (.slice (some ⟨rb0 x1.toNat, ro0 x1.toNat, none⟩) n0 (rc0 x1.toNat)) ∧ w'.cell? ⟨b1, o1 + x2.toNat, none⟩ = some (.slice (some ⟨rb1 x2.toNat, ro1 x2.toNat, none⟩) n1 (rc1 x2.toNat)) ∧ w'.cell? ⟨rb0 x1.toNat, ro0 x1.toNat + x3.toNat, none⟩ = some (.int .i64 va1) ∧ w'.cell? ⟨rb1 x2.toNat, ro1 x2.toNat + x4.toNat, none⟩ = some (.int .i64 vc1)) (first | go_keep | exact HSA.out _ (bb HB.out HZ1.out) | exact HSA.out _ (bb HB.out HZ2.out)) ((first | (refine step_app_int wo.heap.size (wi.drew) _ ((rowOf N (gA k)).take j) _ _ _  rfl rfl rfl HX1.out.a rfl HN1a.out HS1a.out ?_; intro g c1 w1 hown1 hk1 hg1; rw [HL1a.out] at hown1; rw [HL1a.out]; have HT1 := Lib.hid (HX1.out.app1 hown1 hk1 hg1); have HZ2 := Lib.hid (HX1.out.a.frame HZ1.out (Nat.le_refl _) HS1a.out hk1); clear hown1 hk1 hg1)))
          go_wp2
          have hB3 := bb HB.out HZ2.out
          obtain ⟨cA0, cB0, -, -⟩ := two_cells (f0.under hB3)
          obtain ⟨cA1, cB1, -, -⟩ := two_cells (f1.under hB3)
          have T0s := HT0s.out.below hB3; have T1s := HT1s.out.below hB3
          have rB := T0s.rowi _ d1 d2; have rD := T1s.rowi _ d3 d4; have vB := T0s.vali _ _ d1 d2 d5 d6; have vD := T1s.vali _ _ d3 d4 d7 d8
          rw [← HVB.out] at vB
          rw [← HVD.out] at vD
          clear T0s T1s
          have HX2 := Lib.hid (HT1.out.under ((Below.refl w1.heap.size w1).drew))
          have HZ3 := Lib.hid (bb HZ2.out ((Below.refl w1.heap.size w1).drew))
          have HS2a : Hid (wo.heap.size ≤ (w1.drew).heap.size) := Lib.hid HZ3.out.size
          clear hB3
          go_wp2
          go_region_held3 (fun w' => w'.cell? ⟨w.heap.size, 1, none⟩ = some (.slice (some ⟨b0s, o0s, none⟩) n0 c0s) ∧ w'.cell? ⟨w.heap.size + 1, 1, none⟩ = some (.slice (some ⟨b1s, o1s, none⟩) n1 c1s) ∧ w'.cell? ⟨b0s, o0s + x1.toNat, none⟩ = some (.slice (some ⟨rb0s x1.toNat, ro0s x1.toNat, none⟩) n0 (rc0s x1.toNat)) ∧ w'.cell? ⟨b1s, o1s + x2.toNat, none⟩ = some (.slice (some ⟨rb1s x2.toNat, ro1s x2.toNat, none⟩) n1 (rc1s x2.toNat)) ∧ w'.cell? ⟨rb0s x1.toNat, ro0s x1.toNat + x3.toNat, none⟩ = some (.int .i64 vb1) ∧ w'.cell? ⟨rb1s x2.toNat, ro1s x2.toNat + x4.toNat, none⟩ = some (.int .i64 vd1)) (first | go_keep | exact HSB.out _ (bb HB.out HZ3.out) | exact HSB.out _ (bb HB.out HZ4.out)) ((first | (refine step_app_int wo.heap.size (w1.drew) _ ((rowOf N (gB k)).take j) _ _ _  rfl rfl rfl HX2.out.b rfl HN2a.out HS2a.out ?_; intro g2 c2 w4 hown4 hk4 hg4; rw [HL2a.out] at hown4; rw [HL2a.out]; have HT2 := Lib.hid (HX2.out.app2 hown4 hk4 hg4); have HZ4 := Lib.hid (HX2.out.b.frame HZ3.out (Nat.le_refl _) HS2a.out hk4); clear hown4 hk4 hg4)))
          go_wp2
          go_roundw
          case rel =>
            refine ⟨j + 1, some ⟨g, 0, none⟩, c1, some ⟨g2, 0, none⟩, c2, by omega, by go_num, rfl, rfl, HZ4, ?_⟩
            rw [take_snoc (rowOf N (gA k)) _ (by simpa using hlj), take_snoc (rowOf N (gB k)) _ (by simpa using hlj), nth_rowOf _ _ _ hlj, nth_rowOf _ _ _ hlj, HEA.out, HEB.out]
            exact HT2
          case measure => simp [intOf]; omega
        · obtain rfl : N = j := by omega
          have hTw := HTw.out
          rw [List.take_of_length_le (by simp), List.take_of_length_le (by simp)] at hTw
          have HU := Lib.hid hTw; clear hTw
          have HO2 := Lib.hid (HO.out.under Hb.out)
          have HBi := Lib.hid (bb HB.out Hb.out)
          have hla : ((tabOf N gA).take k).length = k := by simp; omega
          have hlb : ((tabOf N gB).take k).length = k := by simp; omega
          have HNA : Hid (((tabOf N gA).take k).length ≤ 1099511627776) := by show _ ≤ _; rw [hla]; omega
          have HNB : Hid (((tabOf N gB).take k).length ≤ 1099511627776) := by show _ ≤ _; rw [hlb]; omega
          have HLA := Lib.hid hla; have HLB := Lib.hid hlb; clear hla hlb
          have HLO : Hid ((V.heap.size + 1) ≤ wi.heap.size) := Nat.le_trans HO2.out.lm HO2.out.mw
          obtain ⟨cA, cB, cF, cG⟩ := two_cells HO2.out.blk
          go_wp2_with (at_builtin; go_loud (first
            | (refine wpList_app_row2 (V.heap.size + 1) wo.heap.size wi va ((tabOf N gA).take k) _ (rowOf N (gA k)) _ _ rfl rfl rfl HO2.out.a HU.out.a rfl HNA.out HO2.out.lm HLO.out ?_; intro g c1 w1 hown1 hk1 hg1; rw [HLA.out] at hown1; rw [HLA.out]; have hq1 := HO2.out.blkq hk1; obtain ⟨dA, dB, dF, dG⟩ := two_cells hq1; have hh := HO2.out.app1 hown1 hk1 hg1; have hv := HO2.out.row1 HU.out.b hk1 (.slice (some ⟨g, 0, none⟩) (k + 1) c1); have hf := HO2.out.frame1 HBi.out HQLE.out hk1 (.slice (some ⟨g, 0, none⟩) (k + 1) c1); obtain ⟨eA, eB, eF, eG⟩ := two_cells hh.blk; have HH := Lib.hid hh; have HV := Lib.hid hv; have HF1 := Lib.hid hf; clear hown1 hk1 hg1 hq1 hh hv hf)
            | (refine wpList_app_row2s (V.heap.size + 1) wo.heap.size (w1.setCell ⟨(V.heap.size), 0, none⟩ (.slice (some ⟨g, 0, none⟩) (k + 1) c1)) vb ((tabOf N gB).take k) _ (rowOf N (gB k)) _ _ w1.heap.size (by simp [World.setCell]) rfl rfl rfl HH.out.b HV.out rfl HNB.out HH.out.lm (Nat.le_trans HH.out.lm HH.out.mw) ?_; intro g2 c2 w4 hown4 hk4 hg4; rw [HLB.out] at hown4; rw [HLB.out]; have hq4 := HH.out.blkq hk4; clear dA dB dF dG eA eB eF eG cA cB cF cG; obtain ⟨dA, dB, dF, dG⟩ := two_cells hq4; have HH2 := Lib.hid (HH.out.app2 hown4 hk4 hg4); have HF2 := Lib.hid (HH.out.frame2 HF1.out HQLE.out hk4 (.slice (some ⟨g2, 0, none⟩) (k + 1) c2)); clear hown4 hk4 hg4 hq4)))
          go_roundw
          case rel =>
            refine ⟨k + 1, .slice (some ⟨g, 0, none⟩) (k + 1) c1, .slice (some ⟨g2, 0, none⟩) (k + 1) c2, by omega, by go_num, HF2, ?_⟩
            rw [take_snoc_row (tabOf N gA) _ (by simpa using hlt), take_snoc_row (tabOf N gB) _ (by simpa using hlt), row_tabOf _ _ _ hlt, row_tabOf _ _ _ hlt]
            exact HH2
          case measure => simp [intOf]; omega
    · obtain rfl : N = k := by omega
      have hO := HO.out
      rw [List.take_of_length_le (by simp), List.take_of_length_le (by simp)] at hO
      obtain ⟨ra1, rc1, hva, _⟩ := hO.a.out.rows.shape
      obtain ⟨ra2, rc2, hvb, _⟩ := hO.b.out.rows.shape
      rw [tabOf_length] at hva hvb
      subst hva hvb
      obtain ⟨y0, y1, y2, y3⟩ := two_cells hO.blk
      obtain ⟨z0, z1, z2, z3⟩ := two_cells (f2.under HB.out)
      have HO' := Lib.hid hO; clear hO
      have hlt2 := HF2lt.out
      go_wp2
      refine bodyPost_ret (v := .agg #[.slice ra1 N rc1, .slice ra2 N rc2]) (by simp [results, Try.results198, go_sem, z0, z1]) rfl ⟨_, _, rfl, ⟨?_, ?_⟩, ((bb HWW.out HB.out).setCell (p := ⟨w.heap.size + 1 + 1, 0, none⟩) (by show _ ≤ w.heap.size + 1 + 1; omega) _).setCell (p := ⟨w.heap.size + 1 + 1, 1, none⟩) (by show _ ≤ w.heap.size + 1 + 1; omega) _⟩
      · try rw [HRA.out]
        exact OwnRows.mono (B := (V.heap.size + 1)) ((HO'.out.a.out.keep (keep1 _ (w.heap.size + 1 + 1) 0 _) (fun b h1 h2 h3 => by have h3 : b = w.heap.size + 1 + 1 := h3; omega)).keep (keep1 _ (w.heap.size + 1 + 1) 1 _) (fun b h1 h2 h3 => by have h3 : b = w.heap.size + 1 + 1 := h3; omega)) (by have := HSV.out; omega)
      · try rw [HRB.out]
        exact OwnRows.mono (B := (V.heap.size + 1)) ((HO'.out.b.out.keep (keep1 _ (w.heap.size + 1 + 1) 0 _) (fun b h1 h2 h3 => by have h3 : b = w.heap.size + 1 + 1 := h3; omega)).keep (keep1 _ (w.heap.size + 1 + 1) 1 _) (fun b h1 h2 h3 => by have h3 : b = w.heap.size + 1 + 1 := h3; omega)) (by have := HSV.out; omega)

end Go.Proofs.Ytkcobfkmeaakoaa
