/-
  Texts of the proof of FnSolutions, joined: draws of solutions, what the calls leave, the law's walk.
-/
import Derived.Test.YtkcobfkmeaakoaaI4
import Derived.Test.YtkcobfkmeaakoaaS1c
import Derived.Test.YtkcobfkmeaakoaaI3c
import Derived.Deep.AppendLies
import Derived.Deep.RegionHeld3
import Derived.Deep.RegionLaw
import Derived.Test.YtkcobfkmeaakoaaT1
import Derived.Test.YtkcobfkmeaakoaaLTables
import Derived.Test.YtkcobfkmeaakoaaI14
import Derived.Test.YtkcobfkmeaakoaaI20
import Derived.Test.YtkcobfkmeaakoaaRows
import Derived.Test.YtkcobfkmeaakoaaBase
import Derived.ProofKit
import Derived.OpenShut
import Derived.ShutString
import Derived.ChangeOld
import Derived.Lib.SmallJoins
import Derived.Deep.Slices
import Derived.Test.YtkcobfkmeaakoaaLawC
import Derived.Test.YtkcobfkmeaakoaaLawB
import Derived.Test.YtkcobfkmeaakoaaI1c
import Derived.Test.YtkcobfkmeaakoaaD3
import Derived.Test.YtkcobfkmeaakoaaI3d
import Derived.Test.YtkcobfkmeaakoaaP6
import Derived.Test.YtkcobfkmeaakoaaP7
import Derived.Test.YtkcobfkmeaakoaaP5
import Derived.Test.YtkcobfkmeaakoaaI24
import Derived.Test.YtkcobfkmeaakoaaA1
import Derived.RangeFuncNested
import Derived.RangeFuncBound
import Derived.RangeFuncCalls
import Derived.RangeFuncLeaves
import Derived.Shelf.Abstract
import Derived.Shelf.RegionOpen
import Derived.OwnWalkIn
import Derived.TacticsInMore
import Derived.LoopNIn
import Derived.LoopIn
import Derived.RegionTactic
import Derived.BigRegion
import Derived.ChangeAlike
namespace Go.Proofs.Ytkcobfkmeaakoaa
set_option linter.unusedVariables false
set_option linter.unusedSimpArgs false
open Go.RowKit

/-- The rows of a table hold integers, arrays of rows do not: a table stays as it was where only the array of another turns. -/
theorem rowvals_keepT {B B0 : Nat} {w w' : World} {us us' : List Value} {xss : List (List Int)} {v : Value} {n : Nat} (h : RowVals B w us xss) (hv : w.ownsRow B0 25 1 v n us') (k : Keep (fun b => v.ownBlock = some b) w w') : RowVals B w' us xss := by
  refine ⟨h.len, fun i hi hi' => ?_, h.apart⟩
  have h5 := h.own i hi hi'
  obtain ⟨hl, hn' | ⟨g, cap, cur, hv5, hbg, hg, r⟩⟩ := h5
  · exact ⟨hl, .inl hn'⟩
  · refine ⟨hl, .inr ⟨g, cap, cur, hv5, hbg, ?_, r⟩⟩
    rw [k.block g (Array.getElem?_eq_some_iff.1 hg).1 ?_]; exact hg
    intro e
    obtain ⟨_, hnn | ⟨g', cap', cur', hv', _, hg', _⟩⟩ := hv
    · rw [hnn.1] at e; cases e
    · rw [hv'] at e
      simp [Value.ownBlock] at e
      subst e
      rw [hg] at hg'
      simp at hg'
theorem OwnRows.keepT {B B0 : Nat} {w w' : World} {u v : Value} {xss yss : List (List Int)} (h : OwnRows B w u xss) (hv : OwnRows B0 w v yss) (hne : ∀ b, u.ownBlock = some b → v.ownBlock ≠ some b) (k : Keep (fun b => v.ownBlock = some b) w w') : OwnRows B w' u xss := by
  obtain ⟨us, h1, h2⟩ := h
  obtain ⟨us', h3, h4⟩ := hv
  refine ⟨us, ?_, rowvals_keepT h2 h3 k⟩
  obtain ⟨hl, h | ⟨g, cap, cur, hv, hb, hg, r⟩⟩ := h1
  · exact ⟨hl, .inl h⟩
  · exact ⟨hl, .inr ⟨g, cap, cur, hv, hb, by rw [k.block g (Array.getElem?_eq_some_iff.1 hg).1 (hne g (by rw [hv]; rfl))]; exact hg, r⟩⟩

theorem OwnRowsIn.keepT {B B0 hi : Nat} {w w' : World} {u v : Value} {xss yss : List (List Int)} (h : OwnRowsIn B hi w u xss) (hv : OwnRows B0 w v yss) (hne : ∀ b, u.ownBlock = some b → v.ownBlock ≠ some b) (k : Keep (fun b => v.ownBlock = some b) w w') : OwnRowsIn B hi w' u xss := by
  obtain ⟨us, h1, h2, e1, e2⟩ := h
  obtain ⟨us', h3, h4⟩ := hv
  refine ⟨us, ?_, rowvals_keepT h2 h3 k, e1, e2⟩
  obtain ⟨hl, h | ⟨g, cap, cur, hv, hb, hg, r⟩⟩ := h1
  · exact ⟨hl, .inl h⟩
  · exact ⟨hl, .inr ⟨g, cap, cur, hv, hb, by rw [k.block g (Array.getElem?_eq_some_iff.1 hg).1 (hne g (by rw [hv]; rfl))]; exact hg, r⟩⟩
theorem rowvals_snoc {B m : Nat} {w : World} {us : List Value} {xss : List (List Int)} (h : RowVals B w us xss) (hlt : ∀ i (h : i < us.length) k, us[i].ownBlock = some k → k < m) {u : Value} {xs : List Int} (hu : Own m w u xs) (hB : B ≤ m) :
    RowVals B w (us ++ [u]) (xss ++ [xs]) := by
  refine ⟨by simp [h.len], fun i hi hi' => ?_, ?_⟩
  · by_cases e : i < us.length
    · rw [List.getElem_append_left e, List.getElem_append_left (by rw [← h.len]; exact e)]
      exact h.own i e (by rw [← h.len]; exact e)
    · have e2 : i = us.length := by simp at hi; omega
      subst e2
      rw [List.getElem_append_right (Nat.le_refl _), List.getElem_append_right (by rw [h.len]; exact Nat.le_refl _)]
      simp only [h.len, Nat.sub_self, List.getElem_cons_zero]
      exact hu.mono hB
  · rw [List.pairwise_append]
    refine ⟨h.apart, by simp, fun x hx y hy => ?_⟩
    simp at hy; subst hy
    obtain ⟨i, hi, rfl⟩ := List.getElem_of_mem hx
    cases e : us[i].ownBlock with
    | none => exact .inl rfl
    | some b =>
      refine .inr fun e2 => ?_
      have h1 := hlt i hi b e
      have h2 := (hu.lt e2.symm).1
      omega

/-- 'append(s, u)' at an operation: the new array is the old one or a new block. -/
theorem wp_app_row2 {o : Oper} {a : Act} {K : Act → World → Prop} {Q : Exit → Act → World → Prop} (B m : Nat) (w : World) (v : Value) (xss : List (List Int)) (u : Value) (xs : List Int) (s x : Operand)
    (ho : o.op = .call { callee := .builtin .append, args := #[s, x], argTypes := #[22, 22] })
    (hs : a.eval s = v) (hown : OwnRowsIn B m w v xss) (hu : Own m w u xs) (hx : a.eval x = .slice (some ⟨w.heap.size, 0, none⟩) 1 1) (hn : xss.length ≤ 1099511627776) (hB : B ≤ m) (hB2 : B ≤ w.heap.size)
    (h : ∀ g c' w', OwnRows B w' (.slice (some ⟨g, 0, none⟩) (xss.length + 1) c') (xss ++ [xs]) → Keep (fun b => v.ownBlock = some b) w w' → (v.ownBlock = some g ∨ w.heap.size ≤ g) → K (a.put o.dst (.slice (some ⟨g, 0, none⟩) (xss.length + 1) c')) w') :
    o.wp Try.prog a (w.alloc (.cells #[u] 25)) K Q := by
  obtain ⟨us, h1, h2, _, hlt⟩ := hown
  have h2' := rowvals_snoc h2 hlt hu hB
  have hlen := h2.len
  obtain ⟨ua, uc, hu1, _⟩ := hu.shape
  obtain ⟨i0, hi, hz0, hz1, hz2⟩ := info_parts inf_ints
  refine wp_append_lies _ s x 22 ho B 25 i0 (.slice none 0 0) 1 24 Try.underlying22 hi hz0 hz1 hz2 rfl (by decide) v us.length us hs (h1.alloc _) ⟨w.heap.size, 0, none⟩ 1 1 [u] hx rfl ?_ ?_ (by decide) (by unfold maxLen; omega) (by omega) (by simp; omega) (w.heap.size + 1) (by simp) ?_
  · intro j u' hj
    match j, hj with
    | 0, hj => simp at hj; subst hj; simp [Addr.add]
  · intro u' hu'; simp at hu'; subst hu'; subst hu1; rfl
  · intro g cap w' h3 h4 h5 _
    have hk := Keep.of_grown h4
    have hk2 : Keep (fun b => v.ownBlock = some b) w w' := ((Keep.refl _ w).alloc _).trans hk
    rw [hlen] at h3 ⊢
    refine h g cap w' ⟨us ++ [u], by simpa [hlen] using h3, rowvals_keepT h2' h1 hk2⟩ hk2 (by rcases h5 with h5 | h5; exact .inl h5; exact .inr (by omega))

theorem wpList_app_row2 {ops : Array Oper} {rest : List Oper} {o : Oper} {a : Act} {Q : Exit → Act → World → Prop} (B m : Nat) (w : World) (v : Value) (xss : List (List Int)) (u : Value) (xs : List Int) (s x : Operand) (hgd : o.guard = none)
    (ho : o.op = .call { callee := .builtin .append, args := #[s, x], argTypes := #[22, 22] })
    (hs : a.eval s = v) (hown : OwnRowsIn B m w v xss) (hu : Own m w u xs) (hx : a.eval x = .slice (some ⟨w.heap.size, 0, none⟩) 1 1) (hn : xss.length ≤ 1099511627776) (hB : B ≤ m) (hB2 : B ≤ w.heap.size)
    (h : ∀ g c' w', OwnRows B w' (.slice (some ⟨g, 0, none⟩) (xss.length + 1) c') (xss ++ [xs]) → Keep (fun b => v.ownBlock = some b) w w' → (v.ownBlock = some g ∨ w.heap.size ≤ g) → wpList Try.prog ops Q rest (a.put o.dst (.slice (some ⟨g, 0, none⟩) (xss.length + 1) c')) w') :
    wpList Try.prog ops Q (o :: rest) a (w.alloc (.cells #[u] 25)) :=
  wpList_plain hgd fun _ hK => wp_app_row2 B m w v xss u xs s x ho hs hown hu hx hn hB hB2 fun g c' w' h2 h3 h4 => hK _ _ (h g c' w' h2 h3 h4)

theorem step_app_row2 {ops : Array Oper} {o : Oper} {a : Act} {K : Act → World → Prop} {Q : Exit → Act → World → Prop} {E : Prop} (B m : Nat) (w : World) (v : Value) (xss : List (List Int)) (u : Value) (xs : List Int) (s x : Operand) (hgd : o.guard = none)
    (ho : o.op = .call { callee := .builtin .append, args := #[s, x], argTypes := #[22, 22] })
    (hs : a.eval s = v) (hown : OwnRowsIn B m w v xss) (hu : Own m w u xs) (hx : a.eval x = .slice (some ⟨w.heap.size, 0, none⟩) 1 1) (hn : xss.length ≤ 1099511627776) (hB : B ≤ m) (hB2 : B ≤ w.heap.size)
    (h : ∀ g c' w', OwnRows B w' (.slice (some ⟨g, 0, none⟩) (xss.length + 1) c') (xss ++ [xs]) → Keep (fun b => v.ownBlock = some b) w w' → (v.ownBlock = some g ∨ w.heap.size ≤ g) → K (a.put o.dst (.slice (some ⟨g, 0, none⟩) (xss.length + 1) c')) w') :
    if Region.wanted o (yielded ops a.tmps) = true then Oper.wp Try.prog o a (w.alloc (.cells #[u] 25)) K Q else E := by
  have hw : Region.wanted o (yielded ops a.tmps) = true := by simp [Region.wanted, hgd]
  rw [if_pos hw]
  exact wp_app_row2 B m w v xss u xs s x ho hs hown hu hx hn hB hB2 h
end Go.Proofs.Ytkcobfkmeaakoaa

namespace Go.Proofs.Ytkcobfkmeaakoaa
open Go.RowKit

/-- The result can be read; nothing that was there has turned. -/
def RSolR (w0 : World) (A B : List (List Int)) (e : Ending) (w' : World) : Prop := ∃ r1 r2, e = .returned (.agg #[r1, r2]) ∧ (OwnRows w0.heap.size w' r1 A ∧ OwnRows w0.heap.size w' r2 B) ∧ Below w0.heap.size w0 w'

theorem rowOf_self (p : List Int) : rowOf p.length (nth p) = p := by
  apply ext_nth (by simp)
  intro k hk
  rw [nth_rowOf p.length (nth p) k (by simpa using hk)]

theorem rowOf_const (n : Nat) (c : Int) : rowOf n (fun _ => c) = List.replicate n c := by
  unfold rowOf
  rw [List.map_const']
  simp

theorem OwnRows.shape' {B : Nat} {w : World} {v : Value} {xss : List (List Int)} (h : OwnRows B w v xss) : ∃ a c, v = .slice a xss.length c ∧ Rows w (.slice a xss.length c) xss := by
  have hr := h.rows
  obtain ⟨a, c, rfl, _⟩ := hr.shape
  exact ⟨a, c, rfl, hr⟩

set_option maxHeartbeats 1000000 in
theorem c_l02Twist (v v' : Value) (p q : List Int) (w : World) (hp : Ints w v p) (hq : Ints w v' q) (hl : q.length = p.length) (hn : p.length ≤ 1048576) :
    Calls Try.prog 103 #[v, v'] w (RSolR w (twA p) (twB p q)) := by
  obtain ⟨a, c, rfl, hc, hm⟩ := hp.shape
  obtain ⟨a', c', rfl, hc', hm'⟩ := hq.shape
  have HL := Lib.hid hl; clear hl
  obtain ⟨f0, f1, hW0, hsz⟩ := boxes2 w [.slice none 0 0, .slice none 0 0] [.slice none 0 0, .slice none 0 0] 27 27
  go_enter Try.func103, Try.ntmps103
  go_wp2
  have hB0 : Below w.heap.size w ((w.alloc (.cells #[.slice none 0 0, .slice none 0 0] 27)).alloc (.cells #[.slice none 0 0, .slice none 0 0] 27)) := hW0
  go_loopw [6, 7, 8] (fun i _ _ wr => ∃ (k : Nat) (va vb : Value), k ≤ p.length ∧ i = .int .i64 k ∧ Hid (Below w.heap.size w wr ∧ w.heap.size + 2 ≤ wr.heap.size) ∧ Hid (Blk wr w.heap.size 27 [.slice none 0 0, .slice none 0 0]) ∧ Hid (Blk wr (w.heap.size + 1) 27 [va, vb]) ∧
    Hid (OwnRows (w.heap.size + 2) wr va ((twA p).take k)) ∧ Hid (OwnRows (w.heap.size + 2) wr vb ((twB p q).take k)) ∧ Hid (∀ b, va.ownBlock = some b → vb.ownBlock ≠ some b)) (fun i _ _ _ => p.length - (intOf i).toNat)
  case atStart => exact ⟨0, _, _, Nat.zero_le _, rfl, Lib.hid ⟨hB0, by simp⟩, Lib.hid f0, Lib.hid f1, Lib.hid ⟨[], ⟨by simp, .inl ⟨rfl, rfl⟩⟩, RowVals.nil _ _⟩, Lib.hid ⟨[], ⟨by simp, .inl ⟨rfl, rfl⟩⟩, RowVals.nil _ _⟩, Lib.hid (by intro b hb; cases hb)⟩
  case round =>
    clear hB0 f0 f1 hW0 hsz
    obtain ⟨k, va, vb, hk, rfl, HB, HQ0, HQ1, HA, HBt, HNE⟩ := hrel
    obtain ⟨wo, rfl⟩ : ∃ wo : World, wo = wr := ⟨_, rfl⟩
    by_cases hlt : k < p.length
    · have hkq : k < q.length := by rw [HL.out]; exact hlt
      go_wp2
      go_loopw [7, 8] (fun s y wi => ∃ (j : Nat) (sa : Option Addr) (sc : Nat), j ≤ p.length ∧ y = .int .i64 j ∧ s = .slice sa j sc ∧ Below wo.heap.size wo wi ∧ Own wo.heap.size wi (.slice sa j sc) (List.replicate j (nth q k))) (fun _ y _ => p.length - (intOf y).toNat)
      case atStart => exact ⟨0, _, _, Nat.zero_le _, rfl, rfl, (Below.refl _ _).alloc (Nat.le_refl _) _, Own.made0 wo (Nat.le_refl _)⟩
      case round =>
        obtain ⟨j, sa, sc, hj, rfl, rfl, hb, hown⟩ := hrel
        by_cases hlj : j < p.length
        · obtain ⟨b, o, rfl, hcell⟩ := ((hq.below HB.out.1).below hb).get k hkq
          have Hb := Lib.hid hb; have Ho := Lib.hid hown; have Hs := Lib.hid hb.size; clear hb hown
          go_wp2_with (at_builtin; refine wpList_app_int wo.heap.size wr _ (List.replicate j (nth q k)) (nth q k) _ _ rfl rfl rfl Ho.out rfl (by simp; omega) Hs.out ?_; intro a' c' w' hown' hkeep; rw [List.length_replicate]; have Hk := Lib.hid hkeep; have Ho' := Lib.hid hown'; clear hkeep hown')
          go_roundw
          case rel =>
            have h1 := Ho'.out
            rw [List.length_replicate, ← List.replicate_succ'] at h1
            exact ⟨j + 1, a', c', by omega, by go_num, rfl, Ho.out.frame Hb.out (Nat.le_refl _) Hs.out Hk.out, h1⟩
          case measure => simp [intOf]; omega
        · obtain rfl : j = p.length := by omega
          obtain ⟨wi, rfl⟩ : ∃ wi : World, wi = wr := ⟨_, rfl⟩
          have Hb := Lib.hid hb; have Ho := Lib.hid hown; clear hb hown
          have HQ1d := Lib.hid ((HQ1.out.under Hb.out).drew)
          obtain ⟨cA, cB, cF, cG⟩ := two_cells HQ1d.out
          have hpd := ((hp.below HB.out.1).below Hb.out).below ((Below.refl wi.heap.size wi).drew)
          have hAd := (HA.out.inn.under Hb.out).under ((Below.refl wi.heap.size wi).drew)
          have hlen : ((twA p).take k).length = k := by simp [twA]; omega
          have hBW := HB.out.2
          have hbs := Hb.out.size
          have HPd := Lib.hid hpd; have HAd := Lib.hid hAd; have HLen := Lib.hid hlen; have HBW := Lib.hid hBW; have Hbs := Lib.hid hbs
          have HK1 : Hid (((twA p).take k).length ≤ 1099511627776) := by show _ ≤ _; rw [hlen]; omega
          have HB2s : Hid (w.heap.size + 2 ≤ wi.heap.size) := by show _ ≤ _; omega
          clear hpd hAd hlen hBW hbs
          go_wp2
          go_region_law (first
            | (go_simp; go_at_call 157; refine (c_l01Own _ p _ HPd.out (by omega)).mono ?_; rintro e w1 ⟨r1, rfl, ho1', hb1'⟩; obtain ⟨ra1, rc1, rfl, _⟩ := ho1'.shape; have ho1 := Lib.hid ho1'; have hb1 := Lib.hid hb1'; have HAd1 := Lib.hid (HAd.out.under hb1'); have HB1s : Hid (w.heap.size + 2 ≤ w1.heap.size) := Nat.le_trans HB2s.out hb1'.size; obtain ⟨cA1, cB1, cF1, cG1⟩ := two_cells (HQ1d.out.under hb1'); have cA1z : (w1.alloc (.cells #[.slice ra1 p.length rc1] 25)).cell? ⟨w.heap.size + 1, 0, none⟩ = some va := (two_cells ((HQ1d.out.under hb1').alloc _)).1; clear ho1' hb1')
            | (refine step_app_row2 (w.heap.size + 2) wo.heap.size w1 va ((twA p).take k) (.slice ra1 p.length rc1) p (.tmp 31) (.tmp 34) rfl rfl rfl HAd1.out (ho1.out.mono Hbs.out) rfl HK1.out HBW.out HB1s.out ?_; intro g c2 w2 hown2 hk2 hg2; rw [HLen.out] at hown2; rw [HLen.out]
               have hq1 : ∀ b, va.ownBlock = some b → w.heap.size + 2 ≤ b := fun b e => (OwnRows.lt HA.out e).1
               have hQ2 := (HQ1d.out.under hb1.out).of_block (hk2.block _ (HQ1d.out.under hb1.out).lt (fun e => by have := hq1 _ e; omega))
               obtain ⟨cA2, cB2, cF2, cG2⟩ := two_cells hQ2
               have HQ2 := Lib.hid hQ2; have HK2 := Lib.hid hk2; have HG2 := Lib.hid hg2; have Hown2 := Lib.hid hown2; clear hQ2 hk2 hg2 hown2 hq1))
          all_goals
            have hbw := HBW.out
            have hva : ∀ b, va.ownBlock = some b → w.heap.size + 2 ≤ b ∧ b < wo.heap.size := fun b e => OwnRows.lt HA.out e
            have hvb : ∀ b, vb.ownBlock = some b → w.heap.size + 2 ≤ b ∧ b < wo.heap.size := fun b e => OwnRows.lt HBt.out e
            have hs1 : wo.heap.size ≤ w1.heap.size := Nat.le_trans Hbs.out hb1.out.size
            have hQ3 := HQ2.out.set 0 (.slice (some ⟨g, 0, none⟩) (k + 1) c2)
            have hA3 := Hown2.out.keep (keep1 w2 (w.heap.size + 1) 0 (.slice (some ⟨g, 0, none⟩) (k + 1) c2)) (fun b h1 h2 h3 => by have h3 : b = w.heap.size + 1 := h3; omega)
            have hB1 := ((HBt.out.inn.under Hb.out).under ((Below.refl wi.heap.size wi).drew)).under hb1.out
            have hB3 := (hB1.keepT HAd1.out.out (fun b e1 e2 => HNE.out b e2 e1) HK2.out).keep (keep1 w2 (w.heap.size + 1) 0 (.slice (some ⟨g, 0, none⟩) (k + 1) c2)) (fun b h1 h2 h3 => by have h3 : b = w.heap.size + 1 := h3; omega)
            have hu1 := (Ho.out.under ((Below.refl wi.heap.size wi).drew)).under hb1.out
            have hu3 := (hu1.keep HK2.out (fun b h1 h2 h3 => by have := hva b h3; omega)).keep (keep1 w2 (w.heap.size + 1) 0 (.slice (some ⟨g, 0, none⟩) (k + 1) c2)) (fun b h1 h2 h3 => by have h3 : b = w.heap.size + 1 := h3; omega)
            have hW1 : Below w.heap.size w w1 := bb (bb (bb HB.out.1 Hb.out) ((Below.refl wi.heap.size wi).drew)) hb1.out
            have hW3 := (OwnRows.frame HAd1.out.out hW1 (by omega) (by omega) HK2.out).setCell (p := ⟨w.heap.size + 1, 0, none⟩) (by show _ ≤ w.heap.size + 1; omega) (.slice (some ⟨g, 0, none⟩) (k + 1) c2)
            have hZ1 := (((HQ0.out.under Hb.out).drew).under hb1.out)
            have hZ3 := (hZ1.of_block (HK2.out.block _ hZ1.lt (fun e => by have := hva _ e; omega))).other (a := ⟨w.heap.size + 1, 0, none⟩) (by show w.heap.size ≠ w.heap.size + 1; omega) (.slice (some ⟨g, 0, none⟩) (k + 1) c2)
            have hne3 : ∀ b, (Value.slice (some ⟨g, 0, none⟩) (k + 1) c2).ownBlock = some b → vb.ownBlock ≠ some b := by
              intro b e e2
              simp [Value.ownBlock] at e
              subst e
              rcases HG2.out with h | h
              · exact HNE.out _ h e2
              · have := hvb _ e2; omega
            have hs3 : w1.heap.size ≤ (w2.setCell ⟨w.heap.size + 1, 0, none⟩ (.slice (some ⟨g, 0, none⟩) (k + 1) c2)).heap.size := by simpa [World.setCell] using HK2.out.size
            obtain ⟨w3, hw3⟩ : ∃ w3, w2.setCell ⟨w.heap.size + 1, 0, none⟩ (.slice (some ⟨g, 0, none⟩) (k + 1) c2) = w3 := ⟨_, rfl⟩
            rw [hw3] at hQ3 hA3 hB3 hu3 hW3 hZ3 hs3 ⊢
            obtain ⟨dA, dB, dF, dG⟩ := two_cells hQ3
            have hlb : ((twB p q).take k).length = k := by simp [twB]; omega
            have HLB := Lib.hid hlb
            have HB3 := Lib.hid hB3; have HU3 := Lib.hid hu3; have HQ3 := Lib.hid hQ3; have HA3 := Lib.hid hA3; have HW3 := Lib.hid hW3; have HZ3 := Lib.hid hZ3; have HN3 := Lib.hid hne3; have HVB := Lib.hid hvb
            have HK3 : Hid (((twB p q).take k).length ≤ 1099511627776) := by show _ ≤ _; rw [hlb]; omega
            have HS3 : Hid (w.heap.size + 2 ≤ w3.heap.size ∧ wo.heap.size ≤ w3.heap.size) := by have := HBW.out; exact ⟨by omega, by omega⟩
            have HG3 : Hid (g < w3.heap.size) := (OwnRows.lt hA3 rfl).2
            clear hbw hlb hB3 hu3 hQ3 hA3 hW3 hZ3 hne3 hvb hva hs1 hs3 hW1 hZ1 hu1 hB1 cA1 cA1z cB1 cF1 cG1 cA2 cB2 cF2 cG2 cA cB cF cG hw3
            go_wp2_with (at_builtin; refine wpList_app_row2 (w.heap.size + 2) wo.heap.size w3 vb ((twB p q).take k) _ (List.replicate p.length (nth q k)) _ _ rfl rfl rfl HB3.out HU3.out rfl HK3.out HBW.out HS3.out.1 ?_; intro g2 c4 w4 hown4 hk4 hg4; rw [HLB.out] at hown4; rw [HLB.out]; have hQ4 := HQ3.out.of_block (hk4.block _ HQ3.out.lt (fun e => by have := (HVB.out _ e).1; omega)); obtain ⟨eA, eB, eF, eG⟩ := two_cells hQ4; have HQ4 := Lib.hid hQ4; have Hown4 := Lib.hid hown4; have HK4 := Lib.hid hk4; have HG4 := Lib.hid hg4; clear hQ4 hown4 hk4 hg4)
            go_roundw
            case rel =>
              have hbw := HBW.out
              have hs3 := HS3.out
              have hs4 := HK4.out.size
              have hQ5 := HQ4.out.set 1 (.slice (some ⟨g2, 0, none⟩) (k + 1) c4)
              have hB5 := Hown4.out.keep (keep1 w4 (w.heap.size + 1) 1 (.slice (some ⟨g2, 0, none⟩) (k + 1) c4)) (fun b h1 h2 h3 => by have h3 : b = w.heap.size + 1 := h3; omega)
              have hA5 := (HA3.out.keepT HB3.out.out (fun b e1 e2 => HN3.out b e1 e2) HK4.out).keep (keep1 w4 (w.heap.size + 1) 1 (.slice (some ⟨g2, 0, none⟩) (k + 1) c4)) (fun b h1 h2 h3 => by have h3 : b = w.heap.size + 1 := h3; omega)
              have hW5 := (OwnRows.frame HB3.out.out HW3.out (by omega) (by omega) HK4.out).setCell (p := ⟨w.heap.size + 1, 1, none⟩) (by show _ ≤ w.heap.size + 1; omega) (.slice (some ⟨g2, 0, none⟩) (k + 1) c4)
              have hZ5 := (HZ3.out.of_block (HK4.out.block _ HZ3.out.lt (fun e => by have := (HVB.out _ e).1; omega))).other (a := ⟨w.heap.size + 1, 1, none⟩) (by show w.heap.size ≠ w.heap.size + 1; omega) (.slice (some ⟨g2, 0, none⟩) (k + 1) c4)
              have hs5 : w.heap.size + 2 ≤ (w4.setCell ⟨w.heap.size + 1, 1, none⟩ (.slice (some ⟨g2, 0, none⟩) (k + 1) c4)).heap.size := by have : w3.heap.size ≤ w4.heap.size := hs4; simp [World.setCell]; omega
              refine ⟨k + 1, .slice (some ⟨g, 0, none⟩) (k + 1) c2, .slice (some ⟨g2, 0, none⟩) (k + 1) c4, by omega, by go_num, Lib.hid ⟨hW5, hs5⟩, Lib.hid hZ5, Lib.hid hQ5, Lib.hid ?_, Lib.hid ?_, Lib.hid fun b e1 e2 => ?_⟩
              · rw [take_snoc_row _ _ (by simp [twA]; omega)]
                unfold twA
                rw [row_tabOf _ _ _ hlt, rowOf_self]
                exact hA5
              · rw [take_snoc_row _ _ (by simp [twB]; omega)]
                unfold twB
                rw [row_tabOf _ _ _ hlt, rowOf_const]
                exact hB5
              · simp [Value.ownBlock] at e1 e2
                subst e1
                subst e2
                rcases HG4.out with h | h
                · exact HN3.out _ rfl h
                · have := HG3.out; omega
            case measure => simp [intOf]; omega
    · obtain rfl : k = p.length := by omega
      have hA := HA.out
      have hB := HBt.out
      rw [List.take_of_length_le (by simp [twA])] at hA
      rw [List.take_of_length_le (by simp [twB])] at hB
      obtain ⟨ra1, rc1, rfl, hca⟩ := OwnRows.shape' hA
      obtain ⟨ra2, rc2, rfl, hcb⟩ := OwnRows.shape' hB
      obtain ⟨z0, z1, z2, z3⟩ := two_cells HQ0.out
      obtain ⟨y0, y1, y2, y3⟩ := two_cells HQ1.out
      have HA' := Lib.hid hA; have HB' := Lib.hid hB; clear hA hB hca hcb
      go_wp2
      refine bodyPost_ret (v := .agg #[.slice ra1 (twA p).length rc1, .slice ra2 (twB p q).length rc2]) (by simp [results, Try.results103, go_sem, z0, z1]) rfl ⟨_, _, rfl, ⟨?_, ?_⟩, (HB.out.1.setCell (p := ⟨w.heap.size, 0, none⟩) (Nat.le_refl _) _).setCell (p := ⟨w.heap.size, 1, none⟩) (Nat.le_refl _) _⟩
      · exact ((HA'.out.keep (keep1 _ w.heap.size 0 _) (fun b h1 h2 h3 => by have h3 : b = w.heap.size := h3; omega)).keep (keep1 _ w.heap.size 1 _) (fun b h1 h2 h3 => by have h3 : b = w.heap.size := h3; omega)).mono (by omega)
      · exact ((HB'.out.keep (keep1 _ w.heap.size 0 _) (fun b h1 h2 h3 => by have h3 : b = w.heap.size := h3; omega)).keep (keep1 _ w.heap.size 1 _) (fun b h1 h2 h3 => by have h3 : b = w.heap.size := h3; omega)).mono (by omega)
/-- A pair of tables that can be read, all of it below hi. -/
def RdSol (lo hi : Nat) (w : World) (v1 v2 : Value) (A B : List (List Int)) : Prop := ∃ w0 : World, lo = 0 ∧ Sol w0 v1 v2 A B ∧ w0.heap.size ≤ hi ∧ Below w0.heap.size w0 w
theorem RdSol.sol {lo hi : Nat} {w : World} {v1 v2 : Value} {A B : List (List Int)} (h : RdSol lo hi w v1 v2 A B) : Sol w v1 v2 A B := by
  obtain ⟨w0, _, h1, _, h2⟩ := h
  exact h1.below h2
theorem RdSol.under {lo hi : Nat} {w w' : World} {v1 v2 : Value} {A B : List (List Int)} (h : RdSol lo hi w v1 v2 A B) (hb : Below w.heap.size w w') : RdSol lo hi w' v1 v2 A B := by
  obtain ⟨w0, h0, h1, h3, h2⟩ := h
  exact ⟨w0, h0, h1, h3, bb h2 hb⟩
theorem RdSol.keep {lo hi : Nat} {S : Nat → Prop} {w w' : World} {v1 v2 : Value} {A B : List (List Int)} (h : RdSol lo hi w v1 v2 A B) (k : Keep S w w') (hs : ∀ b, lo ≤ b → b < hi → ¬ S b) : RdSol lo hi w' v1 v2 A B := by
  obtain ⟨w0, h0, h1, h3, h2⟩ := h
  subst h0
  exact ⟨w0, rfl, h1, h3, h2.trans (k.below fun b hb => ⟨by have := h2.size; omega, hs b (Nat.zero_le _) (by omega)⟩)⟩
def RSolRC (w0 : World) (A B : List (List Int)) (c : Int) (e : Ending) (w' : World) : Prop := ∃ r1 r2, e = .returned (.tuple #[.agg #[r1, r2], .int .i64 c]) ∧ RdSol 0 w'.heap.size w' r1 r2 A B ∧ Below w0.heap.size w0 w'

theorem OwnRowsIn.nil0 (lo hi : Nat) (w : World) : OwnRowsIn lo hi w (.slice none 0 0) [] :=
  ⟨[], ⟨by simp, .inl ⟨rfl, rfl⟩⟩, RowVals.nil _ _, (by intro k hk; cases hk), (by intro i hi; simp at hi)⟩
theorem OwnSol.nil0 {lo hi : Nat} {w : World} (h : lo ≤ hi) : OwnSol lo hi w (.slice none 0 0) (.slice none 0 0) [] [] :=
  ⟨lo, lo, lo, lo, Nat.le_refl _, h, Nat.le_refl _, h, .inl (Nat.le_refl _), OwnRowsIn.nil0 _ _ _, OwnRowsIn.nil0 _ _ _⟩

theorem total_le (t : List (List Int)) (h : ∀ r ∈ t, r.length ≤ 12) : total t ≤ t.length * 12 := by
  induction t with
  | nil => simp [total]
  | cons r t ih =>
    have h1 := h r (by simp)
    have h2 := ih fun r hr => h r (by simp [hr])
    simp only [total, List.length_cons]
    omega
theorem tab_rows {n : Nat} {g : Int → Int → Int} (hn : n ≤ 12) : ∀ r ∈ tabOf n g, r.length ≤ 12 := by
  intro r hr
  simp only [tabOf, List.mem_map] at hr
  obtain ⟨x, _, rfl⟩ := hr
  simpa using hn
end Go.Proofs.Ytkcobfkmeaakoaa

namespace Go.Proofs.Ytkcobfkmeaakoaa
open Go.RowKit

def ivF (A B : List (List Int)) (x y : Nat) : Bool := decide (val2 A (val2 A x y) (val2 B x y) = x) && decide (val2 B (val2 A x y) (val2 B x y) = y)
def involL (A B : List (List Int)) : Bool := all2 A.length (ivF A B)


set_option maxRecDepth 100000 in
set_option maxHeartbeats 800000 in
theorem c_isInvolutive (v0 u0 : Value) (A B : List (List Int)) (w : World) (hA : Sol w v0 u0 A B) (hp : isPM A B = true) :
    Calls Try.prog 105 #[.agg #[v0, u0]] w (RVal w (.bool (involL A B))) := by
  obtain ⟨n0, b0, o0, c0, rb0, ro0, rc0, b0s, o0s, c0s, rb0s, ro0s, rc0s, rfl, rfl, hl0, hl0s, hn0, hx0, hc0, hm0, hc0s, hm0s, t0, t0s⟩ := hA.tabs hp
  have HL0 := Lib.hid hl0; clear hl0
  have HL0s := Lib.hid hl0s; clear hl0s
  go_enter Try.func105, Try.ntmps105
  go_wp2
  obtain ⟨f0, hW0, hsz⟩ := boxes1 w [.slice (some ⟨b0, o0, none⟩) n0 c0, .slice (some ⟨b0s, o0s, none⟩) n0 c0s] 27
  obtain ⟨W0, hW⟩ : ∃ W, (w.alloc (.cells #[.slice (some ⟨b0, o0, none⟩) n0 c0, .slice (some ⟨b0s, o0s, none⟩) n0 c0s] 27)) = W := ⟨_, rfl⟩
  rw [hW] at f0 hW0 hsz ⊢
  have HSZ := Lib.hid hsz
  clear hW hsz
  obtain ⟨cA0, cB0, -, -⟩ := two_cells f0
  replace t0 := t0.below hW0; replace t0s := t0s.below hW0
  have HT := Lib.hid t0; have HTs := Lib.hid t0s; have HW := Lib.hid hW0; have HF := Lib.hid f0
  clear t0 t0s hA hp hW0 f0
  go_loop [11, 3, 4, 5, 6, 7] (fun i _ _ _ _ _ => ∃ k : Nat, k ≤ n0 ∧ i = .int .i64 k ∧ Hid (∀ x, x < k → ∀ y, y < n0 → ivF A B x y = true)) (fun i _ _ _ _ _ => n0 - (intOf i).toNat)
  case atStart => exact ⟨0, Nat.zero_le _, rfl, Lib.hid (by intro x hx; omega)⟩
  case round =>
    obtain ⟨k, hk, rfl, HA⟩ := hrel
    by_cases hlt : k < n0
    · have r1 := HT.out.row k hlt
      go_wp2
      go_loop [18, 5, 6, 7] (fun i _ _ _ => ∃ j : Nat, j ≤ n0 ∧ i = .int .i64 j ∧ Hid (∀ y, y < j → ivF A B k y = true)) (fun i _ _ _ => n0 - (intOf i).toNat)
      case atStart => exact ⟨0, Nat.zero_le _, rfl, Lib.hid (by intro x hx; omega)⟩
      case round =>
        obtain ⟨j, hj, rfl, HA2⟩ := hrel
        by_cases hlj : j < n0
        · have T := HT.out; have Ts := HTs.out
          have x1 := T.val k j hlt hlj; have r2 := Ts.row k hlt; have x2 := Ts.val k j hlt hlj
          obtain ⟨hu0, hu1⟩ := T.rng k j (by omega) (by omega) (by omega) (by omega)
          obtain ⟨hv0, hv1⟩ := Ts.rng k j (by omega) (by omega) (by omega) (by omega)
          have r3 := T.rowi (val2 A k j) hu0 hu1; have x3 := T.vali (val2 A k j) (val2 B k j) hu0 hu1 hv0 hv1
          have r4 := Ts.rowi (val2 A k j) hu0 hu1; have x4 := Ts.vali (val2 A k j) (val2 B k j) hu0 hu1 hv0 hv1
          clear T Ts
          by_cases h1 : val2 A (val2 A k j) (val2 B k j) = k
          · have e1 : (val2 A (val2 A k j) (val2 B k j) != (k : Int)) = false := by simp [h1]
            by_cases h2 : val2 B (val2 A k j) (val2 B k j) = j
            · have e2 : (val2 B (val2 A k j) (val2 B k j) != (j : Int)) = false := by simp [h2]
              have H1 := Lib.hid h1; have H2 := Lib.hid h2; clear h1 h2
              go_wp2
              go_round
              case rel => exact ⟨j + 1, by omega, by go_num, Lib.hid (lt_snoc HA2.out (by simp [ivF, H1.out, H2.out]))⟩
              case measure => simp [intOf]; omega
            · have e2 : (val2 B (val2 A k j) (val2 B k j) != (j : Int)) = true := by simp [h2]
              have H2 := Lib.hid h2; clear h1 h2
              go_wp2
              go_ret
              exact ⟨ret_bool (by simp [involL, HL0.out, all2_no hlt hlj (P := ivF A B) (by simp [ivF, H2.out])]), HW.out⟩
          · have e1 : (val2 A (val2 A k j) (val2 B k j) != (k : Int)) = true := by simp [h1]
            have H1 := Lib.hid h1; clear h1
            go_wp2
            go_ret
            exact ⟨ret_bool (by simp [involL, HL0.out, all2_no hlt hlj (P := ivF A B) (by simp [ivF, H1.out])]), HW.out⟩
        · obtain rfl : j = n0 := by omega
          go_wp2
          go_round
          case rel => exact ⟨k + 1, by omega, by go_num, Lib.hid (lt_snoc HA.out HA2.out)⟩
          case measure => simp [intOf]; omega
    · obtain rfl : k = n0 := by omega
      go_wp2
      go_ret
      exact ⟨ret_bool (by simp [involL, HL0.out, all2_iff.2 HA.out]), HW.out⟩

def pmCode' (A B : List (List Int)) : Int := if isPM A B then 0 else 1
def involRes (A B : List (List Int)) : Bool := if isPM A B then involL A B else false
set_option maxHeartbeats 800000 in
theorem c_IsInvolutive (v0 u0 : Value) (A B : List (List Int)) (w : World) (hA : Sol w v0 u0 A B) :
    Calls Try.prog 33 #[.agg #[v0, u0]] w (RVal w (.tuple #[.bool (involRes A B), .int .i64 (pmCode' A B)])) := by
  obtain ⟨a0, c0, rfl, _, _⟩ := hA.1.shape
  obtain ⟨a0s, c0s, rfl, _, _⟩ := hA.2.shape
  by_cases hp0 : isPM A B = true
  case neg =>
    have hq0 : isPM A B = false := by simpa using hp0
    have HQ := Lib.hid hq0; clear hp0
    go_enter Try.func33, Try.ntmps33
    go_wp2_with fail
    obtain ⟨f0, hW0, hsz⟩ := boxes1 w [.slice a0 A.length c0, .slice a0s B.length c0s] 27
    obtain ⟨W0, hW⟩ : ∃ W, (w.alloc (.cells #[.slice a0 A.length c0, .slice a0s B.length c0s] 27)) = W := ⟨_, rfl⟩
    rw [hW] at f0 hW0 hsz ⊢
    clear hW hsz
    refine (c_IsPairMap _ _ _ _ _ (hA.below hW0)).mono ?_; rintro e g0 ⟨rfl, hbg0⟩
    have hB0 := bb hW0 hbg0
    replace f0 := f0.under hbg0
    obtain ⟨cA0, cB0, -, -⟩ := two_cells f0
    clear hbg0
    have HB := Lib.hid hB0
    clear hB0 f0 hW0 hA
    go_wp2
    go_ret2
    exact ⟨by simp [involRes, pmCode', HQ.out], HB.out⟩
  have HP0 := Lib.hid hp0
  go_enter Try.func33, Try.ntmps33
  go_wp2_with fail
  obtain ⟨f0, hW0, hsz⟩ := boxes1 w [.slice a0 A.length c0, .slice a0s B.length c0s] 27
  obtain ⟨W0, hW⟩ : ∃ W, (w.alloc (.cells #[.slice a0 A.length c0, .slice a0s B.length c0s] 27)) = W := ⟨_, rfl⟩
  rw [hW] at f0 hW0 hsz ⊢
  clear hW hsz
  refine (c_IsPairMap _ _ _ _ _ (hA.below hW0)).mono ?_; rintro e g0 ⟨rfl, hbg0⟩
  have hB0 := bb hW0 hbg0
  replace f0 := f0.under hbg0
  obtain ⟨cA0, cB0, -, -⟩ := two_cells f0
  clear hbg0
  go_wp2_with fail
  refine (c_isInvolutive _ _ _ _ _ (hA.below hB0) HP0.out).mono ?_; rintro e wz ⟨rfl, hb⟩
  have HB := Lib.hid (bb hB0 hb)
  clear hb hB0 f0 hW0 hA
  go_wp2
  go_ret2
  exact ⟨by simp [involRes, pmCode', HP0.out], HB.out⟩
end Go.Proofs.Ytkcobfkmeaakoaa

namespace Go.Proofs.Ytkcobfkmeaakoaa
open Go.RowKit

theorem Rows.any {w : World} {v : Value} {t : List (List Int)} (h : Rows w v t) : ∃ a l c, v = .slice a l c := by
  obtain ⟨a, c, rfl, _, _⟩ := h.shape
  exact ⟨_, _, _, rfl⟩
theorem OwnRows.any {B : Nat} {w : World} {v : Value} {t : List (List Int)} (h : OwnRows B w v t) : ∃ a l c, v = .slice a l c := h.rows.any
theorem storedR {w w2 : World} {r1 r2 : Value} {A B : List (List Int)} {lo q : Nat} (hB : Below w.heap.size w w2) (hs : OwnRows lo w2 r1 A ∧ OwnRows lo w2 r2 B) (hq : w.heap.size ≤ q) (hlo : q < lo) :
    RdSol 0 ((w2.setCell ⟨q, 0, none⟩ r1).setCell ⟨q, 1, none⟩ r2).heap.size ((w2.setCell ⟨q, 0, none⟩ r1).setCell ⟨q, 1, none⟩ r2) r1 r2 A B ∧ Below w.heap.size w ((w2.setCell ⟨q, 0, none⟩ r1).setCell ⟨q, 1, none⟩ r2) := by
  have k : Keep (fun b => b = q) w2 ((w2.setCell ⟨q, 0, none⟩ r1).setCell ⟨q, 1, none⟩ r2) := ((Keep.refl (fun b => b = q) w2).setCell (p := ⟨q, 0, none⟩) (.inl rfl) _).setCell (p := ⟨q, 1, none⟩) (.inl rfl) _
  exact ⟨⟨_, rfl, ⟨(hs.1.keep k (fun b h1 _ h3 => by omega)).rows, (hs.2.keep k (fun b h1 _ h3 => by omega)).rows⟩, Nat.le_refl _, Below.refl _ _⟩, (hB.setCell (p := ⟨q, 0, none⟩) hq _).setCell (p := ⟨q, 1, none⟩) hq _⟩
theorem rsolR_of {w : World} {A B : List (List Int)} {e : Ending} {w' : World} (h : RSol w A B e w') : RSolR w A B e w' := by
  obtain ⟨r1, r2, he, hs, hb⟩ := h
  obtain ⟨lo1, hi1, lo2, hi2, h1, _, h3, _, _, k1, k2⟩ := hs
  exact ⟨r1, r2, he, ⟨k1.out.mono h1, k2.out.mono h3⟩, hb⟩
end Go.Proofs.Ytkcobfkmeaakoaa

namespace Go.Proofs.Ytkcobfkmeaakoaa
open Go.RowKit

set_option maxHeartbeats 400000 in
theorem c_slicesEqual (v1 v2 : Value) (xs ys : List Int) (w : World) (hx : Ints w v1 xs) (hy : Ints w v2 ys) :
    Calls Try.prog 99 #[v1, v2] w (QVal w (.bool (decide (xs = ys)))) := by
  obtain ⟨a, c, rfl, hc, hm, hcell⟩ := hx
  obtain ⟨a2, c2, rfl, hc2, hm2, hcell2⟩ := hy
  have hm' : xs.length ≤ 9223372036854775807 := by unfold maxLen at hm; omega
  have hm2' : ys.length ≤ 9223372036854775807 := by unfold maxLen at hm2; omega
  have HC := Lib.hid hcell; clear hcell
  have HC2 := Lib.hid hcell2; clear hcell2
  clear hm hm2
  by_cases hlen : xs.length = ys.length
  · have hl1 : ((xs.length : Int) == (ys.length : Int)) = true := by simp [hlen]
    have hl2 : ((xs.length : Int) != (ys.length : Int)) = false := by simp [hlen]
    have HL := Lib.hid hlen; clear hlen
    go_enter Try.func99, Try.ntmps99
    go_wp2
    go_loopw [13, 5] (fun i _ wr => ∃ k : Nat, k ≤ xs.length ∧ i = .int .i64 k ∧ Hid (∃ n, wr = w.drewN n) ∧ Hid (xs.take k = ys.take k)) (fun i _ _ => xs.length - (intOf i).toNat)
    case atStart => exact ⟨0, Nat.zero_le _, rfl, Lib.hid ⟨0, rfl⟩, Lib.hid rfl⟩
    case round =>
      obtain ⟨k, hk, rfl, HN, HE⟩ := hrel
      have hb : Below w.heap.size w wr := by obtain ⟨n, hn⟩ := HN.out; rw [hn]; exact below_drewN (Below.refl _ _) n
      by_cases hlt : k < xs.length
      · have hlt2 : k < ys.length := by have := HL.out; omega
        obtain ⟨b, o, rfl, hcell⟩ := HC.out k hlt
        obtain ⟨b2, o2, rfl, hcell2⟩ := HC2.out k hlt2
        have h1 : wr.cell? ⟨b, o + k, none⟩ = some (.int .i64 xs[k]) := cell_under hb hcell
        have h2 : wr.cell? ⟨b2, o2 + k, none⟩ = some (.int .i64 ys[k]) := cell_under hb hcell2
        clear hb hcell hcell2
        have hk0 : (0 : Int) ≤ k := by omega
        have hk1 : (k : Int) < xs.length := by omega
        have hk2 : (k : Int) < ys.length := by omega
        by_cases he : xs[k] = ys[k]
        · have he1 : (xs[k] != ys[k]) = false := by simp [he]
          have HV := Lib.hid he; clear he
          go_wp2
          go_quiet (fail)
          go_wp2
          go_roundw
          case rel => exact ⟨k + 1, by omega, by go_num, by obtain ⟨n, hn⟩ := HN.out; exact Lib.hid ⟨n + _, by rw [hn]; exact drewN_drewN w n _⟩, Lib.hid (eq_snoc hlt hlt2 HE.out HV.out)⟩
          case measure => simp [intOf]; omega
        · have he1 : (xs[k] != ys[k]) = true := by simp [he]
          go_wp2
          go_quiet (fail)
          go_wp2
          go_ret
          refine ⟨ret_bool ?_, by obtain ⟨n, hn⟩ := HN.out; exact ⟨n + _, by rw [hn]; exact drewN_drewN w n _⟩⟩
          simp only [Eq.comm (a := false), decide_eq_false_iff_not]
          rintro rfl
          exact he rfl
      · go_wp2
        go_ret
        refine ⟨ret_bool ?_, HN.out⟩
        have h := HE.out
        rw [List.take_of_length_le (by omega), List.take_of_length_le (by have := HL.out; omega)] at h
        simp [h]
  · have hl1 : ((xs.length : Int) == (ys.length : Int)) = false := by simp; omega
    have hl2 : ((xs.length : Int) != (ys.length : Int)) = true := by simp; omega
    go_enter Try.func99, Try.ntmps99
    go_wp2
    go_ret
    refine ⟨ret_bool ?_, ⟨0, rfl⟩⟩
    simp only [Eq.comm (a := false), decide_eq_false_iff_not]
    rintro rfl
    exact hlen rfl
end Go.Proofs.Ytkcobfkmeaakoaa

namespace Go.Proofs.Ytkcobfkmeaakoaa
open Go.RowKit

def twOk (p q : List Int) : Bool := isPerm p && isPerm q && decide (p.length = q.length)
def twCm (p q : List Int) : Bool := decide (thenL p q = thenL q p)
def twRA (p q : List Int) : List (List Int) := if twOk p q && twCm p q then twA p else []
def twRB (p q : List Int) : List (List Int) := if twOk p q && twCm p q then twB p q else []
def twCode (p q : List Int) : Int := if twOk p q then (if twCm p q then 0 else 5) else 2
theorem twOk_of {p q : List Int} (h1 : isPerm p = true) (h2 : isPerm q = true) (h3 : p.length = q.length) : twOk p q = true := by simp [twOk, h1, h2, h3]
theorem twOk_no1 {p q : List Int} (h1 : isPerm p = false) : twOk p q = false := by simp [twOk, h1]
theorem twOk_no2 {p q : List Int} (h1 : isPerm q = false) : twOk p q = false := by simp [twOk, h1]
theorem twOk_no3 {p q : List Int} (h1 : p.length ≠ q.length) : twOk p q = false := by simp [twOk, h1]
theorem perm_inT {xs : List Int} (h : isPerm xs = true) : (∀ x ∈ xs, 0 ≤ x ∧ x < xs.length) ∧ xs.length ≤ 12 := by
  simp [isPerm, inR] at h; exact ⟨h.2.2, by omega⟩
set_option maxRecDepth 100000 in
set_option maxHeartbeats 4000000 in
theorem c_specTwistSolution (v0 : Value) (p : List Int) (v1 : Value) (q : List Int) (w : World) (hp : Ints w v0 p) (hq : Ints w v1 q)  :
    Calls Try.prog 28 #[v0, v1] w (RSolRC w (twRA p q) (twRB p q) (twCode p q)) := by
  by_cases hp0 : isPerm p = true
  case neg =>
    have hq0 : isPerm p = false := by simpa using hp0
    have HQ := Lib.hid hq0; clear hp0
    obtain ⟨a0, c0, rfl, hc0, hm0⟩ := hp.shape
    obtain ⟨a1, c1, rfl, hc1, hm1⟩ := hq.shape
    go_enter Try.func28, Try.ntmps28
    go_wp2_with fail
    obtain ⟨f2, hW0, hsz⟩ := boxes1 w [.slice none 0 0, .slice none 0 0] 27
    obtain ⟨W0, hW⟩ : ∃ W, (w.alloc (.cells #[.slice none 0 0, .slice none 0 0] 27)) = W := ⟨_, rfl⟩
    rw [hW] at f2 hW0 hsz ⊢
    clear hW hsz
    refine (c_l01PermV _ _ _ (hp.below hW0)).mono ?_; rintro e g0 ⟨rfl, hbg0⟩
    have hB0 := bb hW0 hbg0
    replace f2 := f2.under hbg0
    obtain ⟨cA2, cB2, fA2, fB2⟩ := two_cells f2
    clear hbg0
    have HB := Lib.hid hB0
    clear hB0 hW0
    go_wp2
    refine bodyPost_ret (v := .tuple #[.agg #[.slice none 0 0, .slice none 0 0], .int .i64 2]) (by simp [results, Try.results28, go_sem, cA2, cB2]) rfl ⟨.slice none 0 0, .slice none 0 0, by simp [twRA, twRB, twCode, twOk, HQ.out], ?_, ?_⟩
    · exact ⟨_, rfl, ⟨by simpa [twRA, twRB, twCode, twOk, HQ.out] using (OwnRowsIn.nil0 0 0 _).rows, by simpa [twRA, twRB, twCode, twOk, HQ.out] using (OwnRowsIn.nil0 0 0 _).rows⟩, Nat.le_refl _, Below.refl _ _⟩
    · first | exact HB.out | exact (HB.out.setCell (p := ⟨w.heap.size, 0, none⟩) (by show _ ≤ w.heap.size; omega) _).setCell (p := ⟨w.heap.size, 1, none⟩) (by show _ ≤ w.heap.size; omega) _
  have HP0 := Lib.hid hp0
  by_cases hp1 : isPerm q = true
  case neg =>
    have hq1 : isPerm q = false := by simpa using hp1
    have HQ := Lib.hid hq1; clear hp1
    obtain ⟨a0, c0, rfl, hc0, hm0⟩ := hp.shape
    obtain ⟨a1, c1, rfl, hc1, hm1⟩ := hq.shape
    go_enter Try.func28, Try.ntmps28
    go_wp2_with fail
    obtain ⟨f2, hW0, hsz⟩ := boxes1 w [.slice none 0 0, .slice none 0 0] 27
    obtain ⟨W0, hW⟩ : ∃ W, (w.alloc (.cells #[.slice none 0 0, .slice none 0 0] 27)) = W := ⟨_, rfl⟩
    rw [hW] at f2 hW0 hsz ⊢
    clear hW hsz
    refine (c_l01PermV _ _ _ (hp.below hW0)).mono ?_; rintro e g0 ⟨rfl, hbg0⟩
    have hB0 := bb hW0 hbg0
    replace f2 := f2.under hbg0
    obtain ⟨cA2, cB2, fA2, fB2⟩ := two_cells f2
    clear hbg0
    go_wp2_with fail
    refine (c_l01PermV _ _ _ (hq.below hB0)).mono ?_; rintro e g1 ⟨rfl, hbg1⟩
    have hB1 := bb hB0 hbg1
    replace f2 := f2.under hbg1
    clear cA2 cB2 fA2 fB2
    obtain ⟨cA2, cB2, fA2, fB2⟩ := two_cells f2
    clear hbg1
    have HB := Lib.hid hB1
    clear hB0 hB1 hW0
    go_wp2
    refine bodyPost_ret (v := .tuple #[.agg #[.slice none 0 0, .slice none 0 0], .int .i64 2]) (by simp [results, Try.results28, go_sem, cA2, cB2]) rfl ⟨.slice none 0 0, .slice none 0 0, by simp [twRA, twRB, twCode, twOk, HQ.out, HP0.out], ?_, ?_⟩
    · exact ⟨_, rfl, ⟨by simpa [twRA, twRB, twCode, twOk, HQ.out, HP0.out] using (OwnRowsIn.nil0 0 0 _).rows, by simpa [twRA, twRB, twCode, twOk, HQ.out, HP0.out] using (OwnRowsIn.nil0 0 0 _).rows⟩, Nat.le_refl _, Below.refl _ _⟩
    · first | exact HB.out | exact (HB.out.setCell (p := ⟨w.heap.size, 0, none⟩) (by show _ ≤ w.heap.size; omega) _).setCell (p := ⟨w.heap.size, 1, none⟩) (by show _ ≤ w.heap.size; omega) _
  have HP1 := Lib.hid hp1
  by_cases hp2 : decide (p.length = q.length) = true
  case neg =>
    have hq2 : decide (p.length = q.length) = false := by simpa using hp2
    have hlen : ((p.length : Int) != (q.length : Int)) = true := by have h := hq2; simp at h ⊢; omega
    have HQ := Lib.hid hq2; clear hp2
    obtain ⟨a0, c0, rfl, hc0, hm0⟩ := hp.shape
    obtain ⟨a1, c1, rfl, hc1, hm1⟩ := hq.shape
    go_enter Try.func28, Try.ntmps28
    go_wp2_with fail
    obtain ⟨f2, hW0, hsz⟩ := boxes1 w [.slice none 0 0, .slice none 0 0] 27
    obtain ⟨W0, hW⟩ : ∃ W, (w.alloc (.cells #[.slice none 0 0, .slice none 0 0] 27)) = W := ⟨_, rfl⟩
    rw [hW] at f2 hW0 hsz ⊢
    clear hW hsz
    refine (c_l01PermV _ _ _ (hp.below hW0)).mono ?_; rintro e g0 ⟨rfl, hbg0⟩
    have hB0 := bb hW0 hbg0
    replace f2 := f2.under hbg0
    obtain ⟨cA2, cB2, fA2, fB2⟩ := two_cells f2
    clear hbg0
    go_wp2_with fail
    refine (c_l01PermV _ _ _ (hq.below hB0)).mono ?_; rintro e g1 ⟨rfl, hbg1⟩
    have hB1 := bb hB0 hbg1
    replace f2 := f2.under hbg1
    clear cA2 cB2 fA2 fB2
    obtain ⟨cA2, cB2, fA2, fB2⟩ := two_cells f2
    clear hbg1
    obtain ⟨g2, rfl⟩ : ∃ W : World, W = g1 := ⟨_, rfl⟩
    have hB2 := hB1
    have HB := Lib.hid hB2
    clear hB0 hB1 hB2 hW0
    go_wp2
    refine bodyPost_ret (v := .tuple #[.agg #[.slice none 0 0, .slice none 0 0], .int .i64 2]) (by simp [results, Try.results28, go_sem, cA2, cB2]) rfl ⟨.slice none 0 0, .slice none 0 0, by simp [twRA, twRB, twCode, twOk, HQ.out, HP0.out, HP1.out], ?_, ?_⟩
    · exact ⟨_, rfl, ⟨by simpa [twRA, twRB, twCode, twOk, HQ.out, HP0.out, HP1.out] using (OwnRowsIn.nil0 0 0 _).rows, by simpa [twRA, twRB, twCode, twOk, HQ.out, HP0.out, HP1.out] using (OwnRowsIn.nil0 0 0 _).rows⟩, Nat.le_refl _, Below.refl _ _⟩
    · first | exact HB.out | exact (HB.out.setCell (p := ⟨w.heap.size, 0, none⟩) (by show _ ≤ w.heap.size; omega) _).setCell (p := ⟨w.heap.size, 1, none⟩) (by show _ ≤ w.heap.size; omega) _
  have HP2 := Lib.hid hp2
  have hlen2 : ((p.length : Int) != (q.length : Int)) = false := by have h := hp2; simp at h ⊢; omega
  clear hp2
  obtain ⟨a0, c0, rfl, hc0, hm0⟩ := hp.shape
  obtain ⟨a1, c1, rfl, hc1, hm1⟩ := hq.shape
  go_enter Try.func28, Try.ntmps28
  go_wp2_with fail
  obtain ⟨f2, hW0, hsz⟩ := boxes1 w [.slice none 0 0, .slice none 0 0] 27
  obtain ⟨W0, hW⟩ : ∃ W, (w.alloc (.cells #[.slice none 0 0, .slice none 0 0] 27)) = W := ⟨_, rfl⟩
  rw [hW] at f2 hW0 hsz ⊢
  clear hW hsz
  refine (c_l01PermV _ _ _ (hp.below hW0)).mono ?_; rintro e g0 ⟨rfl, hbg0⟩
  have hB0 := bb hW0 hbg0
  replace f2 := f2.under hbg0
  obtain ⟨cA2, cB2, fA2, fB2⟩ := two_cells f2
  clear hbg0
  go_wp2_with fail
  refine (c_l01PermV _ _ _ (hq.below hB0)).mono ?_; rintro e g1 ⟨rfl, hbg1⟩
  have hB1 := bb hB0 hbg1
  replace f2 := f2.under hbg1
  clear cA2 cB2 fA2 fB2
  obtain ⟨cA2, cB2, fA2, fB2⟩ := two_cells f2
  clear hbg1
  obtain ⟨g2, rfl⟩ : ∃ W : World, W = g1 := ⟨_, rfl⟩
  have hB2 := hB1
  have HOK := Lib.hid (twOk_of HP0.out HP1.out (by simpa using HP2.out))
  obtain ⟨hin, hn⟩ := perm_inT HP0.out
  obtain ⟨hin2, hn2⟩ := perm_inT HP1.out
  have hlen : p.length = q.length := by simpa using HP2.out
  have HI := Lib.hid hin; have HI2 := Lib.hid hin2; have HLn := Lib.hid hlen
  clear hin hin2 hlen
  go_wp2_with fail
  refine (c_l01Then _ _ p q _ (hp.below hB2) (hq.below hB2) (by rw [← HLn.out]; exact HI.out) (by omega)).mono ?_; rintro e w1 ⟨r1, rfl, ho1, hb1⟩
  obtain ⟨x1, y1, hv1, _⟩ := ho1.shape
  rw [thenL_length] at hv1; subst hv1
  have k1 := bb hB2 hb1
  have HF1 := Lib.hid (f2.under hb1)
  have HO1 := Lib.hid ho1; clear ho1 hb1 f2 cA2 cB2 fA2 fB2
  go_wp2_with fail
  refine (c_l01Then _ _ q p _ (hq.below k1) (hp.below k1) (by rw [HLn.out]; exact HI2.out) (by omega)).mono ?_; rintro e w2 ⟨r2, rfl, ho2, hb2⟩
  obtain ⟨x2, y2, hv2, _⟩ := ho2.shape
  rw [thenL_length] at hv2; subst hv2
  have k2 := bb k1 hb2
  have HF2 := Lib.hid (HF1.out.under hb2)
  have HI1 := Lib.hid (HO1.out.ints.below hb2); have HO2 := Lib.hid ho2; clear ho2 hb2
  go_wp2_with fail
  refine (c_l01Same _ _ _ _ _ HI1.out HO2.out.ints).mono ?_; rintro e W3 hh
  obtain ⟨rfl, hb3⟩ := hh.r
  have HB3 := Lib.hid (bb k2 hb3)
  have HF3 := Lib.hid (HF2.out.under hb3)
  clear hh k1 k2 hb3 hB0 hB1 hB2 hW0
  obtain ⟨z0, z1, z2, z3⟩ := two_cells HF3.out
  by_cases hc : twCm p q = true
  case neg =>
    have hc' : twCm p q = false := by simpa using hc
    have hd : decide (thenL p q = thenL q p) = false := hc'
    have HC := Lib.hid hc'; clear hc hc'
    go_wp2
    refine bodyPost_ret (v := .tuple #[.agg #[.slice none 0 0, .slice none 0 0], .int .i64 5]) (by simp [results, Try.results28, go_sem, z0, z1]) rfl ⟨.slice none 0 0, .slice none 0 0, by simp [twCode, HOK.out, HC.out], ?_, ?_⟩
    · exact ⟨_, rfl, ⟨by simpa [twRA, HOK.out, HC.out] using (OwnRowsIn.nil0 0 0 _).rows, by simpa [twRB, HOK.out, HC.out] using (OwnRowsIn.nil0 0 0 _).rows⟩, Nat.le_refl _, Below.refl _ _⟩
    · first | exact HB3.out | exact (HB3.out.setCell (p := ⟨w.heap.size, 0, none⟩) (Nat.le_refl _) _).setCell (p := ⟨w.heap.size, 1, none⟩) (Nat.le_refl _) _
  have hd : decide (thenL p q = thenL q p) = true := hc
  have HC := Lib.hid hc; clear hc
  go_wp2_with fail
  refine (c_l02Twist _ _ p q _ (hp.below HB3.out) (hq.below HB3.out) HLn.out.symm (by omega)).mono ?_; rintro e wz ⟨s1, s2, rfl, hs, hbz⟩
  obtain ⟨sa1, sl1, sc1, rfl⟩ := hs.1.any
  obtain ⟨sa2, sl2, sc2, rfl⟩ := hs.2.any
  clear z0 z1 z2 z3
  obtain ⟨z0, z1, z2, z3⟩ := two_cells (HF3.out.under hbz)
  have HLo := Lib.hid HF3.out.lt; have HS := Lib.hid hs; have HBz := Lib.hid (bb HB3.out hbz)
  clear hs hbz
  go_wp2
  obtain ⟨hA, hB⟩ := storedR (q := w.heap.size) HBz.out HS.out (Nat.le_refl _) HLo.out
  refine bodyPost_ret (v := .tuple #[.agg #[.slice sa1 sl1 sc1, .slice sa2 sl2 sc2], .int .i64 0]) (by simp [results, Try.results28, go_sem, z0, z1]) rfl ⟨_, _, by simp [twCode, HOK.out, HC.out]; exact ⟨rfl, rfl⟩, by simpa [twRA, twRB, HOK.out, HC.out] using hA, hB⟩

set_option maxRecDepth 100000 in
set_option maxHeartbeats 4000000 in
theorem c_TwistSolution (v0 : Value) (p : List Int) (v1 : Value) (q : List Int) (w : World) (hp : Ints w v0 p) (hq : Ints w v1 q)  :
    Calls Try.prog 27 #[v0, v1] w (RSolC w (twRA p q) (twRB p q) (twCode p q)) := by
  by_cases hp0 : isPerm p = true
  case neg =>
    have hq0 : isPerm p = false := by simpa using hp0
    have HQ := Lib.hid hq0; clear hp0
    obtain ⟨a0, c0, rfl, hc0, hm0⟩ := hp.shape
    obtain ⟨a1, c1, rfl, hc1, hm1⟩ := hq.shape
    go_enter Try.func27, Try.ntmps27
    go_wp2_with fail
    obtain ⟨f2, hW0, hsz⟩ := boxes1 w [.slice none 0 0, .slice none 0 0] 27
    obtain ⟨W0, hW⟩ : ∃ W, (w.alloc (.cells #[.slice none 0 0, .slice none 0 0] 27)) = W := ⟨_, rfl⟩
    rw [hW] at f2 hW0 hsz ⊢
    clear hW hsz
    refine (c_IsPermutation _ _ _ (hp.below hW0)).mono ?_; rintro e g0 ⟨rfl, hbg0⟩
    have hB0 := bb hW0 hbg0
    replace f2 := f2.under hbg0
    obtain ⟨cA2, cB2, fA2, fB2⟩ := two_cells f2
    clear hbg0
    have HB := Lib.hid hB0
    clear hB0 hW0
    go_wp2
    refine bodyPost_ret (v := .tuple #[.agg #[.slice none 0 0, .slice none 0 0], .int .i64 2]) (by simp [results, Try.results27, go_sem, cA2, cB2]) rfl ⟨.slice none 0 0, .slice none 0 0, by simp [twRA, twRB, twCode, twOk, HQ.out], ?_, ?_⟩
    · have hz : w.heap.size ≤ g0.heap.size := HB.out.size
      rw [show twRA p q = [] from by simp [twRA, twRB, twCode, twOk, HQ.out], show twRB p q = [] from by simp [twRA, twRB, twCode, twOk, HQ.out]]
      exact OwnSol.nil0 (by first | exact hz | (simp [World.setCell]; exact hz))
    · first | exact HB.out | exact (HB.out.setCell (p := ⟨w.heap.size, 0, none⟩) (by show _ ≤ w.heap.size; omega) _).setCell (p := ⟨w.heap.size, 1, none⟩) (by show _ ≤ w.heap.size; omega) _
  have HP0 := Lib.hid hp0
  by_cases hp1 : isPerm q = true
  case neg =>
    have hq1 : isPerm q = false := by simpa using hp1
    have HQ := Lib.hid hq1; clear hp1
    obtain ⟨a0, c0, rfl, hc0, hm0⟩ := hp.shape
    obtain ⟨a1, c1, rfl, hc1, hm1⟩ := hq.shape
    go_enter Try.func27, Try.ntmps27
    go_wp2_with fail
    obtain ⟨f2, hW0, hsz⟩ := boxes1 w [.slice none 0 0, .slice none 0 0] 27
    obtain ⟨W0, hW⟩ : ∃ W, (w.alloc (.cells #[.slice none 0 0, .slice none 0 0] 27)) = W := ⟨_, rfl⟩
    rw [hW] at f2 hW0 hsz ⊢
    clear hW hsz
    refine (c_IsPermutation _ _ _ (hp.below hW0)).mono ?_; rintro e g0 ⟨rfl, hbg0⟩
    have hB0 := bb hW0 hbg0
    replace f2 := f2.under hbg0
    obtain ⟨cA2, cB2, fA2, fB2⟩ := two_cells f2
    clear hbg0
    go_wp2_with fail
    refine (c_IsPermutation _ _ _ (hq.below hB0)).mono ?_; rintro e g1 ⟨rfl, hbg1⟩
    have hB1 := bb hB0 hbg1
    replace f2 := f2.under hbg1
    clear cA2 cB2 fA2 fB2
    obtain ⟨cA2, cB2, fA2, fB2⟩ := two_cells f2
    clear hbg1
    have HB := Lib.hid hB1
    clear hB0 hB1 hW0
    go_wp2
    refine bodyPost_ret (v := .tuple #[.agg #[.slice none 0 0, .slice none 0 0], .int .i64 2]) (by simp [results, Try.results27, go_sem, cA2, cB2]) rfl ⟨.slice none 0 0, .slice none 0 0, by simp [twRA, twRB, twCode, twOk, HQ.out, HP0.out], ?_, ?_⟩
    · have hz : w.heap.size ≤ g1.heap.size := HB.out.size
      rw [show twRA p q = [] from by simp [twRA, twRB, twCode, twOk, HQ.out, HP0.out], show twRB p q = [] from by simp [twRA, twRB, twCode, twOk, HQ.out, HP0.out]]
      exact OwnSol.nil0 (by first | exact hz | (simp [World.setCell]; exact hz))
    · first | exact HB.out | exact (HB.out.setCell (p := ⟨w.heap.size, 0, none⟩) (by show _ ≤ w.heap.size; omega) _).setCell (p := ⟨w.heap.size, 1, none⟩) (by show _ ≤ w.heap.size; omega) _
  have HP1 := Lib.hid hp1
  by_cases hp2 : decide (p.length = q.length) = true
  case neg =>
    have hq2 : decide (p.length = q.length) = false := by simpa using hp2
    have hlen : ((p.length : Int) != (q.length : Int)) = true := by have h := hq2; simp at h ⊢; omega
    have HQ := Lib.hid hq2; clear hp2
    obtain ⟨a0, c0, rfl, hc0, hm0⟩ := hp.shape
    obtain ⟨a1, c1, rfl, hc1, hm1⟩ := hq.shape
    go_enter Try.func27, Try.ntmps27
    go_wp2_with fail
    obtain ⟨f2, hW0, hsz⟩ := boxes1 w [.slice none 0 0, .slice none 0 0] 27
    obtain ⟨W0, hW⟩ : ∃ W, (w.alloc (.cells #[.slice none 0 0, .slice none 0 0] 27)) = W := ⟨_, rfl⟩
    rw [hW] at f2 hW0 hsz ⊢
    clear hW hsz
    refine (c_IsPermutation _ _ _ (hp.below hW0)).mono ?_; rintro e g0 ⟨rfl, hbg0⟩
    have hB0 := bb hW0 hbg0
    replace f2 := f2.under hbg0
    obtain ⟨cA2, cB2, fA2, fB2⟩ := two_cells f2
    clear hbg0
    go_wp2_with fail
    refine (c_IsPermutation _ _ _ (hq.below hB0)).mono ?_; rintro e g1 ⟨rfl, hbg1⟩
    have hB1 := bb hB0 hbg1
    replace f2 := f2.under hbg1
    clear cA2 cB2 fA2 fB2
    obtain ⟨cA2, cB2, fA2, fB2⟩ := two_cells f2
    clear hbg1
    obtain ⟨g2, rfl⟩ : ∃ W : World, W = g1 := ⟨_, rfl⟩
    have hB2 := hB1
    have HB := Lib.hid hB2
    clear hB0 hB1 hB2 hW0
    go_wp2
    refine bodyPost_ret (v := .tuple #[.agg #[.slice none 0 0, .slice none 0 0], .int .i64 2]) (by simp [results, Try.results27, go_sem, cA2, cB2]) rfl ⟨.slice none 0 0, .slice none 0 0, by simp [twRA, twRB, twCode, twOk, HQ.out, HP0.out, HP1.out], ?_, ?_⟩
    · have hz : w.heap.size ≤ g2.heap.size := HB.out.size
      rw [show twRA p q = [] from by simp [twRA, twRB, twCode, twOk, HQ.out, HP0.out, HP1.out], show twRB p q = [] from by simp [twRA, twRB, twCode, twOk, HQ.out, HP0.out, HP1.out]]
      exact OwnSol.nil0 (by first | exact hz | (simp [World.setCell]; exact hz))
    · first | exact HB.out | exact (HB.out.setCell (p := ⟨w.heap.size, 0, none⟩) (by show _ ≤ w.heap.size; omega) _).setCell (p := ⟨w.heap.size, 1, none⟩) (by show _ ≤ w.heap.size; omega) _
  have HP2 := Lib.hid hp2
  have hlen2 : ((p.length : Int) != (q.length : Int)) = false := by have h := hp2; simp at h ⊢; omega
  clear hp2
  obtain ⟨a0, c0, rfl, hc0, hm0⟩ := hp.shape
  obtain ⟨a1, c1, rfl, hc1, hm1⟩ := hq.shape
  go_enter Try.func27, Try.ntmps27
  go_wp2_with fail
  obtain ⟨f2, hW0, hsz⟩ := boxes1 w [.slice none 0 0, .slice none 0 0] 27
  obtain ⟨W0, hW⟩ : ∃ W, (w.alloc (.cells #[.slice none 0 0, .slice none 0 0] 27)) = W := ⟨_, rfl⟩
  rw [hW] at f2 hW0 hsz ⊢
  clear hW hsz
  refine (c_IsPermutation _ _ _ (hp.below hW0)).mono ?_; rintro e g0 ⟨rfl, hbg0⟩
  have hB0 := bb hW0 hbg0
  replace f2 := f2.under hbg0
  obtain ⟨cA2, cB2, fA2, fB2⟩ := two_cells f2
  clear hbg0
  go_wp2_with fail
  refine (c_IsPermutation _ _ _ (hq.below hB0)).mono ?_; rintro e g1 ⟨rfl, hbg1⟩
  have hB1 := bb hB0 hbg1
  replace f2 := f2.under hbg1
  clear cA2 cB2 fA2 fB2
  obtain ⟨cA2, cB2, fA2, fB2⟩ := two_cells f2
  clear hbg1
  obtain ⟨g2, rfl⟩ : ∃ W : World, W = g1 := ⟨_, rfl⟩
  have hB2 := hB1
  have HOK := Lib.hid (twOk_of HP0.out HP1.out (by simpa using HP2.out))
  obtain ⟨hin, hn⟩ := perm_inT HP0.out
  obtain ⟨hin2, hn2⟩ := perm_inT HP1.out
  have hlen : p.length = q.length := by simpa using HP2.out
  have HI := Lib.hid hin; have HI2 := Lib.hid hin2; have HLn := Lib.hid hlen
  clear hin hin2 hlen
  go_wp2_with fail
  refine (c_then _ _ p q _ (hp.below hB2) (hq.below hB2) (by rw [← HLn.out]; exact HI.out) (by omega)).mono ?_; rintro e w1 ⟨r1, rfl, ho1, hb1⟩
  obtain ⟨x1, y1, hv1, _⟩ := ho1.shape
  rw [thenL_length] at hv1; subst hv1
  have k1 := bb hB2 hb1
  have HF1 := Lib.hid (f2.under hb1)
  have HO1 := Lib.hid ho1; clear ho1 hb1 f2 cA2 cB2 fA2 fB2
  go_wp2_with fail
  refine (c_then _ _ q p _ (hq.below k1) (hp.below k1) (by rw [HLn.out]; exact HI2.out) (by omega)).mono ?_; rintro e w2 ⟨r2, rfl, ho2, hb2⟩
  obtain ⟨x2, y2, hv2, _⟩ := ho2.shape
  rw [thenL_length] at hv2; subst hv2
  have k2 := bb k1 hb2
  have HF2 := Lib.hid (HF1.out.under hb2)
  have HI1 := Lib.hid (HO1.out.ints.below hb2); have HO2 := Lib.hid ho2; clear ho2 hb2
  go_wp2_with fail
  refine (c_slicesEqual _ _ _ _ _ HI1.out HO2.out.ints).mono ?_; rintro e W3 hh
  obtain ⟨rfl, hb3⟩ := hh.r
  have HB3 := Lib.hid (bb k2 hb3)
  have HF3 := Lib.hid (HF2.out.under hb3)
  clear hh k1 k2 hb3 hB0 hB1 hB2 hW0
  obtain ⟨z0, z1, z2, z3⟩ := two_cells HF3.out
  by_cases hc : twCm p q = true
  case neg =>
    have hc' : twCm p q = false := by simpa using hc
    have hd : decide (thenL p q = thenL q p) = false := hc'
    have HC := Lib.hid hc'; clear hc hc'
    go_wp2
    refine bodyPost_ret (v := .tuple #[.agg #[.slice none 0 0, .slice none 0 0], .int .i64 5]) (by simp [results, Try.results27, go_sem, z0, z1]) rfl ⟨.slice none 0 0, .slice none 0 0, by simp [twCode, HOK.out, HC.out], ?_, ?_⟩
    · have hz : w.heap.size ≤ W3.heap.size := HB3.out.size
      rw [show twRA p q = [] from by simp [twRA, HC.out], show twRB p q = [] from by simp [twRB, HC.out]]
      exact OwnSol.nil0 (by first | exact hz | (simp [World.setCell]; exact hz))
    · first | exact HB3.out | exact (HB3.out.setCell (p := ⟨w.heap.size, 0, none⟩) (Nat.le_refl _) _).setCell (p := ⟨w.heap.size, 1, none⟩) (Nat.le_refl _) _
  have hd : decide (thenL p q = thenL q p) = true := hc
  have HC := Lib.hid hc; clear hc
  go_wp2_with fail
  refine (c_twist _ _ p q _ (hp.below HB3.out) (hq.below HB3.out) HLn.out.symm (by omega)).mono ?_; rintro e wz ⟨s1, s2, rfl, hs, hbz⟩
  obtain ⟨sa1, sl1, sc1, rfl⟩ := hs.sol.1.any
  obtain ⟨sa2, sl2, sc2, rfl⟩ := hs.sol.2.any
  clear z0 z1 z2 z3
  obtain ⟨z0, z1, z2, z3⟩ := two_cells (HF3.out.under hbz)
  have HLo := Lib.hid HF3.out.lt; have HS := Lib.hid hs; have HBz := Lib.hid (bb HB3.out hbz)
  clear hs hbz
  go_wp2
  obtain ⟨hA, hB⟩ := stored (q := w.heap.size) HBz.out HS.out (Nat.le_refl _) HLo.out
  refine bodyPost_ret (v := .tuple #[.agg #[.slice sa1 sl1 sc1, .slice sa2 sl2 sc2], .int .i64 0]) (by simp [results, Try.results27, go_sem, z0, z1]) rfl ⟨_, _, by simp [twCode, HOK.out, HC.out]; exact ⟨rfl, rfl⟩, by simpa [twRA, twRB, HOK.out, HC.out] using hA, hB⟩

theorem tw_total (p q : List Int) : total (twRA p q) ≤ 144 ∧ total (twRB p q) ≤ 144 := by
  unfold twRA twRB
  split
  · rename_i h
    have hl : p.length ≤ 12 := by simp [twOk, isPerm, inR] at h; omega
    have h1 := total_le _ (tab_rows (g := fun _ y => nth p y) hl)
    have h2 := total_le _ (tab_rows (g := fun x _ => nth q x) hl)
    rw [tabOf_length] at h1 h2
    unfold twA twB
    omega
  · simp [total]
end Go.Proofs.Ytkcobfkmeaakoaa

namespace Go.Proofs.Ytkcobfkmeaakoaa
open Go.RowKit

theorem val2_tabOf' {n : Nat} {g : Int → Int → Int} {x y : Int} (hx0 : 0 ≤ x) (hx : x < n) (hy0 : 0 ≤ y) (hy : y < n) : val2 (tabOf n g) x y = g x y := by
  show nth (row (tabOf n g) x) y = _
  rw [row_tabOfi _ _ _ hx0 hx, nth_rowOfi _ _ _ hy0 hy]
theorem perm_lt {p : List Int} (h : Permuted p) {x : Int} (h0 : 0 ≤ x) (h1 : x < p.length) : 0 ≤ nth p x ∧ nth p x < p.length := h.2 _ (nth_mem h0 h1)
theorem perm_inj {p : List Int} (h : Permuted p) {x y : Int} (h0 : 0 ≤ x) (h1 : x < p.length) (g0 : 0 ≤ y) (g1 : y < p.length) (e : nth p x = nth p y) : x = y := by
  rw [← nth_invL h h0 h1, e, nth_invL h g0 g1]
theorem isPerm_parts {p : List Int} (h : isPerm p = true) : 1 ≤ p.length ∧ p.length ≤ 12 ∧ Permuted p := by
  simp only [isPerm, Bool.and_eq_true, inR, decide_eq_true_eq] at h
  exact ⟨by omega, by omega, h.2⟩

section
variable {p q : List Int} (hp : Permuted p) (hq : Permuted q) (hl : q.length = p.length) (h1 : 1 ≤ p.length) (h12 : p.length ≤ 12)
include hp hq hl h1 h12
omit hp hq hl h1 h12 in
theorem tw_A0 {x y : Int} (hx0 : 0 ≤ x) (hx : x < p.length) (hy0 : 0 ≤ y) (hy : y < p.length) : val2 (twA p) x y = nth p y := val2_tabOf' hx0 hx hy0 hy
omit hp hq hl h1 h12 in
theorem tw_B0 {x y : Int} (hx0 : 0 ≤ x) (hx : x < p.length) (hy0 : 0 ≤ y) (hy : y < p.length) : val2 (twB p q) x y = nth q x := val2_tabOf' hx0 hx hy0 hy
theorem tw_pm : isPM (twA p) (twB p q) = true := by
  have ha : isTab (twA p) = true := isTab_tabOf h1 h12 fun x y hx hy => perm_lt hp (by omega) (by omega)
  have hb : isTab (twB p q) = true := isTab_tabOf h1 h12 fun x y hx hy => by have := perm_lt hq (x := x) (by omega) (by omega); omega
  have hab : (twA p).length = (twB p q).length := by simp [twA, twB]
  simp [isPM, ha, hb, hab]
theorem tw_coll : collL (twA p) (twB p q) = [] := by
  have hla : (twA p).length = p.length := by simp [twA]
  unfold collL
  refine quad_none (find2_none fun a ha b hb => ?_)
  rw [hla] at ha hb ⊢
  unfold colP
  have a1 := div_lt_sq ha; have a2 := Nat.mod_lt a (show 0 < p.length by omega)
  have b1 := div_lt_sq hb; have b2 := Nat.mod_lt b (show 0 < p.length by omega)
  have g1 := Nat.div_add_mod a p.length
  have g2 := Nat.div_add_mod b p.length
  generalize a / p.length = x1 at a1 g1 ⊢
  generalize a % p.length = y1 at a2 g1 ⊢
  generalize b / p.length = x2 at b1 g2 ⊢
  generalize b % p.length = y2 at b2 g2 ⊢
  rw [tw_A0 (by omega) (by omega) (by omega) (by omega), tw_A0 (by omega) (by omega) (by omega) (by omega), tw_B0 (by omega) (by omega) (by omega) (by omega), tw_B0 (by omega) (by omega) (by omega) (by omega)]
  by_cases e1 : nth p (y1 : Int) = nth p (y2 : Int)
  · by_cases e2 : nth q (x1 : Int) = nth q (x2 : Int)
    · have f1 := perm_inj hp (by omega) (by omega) (by omega) (by omega) e1
      have f2 := perm_inj hq (by omega) (by omega) (by omega) (by omega) e2
      have : a = b := by
        rw [← g1, ← g2, show x1 = x2 by omega, show y1 = y2 by omega]
      simp [this]
    · simp [e2]
  · simp [e1]
theorem tw_nd : nondegL (twA p) (twB p q) = true := by
  have e : ∀ {n : Nat} {g : Int → Int → Int} {r : List Int}, isPerm r = true → (∀ x : Nat, x < n → rowOf n (g x) = r) → permRows (tabOf n g) = true := by
    intro n g r hr hg
    unfold permRows tabOf
    rw [List.all_eq_true]
    intro s hs
    rw [List.mem_map] at hs
    obtain ⟨x, hx, rfl⟩ := hs
    have e := hg x (by simpa using hx)
    show isPerm (rowOf n (g x)) = true
    rw [e]; exact hr
  have ip : isPerm p = true := by simp [isPerm, inR, hp]; omega
  have iq : isPerm q = true := by simp [isPerm, inR, hq]; omega
  unfold nondegL
  rw [Bool.and_eq_true]
  refine ⟨e ip fun x hx => rowOf_self p, ?_⟩
  have hlb : (twB p q).length = p.length := by simp [twB]
  unfold transL
  rw [hlb]
  refine e iq fun x hx => ?_
  have : rowOf p.length (fun y => val2 (twB p q) y x) = rowOf p.length (nth q) := rowOf_congr fun y hy => tw_B0 (by omega) (by omega) (by omega) (by omega)
  rw [this, ← hl, rowOf_self]
theorem tw_inv : involL (twA p) (twB p q) = decide (invL p = q) := by
  have hla : (twA p).length = p.length := by simp [twA]
  have key : ∀ x y : Nat, x < p.length → y < p.length → ivF (twA p) (twB p q) x y = (decide (nth p (nth q x) = x) && decide (nth q (nth p y) = y)) := by
    intro x y hx hy
    have a := perm_lt hp (x := y) (by omega) (by omega)
    have b := perm_lt hq (x := x) (by omega) (by omega)
    unfold ivF
    rw [tw_A0 (x := x) (y := y) (by omega) (by omega) (by omega) (by omega), tw_B0 (x := x) (y := y) (by omega) (by omega) (by omega) (by omega),
      tw_A0 (by omega) (by omega) (by omega) (by omega), tw_B0 (by omega) (by omega) (by omega) (by omega)]
  rw [Bool.eq_iff_iff]
  unfold involL
  rw [all2_iff, hla, decide_eq_true_eq]
  constructor
  · intro h
    apply ext_nth (by simp; omega)
    intro k hk
    simp at hk
    obtain ⟨x, x0, x1, ex⟩ := ex_pre hp (y := (k : Int)) (by omega) (by omega)
    have := h 0 (by omega) x.toNat (by omega)
    rw [key _ _ (by omega) (by omega)] at this
    simp only [Bool.and_eq_true, decide_eq_true_eq] at this
    have e := this.2
    rw [show ((x.toNat : Nat) : Int) = x by omega, ex] at e
    rw [e, ← ex, nth_invL hp x0 x1]
  · intro h x hx y hy
    rw [key x y hx hy, ← h]
    have e2 := nth_invL hp (x := (y : Int)) (by omega) (by omega)
    obtain ⟨z, z0, z1, ez⟩ := ex_pre hp (y := (x : Int)) (by omega) (by omega)
    have e1 : nth p (nth (invL p) x) = x := by rw [← ez, nth_invL hp z0 z1]
    simp [e1, e2]
theorem tw_sol (hc : thenL p q = thenL q p) : isSol (twA p) (twB p q) = true := by
  have hla : (twA p).length = p.length := by simp [twA]
  have hcom : ∀ y : Int, 0 ≤ y → y < p.length → nth q (nth p y) = nth p (nth q y) := by
    intro y y0 y1
    have e : nth (thenL p q) y = nth (thenL q p) y := by rw [hc]
    rw [nth_thenL _ _ _ y0 y1, nth_thenL _ _ _ y0 (by omega)] at e
    exact e
  have hyF : yF (twA p) (twB p q) = [] := by
    unfold yF
    have : find3 (twA p).length (yP (twA p) (twB p q)) = none := find3_none fun x hx y hy z hz => by
      rw [hla] at hx hy hz
      have px := perm_lt hp (x := x) (by omega) (by omega)
      have py := perm_lt hp (x := y) (by omega) (by omega)
      have pz := perm_lt hp (x := z) (by omega) (by omega)
      have qx := perm_lt hq (x := x) (by omega) (by omega)
      have qy := perm_lt hq (x := y) (by omega) (by omega)
      have tA := fun (x y : Int) (a : 0 ≤ x) (b : x < p.length) (c : 0 ≤ y) (d : y < p.length) => tw_A0 (p := p) (x := x) (y := y) a b c d
      have tB := fun (x y : Int) (a : 0 ≤ x) (b : x < p.length) (c : 0 ≤ y) (d : y < p.length) => tw_B0 (p := p) (q := q) (x := x) (y := y) a b c d
      unfold yP yL yR
      rw [tA x y (by omega) (by omega) (by omega) (by omega), tB x y (by omega) (by omega) (by omega) (by omega), tA y z (by omega) (by omega) (by omega) (by omega), tB y z (by omega) (by omega) (by omega) (by omega),
        tA (nth q x) z (by omega) (by omega) (by omega) (by omega), tB (nth q x) z (by omega) (by omega) (by omega) (by omega), tA x (nth p z) (by omega) (by omega) (by omega) (by omega), tB x (nth p z) (by omega) (by omega) (by omega) (by omega),
        tA (nth p y) (nth p z) (by omega) (by omega) (by omega) (by omega), tB (nth p y) (nth p z) (by omega) (by omega) (by omega) (by omega), tA (nth q x) (nth q y) (by omega) (by omega) (by omega) (by omega), tB (nth q x) (nth q y) (by omega) (by omega) (by omega) (by omega), hcom y (by omega) (by omega)]
      simp
    rw [this]; rfl
  simp [isSol, tw_pm hp hq hl h1 h12, tw_coll hp hq hl h1 h12, hyF]
end
theorem then_back {p : List Int} (hp : Permuted p) : thenL p (invL p) = iota p.length := by
  apply ext_nth (by simp)
  intro k hk
  simp at hk
  rw [nth_thenL _ _ _ (by omega) (by omega), nth_invL hp (by omega) (by omega)]
  rw [nth_nat _ _ (by simpa using hk)]
  simp [iota]
end Go.Proofs.Ytkcobfkmeaakoaa

namespace Go.Proofs.Ytkcobfkmeaakoaa
open Go.ChangeShapes Go.WideShapes Go.ChangeAt Go.RowKit

theorem own_knob : ownKnob Try.prog.godebug = none := by kernel_rfl
theorem laid_out : laidOutB Try.prog = true := by kernel_rfl
theorem cells_int64 : Try.prog.cellsOf 2 = 1 := by kernel_rfl
theorem cells_ints : Try.prog.cellsOf 25 = 1 := by kernel_rfl

section
variable {H : Type} {enc : TypeId × Value → H} {w : World} {base : Nat} {spare : Nat → Bool} {held : Bool}

theorem ints_of_trod {fuel : Nat} {u : Value} {x : DataW H × List MemPlace} (h : DataW.trod enc Try.prog w base spare held fuel 25 [u] = some x) : ∃ xs, Ints w u xs := by
  rcases open_ints Try.underlying25 Try.underlying2 cells_int64 h with ⟨hcs, _⟩ | ⟨a, len, cap, zs, hcs, _, hl, hm, hz, _, hcell, _⟩
  · simp at hcs; subst hcs
    exact ⟨[], Ints.nil w⟩
  · simp at hcs; subst hcs
    have hge : len ≤ zs.length := by rw [hz]; split <;> omega
    have hlen : (zs.take len).length = len := by simp; omega
    refine ⟨zs.take len, some a, cap, by rw [hlen], by rw [hlen]; exact hl, hm, fun i hi => ?_⟩
    have hi' : i < zs.length := by omega
    obtain ⟨b, off, rfl, hc⟩ := ints_at hcell (by omega)
    refine ⟨b, off, rfl, ?_⟩
    rw [hc i hi']
    simp [hi']

theorem rows_of_trod {fuel : Nat} {u : Value} {x : DataW H × List MemPlace} (h : DataW.trod enc Try.prog w base spare held fuel 22 [u] = some x) : ∃ xss, Rows w u xss := by
  rcases Deep.open_slice1 Try.underlying22 cells_ints h with ⟨hcs, _⟩ | ⟨a, len, cap, m, n, V, D, Pl, hcs, _, hl, hm, hmm, _, hx⟩
  · simp at hcs; subst hcs
    exact ⟨[], Rows.nil w⟩
  · simp at hcs; subst hcs
    have hge : len ≤ m := by rw [hmm]; split <;> omega
    have each : ∀ i, i < len → ∃ xs, Ints w (V i) xs := fun i hi => ints_of_trod (hx i (by omega)).2
    obtain ⟨Z, hZ⟩ := Deep.choose_lt each
    refine ⟨(List.range len).map Z, some a, cap, by simp, by simpa using hl, hm, fun i hi => ?_⟩
    have hi' : i < len := by simpa using hi
    have h0 := (hx 0 (by omega)).1
    obtain ⟨b, off, spot⟩ := a
    have hspot : spot = none := by simpa [Addr.add] using World.cell?_spot h0
    subst hspot
    refine ⟨b, off, V i, rfl, ?_, ?_⟩
    · have := (hx i (by omega)).1
      rwa [Go.WideShapes.add_plain] at this
    · simpa using hZ i hi'

end
end Go.Proofs.Ytkcobfkmeaakoaa

namespace Go.Proofs.Ytkcobfkmeaakoaa
open Go.RowKit

def pmCodeN (A B : List (List Int)) : Int := if isPM A B then 0 else 1
def ndRes (A B : List (List Int)) : Bool := if isPM A B then nondegL A B else false
set_option maxHeartbeats 800000 in
theorem c_IsNondegenerate (v0 u0 : Value) (A B : List (List Int)) (w : World) (hA : Sol w v0 u0 A B) :
    Calls Try.prog 34 #[.agg #[v0, u0]] w (RVal w (.tuple #[.bool (ndRes A B), .int .i64 (pmCodeN A B)])) := by
  obtain ⟨a0, c0, rfl, _, _⟩ := hA.1.shape
  obtain ⟨a0s, c0s, rfl, _, _⟩ := hA.2.shape
  by_cases hp0 : isPM A B = true
  case neg =>
    have hq0 : isPM A B = false := by simpa using hp0
    have HQ := Lib.hid hq0; clear hp0
    go_enter Try.func34, Try.ntmps34
    go_wp2_with fail
    obtain ⟨f0, hW0, hsz⟩ := boxes1 w [.slice a0 A.length c0, .slice a0s B.length c0s] 27
    obtain ⟨W0, hW⟩ : ∃ W, (w.alloc (.cells #[.slice a0 A.length c0, .slice a0s B.length c0s] 27)) = W := ⟨_, rfl⟩
    rw [hW] at f0 hW0 hsz ⊢
    clear hW hsz
    refine (c_IsPairMap _ _ _ _ _ (hA.below hW0)).mono ?_; rintro e g0 ⟨rfl, hbg0⟩
    have hB0 := bb hW0 hbg0
    replace f0 := f0.under hbg0
    obtain ⟨cA0, cB0, -, -⟩ := two_cells f0
    clear hbg0
    have HB := Lib.hid hB0
    clear hB0 f0 hW0 hA
    go_wp2
    go_ret2
    exact ⟨by simp [ndRes, pmCodeN, HQ.out], HB.out⟩
  have HP0 := Lib.hid hp0
  go_enter Try.func34, Try.ntmps34
  go_wp2_with fail
  obtain ⟨f0, hW0, hsz⟩ := boxes1 w [.slice a0 A.length c0, .slice a0s B.length c0s] 27
  obtain ⟨W0, hW⟩ : ∃ W, (w.alloc (.cells #[.slice a0 A.length c0, .slice a0s B.length c0s] 27)) = W := ⟨_, rfl⟩
  rw [hW] at f0 hW0 hsz ⊢
  clear hW hsz
  refine (c_IsPairMap _ _ _ _ _ (hA.below hW0)).mono ?_; rintro e g0 ⟨rfl, hbg0⟩
  have hB0 := bb hW0 hbg0
  replace f0 := f0.under hbg0
  obtain ⟨cA0, cB0, -, -⟩ := two_cells f0
  clear hbg0
  go_wp2_with fail
  refine (c_isNondegenerate _ _ _ _ _ (hA.below hB0) HP0.out).mono ?_; rintro e wz ⟨rfl, hb⟩
  have HB := Lib.hid (bb hB0 hb)
  clear hb hB0 f0 hW0 hA
  go_wp2
  go_ret2
  exact ⟨by simp [ndRes, pmCodeN, HP0.out], HB.out⟩
end Go.Proofs.Ytkcobfkmeaakoaa

namespace Go.Proofs.Ytkcobfkmeaakoaa
open Go.RowKit

def flN (n : Int) : List Int := iota n.toNat
def flA (n : Int) : List (List Int) := if inR n 1 12 then twA (flN n) else []
def flB (n : Int) : List (List Int) := if inR n 1 12 then twB (flN n) (flN n) else []
def flCode (n : Int) : Int := if inR n 1 12 then 0 else 2

set_option maxHeartbeats 400000 in
theorem c_l02Flip (n : Nat) (w : World) (hn : n ≤ 1048576) :
    Calls Try.prog 196 #[.int .i64 n] w (RSolR w (twA (iota n)) (twB (iota n) (iota n))) := by
  obtain ⟨f0, hW0, hsz⟩ := boxes1 w [.slice none 0 0, .slice none 0 0] 27
  have HF := Lib.hid f0; have HW := Lib.hid hW0; clear f0 hW0
  go_enter Try.func196, Try.ntmps196
  go_wp2_with fail
  refine (c_l01Unit n _ hn).mono ?_; rintro e w1 ⟨r1, rfl, ho1, hb1⟩
  have HO := Lib.hid ho1; have HB1 := Lib.hid hb1; clear ho1 hb1
  go_wp2_with fail
  refine (c_l02Twist _ _ (iota n) (iota n) _ HO.out.ints HO.out.ints rfl (by rw [iota_length]; exact hn)).mono ?_; rintro e w2 ⟨s1, s2, rfl, hs, hb2⟩
  obtain ⟨a1, c1, rfl, _⟩ := OwnRows.shape' hs.1
  obtain ⟨a2, c2, rfl, _⟩ := OwnRows.shape' hs.2
  obtain ⟨g0, g1, g2, g3⟩ := two_cells ((HF.out.under HB1.out).under hb2)
  have HS := Lib.hid hs; have HB2 := Lib.hid hb2; have HZ := Lib.hid hsz; clear hs hb2 hsz
  go_wp2
  have hz := HZ.out
  have hs1 : (w.alloc (.cells #[.slice none 0 0, .slice none 0 0] 27)).heap.size ≤ w1.heap.size := HB1.out.size
  refine bodyPost_ret (v := .agg #[.slice a1 (twA (iota n)).length c1, .slice a2 (twB (iota n) (iota n)).length c2]) (by simp [results, Try.results196, go_sem, g0, g1]) rfl ⟨_, _, rfl, ⟨?_, ?_⟩, ((bb (bb HW.out HB1.out) HB2.out).setCell (p := ⟨w.heap.size, 0, none⟩) (Nat.le_refl _) _).setCell (p := ⟨w.heap.size, 1, none⟩) (Nat.le_refl _) _⟩
  · exact ((HS.out.1.keep (keep1 _ w.heap.size 0 _) (fun b h1 h2 h3 => by have h3 : b = w.heap.size := h3; omega)).keep (keep1 _ w.heap.size 1 _) (fun b h1 h2 h3 => by have h3 : b = w.heap.size := h3; omega)).mono (by omega)
  · exact ((HS.out.2.keep (keep1 _ w.heap.size 0 _) (fun b h1 h2 h3 => by have h3 : b = w.heap.size := h3; omega)).keep (keep1 _ w.heap.size 1 _) (fun b h1 h2 h3 => by have h3 : b = w.heap.size := h3; omega)).mono (by omega)

set_option maxHeartbeats 400000 in
theorem c_FlipSolution (n : Int) (w : World) (hlo : -9223372036854775808 ≤ n) (hhi : n ≤ 9223372036854775807) :
    Calls Try.prog 36 #[.int .i64 n] w (RSolC w (flA n) (flB n) (flCode n)) := by
  obtain ⟨f0, hW0, hsz⟩ := boxes1 w [.slice none 0 0, .slice none 0 0] 27
  have HF := Lib.hid f0; have HW := Lib.hid hW0; have HZ := Lib.hid hsz; clear f0 hW0 hsz
  by_cases h : inR n 1 12 = true
  · have HN := Lib.hid h
    obtain ⟨m, rfl⟩ : ∃ m : Nat, n = m := ⟨n.toNat, by simp [inR] at h; omega⟩
    have hm : m ≤ 1048576 := by simp [inR] at h; omega
    go_enter Try.func36, Try.ntmps36
    go_wp2_with fail
    refine (c_within _ _ _ _).mono ?_; rintro e w' ⟨rfl, rfl⟩
    clear h
    have h := HN.out
    go_wp2_with fail
    refine (c_identity m _ hm).mono ?_; rintro e w1 ⟨r1, rfl, ho1, hb1⟩
    have HO1 := Lib.hid ho1; have HB1 := Lib.hid hb1; clear ho1 hb1
    go_wp2_with fail
    refine (c_identity m _ hm).mono ?_; rintro e w2 ⟨r2, rfl, ho2, hb2⟩
    have HO2 := Lib.hid ho2; have HB2 := Lib.hid hb2; clear ho2 hb2
    go_wp2_with fail
    refine (c_twist _ _ (iota m) (iota m) _ (HO1.out.ints.below HB2.out) HO2.out.ints rfl (by rw [iota_length]; exact hm)).mono ?_; rintro e w3 ⟨s1, s2, rfl, hs, hb3⟩
    obtain ⟨a1, c1, rfl, _, _⟩ := hs.sol.1.shape
    obtain ⟨a2, c2, rfl, _, _⟩ := hs.sol.2.shape
    obtain ⟨g0, g1, g2, g3⟩ := two_cells (((HF.out.under HB1.out).under HB2.out).under hb3)
    have HS := Lib.hid hs; have HB3 := Lib.hid hb3; clear hs hb3
    go_wp2
    have hz := HZ.out
    have hs1 := HB1.out.size
    have hs2 := HB2.out.size
    obtain ⟨hA, hB⟩ := stored (q := w.heap.size) (bb (bb (bb HW.out HB1.out) HB2.out) HB3.out) HS.out (Nat.le_refl _) (by omega)
    refine bodyPost_ret (v := .tuple #[.agg #[.slice a1 (twA (iota m)).length c1, .slice a2 (twB (iota m) (iota m)).length c2], .int .i64 0]) (by simp [results, Try.results36, go_sem, g0, g1]) rfl ⟨.slice a1 (twA (iota m)).length c1, .slice a2 (twB (iota m) (iota m)).length c2, by simp [flCode, HN.out], ?_, hB⟩
    have e1 : flA m = twA (iota m) := by simp [flA, flN, HN.out]
    have e2 : flB m = twB (iota m) (iota m) := by simp [flB, flN, HN.out]
    rw [e1, e2]
    exact hA
  · have h' : inR n 1 12 = false := by simpa using h
    have HN := Lib.hid h'
    clear h
    go_enter Try.func36, Try.ntmps36
    go_wp2_with fail
    refine (c_within _ _ _ _).mono ?_; rintro e w' ⟨rfl, rfl⟩
    clear h'
    have h' := HN.out
    obtain ⟨g0, g1, g2, g3⟩ := two_cells HF.out
    go_wp2
    refine bodyPost_ret (v := .tuple #[.agg #[.slice none 0 0, .slice none 0 0], .int .i64 2]) (by simp [results, Try.results36, go_sem, g0, g1]) rfl ⟨.slice none 0 0, .slice none 0 0, by simp [flCode, HN.out], ?_, ?_⟩
    · rw [show flA n = [] from by simp [flA, HN.out], show flB n = [] from by simp [flB, HN.out]]
      exact OwnSol.nil0 (by simp [World.setCell])
    · first | exact HW.out | exact (HW.out.setCell (p := ⟨w.heap.size, 0, none⟩) (Nat.le_refl _) _).setCell (p := ⟨w.heap.size, 1, none⟩) (Nat.le_refl _) _

theorem fl_total (n : Int) : total (flA n) ≤ 144 ∧ total (flB n) ≤ 144 := by
  unfold flA flB
  split
  · rename_i h
    have hl : (flN n).length ≤ 12 := by simp [inR] at h; simp [flN]; omega
    have h1 := total_le _ (tab_rows (g := fun _ y => nth (flN n) y) hl)
    have h2 := total_le _ (tab_rows (g := fun x _ => nth (flN n) x) hl)
    rw [tabOf_length] at h1 h2
    unfold twA twB
    omega
  · simp [total]

end Go.Proofs.Ytkcobfkmeaakoaa

namespace Go.Proofs.Ytkcobfkmeaakoaa
open Go.RowKit

theorem isPerm_in {xs : List Int} (h : isPerm xs = true) : (∀ x ∈ xs, 0 ≤ x ∧ x < xs.length) ∧ xs.length ≤ 1048576 := by
  simp [isPerm, inR] at h; exact ⟨h.2.2, by omega⟩

def invRes (xs : List Int) : List Int := if isPerm xs then invL xs else []
def invCode (xs : List Int) : Int := if isPerm xs then 0 else 1
theorem invRes_length (xs : List Int) : (invRes xs).length ≤ xs.length := by unfold invRes; split <;> simp


set_option maxHeartbeats 400000 in
theorem c_InversePermutation (v : Value) (xs : List Int) (w : World) (hx : Ints w v xs) :
    Calls Try.prog 32 #[v] w (RIntsC w (invRes xs) (invCode xs)) := by
  by_cases hp : isPerm xs = true
  · have HP := Lib.hid hp
    obtain ⟨h1, h2⟩ := isPerm_in hp
    have HR := Lib.hid h1; clear h1
    go_enter Try.func32, Try.ntmps32
    go_wp2_with fail
    refine (c_IsPermutation _ _ _ hx).mono ?_; rintro e w1 ⟨rfl, hb1⟩
    go_wp2_with fail
    refine (c_inverse _ _ _ (hx.below hb1) HR.out h2).mono ?_; rintro e w' ⟨r, rfl, ho, hb⟩
    have HB := Lib.hid (bb hb1 hb); have HO := Lib.hid (ho.mono hb1.size); clear hb ho hp hb1
    go_wp2
    go_ret2
    exact ⟨r, by simp [invCode, HP.out], by simpa [invRes, HP.out] using HO.out, HB.out⟩
  · have hp' : isPerm xs = false := by simpa using hp
    have HP := Lib.hid hp'
    clear hp
    go_enter Try.func32, Try.ntmps32
    go_wp2_with fail
    refine (c_IsPermutation _ _ _ hx).mono ?_; rintro e w1 ⟨rfl, hb1⟩
    have HB := Lib.hid hb1; clear hb1
    go_wp2
    go_ret2
    exact ⟨.slice none 0 0, by simp [invCode, HP.out], by simpa [invRes, HP.out] using Own.nil _ _, HB.out⟩

end Go.Proofs.Ytkcobfkmeaakoaa

namespace Go.Proofs.Ytkcobfkmeaakoaa
open Go Go.RowKit Go.ChangeShapes Go.WideShapes Go.ChangeAt

section
variable {H : Type} {enc : TypeId × Value → H} {w : World} {base : Nat} {spare : Nat → Bool} {held : Bool}
theorem cells_u8 : Try.prog.cellsOf 5 = 1 := by kernel_rfl
theorem bytes_of_trod {fuel : Nat} {u : Value} {x : DataW H × List MemPlace} (h : DataW.trod enc Try.prog w base spare held fuel 39 [u] = some x) : ∃ bs, Bytes w u bs := by
  rcases open_ints Try.underlying39 Try.underlying5 cells_u8 h with ⟨hcs, _⟩ | ⟨a, len, cap, zs, hcs, _, hl, hm, hz, _, hcell, hwf⟩
  · simp at hcs; subst hcs
    exact ⟨[], none, 0, rfl, Nat.le_refl _, by decide, fun i hi => absurd hi (by simp)⟩
  · simp at hcs; subst hcs
    have hge : len ≤ zs.length := by rw [hz]; split <;> omega
    have hlen : (zs.take len).length = len := by simp; omega
    refine ⟨zs.take len, some a, cap, by rw [hlen], by rw [hlen]; exact hl, hm, fun i hi => ?_⟩
    have hi' : i < zs.length := by omega
    obtain ⟨b, off, rfl, hc⟩ := ints_at hcell (by omega)
    have hr := hwf (zs.getD i 0) (by simp [List.getD, hi'])
    have hci := hc i hi'
    generalize zs.getD i 0 = z at hr hci
    simp [Lit.wf, IntKind.min, IntKind.max, IntKind.signed, IntKind.bits] at hr
    exact ⟨b, off, z, rfl, hci, by omega, by omega⟩
end

structure TwF (w W : World) (v1 v2 : Value) (p q : List Int) (sb : Nat) (r1 r2 : Value) (A B : List (List Int)) : Prop where
  hp : Ints W v1 p
  hq : Ints W v2 q
  hs : Blk W sb 27 [r1, r2]
  hsol : Sol W r1 r2 A B
  hb : Below w.heap.size w W
theorem TwF.under {w W W' : World} {v1 v2 : Value} {p q : List Int} {sb : Nat} {r1 r2 : Value} {A B : List (List Int)} (h : TwF w W v1 v2 p q sb r1 r2 A B) (k : Below W.heap.size W W') : TwF w W' v1 v2 p q sb r1 r2 A B :=
  ⟨h.hp.below k, h.hq.below k, h.hs.under k, h.hsol.below k, h.hb.trans (k.mono h.hb.size)⟩
theorem TwF.new {w W : World} {v1 v2 : Value} {p q : List Int} {sb : Nat} {r1 r2 : Value} {A B : List (List Int)} (h : TwF w W v1 v2 p q sb r1 r2 A B) (o : Obj) : TwF w (W.alloc o) v1 v2 p q sb r1 r2 A B := h.under ((Below.refl _ _).alloc (Nat.le_refl _) o)

theorem tw_cases (p q : List Int) : twCode p q = 2 ∨ (twCode p q = 5 ∧ thenRes p q ≠ thenRes q p) ∨
    (twCode p q = 0 ∧ isPerm p = true ∧ isPerm q = true ∧ q.length = p.length ∧ thenL p q = thenL q p ∧ twRA p q = twA p ∧ twRB p q = twB p q) := by
  by_cases h1 : isPerm p = true
  · by_cases h2 : isPerm q = true
    · by_cases h3 : p.length = q.length
      · by_cases h4 : thenL p q = thenL q p
        · exact .inr (.inr ⟨by simp [twCode, twOk, twCm, h1, h2, h3, h4], h1, h2, h3.symm, h4, by simp [twRA, twOk, twCm, h1, h2, h3, h4], by simp [twRB, twOk, twCm, h1, h2, h3, h4]⟩)
        · refine .inr (.inl ⟨by simp [twCode, twOk, twCm, h1, h2, h3, h4], ?_⟩)
          simp [thenRes, okThen, h1, h2, h3, h4]
      · exact .inl (by simp [twCode, twOk, h3])
    · exact .inl (by simp [twCode, twOk, h2])
  · exact .inl (by simp [twCode, twOk, h1])

theorem inv_perm {p : List Int} (h : isPerm p = true) : isPerm (invL p) = true := by
  obtain ⟨⟨h1, h2⟩, hp⟩ := isPerm_in' h
  have : Permuted (invL p) := by
    rw [permuted_iff]
    intro x x0 x1
    rw [invL_length] at x1
    have := perm_lt hp x0 x1
    rw [← nth_invL hp x0 x1]
    exact nth_mem this.1 (by rw [invL_length]; exact this.2)
  simp [isPerm, inR, this]; omega
theorem iota_perm {n : Nat} (h1 : 1 ≤ n) (h2 : n ≤ 12) : isPerm (iota n) = true := by
  have : Permuted (iota n) := ⟨iota_nodup n, fun x hx => by simpa using (mem_iota n x).1 hx⟩
  simp [isPerm, inR, this]; omega
theorem then_unit {p : List Int} (h : isPerm p = true) : thenRes p (invL p) = iota p.length := by
  have h2 := inv_perm h
  simp only [thenRes, okThen, h, h2, invL_length]
  simpa using then_back (isPerm_in' h).2
theorem flip_unit {n : Nat} (h1 : 1 ≤ n) (h2 : n ≤ 12) : flA n = twA (iota n) ∧ flB n = twB (iota n) (iota n) ∧ flCode n = 0 := by
  have h : inR n 1 12 = true := by simp [inR]; omega
  exact ⟨by simp [flA, flN, h], by simp [flB, flN, h], by simp [flCode, h]⟩
theorem twist_unit {n : Nat} (h1 : 1 ≤ n) (h2 : n ≤ 12) : twRA (iota n) (iota n) = twA (iota n) ∧ twRB (iota n) (iota n) = twB (iota n) (iota n) ∧ twCode (iota n) (iota n) = 0 := by
  have h := iota_perm h1 h2
  exact ⟨by simp [twRA, twOk, twCm, h], by simp [twRB, twOk, twCm, h], by simp [twCode, twOk, twCm, h]⟩
set_option maxRecDepth 100000 in
set_option maxHeartbeats 8000000 in
theorem law_Twists (v : Value) (bs : List Int) (w : World) (hv : Bytes w v bs) : Calls Try.prog 5 #[v] w (RVal w (.bool true)) := by
  have HV : Hid (BytesR w v bs.length) := Lib.hid hv
  obtain ⟨a, c, hva, -⟩ := hv
  subst hva
  go_enter Try.func5, Try.ntmps5
  go_wp2_with fail
  refine (c_big a bs.length c _).mono ?_; rintro e w' ⟨rfl, rfl⟩
  by_cases hbig : 4096 < bs.length
  case pos =>
    have hd : decide (4096 < bs.length) = true := by simpa using hbig
    rw [hd]; clear hd hbig
    go_wp2
    go_ret
    exact ⟨rfl, Below.refl _ _⟩
  have hd : decide (4096 < bs.length) = false := by simpa using hbig
  rw [hd]; clear hd
  go_wp2_with fail
  refine (c_DrawTwist _ bs.length _ HV.out (by omega)).mono ?_; rintro e w1 ⟨v1, v2, p, q, rfl, hp, hq, hpl, hql, hb1⟩
  have HP := Lib.hid hp; have HQ := Lib.hid hq; have HB1 := Lib.hid hb1
  clear hp hq hb1 HV hbig
  go_wp2_with fail
  refine (c_TwistSolution _ p _ q _ HP.out HQ.out).mono ?_; rintro e w2 ⟨r1, r2, rfl, hs2, hb2⟩
  have HF := Lib.hid (TwF.mk (w := w) (W := w2.alloc (.cells #[r1, r2] 27)) (sb := w2.heap.size) ((HP.out.below hb2).below ((Below.refl _ _).alloc (Nat.le_refl _) _)) ((HQ.out.below hb2).below ((Below.refl _ _).alloc (Nat.le_refl _) _)) (Blk.new w2 [r1, r2] 27) (hs2.sol.below ((Below.refl _ _).alloc (Nat.le_refl _) _)) ((HB1.out.trans (hb2.mono HB1.out.size)).alloc (by have := HB1.out.size; have := hb2.size; omega) _))
  clear hs2 hb2
  obtain ⟨ra1, rl1, rc1, hr1⟩ := HF.out.hsol.1.any
  obtain ⟨ra2, rl2, rc2, hr2⟩ := HF.out.hsol.2.any
  subst hr1 hr2
  obtain ⟨cd, hcd⟩ : ∃ cd, twCode p q = cd := ⟨_, rfl⟩
  have hcc : (cd != cd) = false := by simp
  have HCd := Lib.hid hcd
  rw [hcd]
  clear hcd
  go_wp2_with fail
  refine (c_specTwistSolution _ p _ q _ HF.out.hp HF.out.hq).mono ?_; rintro e w3 ⟨t1, t2, rfl, hs3, hb3⟩
  rw [HCd.out]
  obtain ⟨ta1, tl1, tc1, ht1⟩ := hs3.sol.1.any
  obtain ⟨ta2, tl2, tc2, ht2⟩ := hs3.sol.2.any
  subst ht1 ht2
  have HF3 := Lib.hid ((HF.out.under hb3).new (.cells #[.slice ta1 tl1 tc1, .slice ta2 tl2 tc2] 27))
  have HT3 := Lib.hid (hs3.sol.below ((Below.refl _ _).alloc (Nat.le_refl _) (.cells #[.slice ta1 tl1 tc1, .slice ta2 tl2 tc2] 27)))
  have HQ3 := Lib.hid (Blk.new w3 [.slice ta1 tl1 tc1, .slice ta2 tl2 tc2] 27)
  clear hs3 hb3
  obtain ⟨x0, x1, -, -⟩ := two_cells HF3.out.hs
  obtain ⟨y0, y1, -, -⟩ := two_cells HQ3.out
  go_wp2_with fail
  refine (c_likeSolution5 _ _ _ _ _ _ _ _ _ HF3.out.hsol HT3.out).mono ?_; rintro e w4 ⟨rfl, hb4⟩
  rw [show (decide (twRA p q = twRA p q) && decide (twRB p q = twRB p q)) = true from by simp]
  have HF4 := Lib.hid (HF3.out.under hb4)
  clear hb4 x0 x1 y0 y1 hcc
  rcases tw_cases p q with h2 | ⟨h5, hne⟩ | ⟨h0, hip, hiq, hlq, hcom, hRA, hRB⟩
  · have e : cd = 2 := by rw [← HCd.out]; exact h2
    subst e
    clear h2
    go_wp2
    go_ret
    exact ⟨rfl, HF4.out.hb⟩
  · have e : cd = 5 := by rw [← HCd.out]; exact h5
    subst e
    have HNE := Lib.hid hne
    clear h5 hne
    go_wp2_with fail
    refine (c_then5 _ _ p q _ HF4.out.hp HF4.out.hq).mono ?_; rintro e w5 ⟨r5, rfl, ho5, hb5⟩
    have HF5 := Lib.hid (HF4.out.under hb5); have HO5 := Lib.hid ho5
    clear ho5 hb5
    go_wp2_with fail
    refine (c_then5 _ _ q p _ HF5.out.hq HF5.out.hp).mono ?_; rintro e w6 ⟨r6, rfl, ho6, hb6⟩
    have HF6 := Lib.hid (HF5.out.under hb6); have HO6 := Lib.hid ho6; have HO5' := Lib.hid (HO5.out.ints.below hb6)
    clear ho6 hb6
    go_wp2_with fail
    refine (c_likeInts _ _ (thenRes p q) (thenRes q p) _ HO5'.out HO6.out.ints).mono ?_; rintro e w7 ⟨rfl, hb7⟩
    rw [show decide (thenRes p q = thenRes q p) = false from by simp [HNE.out]]
    have HF7 := Lib.hid (HF6.out.under (below_of_drewN hb7))
    clear hb7
    go_wp2
    go_ret
    exact ⟨rfl, HF7.out.hb⟩
  have e : cd = 0 := by rw [← HCd.out]; exact h0
  subst e
  obtain ⟨⟨hl1, hl12⟩, hpp⟩ := isPerm_in' hip
  obtain ⟨-, hpq⟩ := isPerm_in' hiq
  rw [hRA, hRB] at HF4
  have HPP := Lib.hid hpp; have HPQ := Lib.hid hpq; have HLQ := Lib.hid hlq; have HCom := Lib.hid hcom; have HIP := Lib.hid hip; have HIQ := Lib.hid hiq
  have HPM := Lib.hid (tw_pm hpp hpq hlq hl1 hl12)
  have HInv := Lib.hid (show involRes (twA p) (twB p q) = decide (invL p = q) by rw [involRes, if_pos HPM.out]; exact tw_inv hpp hpq hlq hl1 hl12)
  have HNd := Lib.hid (show ndRes (twA p) (twB p q) = true by rw [ndRes, if_pos HPM.out]; exact tw_nd hpp hpq hlq hl1 hl12)
  have HSol := Lib.hid (tw_sol hpp hpq hlq hl1 hl12 hcom)
  have HC1 := Lib.hid (show pmCode' (twA p) (twB p q) = 0 by simp [pmCode', HPM.out])
  have HC2 := Lib.hid (show pmCodeN (twA p) (twB p q) = 0 by simp [pmCodeN, HPM.out])
  have HIv := Lib.hid (show invRes p = invL p by simp [invRes, hip])
  have HIc := Lib.hid (show invCode p = 0 by simp [invCode, hip])
  clear h0 hip hiq hpp hpq hlq hcom hRA hRB HF3 HT3 HQ3
  go_wp2_with fail
  refine (c_InversePermutation _ p _ HF4.out.hp).mono ?_; rintro e w5 ⟨bk, rfl, ho5, hb5⟩
  rw [HIv.out] at ho5
  rw [HIc.out]
  have HF5 := Lib.hid (HF4.out.under hb5); have HK5 := Lib.hid ho5.ints
  clear ho5 hb5
  obtain ⟨x0, x1, -, -⟩ := two_cells HF5.out.hs
  go_wp2_with fail
  refine (c_IsInvolutive _ _ _ _ _ HF5.out.hsol).mono ?_; rintro e w6 ⟨rfl, hb6⟩
  rw [HInv.out, HC1.out]
  have HF6 := Lib.hid (HF5.out.under hb6); have HK6 := Lib.hid (HK5.out.below hb6)
  clear hb6 x0 x1
  obtain ⟨x0, x1, -, -⟩ := two_cells HF6.out.hs
  go_wp2_with fail
  refine (c_IsNondegenerate _ _ _ _ _ HF6.out.hsol).mono ?_; rintro e w7 ⟨rfl, hb7⟩
  rw [HNd.out, HC2.out]
  have HF7 := Lib.hid (HF6.out.under hb7); have HK7 := Lib.hid (HK6.out.below hb7)
  clear hb7 x0 x1
  obtain ⟨x0, x1, -, -⟩ := two_cells HF7.out.hs
  go_wp2_with fail
  refine (c_IsSolution _ _ _ _ _ HF7.out.hsol).mono ?_; rintro e w8 ⟨rfl, hb8⟩
  rw [HSol.out]
  have HF8 := Lib.hid (HF7.out.under hb8); have HK8 := Lib.hid (HK7.out.below hb8)
  clear hb8 x0 x1
  obtain ⟨dv, hdv⟩ : ∃ d, decide (invL p = q) = d := ⟨_, rfl⟩
  have HDv := Lib.hid hdv
  rw [hdv]
  have hdd : (dv != dv) = false := by simp
  clear hdv
  go_wp2_with fail
  refine (c_likeInts _ _ (invL p) q _ HK8.out HF8.out.hq).mono ?_; rintro e w9 ⟨rfl, hb9⟩
  rw [HDv.out]
  have HF9 := Lib.hid (HF8.out.under (below_of_drewN hb9)); have HK9 := Lib.hid (HK8.out.below (below_of_drewN hb9))
  clear hb9
  obtain ⟨pa, pc, hv1, _, _⟩ := HF9.out.hp.shape
  subst hv1
  obtain ⟨N, hN⟩ : ∃ N, p.length = N := ⟨_, rfl⟩
  have HN := Lib.hid hN
  rw [hN] at hl1 hl12
  have HTU := Lib.hid (then_unit HIP.out)
  have HFU := Lib.hid (flip_unit hl1 hl12); have HWU := Lib.hid (twist_unit hl1 hl12)
  clear hN hdd
  go_wp2_with fail
  refine (c_then5 _ _ p (invL p) _ HF9.out.hp HK9.out).mono ?_; rintro e w10 ⟨un, rfl, ho10, hb10⟩
  rw [HTU.out, HN.out] at ho10
  have HF10 := Lib.hid (HF9.out.under hb10); have HU10 := Lib.hid ho10.ints
  clear ho10 hb10
  go_wp2_with fail
  rw [HN.out]
  refine (c_FlipSolution (N : Int) _ (by omega) (by omega)).mono ?_; rintro e w11 ⟨f1, f2, rfl, hs11, hb11⟩
  rw [HFU.out.1, HFU.out.2.1] at hs11
  rw [HFU.out.2.2]
  obtain ⟨fa1, fl1, fc1, hf1⟩ := hs11.sol.1.any
  obtain ⟨fa2, fl2, fc2, hf2⟩ := hs11.sol.2.any
  subst hf1 hf2
  have HB11 := Lib.hid (((HF10.out.under hb11).new (.cells #[.slice fa1 fl1 fc1, .slice fa2 fl2 fc2] 27)).hb)
  have HU11 := Lib.hid ((HU10.out.below hb11).below ((Below.refl _ _).alloc (Nat.le_refl _) (.cells #[.slice fa1 fl1 fc1, .slice fa2 fl2 fc2] 27)))
  have HS11 := Lib.hid (hs11.sol.below ((Below.refl _ _).alloc (Nat.le_refl _) (.cells #[.slice fa1 fl1 fc1, .slice fa2 fl2 fc2] 27)))
  have HQ11 := Lib.hid (Blk.new w11 [.slice fa1 fl1 fc1, .slice fa2 fl2 fc2] 27)
  clear hs11 hb11
  go_wp2_with fail
  refine (c_TwistSolution _ (iota N) _ (iota N) _ HU11.out HU11.out).mono ?_; rintro e w12 ⟨g1, g2, rfl, hs12, hb12⟩
  rw [HWU.out.1, HWU.out.2.1] at hs12
  rw [HWU.out.2.2]
  obtain ⟨ga1, gl1, gc1, hg1⟩ := hs12.sol.1.any
  obtain ⟨ga2, gl2, gc2, hg2⟩ := hs12.sol.2.any
  subst hg1 hg2
  have HB12 := Lib.hid ((HB11.out.trans (hb12.mono HB11.out.size)).alloc (by have := HB11.out.size; have := hb12.size; omega) (.cells #[.slice ga1 gl1 gc1, .slice ga2 gl2 gc2] 27))
  have HS12 := Lib.hid (hs12.sol.below ((Below.refl _ _).alloc (Nat.le_refl _) (.cells #[.slice ga1 gl1 gc1, .slice ga2 gl2 gc2] 27)))
  have HS11b := Lib.hid ((HS11.out.below hb12).below ((Below.refl _ _).alloc (Nat.le_refl _) (.cells #[.slice ga1 gl1 gc1, .slice ga2 gl2 gc2] 27)))
  have HQ12 := Lib.hid (Blk.new w12 [.slice ga1 gl1 gc1, .slice ga2 gl2 gc2] 27)
  have HQ11b := Lib.hid ((HQ11.out.under hb12).alloc (.cells #[.slice ga1 gl1 gc1, .slice ga2 gl2 gc2] 27))
  clear hs12 hb12
  obtain ⟨x0, x1, -, -⟩ := two_cells HQ11b.out
  obtain ⟨y0, y1, -, -⟩ := two_cells HQ12.out
  go_wp2_with fail
  refine (c_likeSolution5 _ _ _ _ _ _ _ _ _ HS11b.out HS12.out).mono ?_; rintro e w13 ⟨rfl, hb13⟩
  rw [show (decide (twA (iota N) = twA (iota N)) && decide (twB (iota N) (iota N) = twB (iota N) (iota N))) = true from by simp]
  have HB13 := Lib.hid (HB12.out.trans (hb13.mono HB12.out.size))
  clear hb13 x0 x1 y0 y1
  go_wp2
  go_ret
  exact ⟨rfl, HB13.out⟩
end Go.Proofs.Ytkcobfkmeaakoaa

namespace Go.Proofs.Ytkcobfkmeaakoaa
open Go Go.RowKit

def LS (w W : World) (L : List (Value × List Int)) (M : List (Value × List (List Int))) (Bx : List (Nat × Value × Value)) : Prop :=
  (∀ e ∈ L, Ints W e.1 e.2) ∧ (∀ e ∈ M, Rows W e.1 e.2) ∧ (∀ e ∈ Bx, Blk W e.1 27 [e.2.1, e.2.2]) ∧ Below w.heap.size w W
namespace LS
variable {w W W' : World} {L : List (Value × List Int)} {M : List (Value × List (List Int))} {Bx : List (Nat × Value × Value)}
theorem under (h : LS w W L M Bx) (k : Below W.heap.size W W') : LS w W' L M Bx :=
  ⟨fun e he => (h.1 e he).below k, fun e he => (h.2.1 e he).below k, fun e he => (h.2.2.1 e he).under k, h.2.2.2.trans (k.mono h.2.2.2.size)⟩
theorem addI (h : LS w W L M Bx) {v : Value} {xs : List Int} (hi : Ints W v xs) : LS w W ((v, xs) :: L) M Bx :=
  ⟨fun e he => by rcases List.mem_cons.1 he with rfl | he; exact hi; exact h.1 e he, h.2⟩
theorem addR (h : LS w W L M Bx) {v : Value} {X : List (List Int)} (hi : Rows W v X) : LS w W L ((v, X) :: M) Bx :=
  ⟨h.1, fun e he => by rcases List.mem_cons.1 he with rfl | he; exact hi; exact h.2.1 e he, h.2.2⟩
theorem addS (h : LS w W L M Bx) {v1 v2 : Value} {A B : List (List Int)} (hs : Sol W v1 v2 A B) : LS w W L ((v1, A) :: (v2, B) :: M) Bx := (h.addR hs.2).addR hs.1
theorem box (h : LS w W L M Bx) (a b : Value) : LS w (W.alloc (.cells #[a, b] 27)) L M ((W.heap.size, a, b) :: Bx) := by
  have h2 := h.under ((Below.refl W.heap.size W).alloc (Nat.le_refl _) (.cells #[a, b] 27))
  exact ⟨h2.1, h2.2.1, fun e he => by rcases List.mem_cons.1 he with rfl | he; exact Blk.new W [a, b] 27; exact h2.2.2.1 e he, h2.2.2.2⟩
theorem getI (h : LS w W L M Bx) {v : Value} {xs : List Int} (he : (v, xs) ∈ L) : Ints W v xs := h.1 _ he
theorem getR (h : LS w W L M Bx) {v : Value} {X : List (List Int)} (he : (v, X) ∈ M) : Rows W v X := h.2.1 _ he
theorem getB (h : LS w W L M Bx) {q : Nat} {a b : Value} (he : (q, a, b) ∈ Bx) : Blk W q 27 [a, b] := h.2.2.1 _ he
end LS
end Go.Proofs.Ytkcobfkmeaakoaa

namespace Go.Proofs.Ytkcobfkmeaakoaa

/-- A table of n rows with one entry changed. -/
theorem tabOf_put (n : Nat) (g : Int → Int → Int) (u v z : Int) (hu0 : 0 ≤ u) (hu : u < n) (hv0 : 0 ≤ v) (hv : v < n) :
    (tabOf n g).set u.toNat ((row (tabOf n g) u).set v.toNat z) = tabOf n fun a b => if a = u ∧ b = v then z else g a b := by
  apply ext_row (by simp)
  intro a ha
  simp at ha
  have hR := row_tabOf n (fun a b => if a = u ∧ b = v then z else g a b) a ha
  rw [row_set _ _ _ _ hu0 (by simpa using hu) (by omega), hR]
  by_cases e : (a : Int) = u
  · rw [if_pos e, row_tabOfi _ _ _ hu0 hu]
    apply ext_nth (by simp)
    intro b hb
    simp at hb
    have hQ := nth_rowOf n (fun b => if (a : Int) = u ∧ b = v then z else g a b) b hb
    rw [nth_set _ _ _ _ hv0 (by simpa using hv) (by omega), nth_rowOf _ _ _ hb]
    refine Eq.trans ?_ hQ.symm
    show _ = if (a : Int) = u ∧ (b : Int) = v then z else g a b
    by_cases e2 : (b : Int) = v
    · rw [if_pos e2, if_pos ⟨e, e2⟩]
    · rw [if_neg e2, if_neg (fun h => e2 h.2), e]
  · rw [if_neg e, row_tabOf _ _ _ ha]
    exact rowOf_congr fun b _ => by rw [if_neg (fun h => e h.1)]

/-- The entry (u, v) after k pairs: what z says of the pair that leads there, where that pair is among the first k. -/
def ivG (A B : List (List Int)) (n : Nat) (z : Int → Int) (ini : Int → Int → Int) (k : Nat) (u v : Int) : Int :=
  if nth (invL (pmL A B n)) (u * n + v) < k then z (nth (invL (pmL A B n)) (u * n + v)) else ini u v
def ivT (A B : List (List Int)) (n : Nat) (z : Int → Int) (ini : Int → Int → Int) (k : Nat) : List (List Int) := tabOf n (ivG A B n z ini k)
@[simp] theorem ivT_length (A B : List (List Int)) (n : Nat) (z : Int → Int) (ini : Int → Int → Int) (k : Nat) : (ivT A B n z ini k).length = n := by simp [ivT]
/-- The inverse's two tables. -/
def ivA (A B : List (List Int)) (n : Nat) : List (List Int) := tabOf n fun u v => nth (invL (pmL A B n)) (u * n + v) / n
def ivB (A B : List (List Int)) (n : Nat) : List (List Int) := tabOf n fun u v => nth (invL (pmL A B n)) (u * n + v) % n

/-- Where a pair's code leads back to. -/
theorem iv_range {A B : List (List Int)} {n : Nat} (hP : Permuted (pmL A B n)) {u v : Int} (hu0 : 0 ≤ u) (hu : u < n) (hv0 : 0 ≤ v) (hv : v < n) :
    0 ≤ nth (invL (pmL A B n)) (u * n + v) ∧ nth (invL (pmL A B n)) (u * n + v) < ((n * n : Nat) : Int) ∧ nth (pmL A B n) (nth (invL (pmL A B n)) (u * n + v)) = u * n + v := by
  obtain ⟨h0, h1⟩ := code_lt hu0 hu hv0 hv
  obtain ⟨x, x0, x1, e⟩ := ex_pre hP (y := u * n + v) h0 (by simpa using h1)
  rw [← e, nth_invL hP x0 x1]
  exact ⟨x0, by simpa using x1, rfl⟩
theorem ivT_zero {A B : List (List Int)} {n : Nat} (hP : Permuted (pmL A B n)) (z : Int → Int) (ini : Int → Int → Int) : ivT A B n z ini 0 = tabOf n ini := by
  refine tabOf_congr fun u v hu hv => ?_
  obtain ⟨h0, _, _⟩ := iv_range hP (u := u) (v := v) (by omega) (by omega) (by omega) (by omega)
  unfold ivG
  rw [if_neg (by omega)]
theorem ivT_done {A B : List (List Int)} {n : Nat} (hP : Permuted (pmL A B n)) (z : Int → Int) (ini : Int → Int → Int) : ivT A B n z ini (n * n) = tabOf n fun u v => z (nth (invL (pmL A B n)) (u * n + v)) := by
  refine tabOf_congr fun u v hu hv => ?_
  obtain ⟨_, h1, _⟩ := iv_range hP (u := u) (v := v) (by omega) (by omega) (by omega) (by omega)
  unfold ivG
  rw [if_pos h1]
/-- One pair more. -/
theorem ivT_step {A B : List (List Int)} {n : Nat} (hP : Permuted (pmL A B n)) (z : Int → Int) (ini : Int → Int → Int) {x y : Nat} (hx : x < n) (hy : y < n)
    (hA0 : 0 ≤ val2 A x y) (hA1 : val2 A x y < n) (hB0 : 0 ≤ val2 B x y) (hB1 : val2 B x y < n) :
    (ivT A B n z ini (x * n + y)).set (val2 A x y).toNat ((row (ivT A B n z ini (x * n + y)) (val2 A x y)).set (val2 B x y).toNat (z ((x : Int) * n + y))) = ivT A B n z ini (x * n + y + 1) := by
  unfold ivT
  rw [tabOf_put _ _ _ _ _ hA0 hA1 hB0 hB1]
  refine tabOf_congr fun u v hu hv => ?_
  obtain ⟨h0, h1, h2⟩ := iv_range hP (u := u) (v := v) (by omega) (by omega) (by omega) (by omega)
  have hc : nth (pmL A B n) ((x : Int) * n + y) = val2 A x y * n + val2 B x y := nth_pmL (by omega) (by omega) (by omega) (by omega)
  obtain ⟨c0, c1⟩ := code_lt (n := n) (x := x) (y := y) (by omega) (by omega) (by omega) (by omega)
  have hcast : ((x * n + y : Nat) : Int) = (x : Int) * n + y := by push_cast; rfl
  unfold ivG
  by_cases e : (u : Int) = val2 A x y ∧ (v : Int) = val2 B x y
  · rw [if_pos e]
    have e3 : nth (invL (pmL A B n)) ((u : Int) * n + v) = (x : Int) * n + y := by
      rw [e.1, e.2, ← hc, nth_invL hP c0 (by simpa using c1)]
    rw [e3, if_pos (by omega)]
  · rw [if_neg e]
    have hne : nth (invL (pmL A B n)) ((u : Int) * n + v) ≠ (x : Int) * n + y := by
      intro h
      rw [h, hc] at h2
      obtain ⟨g1, g2⟩ := code_inj hB0 hB1 (by omega) (by omega) h2
      exact e ⟨g1.symm, g2.symm⟩
    by_cases hl : nth (invL (pmL A B n)) ((u : Int) * n + v) < ((x * n + y : Nat) : Int)
    · rw [if_pos hl, if_pos (by omega)]
    · rw [if_neg hl, if_neg (by omega)]
theorem tabOf_val2 {t : List (List Int)} (h : isTab t = true) : tabOf t.length (val2 t) = t := by
  apply ext_row (by simp)
  intro k hk
  simp at hk
  have hr := isTab_row h (x := k) (by omega) (by omega)
  rw [row_tabOf _ _ _ hk]
  apply ext_nth (by simp; omega)
  intro j hj
  simp at hj
  rw [nth_rowOf _ _ _ hj]; rfl
theorem ivA_eq {A B : List (List Int)} {n : Nat} (hP : Permuted (pmL A B n)) (ini : Int → Int → Int) : ivT A B n (fun c => c / n) ini (n * n) = ivA A B n := ivT_done hP _ _
theorem ivB_eq {A B : List (List Int)} {n : Nat} (hP : Permuted (pmL A B n)) (ini : Int → Int → Int) : ivT A B n (fun c => c % n) ini (n * n) = ivB A B n := ivT_done hP _ _
end Go.Proofs.Ytkcobfkmeaakoaa

namespace Go.Proofs.Ytkcobfkmeaakoaa

theorem sorted_eq : ∀ {l m : List Int}, l.Perm m → l.Pairwise (· ≤ ·) → m.Pairwise (· ≤ ·) → l = m
  | [], m, h, _, _ => (h.nil_eq)
  | a :: l, [], h, _, _ => by have := h.length_eq; simp at this
  | a :: l, b :: m, h, hl, hm => by
    rw [List.pairwise_cons] at hl hm
    have h1 : a ∈ b :: m := h.subset (by simp)
    have h2 : b ∈ a :: l := h.symm.subset (by simp)
    have e : a = b := by
      rcases List.mem_cons.1 h1 with h1 | h1
      · exact h1
      · rcases List.mem_cons.1 h2 with h2 | h2
        · exact h2.symm
        · have := hm.1 a h1; have := hl.1 b h2; omega
    subst e
    rw [sorted_eq h.cons_inv hl.2 hm.2]

/-- The numbers 0 to n - 1 of M in ascending order. -/
def csort (n : Nat) (M : List Int) : List Int := (List.range n).flatMap fun (s : Nat) => List.replicate (M.count (s : Int)) (s : Int)
/-- The numbers 1 to n of M in ascending order. -/
def cycS (n : Nat) (M : List Int) : List Int := (List.range n).flatMap fun (s : Nat) => List.replicate (M.count ((s : Int) + 1)) ((s : Int) + 1)
theorem csort_succ (n : Nat) (M : List Int) : csort (n + 1) M = csort n M ++ List.replicate (M.count (n : Int)) (n : Int) := by
  simp [csort, List.range_succ]
theorem cycS_succ (n : Nat) (M : List Int) : cycS (n + 1) M = cycS n M ++ List.replicate (M.count ((n : Int) + 1)) ((n : Int) + 1) := by
  simp [cycS, List.range_succ]
theorem csort_cyc (M : List Int) : ∀ n, csort (n + 1) M = List.replicate (M.count 0) 0 ++ cycS n M
  | 0 => by simp [csort, cycS]
  | n + 1 => by rw [csort_succ, csort_cyc M n, cycS_succ]; simp
theorem count_csort (M : List Int) (x : Int) : ∀ n : Nat, (csort n M).count x = if 0 ≤ x ∧ x < n then M.count x else 0
  | 0 => by
    rw [if_neg (by omega)]; simp [csort]
  | n + 1 => by
    rw [csort_succ, List.count_append, count_csort M x n, List.count_replicate]
    by_cases e : x = n
    · subst e; simp; omega
    · have e' : ¬ ((n : Int) == x) = true := by simp; omega
      rw [if_neg e']
      by_cases h : 0 ≤ x ∧ x < n
      · rw [if_pos h, if_pos (by omega)]; rfl
      · rw [if_neg h, if_neg (by omega)]
theorem mem_csort {M : List Int} {x : Int} : ∀ {n : Nat}, x ∈ csort n M → 0 ≤ x ∧ x < n := by
  intro n h
  have := List.count_pos_iff.2 h
  rw [count_csort] at this
  by_cases e : 0 ≤ x ∧ x < n
  · exact e
  · rw [if_neg e] at this; omega
theorem csort_sorted (M : List Int) : ∀ n : Nat, (csort n M).Pairwise (· ≤ ·)
  | 0 => by simp [csort]
  | n + 1 => by
    rw [csort_succ, List.pairwise_append]
    refine ⟨csort_sorted M n, ?_, ?_⟩
    · rw [List.pairwise_replicate]; exact .inr (by omega)
    · intro a ha b hb
      have h1 := mem_csort ha
      have h2 := List.eq_of_mem_replicate hb
      omega
theorem csort_perm {M : List Int} {n : Nat} (h : ∀ x ∈ M, 0 ≤ x ∧ x < n) : (csort n M).Perm M := by
  rw [List.perm_iff_count]
  intro x
  rw [count_csort]
  by_cases e : 0 ≤ x ∧ x < n
  · rw [if_pos e]
  · rw [if_neg e]
    exact (List.count_eq_zero.2 fun hm => e (h x hm)).symm
/-- What sorting makes of M. -/
theorem sort_is {M S : List Int} {n : Nat} (h : ∀ x ∈ M, 0 ≤ x ∧ x < n) (hp : S.Perm M) (hs : S.Pairwise (· ≤ ·)) : S = csort n M :=
  sorted_eq (hp.trans (csort_perm h).symm) hs (csort_sorted M n)
theorem cycS_pos {M : List Int} {n : Nat} {x : Int} (h : x ∈ cycS n M) : 0 < x := by
  simp only [cycS, List.mem_flatMap] at h
  obtain ⟨s, _, hs⟩ := h
  have := List.eq_of_mem_replicate hs
  omega
theorem cycS_sum (M : List Int) : ∀ n : Nat, (cycS n M).sum = ((List.range n).map fun (s : Nat) => (M.count ((s : Int) + 1) : Int) * ((s : Int) + 1)).sum
  | 0 => rfl
  | n + 1 => by
    rw [cycS_succ, List.sum_append, cycS_sum M n, List.range_succ, List.map_append, List.sum_append]
    simp
theorem cycS_length (M : List Int) (n : Nat) : (cycS n M).length ≤ M.length := by
  have h : (csort (n + 1) M).length ≤ M.length := by
    have : ∀ k : Nat, (csort k M).length ≤ (M.filter fun (x : Int) => decide (0 ≤ x ∧ x < (k : Int))).length := by
      intro k
      induction k with
      | zero => simp [csort]
      | succ k ih =>
        rw [csort_succ, List.length_append, List.length_replicate]
        have e : (M.filter fun (x : Int) => decide (0 ≤ x ∧ x < ((k + 1 : Nat) : Int))).length = (M.filter fun (x : Int) => decide (0 ≤ x ∧ x < (k : Int))).length + M.count (k : Int) := by
          clear ih
          induction M with
          | nil => rfl
          | cons a M ih =>
            simp only [List.filter_cons, List.count_cons]
            by_cases h1 : 0 ≤ a ∧ a < (k : Int)
            · have h2 : 0 ≤ a ∧ a < ((k + 1 : Nat) : Int) := by omega
              have h3 : ¬ (a == (k : Int)) = true := by simp; omega
              rw [if_pos (by simpa using h2), if_pos (by simpa using h1), if_neg h3, List.length_cons, List.length_cons, ih]; omega
            · by_cases h4 : a = k
              · have h2 : 0 ≤ a ∧ a < ((k + 1 : Nat) : Int) := by omega
                have h3 : (a == (k : Int)) = true := by simp [h4]
                rw [if_pos (by simpa using h2), if_neg (by simpa using h1), if_pos h3, List.length_cons, ih]; omega
              · have h2 : ¬ (0 ≤ a ∧ a < ((k + 1 : Nat) : Int)) := by omega
                have h3 : ¬ (a == (k : Int)) = true := by simpa using h4
                rw [if_neg (by simpa using h2), if_neg (by simpa using h1), if_neg h3, ih]; rfl
        rw [e]; omega
    exact Nat.le_trans (this (n + 1)) (List.length_filter_le _ _)
  rw [csort_cyc, List.length_append] at h
  omega
end Go.Proofs.Ytkcobfkmeaakoaa

namespace Go.Proofs.Ytkcobfkmeaakoaa

theorem orbL_range {L : List (List Int)} {n : Nat} (hs : SysOk n L) {y : Nat} (hy : y < n) : 0 ≤ nth (orbL L n) y ∧ nth (orbL L n) y < n := by
  have h1 := (labs_iff hs n y (Nat.le_refl _) hy).2 ⟨y, hy, .here⟩
  have h2 := labs_range L n n y hy
  have h3 := (labs_next L n n).2
  exact ⟨h1, by unfold orbL; omega⟩
theorem orbL_len (L : List (List Int)) (n : Nat) : (orbL L n).length = n := labs_length L n n
theorem orbL_mem {L : List (List Int)} {n : Nat} (hs : SysOk n L) {x : Int} (hx : x ∈ orbL L n) : 0 ≤ x ∧ x < n := by
  obtain ⟨k, hk, rfl⟩ := List.getElem_of_mem hx
  rw [orbL_len] at hk
  have := orbL_range hs hk
  rwa [nth_nat _ _ (by rw [orbL_len]; exact hk)] at this

/-- How often each number 0 to n - 1 stands among the first k of X. -/
def cnt (X : List Int) (n k : Nat) : List Int := rowOf n fun o => ((X.take k).count o : Int)
@[simp] theorem cnt_length (X : List Int) (n k : Nat) : (cnt X n k).length = n := by simp [cnt]
theorem cnt_nth {X : List Int} {n k : Nat} {o : Int} (h0 : 0 ≤ o) (h1 : o < n) : nth (cnt X n k) o = ((X.take k).count o : Int) := nth_rowOfi _ _ _ h0 h1
theorem cnt_zero (X : List Int) (n : Nat) : cnt X n 0 = List.replicate n 0 := by
  unfold cnt
  have := rowOf_const n 0
  simpa using this
theorem cnt_step {X : List Int} {n k : Nat} (hk : k < X.length) (h0 : 0 ≤ nth X k) (h1 : nth X k < n) : (cnt X n k).set (nth X k).toNat (nth (cnt X n k) (nth X k) + 1) = cnt X n (k + 1) := by
  apply ext_nth (by simp)
  intro j hj
  simp at hj
  rw [nth_set _ _ _ _ h0 (by simpa using h1) (by omega), cnt_nth (by omega) (by omega), cnt_nth (by omega) (by omega), cnt_nth (by omega) (by omega), take_snoc _ _ hk, List.count_append]
  by_cases e : (j : Int) = nth X k
  · rw [if_pos e, e]; simp
  · rw [if_neg e]
    have : [nth X k].count (j : Int) = 0 := by
      rw [List.count_eq_zero]; simp; omega
    omega
noncomputable def cyM (p : List Int) : List Int := cnt (orbL [p] p.length) p.length p.length
noncomputable def cyL (p : List Int) : List Int := cycS p.length (cyM p)
theorem cyM_eq (p : List Int) : cyM p = rowOf p.length fun o => ((orbL [p] p.length).count o : Int) := by
  unfold cyM cnt
  rw [List.take_of_length_le (by rw [orbL_len]; exact Nat.le_refl _)]
theorem cyM_range (p : List Int) : ∀ x ∈ cyM p, 0 ≤ x ∧ x < ((p.length + 1 : Nat) : Int) := by
  intro x hx
  rw [cyM_eq] at hx
  unfold rowOf at hx
  rw [List.mem_map] at hx
  obtain ⟨j, _, rfl⟩ := hx
  have := List.count_le_length (a := (j : Int)) (l := orbL [p] p.length)
  rw [orbL_len] at this
  show 0 ≤ ((orbL [p] p.length).count (j : Int) : Int) ∧ ((orbL [p] p.length).count (j : Int) : Int) < _
  omega
theorem cyM_zero {p : List Int} (hs : SysOk p.length [p]) (h1 : 1 ≤ p.length) : (cyM p).count 0 < p.length := by
  have hl : (cyM p).length = p.length := by simp [cyM]
  have hle := List.count_le_length (a := (0 : Int)) (l := cyM p)
  rcases Nat.lt_or_ge ((cyM p).count 0) p.length with h | h
  · exact h
  · exfalso
    have he : (cyM p).count 0 = (cyM p).length := by omega
    rw [List.count_eq_length] at he
    have hr := orbL_range hs (y := 0) (by omega)
    rw [show ((0 : Nat) : Int) = 0 from rfl] at hr
    have hm : nth (cyM p) (nth (orbL [p] p.length) 0) ∈ cyM p := nth_mem hr.1 (by rw [hl]; exact hr.2)
    have := he _ hm
    rw [cyM_eq, nth_rowOfi _ _ _ hr.1 hr.2] at this
    have h0 : nth (orbL [p] p.length) 0 ∈ orbL [p] p.length := nth_mem (by omega) (by rw [orbL_len]; omega)
    have := List.count_pos_iff.2 h0
    omega
/-- The first place of a number above 0, or -1. -/
def posI : List Int → Int
  | [] => -1
  | x :: l => if 0 < x then 0 else if posI l < 0 then -1 else posI l + 1
theorem posI_rep (z : Nat) (x : Int) (l : List Int) (hx : 0 < x) : posI (List.replicate z 0 ++ x :: l) = z := by
  induction z with
  | zero => simp [posI, hx]
  | succ z ih => rw [List.replicate_succ, List.cons_append, posI, ih, if_neg (by omega), if_neg (by omega)]; omega
theorem cyS_parts {p : List Int} (hs : SysOk p.length [p]) (h1 : 1 ≤ p.length) {S : List Int} (hS : S = csort (p.length + 1) (cyM p)) :
    (posI S = ((cyM p).count 0 : Nat)) ∧ (cyM p).count 0 < S.length ∧ S.drop ((cyM p).count 0) = cyL p := by
  have hlen : S.length = p.length := by
    rw [hS, (csort_perm (cyM_range p)).length_eq]; simp [cyM]
  have hz := cyM_zero hs h1
  have hcs := csort_cyc (cyM p) p.length
  rw [← hS] at hcs
  have hd : S.drop ((cyM p).count 0) = cyL p := by
    rw [hcs, List.drop_left' (by simp)]; rfl
  refine ⟨?_, by omega, hd⟩
  have hne : cyL p ≠ [] := by
    intro e
    have : (S.drop ((cyM p).count 0)).length = 0 := by rw [hd, e]; rfl
    rw [List.length_drop] at this; omega
  obtain ⟨x, l, hxl⟩ := List.exists_cons_of_ne_nil hne
  have hx : 0 < x := cycS_pos (M := cyM p) (n := p.length) (by show x ∈ cyL p; rw [hxl]; simp)
  rw [hcs]
  show posI (_ ++ cyL p) = _
  rw [hxl, posI_rep _ _ _ hx]

/-- One more than the greatest number. -/
def grt (L : List Int) : Int := L.foldl (fun m x => if m ≤ x then x + 1 else m) 0
theorem grt_snoc (L : List Int) (k : Nat) (h : k < L.length) : grt (L.take (k + 1)) = if grt (L.take k) ≤ nth L k then nth L k + 1 else grt (L.take k) := by
  unfold grt; rw [take_snoc _ _ h, List.foldl_append]; rfl
theorem grt_ge (L : List Int) : 0 ≤ grt L ∧ ∀ x ∈ L, x < grt L := by
  have : ∀ (m : Int) (L : List Int), m ≤ L.foldl (fun m x => if m ≤ x then x + 1 else m) m ∧ ∀ x ∈ L, x < L.foldl (fun m x => if m ≤ x then x + 1 else m) m := by
    intro m L
    induction L generalizing m with
    | nil => simp
    | cons a L ih =>
      rw [List.foldl_cons]
      by_cases hma : m ≤ a
      · rw [if_pos hma]
        have h := ih (a + 1)
        refine ⟨by omega, fun x hx => ?_⟩
        rcases List.mem_cons.1 hx with rfl | hx
        · omega
        · exact h.2 x hx
      · rw [if_neg hma]
        have h := ih m
        refine ⟨h.1, fun x hx => ?_⟩
        rcases List.mem_cons.1 hx with rfl | hx
        · omega
        · exact h.2 x hx
  exact this 0 L
theorem grt_le {L : List Int} {n : Nat} (h : ∀ x ∈ L, x < n) : grt L ≤ n := by
  have : ∀ (m : Int) (L : List Int), m ≤ n → (∀ x ∈ L, x < n) → L.foldl (fun m x => if m ≤ x then x + 1 else m) m ≤ n := by
    intro m L
    induction L generalizing m with
    | nil => intro h _; exact h
    | cons a L ih =>
      intro h1 h2
      rw [List.foldl_cons]
      refine ih _ ?_ (fun x hx => h2 x (by simp [hx]))
      have := h2 a (by simp)
      split <;> omega
  exact this 0 L (by omega) h
/-- Beyond the greatest label there is nothing to count. -/
theorem cyM_tail {p : List Int} (hs : SysOk p.length [p]) (s : Int) (h : 0 < s) : ((cyM p).take (grt (orbL [p] p.length)).toNat).count s = (cyM p).count s := by
  obtain ⟨g0, g1⟩ := grt_ge (orbL [p] p.length)
  have hle := grt_le (L := orbL [p] p.length) (n := p.length) (fun x hx => (orbL_mem hs hx).2)
  have hsplit : (cyM p).count s = ((cyM p).take (grt (orbL [p] p.length)).toNat).count s + ((cyM p).drop (grt (orbL [p] p.length)).toNat).count s := by
    rw [← List.count_append, List.take_append_drop]
  have hz : ((cyM p).drop (grt (orbL [p] p.length)).toNat).count s = 0 := by
    rw [List.count_eq_zero]
    intro hm
    obtain ⟨k, hk, e⟩ := List.getElem_of_mem hm
    rw [List.getElem_drop] at e
    rw [List.length_drop] at hk
    have hl : (cyM p).length = p.length := by simp [cyM]
    have e2 := nth_nat (cyM p) ((grt (orbL [p] p.length)).toNat + k) (by omega)
    rw [e] at e2
    rw [cyM_eq, nth_rowOfi _ _ _ (by omega) (by omega)] at e2
    have : (orbL [p] p.length).count (((grt (orbL [p] p.length)).toNat + k : Nat) : Int) = 0 := by
      rw [List.count_eq_zero]
      intro hmm
      have := g1 _ hmm
      omega
    omega
  omega
/-- The list after o labels of size s + 1. -/
noncomputable def cyO (p : List Int) (s o : Nat) : List Int := cycS s (cyM p) ++ List.replicate (((cyM p).take o).count ((s : Int) + 1)) ((s : Int) + 1)
theorem cyO_zero (p : List Int) (s : Nat) : cyO p s 0 = cycS s (cyM p) := by simp [cyO]
theorem cyO_done {p : List Int} (hs : SysOk p.length [p]) (s : Nat) : cyO p s (grt (orbL [p] p.length)).toNat = cycS (s + 1) (cyM p) := by
  unfold cyO; rw [cyM_tail hs _ (by omega), cycS_succ]
theorem cyO_step {p : List Int} {s o : Nat} (ho : o < p.length) : cyO p s (o + 1) = if nth (cyM p) o = (s : Int) + 1 then cyO p s o ++ [(s : Int) + 1] else cyO p s o := by
  have hl : (cyM p).length = p.length := by simp [cyM]
  unfold cyO
  rw [take_snoc _ _ (by omega), List.count_append]
  split
  · rename_i e
    rw [e]
    have : [(s : Int) + 1].count ((s : Int) + 1) = 1 := by simp
    rw [this, List.replicate_succ', List.append_assoc]
  · rename_i e
    have : [nth (cyM p) o].count ((s : Int) + 1) = 0 := by rw [List.count_eq_zero]; simp; omega
    rw [this]; rfl
theorem cyO_len (p : List Int) (s o : Nat) : (cyO p s o).length ≤ p.length + p.length := by
  have h1 := cycS_length (cyM p) s
  have h2 := List.count_le_length (a := (s : Int) + 1) (l := (cyM p).take o)
  have hl : (cyM p).length = p.length := by simp [cyM]
  rw [List.length_take] at h2
  unfold cyO
  rw [List.length_append, List.length_replicate]
  omega
end Go.Proofs.Ytkcobfkmeaakoaa

namespace Go.Proofs.Ytkcobfkmeaakoaa

/-- The least number of steps that lead x back. -/
def MinPer (p : List Int) (x : Int) (c : Nat) : Prop := 1 ≤ c ∧ iter (nth p) c x = x ∧ ∀ r, 1 ≤ r → r < c → iter (nth p) r x ≠ x
theorem minPer_ex {p : List Int} (hp : Permuted p) {x : Int} (h0 : 0 ≤ x) (h1 : x < p.length) : ∃ c, MinPer p x c ∧ c ≤ p.length := by
  obtain ⟨r, r1, r2, r3⟩ := comes_back hp h0 h1
  have key : ∀ d, d ≤ p.length + 1 → (∃ c, MinPer p x c ∧ c ≤ p.length) ∨ (∀ j, 1 ≤ j → j < d → iter (nth p) j x ≠ x) := by
    intro d
    induction d with
    | zero => exact fun _ => .inr fun j h1 h2 => by omega
    | succ d ih =>
      intro hd1
      rcases ih (by omega) with h | h
      · exact .inl h
      · by_cases hd : 1 ≤ d ∧ iter (nth p) d x = x
        · exact .inl ⟨d, ⟨hd.1, hd.2, h⟩, by omega⟩
        · refine .inr fun j h1 h2 => ?_
          by_cases e : j = d
          · subst e; exact fun e2 => hd ⟨h1, e2⟩
          · exact h j h1 (by omega)
  rcases key (p.length + 1) (Nat.le_refl _) with h | h
  · exact h
  · exact absurd r3 (h r r1 (by omega))
theorem MinPer.uniq {p : List Int} {x : Int} {a b : Nat} (ha : MinPer p x a) (hb : MinPer p x b) : a = b := by
  rcases Nat.lt_trichotomy a b with h | h | h
  · exact absurd ha.2.1 (hb.2.2 a ha.1 h)
  · exact h
  · exact absurd hb.2.1 (ha.2.2 b hb.1 h)
theorem iter_comm (f : Int → Int) (a b : Nat) (x : Int) : iter f a (iter f b x) = iter f b (iter f a x) := by rw [← iter_add, ← iter_add, Nat.add_comm]
theorem MinPer.step {p : List Int} (hp : Permuted p) {x : Int} (h0 : 0 ≤ x) (h1 : x < p.length) {c : Nat} (h : MinPer p x c) (k : Nat) : MinPer p (iter (nth p) k x) c := by
  refine ⟨h.1, by rw [iter_comm, h.2.1], fun r r1 r2 e => ?_⟩
  rw [iter_comm] at e
  exact h.2.2 r r1 r2 (iter_inj hp (iter_lt hp h0 h1 r).1 (iter_lt hp h0 h1 r).2 h0 h1 k e)
theorem MinPer.nodup {p : List Int} (hp : Permuted p) {x : Int} (h0 : 0 ≤ x) (h1 : x < p.length) {c : Nat} (h : MinPer p x c) : ((List.range c).map fun k => iter (nth p) k x).Nodup := by
  rw [List.Nodup, List.pairwise_map, List.pairwise_iff_getElem]
  intro i j hi hj hij e
  simp only [List.getElem_range] at e
  simp at hj
  refine h.2.2 (j - i) (by omega) (by omega) ?_
  have e2 : iter (nth p) i (iter (nth p) (j - i) x) = iter (nth p) i x := by rw [← iter_add, show i + (j - i) = j from by omega, e]
  exact iter_inj hp (iter_lt hp h0 h1 _).1 (iter_lt hp h0 h1 _).2 h0 h1 i e2

/-- Sums and least common multiples of the numbers of D from 1 to k. -/
def sumD (D : Nat → Bool) : Nat → Nat
  | 0 => 0
  | k + 1 => sumD D k + if D (k + 1) then k + 1 else 0
def lcmD (D : Nat → Bool) : Nat → Nat → Nat
  | 0, l => l
  | k + 1, l => lcmD D k (if D (k + 1) then Nat.lcm l (k + 1) else l)
def chkD : Nat → Nat → Nat → Bool
  | 0, _, l => decide (l ≤ 60)
  | k + 1, b, l => chkD k b l && (if k + 1 ≤ b then chkD k (b - (k + 1)) (Nat.lcm l (k + 1)) else true)
theorem chkD_ok (D : Nat → Bool) : ∀ (k b l : Nat), chkD k b l = true → sumD D k ≤ b → lcmD D k l ≤ 60
  | 0, b, l, h, _ => by simpa [chkD, lcmD] using h
  | k + 1, b, l, h, hs => by
    simp only [chkD, Bool.and_eq_true] at h
    unfold lcmD
    unfold sumD at hs
    by_cases hd : D (k + 1) = true
    · rw [if_pos hd] at hs ⊢
      have h2 := h.2
      rw [if_pos (show k + 1 ≤ b by omega)] at h2
      exact chkD_ok D k _ _ h2 (by omega)
    · rw [if_neg hd] at hs ⊢
      exact chkD_ok D k b l h.1 (by omega)
theorem chk12 : chkD 12 12 1 = true := by decide +kernel
theorem lcmD_dvd (D : Nat → Bool) : ∀ (k l : Nat), l ∣ lcmD D k l
  | 0, l => Nat.dvd_refl _
  | k + 1, l => by
    unfold lcmD
    refine Nat.dvd_trans ?_ (lcmD_dvd D k _)
    split
    · exact Nat.dvd_lcm_left _ _
    · exact Nat.dvd_refl _
theorem lcmD_mem (D : Nat → Bool) : ∀ (k l d : Nat), 1 ≤ d → d ≤ k → D d = true → d ∣ lcmD D k l
  | 0, l, d, h1, h2, _ => by omega
  | k + 1, l, d, h1, h2, hd => by
    unfold lcmD
    by_cases e : d = k + 1
    · subst e
      rw [if_pos hd]
      exact Nat.dvd_trans (Nat.dvd_lcm_right _ _) (lcmD_dvd D k _)
    · exact lcmD_mem D k _ d h1 (by omega) hd
theorem lcmD_pos (D : Nat → Bool) : ∀ (k l : Nat), 0 < l → 0 < lcmD D k l
  | 0, l, h => h
  | k + 1, l, h => by
    unfold lcmD
    refine lcmD_pos D k _ ?_
    split
    · exact Nat.lcm_pos h (by omega)
    · exact h

open Classical in
theorem ord_le {p : List Int} (hp : Permuted p) (hn : p.length ≤ 12) : ∃ L, 1 ≤ L ∧ L ≤ 60 ∧ pw p (L - 1) = iota p.length := by
  let D : Nat → Bool := fun d => decide (∃ x : Int, 0 ≤ x ∧ x < p.length ∧ MinPer p x d)
  have hD : ∀ d, D d = true → ∃ x : Int, 0 ≤ x ∧ x < p.length ∧ MinPer p x d := fun d h => by simpa [D] using h
  have hx : ∀ d, ∃ x : Int, D d = true → 0 ≤ x ∧ x < p.length ∧ MinPer p x d := fun d => by
    by_cases h : D d = true
    · obtain ⟨x, hx⟩ := hD d h; exact ⟨x, fun _ => hx⟩
    · exact ⟨0, fun h2 => absurd h2 h⟩
  let X : Nat → Int := fun d => Classical.choose (hx d)
  have hX : ∀ d, D d = true → 0 ≤ X d ∧ X d < p.length ∧ MinPer p (X d) d := fun d => Classical.choose_spec (hx d)
  -- the orbits, one for each length
  have key : ∀ k, ∃ U : List Int, U.length = sumD D k ∧ U.Nodup ∧ (∀ y ∈ U, 0 ≤ y ∧ y < p.length ∧ ∃ d, d ≤ k ∧ MinPer p y d) := by
    intro k
    induction k with
    | zero => exact ⟨[], rfl, List.nodup_nil, by simp⟩
    | succ k ih =>
      obtain ⟨U, h1, h2, h3⟩ := ih
      by_cases hd : D (k + 1) = true
      · obtain ⟨x0, x1, hm⟩ := hX (k + 1) hd
        refine ⟨U ++ (List.range (k + 1)).map fun j => iter (nth p) j (X (k + 1)), ?_, ?_, ?_⟩
        · unfold sumD; rw [if_pos hd, List.length_append, h1]; simp
        · rw [List.nodup_append]
          refine ⟨h2, hm.nodup hp x0 x1, fun a ha b hb e => ?_⟩
          rw [List.mem_map] at hb
          obtain ⟨j, _, rfl⟩ := hb
          obtain ⟨_, _, d, hdk, hmd⟩ := h3 a ha
          rw [e] at hmd
          have := hmd.uniq (hm.step hp x0 x1 j)
          omega
        · intro y hy
          rcases List.mem_append.1 hy with hy | hy
          · obtain ⟨a, b, d, c, e⟩ := h3 y hy; exact ⟨a, b, d, by omega, e⟩
          · rw [List.mem_map] at hy
            obtain ⟨j, _, rfl⟩ := hy
            have := iter_lt hp x0 x1 j
            exact ⟨this.1, this.2, k + 1, Nat.le_refl _, hm.step hp x0 x1 j⟩
      · refine ⟨U, ?_, h2, fun y hy => ?_⟩
        · unfold sumD; rw [if_neg hd, h1]; rfl
        · obtain ⟨a, b, d, c, e⟩ := h3 y hy; exact ⟨a, b, d, by omega, e⟩
  obtain ⟨U, u1, u2, u3⟩ := key 12
  have hsum : sumD D 12 ≤ 12 := by
    have hsub : U ⊆ iota p.length := fun y hy => (mem_iota _ _).2 ⟨(u3 y hy).1, (u3 y hy).2.1⟩
    have := List.Nodup.length_le_of_subset u2 hsub
    rw [iota_length] at this; omega
  have hL := chkD_ok D 12 12 1 chk12 hsum
  have hpos := lcmD_pos D 12 1 (by omega)
  refine ⟨lcmD D 12 1, hpos, hL, ?_⟩
  apply ext_nth (by simp)
  intro k hk
  have hk' : k < p.length := by simpa using hk
  rw [nth_pw p k (by omega) (by omega), nth_iota _ _ (by omega) (by omega)]
  obtain ⟨c, hc, hcl⟩ := minPer_ex hp (x := (k : Int)) (by omega) (by omega)
  have hDc : D c = true := by
    have : ∃ x : Int, 0 ≤ x ∧ x < p.length ∧ MinPer p x c := ⟨k, by omega, by omega, hc⟩
    simpa [D] using this
  obtain ⟨m, hm⟩ := lcmD_mem D 12 1 c hc.1 (by omega) hDc
  rw [show lcmD D 12 1 - 1 + 1 = c * m by omega]
  exact iter_mul _ _ _ hc.2.1 m

theorem sum_perm {l m : List Int} (h : l.Perm m) : l.sum = m.sum := by
  induction h with
  | nil => rfl
  | cons x _ ih => simp [ih]
  | swap x y l => simp; omega
  | trans _ _ ih1 ih2 => exact ih1.trans ih2
theorem sum_set : ∀ (l : List Int) (i : Nat) (v : Int) (h : i < l.length), (l.set i v).sum = l.sum - l[i] + v
  | a :: l, 0, v, h => by simp; omega
  | a :: l, i + 1, v, h => by
    have := sum_set l i v (by simpa using h)
    simp only [List.set_cons_succ, List.sum_cons, this, List.getElem_cons_succ]; omega
  | [], i, v, h => by simp at h
theorem cnt_sum {X : List Int} {n : Nat} (hX : ∀ x ∈ X, 0 ≤ x ∧ x < n) : ∀ k, k ≤ X.length → (cnt X n k).sum = k
  | 0, _ => by rw [cnt_zero]; simp
  | k + 1, h => by
    have hx := hX _ (nth_mem (p := X) (x := k) (by omega) (by omega))
    rw [← cnt_step (by omega) hx.1 hx.2, sum_set _ _ _ (by simp; omega), cnt_sum hX k (by omega)]
    have := nth_nat (cnt X n k) (nth X k).toNat (by simp; omega)
    rw [show (((nth X k).toNat : Nat) : Int) = nth X k by omega] at this
    rw [this]; omega
theorem cyL_sum {p : List Int} (hs : SysOk p.length [p]) : (cyL p).sum = p.length := by
  have h1 := sum_perm (csort_perm (cyM_range p))
  rw [csort_cyc, List.sum_append] at h1
  have h2 : (List.replicate ((cyM p).count 0) (0 : Int)).sum = 0 := by simp
  have h3 : (cyM p).sum = p.length := cnt_sum (fun x hx => orbL_mem hs hx) p.length (by rw [orbL_len]; exact Nat.le_refl _)
  unfold cyL; omega
theorem inv_then {p q : List Int} (hp : Permuted p) (hq : Permuted q) (hl : q.length = p.length) (hpq : Permuted (thenL p q)) : invL (thenL p q) = thenL (invL q) (invL p) := by
  apply ext_nth (by simp; omega)
  intro k hk
  simp at hk
  obtain ⟨x, x0, x1, e⟩ := ex_pre hpq (y := (k : Int)) (by omega) (by simpa using hk)
  simp at x1
  have hx := perm_lt hp x0 x1
  rw [nth_thenL _ _ _ (by omega) (by simp; omega), ← e, nth_invL hpq x0 (by simpa using x1), nth_thenL _ _ _ x0 x1, nth_invL hq hx.1 (by omega), nth_invL hp x0 x1]
theorem then_perm {p q : List Int} (hp : Permuted p) (hq : Permuted q) (hl : q.length = p.length) : Permuted (thenL p q) := by
  rw [permuted_iff]
  intro x x0 x1
  rw [thenL_length] at x1
  obtain ⟨y, y0, y1, e⟩ := ex_pre hq (y := x) x0 (by omega)
  obtain ⟨z, z0, z1, e2⟩ := ex_pre hp (y := y) y0 (by omega)
  rw [← e, ← e2, ← nth_thenL p q z z0 z1]
  exact nth_mem z0 (by simpa using z1)
end Go.Proofs.Ytkcobfkmeaakoaa

namespace Go.Proofs.Ytkcobfkmeaakoaa
open Go.RowKit

theorem ren_val {t : List (List Int)} {p : List Int} {x y : Int} (hx0 : 0 ≤ x) (hx : x < t.length) (hy0 : 0 ≤ y) (hy : y < t.length) : val2 (renL t p) x y = nth p (val2 t (nth (invL p) x) (nth (invL p) y)) := val2_tabOf' hx0 hx hy0 hy
theorem ren_then {t : List (List Int)} {p q : List Int} (h : RenOk t p) (hq : Permuted q) (hl : q.length = t.length) : renL (renL t p) q = renL t (thenL p q) := by
  obtain ⟨ht, hp, hpl⟩ := h
  have hpq := then_perm hp hq (by omega)
  unfold renL
  rw [tabOf_length]
  refine tabOf_congr fun x y hx hy => ?_
  have a := invL_lt hq (y := x) (by omega) (by omega)
  have b := invL_lt hq (y := y) (by omega) (by omega)
  have c := invL_lt hp (y := nth (invL q) x) a.1 (by omega)
  have d := invL_lt hp (y := nth (invL q) y) b.1 (by omega)
  have e := val2_lt ht (x := nth (invL p) (nth (invL q) x)) (y := nth (invL p) (nth (invL q) y)) c.1 (by omega) d.1 (by omega)
  have hA : nth (thenL (invL q) (invL p)) x = nth (invL p) (nth (invL q) x) := nth_thenL _ _ _ (by omega) (by rw [invL_length]; omega)
  have hB : nth (thenL (invL q) (invL p)) y = nth (invL p) (nth (invL q) y) := nth_thenL _ _ _ (by omega) (by rw [invL_length]; omega)
  rw [val2_tabOf' a.1 (by omega) b.1 (by omega), inv_then hp hq (by omega) hpq, hA, hB]
  exact (nth_thenL p q _ e.1 (by omega)).symm
theorem ren_one {t : List (List Int)} (ht : isTab t = true) : renL t (iota t.length) = t := by
  have hi : ∀ x : Int, 0 ≤ x → x < t.length → nth (invL (iota t.length)) x = x := fun x h0 h1 => by
    have h := nth_invL (permuted_iota t.length) (x := x) h0 (by simpa using h1)
    rwa [nth_iota _ _ h0 h1] at h
  conv => rhs; rw [← tabOf_val2 ht]
  unfold renL
  refine tabOf_congr fun x y hx hy => ?_
  rw [hi _ (by omega) (by omega), hi _ (by omega) (by omega)]
  have e := val2_lt ht (x := (x : Int)) (y := (y : Int)) (by omega) (by omega) (by omega) (by omega)
  rw [nth_iota _ _ e.1 e.2]
theorem renOk_ren {t : List (List Int)} {p : List Int} (h : RenOk t p) {q : List Int} (hq : Permuted q) (hl : q.length = t.length) : RenOk (renL t p) q := ⟨isTab_renL h, hq, by rw [renL_length]; exact hl⟩

theorem lexR_le_trans {a b c : List (List Int)} (h1 : lexR b a = false) (h2 : lexR c b = false) : lexR c a = false := by
  cases e : lexR c a with
  | false => rfl
  | true =>
    by_cases hab : a = b
    · subst hab; rw [e] at h2; cases h2
    · have h3 := lexR_total (a := b) (b := a) (fun h => hab h.symm) h1
      rw [lexR_trans e h3] at h2; cases h2
theorem bestR_le (f : List Int → List (List Int)) : ∀ (X : List (List Int)) (ps : List (List Int)), lexR X (bestR f X ps) = false ∧ ∀ p ∈ ps, lexR (f p) (bestR f X ps) = false
  | X, [] => ⟨lexR_irrefl X, by simp⟩
  | X, p :: ps => by
    unfold bestR
    obtain ⟨h1, h2⟩ := bestR_le f (if lexR (f p) X then f p else X) ps
    have hX : lexR X (if lexR (f p) X then f p else X) = false := by
      split
      · rename_i h; exact lexR_asymm h
      · exact lexR_irrefl X
    have hp : lexR (f p) (if lexR (f p) X then f p else X) = false := by
      split
      · exact lexR_irrefl _
      · rename_i h; simpa using h
    refine ⟨lexR_le_trans h1 hX, fun q hq => ?_⟩
    rcases List.mem_cons.1 hq with rfl | hq
    · exact lexR_le_trans h1 hp
    · exact h2 q hq
def lsT' (t : List (List Int)) : List (List Int) := bestR (renL t) t (allPerms t.length)
theorem lsT_is {t : List (List Int)} (ht : isTab t = true) : (∃ q, Permuted q ∧ q.length = t.length ∧ lsT' t = renL t q) ∧ ∀ q, Permuted q → q.length = t.length → lexR (renL t q) (lsT' t) = false := by
  refine ⟨?_, fun q hq hl => (bestR_le (renL t) t (allPerms t.length)).2 q (mem_allPerms.2 ⟨hq, hl⟩)⟩
  rcases bestR_mem (renL t) t (allPerms t.length) with h | ⟨q, hq, h⟩
  · exact ⟨iota t.length, permuted_iota _, by simp, by rw [ren_one ht]; exact h⟩
  · obtain ⟨a, b⟩ := mem_allPerms.1 hq
    exact ⟨q, a, b, h⟩
theorem perm_inv {p : List Int} (hp : Permuted p) : Permuted (invL p) := by
  rw [permuted_iff]
  intro x x0 x1
  rw [invL_length] at x1
  have := perm_lt hp x0 x1
  rw [← nth_invL hp x0 x1]
  exact nth_mem this.1 (by rw [invL_length]; exact this.2)
/-- Renamed tables have the same least form. -/
theorem lsT_ren {t : List (List Int)} {p : List Int} (h : RenOk t p) : lsT' (renL t p) = lsT' t := by
  obtain ⟨ht, hp, hpl⟩ := h
  have h : RenOk t p := ⟨ht, hp, hpl⟩
  obtain ⟨⟨q1, a1, b1, e1⟩, m1⟩ := lsT_is ht
  obtain ⟨⟨q2, a2, b2, e2⟩, m2⟩ := lsT_is (isTab_renL h)
  rw [renL_length] at b2 m2
  -- each is among the other's
  have f2 : lsT' (renL t p) = renL t (thenL p q2) := by rw [e2, ren_then h a2 b2]
  have hip := perm_inv hp
  have hback : thenL p (thenL (invL p) q1) = q1 := by
    apply ext_nth (by simp; omega)
    intro k hk
    simp at hk
    rw [nth_thenL _ _ _ (by omega) (by omega), nth_thenL _ _ _ (perm_lt hp (by omega) (by omega)).1 (by rw [invL_length]; exact (perm_lt hp (by omega) (by omega)).2), nth_invL hp (by omega) (by omega)]
  have f1 : lsT' t = renL (renL t p) (thenL (invL p) q1) := by
    rw [ren_then h (then_perm hip a1 (by simp; omega)) (by simp; omega), hback, e1]
  have g1 := m1 (thenL p q2) (then_perm hp a2 (by omega)) (by simp; omega)
  have g2 := m2 (thenL (invL p) q1) (then_perm hip a1 (by simp; omega)) (by simp; omega)
  rw [← f2] at g1
  rw [← f1] at g2
  apply Classical.byContradiction
  intro hne
  rw [lexR_total hne g1] at g2
  cases g2

theorem row_renL {t : List (List Int)} {p : List Int} (h : RenOk t p) {x : Nat} (hx : x < t.length) : row (renL t p) x = thenL (thenL (invL p) (row t (nth (invL p) x))) p := by
  obtain ⟨ht, hp, hpl⟩ := h
  have hix := invL_lt hp (y := (x : Int)) (by omega) (by omega)
  have hrl := isTab_row ht hix.1 (by omega)
  have hrr := isTab_row (isTab_renL (t := t) (p := p) ⟨ht, hp, hpl⟩) (x := (x : Int)) (by omega) (by simp; omega)
  rw [renL_length] at hrr
  apply ext_nth (by simp; omega)
  intro y hy
  have hy' : y < t.length := by omega
  have hiy := invL_lt hp (y := (y : Int)) (by omega) (by omega)
  have hv := val2_lt ht (x := nth (invL p) x) (y := nth (invL p) y) hix.1 (by omega) hiy.1 (by omega)
  have e1 : nth (row (renL t p) x) y = nth p (val2 t (nth (invL p) x) (nth (invL p) y)) := ren_val (by omega) (by omega) (by omega) (by omega)
  rw [e1, nth_thenL _ _ _ (by omega) (by simp; omega), nth_thenL _ _ _ (by omega) (by simp; omega)]
  rfl
theorem permRows_iff {t : List (List Int)} (ht : isTab t = true) : permRows t = true ↔ ∀ x : Nat, x < t.length → Permuted (row t x) := by
  obtain ⟨h1, h2⟩ := isTab_len ht
  unfold permRows
  rw [List.all_eq_true]
  constructor
  · intro h x hx
    have := h _ (row_mem (t := t) (x := (x : Int)) (by omega) (by omega))
    exact (isPerm_parts this).2.2
  · intro h r hr
    obtain ⟨x, hx, rfl⟩ := List.getElem_of_mem hr
    have hp := h x hx
    have hl := isTab_row ht (x := (x : Int)) (by omega) (by omega)
    rw [row_nat _ _ hx] at hp hl
    simp [isPerm, inR, hp]
    omega
/-- Renaming keeps 'all rows are permutations'. -/
theorem permRows_ren {t : List (List Int)} {p : List Int} (h : RenOk t p) (hr : permRows t = true) : permRows (renL t p) = true := by
  obtain ⟨ht, hp, hpl⟩ := h
  have h : RenOk t p := ⟨ht, hp, hpl⟩
  rw [permRows_iff (isTab_renL h)]
  rw [permRows_iff ht] at hr
  intro x hx
  rw [renL_length] at hx
  have hix := invL_lt hp (y := (x : Int)) (by omega) (by omega)
  have hrow := hr (nth (invL p) x).toNat (by omega)
  rw [show (((nth (invL p) x).toNat : Nat) : Int) = nth (invL p) x by omega] at hrow
  have hrl := isTab_row ht hix.1 (by omega)
  rw [row_renL h hx]
  have h1 := then_perm (perm_inv hp) hrow (by simp; omega)
  exact then_perm h1 hp (by first | (simp; omega) | simp [hpl] | omega)
theorem trans_ren {t : List (List Int)} {p : List Int} (h : RenOk t p) : transL (renL t p) = renL (transL t) p := by
  obtain ⟨ht, hp, hpl⟩ := h
  unfold transL
  rw [renL_length]
  unfold renL
  rw [tabOf_length]
  refine tabOf_congr fun x y hx hy => ?_
  have a := invL_lt hp (y := (x : Int)) (by omega) (by omega)
  have b := invL_lt hp (y := (y : Int)) (by omega) (by omega)
  rw [val2_tabOf' (by omega) (by omega) (by omega) (by omega), val2_tabOf' a.1 (by omega) b.1 (by omega)]
theorem ren_back {t : List (List Int)} {p : List Int} (h : RenOk t p) : renL (renL t p) (invL p) = t := by
  obtain ⟨ht, hp, hpl⟩ := h
  have h : RenOk t p := ⟨ht, hp, hpl⟩
  rw [ren_then h (perm_inv hp) (by simp; omega), then_back hp, hpl, ren_one ht]
theorem permRows_ren_iff {t : List (List Int)} {p : List Int} (h : RenOk t p) : permRows (renL t p) = permRows t := by
  rw [Bool.eq_iff_iff]
  constructor
  · intro hr
    have h2 := permRows_ren (renOk_ren h (perm_inv h.2.1) (by have := h.2.2; simp; omega)) hr
    rwa [ren_back h] at h2
  · exact permRows_ren h
/-- Renaming keeps latin tables and tables with permutations as rows. -/
theorem lat_ren {t : List (List Int)} {p : List Int} (h : RenOk t p) : latRes (renL t p) = latRes t := by
  have h2 : RenOk (transL t) p := ⟨isTab_transL h.1, h.2.1, by simp; exact h.2.2⟩
  unfold latRes
  rw [if_pos (isTab_renL h), if_pos h.1, permRows_ren_iff h, trans_ren h, permRows_ren_iff h2]
theorem trans_trans {t : List (List Int)} (ht : isTab t = true) : transL (transL t) = t := by
  conv => rhs; rw [← tabOf_val2 ht]
  unfold transL
  rw [tabOf_length]
  refine tabOf_congr fun x y hx hy => ?_
  exact val2_tabOf' (by omega) (by omega) (by omega) (by omega)
end Go.Proofs.Ytkcobfkmeaakoaa

namespace Go.Proofs.Ytkcobfkmeaakoaa
open Go.RowKit

theorem eql_nilC (W : World) (a : Option Addr) (n c : Nat) : (binOp .eql 25 (.slice a n c) (.slice none 0 0)).run Try.prog W = .ok (.bool a.isNone) W := Lib.run_eql_slice_nil W _ _ a n c 0 0 Try.underlying25

set_option maxHeartbeats 800000 in
theorem c_Clone (v : Value) (xs : List Int) (w : World) (hx : Ints w v xs) (hn : xs.length ≤ 1048576) :
    Calls Try.prog 137 #[v] w (RInts w xs) := by
  obtain ⟨a, c, rfl, hc, hm, hcell⟩ := hx
  have hnl := eql_nilC
  cases a with
  | none =>
    have hl : xs = [] := by
      rcases Nat.eq_zero_or_pos xs.length with h | h
      · exact List.eq_nil_of_length_eq_zero h
      · obtain ⟨_, _, h1, _⟩ := hcell 0 h; cases h1
    subst hl
    go_enter Try.func137, Try.ntmps137
    go_wp2
    go_ret
    exact ⟨_, rfl, Own.nil _ _, Below.refl _ _⟩
  | some ad =>
    have h0 : Hid (Own w.heap.size (w.alloc (.cells #[] 2)) (.slice (some ⟨w.heap.size, 0, none⟩) 0 0) []) := Lib.hid (Own.made0 w (Nat.le_refl _))
    have hb0 : Hid (Below w.heap.size w (w.alloc (.cells #[] 2))) := Lib.hid ((Below.refl _ _).alloc (Nat.le_refl _) _)
    have hnews : Hid (∀ j u, (xs.map (Value.int .i64))[j]? = some u → (w.alloc (.cells #[] 2)).cell? (ad.add j) = some u) := by
      intro j u hj
      obtain ⟨hj1, rfl⟩ := List.getElem?_eq_some_iff.1 hj
      obtain ⟨b, o, h1, h2⟩ := hcell j (by simpa using hj1)
      cases h1
      have e : Addr.add ⟨b, o, none⟩ j = ⟨b, o + j, none⟩ := by simp [Addr.add]
      rw [e]
      simpa using cell_under hb0.out h2
    have hlen : (xs.map (Value.int .i64)).length = xs.length := by simp
    have HC := Lib.hid hcell; clear hcell
    have HLn := Lib.hid hlen; clear hlen
    go_enter Try.func137, Try.ntmps137
    obtain ⟨i0, hi, hz0, hz1, hz2⟩ := info_parts inf_int64
    have HInf := Lib.hid (And.intro hi (And.intro hz0 (And.intro hz1 hz2)))
    clear hi hz0 hz1 hz2
    have hxl : Hid (0 + xs.length ≤ maxLen) := by show _ ≤ _; unfold maxLen; omega
    have hxb : Hid ((0 + xs.length) * 8 ≤ 140737488355328) := by show _ ≤ _; omega
    have hone : Hid (∀ u ∈ xs.map (Value.int .i64), u.oneCell' = true) := by
      intro u hu
      obtain ⟨x, _, rfl⟩ := List.mem_map.1 hu
      rfl
    go_wp2_with (at_builtin; go_must (refine wpList_append_own _ rfl _ _ 25 rfl w.heap.size 2 i0 (.int .i64 0) 1 8 Try.underlying25 HInf.out.1 HInf.out.2.1 HInf.out.2.2.1 HInf.out.2.2.2 rfl (by decide) (.slice (some ⟨w.heap.size, 0, none⟩) 0 0) 0 [] rfl h0.out ad xs.length c (xs.map (Value.int .i64)) rfl (by simp) hnews.out hone.out hxl.out hxb.out hb0.out.size ?_); intro v' w' hown' hg hnil; have HO := Lib.hid hown'; have HG := Lib.hid hg; clear hown' hg hnil)
    go_ret
    refine ⟨_, rfl, ?_, ?_⟩
    · have := HO.out
      simpa [Own] using this
    · refine hb0.out.trans ((Keep.of_grown HG.out).below fun k hk => ⟨Nat.lt_of_lt_of_le hk hb0.out.size, fun e => ?_⟩)
      have e' : w.heap.size = k := by simpa [Value.ownBlock] using e
      omega
end Go.Proofs.Ytkcobfkmeaakoaa

namespace Go.Proofs.Ytkcobfkmeaakoaa
open Go.RowKit

set_option maxHeartbeats 1600000 in
theorem c_cloneTable (v : Value) (t : List (List Int)) (w : World) (hx : Rows w v t) (hn : t.length ≤ 1048576) (hr : ∀ r ∈ t, r.length ≤ 1048576) :
    Calls Try.prog 91 #[v] w (RRows w t) := by
  obtain ⟨a, c, rfl, hc, hm⟩ := hx.shape
  have hmk := run_make_row' (P := Try.prog) 22 25 (.slice none 0 0) 24 Try.underlying22 inf_ints rfl .i64 .i64 t.length (by omega) (by omega)
  have HR := Lib.hid hr; clear hr
  have hB0 : Hid (Below w.heap.size w (w.alloc (.cells (madeCells #[.slice none 0 0] t.length) 25))) := Lib.hid ((Below.refl _ _).alloc (Nat.le_refl _) _)
  have hK0 : Hid (Blk (w.alloc (.cells (madeCells #[.slice none 0 0] t.length) 25)) w.heap.size 25 ([] ++ (List.replicate t.length (Value.slice none 0 0)).drop 0)) := by
    show Blk _ _ _ _
    simpa using Blk.made w (.slice none 0 0) t.length 25
  go_enter Try.func91, Try.ntmps91
  go_wp2
  clear hmk
  go_loopw [11, 4, 5] (fun i _ _ wr => ∃ (k : Nat) (us : List Value), k ≤ t.length ∧ i = .int .i64 k ∧ Hid (Below w.heap.size w wr) ∧ Hid (Blk wr w.heap.size 25 (us ++ (List.replicate t.length (Value.slice none 0 0)).drop k)) ∧ Hid (RowVals w.heap.size wr us (t.take k))) (fun i _ _ _ => t.length - (intOf i).toNat)
  case atStart => exact ⟨0, [], Nat.zero_le _, rfl, hB0, hK0, Lib.hid (RowVals.nil _ _)⟩
  case round =>
    clear hB0 hK0
    obtain ⟨k, us, hk, rfl, HB, HBk, HV⟩ := hrel
    obtain ⟨wo, rfl⟩ : ∃ wo : World, wo = wr := ⟨_, rfl⟩
    have hul : us.length = k := by rw [HV.out.len]; simp; omega
    by_cases hlt : k < t.length
    · obtain ⟨b, o, ra, rc, rfl, hcell, hu⟩ := (hx.below HB.out).getS k hlt
      have hrl : (row t k).length ≤ 1048576 := HR.out _ (row_mem (by omega) (by omega))
      have HU := Lib.hid hu; have HUl := Lib.hid hul
      clear hu hul
      go_wp2_with fail
      refine (c_Clone _ _ _ HU.out hrl).mono ?_; rintro e w1 ⟨r1, rfl, ho1, hb1⟩
      obtain ⟨x1, y1, hv1, _⟩ := ho1.shape
      subst hv1
      have hbk1 := HBk.out.under hb1
      obtain ⟨z, h2⟩ := fill_cell0 hbk1 (k := k) (by have := HUl.out; simp; omega)
      have h3 := hbk1.frozen k
      have hset := hbk1.set k (.slice x1 (row t k).length y1)
      rw [vals_set0 _ _ _ _ _ HUl.out hlt] at hset
      have hV1 := HV.out.snoc hb1 ho1 (Nat.le_trans (Below.size HB.out) (Nat.le_refl _))
      have hV2 := hV1.store hbk1 (by decide) k (.slice x1 (row t k).length y1)
      have HB1 := Lib.hid ((bb HB.out hb1).setCell (p := ⟨w.heap.size, k, none⟩) (Nat.le_refl _) (.slice x1 (row t k).length y1))
      have HS := Lib.hid hset; have HV2 := Lib.hid hV2
      clear hb1 hbk1 hset hV1 hV2 hcell ho1
      go_wp2
      go_roundw
      case rel =>
        refine ⟨k + 1, us ++ [.slice x1 (row t k).length y1], by omega, by go_num, HB1, HS, ?_⟩
        rw [take_snoc_row _ _ hlt]; exact HV2
      case measure => simp [intOf]; omega
    · obtain rfl : k = t.length := by omega
      have hv := HV.out
      rw [List.take_of_length_le (Nat.le_refl _)] at hv
      have hkk := HBk.out
      rw [List.drop_of_length_le (by simp), List.append_nil] at hkk
      have H1 := Lib.hid hv; have H2 := Lib.hid hkk; have HUl := Lib.hid hul
      clear hv hkk hul
      go_wp2
      go_ret
      exact ⟨_, rfl, ⟨us, ownsRow_blk H2.out (Nat.le_refl _) HUl.out.symm HUl.out.symm (by rw [HUl.out]; unfold maxLen; omega), H1.out⟩, HB.out⟩

set_option maxHeartbeats 1600000 in
theorem c_l01Own2 (v : Value) (t : List (List Int)) (w : World) (hx : Rows w v t) (hn : t.length ≤ 1048576) (hr : ∀ r ∈ t, r.length ≤ 1048576) :
    Calls Try.prog 114 #[v] w (RRows w t) := by
  obtain ⟨a, c, rfl, hc, hm⟩ := hx.shape
  have HR := Lib.hid hr; clear hr
  go_enter Try.func114, Try.ntmps114
  go_wp2
  go_loopw [3, 4] (fun s i wr => ∃ (k : Nat) (sa : Option Addr) (sc : Nat), k ≤ t.length ∧ i = .int .i64 k ∧ s = .slice sa k sc ∧ Below w.heap.size w wr ∧ OwnRows w.heap.size wr (.slice sa k sc) (t.take k)) (fun _ i _ => t.length - (intOf i).toNat)
  case atStart => exact ⟨0, _, _, Nat.zero_le _, rfl, rfl, (Below.refl _ _).alloc (Nat.le_refl _) _, OwnRows.made0 w (Nat.le_refl _)⟩
  case round =>
    obtain ⟨k, sa, sc, hk, rfl, rfl, hb, hown⟩ := hrel
    have hlen : (t.take k).length = k := by simp; omega
    by_cases hlt : k < t.length
    · obtain ⟨b, o, ra, rc, rfl, hcell, hu⟩ := (hx.below hb).getS k hlt
      have hrl : (row t k).length ≤ 1048576 := HR.out _ (row_mem (by omega) (by omega))
      have Hb := Lib.hid hb; have Ho := Lib.hid hown; have Hl := Lib.hid hlen; have Hs := Lib.hid hb.size; have HU := Lib.hid hu; clear hb hown hlen hu
      obtain ⟨wo, rfl⟩ : ∃ wo : World, wo = wr := ⟨_, rfl⟩
      go_wp2_with fail
      refine (c_l01Own _ _ _ HU.out hrl).mono ?_; rintro e w1 ⟨r, rfl, hor, hb1⟩
      obtain ⟨qa, qc, hqv, _⟩ := hor.shape
      subst hqv
      have HRr := Lib.hid hor; have HB1 := Lib.hid hb1; clear hor hb1 hcell
      go_wp2_with (at_builtin; refine wpList_app_row w.heap.size wo w1 _ (t.take k) _ (row t k) _ _ rfl rfl rfl Ho.out HB1.out HRr.out rfl (by rw [Hl.out]; omega) Hs.out ?_; intro a' c' w' hown' hkeep; rw [Hl.out]; have Hk := Lib.hid hkeep; have Ho' := Lib.hid hown'; clear hkeep hown')
      go_roundw
      case rel =>
        have h1 := Ho'.out
        rw [Hl.out, ← take_snoc_row _ _ hlt] at h1
        exact ⟨k + 1, a', c', by omega, by go_num, rfl, OwnRows.frame Ho.out (bb Hb.out HB1.out) (Nat.le_refl _) (Nat.le_trans Hs.out HB1.out.size) Hk.out, h1⟩
      case measure => simp [intOf]; omega
    · have Hb := Lib.hid hb; have Ho := Lib.hid hown; clear hb hown hlen
      obtain rfl : k = t.length := by omega
      go_wp2
      go_ret
      exact ⟨_, rfl, by have := Ho.out; rwa [List.take_of_length_le (Nat.le_refl _)] at this, Hb.out⟩

set_option maxHeartbeats 1600000 in
theorem c_l01Less2 (v1 v2 : Value) (xs ys : List (List Int)) (w : World) (hx : Rows w v1 xs) (hy : Rows w v2 ys) :
    Calls Try.prog 116 #[v1, v2] w (RVal w (.bool (lexR xs ys))) := by
  obtain ⟨a, c, rfl, hc, hm⟩ := hx.shape
  obtain ⟨a2, c2, rfl, hc2, hm2⟩ := hy.shape
  go_enter Try.func116, Try.ntmps116
  go_wp2
  go_loopw [5] (fun i wr => ∃ k : Nat, k ≤ xs.length ∧ k ≤ ys.length ∧ i = .int .i64 k ∧ Hid (Below w.heap.size w wr) ∧ Hid (xs.take k = ys.take k)) (fun i _ => xs.length - (intOf i).toNat)
  case atStart => exact ⟨0, Nat.zero_le _, Nat.zero_le _, rfl, Lib.hid (Below.refl _ _), Lib.hid rfl⟩
  case round =>
    obtain ⟨k, hk, hk2, rfl, HB, HE⟩ := hrel
    obtain ⟨wo, rfl⟩ : ∃ wo : World, wo = wr := ⟨_, rfl⟩
    by_cases hlt : k < xs.length
    · by_cases hlt2 : k < ys.length
      · obtain ⟨b, o, ra, rc, rfl, hcell, hu⟩ := (hx.below HB.out).getS k hlt
        obtain ⟨b2, o2, ra2, rc2, rfl, hcell2, hu2⟩ := (hy.below HB.out).getS k hlt2
        have HU := Lib.hid hu; have HU2 := Lib.hid hu2; clear hu hu2
        have hk0 : (0 : Int) ≤ k := by omega
        have hk1 : (k : Int) < xs.length := by omega
        have hkk : (k : Int) < ys.length := by omega
        have HCs : Hid (∀ w' : World, Below wo.heap.size wo w' → w'.cell? ⟨b, o + k, none⟩ = some (.slice ra (row xs k).length rc) ∧ w'.cell? ⟨b2, o2 + k, none⟩ = some (.slice ra2 (row ys k).length rc2)) := Lib.hid (fun w' hb => ⟨cell_under hb hcell, cell_under hb hcell2⟩)
        by_cases he : row xs k = row ys k
        · have hd : decide (row xs k = row ys k) = true := by simp [he]
          have HV := Lib.hid he; clear he
          go_wp2
          go_region_held3 (fun w' => w'.cell? ⟨b, o + k, none⟩ = some (.slice ra (row xs k).length rc) ∧ w'.cell? ⟨b2, o2 + k, none⟩ = some (.slice ra2 (row ys k).length rc2)) (first | go_keep | exact HCs.out _ (Below.refl _ _).drew | exact HCs.out _ HX.out)
            ((go_at_call 102; (with_reducible refine (c_l01Same _ _ _ _ _ (HU.out.below (Below.refl _ _).drew) (HU2.out.below (Below.refl _ _).drew)).mono ?_); rintro e w1 hh; obtain ⟨rfl, hb1⟩ := hh.r; have HX := Lib.hid (bb (Below.refl wo.heap.size wo).drew hb1); have HB1 := Lib.hid (bb HB.out HX.out); clear hb1 hh))
          go_wp2
          go_roundw
          case rel => exact ⟨k + 1, by omega, by omega, by go_num, HB1, Lib.hid (take_succ_eqR hlt hlt2 HE.out HV.out)⟩
          case measure => simp [intOf]; omega
        · have hd : decide (row xs k = row ys k) = false := by simp [he]
          have HR : Hid (lexB (row xs k) (row ys k) = lexR xs ys) := Lib.hid (lexR_at hlt hlt2 HE.out he).symm
          clear he
          go_wp2
          go_region_held3 (fun w' => w'.cell? ⟨b, o + k, none⟩ = some (.slice ra (row xs k).length rc) ∧ w'.cell? ⟨b2, o2 + k, none⟩ = some (.slice ra2 (row ys k).length rc2)) (first | go_keep | exact HCs.out _ (Below.refl _ _).drew | exact HCs.out _ HX.out)
            ((go_at_call 102; (with_reducible refine (c_l01Same _ _ _ _ _ (HU.out.below (Below.refl _ _).drew) (HU2.out.below (Below.refl _ _).drew)).mono ?_); rintro e w1 hh; obtain ⟨rfl, hb1⟩ := hh.r; have HX := Lib.hid (bb (Below.refl wo.heap.size wo).drew hb1); have HB1 := Lib.hid (bb HB.out HX.out); clear hb1 hh))
          have hcc := HCs.out _ HX.out
          obtain ⟨hcell3, hcell4⟩ := hcc
          go_wp2
          go_region_held3 (fun w' => w'.cell? ⟨b, o + k, none⟩ = some (.slice ra (row xs k).length rc) ∧ w'.cell? ⟨b2, o2 + k, none⟩ = some (.slice ra2 (row ys k).length rc2)) (first | go_keep | exact HCs.out _ (bb HX.out (Below.refl _ _).drew) | exact HCs.out _ HX2.out)
            ((go_at_call 159; (with_reducible refine (c_l01Less _ _ _ _ _ (HU.out.below (bb HX.out (Below.refl _ _).drew)) (HU2.out.below (bb HX.out (Below.refl _ _).drew))).mono ?_); rintro e w2 ⟨rfl, nq, rfl⟩; have HX2 := Lib.hid (bb (bb HX.out (Below.refl w1.heap.size w1).drew) (below_drewN (Below.refl _ _) nq)); have HB2 := Lib.hid (bb HB.out HX2.out)))
          go_wp2
          go_ret
          exact ⟨ret_bool HR.out, below_drewN (bb HB.out HX.out) _⟩
      · obtain rfl : k = ys.length := by omega
        have HR : Hid (decide (xs.length < ys.length) = lexR xs ys) := by
          show _ = _
          have := HE.out
          rw [List.take_length] at this
          rw [lexR_pre (this.trans (List.take_of_length_le (by omega)).symm)]
        go_wp2
        go_ret
        exact ⟨ret_bool HR.out, HB.out⟩
    · obtain rfl : k = xs.length := by omega
      have HR : Hid (decide (xs.length < ys.length) = lexR xs ys) := by
        show _ = _
        have := HE.out
        rw [List.take_length] at this
        rw [lexR_pre ((List.take_of_length_le hk2).trans this)]
      go_wp2
      go_ret
      exact ⟨ret_bool HR.out, HB.out⟩
end Go.Proofs.Ytkcobfkmeaakoaa

namespace Go.Proofs.Ytkcobfkmeaakoaa
open Go.RowKit

theorem Own.keepN {B : Nat} {S : Nat → Prop} {w w' : World} {v : Value} {xs : List Int} (h : Own B w v xs) (k : Keep S w w') (hs : ∀ b, v.ownBlock = some b → ¬ S b) : Own B w' v xs := by
  obtain ⟨hl, h | ⟨g, cap, cur, hv, hb, hg, r⟩⟩ := h
  · exact ⟨hl, .inl h⟩
  · exact ⟨hl, .inr ⟨g, cap, cur, hv, hb, by rw [k.block g (Array.getElem?_eq_some_iff.1 hg).1 (hs g (by rw [hv]; rfl))]; exact hg, r⟩⟩

/-- Two tables in the variable at block q; all of them below m. -/
structure Out2 (lo m q : Nat) (w : World) (va vb : Value) (A B : List (List Int)) : Prop where
  ql : q < lo
  lm : lo ≤ m
  mw : m ≤ w.heap.size
  blk : Blk w q 27 [va, vb]
  a : OwnRowsIn lo m w va A
  b : OwnRowsIn lo m w vb B
  ne : ∀ k, va.ownBlock = some k → vb.ownBlock ≠ some k
/-- .. the first of them has grown. -/
structure Out2h (lo m q : Nat) (w : World) (va vb : Value) (A B : List (List Int)) : Prop where
  ql : q < lo
  lm : lo ≤ m
  mw : m ≤ w.heap.size
  blk : Blk w q 27 [va, vb]
  a : OwnRows lo w va A
  b : OwnRowsIn lo m w vb B
  ne : ∀ k, va.ownBlock = some k → vb.ownBlock ≠ some k

theorem OwnRowsIn.ltv {lo m : Nat} {w : World} {v : Value} {A : List (List Int)} (h : OwnRowsIn lo m w v A) {k : Nat} (hk : v.ownBlock = some k) : lo ≤ k ∧ k < m ∧ k < w.heap.size := by
  obtain ⟨us, h1, h2, h3, h4⟩ := h
  have := World.ownsRow.lt h1 k hk
  exact ⟨this.1, h3 k hk, this.2⟩

theorem Out2.under {lo m q : Nat} {w w' : World} {va vb : Value} {A B : List (List Int)} (h : Out2 lo m q w va vb A B) (hb : Below w.heap.size w w') : Out2 lo m q w' va vb A B :=
  ⟨h.ql, h.lm, Nat.le_trans h.mw hb.size, h.blk.under hb, h.a.under hb, h.b.under hb, h.ne⟩
theorem Out2.start {lo q : Nat} {w : World} (hq : q < lo) (hl : lo ≤ w.heap.size) (hb : Blk w q 27 [.slice none 0 0, .slice none 0 0]) : Out2 lo w.heap.size q w (.slice none 0 0) (.slice none 0 0) [] [] :=
  ⟨hq, hl, Nat.le_refl _, hb, OwnRowsIn.nil0 _ _ _, OwnRowsIn.nil0 _ _ _, by intro k hk; cases hk⟩

/-- 'out.First = append(out.First, first)'. -/
theorem Out2.app1 {lo m q : Nat} {w w' : World} {va vb : Value} {A B : List (List Int)} {xs : List Int} {g l c : Nat} (h : Out2 lo m q w va vb A B) (ho : OwnRows lo w' (.slice (some ⟨g, 0, none⟩) l c) (A ++ [xs]))
    (hk : Keep (fun b => va.ownBlock = some b) w w') (hg : va.ownBlock = some g ∨ w.heap.size ≤ g) :
    Out2h lo m q (w'.setCell ⟨q, 0, none⟩ (.slice (some ⟨g, 0, none⟩) l c)) (.slice (some ⟨g, 0, none⟩) l c) vb (A ++ [xs]) B := by
  have hq := h.ql; have hl := h.lm; have hm := h.mw
  have hsz := hk.size
  have hva : ∀ b, va.ownBlock = some b → lo ≤ b ∧ b < m := fun b e => ⟨(h.a.ltv e).1, (h.a.ltv e).2.1⟩
  have hvb : ∀ b, vb.ownBlock = some b → lo ≤ b ∧ b < m := fun b e => ⟨(h.b.ltv e).1, (h.b.ltv e).2.1⟩
  have hblk := h.blk.of_block (hk.block _ h.blk.lt (fun e => by have := hva _ e; omega))
  refine ⟨hq, hl, by simp [World.setCell]; omega, hblk.set 0 _, ?_, ?_, ?_⟩
  · exact ho.keep (keep1 w' q 0 _) (fun b h1 _ h3 => by have h3 : b = q := h3; omega)
  · have h1 := h.b.keepT (h.a.out) (fun b e1 e2 => h.ne b e2 e1) hk
    exact h1.keep (keep1 w' q 0 _) (fun b h1 _ h3 => by have h3 : b = q := h3; omega)
  · intro k e e2
    simp [Value.ownBlock] at e
    subst e
    rcases hg with hg | hg
    · exact h.ne _ hg e2
    · have := hvb _ e2; omega
/-- 'out.Second = append(out.Second, second)'. -/
theorem Out2h.app2 {lo m q : Nat} {w w' : World} {va vb : Value} {A B : List (List Int)} {xs : List Int} {g l c : Nat} (h : Out2h lo m q w va vb A B) (ho : OwnRows lo w' (.slice (some ⟨g, 0, none⟩) l c) (B ++ [xs]))
    (hk : Keep (fun b => vb.ownBlock = some b) w w') (hg : vb.ownBlock = some g ∨ w.heap.size ≤ g) :
    Out2 lo (w'.setCell ⟨q, 1, none⟩ (.slice (some ⟨g, 0, none⟩) l c)).heap.size q (w'.setCell ⟨q, 1, none⟩ (.slice (some ⟨g, 0, none⟩) l c)) va (.slice (some ⟨g, 0, none⟩) l c) A (B ++ [xs]) := by
  have hq := h.ql; have hl := h.lm; have hm := h.mw
  have hsz := hk.size
  have hva : ∀ b, va.ownBlock = some b → lo ≤ b ∧ b < w.heap.size := fun b e => OwnRows.lt h.a e
  have hvb : ∀ b, vb.ownBlock = some b → lo ≤ b ∧ b < m := fun b e => ⟨(h.b.ltv e).1, (h.b.ltv e).2.1⟩
  have hblk := h.blk.of_block (hk.block _ h.blk.lt (fun e => by have := hvb _ e; omega))
  refine ⟨hq, by simp [World.setCell]; omega, Nat.le_refl _, hblk.set 1 _, ?_, ?_, ?_⟩
  · have h1 := h.a.keepT (h.b.out) (fun b e1 e2 => h.ne b e1 e2) hk
    exact (h1.keep (keep1 w' q 1 _) (fun b h1 _ h3 => by have h3 : b = q := h3; omega)).inn
  · exact (ho.keep (keep1 w' q 1 _) (fun b h1 _ h3 => by have h3 : b = q := h3; omega)).inn
  · intro k e e2
    simp [Value.ownBlock] at e2
    subst e2
    rcases hg with hg | hg
    · exact h.ne _ e hg
    · have := hva _ e; omega
theorem Out2.blkq {lo m q : Nat} {w w' : World} {va vb : Value} {A B : List (List Int)} (h : Out2 lo m q w va vb A B) (hk : Keep (fun b => va.ownBlock = some b) w w') : Blk w' q 27 [va, vb] := by
  have hq := h.ql
  exact h.blk.of_block (hk.block _ h.blk.lt (fun e => by have := (h.a.ltv e).1; omega))
theorem Out2h.blkq {lo m q : Nat} {w w' : World} {va vb : Value} {A B : List (List Int)} (h : Out2h lo m q w va vb A B) (hk : Keep (fun b => vb.ownBlock = some b) w w') : Blk w' q 27 [va, vb] := by
  have hq := h.ql
  exact h.blk.of_block (hk.block _ h.blk.lt (fun e => by have := (h.b.ltv e).1; omega))
/-- A row that the call has made since stays as it was. -/
theorem Out2.row1 {lo m q : Nat} {w w' : World} {va vb u : Value} {A B : List (List Int)} {ys : List Int} (h : Out2 lo m q w va vb A B) (hu : Own m w u ys) (hk : Keep (fun b => va.ownBlock = some b) w w') (x : Value) : Own m (w'.setCell ⟨q, 0, none⟩ x) u ys := by
  have hq := h.ql; have hl := h.lm
  have h1 := hu.keep hk (fun b h1 _ h3 => by have := (h.a.ltv h3).2.1; omega)
  exact h1.keep (keep1 w' q 0 _) (fun b h1 _ h3 => by have h3 : b = q := h3; omega)
theorem Out2.frame1 {lo m q B0 : Nat} {w0 w w' : World} {va vb : Value} {A B : List (List Int)} (h : Out2 lo m q w va vb A B) (hb : Below B0 w0 w) (h0 : B0 ≤ q) (hk : Keep (fun b => va.ownBlock = some b) w w') (x : Value) : Below B0 w0 (w'.setCell ⟨q, 0, none⟩ x) := by
  have hq := h.ql; have hl := h.lm; have hm := h.mw
  exact (OwnRows.frame h.a.out hb (by omega) (by omega) hk).setCell (p := ⟨q, 0, none⟩) h0 x
theorem Out2h.frame2 {lo m q B0 : Nat} {w0 w w' : World} {va vb : Value} {A B : List (List Int)} (h : Out2h lo m q w va vb A B) (hb : Below B0 w0 w) (h0 : B0 ≤ q) (hk : Keep (fun b => vb.ownBlock = some b) w w') (x : Value) : Below B0 w0 (w'.setCell ⟨q, 1, none⟩ x) := by
  have hq := h.ql; have hl := h.lm; have hm := h.mw
  exact (OwnRows.frame h.b.out hb (by omega) (by omega) hk).setCell (p := ⟨q, 1, none⟩) h0 x
/-- A block outside of both tables stays as it was. -/
theorem Out2.blk1 {lo m q p : Nat} {w w' : World} {va vb : Value} {A B : List (List Int)} {t : TypeId} {cs : List Value} (h : Out2 lo m q w va vb A B) (hp : p < q) (hB : Blk w p t cs) (hk : Keep (fun b => va.ownBlock = some b) w w') (x : Value) : Blk (w'.setCell ⟨q, 0, none⟩ x) p t cs := by
  have hq := h.ql
  exact (hB.of_block (hk.block _ hB.lt (fun e => by have := (h.a.ltv e).1; omega))).other (a := ⟨q, 0, none⟩) (by show p ≠ q; omega) x
theorem Out2h.blk2 {lo m q p : Nat} {w w' : World} {va vb : Value} {A B : List (List Int)} {t : TypeId} {cs : List Value} (h : Out2h lo m q w va vb A B) (hp : p < q) (hB : Blk w p t cs) (hk : Keep (fun b => vb.ownBlock = some b) w w') (x : Value) : Blk (w'.setCell ⟨q, 1, none⟩ x) p t cs := by
  have hq := h.ql
  exact (hB.of_block (hk.block _ hB.lt (fun e => by have := (h.b.ltv e).1; omega))).other (a := ⟨q, 1, none⟩) (by show p ≠ q; omega) x

theorem wpList_app_int2 {ops : Array Oper} {rest : List Oper} {o : Oper} {a : Act} {Q : Exit → Act → World → Prop} (B : Nat) (w : World) (v : Value) (xs : List Int) (y : Int) (s x : Operand) (sz : Nat) (hsz : sz = w.heap.size) (hgd : o.guard = none)
    (ho : o.op = .call { callee := .builtin .append, args := #[s, x], argTypes := #[25, 25] })
    (hs : a.eval s = v) (hown : Own B w v xs) (hx : a.eval x = .slice (some ⟨sz, 0, none⟩) 1 1) (hn : xs.length ≤ 1099511627776) (hB2 : B ≤ w.heap.size)
    (h : ∀ g c' w', Own B w' (.slice (some ⟨g, 0, none⟩) (xs.length + 1) c') (xs ++ [y]) → Keep (fun b => v.ownBlock = some b) w w' → (v.ownBlock = some g ∨ w.heap.size ≤ g) → wpList Try.prog ops Q rest (a.put o.dst (.slice (some ⟨g, 0, none⟩) (xs.length + 1) c')) w') :
    wpList Try.prog ops Q (o :: rest) a (w.alloc (.cells #[.int .i64 y] 2)) := by
  subst hsz
  exact wpList_plain hgd fun _ hK => wp_app_int B w v xs y s x ho hs hown hx hn hB2 fun g c' w' h2 h3 h4 => hK _ _ (h g c' w' h2 h3 h4)
theorem wpList_app_row2s {ops : Array Oper} {rest : List Oper} {o : Oper} {a : Act} {Q : Exit → Act → World → Prop} (B m : Nat) (w : World) (v : Value) (xss : List (List Int)) (u : Value) (xs : List Int) (s x : Operand) (sz : Nat) (hsz : sz = w.heap.size) (hgd : o.guard = none)
    (ho : o.op = .call { callee := .builtin .append, args := #[s, x], argTypes := #[22, 22] })
    (hs : a.eval s = v) (hown : OwnRowsIn B m w v xss) (hu : Own m w u xs) (hx : a.eval x = .slice (some ⟨sz, 0, none⟩) 1 1) (hn : xss.length ≤ 1099511627776) (hB : B ≤ m) (hB2 : B ≤ w.heap.size)
    (h : ∀ g c' w', OwnRows B w' (.slice (some ⟨g, 0, none⟩) (xss.length + 1) c') (xss ++ [xs]) → Keep (fun b => v.ownBlock = some b) w w' → (v.ownBlock = some g ∨ w.heap.size ≤ g) → wpList Try.prog ops Q rest (a.put o.dst (.slice (some ⟨g, 0, none⟩) (xss.length + 1) c')) w') :
    wpList Try.prog ops Q (o :: rest) a (w.alloc (.cells #[u] 25)) := by
  subst hsz
  exact wpList_app_row2 B m w v xss u xs s x hgd ho hs hown hu hx hn hB hB2 h

/-- A pair of tables of the call's own (not apart from each other), beside a code. -/
def RSolRO (w0 : World) (A B : List (List Int)) (c : Int) (e : Ending) (w' : World) : Prop :=
  ∃ r1 r2, e = .returned (.tuple #[.agg #[r1, r2], .int .i64 c]) ∧ (OwnRows w0.heap.size w' r1 A ∧ OwnRows w0.heap.size w' r2 B) ∧ Below w0.heap.size w0 w'
theorem storedO {w w2 : World} {r1 r2 : Value} {A B : List (List Int)} {lo q : Nat} (hB : Below w.heap.size w w2) (hs : OwnRows lo w2 r1 A ∧ OwnRows lo w2 r2 B) (hq : w.heap.size ≤ q) (hlo : q < lo) :
    (OwnRows w.heap.size ((w2.setCell ⟨q, 0, none⟩ r1).setCell ⟨q, 1, none⟩ r2) r1 A ∧ OwnRows w.heap.size ((w2.setCell ⟨q, 0, none⟩ r1).setCell ⟨q, 1, none⟩ r2) r2 B) ∧ Below w.heap.size w ((w2.setCell ⟨q, 0, none⟩ r1).setCell ⟨q, 1, none⟩ r2) := by
  have k : Keep (fun b => b = q) w2 ((w2.setCell ⟨q, 0, none⟩ r1).setCell ⟨q, 1, none⟩ r2) := ((Keep.refl (fun b => b = q) w2).setCell (p := ⟨q, 0, none⟩) (.inl rfl) _).setCell (p := ⟨q, 1, none⟩) (.inl rfl) _
  exact ⟨⟨(hs.1.keep k (fun b h1 _ h3 => by omega)).mono (by omega), (hs.2.keep k (fun b h1 _ h3 => by omega)).mono (by omega)⟩, (hB.setCell (p := ⟨q, 0, none⟩) hq _).setCell (p := ⟨q, 1, none⟩) hq _⟩
/-- The box of a result, laid ahead of the call and filled behind it. -/
theorem box_early {w3 : World} {q : Nat} {u v a b : Value} {t : TypeId} (h : Blk w3 q t [u, v]) : Blk ((w3.setCell ⟨q, 0, none⟩ a).setCell ⟨q, 1, none⟩ b) q t [a, b] := (h.set 0 a).set 1 b
theorem keep_early (w3 : World) (q : Nat) (a b : Value) : Keep (fun k => k = q) w3 ((w3.setCell ⟨q, 0, none⟩ a).setCell ⟨q, 1, none⟩ b) :=
  ((Keep.refl (fun k => k = q) w3).setCell (p := ⟨q, 0, none⟩) (.inl rfl) _).setCell (p := ⟨q, 1, none⟩) (.inl rfl) _
theorem keep_late (w3 : World) (o : Obj) : Keep (fun k => k = w3.heap.size) w3 (w3.alloc o) := (Keep.refl _ w3).alloc o

/-- Two lists of the call's own that grow side by side. -/
structure Two (B : Nat) (w : World) (u v : Value) (xs ys : List Int) : Prop where
  a : Own B w u xs
  b : Own B w v ys
  ne : ∀ k, u.ownBlock = some k → v.ownBlock ≠ some k
theorem Two.app1 {B g l c : Nat} {w w' : World} {u v : Value} {xs ys : List Int} {x : Int} (h : Two B w u v xs ys) (ho : Own B w' (.slice (some ⟨g, 0, none⟩) l c) (xs ++ [x])) (hk : Keep (fun b => u.ownBlock = some b) w w') (hg : u.ownBlock = some g ∨ w.heap.size ≤ g) :
    Two B w' (.slice (some ⟨g, 0, none⟩) l c) v (xs ++ [x]) ys := by
  refine ⟨ho, h.b.keepN hk (fun b e1 e2 => h.ne b e2 e1), ?_⟩
  intro k e e2
  simp [Value.ownBlock] at e
  subst e
  rcases hg with hg | hg
  · exact h.ne _ hg e2
  · have := (h.b.lt e2).2; omega
theorem Two.app2 {B g l c : Nat} {w w' : World} {u v : Value} {xs ys : List Int} {x : Int} (h : Two B w u v xs ys) (ho : Own B w' (.slice (some ⟨g, 0, none⟩) l c) (ys ++ [x])) (hk : Keep (fun b => v.ownBlock = some b) w w') (hg : v.ownBlock = some g ∨ w.heap.size ≤ g) :
    Two B w' u (.slice (some ⟨g, 0, none⟩) l c) xs (ys ++ [x]) := by
  refine ⟨h.a.keepN hk (fun b e1 e2 => h.ne b e1 e2), ho, ?_⟩
  intro k e e2
  simp [Value.ownBlock] at e2
  subst e2
  rcases hg with hg | hg
  · exact h.ne _ e hg
  · have := (h.a.lt e).2; omega
theorem Two.made0 (w : World) : Two w.heap.size ((w.alloc (.cells #[] 2)).alloc (.cells #[] 2)) (.slice (some ⟨w.heap.size, 0, none⟩) 0 0) (.slice (some ⟨w.heap.size + 1, 0, none⟩) 0 0) [] [] := by
  refine ⟨(Own.made0 w (Nat.le_refl _)).under ((Below.refl _ _).alloc (Nat.le_refl _) _), ?_, ?_⟩
  · have := Own.made0 (B := w.heap.size) (w.alloc (.cells #[] 2)) (by simp)
    simpa using this
  · intro k e e2
    simp [Value.ownBlock] at e e2
    omega
theorem Two.under {B : Nat} {w w' : World} {u v : Value} {xs ys : List Int} (h : Two B w u v xs ys) (hb : Below w.heap.size w w') : Two B w' u v xs ys := ⟨h.a.under hb, h.b.under hb, h.ne⟩
end Go.Proofs.Ytkcobfkmeaakoaa

namespace Go.Proofs.Ytkcobfkmeaakoaa
open Go Go.RowKit

theorem OwnRowsIn.put {lo hi : Nat} {w : World} {sa : Option Addr} {n c : Nat} {t : List (List Int)} (h : OwnRowsIn lo hi w (.slice sa n c) t) {u y m : Nat} (hu : u < t.length) (hm : (row t u).length = m) (hy : y < m) :
    ∃ b g cr z0, sa = some ⟨b, 0, none⟩ ∧ lo ≤ b ∧ b < hi ∧ lo ≤ g ∧ g < hi ∧ b ≠ g ∧ w.cell? ⟨b, u, none⟩ = some (.slice (some ⟨g, 0, none⟩) m cr) ∧ w.cell? ⟨g, y, none⟩ = some z0 ∧ w.frozen? ⟨g, y, none⟩ = false ∧
      ∀ z : Int, OwnRowsIn lo hi (w.setCell ⟨g, y, none⟩ (.int .i64 z)) (.slice sa n c) (t.set u ((row t u).set y z)) := by
  obtain ⟨us, h1, h2, h3, h4⟩ := h
  have hul : u < us.length := by rw [h2.len]; exact hu
  obtain ⟨a, c', hv, _, _, hc⟩ := ownsRow_cells h1
  obtain ⟨b, hab, hcell⟩ := hc u hul
  injection hv with e1 e2 e3
  subst e1 hab
  have hrow : t[u] = row t u := (row_nat t u hu).symm
  have hown := h2.own u hul hu
  rcases hown.open with ⟨_, k2⟩ | ⟨g, cs, k1, k2, k3, k4⟩
  · rw [hrow] at k2; rw [k2] at hm; simp at hm; omega
  · have hy' : y < (t[u]).length := by rw [hrow]; omega
    have hv1 : us[u] = .slice (some ⟨g, 0, none⟩) m ((t[u]).length + cs.length) := by rw [k1, hrow, hm]
    have hput := fun z => h2.put hul hu hv1 hy' z
    obtain ⟨p1, p2⟩ := h2.cellAt hul hu hv1 hy'
    have hg := h4 u hul g (by rw [hv1]; rfl)
    have hb1 := World.ownsRow.lt h1 b rfl
    have hbg : b ≠ g := by
      obtain ⟨hl, hn | ⟨g', cap, cur, hv', hb', hg', r⟩⟩ := h1
      · simp at hn
      · injection hv' with e1 e2 e3
        injection e1 with e1
        injection e1 with e1
        subst e1
        have := hown.ne (g := b) (t := 25) (cs := cur.toList) (by unfold Blk; simpa using hg') (by decide)
        intro e
        apply this
        rw [hv1, e]; rfl
    refine ⟨b, g, _, _, rfl, hb1.1, h3 b rfl, k2, hg, hbg, by rw [hcell, hv1], p1, p2, fun z => ⟨us, ?_, ?_, h3, h4⟩⟩
    · refine ownsRow_ne h1 hown ?_
      rw [hv1]
      exact keepB _ _ _ _ _ _
    · have := hput z
      rw [hrow] at this; exact this

/-- Two tables side by side, apart from a box q. -/
def TwoIn (lo q : Nat) (W : World) (va vb : Value) (X Y : List (List Int)) : Prop :=
  ∃ l1 h1 l2 h2, lo ≤ l1 ∧ lo ≤ l2 ∧ h1 ≤ l2 ∧ h1 ≤ W.heap.size ∧ h2 ≤ W.heap.size ∧ (h1 ≤ q ∨ q < l1) ∧ (h2 ≤ q ∨ q < l2) ∧ OwnRowsIn l1 h1 W va X ∧ OwnRowsIn l2 h2 W vb Y
theorem size_set (w : World) (a : Addr) (v : Value) : (w.setCell a v).heap.size = w.heap.size := by simp [World.setCell]
theorem TwoIn.keep {lo q : Nat} {S : Nat → Prop} {W W' : World} {va vb : Value} {X Y : List (List Int)} (h : TwoIn lo q W va vb X Y) (k : Keep S W W') (hS : ∀ b, lo ≤ b → b ≠ q → b < W.heap.size → ¬ S b) : TwoIn lo q W' va vb X Y := by
  obtain ⟨l1, h1, l2, h2, a, b, c, d1, d, e, f, o1, o2⟩ := h
  have hs := k.size
  exact ⟨l1, h1, l2, h2, a, b, c, by omega, by omega, e, f, o1.keep k (fun x x1 x2 => hS x (by omega) (by omega) (by omega)), o2.keep k (fun x x1 x2 => hS x (by omega) (by omega) (by omega))⟩
theorem TwoIn.under {lo q : Nat} {W W' : World} {va vb : Value} {X Y : List (List Int)} (h : TwoIn lo q W va vb X Y) (hb : Below W.heap.size W W') : TwoIn lo q W' va vb X Y :=
  h.keep (S := fun b => W.heap.size ≤ b) (Keep.of_below hb) fun x _ _ x1 x2 => by omega
/-- An entry of each written, in either order. -/
theorem TwoIn.put {lo q : Nat} {W : World} {sa sb : Option Addr} {n c n' c' : Nat} {X Y : List (List Int)} (h : TwoIn lo q W (.slice sa n c) (.slice sb n' c') X Y) {u y m m' : Nat}
    (hu : u < X.length) (hu' : u < Y.length) (hm : (row X u).length = m) (hm' : (row Y u).length = m') (hy : y < m) (hy' : y < m') :
    ∃ b1 g1 r1 b2 g2 r2 z1 z2, sa = some ⟨b1, 0, none⟩ ∧ sb = some ⟨b2, 0, none⟩ ∧ (lo ≤ b1 ∧ lo ≤ g1 ∧ lo ≤ b2 ∧ lo ≤ g2) ∧ (q ≠ b1 ∧ q ≠ g1 ∧ q ≠ b2 ∧ q ≠ g2) ∧ (b1 ≠ g1 ∧ b1 ≠ g2 ∧ b2 ≠ g1 ∧ b2 ≠ g2 ∧ g1 ≠ g2) ∧
      W.cell? ⟨b1, u, none⟩ = some (.slice (some ⟨g1, 0, none⟩) m r1) ∧ W.cell? ⟨b2, u, none⟩ = some (.slice (some ⟨g2, 0, none⟩) m' r2) ∧ W.cell? ⟨g1, y, none⟩ = some z1 ∧ W.frozen? ⟨g1, y, none⟩ = false ∧ W.cell? ⟨g2, y, none⟩ = some z2 ∧ W.frozen? ⟨g2, y, none⟩ = false ∧
      (∀ s t : Int, TwoIn lo q ((W.setCell ⟨g1, y, none⟩ (.int .i64 s)).setCell ⟨g2, y, none⟩ (.int .i64 t)) (.slice sa n c) (.slice sb n' c') (X.set u ((row X u).set y s)) (Y.set u ((row Y u).set y t))) ∧
      ∀ s t : Int, TwoIn lo q ((W.setCell ⟨g2, y, none⟩ (.int .i64 t)).setCell ⟨g1, y, none⟩ (.int .i64 s)) (.slice sa n c) (.slice sb n' c') (X.set u ((row X u).set y s)) (Y.set u ((row Y u).set y t)) := by
  obtain ⟨l1, h1, l2, h2, a, b, cc, d1, d, e, f, o1, o2⟩ := h
  have ok1 := fun (W' : World) (o : OwnRowsIn l1 h1 W' (.slice sa n c) X) => o.put hu hm hy
  obtain ⟨b1, g1, r1, z1, rfl, p1, p2, p3, p4, p5, p6, p7, p8, p9⟩ := o1.put hu hm hy
  obtain ⟨b2, g2, r2, z2, rfl, k1, k2, k3, k4, k5, k6, k7, k8, k9⟩ := o2.put hu' hm' hy'
  refine ⟨b1, g1, r1, b2, g2, r2, z1, z2, rfl, rfl, ⟨by omega, by omega, by omega, by omega⟩, ⟨by omega, by omega, by omega, by omega⟩, ⟨by omega, by omega, by omega, by omega, by omega⟩, p6, k6, p7, p8, k7, k8, ?_, ?_⟩
  · intro s t
    have kk := (Keep.refl (fun x => x = g1) W).setCell (p := ⟨g1, y, none⟩) (.inl rfl) (.int .i64 s)
    have o2' := o2.keep kk (fun x x1 x2 e => by omega)
    obtain ⟨b2', g2', r2', z2', hb', _, _, _, _, _, j6, _, _, j9⟩ := o2'.put hu' hm' hy'
    have k6' : (W.setCell ⟨g1, y, none⟩ (.int .i64 s)).cell? ⟨b2, u, none⟩ = some (.slice (some ⟨g2, 0, none⟩) m' r2) := (World.cell?_of_block (w := W) (kk.block b2 (cell_lt k6) (by omega))).trans k6
    injection hb' with hb'; injection hb' with hb'; subst hb'
    rw [k6'] at j6
    injection j6 with j6; injection j6 with j6; injection j6 with j6; injection j6 with j6; subst j6
    have kk2 := (Keep.refl (fun x => x = g2) (W.setCell ⟨g1, y, none⟩ (.int .i64 s))).setCell (p := ⟨g2, y, none⟩) (.inl rfl) (.int .i64 t)
    exact ⟨l1, h1, l2, h2, a, b, cc, by rw [size_set, size_set]; exact d1, by rw [size_set, size_set]; exact d, e, f, (p9 s).keep kk2 (fun x x1 x2 e => by omega), j9 t⟩
  · intro s t
    have kk := (Keep.refl (fun x => x = g2) W).setCell (p := ⟨g2, y, none⟩) (.inl rfl) (.int .i64 t)
    have o1' := o1.keep kk (fun x x1 x2 e => by omega)
    obtain ⟨b1', g1', r1', z1', hb', _, _, _, _, _, j6, _, _, j9⟩ := o1'.put hu hm hy
    have k6' : (W.setCell ⟨g2, y, none⟩ (.int .i64 t)).cell? ⟨b1, u, none⟩ = some (.slice (some ⟨g1, 0, none⟩) m r1) := (World.cell?_of_block (w := W) (kk.block b1 (cell_lt p6) (by omega))).trans p6
    injection hb' with hb'; injection hb' with hb'; subst hb'
    rw [k6'] at j6
    injection j6 with j6; injection j6 with j6; injection j6 with j6; injection j6 with j6; subst j6
    have kk2 := (Keep.refl (fun x => x = g1) (W.setCell ⟨g2, y, none⟩ (.int .i64 t))).setCell (p := ⟨g1, y, none⟩) (.inl rfl) (.int .i64 s)
    exact ⟨l1, h1, l2, h2, a, b, cc, by rw [size_set, size_set]; exact d1, by rw [size_set, size_set]; exact d, e, f, j9 s, (k9 t).keep kk2 (fun x x1 x2 e => by omega)⟩
end Go.Proofs.Ytkcobfkmeaakoaa

namespace Go.Proofs.Ytkcobfkmeaakoaa
open Go Go.RowKit

/-- A table of the call's own, all its blocks in P. -/
def OwnP (lo : Nat) (P : Nat → Prop) (w : World) (v : Value) (t : List (List Int)) : Prop :=
  ∃ us, w.ownsRow lo 25 1 v us.length us ∧ RowVals lo w us t ∧ (∀ k, v.ownBlock = some k → P k) ∧ ∀ i (h : i < us.length) k, us[i].ownBlock = some k → P k
theorem OwnP.out {lo : Nat} {P : Nat → Prop} {w : World} {v : Value} {t : List (List Int)} (h : OwnP lo P w v t) : OwnRows lo w v t := by
  obtain ⟨us, h1, h2, _⟩ := h
  exact ⟨us, h1, h2⟩
theorem OwnP.imp {lo : Nat} {P Q : Nat → Prop} {w : World} {v : Value} {t : List (List Int)} (h : OwnP lo P w v t) (hpq : ∀ b, P b → Q b) : OwnP lo Q w v t := by
  obtain ⟨us, h1, h2, h3, h4⟩ := h
  exact ⟨us, h1, h2, fun k hk => hpq k (h3 k hk), fun i hi k hk => hpq k (h4 i hi k hk)⟩
theorem OwnP.nil (lo : Nat) (P : Nat → Prop) (w : World) : OwnP lo P w (.slice none 0 0) [] :=
  ⟨[], ⟨by simp, .inl ⟨rfl, rfl⟩⟩, RowVals.nil _ _, (by intro k hk; cases hk), (by intro i hi; simp at hi)⟩
theorem OwnP.keep {lo : Nat} {P S : Nat → Prop} {w w' : World} {v : Value} {t : List (List Int)} (h : OwnP lo P w v t) (k : Keep S w w') (hs : ∀ b, P b → ¬ S b) : OwnP lo P w' v t := by
  obtain ⟨us, h1, h2, h3, h4⟩ := h
  refine ⟨us, ?_, ⟨h2.len, fun i hi hi' => ?_, h2.apart⟩, h3, h4⟩
  · obtain ⟨hl, hn | ⟨g, cap, cur, hv, hb, hg, r⟩⟩ := h1
    · exact ⟨hl, .inl hn⟩
    · exact ⟨hl, .inr ⟨g, cap, cur, hv, hb, by rw [k.block g (Array.getElem?_eq_some_iff.1 hg).1 (hs g (h3 g (by rw [hv]; rfl)))]; exact hg, r⟩⟩
  · have h6 := h4 i hi
    obtain ⟨hl, hn | ⟨g, cap, cur, hv, hb, hg, r⟩⟩ := h2.own i hi hi'
    · exact ⟨hl, .inl hn⟩
    · exact ⟨hl, .inr ⟨g, cap, cur, hv, hb, by rw [k.block g (Array.getElem?_eq_some_iff.1 hg).1 (hs g (h6 g (by rw [hv]; rfl)))]; exact hg, r⟩⟩
theorem OwnP.under {lo : Nat} {P : Nat → Prop} {w w' : World} {v : Value} {t : List (List Int)} (h : OwnP lo P w v t) (hb : Below w.heap.size w w') : OwnP lo P w' v t := by
  obtain ⟨us, h1, h2, h3, h4⟩ := h
  exact ⟨us, ownsRow_keep h1 (Keep.of_below hb) (fun b _ hlt => by omega), h2.under hb, h3, h4⟩

/-- 'append(s, u)' at an operation: the new array is the old one or a new block; the blocks are told. -/
theorem wp_app_rowP {o : Oper} {a : Act} {K : Act → World → Prop} {Q : Exit → Act → World → Prop} (P : Nat → Prop) (B m : Nat) (w : World) (v : Value) (xss : List (List Int)) (u : Value) (xs : List Int) (s x : Operand)
    (ho : o.op = .call { callee := .builtin .append, args := #[s, x], argTypes := #[22, 22] })
    (hs : a.eval s = v) (hown : OwnP B P w v xss) (hP : ∀ b, P b → b < m) (hu : Own m w u xs) (hx : a.eval x = .slice (some ⟨w.heap.size, 0, none⟩) 1 1) (hn : xss.length ≤ 1099511627776) (hB : B ≤ m) (hB2 : B ≤ w.heap.size)
    (h : ∀ g c' w', OwnP B (fun b => P b ∨ u.ownBlock = some b ∨ b = g) w' (.slice (some ⟨g, 0, none⟩) (xss.length + 1) c') (xss ++ [xs]) → Keep (fun b => v.ownBlock = some b) w w' → (v.ownBlock = some g ∨ w.heap.size ≤ g) → K (a.put o.dst (.slice (some ⟨g, 0, none⟩) (xss.length + 1) c')) w') :
    o.wp Try.prog a (w.alloc (.cells #[u] 25)) K Q := by
  obtain ⟨us, h1, h2, hv3, hlt⟩ := hown
  have h2' := rowvals_snoc h2 (fun i hi k hk => hP k (hlt i hi k hk)) hu hB
  have hlen := h2.len
  obtain ⟨ua, uc, hu1, _⟩ := hu.shape
  obtain ⟨i0, hi, hz0, hz1, hz2⟩ := info_parts inf_ints
  refine wp_append_lies _ s x 22 ho B 25 i0 (.slice none 0 0) 1 24 Try.underlying22 hi hz0 hz1 hz2 rfl (by decide) v us.length us hs (h1.alloc _) ⟨w.heap.size, 0, none⟩ 1 1 [u] hx rfl ?_ ?_ (by decide) (by unfold maxLen; omega) (by omega) (by simp; omega) (w.heap.size + 1) (by simp) ?_
  · intro j u' hj
    match j, hj with
    | 0, hj => simp at hj; subst hj; simp [Addr.add]
  · intro u' hu'; simp at hu'; subst hu'; subst hu1; rfl
  · intro g cap w' h3 h4 h5 _
    have hk := Keep.of_grown h4
    have hk2 : Keep (fun b => v.ownBlock = some b) w w' := ((Keep.refl _ w).alloc _).trans hk
    rw [hlen] at h3 ⊢
    refine h g cap w' ⟨us ++ [u], by simpa [hlen] using h3, rowvals_keepT h2' h1 hk2, ?_, ?_⟩ hk2 (by rcases h5 with h5 | h5; exact .inl h5; exact .inr (by omega))
    · intro k hk
      simp [Value.ownBlock] at hk
      exact .inr (.inr hk.symm)
    · intro i hi k hk
      by_cases e : i < us.length
      · rw [List.getElem_append_left e] at hk
        exact .inl (hlt i e k hk)
      · have e2 : i = us.length := by simp at hi; omega
        subst e2
        rw [List.getElem_append_right (Nat.le_refl _)] at hk
        simp only [Nat.sub_self, List.getElem_cons_zero] at hk
        exact .inr (.inl hk)
theorem wpList_app_rowP {ops : Array Oper} {rest : List Oper} {o : Oper} {a : Act} {Q : Exit → Act → World → Prop} (P : Nat → Prop) (B m : Nat) (w : World) (v : Value) (xss : List (List Int)) (u : Value) (xs : List Int) (s x : Operand) (hgd : o.guard = none)
    (ho : o.op = .call { callee := .builtin .append, args := #[s, x], argTypes := #[22, 22] })
    (hs : a.eval s = v) (hown : OwnP B P w v xss) (hP : ∀ b, P b → b < m) (hu : Own m w u xs) (hx : a.eval x = .slice (some ⟨w.heap.size, 0, none⟩) 1 1) (hn : xss.length ≤ 1099511627776) (hB : B ≤ m) (hB2 : B ≤ w.heap.size)
    (h : ∀ g c' w', OwnP B (fun b => P b ∨ u.ownBlock = some b ∨ b = g) w' (.slice (some ⟨g, 0, none⟩) (xss.length + 1) c') (xss ++ [xs]) → Keep (fun b => v.ownBlock = some b) w w' → (v.ownBlock = some g ∨ w.heap.size ≤ g) → wpList Try.prog ops Q rest (a.put o.dst (.slice (some ⟨g, 0, none⟩) (xss.length + 1) c')) w') :
    wpList Try.prog ops Q (o :: rest) a (w.alloc (.cells #[u] 25)) :=
  wpList_plain hgd fun _ hK => wp_app_rowP P B m w v xss u xs s x ho hs hown hP hu hx hn hB hB2 fun g c' w' h2 h3 h4 => hK _ _ (h g c' w' h2 h3 h4)
theorem step_app_rowP {ops : Array Oper} {o : Oper} {a : Act} {K : Act → World → Prop} {Q : Exit → Act → World → Prop} {E : Prop} (P : Nat → Prop) (B m : Nat) (w : World) (v : Value) (xss : List (List Int)) (u : Value) (xs : List Int) (s x : Operand) (hgd : o.guard = none)
    (ho : o.op = .call { callee := .builtin .append, args := #[s, x], argTypes := #[22, 22] })
    (hs : a.eval s = v) (hown : OwnP B P w v xss) (hP : ∀ b, P b → b < m) (hu : Own m w u xs) (hx : a.eval x = .slice (some ⟨w.heap.size, 0, none⟩) 1 1) (hn : xss.length ≤ 1099511627776) (hB : B ≤ m) (hB2 : B ≤ w.heap.size)
    (h : ∀ g c' w', OwnP B (fun b => P b ∨ u.ownBlock = some b ∨ b = g) w' (.slice (some ⟨g, 0, none⟩) (xss.length + 1) c') (xss ++ [xs]) → Keep (fun b => v.ownBlock = some b) w w' → (v.ownBlock = some g ∨ w.heap.size ≤ g) → K (a.put o.dst (.slice (some ⟨g, 0, none⟩) (xss.length + 1) c')) w') :
    if Region.wanted o (yielded ops a.tmps) = true then Oper.wp Try.prog o a (w.alloc (.cells #[u] 25)) K Q else E := by
  have hw : Region.wanted o (yielded ops a.tmps) = true := by simp [Region.wanted, hgd]
  rw [if_pos hw]
  exact wp_app_rowP P B m w v xss u xs s x ho hs hown hP hu hx hn hB hB2 h

/-- A store into an entry. -/
theorem OwnP.put {lo : Nat} {P : Nat → Prop} {w : World} {sa : Option Addr} {n c : Nat} {t : List (List Int)} (h : OwnP lo P w (.slice sa n c) t) {u y m : Nat} (hu : u < t.length) (hm : (row t u).length = m) (hy : y < m) :
    ∃ b g cr z0, sa = some ⟨b, 0, none⟩ ∧ P b ∧ P g ∧ b ≠ g ∧ w.cell? ⟨b, u, none⟩ = some (.slice (some ⟨g, 0, none⟩) m cr) ∧ w.cell? ⟨g, y, none⟩ = some z0 ∧ w.frozen? ⟨g, y, none⟩ = false ∧
      ∀ z : Int, OwnP lo P (w.setCell ⟨g, y, none⟩ (.int .i64 z)) (.slice sa n c) (t.set u ((row t u).set y z)) := by
  obtain ⟨us, h1, h2, h3, h4⟩ := h
  have hul : u < us.length := by rw [h2.len]; exact hu
  obtain ⟨a, c', hv, _, _, hc⟩ := ownsRow_cells h1
  obtain ⟨b, hab, hcell⟩ := hc u hul
  injection hv with e1 e2 e3
  subst e1 hab
  have hrow : t[u] = row t u := (row_nat t u hu).symm
  have hown := h2.own u hul hu
  rcases hown.open with ⟨_, k2⟩ | ⟨g, cs, k1, k2, k3, k4⟩
  · rw [hrow] at k2; rw [k2] at hm; simp at hm; omega
  · have hy' : y < (t[u]).length := by rw [hrow]; omega
    have hv1 : us[u] = .slice (some ⟨g, 0, none⟩) m ((t[u]).length + cs.length) := by rw [k1, hrow, hm]
    have hput := fun z => h2.put hul hu hv1 hy' z
    obtain ⟨p1, p2⟩ := h2.cellAt hul hu hv1 hy'
    have hg := h4 u hul g (by rw [hv1]; rfl)
    have hbg : b ≠ g := by
      obtain ⟨hl, hn | ⟨g', cap, cur, hv', hb', hg', r⟩⟩ := h1
      · simp at hn
      · injection hv' with e1 e2 e3
        injection e1 with e1
        injection e1 with e1
        subst e1
        have := hown.ne (g := b) (t := 25) (cs := cur.toList) (by unfold Blk; simpa using hg') (by decide)
        intro e
        apply this
        rw [hv1, e]; rfl
    refine ⟨b, g, _, _, rfl, h3 b rfl, hg, hbg, by rw [hcell, hv1], p1, p2, fun z => ⟨us, ?_, ?_, h3, h4⟩⟩
    · refine ownsRow_ne h1 hown ?_
      rw [hv1]
      exact keepB _ _ _ _ _ _
    · have := hput z
      rw [hrow] at this; exact this

/-- Two tables apart from each other and from a box q. -/
def TwoP (lo q : Nat) (W : World) (va vb : Value) (X Y : List (List Int)) : Prop :=
  ∃ P1 P2 : Nat → Prop, (∀ b, P1 b → lo ≤ b ∧ b < W.heap.size ∧ b ≠ q ∧ ¬ P2 b) ∧ (∀ b, P2 b → lo ≤ b ∧ b < W.heap.size ∧ b ≠ q) ∧ OwnP lo P1 W va X ∧ OwnP lo P2 W vb Y
theorem TwoP.keep {lo q : Nat} {S : Nat → Prop} {W W' : World} {va vb : Value} {X Y : List (List Int)} (h : TwoP lo q W va vb X Y) (k : Keep S W W') (hS : ∀ b, lo ≤ b → b ≠ q → b < W.heap.size → ¬ S b) : TwoP lo q W' va vb X Y := by
  obtain ⟨P1, P2, h1, h2, o1, o2⟩ := h
  have hs := k.size
  exact ⟨P1, P2, fun b hb => ⟨(h1 b hb).1, by have := (h1 b hb).2.1; omega, (h1 b hb).2.2⟩, fun b hb => ⟨(h2 b hb).1, by have := (h2 b hb).2.1; omega, (h2 b hb).2.2⟩,
    o1.keep k (fun x hx => hS x (h1 x hx).1 (h1 x hx).2.2.1 (h1 x hx).2.1), o2.keep k (fun x hx => hS x (h2 x hx).1 (h2 x hx).2.2 (h2 x hx).2.1)⟩
theorem TwoP.under {lo q : Nat} {W W' : World} {va vb : Value} {X Y : List (List Int)} (h : TwoP lo q W va vb X Y) (hb : Below W.heap.size W W') : TwoP lo q W' va vb X Y :=
  h.keep (S := fun b => W.heap.size ≤ b) (Keep.of_below hb) fun x _ _ x1 x2 => by omega
/-- An entry of each written, first in the first table. -/
theorem TwoP.put {lo q : Nat} {W : World} {sa sb : Option Addr} {n c n' c' : Nat} {X Y : List (List Int)} (h : TwoP lo q W (.slice sa n c) (.slice sb n' c') X Y) {u y m m' : Nat}
    (hu : u < X.length) (hu' : u < Y.length) (hm : (row X u).length = m) (hm' : (row Y u).length = m') (hy : y < m) (hy' : y < m') :
    ∃ b1 g1 r1 b2 g2 r2 z1 z2, sa = some ⟨b1, 0, none⟩ ∧ sb = some ⟨b2, 0, none⟩ ∧ (lo ≤ b1 ∧ lo ≤ g1 ∧ lo ≤ b2 ∧ lo ≤ g2) ∧ (q ≠ b1 ∧ q ≠ g1 ∧ q ≠ b2 ∧ q ≠ g2) ∧ (b1 ≠ g1 ∧ b1 ≠ g2 ∧ b2 ≠ g1 ∧ b2 ≠ g2 ∧ g1 ≠ g2) ∧
      W.cell? ⟨b1, u, none⟩ = some (.slice (some ⟨g1, 0, none⟩) m r1) ∧ W.cell? ⟨b2, u, none⟩ = some (.slice (some ⟨g2, 0, none⟩) m' r2) ∧ W.cell? ⟨g1, y, none⟩ = some z1 ∧ W.frozen? ⟨g1, y, none⟩ = false ∧ 
      (∀ s : Int, (W.setCell ⟨g1, y, none⟩ (.int .i64 s)).cell? ⟨g2, y, none⟩ = some z2 ∧ (W.setCell ⟨g1, y, none⟩ (.int .i64 s)).frozen? ⟨g2, y, none⟩ = false) ∧
      ∀ s t : Int, TwoP lo q ((W.setCell ⟨g1, y, none⟩ (.int .i64 s)).setCell ⟨g2, y, none⟩ (.int .i64 t)) (.slice sa n c) (.slice sb n' c') (X.set u ((row X u).set y s)) (Y.set u ((row Y u).set y t)) := by
  obtain ⟨P1, P2, h1, h2, o1, o2⟩ := h
  obtain ⟨b1, g1, r1, z1, rfl, p1, p3, p5, p6, p7, p8, p9⟩ := o1.put hu hm hy
  obtain ⟨b2, g2, r2, z2, rfl, k1, k3, k5, k6, k7, k8, k9⟩ := o2.put hu' hm' hy'
  have a1 := h1 b1 p1; have a2 := h1 g1 p3; have a3 := h2 b2 k1; have a4 := h2 g2 k3
  have e1 : b1 ≠ g2 := fun e => a1.2.2.2 (e ▸ k3)
  have e2 : b2 ≠ g1 := fun e => a2.2.2.2 (e ▸ k1)
  have e3 : g1 ≠ g2 := fun e => a2.2.2.2 (e ▸ k3)
  have hmid : ∀ s : Int, OwnP lo P2 (W.setCell ⟨g1, y, none⟩ (.int .i64 s)) (.slice (some ⟨b2, 0, none⟩) n' c') Y := fun s => by
    have kk := (Keep.refl (fun x => x = g1) W).setCell (p := ⟨g1, y, none⟩) (.inl rfl) (.int .i64 s)
    exact o2.keep kk (fun x hx e => a2.2.2.2 (e ▸ hx))
  have hmid2 : ∀ s : Int, (W.setCell ⟨g1, y, none⟩ (.int .i64 s)).cell? ⟨g2, y, none⟩ = some z2 ∧ (W.setCell ⟨g1, y, none⟩ (.int .i64 s)).frozen? ⟨g2, y, none⟩ = false ∧ ∀ t : Int, OwnP lo P2 ((W.setCell ⟨g1, y, none⟩ (.int .i64 s)).setCell ⟨g2, y, none⟩ (.int .i64 t)) (.slice (some ⟨b2, 0, none⟩) n' c') (Y.set u ((row Y u).set y t)) := fun s => by
    have kk := (Keep.refl (fun x => x = g1) W).setCell (p := ⟨g1, y, none⟩) (.inl rfl) (.int .i64 s)
    obtain ⟨b2', g2', r2', z2', hb', _, _, _, j6, j7, j8, j9⟩ := (hmid s).put hu' hm' hy'
    have k6' : (W.setCell ⟨g1, y, none⟩ (.int .i64 s)).cell? ⟨b2, u, none⟩ = some (.slice (some ⟨g2, 0, none⟩) m' r2) := (World.cell?_of_block (w := W) (kk.block b2 (cell_lt k6) (by omega))).trans k6
    have k7' : (W.setCell ⟨g1, y, none⟩ (.int .i64 s)).cell? ⟨g2, y, none⟩ = some z2 := (World.cell?_of_block (w := W) (kk.block g2 (cell_lt k7) (by omega))).trans k7
    injection hb' with hb'; injection hb' with hb'; subst hb'
    rw [k6'] at j6
    injection j6 with j6; injection j6 with j6; injection j6 with j6; injection j6 with j6; subst j6
    exact ⟨k7', j8, j9⟩
  refine ⟨b1, g1, r1, b2, g2, r2, z1, z2, rfl, rfl, ⟨a1.1, a2.1, a3.1, a4.1⟩, ⟨a1.2.2.1.symm, a2.2.2.1.symm, a3.2.2.symm, a4.2.2.symm⟩, ⟨p5, e1, e2, k5, e3⟩, p6, k6, p7, p8, fun s => ⟨(hmid2 s).1, (hmid2 s).2.1⟩, ?_⟩
  intro s t
  have kk2 := (Keep.refl (fun x => x = g2) (W.setCell ⟨g1, y, none⟩ (.int .i64 s))).setCell (p := ⟨g2, y, none⟩) (.inl rfl) (.int .i64 t)
  refine ⟨P1, P2, fun b hb => ⟨(h1 b hb).1, by rw [size_set, size_set]; exact (h1 b hb).2.1, (h1 b hb).2.2⟩, fun b hb => ⟨(h2 b hb).1, by rw [size_set, size_set]; exact (h2 b hb).2.1, (h2 b hb).2.2⟩, (p9 s).keep kk2 (fun x hx e => (h1 x hx).2.2.2 (e ▸ k3)), (hmid2 s).2.2 t⟩
end Go.Proofs.Ytkcobfkmeaakoaa

namespace Go.Proofs.Ytkcobfkmeaakoaa
open Go.RowKit

def lexS (A B C D : List (List Int)) : Bool := if A = C then lexR B D else lexR A C
def orI (x y : Int) : Int := if x = 0 then y else x
theorem orI_neg {A B C D : List (List Int)} : orI (cmpR A C) (cmpR B D) < 0 ↔ lexS A B C D = true := by
  unfold orI lexS
  by_cases h : A = C
  · rw [if_pos (cmpR_zero.2 h), if_pos h]; exact cmpR_neg
  · rw [if_neg (fun e => h (cmpR_zero.1 e)), if_neg h]; exact cmpR_neg

set_option maxHeartbeats 800000 in
theorem c_cmpOr (g : Nat) (x y : Int) (w : World) (h : Blk w g 3 [.int .i64 x, .int .i64 y]) :
    Calls Try.prog 182 #[.slice (some ⟨g, 0, none⟩) 2 2] w (fun e w' => e = .returned (.int .i64 (orI x y)) ∧ w = w') := by
  have h0 := h.cell (i := 0) (by simp); have h1 := h.cell (i := 1) (by simp)
  simp only [List.getElem_cons_zero, List.getElem_cons_succ] at h0 h1
  go_enter Try.func182, Try.ntmps182
  go_wp2
  go_loop [8, 5] (fun i _ => ∃ k : Nat, k ≤ 2 ∧ i = .int .i64 k ∧ Hid (1 ≤ k → x = 0) ∧ Hid (2 ≤ k → y = 0)) (fun i _ => 2 - (intOf i).toNat)
  case atStart => exact ⟨0, by omega, rfl, Lib.hid (by omega), Lib.hid (by omega)⟩
  case round =>
    obtain ⟨k, hk, rfl, HX, HY⟩ := hrel
    by_cases hlt : k < 2
    · rcases (show k = 0 ∨ k = 1 by omega) with rfl | rfl
      · by_cases hx : x = 0
        · have hz : (x != 0) = false := by simp [hx]
          have HZ := Lib.hid hx; clear hx
          go_wp2
          go_round
          case rel => exact ⟨1, by omega, by go_num, Lib.hid (fun _ => HZ.out), Lib.hid (by omega)⟩
          case measure => simp [intOf]
        · have hz : (x != 0) = true := by simp [hx]
          have HR : Hid (x = orI x y) := Lib.hid (by unfold orI; rw [if_neg hx])
          clear hx
          go_wp2
          go_ret
          exact ⟨ret_int HR.out, rfl⟩
      · by_cases hy : y = 0
        · have hz : (y != 0) = false := by simp [hy]
          have HZ := Lib.hid hy; clear hy
          go_wp2
          go_round
          case rel => exact ⟨2, by omega, by go_num, Lib.hid (fun _ => HX.out (by omega)), Lib.hid (fun _ => HZ.out)⟩
          case measure => simp [intOf]
        · have hz : (y != 0) = true := by simp [hy]
          have HR : Hid (y = orI x y) := Lib.hid (by unfold orI; rw [if_pos (HX.out (by omega))])
          clear hy
          go_wp2
          go_ret
          exact ⟨ret_int HR.out, rfl⟩
    · obtain rfl : k = 2 := by omega
      have HR : Hid (0 = orI x y) := Lib.hid (by unfold orI; rw [if_pos (HX.out (by omega)), HY.out (by omega)])
      go_wp2
      go_ret
      exact ⟨ret_int HR.out, rfl⟩

set_option maxRecDepth 100000 in
set_option maxHeartbeats 4000000 in
theorem c_compareSolutions (v0 u0 : Value) (A B : List (List Int)) (v1 u1 : Value) (C D : List (List Int)) (w : World) (hA : Sol w v0 u0 A B) (hC : Sol w v1 u1 C D)  :
    Calls Try.prog 173 #[.agg #[v0, u0], .agg #[v1, u1]] w (RVal w (.int .i64 (orI (cmpR A C) (cmpR B D)))) := by
  obtain ⟨a0, c0, rfl, _, _⟩ := hA.1.shape
  obtain ⟨a0s, c0s, rfl, _, _⟩ := hA.2.shape
  obtain ⟨a1, c1, rfl, _, _⟩ := hC.1.shape
  obtain ⟨a1s, c1s, rfl, _, _⟩ := hC.2.shape
  go_enter Try.func173, Try.ntmps173
  go_wp2
  obtain ⟨f0, f1, hW0, hsz⟩ := boxes2 w [.slice a0 A.length c0, .slice a0s B.length c0s] [.slice a1 C.length c1, .slice a1s D.length c1s] 27 27
  obtain ⟨W0, hW⟩ : ∃ W, ((w.alloc (.cells #[.slice a0 A.length c0, .slice a0s B.length c0s] 27)).alloc (.cells #[.slice a1 C.length c1, .slice a1s D.length c1s] 27)) = W := ⟨_, rfl⟩
  rw [hW] at f0 f1 hW0 hsz ⊢
  have HSZ := Lib.hid hsz
  clear hW hsz
  obtain ⟨cA0, cB0, -, -⟩ := two_cells f0
  obtain ⟨cA1, cB1, -, -⟩ := two_cells f1
  have HA1 := Lib.hid (hA.1.below hW0); have HA2 := Lib.hid (hA.2.below hW0); have HC1 := Lib.hid (hC.1.below hW0); have HC2 := Lib.hid (hC.2.below hW0); have HBW := Lib.hid hW0
  have HSk : Hid (∀ w' : World, Below W0.heap.size W0 w' → w'.cell? ⟨w.heap.size, 0, none⟩ = some (.slice a0 A.length c0) ∧ w'.cell? ⟨w.heap.size, 1, none⟩ = some (.slice a0s B.length c0s) ∧ w'.cell? ⟨w.heap.size + 1, 0, none⟩ = some (.slice a1 C.length c1) ∧ w'.cell? ⟨w.heap.size + 1, 1, none⟩ = some (.slice a1s D.length c1s)) := Lib.hid (fun w' hb => ⟨(two_cells (f0.under hb)).1, (two_cells (f0.under hb)).2.1, (two_cells (f1.under hb)).1, (two_cells (f1.under hb)).2.1⟩)
  clear hA hC hW0 f0 f1
  go_region_held3 (fun w' => w'.cell? ⟨w.heap.size, 0, none⟩ = some (.slice a0 A.length c0) ∧ w'.cell? ⟨w.heap.size, 1, none⟩ = some (.slice a0s B.length c0s) ∧ w'.cell? ⟨w.heap.size + 1, 0, none⟩ = some (.slice a1 C.length c1) ∧ w'.cell? ⟨w.heap.size + 1, 1, none⟩ = some (.slice a1s D.length c1s))
    (first | go_keep | exact HSk.out _ (Below.refl _ _).drew | exact HSk.out _ HX1.out | exact HSk.out _ HX2.out | exact HSk.out _ HX3.out)
    ((first
      | (go_at_call 119; (with_reducible refine (c_compareTables _ _ A C _ (HA1.out.below (Below.refl _ _).drew) (HC1.out.below (Below.refl _ _).drew)).mono ?_); rintro e w1 ⟨rfl, n1, hw1⟩; have HX1 := Lib.hid (show Below W0.heap.size W0 w1 by rw [hw1]; exact below_drewN (Below.refl _ _).drew n1); clear hw1)
      | (go_at_call 119; (with_reducible refine (c_compareTables _ _ B D _ (HA2.out.below HX1.out) (HC2.out.below HX1.out)).mono ?_); rintro e w2 ⟨rfl, n2, hw2⟩; have HX2 := Lib.hid (show Below W0.heap.size W0 w2 by rw [hw2]; exact below_drewN HX1.out n2); clear hw2)
      | (go_at_call 182; refine (c_cmpOr w2.heap.size (cmpR A C) (cmpR B D) _ (Blk.new w2 [.int .i64 (cmpR A C), .int .i64 (cmpR B D)] 3)).mono ?_; rintro e w3 ⟨rfl, hw3⟩; have HX3 := Lib.hid (show Below W0.heap.size W0 w3 by rw [← hw3]; exact HX2.out.alloc HX2.out.size _); clear hw3)))
  all_goals
    go_wp2
    go_ret
    exact ⟨rfl, bb HBW.out HX3.out⟩

set_option maxRecDepth 100000 in
set_option maxHeartbeats 4000000 in
theorem c_l02Before (v0 u0 : Value) (A B : List (List Int)) (v1 u1 : Value) (C D : List (List Int)) (w : World) (hA : Sol w v0 u0 A B) (hC : Sol w v1 u1 C D)  :
    Calls Try.prog 172 #[.agg #[v0, u0], .agg #[v1, u1]] w (RVal w (.bool (lexS A B C D))) := by
  obtain ⟨a0, c0, rfl, _, _⟩ := hA.1.shape
  obtain ⟨a0s, c0s, rfl, _, _⟩ := hA.2.shape
  obtain ⟨a1, c1, rfl, _, _⟩ := hC.1.shape
  obtain ⟨a1s, c1s, rfl, _, _⟩ := hC.2.shape
  go_enter Try.func172, Try.ntmps172
  go_wp2_with fail
  obtain ⟨f0, f1, hW0, hsz⟩ := boxes2 w [.slice a0 A.length c0, .slice a0s B.length c0s] [.slice a1 C.length c1, .slice a1s D.length c1s] 27 27
  obtain ⟨W0, hW⟩ : ∃ W, ((w.alloc (.cells #[.slice a0 A.length c0, .slice a0s B.length c0s] 27)).alloc (.cells #[.slice a1 C.length c1, .slice a1s D.length c1s] 27)) = W := ⟨_, rfl⟩
  rw [hW] at f0 f1 hW0 hsz ⊢
  have HSZ := Lib.hid hsz
  clear hW hsz
  obtain ⟨cA0, cB0, -, -⟩ := two_cells f0
  obtain ⟨cA1, cB1, -, -⟩ := two_cells f1
  have HA := Lib.hid (hA.below hW0); have HC := Lib.hid (hC.below hW0); have HBW := Lib.hid hW0
  clear hA hC hW0
  refine (c_l01Same2 _ _ _ _ _ HA.out.1 HC.out.1).mono ?_; rintro e w1 ⟨rfl, hb1⟩
  replace f0 := f0.under hb1; replace f1 := f1.under hb1
  clear cA0 cB0 cA1 cB1
  obtain ⟨cA0, cB0, -, -⟩ := two_cells f0; obtain ⟨cA1, cB1, -, -⟩ := two_cells f1
  have HB1 := Lib.hid hb1; clear hb1
  by_cases he : A = C
  · have hd : decide (A = C) = true := by simp [he]
    have HE := Lib.hid he
    rw [hd]
    clear he
    go_wp2_with fail
    refine (c_l01Less2 _ _ _ _ _ (HA.out.2.below HB1.out) (HC.out.2.below HB1.out)).mono ?_; rintro e w2 ⟨rfl, hb2⟩
    have HB2 := Lib.hid (bb (bb HBW.out HB1.out) hb2)
    clear hb2 f0 f1
    go_wp2
    go_ret
    exact ⟨ret_bool (by unfold lexS; rw [if_pos HE.out]), HB2.out⟩
  · have hd : decide (A = C) = false := by simp [he]
    have HE := Lib.hid he
    rw [hd]
    clear he
    go_wp2_with fail
    refine (c_l01Less2 _ _ _ _ _ (HA.out.1.below HB1.out) (HC.out.1.below HB1.out)).mono ?_; rintro e w2 ⟨rfl, hb2⟩
    have HB2 := Lib.hid (bb (bb HBW.out HB1.out) hb2)
    clear hb2 f0 f1
    go_wp2
    go_ret
    exact ⟨ret_bool (by unfold lexS; rw [if_neg HE.out]), HB2.out⟩

set_option maxRecDepth 100000 in
set_option maxHeartbeats 1600000 in
theorem c_l02Own (v0 u0 : Value) (A B : List (List Int)) (w : World) (hA : Sol w v0 u0 A B) (h1 : A.length ≤ 1048576 ∧ B.length ≤ 1048576) (h2 : (∀ r ∈ A, r.length ≤ 1048576) ∧ ∀ r ∈ B, r.length ≤ 1048576) :
    Calls Try.prog 170 #[.agg #[v0, u0]] w (RSol w A B) := by
  obtain ⟨a0, c0, rfl, _, _⟩ := hA.1.shape
  obtain ⟨a0s, c0s, rfl, _, _⟩ := hA.2.shape
  obtain ⟨h1a, h1b⟩ := h1
  have H2 := Lib.hid h2; clear h2
  go_enter Try.func170, Try.ntmps170
  go_wp2_with fail
  obtain ⟨f0, f1, hW0, hsz⟩ := boxes2 w [.slice a0 A.length c0, .slice a0s B.length c0s] [.slice none 0 0, .slice none 0 0] 27 27
  obtain ⟨W0, hW⟩ : ∃ W, ((w.alloc (.cells #[.slice a0 A.length c0, .slice a0s B.length c0s] 27)).alloc (.cells #[.slice none 0 0, .slice none 0 0] 27)) = W := ⟨_, rfl⟩
  rw [hW] at f0 f1 hW0 hsz ⊢
  clear hW hsz
  have HRA := Lib.hid ((hA.1.below hW0).below (Below.refl _ _).drew); have HRB := Lib.hid ((hA.2.below hW0).below (Below.refl _ _).drew)
  have HFc := Lib.hid f0.drew; have HGc := Lib.hid f1.drew; have HBc := Lib.hid hW0.drew; have HLt := Lib.hid f1.lt
  clear hA hW0 f0 f1
  have zz : W0.drew.cell? ⟨w.heap.size, 0, none⟩ = some (.slice a0 A.length c0) ∧ W0.drew.cell? ⟨w.heap.size, 1, none⟩ = some (.slice a0s B.length c0s) := ⟨(two_cells HFc.out).1, (two_cells HFc.out).2.1⟩
  go_region_held3 (fun w' => w'.cell? ⟨w.heap.size, 0, none⟩ = some (.slice a0 A.length c0) ∧ w'.cell? ⟨w.heap.size, 1, none⟩ = some (.slice a0s B.length c0s))
    (first | go_keep | exact ⟨(two_cells HFc.out).1, (two_cells HFc.out).2.1⟩)
    ((first | (go_at_call 114; (with_reducible refine (c_l01Own2 _ A _ HRA.out h1a H2.out.1).mono ?_); rintro e w1 ⟨r1, rfl, ho1, hb1⟩; obtain ⟨ra1, rc1, hv1, _⟩ := ho1.rows.shape; subst hv1; replace HFc := Lib.hid (HFc.out.under hb1); replace HGc := Lib.hid (HGc.out.under hb1); replace HBc := Lib.hid (bb HBc.out hb1); replace HRB := Lib.hid (HRB.out.below hb1); have HO1 := Lib.hid ho1; have HS1 := Lib.hid hb1.size; clear ho1 hb1) | (go_at_call 114; (with_reducible refine (c_l01Own2 _ B _ HRB.out h1b H2.out.2).mono ?_); rintro e w2 ⟨r2, rfl, ho2, hb2⟩; obtain ⟨ra2, rc2, hv2, _⟩ := ho2.rows.shape; subst hv2; replace HFc := Lib.hid (HFc.out.under hb2); replace HGc := Lib.hid (HGc.out.under hb2); have HB2 := Lib.hid (bb HBc.out hb2); have HO2 := Lib.hid ho2; have HBx := Lib.hid hb2; obtain ⟨z0, z1, z2, z3⟩ := two_cells HGc.out; clear ho2 hb2)))
  obtain ⟨hA, hB⟩ := stored (q := w.heap.size + 1) HB2.out (OwnSol.mk HO1.out HBx.out HO2.out HS1.out) (by omega) HLt.out
  have HA := Lib.hid hA; have HB := Lib.hid hB
  clear hA hB
  go_wp2
  exact bodyPost_ret (v := .agg #[.slice ra1 A.length rc1, .slice ra2 B.length rc2]) (by simp [results, Try.results170, go_sem, z0, z1]) rfl ⟨.slice ra1 A.length rc1, .slice ra2 B.length rc2, rfl, HA.out, HB.out⟩
end Go.Proofs.Ytkcobfkmeaakoaa

namespace Go.Proofs.Ytkcobfkmeaakoaa
open Go Go.RowKit

variable {F : Fence} {n : Nat} {P : Program}

/-- The iterator's contract: it hands the rows of T, one after the other, in a slice that lies in blocks [size at its start, hi); between two rounds it writes these blocks alone. J hi k: what the caller keeps when k rows have come. -/
def SeqRows (F : Fence) (n : Nat) (P : Program) (g : Nat) (lb : Array Value) (T : List (List Int)) (w : World) : Prop :=
  ∀ (l : Nat) (J Jx : Nat → Nat → World → Prop) (W1 : World), Below w.heap.size w W1 →
    (∀ hi k W W', J hi k W → Keep (fun b => W1.heap.size ≤ b ∧ b < hi) W W' → J hi k W') →
    (∀ hi k W W', Jx hi k W → Keep (fun b => W1.heap.size ≤ b ∧ b < hi) W W' → Jx hi k W') →
    (∀ W', Below W1.heap.size W1 W' → J W'.heap.size 0 W') →
    (∀ hi k u W, J hi k W → W1.heap.size ≤ hi → hi ≤ W.heap.size → k < T.length → Ints W u (row T k) → YieldAt F (n - 1) P l #[u] W fun e W' =>
      (e = .returned (.bool true) ∧ J hi (k + 1) W' ∧ Keep (fun b => b < W1.heap.size ∨ hi ≤ b) W W') ∨ (e = .returned (.bool false) ∧ Jx hi (k + 1) W')) →
    CallsIn F n P g (#[.func (.yield l) #[] #[]] ++ lb) W1 fun e W' => (∃ v, e = .returned v) ∧ ((∃ hi, J hi T.length W') ∨ (∃ hi k, Jx hi k W'))

def rowsPost (S0 : Nat → Prop) (I : Nat → Nat → World → Prop) (Ix : Code → Nat → Nat → World → Prop) (hi k : Nat) (W : World) : Exit → Act → World → Prop
  | .normal, _, W' => Keep (fun b => S0 b ∨ hi ≤ b) W W' ∧ I hi k W'
  | .ret, _, W' => Keep (fun b => S0 b ∨ hi ≤ b) W W' ∧ Ix .ret hi k W'
  | .exit id, _, W' => Keep (fun b => S0 b ∨ hi ≤ b) W W' ∧ Ix (.exit id) hi k W'
  | .goto t, _, W' => Keep (fun b => S0 b ∨ hi ≤ b) W W' ∧ Ix (.goto t) hi k W'
  | .panic _, _, _ => False
  | .outgrown, _, _ => False

theorem keep_putObj (W : World) (l : Nat) (o : Obj) : Keep (fun b => b = l) W (W.putObj l o) :=
  (Keep.of_grown (grownBy_putObj' W l o)).mono fun k _ h => by cases h; rfl

theorem wpIn_rangeFunc_rows {g : Operand} {ps : Array Tmp} {assign body : Code} {Q : Exit → Act → World → Prop} {a : Act} {w : World}
    (hro : F.round = none) (h1 : 1 ≤ n) {gf : Nat} {lb : Array Value} (hg : a.eval g = .func (.func gf) #[] lb) (hFg : F.fn gf) (eg : ∀ args w, (callFunc gf args).run P w = .ok (.enter gf args) w)
    (S0 : Nat → Prop) (hS0 : ∀ b, S0 b → b < w.heap.size) {T : List (List Int)} (hseq : SeqRows F (n - 1) P gf lb T w) (hps : ps.size = 1)
    (I : Nat → Nat → World → Prop) (Ix : Code → Nat → Nat → World → Prop)
    (hI : ∀ hi k W W', I hi k W → Keep (fun b => w.heap.size ≤ b ∧ b < hi) W W' → I hi k W')
    (hIx : ∀ c hi k W W', Ix c hi k W → Keep (fun b => w.heap.size ≤ b ∧ b < hi) W W' → Ix c hi k W')
    (h0 : ∀ W', Below w.heap.size w W' → I W'.heap.size 0 W') (a₁ : Value → Act)
    (hassign : ∀ (l : Nat) (u : Value) (W : World) (K : Act → World → Prop), K (a₁ u) W →
      assign.wpIn (F.inRound l) (n - 1 - 1) P (Exit.then K (fun _ _ _ => False)) { tmps := (ps.zip #[u]).foldl (fun t (p, v) => t.setIfInBounds p v) a.tmps, defers := [] } W)
    (hbody : ∀ (l hi k : Nat) (u : Value) (W : World), I hi k W → w.heap.size ≤ hi → hi ≤ W.heap.size → k < T.length → Ints W u (row T k) → body.wpIn (F.inRound l) (n - 1 - 1) P (rowsPost S0 I Ix hi (k + 1) W) (a₁ u) W)
    (hdone : ∀ (D hi : Nat) (W : World), w.heap.size ≤ D → D < hi → I hi T.length W → W.heap[D]? = some (.deferred (some [])) → Q .normal { a with defers := { target := .collected D, args := #[] } :: a.defers } W)
    (hstop : ∀ (D hi k : Nat) (c : Code) (W : World), w.heap.size ≤ D → D < hi → Ix c hi k W → W.heap[D]? = some (.deferred (some [])) → c.wpIn F n P Q { a with defers := { target := .collected D, args := #[] } :: a.defers } W) :
    (Code.rangeFunc g ps assign body).wpIn F n P Q a w := by
  refine wpIn_rangeFunc ?_
  intro fn hfn
  rw [hro]
  obtain ⟨rec, hrec⟩ : ∃ rec : LoopState → Option Code → Loop, rec = fun st pe => { state := st, pending := pe, fn, tmps := a.tmps, params := ps, assign, body, defers := w.heap.size } := ⟨_, rfl⟩
  obtain ⟨W1, hW1⟩ : ∃ W1, (w.alloc (.deferred (some []))).alloc (.loop (rec .ready none)) = W1 := ⟨_, rfl⟩
  have hL1 : W1.heap[w.heap.size + 1]? = some (.loop (rec .ready none)) := by
    rw [← hW1]; have := World.alloc_heap_new (w.alloc (.deferred (some []))) (.loop (rec .ready none)); rwa [World.size_alloc] at this
  have hK1 : W1.heap[w.heap.size]? = some (.deferred (some [])) := by
    rw [← hW1]; exact (Below.heap_alloc _ _ _ (by simp)).trans (World.alloc_heap_new w _)
  have hsz : W1.heap.size = w.heap.size + 2 := by rw [← hW1]; simp
  have hb1 : Below w.heap.size w W1 := by
    rw [← hW1]; exact ((Below.refl _ w).alloc (Nat.le_refl _) _).alloc (by simp) _
  refine ⟨w.heap.size + 1, [{ target := .collected w.heap.size, args := #[] }], W1, { target := .fn (.func gf) lb, args := #[.func (.yield (w.heap.size + 1)) #[] #[]] }, W1, gf,
    #[.func (.yield (w.heap.size + 1)) #[] #[]] ++ lb, W1, ?_, ?_, ?_, ?_, fun _ => h1, ?_⟩
  · rw [← hW1, hrec]; exact run_enterLoop_outer _ _ _ _ _
  · simp only [resolve, hg]
    simp [go_sem]
  · intro f' hf'; simp [Target.leads] at hf'; subst hf'; exact hFg
  · simp [invoke, go_sem, eg]
  · have stepI : ∀ {hi k : Nat} {W : World} (o : Obj), w.heap.size + 2 ≤ hi → I hi k W → I hi k (W.putObj (w.heap.size + 1) o) := fun o hh h =>
      hI _ _ _ _ h ((keep_putObj _ _ _).mono fun b _ e => by subst e; omega)
    have stepIx : ∀ {c : Code} {hi k : Nat} {W : World} (o : Obj), w.heap.size + 2 ≤ hi → Ix c hi k W → Ix c hi k (W.putObj (w.heap.size + 1) o) := fun o hh h =>
      hIx _ _ _ _ _ h ((keep_putObj _ _ _).mono fun b _ e => by subst e; omega)
    have keptAt : ∀ {hi b : Nat} {W W' : World}, b < W1.heap.size → W1.heap.size ≤ W.heap.size → Keep (fun b => W1.heap.size ≤ b ∧ b < hi) W W' → W'.heap[b]? = W.heap[b]? := fun hb hW hk =>
      hk.block _ (by omega) (by omega)
    refine (hseq (w.heap.size + 1)
      (fun hi k W => I hi k W ∧ W.heap[w.heap.size + 1]? = some (.loop (rec .ready none)) ∧ W.heap[w.heap.size]? = some (.deferred (some [])) ∧ w.heap.size + 2 ≤ hi ∧ W1.heap.size ≤ W.heap.size)
      (fun hi k W => ∃ c, Ix c hi k W ∧ W.heap[w.heap.size + 1]? = some (.loop (rec .done (some c))) ∧ W.heap[w.heap.size]? = some (.deferred (some [])) ∧ w.heap.size + 2 ≤ hi ∧ W1.heap.size ≤ W.heap.size)
      W1 hb1 ?_ ?_ ?_ ?_).mono ?_
    · rintro hi k W W' ⟨h, hl, hk, hh, hs⟩ hkeep
      exact ⟨hI _ _ _ _ h (hkeep.mono fun b _ hb => ⟨by omega, hb.2⟩), (keptAt (by omega) hs hkeep).trans hl, (keptAt (by omega) hs hkeep).trans hk, hh, Nat.le_trans hs hkeep.size⟩
    · rintro hi k W W' ⟨c, h, hl, hk, hh, hs⟩ hkeep
      exact ⟨c, hIx _ _ _ _ _ h (hkeep.mono fun b _ hb => ⟨by omega, hb.2⟩), (keptAt (by omega) hs hkeep).trans hl, (keptAt (by omega) hs hkeep).trans hk, hh, Nat.le_trans hs hkeep.size⟩
    · intro W' hb
      exact ⟨h0 W' (bb hb1 hb), (hb.block _ (by omega)).trans hL1, (hb.block _ (by omega)).trans hK1, by have := hb.size; omega, hb.size⟩
    · -- ONE ROUND
      rintro hi k u W ⟨hi0, hl, hk, hh, hs⟩ hlo hhi hlen hu
      have hlt : w.heap.size + 1 < W.heap.size := (Array.getElem?_eq_some_iff.1 hl).1
      have hy := run_yield (P := P) (args := #[u]) hl (by rw [hrec]; simpa using hps.symm)
      rw [hrec] at hy
      refine ⟨fn, _, assign, body, hy, roundIn_of_wpIn hfn (hassign _ u W _ ⟨_, run_beginRound hl (by rw [hrec]), ?_⟩)⟩
      obtain ⟨W2, hW2⟩ : ∃ W2, W.putObj (w.heap.size + 1) (.loop { rec .ready none with state := .busy }) = W2 := ⟨_, rfl⟩
      have hl2 : W2.heap[w.heap.size + 1]? = some (.loop { rec .ready none with state := .busy }) := by rw [← hW2]; exact World.putObj_heap_same hlt
      have hk2 : W2.heap[w.heap.size]? = some (.deferred (some [])) := by rw [← hW2]; exact (World.putObj_heap_other (by omega)).trans hk
      have kp2 : Keep (fun b => b = w.heap.size + 1) W W2 := by rw [← hW2]; exact keep_putObj _ _ _
      have hi2 : I hi k W2 := by rw [← hW2]; exact stepI _ hh hi0
      have hu2 : Ints W2 u (row T k) := by
        obtain ⟨ua, uc, hv, huc, hum, hcell⟩ := hu
        refine ⟨ua, uc, hv, huc, hum, fun i hi' => ?_⟩
        obtain ⟨b, o, e, hc⟩ := hcell i hi'
        refine ⟨b, o, e, ?_⟩
        have hb : b ≠ w.heap.size + 1 := by
          rintro rfl
          simp [World.cell?, hl] at hc
        have hblt : b < W.heap.size := by
          rcases Nat.lt_or_ge b W.heap.size with h | h
          · exact h
          · simp [World.cell?, Array.getElem?_eq_none h] at hc
        simp only [World.cell?] at hc ⊢
        rw [kp2.block b hblt hb]
        exact hc
      rw [hW2]
      refine wpIn_mono (hbody _ hi k u W2 hi2 (by omega) (Nat.le_trans hhi kp2.size) hlen hu2) ?_
      have fin : ∀ (jump : Option Code) (W3 : World), Keep (fun b => S0 b ∨ hi ≤ b) W2 W3 →
          (Instr.endRound (w.heap.size + 1) jump).run P W3 = .ok (.bool jump.isNone) (W3.putObj (w.heap.size + 1) (.loop (rec (if jump.isNone then .ready else .done) jump))) ∧
          (W3.putObj (w.heap.size + 1) (.loop (rec (if jump.isNone then .ready else .done) jump))).heap[w.heap.size + 1]? = some (.loop (rec (if jump.isNone then .ready else .done) jump)) ∧
          (W3.putObj (w.heap.size + 1) (.loop (rec (if jump.isNone then .ready else .done) jump))).heap[w.heap.size]? = some (.deferred (some [])) ∧ W1.heap.size ≤ (W3.putObj (w.heap.size + 1) (.loop (rec (if jump.isNone then .ready else .done) jump))).heap.size ∧
          Keep (fun b => b < W1.heap.size ∨ hi ≤ b) W (W3.putObj (w.heap.size + 1) (.loop (rec (if jump.isNone then .ready else .done) jump))) := fun jump W3 hk3 => by
        have hno : ∀ b, w.heap.size ≤ b → b < w.heap.size + 2 → ¬ (S0 b ∨ hi ≤ b) := fun b h1 h2 h => by
          rcases h with h | h
          · have := hS0 b h; omega
          · omega
        have hsz2 : W2.heap.size = W.heap.size := by rw [← hW2]; simp [World.putObj]
        have hl3 := (hk3.block (w.heap.size + 1) (by omega) (hno _ (by omega) (by omega))).trans hl2
        have hd3 := (hk3.block (w.heap.size) (by omega) (hno _ (by omega) (by omega))).trans hk2
        have := run_endRound (P := P) jump hl3
        rw [hrec] at this ⊢
        refine ⟨this, World.putObj_heap_same (Array.getElem?_eq_some_iff.1 hl3).1, (World.putObj_heap_other (by omega)).trans hd3, Nat.le_trans hs (Nat.le_trans kp2.size (Nat.le_trans hk3.size (keep_putObj _ _ _).size)), ?_⟩
        refine ((kp2.mono (fun b _ e => ?_)).trans (hk3.mono (fun b _ e => ?_))).trans ((keep_putObj _ _ _).mono (fun b _ e => ?_))
        · exact .inl (by subst e; omega)
        · rcases e with e | e
          · exact .inl (by have := hS0 b e; omega)
          · exact .inr e
        · exact .inl (by subst e; omega)
      rintro e a3 W3 hp
      cases e with
      | normal =>
        obtain ⟨hk3, hi3⟩ := hp
        obtain ⟨hr, hl4, hk4, hs4, hkk⟩ := fin none W3 hk3
        exact ⟨_, _, hr, .inl ⟨rfl, ⟨stepI _ hh hi3, hl4, hk4, hh, hs4⟩, hkk⟩⟩
      | ret =>
        obtain ⟨hk3, hi3⟩ := hp
        obtain ⟨hr, hl4, hk4, hs4, hkk⟩ := fin (some .ret) W3 hk3
        exact ⟨_, _, hr, .inr ⟨rfl, .ret, stepIx _ hh hi3, hl4, hk4, hh, hs4⟩⟩
      | exit id =>
        obtain ⟨hk3, hi3⟩ := hp
        obtain ⟨hr, hl4, hk4, hs4, hkk⟩ := fin (some (.exit id)) W3 hk3
        exact ⟨_, _, hr, .inr ⟨rfl, .exit id, stepIx _ hh hi3, hl4, hk4, hh, hs4⟩⟩
      | goto t =>
        obtain ⟨hk3, hi3⟩ := hp
        obtain ⟨hr, hl4, hk4, hs4, hkk⟩ := fin (some (.goto t)) W3 hk3
        exact ⟨_, _, hr, .inr ⟨rfl, .goto t, stepIx _ hh hi3, hl4, hk4, hh, hs4⟩⟩
      | panic ch => exact hp.elim
      | outgrown => exact hp.elim
    · -- BEHIND THE ITERATOR
      rintro e W2 ⟨⟨v, rfl⟩, (⟨hi, h, hl, hk, hh, hs⟩ | ⟨hi, k, c, h, hl, hk, hh, hs⟩)⟩
      · exact ⟨none, _, by have := run_endLoop (P := P) hl (by rw [hrec]; simp); rw [hrec] at this; exact this, hdone _ hi _ (Nat.le_refl _) (by omega) (stepI _ hh h) ((World.putObj_heap_other (by omega)).trans hk)⟩
      · exact ⟨some c, _, by have := run_endLoop (P := P) hl (by rw [hrec]; simp); rw [hrec] at this; exact this, hstop _ hi k c _ (Nat.le_refl _) (by omega) (stepIx _ hh h) ((World.putObj_heap_other (by omega)).trans hk)⟩
end Go.Proofs.Ytkcobfkmeaakoaa

namespace Go.Proofs.Ytkcobfkmeaakoaa
open Go.RowKit

theorem rowOf_set (n : Nat) (g : Int → Int) (k : Nat) (v : Int) : (rowOf n g).set k v = rowOf n (fun x => if x = k then v else g x) := by
  apply List.ext_getElem (by simp)
  intro i h1 h2
  have hi : i < n := by simpa using h2
  rw [List.getElem_set]
  simp only [rowOf, List.getElem_map, List.getElem_range]
  by_cases e : k = i
  · subst e; simp
  · rw [if_neg e, if_neg (by omega)]
/-- The list after r exchanges. -/
def revG (mid : List Int) (r : Nat) (x : Int) : Int := if x < r ∨ (mid.length : Int) - r ≤ x then nth mid (mid.length - 1 - x) else nth mid x
theorem revG_zero (mid : List Int) : rowOf mid.length (revG mid 0) = mid := by
  apply ext_nth (by simp)
  intro k hk
  have hk' : k < mid.length := by simpa using hk
  rw [nth_rowOf _ _ _ hk']
  unfold revG
  rw [if_neg (by omega)]
theorem revG_done (mid : List Int) (r : Nat) (h : (mid.length : Int) - 1 - r ≤ r) : rowOf mid.length (revG mid r) = mid.reverse := by
  apply ext_nth (by simp)
  intro k hk
  have hk' : k < mid.length := by simpa using hk
  rw [nth_rowOf _ _ _ hk', nth_nat _ _ (by simpa using hk'), List.getElem_reverse]
  have e : nth mid ((mid.length : Int) - 1 - k) = mid[mid.length - 1 - k] := by
    rw [show (mid.length : Int) - 1 - k = ((mid.length - 1 - k : Nat) : Int) from by omega, nth_nat]
  unfold revG
  by_cases c : (k : Int) < r ∨ (mid.length : Int) - r ≤ k
  · rw [if_pos c, e]
  · rw [if_neg c]
    have : (k : Int) = (mid.length : Int) - 1 - k := by omega
    rw [this, e]
theorem revG_step (mid : List Int) (r q : Nat) (hq : (q : Int) = (mid.length : Int) - 1 - r) (hlt : r < q) :
    rowOf mid.length (fun x => if x = q then revG mid r r else if x = r then revG mid r q else revG mid r x) = rowOf mid.length (revG mid (r + 1)) := by
  apply rowOf_congr
  intro y hy
  have e1 : revG mid r r = nth mid r := by unfold revG; rw [if_neg (by omega)]
  have e2 : revG mid r q = nth mid q := by unfold revG; rw [if_neg (by omega)]
  by_cases c1 : (y : Int) = q
  · rw [if_pos c1, e1]
    unfold revG
    rw [if_pos (by omega)]
    congr 1; omega
  · rw [if_neg c1]
    by_cases c2 : (y : Int) = r
    · rw [if_pos c2, e2]
      unfold revG
      rw [if_pos (by omega)]
      congr 1; omega
    · rw [if_neg c2]
      unfold revG
      by_cases c3 : (y : Int) < r ∨ (mid.length : Int) - r ≤ y
      · rw [if_pos c3, if_pos (by omega)]
      · rw [if_neg c3, if_neg (by omega)]

/-- The cell of the middle part of a block. -/
theorem Blk.mid {w : World} {b : Nat} {t : TypeId} {pre post : List Value} {m : Nat} {g : Int → Int} (h : Blk w b t (pre ++ ((rowOf m g).map (Value.int .i64) ++ post))) {o : Nat} (ho : o = pre.length) (k : Nat) (hk : k < m) :
    w.cell? ⟨b, o + k, none⟩ = some (.int .i64 (g k)) := by
  subst ho
  rw [h.cell (by simp; omega), List.getElem_append_right (by omega), List.getElem_append_left (by simp; omega)]
  simp [rowOf]
theorem Blk.midSet {w : World} {b : Nat} {t : TypeId} {pre post : List Value} {m : Nat} {g : Int → Int} (h : Blk w b t (pre ++ ((rowOf m g).map (Value.int .i64) ++ post))) {o : Nat} (ho : o = pre.length) (k : Nat) (hk : k < m) (v : Int) :
    Blk (w.setCell ⟨b, o + k, none⟩ (.int .i64 v)) b t (pre ++ ((rowOf m (fun x => if x = k then v else g x)).map (Value.int .i64) ++ post)) := by
  have := h.set (o + k) (.int .i64 v)
  subst ho
  rw [List.set_append, if_neg (by omega), show pre.length + k - pre.length = k from by omega, List.set_append, if_pos (by simp; omega), ← List.map_set, rowOf_set] at this
  exact this

set_option maxRecDepth 100000 in
set_option maxHeartbeats 1000000 in
theorem c_Reverse (b o c : Nat) (mid : List Int) (pre post : List Value) (w : World) (ho : o = pre.length) (hm : mid.length ≤ 1048576) (hc : mid.length ≤ c) (hc2 : c ≤ 1048576) (h : Blk w b 2 (pre ++ (mid.map (Value.int .i64) ++ post))) :
    Calls Try.prog 179 #[.slice (some ⟨b, o, none⟩) mid.length c] w fun e w' => (∃ v, e = .returned v) ∧ Blk w' b 2 (pre ++ (mid.reverse.map (Value.int .i64) ++ post)) ∧ Keep (fun x => x = b) w w' := by
  rw [← revG_zero mid] at h
  have HO := Lib.hid ho
  go_enter Try.func179, Try.ntmps179
  go_wp2
  have HB0 := Lib.hid h; clear h ho
  go_loopw [2, 3] (fun i j wr => ∃ (r : Nat) (J : Int), i = .int .i64 r ∧ j = .int .i64 J ∧ Hid (J = mid.length - 1 - r) ∧ r ≤ mid.length ∧ -2000000 ≤ J ∧ J ≤ 1048576 ∧ Hid (Blk wr b 2 (pre ++ ((rowOf mid.length (revG mid r)).map (Value.int .i64) ++ post))) ∧ Hid (Keep (fun x => x = b) w wr)) (fun i _ _ => mid.length - (intOf i).toNat)
  case atStart => exact ⟨0, _, rfl, rfl, Lib.hid (by omega), by omega, by omega, by omega, HB0, Lib.hid (Keep.refl _ _)⟩
  case round =>
    clear HB0
    obtain ⟨r, J, rfl, rfl, HJ, hr, hJ0, hJ1, HB, HK⟩ := hrel
    by_cases hlt : (r : Int) < J
    · obtain ⟨q, rfl⟩ : ∃ q : Nat, J = q := ⟨J.toNat, by omega⟩
      have hq1 : q < mid.length := by have := HJ.out; omega
      have hr1 : r < mid.length := by omega
      have h1 := HB.out.mid HO.out r hr1
      have h2 := HB.out.mid HO.out q hq1
      have f1 := HB.out.frozen (o + r)
      have f2 := HB.out.frozen (o + q)
      go_wp2
      go_region
      go_wp2
      go_roundw
      case rel =>
        refine ⟨r + 1, _, by go_num, rfl, Lib.hid (by have := HJ.out; omega), by omega, by omega, by omega, Lib.hid ?_, Lib.hid ?_⟩
        · have hb2 := (HB.out.midSet HO.out r hr1 (revG mid r q)).midSet HO.out q hq1 (revG mid r r)
          rw [revG_step mid r q HJ.out (by omega)] at hb2
          exact hb2
        · exact ((HK.out.setCell (p := ⟨b, o + r, none⟩) (.inl rfl) _).setCell (p := ⟨b, o + q, none⟩) (.inl rfl) _).drew
      case measure => simp [intOf]; omega
    · have hge : J ≤ (r : Int) := by omega
      clear hlt
      go_wp2
      go_end0
      refine ⟨⟨_, rfl⟩, ?_, HK.out⟩
      have := HB.out
      rwa [revG_done mid r (by have := HJ.out; omega)] at this
theorem c_Reverse' (b o c L : Nat) (mid : List Int) (pre post : List Value) (w : World) (hL : mid.length = L) (ho : o = pre.length) (hm : mid.length ≤ 1048576) (hc : mid.length ≤ c) (hc2 : c ≤ 1048576) (h : Blk w b 2 (pre ++ (mid.map (Value.int .i64) ++ post))) :
    Calls Try.prog 179 #[.slice (some ⟨b, o, none⟩) L c] w fun e w' => (∃ v, e = .returned v) ∧ Blk w' b 2 (pre ++ (mid.reverse.map (Value.int .i64) ++ post)) ∧ Keep (fun x => x = b) w w' := by
  subst hL; exact c_Reverse b o c mid pre post w ho hm hc hc2 h

theorem split_at (p : List Int) (m q : Nat) (h1 : m < q) (h2 : q < p.length) :
    ∃ (u d1 d2 : List Int) (a b : Int), p = u ++ a :: (d1 ++ b :: d2) ∧ u.length = m ∧ d1.length = q - m - 1 ∧ a = nth p m ∧ b = nth p q ∧ ∀ x ∈ d2, ∃ j : Nat, q < j ∧ j < p.length ∧ nth p j = x := by
  refine ⟨p.take m, (p.drop (m + 1)).take (q - m - 1), p.drop (q + 1), nth p m, nth p q, ?_, by simp; omega, by simp; omega, rfl, rfl, fun x hx => ?_⟩
  · have e1 : p = p.take m ++ p.drop m := (List.take_append_drop m p).symm
    have e2 : p.drop m = nth p m :: p.drop (m + 1) := by rw [List.drop_eq_getElem_cons (by omega), nth_nat _ _ (by omega)]
    have e3 : p.drop (m + 1) = (p.drop (m + 1)).take (q - m - 1) ++ (p.drop (m + 1)).drop (q - m - 1) := (List.take_append_drop _ _).symm
    have e4 : (p.drop (m + 1)).drop (q - m - 1) = nth p q :: p.drop (q + 1) := by
      rw [List.drop_drop, show m + 1 + (q - m - 1) = q from by omega, List.drop_eq_getElem_cons h2, nth_nat _ _ h2]
    rw [e4] at e3
    rw [e3] at e2
    rw [e2] at e1
    exact e1
  · obtain ⟨k, hk, rfl⟩ := List.getElem_of_mem hx
    have hk' : q + 1 + k < p.length := by simp at hk; omega
    refine ⟨q + 1 + k, by omega, hk', ?_⟩
    rw [nth_nat _ _ hk', List.getElem_drop]
theorem swap_split {p u d1 d2 : List Int} {a b : Int} {m q : Nat} (hpe : p = u ++ a :: (d1 ++ b :: d2)) (hu : u.length = m) (hd : d1.length = q - m - 1) (h : m < q) :
    ((p.map (Value.int .i64)).set m (.int .i64 b)).set q (.int .i64 a) = (u ++ [b]).map (Value.int .i64) ++ ((d1 ++ a :: d2).map (Value.int .i64) ++ []) := by
  subst hpe hu
  obtain rfl : q = u.length + (d1.length + 1) := by omega
  simp [List.set_append]
theorem drop_split {p u r : List Int} {a : Int} {m : Nat} (hpe : p = u ++ a :: r) (hu : u.length = m) : p.drop (m + 1) = r := by
  subst hpe hu
  rw [List.drop_append, List.drop_of_length_le (by omega), show u.length + 1 - u.length = 1 from by omega]
  rfl

def NextPost (b : Nat) (p : List Int) (w0 : World) (e : Ending) (w' : World) : Prop :=
  (∃ q, IsNext p q ∧ e = .returned (.bool true) ∧ Blk w' b 2 (q.map (Value.int .i64)) ∧ Keep (fun x => x = b) w0 w') ∨ (Desc p ∧ e = .returned (.bool false) ∧ Keep (fun x => x = b) w0 w')
theorem desc_step {p : List Int} {m : Nat} (h : m + 1 < p.length) (hd : Desc (p.drop (m + 1))) (hgt : nth p (m + 1 : Nat) < nth p m) : Desc (p.drop m) := by
  rw [List.drop_eq_getElem_cons (by omega)]
  refine List.pairwise_cons.2 ⟨fun x hx => ?_, hd⟩
  have h0 := hd
  rw [List.drop_eq_getElem_cons h] at hx h0
  rw [nth_nat _ _ h, nth_nat _ _ (by omega)] at hgt
  rcases List.mem_cons.1 hx with e | e
  · subst e; exact hgt
  · have := (List.pairwise_cons.1 h0).1 x e; omega

set_option maxRecDepth 100000 in
set_option maxHeartbeats 2000000 in
theorem c_nextPermutation (b : Nat) (p : List Int) (w : World) (hp : Permuted p) (h1 : 1 ≤ p.length) (hn : p.length ≤ 1048576) (h : Blk w b 2 (p.map (Value.int .i64))) :
    Calls Try.prog 161 #[.slice (some ⟨b, 0, none⟩) p.length p.length] w (NextPost b p w) := by
  have HP := Lib.hid hp; have HBk := Lib.hid h; clear h hp
  go_enter Try.func161, Try.ntmps161
  go_wp2
  go_loopw [3] (fun i wr => ∃ I : Int, i = .int .i64 I ∧ -1 ≤ I ∧ I ≤ (p.length : Int) - 2 ∧ Hid (∃ n, wr = w.drewN n) ∧ Hid (Desc (p.drop (I + 1).toNat))) (fun i _ => (intOf i + 1).toNat)
  case atStart =>
    refine ⟨_, rfl, by omega, by omega, Lib.hid ⟨0, rfl⟩, Lib.hid ?_⟩
    rw [show ((p.length : Int) - 2 + 1).toNat = p.length - 1 from by omega, List.drop_eq_getElem_cons (by omega), List.drop_of_length_le (by omega)]
    exact List.pairwise_singleton _ _
  case round =>
    obtain ⟨I, rfl, hI0, hI1, HN, HD⟩ := hrel
    by_cases h0 : 0 ≤ I
    · obtain ⟨m, rfl⟩ : ∃ m : Nat, I = m := ⟨I.toNat, by omega⟩
      have hb : Blk wr b 2 (p.map (Value.int .i64)) := by obtain ⟨n, hn⟩ := HN.out; rw [hn]; exact HBk.out.drewN n
      have k1 : wr.cell? ⟨b, m, none⟩ = some (.int .i64 (nth p m)) := by rw [hb.cell (by simp; omega)]; simp [nth_nat _ _ (show m < p.length by omega)]
      have k2 : wr.cell? ⟨b, m + 1, none⟩ = some (.int .i64 (nth p ((m : Int) + 1))) := by
        rw [hb.cell (by simp; omega), show (m : Int) + 1 = ((m + 1 : Nat) : Int) from by omega, nth_nat _ _ (show m + 1 < p.length by omega)]; simp
      have hm1 : (m : Int) < p.length := by omega
      have hm2 : (m : Int) + 1 < p.length := by omega
      have hm3 : (0 : Int) ≤ (m : Int) + 1 := by omega
      have Hb := Lib.hid hb
      clear hb
      obtain ⟨wo, rfl⟩ : ∃ wo : World, wo = wr := ⟨_, rfl⟩
      by_cases hc : nth p ((m : Int) + 1) < nth p m
      · have hc1 : decide (nth p ((m : Int) + 1) < nth p m) = true := by simp [hc]
        have HC := Lib.hid hc; clear hc
        go_wp2
        go_quiet (fail)
        go_wp2
        go_roundw
        case rel =>
          refine ⟨_, rfl, by omega, by omega, by obtain ⟨n, hn⟩ := HN.out; exact Lib.hid ⟨n + _, by rw [hn]; exact World.drewN_drewN w n _⟩, Lib.hid ?_⟩
          rw [show ((m : Int) - 1 + 1).toNat = m from by omega]
          refine desc_step (by omega) ?_ ?_
          · have h := HD.out; rwa [show ((m : Int) + 1).toNat = m + 1 from by omega] at h
          · have h := HC.out; rwa [show ((m + 1 : Nat) : Int) = (m : Int) + 1 from by omega]
        case measure => simp [intOf] <;> omega
      · have hc1 : decide (nth p ((m : Int) + 1) < nth p m) = false := by simp; omega
        have HC := Lib.hid hc; clear hc
        go_wp2
        go_quiet (fail)
        go_wp2
        go_loopw [4] (fun kk wr => ∃ q : Nat, kk = .int .i64 q ∧ m + 1 ≤ q ∧ q < p.length ∧ Hid (∃ n, wr = wo.drewN n) ∧ Hid (∀ j : Nat, q < j → j < p.length → nth p j < nth p m)) (fun kk _ => (intOf kk).toNat)
        case atStart => exact ⟨p.length - 1, by congr 1; omega, by omega, by omega, Lib.hid ⟨_, rfl⟩, Lib.hid (by intro j h1 h2; omega)⟩
        case round =>
          obtain ⟨q, rfl, hq0, hq1, HN2, HA⟩ := hrel
          have hb2 : Blk wr b 2 (p.map (Value.int .i64)) := by obtain ⟨n, hn⟩ := HN2.out; rw [hn]; exact Hb.out.drewN n
          have k1 : wr.cell? ⟨b, m, none⟩ = some (.int .i64 (nth p m)) := by rw [hb2.cell (by simp; omega)]; simp [nth_nat _ _ (show m < p.length by omega)]
          have k3 : wr.cell? ⟨b, q, none⟩ = some (.int .i64 (nth p q)) := by rw [hb2.cell (by simp; omega)]; simp [nth_nat _ _ (show q < p.length by omega)]
          have f1 := hb2.frozen m
          have f3 := hb2.frozen q
          have Hb2 := Lib.hid hb2; clear hb2
          by_cases hd : nth p q < nth p m
          · have hd1 : decide (nth p q < nth p m) = true := by simp [hd]
            have hq2 : m + 1 < q := by
              rcases Nat.lt_or_ge (m + 1) q with h | h
              · exact h
              · have : q = m + 1 := by omega
                subst this
                have h2 := HC.out
                rw [show ((m + 1 : Nat) : Int) = (m : Int) + 1 from by omega] at hd
                omega
            have HD2 := Lib.hid hd; clear hd
            go_wp2
            go_quiet (fail)
            go_wp2
            go_roundw
            case rel =>
              refine ⟨q - 1, by congr 1; omega, by omega, by omega, by obtain ⟨n, hn⟩ := HN2.out; exact Lib.hid ⟨n + _, by rw [hn]; exact World.drewN_drewN wo n _⟩, Lib.hid fun j h1 h2 => ?_⟩
              by_cases e : j = q
              · subst e; exact HD2.out
              · exact HA.out j (by omega) h2
            case measure => simp [intOf]; omega
          · have hd1 : decide (nth p q < nth p m) = false := by simp; omega
            have HD2 := Lib.hid hd; clear hd
            go_wp2
            go_quiet (fail)
            obtain ⟨W, hW⟩ : ∃ W, wr.drewN nq = W := ⟨_, rfl⟩
            have hbW : Blk W b 2 (p.map (Value.int .i64)) := by rw [← hW]; exact Hb2.out.drewN nq
            have hkW : Keep (fun x => x = b) w W := by
              obtain ⟨n1, e1⟩ := HN.out; obtain ⟨n2, e2⟩ := HN2.out
              rw [← hW, e2, e1]; exact (((Keep.refl _ w).drewN n1).drewN n2).drewN nq
            rw [hW]
            clear k1 k2 k3 f1 f3 hW
            have g1 : W.cell? ⟨b, m, none⟩ = some (.int .i64 (nth p m)) := by rw [hbW.cell (by simp; omega)]; simp [nth_nat _ _ (show m < p.length by omega)]
            have g3 : W.cell? ⟨b, q, none⟩ = some (.int .i64 (nth p q)) := by rw [hbW.cell (by simp; omega)]; simp [nth_nat _ _ (show q < p.length by omega)]
            have f1 := hbW.frozen m
            have f3 := hbW.frozen q
            have hqI : (q : Int) < p.length := by omega
            obtain ⟨u, d1, d2, a, c, hpe, hu, hdl, rfl, rfl, hlt⟩ := split_at p m q (by omega) hq1
            have hac : nth p m < nth p q := by
              have h1 := HD2.out
              have h2 : nth p m ≠ nth p q := fun e => by
                have := HP.out.inj (x := m) (y := q) (by omega) (by omega) (by omega) (by omega) e
                omega
              omega
            have hnext : IsNext p (u ++ nth p q :: (d1 ++ nth p m :: d2).reverse) := by
              refine ⟨u, d1, d2, _, _, hpe, rfl, ?_, hac, fun x hx => ?_⟩
              · have h := HD.out
                rw [show ((m : Int) + 1).toNat = m + 1 from by omega, drop_split hpe hu] at h
                exact h
              · obtain ⟨j, h1, h2, rfl⟩ := hlt x hx
                exact HA.out j h1 h2
            have hset := (hbW.set m (.int .i64 (nth p q))).set q (.int .i64 (nth p m))
            rw [swap_split hpe hu hdl (by omega)] at hset
            have hml : (d1 ++ nth p m :: d2).length = p.length - (m + 1) := by
              have := congrArg List.length hpe
              simp at this ⊢; omega
            have HX := Lib.hid hnext; have HS := Lib.hid hset.drew; have HM := Lib.hid hml; have HKW := Lib.hid hkW
            have hpl : ((u ++ [nth p q]).map (Value.int .i64)).length = m + 1 := by simp [hu]
            have HPL := Lib.hid hpl; skip
            clear hpe hu hdl hlt hac hnext hset hml hpl hbW hkW
            go_wp2
            go_region
            have e1 : p.length - (m + 1) = p.length - (m + 1) := rfl
            obtain ⟨W2, hW2⟩ : ∃ W2, ((W.setCell ⟨b, m, none⟩ (.int .i64 (nth p q))).setCell ⟨b, q, none⟩ (.int .i64 (nth p m))).drew = W2 := ⟨_, rfl⟩
            have HK2 : Hid (Keep (fun x => x = b) w W2) := by
              show Keep _ _ _
              rw [← hW2]
              exact ((HKW.out.setCell (p := ⟨b, m, none⟩) (.inl rfl) _).setCell (p := ⟨b, q, none⟩) (.inl rfl) _).drew
            rw [hW2] at HS ⊢
            clear hW2 g1 g3 f1 f3
            go_wp2_with fail
            refine (c_Reverse' b (m + 1) _ _ (d1 ++ nth p m :: d2) ((u ++ [nth p q]).map (Value.int .i64)) [] W2 HM.out HPL.out.symm (by rw [HM.out]; omega) (by rw [HM.out]; omega) (by omega) HS.out).mono ?_; rintro e w' ⟨⟨v, rfl⟩, hbk, hkk⟩
            have HBK := Lib.hid hbk; have HKK := Lib.hid hkk; clear hbk hkk
            go_wp2
            go_ret
            refine .inl ⟨_, HX.out, rfl, by simpa using HBK.out, HK2.out.trans ?_⟩
            exact HKK.out
    · have hd : decide (0 ≤ I) = false := by simp; omega
      have hlt : I < 0 := by omega
      have HI : Hid (I = -1) := by show _ = _; omega
      clear h0
      go_wp2
      go_quiet (fail)
      go_wp2
      go_ret
      refine .inr ⟨?_, rfl, ?_⟩
      · have h := HD.out; rw [HI.out] at h; simpa using h
      · obtain ⟨n1, e1⟩ := HN.out; rw [e1]; exact ((Keep.refl _ w).drewN n1).drewN _
end Go.Proofs.Ytkcobfkmeaakoaa

namespace Go.Proofs.Ytkcobfkmeaakoaa
open Go Go.RowKit Go.Shelf
attribute [local go_sem] Oper.semAt_some

set_option maxHeartbeats 400000 in
theorem c_identityB (n : Nat) (w : World) (hn : n ≤ 1048576) :
    Calls Try.prog 110 #[.int .i64 n] w (fun e w' => ∃ g, e = .returned (.slice (some ⟨g, 0, none⟩) n n) ∧ w.heap.size ≤ g ∧ Blk w' g 2 ((iota n).map (Value.int .i64)) ∧ Below w.heap.size w w') := by
  have hmk := run_make_row' (P := Try.prog) 25 2 (.int .i64 0) 8 Try.underlying25 inf_int64 rfl .i64 .i64 n (by omega) (by omega)
  go_enter Try.func110, Try.ntmps110
  go_wp2
  have hB0 : Below w.heap.size w (w.alloc (.cells (madeCells #[.int .i64 0] n) 2)) := (Below.refl _ _).alloc (Nat.le_refl _) _
  have hK0 : Blk (w.alloc (.cells (madeCells #[.int .i64 0] n) 2)) w.heap.size 2 (((iota n).take 0).map (Value.int .i64) ++ (List.replicate n (Value.int .i64 0)).drop 0) := by
    simpa using Blk.made w (.int .i64 0) n 2
  clear hmk
  go_loopw [9, 4] (fun i _ wr => ∃ k : Nat, k ≤ n ∧ i = .int .i64 k ∧ Below w.heap.size w wr ∧ Blk wr w.heap.size 2 (((iota n).take k).map (Value.int .i64) ++ (List.replicate n (Value.int .i64 0)).drop k)) (fun i _ _ => n - (intOf i).toNat)
  case atStart => exact ⟨0, Nat.zero_le _, rfl, hB0, hK0⟩
  case round =>
    clear hB0 hK0
    obtain ⟨k, hk, rfl, hb, hblk⟩ := hrel
    by_cases hlt : k < n
    · obtain ⟨u, h2⟩ := fill_cell0 hblk (k := k) (by simp; omega)
      have h3 := hblk.frozen k
      have hk0 : (0 : Int) ≤ k := by omega
      have hk1 : (k : Int) < n := by omega
      have Hb := Lib.hid hb; have Hblk := Lib.hid hblk; clear hb hblk
      go_wp2
      go_roundw
      case rel =>
        refine ⟨k + 1, by omega, by go_num, Hb.out.setCell (p := ⟨w.heap.size, k, none⟩) (Nat.le_refl _) _, ?_⟩
        have := Hblk.out.set k (.int .i64 k)
        rwa [fill_set _ _ (by simpa using hlt) _ (by simp) _ (nth_iota n k hk0 hk1).symm] at this
      case measure => simp [intOf]; omega
    · have Hb := Lib.hid hb; have Hblk := Lib.hid hblk; clear hb hblk
      obtain rfl : k = n := by omega
      go_wp2
      go_ret
      have hr := Hblk.out
      rw [fill_done _ _ (by simp)] at hr
      exact ⟨_, rfl, Nat.le_refl _, hr, Hb.out⟩

theorem allPerms_inj {n i j : Nat} (hi : i < (allPerms n).length) (hj : j < (allPerms n).length) (h : row (allPerms n) i = row (allPerms n) j) : i = j := by
  rcases Nat.lt_trichotomy i j with g | g | g
  · have := allPerms_lt g hj; rw [h, lexB_irrefl] at this; cases this
  · exact g
  · have := allPerms_lt g hi; rw [h, lexB_irrefl] at this; cases this
/-- Which permutation lies in block b? -/
noncomputable def permAt (n b : Nat) (W : World) : Nat := Classical.epsilon fun k => k < (allPerms n).length ∧ Blk W b 2 ((row (allPerms n) k).map (Value.int .i64))
theorem permAt_eq {n b k : Nat} {W : World} (hk : k < (allPerms n).length) (h : Blk W b 2 ((row (allPerms n) k).map (Value.int .i64))) : permAt n b W = k := by
  have hs := Classical.epsilon_spec (p := fun k => k < (allPerms n).length ∧ Blk W b 2 ((row (allPerms n) k).map (Value.int .i64))) ⟨k, hk, h⟩
  refine allPerms_inj hs.1 hk ?_
  have h1 : some (Obj.cells ((row (allPerms n) (permAt n b W : Nat)).map (Value.int .i64)).toArray 2 (0, 0)) = some (Obj.cells ((row (allPerms n) k).map (Value.int .i64)).toArray 2 (0, 0)) := hs.2.symm.trans h
  simp only [Option.some.injEq, Obj.cells.injEq, and_true] at h1
  have h2 := congrArg Array.toList h1
  simp only at h2
  exact (List.map_inj_right (fun a b e => by injection e)).1 h2

set_option maxRecDepth 100000 in
set_option maxHeartbeats 1600000 in
theorem c_perms1 (N : Nat) (hN0 : 1 ≤ N) (hN : N ≤ 1048576) (n Bs : Nat) (w : World) (hbox : w.cell? ⟨Bs, 0, none⟩ = some (.int .i64 N)) :
    SeqRows Fence.wide n Try.prog 160 #[.pointer (some ⟨Bs, 0, none⟩)] (allPerms N) w := by
  intro l J Jx W1 hb hJ hJx h0 hY
  have hbox1 := cell_under hb hbox
  refine callsIn_of_wp Try.func160 rfl trivial ?_ rfl
  simp only [Try.ntmps160, List.size_toArray, List.length_cons, List.length_nil, Nat.reduceAdd, Nat.reduceSub, Array.replicate_succ, Array.replicate_zero, List.push_toArray, List.append_toArray, List.nil_append, List.cons_append]
  gi_wp2_with (refine ⟨trivial, fun h => (by cases h), ?_⟩; gi_at_call 110; refine (callsIn_wide.2 (c_identityB N _ hN)).mono ?_; rintro e W2 ⟨pb, rfl, hpb, hblk, hb2⟩)
  have hfirst := allPerms_first N
  have hJ0 := h0 W2 hb2
  have hlt := hblk.lt
  have hlen0 : ∀ k : Nat, k < (allPerms N).length → (row (allPerms N) k).length = N := fun k hk => (allPerms_row hk).2
  have hblk0 : Blk W2 pb 2 ((row (allPerms N) (0 : Nat)).map (Value.int .i64)) := by rw [hfirst.2]; exact hblk
  have HJ := Lib.hid hJ0; have HBk := Lib.hid hblk0; have HF := Lib.hid hfirst; have HLen := Lib.hid hlen0; have HSt := Lib.hid hJ; have HY := Lib.hid hY; have HSz := Lib.hid hb2.size
  clear hJ0 hblk0 hfirst hlen0 hJ hJx h0 hY hbox hbox1 hb hb2 hblk
  obtain ⟨hi, HHi⟩ : ∃ hi, Hid (hi = W2.heap.size) := ⟨_, rfl⟩
  rw [← HHi.out] at hlt HJ HSz
  gi_loopw [] (fun wr => ∃ k : Nat, Hid (k < (allPerms N).length) ∧ Hid (J hi k wr) ∧ Hid (Blk wr pb 2 ((row (allPerms N) k).map (Value.int .i64))) ∧ Hid (hi ≤ wr.heap.size)) (fun wr => (allPerms N).length - permAt N pb wr)
  case atStart => exact ⟨0, Lib.hid HF.out.1, HJ, HBk, Lib.hid (by rw [HHi.out]; exact Nat.le_refl _)⟩
  case round =>
    clear HJ HBk HF
    obtain ⟨k, HK, HJ, HBk, HS⟩ := hrel
    have hInts : Ints wr (.slice (some ⟨pb, 0, none⟩) N N) (row (allPerms N) k) := by
      have hl := HLen.out k HK.out
      exact (Own.of_blk HBk.out hpb (by rw [hl]; simp [maxLen]; omega) hl.symm hl.symm).ints
    obtain ⟨fn, tmps, assign, body, hy, hR⟩ := HY.out hi k _ wr HJ.out HSz.out HS.out HK.out hInts
    have HM := Lib.hid (permAt_eq HK.out HBk.out)
    clear hInts
    gi_wp2
    refine ⟨fun h => (by cases h), hR.mono ?_⟩
    rintro e W3 (⟨rfl, hJ3, hk3⟩ | ⟨rfl, hJx3⟩)
    · have hblk3 : Blk W3 pb 2 ((row (allPerms N) k).map (Value.int .i64)) := HBk.out.of_block (hk3.block pb HBk.out.lt (by omega))
      have HB3 := Lib.hid hblk3; have HJ3 := Lib.hid hJ3; have HS3 := Lib.hid (Nat.le_trans HS.out hk3.size)
      clear hblk3 hJ3 hk3 hR hy
      have hnx := fun (h : (row (allPerms N) k).length = N) => by
        have := c_nextPermutation pb (row (allPerms N) k) W3 (allPerms_row HK.out).1 (by omega) (by omega) HB3.out
        rw [h] at this
        exact this
      have HN := Lib.hid (hnx (HLen.out k HK.out))
      clear hnx
      gi_wp2_with (refine ⟨trivial, fun h => (by cases h), ?_⟩; gi_at_call 161; refine (callsIn_wide.2 HN.out).mono ?_; rintro e W4 (⟨q, hq, rfl, hblk4, hk4⟩ | ⟨hd, rfl, hk4⟩))
      · obtain ⟨h1, h2⟩ := allPerms_next HK.out hq
        have hJ4 := HSt.out hi (k + 1) W3 W4 HJ3.out (hk4.mono fun b _ e => by subst e; exact ⟨hpb, hlt⟩)
        rw [← h2] at hblk4
        have HM4 := Lib.hid (permAt_eq h1 hblk4)
        have HB4 := Lib.hid hblk4; have HJ4 := Lib.hid hJ4; have HS4 := Lib.hid (Nat.le_trans HS3.out hk4.size); have HK4 := Lib.hid h1
        clear hq hblk4 hk4 h1 h2 hJ4
        gi_wp2
        go_roundw
        case rel => exact ⟨k + 1, HK4, HJ4, HB4, HS4⟩
        case measure => rw [HM.out, HM4.out]; have := HK4.out; omega
      · have hl := allPerms_last HK.out hd
        have hJ4 := HSt.out hi (k + 1) W3 W4 HJ3.out (hk4.mono fun b _ e => by subst e; exact ⟨hpb, hlt⟩)
        rw [hl] at hJ4
        have HJ4 := Lib.hid hJ4
        clear hJ4 hl hd hk4
        gi_wp2
        refine bodyPost_ret (results_none rfl _ _ _) rfl ?_
        exact ⟨⟨_, rfl⟩, .inl ⟨hi, HJ4.out⟩⟩
    · have HJx3 := Lib.hid hJx3
      clear hJx3
      gi_wp2
      go_end0
      exact ⟨⟨_, rfl⟩, .inr ⟨hi, k + 1, HJx3.out⟩⟩
end Go.Proofs.Ytkcobfkmeaakoaa
