/-
  The walks behind the law FnClosedSets, joined into texts.
-/
import Derived.Test.YtkghonhghbcdlaaI4
import Derived.Test.YtkghonhghbcdlaaS1c
import Derived.Test.YtkghonhghbcdlaaI3c
import Derived.Deep.AppendLies
import Derived.Deep.RegionHeld3
import Derived.Deep.RegionLaw
import Derived.Test.YtkghonhghbcdlaaT1
import Derived.Test.YtkghonhghbcdlaaLTables
import Derived.Test.YtkghonhghbcdlaaI14
import Derived.Test.YtkghonhghbcdlaaI20
import Derived.Test.YtkghonhghbcdlaaRows
import Derived.Test.YtkghonhghbcdlaaBase
import Derived.ProofKit
import Derived.OpenShut
import Derived.ShutString
import Derived.ChangeOld
import Derived.Lib.SmallJoins
import Derived.Deep.Slices
import Derived.Test.YtkghonhghbcdlaaLawC
import Derived.Test.YtkghonhghbcdlaaLawB
import Derived.Test.YtkghonhghbcdlaaI1c
import Derived.Test.YtkghonhghbcdlaaD3
import Derived.Test.YtkghonhghbcdlaaI3d
import Derived.Test.YtkghonhghbcdlaaP6
import Derived.Test.YtkghonhghbcdlaaP7
import Derived.Test.YtkghonhghbcdlaaP5
import Derived.Test.YtkghonhghbcdlaaI24
import Derived.Test.YtkghonhghbcdlaaA1
import Derived.RangeFuncNested
import Derived.RangeFuncBound
import Derived.RangeFuncCalls
import Derived.RangeFuncLeaves
import Derived.Shelf.Abstract
import Derived.Shelf.RegionOpen
import Derived.OwnWalkIn
import Derived.TacticsInMore
import Derived.LoopNIn
import Derived.LoopIn
import Derived.RegionTactic
import Derived.BigRegion
import Derived.ChangeAlike
import Derived.Test.YtkghonhghbcdlaaS1
import Derived.Test.YtkghonhghbcdlaaI1
import Derived.Test.YtkghonhghbcdlaaI3b
import Derived.ControlIn
import Derived.Test.YtkghonhghbcdlaaI13
import Derived.BigQuiet
namespace Go.Proofs.Ytkghonhghbcdlaa
set_option linter.unusedVariables false
set_option linter.unusedSimpArgs false
open Go.RowKit

/-- The rows of a table hold integers, arrays of rows do not: a table stays as it was where only the array of another turns. -/
theorem rowvals_keepT {B B0 : Nat} {w w' : World} {us us' : List Value} {xss : List (List Int)} {v : Value} {n : Nat} (h : RowVals B w us xss) (hv : w.ownsRow B0 27 1 v n us') (k : Keep (fun b => v.ownBlock = some b) w w') : RowVals B w' us xss := by
  refine ⟨h.len, fun i hi hi' => ?_, h.apart⟩
  have h5 := h.own i hi hi'
  obtain ⟨hl, hn' | ⟨g, cap, cur, hv5, hbg, hg, r⟩⟩ := h5
  · exact ⟨hl, .inl hn'⟩
  · refine ⟨hl, .inr ⟨g, cap, cur, hv5, hbg, ?_, r⟩⟩
    rw [k.block g (Array.getElem?_eq_some_iff.1 hg).1 ?_]; exact hg
    intro e
    obtain ⟨_, hnn | ⟨g', cap', cur', hv', _, hg', _⟩⟩ := hv
    · rw [hnn.1] at e; cases e
    · rw [hv'] at e
      simp [Value.ownBlock] at e
      subst e
      rw [hg] at hg'
      simp at hg'
theorem OwnRows.keepT {B B0 : Nat} {w w' : World} {u v : Value} {xss yss : List (List Int)} (h : OwnRows B w u xss) (hv : OwnRows B0 w v yss) (hne : ∀ b, u.ownBlock = some b → v.ownBlock ≠ some b) (k : Keep (fun b => v.ownBlock = some b) w w') : OwnRows B w' u xss := by
  obtain ⟨us, h1, h2⟩ := h
  obtain ⟨us', h3, h4⟩ := hv
  refine ⟨us, ?_, rowvals_keepT h2 h3 k⟩
  obtain ⟨hl, h | ⟨g, cap, cur, hv, hb, hg, r⟩⟩ := h1
  · exact ⟨hl, .inl h⟩
  · exact ⟨hl, .inr ⟨g, cap, cur, hv, hb, by rw [k.block g (Array.getElem?_eq_some_iff.1 hg).1 (hne g (by rw [hv]; rfl))]; exact hg, r⟩⟩

theorem OwnRowsIn.keepT {B B0 hi : Nat} {w w' : World} {u v : Value} {xss yss : List (List Int)} (h : OwnRowsIn B hi w u xss) (hv : OwnRows B0 w v yss) (hne : ∀ b, u.ownBlock = some b → v.ownBlock ≠ some b) (k : Keep (fun b => v.ownBlock = some b) w w') : OwnRowsIn B hi w' u xss := by
  obtain ⟨us, h1, h2, e1, e2⟩ := h
  obtain ⟨us', h3, h4⟩ := hv
  refine ⟨us, ?_, rowvals_keepT h2 h3 k, e1, e2⟩
  obtain ⟨hl, h | ⟨g, cap, cur, hv, hb, hg, r⟩⟩ := h1
  · exact ⟨hl, .inl h⟩
  · exact ⟨hl, .inr ⟨g, cap, cur, hv, hb, by rw [k.block g (Array.getElem?_eq_some_iff.1 hg).1 (hne g (by rw [hv]; rfl))]; exact hg, r⟩⟩
theorem rowvals_snoc {B m : Nat} {w : World} {us : List Value} {xss : List (List Int)} (h : RowVals B w us xss) (hlt : ∀ i (h : i < us.length) k, us[i].ownBlock = some k → k < m) {u : Value} {xs : List Int} (hu : Own m w u xs) (hB : B ≤ m) :
    RowVals B w (us ++ [u]) (xss ++ [xs]) := by
  refine ⟨by simp [h.len], fun i hi hi' => ?_, ?_⟩
  · by_cases e : i < us.length
    · rw [List.getElem_append_left e, List.getElem_append_left (by rw [← h.len]; exact e)]
      exact h.own i e (by rw [← h.len]; exact e)
    · have e2 : i = us.length := by simp at hi; omega
      subst e2
      rw [List.getElem_append_right (Nat.le_refl _), List.getElem_append_right (by rw [h.len]; exact Nat.le_refl _)]
      simp only [h.len, Nat.sub_self, List.getElem_cons_zero]
      exact hu.mono hB
  · rw [List.pairwise_append]
    refine ⟨h.apart, by simp, fun x hx y hy => ?_⟩
    simp at hy; subst hy
    obtain ⟨i, hi, rfl⟩ := List.getElem_of_mem hx
    cases e : us[i].ownBlock with
    | none => exact .inl rfl
    | some b =>
      refine .inr fun e2 => ?_
      have h1 := hlt i hi b e
      have h2 := (hu.lt e2.symm).1
      omega

/-- 'append(s, u)' at an operation: the new array is the old one or a new block. -/
theorem wp_app_row2 {o : Oper} {a : Act} {K : Act → World → Prop} {Q : Exit → Act → World → Prop} (B m : Nat) (w : World) (v : Value) (xss : List (List Int)) (u : Value) (xs : List Int) (s x : Operand)
    (ho : o.op = .call { callee := .builtin .append, args := #[s, x], argTypes := #[24, 24] })
    (hs : a.eval s = v) (hown : OwnRowsIn B m w v xss) (hu : Own m w u xs) (hx : a.eval x = .slice (some ⟨w.heap.size, 0, none⟩) 1 1) (hn : xss.length ≤ 1099511627776) (hB : B ≤ m) (hB2 : B ≤ w.heap.size)
    (h : ∀ g c' w', OwnRows B w' (.slice (some ⟨g, 0, none⟩) (xss.length + 1) c') (xss ++ [xs]) → Keep (fun b => v.ownBlock = some b) w w' → (v.ownBlock = some g ∨ w.heap.size ≤ g) → K (a.put o.dst (.slice (some ⟨g, 0, none⟩) (xss.length + 1) c')) w') :
    o.wp Try.prog a (w.alloc (.cells #[u] 27)) K Q := by
  obtain ⟨us, h1, h2, _, hlt⟩ := hown
  have h2' := rowvals_snoc h2 hlt hu hB
  have hlen := h2.len
  obtain ⟨ua, uc, hu1, _⟩ := hu.shape
  obtain ⟨i0, hi, hz0, hz1, hz2⟩ := info_parts inf_ints
  refine wp_append_lies _ s x 24 ho B 27 i0 (.slice none 0 0) 1 24 Try.underlying24 hi hz0 hz1 hz2 rfl (by decide) v us.length us hs (h1.alloc _) ⟨w.heap.size, 0, none⟩ 1 1 [u] hx rfl ?_ ?_ (by decide) (by unfold maxLen; omega) (by omega) (by simp; omega) (w.heap.size + 1) (by simp) ?_
  · intro j u' hj
    match j, hj with
    | 0, hj => simp at hj; subst hj; simp [Addr.add]
  · intro u' hu'; simp at hu'; subst hu'; subst hu1; rfl
  · intro g cap w' h3 h4 h5 _
    have hk := Keep.of_grown h4
    have hk2 : Keep (fun b => v.ownBlock = some b) w w' := ((Keep.refl _ w).alloc _).trans hk
    rw [hlen] at h3 ⊢
    refine h g cap w' ⟨us ++ [u], by simpa [hlen] using h3, rowvals_keepT h2' h1 hk2⟩ hk2 (by rcases h5 with h5 | h5; exact .inl h5; exact .inr (by omega))

theorem wpList_app_row2 {ops : Array Oper} {rest : List Oper} {o : Oper} {a : Act} {Q : Exit → Act → World → Prop} (B m : Nat) (w : World) (v : Value) (xss : List (List Int)) (u : Value) (xs : List Int) (s x : Operand) (hgd : o.guard = none)
    (ho : o.op = .call { callee := .builtin .append, args := #[s, x], argTypes := #[24, 24] })
    (hs : a.eval s = v) (hown : OwnRowsIn B m w v xss) (hu : Own m w u xs) (hx : a.eval x = .slice (some ⟨w.heap.size, 0, none⟩) 1 1) (hn : xss.length ≤ 1099511627776) (hB : B ≤ m) (hB2 : B ≤ w.heap.size)
    (h : ∀ g c' w', OwnRows B w' (.slice (some ⟨g, 0, none⟩) (xss.length + 1) c') (xss ++ [xs]) → Keep (fun b => v.ownBlock = some b) w w' → (v.ownBlock = some g ∨ w.heap.size ≤ g) → wpList Try.prog ops Q rest (a.put o.dst (.slice (some ⟨g, 0, none⟩) (xss.length + 1) c')) w') :
    wpList Try.prog ops Q (o :: rest) a (w.alloc (.cells #[u] 27)) :=
  wpList_plain hgd fun _ hK => wp_app_row2 B m w v xss u xs s x ho hs hown hu hx hn hB hB2 fun g c' w' h2 h3 h4 => hK _ _ (h g c' w' h2 h3 h4)

theorem step_app_row2 {ops : Array Oper} {o : Oper} {a : Act} {K : Act → World → Prop} {Q : Exit → Act → World → Prop} {E : Prop} (B m : Nat) (w : World) (v : Value) (xss : List (List Int)) (u : Value) (xs : List Int) (s x : Operand) (hgd : o.guard = none)
    (ho : o.op = .call { callee := .builtin .append, args := #[s, x], argTypes := #[24, 24] })
    (hs : a.eval s = v) (hown : OwnRowsIn B m w v xss) (hu : Own m w u xs) (hx : a.eval x = .slice (some ⟨w.heap.size, 0, none⟩) 1 1) (hn : xss.length ≤ 1099511627776) (hB : B ≤ m) (hB2 : B ≤ w.heap.size)
    (h : ∀ g c' w', OwnRows B w' (.slice (some ⟨g, 0, none⟩) (xss.length + 1) c') (xss ++ [xs]) → Keep (fun b => v.ownBlock = some b) w w' → (v.ownBlock = some g ∨ w.heap.size ≤ g) → K (a.put o.dst (.slice (some ⟨g, 0, none⟩) (xss.length + 1) c')) w') :
    if Region.wanted o (yielded ops a.tmps) = true then Oper.wp Try.prog o a (w.alloc (.cells #[u] 27)) K Q else E := by
  have hw : Region.wanted o (yielded ops a.tmps) = true := by simp [Region.wanted, hgd]
  rw [if_pos hw]
  exact wp_app_row2 B m w v xss u xs s x ho hs hown hu hx hn hB hB2 h
end Go.Proofs.Ytkghonhghbcdlaa

namespace Go.Proofs.Ytkghonhghbcdlaa
set_option linter.unusedVariables false
set_option linter.unusedSimpArgs false
open Go.RowKit

/-- The result can be read; nothing that was there has turned. -/
def RSolR (w0 : World) (A B : List (List Int)) (e : Ending) (w' : World) : Prop := ∃ r1 r2, e = .returned (.agg #[r1, r2]) ∧ (OwnRows w0.heap.size w' r1 A ∧ OwnRows w0.heap.size w' r2 B) ∧ Below w0.heap.size w0 w'

theorem rowOf_self (p : List Int) : rowOf p.length (nth p) = p := by
  apply ext_nth (by simp)
  intro k hk
  rw [nth_rowOf p.length (nth p) k (by simpa using hk)]

theorem rowOf_const (n : Nat) (c : Int) : rowOf n (fun _ => c) = List.replicate n c := by
  unfold rowOf
  rw [List.map_const']
  simp

theorem OwnRows.shape' {B : Nat} {w : World} {v : Value} {xss : List (List Int)} (h : OwnRows B w v xss) : ∃ a c, v = .slice a xss.length c ∧ Rows w (.slice a xss.length c) xss := by
  have hr := h.rows
  obtain ⟨a, c, rfl, _⟩ := hr.shape
  exact ⟨a, c, rfl, hr⟩

set_option maxHeartbeats 1000000 in
theorem c_l02Twist (v v' : Value) (p q : List Int) (w : World) (hp : Ints w v p) (hq : Ints w v' q) (hl : q.length = p.length) (hn : p.length ≤ 1048576) :
    Calls Try.prog 146 #[v, v'] w (RSolR w (twA p) (twB p q)) := by
  obtain ⟨a, c, rfl, hc, hm⟩ := hp.shape
  obtain ⟨a', c', rfl, hc', hm'⟩ := hq.shape
  have HL := Lib.hid hl; clear hl
  obtain ⟨f0, f1, hW0, hsz⟩ := boxes2 w [.slice none 0 0, .slice none 0 0] [.slice none 0 0, .slice none 0 0] 26 26
  go_enter Try.func146, Try.ntmps146
  go_wp2
  have hB0 : Below w.heap.size w ((w.alloc (.cells #[.slice none 0 0, .slice none 0 0] 26)).alloc (.cells #[.slice none 0 0, .slice none 0 0] 26)) := hW0
  go_loopw [6, 7, 8] (fun i _ _ wr => ∃ (k : Nat) (va vb : Value), k ≤ p.length ∧ i = .int .i64 k ∧ Hid (Below w.heap.size w wr ∧ w.heap.size + 2 ≤ wr.heap.size) ∧ Hid (Blk wr w.heap.size 26 [.slice none 0 0, .slice none 0 0]) ∧ Hid (Blk wr (w.heap.size + 1) 26 [va, vb]) ∧
    Hid (OwnRows (w.heap.size + 2) wr va ((twA p).take k)) ∧ Hid (OwnRows (w.heap.size + 2) wr vb ((twB p q).take k)) ∧ Hid (∀ b, va.ownBlock = some b → vb.ownBlock ≠ some b)) (fun i _ _ _ => p.length - (intOf i).toNat)
  case atStart => exact ⟨0, _, _, Nat.zero_le _, rfl, Lib.hid ⟨hB0, by simp⟩, Lib.hid f0, Lib.hid f1, Lib.hid ⟨[], ⟨by simp, .inl ⟨rfl, rfl⟩⟩, RowVals.nil _ _⟩, Lib.hid ⟨[], ⟨by simp, .inl ⟨rfl, rfl⟩⟩, RowVals.nil _ _⟩, Lib.hid (by intro b hb; cases hb)⟩
  case round =>
    clear hB0 f0 f1 hW0 hsz
    obtain ⟨k, va, vb, hk, rfl, HB, HQ0, HQ1, HA, HBt, HNE⟩ := hrel
    obtain ⟨wo, rfl⟩ : ∃ wo : World, wo = wr := ⟨_, rfl⟩
    by_cases hlt : k < p.length
    · have hkq : k < q.length := by rw [HL.out]; exact hlt
      go_wp2
      go_loopw [7, 8] (fun s y wi => ∃ (j : Nat) (sa : Option Addr) (sc : Nat), j ≤ p.length ∧ y = .int .i64 j ∧ s = .slice sa j sc ∧ Below wo.heap.size wo wi ∧ Own wo.heap.size wi (.slice sa j sc) (List.replicate j (nth q k))) (fun _ y _ => p.length - (intOf y).toNat)
      case atStart => exact ⟨0, _, _, Nat.zero_le _, rfl, rfl, (Below.refl _ _).alloc (Nat.le_refl _) _, Own.made0 wo (Nat.le_refl _)⟩
      case round =>
        obtain ⟨j, sa, sc, hj, rfl, rfl, hb, hown⟩ := hrel
        by_cases hlj : j < p.length
        · obtain ⟨b, o, rfl, hcell⟩ := ((hq.below HB.out.1).below hb).get k hkq
          have Hb := Lib.hid hb; have Ho := Lib.hid hown; have Hs := Lib.hid hb.size; clear hb hown
          go_wp2_with (at_builtin; refine wpList_app_int wo.heap.size wr _ (List.replicate j (nth q k)) (nth q k) _ _ rfl rfl rfl Ho.out rfl (by simp; omega) Hs.out ?_; intro a' c' w' hown' hkeep; rw [List.length_replicate]; have Hk := Lib.hid hkeep; have Ho' := Lib.hid hown'; clear hkeep hown')
          go_roundw
          case rel =>
            have h1 := Ho'.out
            rw [List.length_replicate, ← List.replicate_succ'] at h1
            exact ⟨j + 1, a', c', by omega, by go_num, rfl, Ho.out.frame Hb.out (Nat.le_refl _) Hs.out Hk.out, h1⟩
          case measure => simp [intOf]; omega
        · obtain rfl : j = p.length := by omega
          obtain ⟨wi, rfl⟩ : ∃ wi : World, wi = wr := ⟨_, rfl⟩
          have Hb := Lib.hid hb; have Ho := Lib.hid hown; clear hb hown
          have HQ1d := Lib.hid ((HQ1.out.under Hb.out).drew)
          obtain ⟨cA, cB, cF, cG⟩ := two_cells HQ1d.out
          have hpd := ((hp.below HB.out.1).below Hb.out).below ((Below.refl wi.heap.size wi).drew)
          have hAd := (HA.out.inn.under Hb.out).under ((Below.refl wi.heap.size wi).drew)
          have hlen : ((twA p).take k).length = k := by simp [twA]; omega
          have hBW := HB.out.2
          have hbs := Hb.out.size
          have HPd := Lib.hid hpd; have HAd := Lib.hid hAd; have HLen := Lib.hid hlen; have HBW := Lib.hid hBW; have Hbs := Lib.hid hbs
          have HK1 : Hid (((twA p).take k).length ≤ 1099511627776) := by show _ ≤ _; rw [hlen]; omega
          have HB2s : Hid (w.heap.size + 2 ≤ wi.heap.size) := by show _ ≤ _; omega
          clear hpd hAd hlen hBW hbs
          go_wp2
          go_region_law (first
            | (go_simp; go_at_call 124; refine (c_l01Own _ p _ HPd.out (by omega)).mono ?_; rintro e w1 ⟨r1, rfl, ho1', hb1'⟩; obtain ⟨ra1, rc1, rfl, _⟩ := ho1'.shape; have ho1 := Lib.hid ho1'; have hb1 := Lib.hid hb1'; have HAd1 := Lib.hid (HAd.out.under hb1'); have HB1s : Hid (w.heap.size + 2 ≤ w1.heap.size) := Nat.le_trans HB2s.out hb1'.size; obtain ⟨cA1, cB1, cF1, cG1⟩ := two_cells (HQ1d.out.under hb1'); have cA1z : (w1.alloc (.cells #[.slice ra1 p.length rc1] 27)).cell? ⟨w.heap.size + 1, 0, none⟩ = some va := (two_cells ((HQ1d.out.under hb1').alloc _)).1; clear ho1' hb1')
            | (refine step_app_row2 (w.heap.size + 2) wo.heap.size w1 va ((twA p).take k) (.slice ra1 p.length rc1) p (.tmp 31) (.tmp 34) rfl rfl rfl HAd1.out (ho1.out.mono Hbs.out) rfl HK1.out HBW.out HB1s.out ?_; intro g c2 w2 hown2 hk2 hg2; rw [HLen.out] at hown2; rw [HLen.out]
               have hq1 : ∀ b, va.ownBlock = some b → w.heap.size + 2 ≤ b := fun b e => (OwnRows.lt HA.out e).1
               have hQ2 := (HQ1d.out.under hb1.out).of_block (hk2.block _ (HQ1d.out.under hb1.out).lt (fun e => by have := hq1 _ e; omega))
               obtain ⟨cA2, cB2, cF2, cG2⟩ := two_cells hQ2
               have HQ2 := Lib.hid hQ2; have HK2 := Lib.hid hk2; have HG2 := Lib.hid hg2; have Hown2 := Lib.hid hown2; clear hQ2 hk2 hg2 hown2 hq1))
          all_goals
            have hbw := HBW.out
            have hva : ∀ b, va.ownBlock = some b → w.heap.size + 2 ≤ b ∧ b < wo.heap.size := fun b e => OwnRows.lt HA.out e
            have hvb : ∀ b, vb.ownBlock = some b → w.heap.size + 2 ≤ b ∧ b < wo.heap.size := fun b e => OwnRows.lt HBt.out e
            have hs1 : wo.heap.size ≤ w1.heap.size := Nat.le_trans Hbs.out hb1.out.size
            have hQ3 := HQ2.out.set 0 (.slice (some ⟨g, 0, none⟩) (k + 1) c2)
            have hA3 := Hown2.out.keep (keep1 w2 (w.heap.size + 1) 0 (.slice (some ⟨g, 0, none⟩) (k + 1) c2)) (fun b h1 h2 h3 => by have h3 : b = w.heap.size + 1 := h3; omega)
            have hB1 := ((HBt.out.inn.under Hb.out).under ((Below.refl wi.heap.size wi).drew)).under hb1.out
            have hB3 := (hB1.keepT HAd1.out.out (fun b e1 e2 => HNE.out b e2 e1) HK2.out).keep (keep1 w2 (w.heap.size + 1) 0 (.slice (some ⟨g, 0, none⟩) (k + 1) c2)) (fun b h1 h2 h3 => by have h3 : b = w.heap.size + 1 := h3; omega)
            have hu1 := (Ho.out.under ((Below.refl wi.heap.size wi).drew)).under hb1.out
            have hu3 := (hu1.keep HK2.out (fun b h1 h2 h3 => by have := hva b h3; omega)).keep (keep1 w2 (w.heap.size + 1) 0 (.slice (some ⟨g, 0, none⟩) (k + 1) c2)) (fun b h1 h2 h3 => by have h3 : b = w.heap.size + 1 := h3; omega)
            have hW1 : Below w.heap.size w w1 := bb (bb (bb HB.out.1 Hb.out) ((Below.refl wi.heap.size wi).drew)) hb1.out
            have hW3 := (OwnRows.frame HAd1.out.out hW1 (by omega) (by omega) HK2.out).setCell (p := ⟨w.heap.size + 1, 0, none⟩) (by show _ ≤ w.heap.size + 1; omega) (.slice (some ⟨g, 0, none⟩) (k + 1) c2)
            have hZ1 := (((HQ0.out.under Hb.out).drew).under hb1.out)
            have hZ3 := (hZ1.of_block (HK2.out.block _ hZ1.lt (fun e => by have := hva _ e; omega))).other (a := ⟨w.heap.size + 1, 0, none⟩) (by show w.heap.size ≠ w.heap.size + 1; omega) (.slice (some ⟨g, 0, none⟩) (k + 1) c2)
            have hne3 : ∀ b, (Value.slice (some ⟨g, 0, none⟩) (k + 1) c2).ownBlock = some b → vb.ownBlock ≠ some b := by
              intro b e e2
              simp [Value.ownBlock] at e
              subst e
              rcases HG2.out with h | h
              · exact HNE.out _ h e2
              · have := hvb _ e2; omega
            have hs3 : w1.heap.size ≤ (w2.setCell ⟨w.heap.size + 1, 0, none⟩ (.slice (some ⟨g, 0, none⟩) (k + 1) c2)).heap.size := by simpa [World.setCell] using HK2.out.size
            obtain ⟨w3, hw3⟩ : ∃ w3, w2.setCell ⟨w.heap.size + 1, 0, none⟩ (.slice (some ⟨g, 0, none⟩) (k + 1) c2) = w3 := ⟨_, rfl⟩
            rw [hw3] at hQ3 hA3 hB3 hu3 hW3 hZ3 hs3 ⊢
            obtain ⟨dA, dB, dF, dG⟩ := two_cells hQ3
            have hlb : ((twB p q).take k).length = k := by simp [twB]; omega
            have HLB := Lib.hid hlb
            have HB3 := Lib.hid hB3; have HU3 := Lib.hid hu3; have HQ3 := Lib.hid hQ3; have HA3 := Lib.hid hA3; have HW3 := Lib.hid hW3; have HZ3 := Lib.hid hZ3; have HN3 := Lib.hid hne3; have HVB := Lib.hid hvb
            have HK3 : Hid (((twB p q).take k).length ≤ 1099511627776) := by show _ ≤ _; rw [hlb]; omega
            have HS3 : Hid (w.heap.size + 2 ≤ w3.heap.size ∧ wo.heap.size ≤ w3.heap.size) := by have := HBW.out; exact ⟨by omega, by omega⟩
            have HG3 : Hid (g < w3.heap.size) := (OwnRows.lt hA3 rfl).2
            clear hbw hlb hB3 hu3 hQ3 hA3 hW3 hZ3 hne3 hvb hva hs1 hs3 hW1 hZ1 hu1 hB1 cA1 cA1z cB1 cF1 cG1 cA2 cB2 cF2 cG2 cA cB cF cG hw3
            go_wp2_with (at_builtin; refine wpList_app_row2 (w.heap.size + 2) wo.heap.size w3 vb ((twB p q).take k) _ (List.replicate p.length (nth q k)) _ _ rfl rfl rfl HB3.out HU3.out rfl HK3.out HBW.out HS3.out.1 ?_; intro g2 c4 w4 hown4 hk4 hg4; rw [HLB.out] at hown4; rw [HLB.out]; have hQ4 := HQ3.out.of_block (hk4.block _ HQ3.out.lt (fun e => by have := (HVB.out _ e).1; omega)); obtain ⟨eA, eB, eF, eG⟩ := two_cells hQ4; have HQ4 := Lib.hid hQ4; have Hown4 := Lib.hid hown4; have HK4 := Lib.hid hk4; have HG4 := Lib.hid hg4; clear hQ4 hown4 hk4 hg4)
            go_roundw
            case rel =>
              have hbw := HBW.out
              have hs3 := HS3.out
              have hs4 := HK4.out.size
              have hQ5 := HQ4.out.set 1 (.slice (some ⟨g2, 0, none⟩) (k + 1) c4)
              have hB5 := Hown4.out.keep (keep1 w4 (w.heap.size + 1) 1 (.slice (some ⟨g2, 0, none⟩) (k + 1) c4)) (fun b h1 h2 h3 => by have h3 : b = w.heap.size + 1 := h3; omega)
              have hA5 := (HA3.out.keepT HB3.out.out (fun b e1 e2 => HN3.out b e1 e2) HK4.out).keep (keep1 w4 (w.heap.size + 1) 1 (.slice (some ⟨g2, 0, none⟩) (k + 1) c4)) (fun b h1 h2 h3 => by have h3 : b = w.heap.size + 1 := h3; omega)
              have hW5 := (OwnRows.frame HB3.out.out HW3.out (by omega) (by omega) HK4.out).setCell (p := ⟨w.heap.size + 1, 1, none⟩) (by show _ ≤ w.heap.size + 1; omega) (.slice (some ⟨g2, 0, none⟩) (k + 1) c4)
              have hZ5 := (HZ3.out.of_block (HK4.out.block _ HZ3.out.lt (fun e => by have := (HVB.out _ e).1; omega))).other (a := ⟨w.heap.size + 1, 1, none⟩) (by show w.heap.size ≠ w.heap.size + 1; omega) (.slice (some ⟨g2, 0, none⟩) (k + 1) c4)
              have hs5 : w.heap.size + 2 ≤ (w4.setCell ⟨w.heap.size + 1, 1, none⟩ (.slice (some ⟨g2, 0, none⟩) (k + 1) c4)).heap.size := by have : w3.heap.size ≤ w4.heap.size := hs4; simp [World.setCell]; omega
              refine ⟨k + 1, .slice (some ⟨g, 0, none⟩) (k + 1) c2, .slice (some ⟨g2, 0, none⟩) (k + 1) c4, by omega, by go_num, Lib.hid ⟨hW5, hs5⟩, Lib.hid hZ5, Lib.hid hQ5, Lib.hid ?_, Lib.hid ?_, Lib.hid fun b e1 e2 => ?_⟩
              · rw [take_snoc_row _ _ (by simp [twA]; omega)]
                unfold twA
                rw [row_tabOf _ _ _ hlt, rowOf_self]
                exact hA5
              · rw [take_snoc_row _ _ (by simp [twB]; omega)]
                unfold twB
                rw [row_tabOf _ _ _ hlt, rowOf_const]
                exact hB5
              · simp [Value.ownBlock] at e1 e2
                subst e1
                subst e2
                rcases HG4.out with h | h
                · exact HN3.out _ rfl h
                · have := HG3.out; omega
            case measure => simp [intOf]; omega
    · obtain rfl : k = p.length := by omega
      have hA := HA.out
      have hB := HBt.out
      rw [List.take_of_length_le (by simp [twA])] at hA
      rw [List.take_of_length_le (by simp [twB])] at hB
      obtain ⟨ra1, rc1, rfl, hca⟩ := OwnRows.shape' hA
      obtain ⟨ra2, rc2, rfl, hcb⟩ := OwnRows.shape' hB
      obtain ⟨z0, z1, z2, z3⟩ := two_cells HQ0.out
      obtain ⟨y0, y1, y2, y3⟩ := two_cells HQ1.out
      have HA' := Lib.hid hA; have HB' := Lib.hid hB; clear hA hB hca hcb
      go_wp2
      refine bodyPost_ret (v := .agg #[.slice ra1 (twA p).length rc1, .slice ra2 (twB p q).length rc2]) (by simp [results, Try.results146, go_sem, z0, z1]) rfl ⟨_, _, rfl, ⟨?_, ?_⟩, (HB.out.1.setCell (p := ⟨w.heap.size, 0, none⟩) (Nat.le_refl _) _).setCell (p := ⟨w.heap.size, 1, none⟩) (Nat.le_refl _) _⟩
      · exact ((HA'.out.keep (keep1 _ w.heap.size 0 _) (fun b h1 h2 h3 => by have h3 : b = w.heap.size := h3; omega)).keep (keep1 _ w.heap.size 1 _) (fun b h1 h2 h3 => by have h3 : b = w.heap.size := h3; omega)).mono (by omega)
      · exact ((HB'.out.keep (keep1 _ w.heap.size 0 _) (fun b h1 h2 h3 => by have h3 : b = w.heap.size := h3; omega)).keep (keep1 _ w.heap.size 1 _) (fun b h1 h2 h3 => by have h3 : b = w.heap.size := h3; omega)).mono (by omega)
/-- A pair of tables that can be read, all of it below hi. -/
def RdSol (lo hi : Nat) (w : World) (v1 v2 : Value) (A B : List (List Int)) : Prop := ∃ w0 : World, lo = 0 ∧ Sol w0 v1 v2 A B ∧ w0.heap.size ≤ hi ∧ Below w0.heap.size w0 w
theorem RdSol.sol {lo hi : Nat} {w : World} {v1 v2 : Value} {A B : List (List Int)} (h : RdSol lo hi w v1 v2 A B) : Sol w v1 v2 A B := by
  obtain ⟨w0, _, h1, _, h2⟩ := h
  exact h1.below h2
theorem RdSol.under {lo hi : Nat} {w w' : World} {v1 v2 : Value} {A B : List (List Int)} (h : RdSol lo hi w v1 v2 A B) (hb : Below w.heap.size w w') : RdSol lo hi w' v1 v2 A B := by
  obtain ⟨w0, h0, h1, h3, h2⟩ := h
  exact ⟨w0, h0, h1, h3, bb h2 hb⟩
theorem RdSol.keep {lo hi : Nat} {S : Nat → Prop} {w w' : World} {v1 v2 : Value} {A B : List (List Int)} (h : RdSol lo hi w v1 v2 A B) (k : Keep S w w') (hs : ∀ b, lo ≤ b → b < hi → ¬ S b) : RdSol lo hi w' v1 v2 A B := by
  obtain ⟨w0, h0, h1, h3, h2⟩ := h
  subst h0
  exact ⟨w0, rfl, h1, h3, h2.trans (k.below fun b hb => ⟨by have := h2.size; omega, hs b (Nat.zero_le _) (by omega)⟩)⟩
def RSolRC (w0 : World) (A B : List (List Int)) (c : Int) (e : Ending) (w' : World) : Prop := ∃ r1 r2, e = .returned (.tuple #[.agg #[r1, r2], .int .i64 c]) ∧ RdSol 0 w'.heap.size w' r1 r2 A B ∧ Below w0.heap.size w0 w'

theorem OwnRowsIn.nil0 (lo hi : Nat) (w : World) : OwnRowsIn lo hi w (.slice none 0 0) [] :=
  ⟨[], ⟨by simp, .inl ⟨rfl, rfl⟩⟩, RowVals.nil _ _, (by intro k hk; cases hk), (by intro i hi; simp at hi)⟩
theorem OwnSol.nil0 {lo hi : Nat} {w : World} (h : lo ≤ hi) : OwnSol lo hi w (.slice none 0 0) (.slice none 0 0) [] [] :=
  ⟨lo, lo, lo, lo, Nat.le_refl _, h, Nat.le_refl _, h, .inl (Nat.le_refl _), OwnRowsIn.nil0 _ _ _, OwnRowsIn.nil0 _ _ _⟩

theorem total_le (t : List (List Int)) (h : ∀ r ∈ t, r.length ≤ 12) : total t ≤ t.length * 12 := by
  induction t with
  | nil => simp [total]
  | cons r t ih =>
    have h1 := h r (by simp)
    have h2 := ih fun r hr => h r (by simp [hr])
    simp only [total, List.length_cons]
    omega
theorem tab_rows {n : Nat} {g : Int → Int → Int} (hn : n ≤ 12) : ∀ r ∈ tabOf n g, r.length ≤ 12 := by
  intro r hr
  simp only [tabOf, List.mem_map] at hr
  obtain ⟨x, _, rfl⟩ := hr
  simpa using hn
end Go.Proofs.Ytkghonhghbcdlaa

namespace Go.Proofs.Ytkghonhghbcdlaa
set_option linter.unusedVariables false
set_option linter.unusedSimpArgs false
open Go.RowKit

def ivF (A B : List (List Int)) (x y : Nat) : Bool := decide (val2 A (val2 A x y) (val2 B x y) = x) && decide (val2 B (val2 A x y) (val2 B x y) = y)
def involL (A B : List (List Int)) : Bool := all2 A.length (ivF A B)


set_option maxRecDepth 100000 in
set_option maxHeartbeats 800000 in
theorem c_isInvolutive (v0 u0 : Value) (A B : List (List Int)) (w : World) (hA : Sol w v0 u0 A B) (hp : isPM A B = true) :
    Calls Try.prog 62 #[.agg #[v0, u0]] w (RVal w (.bool (involL A B))) := by
  obtain ⟨n0, b0, o0, c0, rb0, ro0, rc0, b0s, o0s, c0s, rb0s, ro0s, rc0s, rfl, rfl, hl0, hl0s, hn0, hx0, hc0, hm0, hc0s, hm0s, t0, t0s⟩ := hA.tabs hp
  have HL0 := Lib.hid hl0; clear hl0
  have HL0s := Lib.hid hl0s; clear hl0s
  go_enter Try.func62, Try.ntmps62
  go_wp2
  obtain ⟨f0, hW0, hsz⟩ := boxes1 w [.slice (some ⟨b0, o0, none⟩) n0 c0, .slice (some ⟨b0s, o0s, none⟩) n0 c0s] 26
  obtain ⟨W0, hW⟩ : ∃ W, (w.alloc (.cells #[.slice (some ⟨b0, o0, none⟩) n0 c0, .slice (some ⟨b0s, o0s, none⟩) n0 c0s] 26)) = W := ⟨_, rfl⟩
  rw [hW] at f0 hW0 hsz ⊢
  have HSZ := Lib.hid hsz
  clear hW hsz
  obtain ⟨cA0, cB0, -, -⟩ := two_cells f0
  replace t0 := t0.below hW0; replace t0s := t0s.below hW0
  have HT := Lib.hid t0; have HTs := Lib.hid t0s; have HW := Lib.hid hW0; have HF := Lib.hid f0
  clear t0 t0s hA hp hW0 f0
  go_loop [11, 3, 4, 5, 6, 7] (fun i _ _ _ _ _ => ∃ k : Nat, k ≤ n0 ∧ i = .int .i64 k ∧ Hid (∀ x, x < k → ∀ y, y < n0 → ivF A B x y = true)) (fun i _ _ _ _ _ => n0 - (intOf i).toNat)
  case atStart => exact ⟨0, Nat.zero_le _, rfl, Lib.hid (by intro x hx; omega)⟩
  case round =>
    obtain ⟨k, hk, rfl, HA⟩ := hrel
    by_cases hlt : k < n0
    · have r1 := HT.out.row k hlt
      go_wp2
      go_loop [18, 5, 6, 7] (fun i _ _ _ => ∃ j : Nat, j ≤ n0 ∧ i = .int .i64 j ∧ Hid (∀ y, y < j → ivF A B k y = true)) (fun i _ _ _ => n0 - (intOf i).toNat)
      case atStart => exact ⟨0, Nat.zero_le _, rfl, Lib.hid (by intro x hx; omega)⟩
      case round =>
        obtain ⟨j, hj, rfl, HA2⟩ := hrel
        by_cases hlj : j < n0
        · have T := HT.out; have Ts := HTs.out
          have x1 := T.val k j hlt hlj; have r2 := Ts.row k hlt; have x2 := Ts.val k j hlt hlj
          obtain ⟨hu0, hu1⟩ := T.rng k j (by omega) (by omega) (by omega) (by omega)
          obtain ⟨hv0, hv1⟩ := Ts.rng k j (by omega) (by omega) (by omega) (by omega)
          have r3 := T.rowi (val2 A k j) hu0 hu1; have x3 := T.vali (val2 A k j) (val2 B k j) hu0 hu1 hv0 hv1
          have r4 := Ts.rowi (val2 A k j) hu0 hu1; have x4 := Ts.vali (val2 A k j) (val2 B k j) hu0 hu1 hv0 hv1
          clear T Ts
          by_cases h1 : val2 A (val2 A k j) (val2 B k j) = k
          · have e1 : (val2 A (val2 A k j) (val2 B k j) != (k : Int)) = false := by simp [h1]
            by_cases h2 : val2 B (val2 A k j) (val2 B k j) = j
            · have e2 : (val2 B (val2 A k j) (val2 B k j) != (j : Int)) = false := by simp [h2]
              have H1 := Lib.hid h1; have H2 := Lib.hid h2; clear h1 h2
              go_wp2
              go_round
              case rel => exact ⟨j + 1, by omega, by go_num, Lib.hid (lt_snoc HA2.out (by simp [ivF, H1.out, H2.out]))⟩
              case measure => simp [intOf]; omega
            · have e2 : (val2 B (val2 A k j) (val2 B k j) != (j : Int)) = true := by simp [h2]
              have H2 := Lib.hid h2; clear h1 h2
              go_wp2
              go_ret
              exact ⟨ret_bool (by simp [involL, HL0.out, all2_no hlt hlj (P := ivF A B) (by simp [ivF, H2.out])]), HW.out⟩
          · have e1 : (val2 A (val2 A k j) (val2 B k j) != (k : Int)) = true := by simp [h1]
            have H1 := Lib.hid h1; clear h1
            go_wp2
            go_ret
            exact ⟨ret_bool (by simp [involL, HL0.out, all2_no hlt hlj (P := ivF A B) (by simp [ivF, H1.out])]), HW.out⟩
        · obtain rfl : j = n0 := by omega
          go_wp2
          go_round
          case rel => exact ⟨k + 1, by omega, by go_num, Lib.hid (lt_snoc HA.out HA2.out)⟩
          case measure => simp [intOf]; omega
    · obtain rfl : k = n0 := by omega
      go_wp2
      go_ret
      exact ⟨ret_bool (by simp [involL, HL0.out, all2_iff.2 HA.out]), HW.out⟩

def pmCode' (A B : List (List Int)) : Int := if isPM A B then 0 else 1
def involRes (A B : List (List Int)) : Bool := if isPM A B then involL A B else false
set_option maxHeartbeats 800000 in
theorem c_IsInvolutive (v0 u0 : Value) (A B : List (List Int)) (w : World) (hA : Sol w v0 u0 A B) :
    Calls Try.prog 21 #[.agg #[v0, u0]] w (RVal w (.tuple #[.bool (involRes A B), .int .i64 (pmCode' A B)])) := by
  obtain ⟨a0, c0, rfl, _, _⟩ := hA.1.shape
  obtain ⟨a0s, c0s, rfl, _, _⟩ := hA.2.shape
  by_cases hp0 : isPM A B = true
  case neg =>
    have hq0 : isPM A B = false := by simpa using hp0
    have HQ := Lib.hid hq0; clear hp0
    go_enter Try.func21, Try.ntmps21
    go_wp2_with fail
    obtain ⟨f0, hW0, hsz⟩ := boxes1 w [.slice a0 A.length c0, .slice a0s B.length c0s] 26
    obtain ⟨W0, hW⟩ : ∃ W, (w.alloc (.cells #[.slice a0 A.length c0, .slice a0s B.length c0s] 26)) = W := ⟨_, rfl⟩
    rw [hW] at f0 hW0 hsz ⊢
    clear hW hsz
    refine (c_IsPairMap _ _ _ _ _ (hA.below hW0)).mono ?_; rintro e g0 ⟨rfl, hbg0⟩
    have hB0 := bb hW0 hbg0
    replace f0 := f0.under hbg0
    obtain ⟨cA0, cB0, -, -⟩ := two_cells f0
    clear hbg0
    have HB := Lib.hid hB0
    clear hB0 f0 hW0 hA
    go_wp2
    go_ret2
    exact ⟨by simp [involRes, pmCode', HQ.out], HB.out⟩
  have HP0 := Lib.hid hp0
  go_enter Try.func21, Try.ntmps21
  go_wp2_with fail
  obtain ⟨f0, hW0, hsz⟩ := boxes1 w [.slice a0 A.length c0, .slice a0s B.length c0s] 26
  obtain ⟨W0, hW⟩ : ∃ W, (w.alloc (.cells #[.slice a0 A.length c0, .slice a0s B.length c0s] 26)) = W := ⟨_, rfl⟩
  rw [hW] at f0 hW0 hsz ⊢
  clear hW hsz
  refine (c_IsPairMap _ _ _ _ _ (hA.below hW0)).mono ?_; rintro e g0 ⟨rfl, hbg0⟩
  have hB0 := bb hW0 hbg0
  replace f0 := f0.under hbg0
  obtain ⟨cA0, cB0, -, -⟩ := two_cells f0
  clear hbg0
  go_wp2_with fail
  refine (c_isInvolutive _ _ _ _ _ (hA.below hB0) HP0.out).mono ?_; rintro e wz ⟨rfl, hb⟩
  have HB := Lib.hid (bb hB0 hb)
  clear hb hB0 f0 hW0 hA
  go_wp2
  go_ret2
  exact ⟨by simp [involRes, pmCode', HP0.out], HB.out⟩
end Go.Proofs.Ytkghonhghbcdlaa

namespace Go.Proofs.Ytkghonhghbcdlaa
set_option linter.unusedVariables false
set_option linter.unusedSimpArgs false
open Go.RowKit

theorem Rows.any {w : World} {v : Value} {t : List (List Int)} (h : Rows w v t) : ∃ a l c, v = .slice a l c := by
  obtain ⟨a, c, rfl, _, _⟩ := h.shape
  exact ⟨_, _, _, rfl⟩
theorem OwnRows.any {B : Nat} {w : World} {v : Value} {t : List (List Int)} (h : OwnRows B w v t) : ∃ a l c, v = .slice a l c := h.rows.any
theorem storedR {w w2 : World} {r1 r2 : Value} {A B : List (List Int)} {lo q : Nat} (hB : Below w.heap.size w w2) (hs : OwnRows lo w2 r1 A ∧ OwnRows lo w2 r2 B) (hq : w.heap.size ≤ q) (hlo : q < lo) :
    RdSol 0 ((w2.setCell ⟨q, 0, none⟩ r1).setCell ⟨q, 1, none⟩ r2).heap.size ((w2.setCell ⟨q, 0, none⟩ r1).setCell ⟨q, 1, none⟩ r2) r1 r2 A B ∧ Below w.heap.size w ((w2.setCell ⟨q, 0, none⟩ r1).setCell ⟨q, 1, none⟩ r2) := by
  have k : Keep (fun b => b = q) w2 ((w2.setCell ⟨q, 0, none⟩ r1).setCell ⟨q, 1, none⟩ r2) := ((Keep.refl (fun b => b = q) w2).setCell (p := ⟨q, 0, none⟩) (.inl rfl) _).setCell (p := ⟨q, 1, none⟩) (.inl rfl) _
  exact ⟨⟨_, rfl, ⟨(hs.1.keep k (fun b h1 _ h3 => by omega)).rows, (hs.2.keep k (fun b h1 _ h3 => by omega)).rows⟩, Nat.le_refl _, Below.refl _ _⟩, (hB.setCell (p := ⟨q, 0, none⟩) hq _).setCell (p := ⟨q, 1, none⟩) hq _⟩
theorem rsolR_of {w : World} {A B : List (List Int)} {e : Ending} {w' : World} (h : RSol w A B e w') : RSolR w A B e w' := by
  obtain ⟨r1, r2, he, hs, hb⟩ := h
  obtain ⟨lo1, hi1, lo2, hi2, h1, _, h3, _, _, k1, k2⟩ := hs
  exact ⟨r1, r2, he, ⟨k1.out.mono h1, k2.out.mono h3⟩, hb⟩
end Go.Proofs.Ytkghonhghbcdlaa

namespace Go.Proofs.Ytkghonhghbcdlaa
set_option linter.unusedVariables false
set_option linter.unusedSimpArgs false
open Go.RowKit

set_option maxHeartbeats 400000 in
theorem c_slicesEqual (v1 v2 : Value) (xs ys : List Int) (w : World) (hx : Ints w v1 xs) (hy : Ints w v2 ys) :
    Calls Try.prog 110 #[v1, v2] w (QVal w (.bool (decide (xs = ys)))) := by
  obtain ⟨a, c, rfl, hc, hm, hcell⟩ := hx
  obtain ⟨a2, c2, rfl, hc2, hm2, hcell2⟩ := hy
  have hm' : xs.length ≤ 9223372036854775807 := by unfold maxLen at hm; omega
  have hm2' : ys.length ≤ 9223372036854775807 := by unfold maxLen at hm2; omega
  have HC := Lib.hid hcell; clear hcell
  have HC2 := Lib.hid hcell2; clear hcell2
  clear hm hm2
  by_cases hlen : xs.length = ys.length
  · have hl1 : ((xs.length : Int) == (ys.length : Int)) = true := by simp [hlen]
    have hl2 : ((xs.length : Int) != (ys.length : Int)) = false := by simp [hlen]
    have HL := Lib.hid hlen; clear hlen
    go_enter Try.func110, Try.ntmps110
    go_wp2
    go_loopw [13, 5] (fun i _ wr => ∃ k : Nat, k ≤ xs.length ∧ i = .int .i64 k ∧ Hid (∃ n, wr = w.drewN n) ∧ Hid (xs.take k = ys.take k)) (fun i _ _ => xs.length - (intOf i).toNat)
    case atStart => exact ⟨0, Nat.zero_le _, rfl, Lib.hid ⟨0, rfl⟩, Lib.hid rfl⟩
    case round =>
      obtain ⟨k, hk, rfl, HN, HE⟩ := hrel
      have hb : Below w.heap.size w wr := by obtain ⟨n, hn⟩ := HN.out; rw [hn]; exact below_drewN (Below.refl _ _) n
      by_cases hlt : k < xs.length
      · have hlt2 : k < ys.length := by have := HL.out; omega
        obtain ⟨b, o, rfl, hcell⟩ := HC.out k hlt
        obtain ⟨b2, o2, rfl, hcell2⟩ := HC2.out k hlt2
        have h1 : wr.cell? ⟨b, o + k, none⟩ = some (.int .i64 xs[k]) := cell_under hb hcell
        have h2 : wr.cell? ⟨b2, o2 + k, none⟩ = some (.int .i64 ys[k]) := cell_under hb hcell2
        clear hb hcell hcell2
        have hk0 : (0 : Int) ≤ k := by omega
        have hk1 : (k : Int) < xs.length := by omega
        have hk2 : (k : Int) < ys.length := by omega
        by_cases he : xs[k] = ys[k]
        · have he1 : (xs[k] != ys[k]) = false := by simp [he]
          have HV := Lib.hid he; clear he
          go_wp2
          go_quiet (fail)
          go_wp2
          go_roundw
          case rel => exact ⟨k + 1, by omega, by go_num, by obtain ⟨n, hn⟩ := HN.out; exact Lib.hid ⟨n + _, by rw [hn]; exact drewN_drewN w n _⟩, Lib.hid (eq_snoc hlt hlt2 HE.out HV.out)⟩
          case measure => simp [intOf]; omega
        · have he1 : (xs[k] != ys[k]) = true := by simp [he]
          go_wp2
          go_quiet (fail)
          go_wp2
          go_ret
          refine ⟨ret_bool ?_, by obtain ⟨n, hn⟩ := HN.out; exact ⟨n + _, by rw [hn]; exact drewN_drewN w n _⟩⟩
          simp only [Eq.comm (a := false), decide_eq_false_iff_not]
          rintro rfl
          exact he rfl
      · go_wp2
        go_ret
        refine ⟨ret_bool ?_, HN.out⟩
        have h := HE.out
        rw [List.take_of_length_le (by omega), List.take_of_length_le (by have := HL.out; omega)] at h
        simp [h]
  · have hl1 : ((xs.length : Int) == (ys.length : Int)) = false := by simp; omega
    have hl2 : ((xs.length : Int) != (ys.length : Int)) = true := by simp; omega
    go_enter Try.func110, Try.ntmps110
    go_wp2
    go_ret
    refine ⟨ret_bool ?_, ⟨0, rfl⟩⟩
    simp only [Eq.comm (a := false), decide_eq_false_iff_not]
    rintro rfl
    exact hlen rfl
end Go.Proofs.Ytkghonhghbcdlaa

namespace Go.Proofs.Ytkghonhghbcdlaa
set_option linter.unusedVariables false
set_option linter.unusedSimpArgs false
open Go.RowKit

def twOk (p q : List Int) : Bool := isPerm p && isPerm q && decide (p.length = q.length)
def twCm (p q : List Int) : Bool := decide (thenL p q = thenL q p)
def twRA (p q : List Int) : List (List Int) := if twOk p q && twCm p q then twA p else []
def twRB (p q : List Int) : List (List Int) := if twOk p q && twCm p q then twB p q else []
def twCode (p q : List Int) : Int := if twOk p q then (if twCm p q then 0 else 5) else 2
theorem twOk_of {p q : List Int} (h1 : isPerm p = true) (h2 : isPerm q = true) (h3 : p.length = q.length) : twOk p q = true := by simp [twOk, h1, h2, h3]
theorem twOk_no1 {p q : List Int} (h1 : isPerm p = false) : twOk p q = false := by simp [twOk, h1]
theorem twOk_no2 {p q : List Int} (h1 : isPerm q = false) : twOk p q = false := by simp [twOk, h1]
theorem twOk_no3 {p q : List Int} (h1 : p.length ≠ q.length) : twOk p q = false := by simp [twOk, h1]
theorem perm_inT {xs : List Int} (h : isPerm xs = true) : (∀ x ∈ xs, 0 ≤ x ∧ x < xs.length) ∧ xs.length ≤ 12 := by
  simp [isPerm, inR] at h; exact ⟨h.2.2, by omega⟩


theorem tw_total (p q : List Int) : total (twRA p q) ≤ 144 ∧ total (twRB p q) ≤ 144 := by
  unfold twRA twRB
  split
  · rename_i h
    have hl : p.length ≤ 12 := by simp [twOk, isPerm, inR] at h; omega
    have h1 := total_le _ (tab_rows (g := fun _ y => nth p y) hl)
    have h2 := total_le _ (tab_rows (g := fun x _ => nth q x) hl)
    rw [tabOf_length] at h1 h2
    unfold twA twB
    omega
  · simp [total]
end Go.Proofs.Ytkghonhghbcdlaa

namespace Go.Proofs.Ytkghonhghbcdlaa
set_option linter.unusedVariables false
set_option linter.unusedSimpArgs false
open Go.RowKit

theorem val2_tabOf' {n : Nat} {g : Int → Int → Int} {x y : Int} (hx0 : 0 ≤ x) (hx : x < n) (hy0 : 0 ≤ y) (hy : y < n) : val2 (tabOf n g) x y = g x y := by
  show nth (row (tabOf n g) x) y = _
  rw [row_tabOfi _ _ _ hx0 hx, nth_rowOfi _ _ _ hy0 hy]
theorem perm_lt {p : List Int} (h : Permuted p) {x : Int} (h0 : 0 ≤ x) (h1 : x < p.length) : 0 ≤ nth p x ∧ nth p x < p.length := h.2 _ (nth_mem h0 h1)
theorem perm_inj {p : List Int} (h : Permuted p) {x y : Int} (h0 : 0 ≤ x) (h1 : x < p.length) (g0 : 0 ≤ y) (g1 : y < p.length) (e : nth p x = nth p y) : x = y := by
  rw [← nth_invL h h0 h1, e, nth_invL h g0 g1]
theorem isPerm_parts {p : List Int} (h : isPerm p = true) : 1 ≤ p.length ∧ p.length ≤ 12 ∧ Permuted p := by
  simp only [isPerm, Bool.and_eq_true, inR, decide_eq_true_eq] at h
  exact ⟨by omega, by omega, h.2⟩

section
variable {p q : List Int} (hp : Permuted p) (hq : Permuted q) (hl : q.length = p.length) (h1 : 1 ≤ p.length) (h12 : p.length ≤ 12)
include hp hq hl h1 h12
omit hp hq hl h1 h12 in
theorem tw_A0 {x y : Int} (hx0 : 0 ≤ x) (hx : x < p.length) (hy0 : 0 ≤ y) (hy : y < p.length) : val2 (twA p) x y = nth p y := val2_tabOf' hx0 hx hy0 hy
omit hp hq hl h1 h12 in
theorem tw_B0 {x y : Int} (hx0 : 0 ≤ x) (hx : x < p.length) (hy0 : 0 ≤ y) (hy : y < p.length) : val2 (twB p q) x y = nth q x := val2_tabOf' hx0 hx hy0 hy
theorem tw_pm : isPM (twA p) (twB p q) = true := by
  have ha : isTab (twA p) = true := isTab_tabOf h1 h12 fun x y hx hy => perm_lt hp (by omega) (by omega)
  have hb : isTab (twB p q) = true := isTab_tabOf h1 h12 fun x y hx hy => by have := perm_lt hq (x := x) (by omega) (by omega); omega
  have hab : (twA p).length = (twB p q).length := by simp [twA, twB]
  simp [isPM, ha, hb, hab]
theorem tw_coll : collL (twA p) (twB p q) = [] := by
  have hla : (twA p).length = p.length := by simp [twA]
  unfold collL
  refine quad_none (find2_none fun a ha b hb => ?_)
  rw [hla] at ha hb ⊢
  unfold colP
  have a1 := div_lt_sq ha; have a2 := Nat.mod_lt a (show 0 < p.length by omega)
  have b1 := div_lt_sq hb; have b2 := Nat.mod_lt b (show 0 < p.length by omega)
  have g1 := Nat.div_add_mod a p.length
  have g2 := Nat.div_add_mod b p.length
  generalize a / p.length = x1 at a1 g1 ⊢
  generalize a % p.length = y1 at a2 g1 ⊢
  generalize b / p.length = x2 at b1 g2 ⊢
  generalize b % p.length = y2 at b2 g2 ⊢
  rw [tw_A0 (by omega) (by omega) (by omega) (by omega), tw_A0 (by omega) (by omega) (by omega) (by omega), tw_B0 (by omega) (by omega) (by omega) (by omega), tw_B0 (by omega) (by omega) (by omega) (by omega)]
  by_cases e1 : nth p (y1 : Int) = nth p (y2 : Int)
  · by_cases e2 : nth q (x1 : Int) = nth q (x2 : Int)
    · have f1 := perm_inj hp (by omega) (by omega) (by omega) (by omega) e1
      have f2 := perm_inj hq (by omega) (by omega) (by omega) (by omega) e2
      have : a = b := by
        rw [← g1, ← g2, show x1 = x2 by omega, show y1 = y2 by omega]
      simp [this]
    · simp [e2]
  · simp [e1]
theorem tw_nd : nondegL (twA p) (twB p q) = true := by
  have e : ∀ {n : Nat} {g : Int → Int → Int} {r : List Int}, isPerm r = true → (∀ x : Nat, x < n → rowOf n (g x) = r) → permRows (tabOf n g) = true := by
    intro n g r hr hg
    unfold permRows tabOf
    rw [List.all_eq_true]
    intro s hs
    rw [List.mem_map] at hs
    obtain ⟨x, hx, rfl⟩ := hs
    have e := hg x (by simpa using hx)
    show isPerm (rowOf n (g x)) = true
    rw [e]; exact hr
  have ip : isPerm p = true := by simp [isPerm, inR, hp]; omega
  have iq : isPerm q = true := by simp [isPerm, inR, hq]; omega
  unfold nondegL
  rw [Bool.and_eq_true]
  refine ⟨e ip fun x hx => rowOf_self p, ?_⟩
  have hlb : (twB p q).length = p.length := by simp [twB]
  unfold transL
  rw [hlb]
  refine e iq fun x hx => ?_
  have : rowOf p.length (fun y => val2 (twB p q) y x) = rowOf p.length (nth q) := rowOf_congr fun y hy => tw_B0 (by omega) (by omega) (by omega) (by omega)
  rw [this, ← hl, rowOf_self]
theorem tw_inv : involL (twA p) (twB p q) = decide (invL p = q) := by
  have hla : (twA p).length = p.length := by simp [twA]
  have key : ∀ x y : Nat, x < p.length → y < p.length → ivF (twA p) (twB p q) x y = (decide (nth p (nth q x) = x) && decide (nth q (nth p y) = y)) := by
    intro x y hx hy
    have a := perm_lt hp (x := y) (by omega) (by omega)
    have b := perm_lt hq (x := x) (by omega) (by omega)
    unfold ivF
    rw [tw_A0 (x := x) (y := y) (by omega) (by omega) (by omega) (by omega), tw_B0 (x := x) (y := y) (by omega) (by omega) (by omega) (by omega),
      tw_A0 (by omega) (by omega) (by omega) (by omega), tw_B0 (by omega) (by omega) (by omega) (by omega)]
  rw [Bool.eq_iff_iff]
  unfold involL
  rw [all2_iff, hla, decide_eq_true_eq]
  constructor
  · intro h
    apply ext_nth (by simp; omega)
    intro k hk
    simp at hk
    obtain ⟨x, x0, x1, ex⟩ := ex_pre hp (y := (k : Int)) (by omega) (by omega)
    have := h 0 (by omega) x.toNat (by omega)
    rw [key _ _ (by omega) (by omega)] at this
    simp only [Bool.and_eq_true, decide_eq_true_eq] at this
    have e := this.2
    rw [show ((x.toNat : Nat) : Int) = x by omega, ex] at e
    rw [e, ← ex, nth_invL hp x0 x1]
  · intro h x hx y hy
    rw [key x y hx hy, ← h]
    have e2 := nth_invL hp (x := (y : Int)) (by omega) (by omega)
    obtain ⟨z, z0, z1, ez⟩ := ex_pre hp (y := (x : Int)) (by omega) (by omega)
    have e1 : nth p (nth (invL p) x) = x := by rw [← ez, nth_invL hp z0 z1]
    simp [e1, e2]
theorem tw_sol (hc : thenL p q = thenL q p) : isSol (twA p) (twB p q) = true := by
  have hla : (twA p).length = p.length := by simp [twA]
  have hcom : ∀ y : Int, 0 ≤ y → y < p.length → nth q (nth p y) = nth p (nth q y) := by
    intro y y0 y1
    have e : nth (thenL p q) y = nth (thenL q p) y := by rw [hc]
    rw [nth_thenL _ _ _ y0 y1, nth_thenL _ _ _ y0 (by omega)] at e
    exact e
  have hyF : yF (twA p) (twB p q) = [] := by
    unfold yF
    have : find3 (twA p).length (yP (twA p) (twB p q)) = none := find3_none fun x hx y hy z hz => by
      rw [hla] at hx hy hz
      have px := perm_lt hp (x := x) (by omega) (by omega)
      have py := perm_lt hp (x := y) (by omega) (by omega)
      have pz := perm_lt hp (x := z) (by omega) (by omega)
      have qx := perm_lt hq (x := x) (by omega) (by omega)
      have qy := perm_lt hq (x := y) (by omega) (by omega)
      have tA := fun (x y : Int) (a : 0 ≤ x) (b : x < p.length) (c : 0 ≤ y) (d : y < p.length) => tw_A0 (p := p) (x := x) (y := y) a b c d
      have tB := fun (x y : Int) (a : 0 ≤ x) (b : x < p.length) (c : 0 ≤ y) (d : y < p.length) => tw_B0 (p := p) (q := q) (x := x) (y := y) a b c d
      unfold yP yL yR
      rw [tA x y (by omega) (by omega) (by omega) (by omega), tB x y (by omega) (by omega) (by omega) (by omega), tA y z (by omega) (by omega) (by omega) (by omega), tB y z (by omega) (by omega) (by omega) (by omega),
        tA (nth q x) z (by omega) (by omega) (by omega) (by omega), tB (nth q x) z (by omega) (by omega) (by omega) (by omega), tA x (nth p z) (by omega) (by omega) (by omega) (by omega), tB x (nth p z) (by omega) (by omega) (by omega) (by omega),
        tA (nth p y) (nth p z) (by omega) (by omega) (by omega) (by omega), tB (nth p y) (nth p z) (by omega) (by omega) (by omega) (by omega), tA (nth q x) (nth q y) (by omega) (by omega) (by omega) (by omega), tB (nth q x) (nth q y) (by omega) (by omega) (by omega) (by omega), hcom y (by omega) (by omega)]
      simp
    rw [this]; rfl
  simp [isSol, tw_pm hp hq hl h1 h12, tw_coll hp hq hl h1 h12, hyF]
end
theorem then_back {p : List Int} (hp : Permuted p) : thenL p (invL p) = iota p.length := by
  apply ext_nth (by simp)
  intro k hk
  simp at hk
  rw [nth_thenL _ _ _ (by omega) (by omega), nth_invL hp (by omega) (by omega)]
  rw [nth_nat _ _ (by simpa using hk)]
  simp [iota]
end Go.Proofs.Ytkghonhghbcdlaa

namespace Go.Proofs.Ytkghonhghbcdlaa
set_option linter.unusedVariables false
set_option linter.unusedSimpArgs false
open Go.ChangeShapes Go.WideShapes Go.ChangeAt Go.RowKit

theorem own_knob : ownKnob Try.prog.godebug = none := by kernel_rfl
theorem laid_out : laidOutB Try.prog = true := by kernel_rfl
theorem cells_int64 : Try.prog.cellsOf 2 = 1 := by kernel_rfl
theorem cells_ints : Try.prog.cellsOf 27 = 1 := by kernel_rfl

section
variable {H : Type} {enc : TypeId × Value → H} {w : World} {base : Nat} {spare : Nat → Bool} {held : Bool}

theorem ints_of_trod {fuel : Nat} {u : Value} {x : DataW H × List MemPlace} (h : DataW.trod enc Try.prog w base spare held fuel 27 [u] = some x) : ∃ xs, Ints w u xs := by
  rcases open_ints Try.underlying27 Try.underlying2 cells_int64 h with ⟨hcs, _⟩ | ⟨a, len, cap, zs, hcs, _, hl, hm, hz, _, hcell, _⟩
  · simp at hcs; subst hcs
    exact ⟨[], Ints.nil w⟩
  · simp at hcs; subst hcs
    have hge : len ≤ zs.length := by rw [hz]; split <;> omega
    have hlen : (zs.take len).length = len := by simp; omega
    refine ⟨zs.take len, some a, cap, by rw [hlen], by rw [hlen]; exact hl, hm, fun i hi => ?_⟩
    have hi' : i < zs.length := by omega
    obtain ⟨b, off, rfl, hc⟩ := ints_at hcell (by omega)
    refine ⟨b, off, rfl, ?_⟩
    rw [hc i hi']
    simp [hi']

theorem rows_of_trod {fuel : Nat} {u : Value} {x : DataW H × List MemPlace} (h : DataW.trod enc Try.prog w base spare held fuel 24 [u] = some x) : ∃ xss, Rows w u xss := by
  rcases Deep.open_slice1 Try.underlying24 cells_ints h with ⟨hcs, _⟩ | ⟨a, len, cap, m, n, V, D, Pl, hcs, _, hl, hm, hmm, _, hx⟩
  · simp at hcs; subst hcs
    exact ⟨[], Rows.nil w⟩
  · simp at hcs; subst hcs
    have hge : len ≤ m := by rw [hmm]; split <;> omega
    have each : ∀ i, i < len → ∃ xs, Ints w (V i) xs := fun i hi => ints_of_trod (hx i (by omega)).2
    obtain ⟨Z, hZ⟩ := Deep.choose_lt each
    refine ⟨(List.range len).map Z, some a, cap, by simp, by simpa using hl, hm, fun i hi => ?_⟩
    have hi' : i < len := by simpa using hi
    have h0 := (hx 0 (by omega)).1
    obtain ⟨b, off, spot⟩ := a
    have hspot : spot = none := by simpa [Addr.add] using World.cell?_spot h0
    subst hspot
    refine ⟨b, off, V i, rfl, ?_, ?_⟩
    · have := (hx i (by omega)).1
      rwa [Go.WideShapes.add_plain] at this
    · simpa using hZ i hi'

end
end Go.Proofs.Ytkghonhghbcdlaa

namespace Go.Proofs.Ytkghonhghbcdlaa
set_option linter.unusedVariables false
set_option linter.unusedSimpArgs false
open Go.RowKit

def pmCodeN (A B : List (List Int)) : Int := if isPM A B then 0 else 1
def ndRes (A B : List (List Int)) : Bool := if isPM A B then nondegL A B else false
set_option maxHeartbeats 800000 in
theorem c_IsNondegenerate (v0 u0 : Value) (A B : List (List Int)) (w : World) (hA : Sol w v0 u0 A B) :
    Calls Try.prog 22 #[.agg #[v0, u0]] w (RVal w (.tuple #[.bool (ndRes A B), .int .i64 (pmCodeN A B)])) := by
  obtain ⟨a0, c0, rfl, _, _⟩ := hA.1.shape
  obtain ⟨a0s, c0s, rfl, _, _⟩ := hA.2.shape
  by_cases hp0 : isPM A B = true
  case neg =>
    have hq0 : isPM A B = false := by simpa using hp0
    have HQ := Lib.hid hq0; clear hp0
    go_enter Try.func22, Try.ntmps22
    go_wp2_with fail
    obtain ⟨f0, hW0, hsz⟩ := boxes1 w [.slice a0 A.length c0, .slice a0s B.length c0s] 26
    obtain ⟨W0, hW⟩ : ∃ W, (w.alloc (.cells #[.slice a0 A.length c0, .slice a0s B.length c0s] 26)) = W := ⟨_, rfl⟩
    rw [hW] at f0 hW0 hsz ⊢
    clear hW hsz
    refine (c_IsPairMap _ _ _ _ _ (hA.below hW0)).mono ?_; rintro e g0 ⟨rfl, hbg0⟩
    have hB0 := bb hW0 hbg0
    replace f0 := f0.under hbg0
    obtain ⟨cA0, cB0, -, -⟩ := two_cells f0
    clear hbg0
    have HB := Lib.hid hB0
    clear hB0 f0 hW0 hA
    go_wp2
    go_ret2
    exact ⟨by simp [ndRes, pmCodeN, HQ.out], HB.out⟩
  have HP0 := Lib.hid hp0
  go_enter Try.func22, Try.ntmps22
  go_wp2_with fail
  obtain ⟨f0, hW0, hsz⟩ := boxes1 w [.slice a0 A.length c0, .slice a0s B.length c0s] 26
  obtain ⟨W0, hW⟩ : ∃ W, (w.alloc (.cells #[.slice a0 A.length c0, .slice a0s B.length c0s] 26)) = W := ⟨_, rfl⟩
  rw [hW] at f0 hW0 hsz ⊢
  clear hW hsz
  refine (c_IsPairMap _ _ _ _ _ (hA.below hW0)).mono ?_; rintro e g0 ⟨rfl, hbg0⟩
  have hB0 := bb hW0 hbg0
  replace f0 := f0.under hbg0
  obtain ⟨cA0, cB0, -, -⟩ := two_cells f0
  clear hbg0
  go_wp2_with fail
  refine (c_isNondegenerate _ _ _ _ _ (hA.below hB0) HP0.out).mono ?_; rintro e wz ⟨rfl, hb⟩
  have HB := Lib.hid (bb hB0 hb)
  clear hb hB0 f0 hW0 hA
  go_wp2
  go_ret2
  exact ⟨by simp [ndRes, pmCodeN, HP0.out], HB.out⟩
end Go.Proofs.Ytkghonhghbcdlaa

namespace Go.Proofs.Ytkghonhghbcdlaa
set_option linter.unusedVariables false
set_option linter.unusedSimpArgs false
open Go.RowKit

def flN (n : Int) : List Int := iota n.toNat
def flA (n : Int) : List (List Int) := if inR n 1 12 then twA (flN n) else []
def flB (n : Int) : List (List Int) := if inR n 1 12 then twB (flN n) (flN n) else []
def flCode (n : Int) : Int := if inR n 1 12 then 0 else 2

set_option maxHeartbeats 400000 in
theorem c_l02Flip (n : Nat) (w : World) (hn : n ≤ 1048576) :
    Calls Try.prog 129 #[.int .i64 n] w (RSolR w (twA (iota n)) (twB (iota n) (iota n))) := by
  obtain ⟨f0, hW0, hsz⟩ := boxes1 w [.slice none 0 0, .slice none 0 0] 26
  have HF := Lib.hid f0; have HW := Lib.hid hW0; clear f0 hW0
  go_enter Try.func129, Try.ntmps129
  go_wp2_with fail
  refine (c_l01Unit n _ hn).mono ?_; rintro e w1 ⟨r1, rfl, ho1, hb1⟩
  have HO := Lib.hid ho1; have HB1 := Lib.hid hb1; clear ho1 hb1
  go_wp2_with fail
  refine (c_l02Twist _ _ (iota n) (iota n) _ HO.out.ints HO.out.ints rfl (by rw [iota_length]; exact hn)).mono ?_; rintro e w2 ⟨s1, s2, rfl, hs, hb2⟩
  obtain ⟨a1, c1, rfl, _⟩ := OwnRows.shape' hs.1
  obtain ⟨a2, c2, rfl, _⟩ := OwnRows.shape' hs.2
  obtain ⟨g0, g1, g2, g3⟩ := two_cells ((HF.out.under HB1.out).under hb2)
  have HS := Lib.hid hs; have HB2 := Lib.hid hb2; have HZ := Lib.hid hsz; clear hs hb2 hsz
  go_wp2
  have hz := HZ.out
  have hs1 : (w.alloc (.cells #[.slice none 0 0, .slice none 0 0] 26)).heap.size ≤ w1.heap.size := HB1.out.size
  refine bodyPost_ret (v := .agg #[.slice a1 (twA (iota n)).length c1, .slice a2 (twB (iota n) (iota n)).length c2]) (by simp [results, Try.results129, go_sem, g0, g1]) rfl ⟨_, _, rfl, ⟨?_, ?_⟩, ((bb (bb HW.out HB1.out) HB2.out).setCell (p := ⟨w.heap.size, 0, none⟩) (Nat.le_refl _) _).setCell (p := ⟨w.heap.size, 1, none⟩) (Nat.le_refl _) _⟩
  · exact ((HS.out.1.keep (keep1 _ w.heap.size 0 _) (fun b h1 h2 h3 => by have h3 : b = w.heap.size := h3; omega)).keep (keep1 _ w.heap.size 1 _) (fun b h1 h2 h3 => by have h3 : b = w.heap.size := h3; omega)).mono (by omega)
  · exact ((HS.out.2.keep (keep1 _ w.heap.size 0 _) (fun b h1 h2 h3 => by have h3 : b = w.heap.size := h3; omega)).keep (keep1 _ w.heap.size 1 _) (fun b h1 h2 h3 => by have h3 : b = w.heap.size := h3; omega)).mono (by omega)


theorem fl_total (n : Int) : total (flA n) ≤ 144 ∧ total (flB n) ≤ 144 := by
  unfold flA flB
  split
  · rename_i h
    have hl : (flN n).length ≤ 12 := by simp [inR] at h; simp [flN]; omega
    have h1 := total_le _ (tab_rows (g := fun _ y => nth (flN n) y) hl)
    have h2 := total_le _ (tab_rows (g := fun x _ => nth (flN n) x) hl)
    rw [tabOf_length] at h1 h2
    unfold twA twB
    omega
  · simp [total]

end Go.Proofs.Ytkghonhghbcdlaa

namespace Go.Proofs.Ytkghonhghbcdlaa
set_option linter.unusedVariables false
set_option linter.unusedSimpArgs false
open Go.RowKit

theorem isPerm_in {xs : List Int} (h : isPerm xs = true) : (∀ x ∈ xs, 0 ≤ x ∧ x < xs.length) ∧ xs.length ≤ 1048576 := by
  simp [isPerm, inR] at h; exact ⟨h.2.2, by omega⟩

def invRes (xs : List Int) : List Int := if isPerm xs then invL xs else []
def invCode (xs : List Int) : Int := if isPerm xs then 0 else 1
theorem invRes_length (xs : List Int) : (invRes xs).length ≤ xs.length := by unfold invRes; split <;> simp



end Go.Proofs.Ytkghonhghbcdlaa

namespace Go.Proofs.Ytkghonhghbcdlaa
set_option linter.unusedVariables false
set_option linter.unusedSimpArgs false
open Go Go.RowKit Go.ChangeShapes Go.WideShapes Go.ChangeAt

section
variable {H : Type} {enc : TypeId × Value → H} {w : World} {base : Nat} {spare : Nat → Bool} {held : Bool}
theorem cells_u8 : Try.prog.cellsOf 5 = 1 := by kernel_rfl
theorem bytes_of_trod {fuel : Nat} {u : Value} {x : DataW H × List MemPlace} (h : DataW.trod enc Try.prog w base spare held fuel 22 [u] = some x) : ∃ bs, Bytes w u bs := by
  rcases open_ints Try.underlying22 Try.underlying5 cells_u8 h with ⟨hcs, _⟩ | ⟨a, len, cap, zs, hcs, _, hl, hm, hz, _, hcell, hwf⟩
  · simp at hcs; subst hcs
    exact ⟨[], none, 0, rfl, Nat.le_refl _, by decide, fun i hi => absurd hi (by simp)⟩
  · simp at hcs; subst hcs
    have hge : len ≤ zs.length := by rw [hz]; split <;> omega
    have hlen : (zs.take len).length = len := by simp; omega
    refine ⟨zs.take len, some a, cap, by rw [hlen], by rw [hlen]; exact hl, hm, fun i hi => ?_⟩
    have hi' : i < zs.length := by omega
    obtain ⟨b, off, rfl, hc⟩ := ints_at hcell (by omega)
    have hr := hwf (zs.getD i 0) (by simp [List.getD, hi'])
    have hci := hc i hi'
    generalize zs.getD i 0 = z at hr hci
    simp [Lit.wf, IntKind.min, IntKind.max, IntKind.signed, IntKind.bits] at hr
    exact ⟨b, off, z, rfl, hci, by omega, by omega⟩
end

structure TwF (w W : World) (v1 v2 : Value) (p q : List Int) (sb : Nat) (r1 r2 : Value) (A B : List (List Int)) : Prop where
  hp : Ints W v1 p
  hq : Ints W v2 q
  hs : Blk W sb 26 [r1, r2]
  hsol : Sol W r1 r2 A B
  hb : Below w.heap.size w W
theorem TwF.under {w W W' : World} {v1 v2 : Value} {p q : List Int} {sb : Nat} {r1 r2 : Value} {A B : List (List Int)} (h : TwF w W v1 v2 p q sb r1 r2 A B) (k : Below W.heap.size W W') : TwF w W' v1 v2 p q sb r1 r2 A B :=
  ⟨h.hp.below k, h.hq.below k, h.hs.under k, h.hsol.below k, h.hb.trans (k.mono h.hb.size)⟩
theorem TwF.new {w W : World} {v1 v2 : Value} {p q : List Int} {sb : Nat} {r1 r2 : Value} {A B : List (List Int)} (h : TwF w W v1 v2 p q sb r1 r2 A B) (o : Obj) : TwF w (W.alloc o) v1 v2 p q sb r1 r2 A B := h.under ((Below.refl _ _).alloc (Nat.le_refl _) o)

theorem tw_cases (p q : List Int) : twCode p q = 2 ∨ (twCode p q = 5 ∧ thenRes p q ≠ thenRes q p) ∨
    (twCode p q = 0 ∧ isPerm p = true ∧ isPerm q = true ∧ q.length = p.length ∧ thenL p q = thenL q p ∧ twRA p q = twA p ∧ twRB p q = twB p q) := by
  by_cases h1 : isPerm p = true
  · by_cases h2 : isPerm q = true
    · by_cases h3 : p.length = q.length
      · by_cases h4 : thenL p q = thenL q p
        · exact .inr (.inr ⟨by simp [twCode, twOk, twCm, h1, h2, h3, h4], h1, h2, h3.symm, h4, by simp [twRA, twOk, twCm, h1, h2, h3, h4], by simp [twRB, twOk, twCm, h1, h2, h3, h4]⟩)
        · refine .inr (.inl ⟨by simp [twCode, twOk, twCm, h1, h2, h3, h4], ?_⟩)
          simp [thenRes, okThen, h1, h2, h3, h4]
      · exact .inl (by simp [twCode, twOk, h3])
    · exact .inl (by simp [twCode, twOk, h2])
  · exact .inl (by simp [twCode, twOk, h1])

theorem inv_perm {p : List Int} (h : isPerm p = true) : isPerm (invL p) = true := by
  obtain ⟨⟨h1, h2⟩, hp⟩ := isPerm_in' h
  have : Permuted (invL p) := by
    rw [permuted_iff]
    intro x x0 x1
    rw [invL_length] at x1
    have := perm_lt hp x0 x1
    rw [← nth_invL hp x0 x1]
    exact nth_mem this.1 (by rw [invL_length]; exact this.2)
  simp [isPerm, inR, this]; omega
theorem iota_perm {n : Nat} (h1 : 1 ≤ n) (h2 : n ≤ 12) : isPerm (iota n) = true := by
  have : Permuted (iota n) := ⟨iota_nodup n, fun x hx => by simpa using (mem_iota n x).1 hx⟩
  simp [isPerm, inR, this]; omega
theorem then_unit {p : List Int} (h : isPerm p = true) : thenRes p (invL p) = iota p.length := by
  have h2 := inv_perm h
  simp only [thenRes, okThen, h, h2, invL_length]
  simpa using then_back (isPerm_in' h).2
theorem flip_unit {n : Nat} (h1 : 1 ≤ n) (h2 : n ≤ 12) : flA n = twA (iota n) ∧ flB n = twB (iota n) (iota n) ∧ flCode n = 0 := by
  have h : inR n 1 12 = true := by simp [inR]; omega
  exact ⟨by simp [flA, flN, h], by simp [flB, flN, h], by simp [flCode, h]⟩
theorem twist_unit {n : Nat} (h1 : 1 ≤ n) (h2 : n ≤ 12) : twRA (iota n) (iota n) = twA (iota n) ∧ twRB (iota n) (iota n) = twB (iota n) (iota n) ∧ twCode (iota n) (iota n) = 0 := by
  have h := iota_perm h1 h2
  exact ⟨by simp [twRA, twOk, twCm, h], by simp [twRB, twOk, twCm, h], by simp [twCode, twOk, twCm, h]⟩
end Go.Proofs.Ytkghonhghbcdlaa

namespace Go.Proofs.Ytkghonhghbcdlaa
set_option linter.unusedVariables false
set_option linter.unusedSimpArgs false
open Go Go.RowKit

def LS (w W : World) (L : List (Value × List Int)) (M : List (Value × List (List Int))) (Bx : List (Nat × Value × Value)) : Prop :=
  (∀ e ∈ L, Ints W e.1 e.2) ∧ (∀ e ∈ M, Rows W e.1 e.2) ∧ (∀ e ∈ Bx, Blk W e.1 26 [e.2.1, e.2.2]) ∧ Below w.heap.size w W
namespace LS
variable {w W W' : World} {L : List (Value × List Int)} {M : List (Value × List (List Int))} {Bx : List (Nat × Value × Value)}
theorem under (h : LS w W L M Bx) (k : Below W.heap.size W W') : LS w W' L M Bx :=
  ⟨fun e he => (h.1 e he).below k, fun e he => (h.2.1 e he).below k, fun e he => (h.2.2.1 e he).under k, h.2.2.2.trans (k.mono h.2.2.2.size)⟩
theorem addI (h : LS w W L M Bx) {v : Value} {xs : List Int} (hi : Ints W v xs) : LS w W ((v, xs) :: L) M Bx :=
  ⟨fun e he => by rcases List.mem_cons.1 he with rfl | he; exact hi; exact h.1 e he, h.2⟩
theorem addR (h : LS w W L M Bx) {v : Value} {X : List (List Int)} (hi : Rows W v X) : LS w W L ((v, X) :: M) Bx :=
  ⟨h.1, fun e he => by rcases List.mem_cons.1 he with rfl | he; exact hi; exact h.2.1 e he, h.2.2⟩
theorem addS (h : LS w W L M Bx) {v1 v2 : Value} {A B : List (List Int)} (hs : Sol W v1 v2 A B) : LS w W L ((v1, A) :: (v2, B) :: M) Bx := (h.addR hs.2).addR hs.1
theorem box (h : LS w W L M Bx) (a b : Value) : LS w (W.alloc (.cells #[a, b] 26)) L M ((W.heap.size, a, b) :: Bx) := by
  have h2 := h.under ((Below.refl W.heap.size W).alloc (Nat.le_refl _) (.cells #[a, b] 26))
  exact ⟨h2.1, h2.2.1, fun e he => by rcases List.mem_cons.1 he with rfl | he; exact Blk.new W [a, b] 26; exact h2.2.2.1 e he, h2.2.2.2⟩
theorem getI (h : LS w W L M Bx) {v : Value} {xs : List Int} (he : (v, xs) ∈ L) : Ints W v xs := h.1 _ he
theorem getR (h : LS w W L M Bx) {v : Value} {X : List (List Int)} (he : (v, X) ∈ M) : Rows W v X := h.2.1 _ he
theorem getB (h : LS w W L M Bx) {q : Nat} {a b : Value} (he : (q, a, b) ∈ Bx) : Blk W q 26 [a, b] := h.2.2.1 _ he
end LS
end Go.Proofs.Ytkghonhghbcdlaa

namespace Go.Proofs.Ytkghonhghbcdlaa
set_option linter.unusedVariables false
set_option linter.unusedSimpArgs false

/-- A table of n rows with one entry changed. -/
theorem tabOf_put (n : Nat) (g : Int → Int → Int) (u v z : Int) (hu0 : 0 ≤ u) (hu : u < n) (hv0 : 0 ≤ v) (hv : v < n) :
    (tabOf n g).set u.toNat ((row (tabOf n g) u).set v.toNat z) = tabOf n fun a b => if a = u ∧ b = v then z else g a b := by
  apply ext_row (by simp)
  intro a ha
  simp at ha
  have hR := row_tabOf n (fun a b => if a = u ∧ b = v then z else g a b) a ha
  rw [row_set _ _ _ _ hu0 (by simpa using hu) (by omega), hR]
  by_cases e : (a : Int) = u
  · rw [if_pos e, row_tabOfi _ _ _ hu0 hu]
    apply ext_nth (by simp)
    intro b hb
    simp at hb
    have hQ := nth_rowOf n (fun b => if (a : Int) = u ∧ b = v then z else g a b) b hb
    rw [nth_set _ _ _ _ hv0 (by simpa using hv) (by omega), nth_rowOf _ _ _ hb]
    refine Eq.trans ?_ hQ.symm
    show _ = if (a : Int) = u ∧ (b : Int) = v then z else g a b
    by_cases e2 : (b : Int) = v
    · rw [if_pos e2, if_pos ⟨e, e2⟩]
    · rw [if_neg e2, if_neg (fun h => e2 h.2), e]
  · rw [if_neg e, row_tabOf _ _ _ ha]
    exact rowOf_congr fun b _ => by rw [if_neg (fun h => e h.1)]

/-- The entry (u, v) after k pairs: what z says of the pair that leads there, where that pair is among the first k. -/
def ivG (A B : List (List Int)) (n : Nat) (z : Int → Int) (ini : Int → Int → Int) (k : Nat) (u v : Int) : Int :=
  if nth (invL (pmL A B n)) (u * n + v) < k then z (nth (invL (pmL A B n)) (u * n + v)) else ini u v
def ivT (A B : List (List Int)) (n : Nat) (z : Int → Int) (ini : Int → Int → Int) (k : Nat) : List (List Int) := tabOf n (ivG A B n z ini k)
@[simp] theorem ivT_length (A B : List (List Int)) (n : Nat) (z : Int → Int) (ini : Int → Int → Int) (k : Nat) : (ivT A B n z ini k).length = n := by simp [ivT]
/-- The inverse's two tables. -/
def ivA (A B : List (List Int)) (n : Nat) : List (List Int) := tabOf n fun u v => nth (invL (pmL A B n)) (u * n + v) / n
def ivB (A B : List (List Int)) (n : Nat) : List (List Int) := tabOf n fun u v => nth (invL (pmL A B n)) (u * n + v) % n

/-- Where a pair's code leads back to. -/
theorem iv_range {A B : List (List Int)} {n : Nat} (hP : Permuted (pmL A B n)) {u v : Int} (hu0 : 0 ≤ u) (hu : u < n) (hv0 : 0 ≤ v) (hv : v < n) :
    0 ≤ nth (invL (pmL A B n)) (u * n + v) ∧ nth (invL (pmL A B n)) (u * n + v) < ((n * n : Nat) : Int) ∧ nth (pmL A B n) (nth (invL (pmL A B n)) (u * n + v)) = u * n + v := by
  obtain ⟨h0, h1⟩ := code_lt hu0 hu hv0 hv
  obtain ⟨x, x0, x1, e⟩ := ex_pre hP (y := u * n + v) h0 (by simpa using h1)
  rw [← e, nth_invL hP x0 x1]
  exact ⟨x0, by simpa using x1, rfl⟩
theorem ivT_zero {A B : List (List Int)} {n : Nat} (hP : Permuted (pmL A B n)) (z : Int → Int) (ini : Int → Int → Int) : ivT A B n z ini 0 = tabOf n ini := by
  refine tabOf_congr fun u v hu hv => ?_
  obtain ⟨h0, _, _⟩ := iv_range hP (u := u) (v := v) (by omega) (by omega) (by omega) (by omega)
  unfold ivG
  rw [if_neg (by omega)]
theorem ivT_done {A B : List (List Int)} {n : Nat} (hP : Permuted (pmL A B n)) (z : Int → Int) (ini : Int → Int → Int) : ivT A B n z ini (n * n) = tabOf n fun u v => z (nth (invL (pmL A B n)) (u * n + v)) := by
  refine tabOf_congr fun u v hu hv => ?_
  obtain ⟨_, h1, _⟩ := iv_range hP (u := u) (v := v) (by omega) (by omega) (by omega) (by omega)
  unfold ivG
  rw [if_pos h1]
/-- One pair more. -/
theorem ivT_step {A B : List (List Int)} {n : Nat} (hP : Permuted (pmL A B n)) (z : Int → Int) (ini : Int → Int → Int) {x y : Nat} (hx : x < n) (hy : y < n)
    (hA0 : 0 ≤ val2 A x y) (hA1 : val2 A x y < n) (hB0 : 0 ≤ val2 B x y) (hB1 : val2 B x y < n) :
    (ivT A B n z ini (x * n + y)).set (val2 A x y).toNat ((row (ivT A B n z ini (x * n + y)) (val2 A x y)).set (val2 B x y).toNat (z ((x : Int) * n + y))) = ivT A B n z ini (x * n + y + 1) := by
  unfold ivT
  rw [tabOf_put _ _ _ _ _ hA0 hA1 hB0 hB1]
  refine tabOf_congr fun u v hu hv => ?_
  obtain ⟨h0, h1, h2⟩ := iv_range hP (u := u) (v := v) (by omega) (by omega) (by omega) (by omega)
  have hc : nth (pmL A B n) ((x : Int) * n + y) = val2 A x y * n + val2 B x y := nth_pmL (by omega) (by omega) (by omega) (by omega)
  obtain ⟨c0, c1⟩ := code_lt (n := n) (x := x) (y := y) (by omega) (by omega) (by omega) (by omega)
  have hcast : ((x * n + y : Nat) : Int) = (x : Int) * n + y := by push_cast; rfl
  unfold ivG
  by_cases e : (u : Int) = val2 A x y ∧ (v : Int) = val2 B x y
  · rw [if_pos e]
    have e3 : nth (invL (pmL A B n)) ((u : Int) * n + v) = (x : Int) * n + y := by
      rw [e.1, e.2, ← hc, nth_invL hP c0 (by simpa using c1)]
    rw [e3, if_pos (by omega)]
  · rw [if_neg e]
    have hne : nth (invL (pmL A B n)) ((u : Int) * n + v) ≠ (x : Int) * n + y := by
      intro h
      rw [h, hc] at h2
      obtain ⟨g1, g2⟩ := code_inj hB0 hB1 (by omega) (by omega) h2
      exact e ⟨g1.symm, g2.symm⟩
    by_cases hl : nth (invL (pmL A B n)) ((u : Int) * n + v) < ((x * n + y : Nat) : Int)
    · rw [if_pos hl, if_pos (by omega)]
    · rw [if_neg hl, if_neg (by omega)]
theorem tabOf_val2 {t : List (List Int)} (h : isTab t = true) : tabOf t.length (val2 t) = t := by
  apply ext_row (by simp)
  intro k hk
  simp at hk
  have hr := isTab_row h (x := k) (by omega) (by omega)
  rw [row_tabOf _ _ _ hk]
  apply ext_nth (by simp; omega)
  intro j hj
  simp at hj
  rw [nth_rowOf _ _ _ hj]; rfl
theorem ivA_eq {A B : List (List Int)} {n : Nat} (hP : Permuted (pmL A B n)) (ini : Int → Int → Int) : ivT A B n (fun c => c / n) ini (n * n) = ivA A B n := ivT_done hP _ _
theorem ivB_eq {A B : List (List Int)} {n : Nat} (hP : Permuted (pmL A B n)) (ini : Int → Int → Int) : ivT A B n (fun c => c % n) ini (n * n) = ivB A B n := ivT_done hP _ _
end Go.Proofs.Ytkghonhghbcdlaa

namespace Go.Proofs.Ytkghonhghbcdlaa
set_option linter.unusedVariables false
set_option linter.unusedSimpArgs false

theorem sorted_eq : ∀ {l m : List Int}, l.Perm m → l.Pairwise (· ≤ ·) → m.Pairwise (· ≤ ·) → l = m
  | [], m, h, _, _ => (h.nil_eq)
  | a :: l, [], h, _, _ => by have := h.length_eq; simp at this
  | a :: l, b :: m, h, hl, hm => by
    rw [List.pairwise_cons] at hl hm
    have h1 : a ∈ b :: m := h.subset (by simp)
    have h2 : b ∈ a :: l := h.symm.subset (by simp)
    have e : a = b := by
      rcases List.mem_cons.1 h1 with h1 | h1
      · exact h1
      · rcases List.mem_cons.1 h2 with h2 | h2
        · exact h2.symm
        · have := hm.1 a h1; have := hl.1 b h2; omega
    subst e
    rw [sorted_eq h.cons_inv hl.2 hm.2]

/-- The numbers 0 to n - 1 of M in ascending order. -/
def csort (n : Nat) (M : List Int) : List Int := (List.range n).flatMap fun (s : Nat) => List.replicate (M.count (s : Int)) (s : Int)
/-- The numbers 1 to n of M in ascending order. -/
def cycS (n : Nat) (M : List Int) : List Int := (List.range n).flatMap fun (s : Nat) => List.replicate (M.count ((s : Int) + 1)) ((s : Int) + 1)
theorem csort_succ (n : Nat) (M : List Int) : csort (n + 1) M = csort n M ++ List.replicate (M.count (n : Int)) (n : Int) := by
  simp [csort, List.range_succ]
theorem cycS_succ (n : Nat) (M : List Int) : cycS (n + 1) M = cycS n M ++ List.replicate (M.count ((n : Int) + 1)) ((n : Int) + 1) := by
  simp [cycS, List.range_succ]
theorem csort_cyc (M : List Int) : ∀ n, csort (n + 1) M = List.replicate (M.count 0) 0 ++ cycS n M
  | 0 => by simp [csort, cycS]
  | n + 1 => by rw [csort_succ, csort_cyc M n, cycS_succ]; simp
theorem count_csort (M : List Int) (x : Int) : ∀ n : Nat, (csort n M).count x = if 0 ≤ x ∧ x < n then M.count x else 0
  | 0 => by
    rw [if_neg (by omega)]; simp [csort]
  | n + 1 => by
    rw [csort_succ, List.count_append, count_csort M x n, List.count_replicate]
    by_cases e : x = n
    · subst e; simp; omega
    · have e' : ¬ ((n : Int) == x) = true := by simp; omega
      rw [if_neg e']
      by_cases h : 0 ≤ x ∧ x < n
      · rw [if_pos h, if_pos (by omega)]; rfl
      · rw [if_neg h, if_neg (by omega)]
theorem mem_csort {M : List Int} {x : Int} : ∀ {n : Nat}, x ∈ csort n M → 0 ≤ x ∧ x < n := by
  intro n h
  have := List.count_pos_iff.2 h
  rw [count_csort] at this
  by_cases e : 0 ≤ x ∧ x < n
  · exact e
  · rw [if_neg e] at this; omega
theorem csort_sorted (M : List Int) : ∀ n : Nat, (csort n M).Pairwise (· ≤ ·)
  | 0 => by simp [csort]
  | n + 1 => by
    rw [csort_succ, List.pairwise_append]
    refine ⟨csort_sorted M n, ?_, ?_⟩
    · rw [List.pairwise_replicate]; exact .inr (by omega)
    · intro a ha b hb
      have h1 := mem_csort ha
      have h2 := List.eq_of_mem_replicate hb
      omega
theorem csort_perm {M : List Int} {n : Nat} (h : ∀ x ∈ M, 0 ≤ x ∧ x < n) : (csort n M).Perm M := by
  rw [List.perm_iff_count]
  intro x
  rw [count_csort]
  by_cases e : 0 ≤ x ∧ x < n
  · rw [if_pos e]
  · rw [if_neg e]
    exact (List.count_eq_zero.2 fun hm => e (h x hm)).symm
/-- What sorting makes of M. -/
theorem sort_is {M S : List Int} {n : Nat} (h : ∀ x ∈ M, 0 ≤ x ∧ x < n) (hp : S.Perm M) (hs : S.Pairwise (· ≤ ·)) : S = csort n M :=
  sorted_eq (hp.trans (csort_perm h).symm) hs (csort_sorted M n)
theorem cycS_pos {M : List Int} {n : Nat} {x : Int} (h : x ∈ cycS n M) : 0 < x := by
  simp only [cycS, List.mem_flatMap] at h
  obtain ⟨s, _, hs⟩ := h
  have := List.eq_of_mem_replicate hs
  omega
theorem cycS_sum (M : List Int) : ∀ n : Nat, (cycS n M).sum = ((List.range n).map fun (s : Nat) => (M.count ((s : Int) + 1) : Int) * ((s : Int) + 1)).sum
  | 0 => rfl
  | n + 1 => by
    rw [cycS_succ, List.sum_append, cycS_sum M n, List.range_succ, List.map_append, List.sum_append]
    simp
theorem cycS_length (M : List Int) (n : Nat) : (cycS n M).length ≤ M.length := by
  have h : (csort (n + 1) M).length ≤ M.length := by
    have : ∀ k : Nat, (csort k M).length ≤ (M.filter fun (x : Int) => decide (0 ≤ x ∧ x < (k : Int))).length := by
      intro k
      induction k with
      | zero => simp [csort]
      | succ k ih =>
        rw [csort_succ, List.length_append, List.length_replicate]
        have e : (M.filter fun (x : Int) => decide (0 ≤ x ∧ x < ((k + 1 : Nat) : Int))).length = (M.filter fun (x : Int) => decide (0 ≤ x ∧ x < (k : Int))).length + M.count (k : Int) := by
          clear ih
          induction M with
          | nil => rfl
          | cons a M ih =>
            simp only [List.filter_cons, List.count_cons]
            by_cases h1 : 0 ≤ a ∧ a < (k : Int)
            · have h2 : 0 ≤ a ∧ a < ((k + 1 : Nat) : Int) := by omega
              have h3 : ¬ (a == (k : Int)) = true := by simp; omega
              rw [if_pos (by simpa using h2), if_pos (by simpa using h1), if_neg h3, List.length_cons, List.length_cons, ih]; omega
            · by_cases h4 : a = k
              · have h2 : 0 ≤ a ∧ a < ((k + 1 : Nat) : Int) := by omega
                have h3 : (a == (k : Int)) = true := by simp [h4]
                rw [if_pos (by simpa using h2), if_neg (by simpa using h1), if_pos h3, List.length_cons, ih]; omega
              · have h2 : ¬ (0 ≤ a ∧ a < ((k + 1 : Nat) : Int)) := by omega
                have h3 : ¬ (a == (k : Int)) = true := by simpa using h4
                rw [if_neg (by simpa using h2), if_neg (by simpa using h1), if_neg h3, ih]; rfl
        rw [e]; omega
    exact Nat.le_trans (this (n + 1)) (List.length_filter_le _ _)
  rw [csort_cyc, List.length_append] at h
  omega
end Go.Proofs.Ytkghonhghbcdlaa

namespace Go.Proofs.Ytkghonhghbcdlaa
set_option linter.unusedVariables false
set_option linter.unusedSimpArgs false

theorem orbL_range {L : List (List Int)} {n : Nat} (hs : SysOk n L) {y : Nat} (hy : y < n) : 0 ≤ nth (orbL L n) y ∧ nth (orbL L n) y < n := by
  have h1 := (labs_iff hs n y (Nat.le_refl _) hy).2 ⟨y, hy, .here⟩
  have h2 := labs_range L n n y hy
  have h3 := (labs_next L n n).2
  exact ⟨h1, by unfold orbL; omega⟩
theorem orbL_len (L : List (List Int)) (n : Nat) : (orbL L n).length = n := labs_length L n n
theorem orbL_mem {L : List (List Int)} {n : Nat} (hs : SysOk n L) {x : Int} (hx : x ∈ orbL L n) : 0 ≤ x ∧ x < n := by
  obtain ⟨k, hk, rfl⟩ := List.getElem_of_mem hx
  rw [orbL_len] at hk
  have := orbL_range hs hk
  rwa [nth_nat _ _ (by rw [orbL_len]; exact hk)] at this

/-- How often each number 0 to n - 1 stands among the first k of X. -/
def cnt (X : List Int) (n k : Nat) : List Int := rowOf n fun o => ((X.take k).count o : Int)
@[simp] theorem cnt_length (X : List Int) (n k : Nat) : (cnt X n k).length = n := by simp [cnt]
theorem cnt_nth {X : List Int} {n k : Nat} {o : Int} (h0 : 0 ≤ o) (h1 : o < n) : nth (cnt X n k) o = ((X.take k).count o : Int) := nth_rowOfi _ _ _ h0 h1
theorem cnt_zero (X : List Int) (n : Nat) : cnt X n 0 = List.replicate n 0 := by
  unfold cnt
  have := rowOf_const n 0
  simpa using this
theorem cnt_step {X : List Int} {n k : Nat} (hk : k < X.length) (h0 : 0 ≤ nth X k) (h1 : nth X k < n) : (cnt X n k).set (nth X k).toNat (nth (cnt X n k) (nth X k) + 1) = cnt X n (k + 1) := by
  apply ext_nth (by simp)
  intro j hj
  simp at hj
  rw [nth_set _ _ _ _ h0 (by simpa using h1) (by omega), cnt_nth (by omega) (by omega), cnt_nth (by omega) (by omega), cnt_nth (by omega) (by omega), take_snoc _ _ hk, List.count_append]
  by_cases e : (j : Int) = nth X k
  · rw [if_pos e, e]; simp
  · rw [if_neg e]
    have : [nth X k].count (j : Int) = 0 := by
      rw [List.count_eq_zero]; simp; omega
    omega
noncomputable def cyM (p : List Int) : List Int := cnt (orbL [p] p.length) p.length p.length
noncomputable def cyL (p : List Int) : List Int := cycS p.length (cyM p)
theorem cyM_eq (p : List Int) : cyM p = rowOf p.length fun o => ((orbL [p] p.length).count o : Int) := by
  unfold cyM cnt
  rw [List.take_of_length_le (by rw [orbL_len]; exact Nat.le_refl _)]
theorem cyM_range (p : List Int) : ∀ x ∈ cyM p, 0 ≤ x ∧ x < ((p.length + 1 : Nat) : Int) := by
  intro x hx
  rw [cyM_eq] at hx
  unfold rowOf at hx
  rw [List.mem_map] at hx
  obtain ⟨j, _, rfl⟩ := hx
  have := List.count_le_length (a := (j : Int)) (l := orbL [p] p.length)
  rw [orbL_len] at this
  show 0 ≤ ((orbL [p] p.length).count (j : Int) : Int) ∧ ((orbL [p] p.length).count (j : Int) : Int) < _
  omega
theorem cyM_zero {p : List Int} (hs : SysOk p.length [p]) (h1 : 1 ≤ p.length) : (cyM p).count 0 < p.length := by
  have hl : (cyM p).length = p.length := by simp [cyM]
  have hle := List.count_le_length (a := (0 : Int)) (l := cyM p)
  rcases Nat.lt_or_ge ((cyM p).count 0) p.length with h | h
  · exact h
  · exfalso
    have he : (cyM p).count 0 = (cyM p).length := by omega
    rw [List.count_eq_length] at he
    have hr := orbL_range hs (y := 0) (by omega)
    rw [show ((0 : Nat) : Int) = 0 from rfl] at hr
    have hm : nth (cyM p) (nth (orbL [p] p.length) 0) ∈ cyM p := nth_mem hr.1 (by rw [hl]; exact hr.2)
    have := he _ hm
    rw [cyM_eq, nth_rowOfi _ _ _ hr.1 hr.2] at this
    have h0 : nth (orbL [p] p.length) 0 ∈ orbL [p] p.length := nth_mem (by omega) (by rw [orbL_len]; omega)
    have := List.count_pos_iff.2 h0
    omega
/-- The first place of a number above 0, or -1. -/
def posI : List Int → Int
  | [] => -1
  | x :: l => if 0 < x then 0 else if posI l < 0 then -1 else posI l + 1
theorem posI_rep (z : Nat) (x : Int) (l : List Int) (hx : 0 < x) : posI (List.replicate z 0 ++ x :: l) = z := by
  induction z with
  | zero => simp [posI, hx]
  | succ z ih => rw [List.replicate_succ, List.cons_append, posI, ih, if_neg (by omega), if_neg (by omega)]; omega
theorem cyS_parts {p : List Int} (hs : SysOk p.length [p]) (h1 : 1 ≤ p.length) {S : List Int} (hS : S = csort (p.length + 1) (cyM p)) :
    (posI S = ((cyM p).count 0 : Nat)) ∧ (cyM p).count 0 < S.length ∧ S.drop ((cyM p).count 0) = cyL p := by
  have hlen : S.length = p.length := by
    rw [hS, (csort_perm (cyM_range p)).length_eq]; simp [cyM]
  have hz := cyM_zero hs h1
  have hcs := csort_cyc (cyM p) p.length
  rw [← hS] at hcs
  have hd : S.drop ((cyM p).count 0) = cyL p := by
    rw [hcs, List.drop_left' (by simp)]; rfl
  refine ⟨?_, by omega, hd⟩
  have hne : cyL p ≠ [] := by
    intro e
    have : (S.drop ((cyM p).count 0)).length = 0 := by rw [hd, e]; rfl
    rw [List.length_drop] at this; omega
  obtain ⟨x, l, hxl⟩ := List.exists_cons_of_ne_nil hne
  have hx : 0 < x := cycS_pos (M := cyM p) (n := p.length) (by show x ∈ cyL p; rw [hxl]; simp)
  rw [hcs]
  show posI (_ ++ cyL p) = _
  rw [hxl, posI_rep _ _ _ hx]

/-- One more than the greatest number. -/
def grt (L : List Int) : Int := L.foldl (fun m x => if m ≤ x then x + 1 else m) 0
theorem grt_snoc (L : List Int) (k : Nat) (h : k < L.length) : grt (L.take (k + 1)) = if grt (L.take k) ≤ nth L k then nth L k + 1 else grt (L.take k) := by
  unfold grt; rw [take_snoc _ _ h, List.foldl_append]; rfl
theorem grt_ge (L : List Int) : 0 ≤ grt L ∧ ∀ x ∈ L, x < grt L := by
  have : ∀ (m : Int) (L : List Int), m ≤ L.foldl (fun m x => if m ≤ x then x + 1 else m) m ∧ ∀ x ∈ L, x < L.foldl (fun m x => if m ≤ x then x + 1 else m) m := by
    intro m L
    induction L generalizing m with
    | nil => simp
    | cons a L ih =>
      rw [List.foldl_cons]
      by_cases hma : m ≤ a
      · rw [if_pos hma]
        have h := ih (a + 1)
        refine ⟨by omega, fun x hx => ?_⟩
        rcases List.mem_cons.1 hx with rfl | hx
        · omega
        · exact h.2 x hx
      · rw [if_neg hma]
        have h := ih m
        refine ⟨h.1, fun x hx => ?_⟩
        rcases List.mem_cons.1 hx with rfl | hx
        · omega
        · exact h.2 x hx
  exact this 0 L
theorem grt_le {L : List Int} {n : Nat} (h : ∀ x ∈ L, x < n) : grt L ≤ n := by
  have : ∀ (m : Int) (L : List Int), m ≤ n → (∀ x ∈ L, x < n) → L.foldl (fun m x => if m ≤ x then x + 1 else m) m ≤ n := by
    intro m L
    induction L generalizing m with
    | nil => intro h _; exact h
    | cons a L ih =>
      intro h1 h2
      rw [List.foldl_cons]
      refine ih _ ?_ (fun x hx => h2 x (by simp [hx]))
      have := h2 a (by simp)
      split <;> omega
  exact this 0 L (by omega) h
/-- Beyond the greatest label there is nothing to count. -/
theorem cyM_tail {p : List Int} (hs : SysOk p.length [p]) (s : Int) (h : 0 < s) : ((cyM p).take (grt (orbL [p] p.length)).toNat).count s = (cyM p).count s := by
  obtain ⟨g0, g1⟩ := grt_ge (orbL [p] p.length)
  have hle := grt_le (L := orbL [p] p.length) (n := p.length) (fun x hx => (orbL_mem hs hx).2)
  have hsplit : (cyM p).count s = ((cyM p).take (grt (orbL [p] p.length)).toNat).count s + ((cyM p).drop (grt (orbL [p] p.length)).toNat).count s := by
    rw [← List.count_append, List.take_append_drop]
  have hz : ((cyM p).drop (grt (orbL [p] p.length)).toNat).count s = 0 := by
    rw [List.count_eq_zero]
    intro hm
    obtain ⟨k, hk, e⟩ := List.getElem_of_mem hm
    rw [List.getElem_drop] at e
    rw [List.length_drop] at hk
    have hl : (cyM p).length = p.length := by simp [cyM]
    have e2 := nth_nat (cyM p) ((grt (orbL [p] p.length)).toNat + k) (by omega)
    rw [e] at e2
    rw [cyM_eq, nth_rowOfi _ _ _ (by omega) (by omega)] at e2
    have : (orbL [p] p.length).count (((grt (orbL [p] p.length)).toNat + k : Nat) : Int) = 0 := by
      rw [List.count_eq_zero]
      intro hmm
      have := g1 _ hmm
      omega
    omega
  omega
/-- The list after o labels of size s + 1. -/
noncomputable def cyO (p : List Int) (s o : Nat) : List Int := cycS s (cyM p) ++ List.replicate (((cyM p).take o).count ((s : Int) + 1)) ((s : Int) + 1)
theorem cyO_zero (p : List Int) (s : Nat) : cyO p s 0 = cycS s (cyM p) := by simp [cyO]
theorem cyO_done {p : List Int} (hs : SysOk p.length [p]) (s : Nat) : cyO p s (grt (orbL [p] p.length)).toNat = cycS (s + 1) (cyM p) := by
  unfold cyO; rw [cyM_tail hs _ (by omega), cycS_succ]
theorem cyO_step {p : List Int} {s o : Nat} (ho : o < p.length) : cyO p s (o + 1) = if nth (cyM p) o = (s : Int) + 1 then cyO p s o ++ [(s : Int) + 1] else cyO p s o := by
  have hl : (cyM p).length = p.length := by simp [cyM]
  unfold cyO
  rw [take_snoc _ _ (by omega), List.count_append]
  split
  · rename_i e
    rw [e]
    have : [(s : Int) + 1].count ((s : Int) + 1) = 1 := by simp
    rw [this, List.replicate_succ', List.append_assoc]
  · rename_i e
    have : [nth (cyM p) o].count ((s : Int) + 1) = 0 := by rw [List.count_eq_zero]; simp; omega
    rw [this]; rfl
theorem cyO_len (p : List Int) (s o : Nat) : (cyO p s o).length ≤ p.length + p.length := by
  have h1 := cycS_length (cyM p) s
  have h2 := List.count_le_length (a := (s : Int) + 1) (l := (cyM p).take o)
  have hl : (cyM p).length = p.length := by simp [cyM]
  rw [List.length_take] at h2
  unfold cyO
  rw [List.length_append, List.length_replicate]
  omega
end Go.Proofs.Ytkghonhghbcdlaa

namespace Go.Proofs.Ytkghonhghbcdlaa
set_option linter.unusedVariables false
set_option linter.unusedSimpArgs false

/-- The least number of steps that lead x back. -/
def MinPer (p : List Int) (x : Int) (c : Nat) : Prop := 1 ≤ c ∧ iter (nth p) c x = x ∧ ∀ r, 1 ≤ r → r < c → iter (nth p) r x ≠ x
theorem minPer_ex {p : List Int} (hp : Permuted p) {x : Int} (h0 : 0 ≤ x) (h1 : x < p.length) : ∃ c, MinPer p x c ∧ c ≤ p.length := by
  obtain ⟨r, r1, r2, r3⟩ := comes_back hp h0 h1
  have key : ∀ d, d ≤ p.length + 1 → (∃ c, MinPer p x c ∧ c ≤ p.length) ∨ (∀ j, 1 ≤ j → j < d → iter (nth p) j x ≠ x) := by
    intro d
    induction d with
    | zero => exact fun _ => .inr fun j h1 h2 => by omega
    | succ d ih =>
      intro hd1
      rcases ih (by omega) with h | h
      · exact .inl h
      · by_cases hd : 1 ≤ d ∧ iter (nth p) d x = x
        · exact .inl ⟨d, ⟨hd.1, hd.2, h⟩, by omega⟩
        · refine .inr fun j h1 h2 => ?_
          by_cases e : j = d
          · subst e; exact fun e2 => hd ⟨h1, e2⟩
          · exact h j h1 (by omega)
  rcases key (p.length + 1) (Nat.le_refl _) with h | h
  · exact h
  · exact absurd r3 (h r r1 (by omega))
theorem MinPer.uniq {p : List Int} {x : Int} {a b : Nat} (ha : MinPer p x a) (hb : MinPer p x b) : a = b := by
  rcases Nat.lt_trichotomy a b with h | h | h
  · exact absurd ha.2.1 (hb.2.2 a ha.1 h)
  · exact h
  · exact absurd hb.2.1 (ha.2.2 b hb.1 h)
theorem iter_comm (f : Int → Int) (a b : Nat) (x : Int) : iter f a (iter f b x) = iter f b (iter f a x) := by rw [← iter_add, ← iter_add, Nat.add_comm]
theorem MinPer.step {p : List Int} (hp : Permuted p) {x : Int} (h0 : 0 ≤ x) (h1 : x < p.length) {c : Nat} (h : MinPer p x c) (k : Nat) : MinPer p (iter (nth p) k x) c := by
  refine ⟨h.1, by rw [iter_comm, h.2.1], fun r r1 r2 e => ?_⟩
  rw [iter_comm] at e
  exact h.2.2 r r1 r2 (iter_inj hp (iter_lt hp h0 h1 r).1 (iter_lt hp h0 h1 r).2 h0 h1 k e)
theorem MinPer.nodup {p : List Int} (hp : Permuted p) {x : Int} (h0 : 0 ≤ x) (h1 : x < p.length) {c : Nat} (h : MinPer p x c) : ((List.range c).map fun k => iter (nth p) k x).Nodup := by
  rw [List.Nodup, List.pairwise_map, List.pairwise_iff_getElem]
  intro i j hi hj hij e
  simp only [List.getElem_range] at e
  simp at hj
  refine h.2.2 (j - i) (by omega) (by omega) ?_
  have e2 : iter (nth p) i (iter (nth p) (j - i) x) = iter (nth p) i x := by rw [← iter_add, show i + (j - i) = j from by omega, e]
  exact iter_inj hp (iter_lt hp h0 h1 _).1 (iter_lt hp h0 h1 _).2 h0 h1 i e2

/-- Sums and least common multiples of the numbers of D from 1 to k. -/
def sumD (D : Nat → Bool) : Nat → Nat
  | 0 => 0
  | k + 1 => sumD D k + if D (k + 1) then k + 1 else 0
def lcmD (D : Nat → Bool) : Nat → Nat → Nat
  | 0, l => l
  | k + 1, l => lcmD D k (if D (k + 1) then Nat.lcm l (k + 1) else l)
def chkD : Nat → Nat → Nat → Bool
  | 0, _, l => decide (l ≤ 60)
  | k + 1, b, l => chkD k b l && (if k + 1 ≤ b then chkD k (b - (k + 1)) (Nat.lcm l (k + 1)) else true)
theorem chkD_ok (D : Nat → Bool) : ∀ (k b l : Nat), chkD k b l = true → sumD D k ≤ b → lcmD D k l ≤ 60
  | 0, b, l, h, _ => by simpa [chkD, lcmD] using h
  | k + 1, b, l, h, hs => by
    simp only [chkD, Bool.and_eq_true] at h
    unfold lcmD
    unfold sumD at hs
    by_cases hd : D (k + 1) = true
    · rw [if_pos hd] at hs ⊢
      have h2 := h.2
      rw [if_pos (show k + 1 ≤ b by omega)] at h2
      exact chkD_ok D k _ _ h2 (by omega)
    · rw [if_neg hd] at hs ⊢
      exact chkD_ok D k b l h.1 (by omega)
theorem chk12 : chkD 12 12 1 = true := by decide +kernel
theorem lcmD_dvd (D : Nat → Bool) : ∀ (k l : Nat), l ∣ lcmD D k l
  | 0, l => Nat.dvd_refl _
  | k + 1, l => by
    unfold lcmD
    refine Nat.dvd_trans ?_ (lcmD_dvd D k _)
    split
    · exact Nat.dvd_lcm_left _ _
    · exact Nat.dvd_refl _
theorem lcmD_mem (D : Nat → Bool) : ∀ (k l d : Nat), 1 ≤ d → d ≤ k → D d = true → d ∣ lcmD D k l
  | 0, l, d, h1, h2, _ => by omega
  | k + 1, l, d, h1, h2, hd => by
    unfold lcmD
    by_cases e : d = k + 1
    · subst e
      rw [if_pos hd]
      exact Nat.dvd_trans (Nat.dvd_lcm_right _ _) (lcmD_dvd D k _)
    · exact lcmD_mem D k _ d h1 (by omega) hd
theorem lcmD_pos (D : Nat → Bool) : ∀ (k l : Nat), 0 < l → 0 < lcmD D k l
  | 0, l, h => h
  | k + 1, l, h => by
    unfold lcmD
    refine lcmD_pos D k _ ?_
    split
    · exact Nat.lcm_pos h (by omega)
    · exact h

open Classical in
theorem ord_le {p : List Int} (hp : Permuted p) (hn : p.length ≤ 12) : ∃ L, 1 ≤ L ∧ L ≤ 60 ∧ pw p (L - 1) = iota p.length := by
  let D : Nat → Bool := fun d => decide (∃ x : Int, 0 ≤ x ∧ x < p.length ∧ MinPer p x d)
  have hD : ∀ d, D d = true → ∃ x : Int, 0 ≤ x ∧ x < p.length ∧ MinPer p x d := fun d h => by simpa [D] using h
  have hx : ∀ d, ∃ x : Int, D d = true → 0 ≤ x ∧ x < p.length ∧ MinPer p x d := fun d => by
    by_cases h : D d = true
    · obtain ⟨x, hx⟩ := hD d h; exact ⟨x, fun _ => hx⟩
    · exact ⟨0, fun h2 => absurd h2 h⟩
  let X : Nat → Int := fun d => Classical.choose (hx d)
  have hX : ∀ d, D d = true → 0 ≤ X d ∧ X d < p.length ∧ MinPer p (X d) d := fun d => Classical.choose_spec (hx d)
  -- the orbits, one for each length
  have key : ∀ k, ∃ U : List Int, U.length = sumD D k ∧ U.Nodup ∧ (∀ y ∈ U, 0 ≤ y ∧ y < p.length ∧ ∃ d, d ≤ k ∧ MinPer p y d) := by
    intro k
    induction k with
    | zero => exact ⟨[], rfl, List.nodup_nil, by simp⟩
    | succ k ih =>
      obtain ⟨U, h1, h2, h3⟩ := ih
      by_cases hd : D (k + 1) = true
      · obtain ⟨x0, x1, hm⟩ := hX (k + 1) hd
        refine ⟨U ++ (List.range (k + 1)).map fun j => iter (nth p) j (X (k + 1)), ?_, ?_, ?_⟩
        · unfold sumD; rw [if_pos hd, List.length_append, h1]; simp
        · rw [List.nodup_append]
          refine ⟨h2, hm.nodup hp x0 x1, fun a ha b hb e => ?_⟩
          rw [List.mem_map] at hb
          obtain ⟨j, _, rfl⟩ := hb
          obtain ⟨_, _, d, hdk, hmd⟩ := h3 a ha
          rw [e] at hmd
          have := hmd.uniq (hm.step hp x0 x1 j)
          omega
        · intro y hy
          rcases List.mem_append.1 hy with hy | hy
          · obtain ⟨a, b, d, c, e⟩ := h3 y hy; exact ⟨a, b, d, by omega, e⟩
          · rw [List.mem_map] at hy
            obtain ⟨j, _, rfl⟩ := hy
            have := iter_lt hp x0 x1 j
            exact ⟨this.1, this.2, k + 1, Nat.le_refl _, hm.step hp x0 x1 j⟩
      · refine ⟨U, ?_, h2, fun y hy => ?_⟩
        · unfold sumD; rw [if_neg hd, h1]; rfl
        · obtain ⟨a, b, d, c, e⟩ := h3 y hy; exact ⟨a, b, d, by omega, e⟩
  obtain ⟨U, u1, u2, u3⟩ := key 12
  have hsum : sumD D 12 ≤ 12 := by
    have hsub : U ⊆ iota p.length := fun y hy => (mem_iota _ _).2 ⟨(u3 y hy).1, (u3 y hy).2.1⟩
    have := List.Nodup.length_le_of_subset u2 hsub
    rw [iota_length] at this; omega
  have hL := chkD_ok D 12 12 1 chk12 hsum
  have hpos := lcmD_pos D 12 1 (by omega)
  refine ⟨lcmD D 12 1, hpos, hL, ?_⟩
  apply ext_nth (by simp)
  intro k hk
  have hk' : k < p.length := by simpa using hk
  rw [nth_pw p k (by omega) (by omega), nth_iota _ _ (by omega) (by omega)]
  obtain ⟨c, hc, hcl⟩ := minPer_ex hp (x := (k : Int)) (by omega) (by omega)
  have hDc : D c = true := by
    have : ∃ x : Int, 0 ≤ x ∧ x < p.length ∧ MinPer p x c := ⟨k, by omega, by omega, hc⟩
    simpa [D] using this
  obtain ⟨m, hm⟩ := lcmD_mem D 12 1 c hc.1 (by omega) hDc
  rw [show lcmD D 12 1 - 1 + 1 = c * m by omega]
  exact iter_mul _ _ _ hc.2.1 m

theorem sum_perm {l m : List Int} (h : l.Perm m) : l.sum = m.sum := by
  induction h with
  | nil => rfl
  | cons x _ ih => simp [ih]
  | swap x y l => simp; omega
  | trans _ _ ih1 ih2 => exact ih1.trans ih2
theorem sum_set : ∀ (l : List Int) (i : Nat) (v : Int) (h : i < l.length), (l.set i v).sum = l.sum - l[i] + v
  | a :: l, 0, v, h => by simp; omega
  | a :: l, i + 1, v, h => by
    have := sum_set l i v (by simpa using h)
    simp only [List.set_cons_succ, List.sum_cons, this, List.getElem_cons_succ]; omega
  | [], i, v, h => by simp at h
theorem cnt_sum {X : List Int} {n : Nat} (hX : ∀ x ∈ X, 0 ≤ x ∧ x < n) : ∀ k, k ≤ X.length → (cnt X n k).sum = k
  | 0, _ => by rw [cnt_zero]; simp
  | k + 1, h => by
    have hx := hX _ (nth_mem (p := X) (x := k) (by omega) (by omega))
    rw [← cnt_step (by omega) hx.1 hx.2, sum_set _ _ _ (by simp; omega), cnt_sum hX k (by omega)]
    have := nth_nat (cnt X n k) (nth X k).toNat (by simp; omega)
    rw [show (((nth X k).toNat : Nat) : Int) = nth X k by omega] at this
    rw [this]; omega
theorem cyL_sum {p : List Int} (hs : SysOk p.length [p]) : (cyL p).sum = p.length := by
  have h1 := sum_perm (csort_perm (cyM_range p))
  rw [csort_cyc, List.sum_append] at h1
  have h2 : (List.replicate ((cyM p).count 0) (0 : Int)).sum = 0 := by simp
  have h3 : (cyM p).sum = p.length := cnt_sum (fun x hx => orbL_mem hs hx) p.length (by rw [orbL_len]; exact Nat.le_refl _)
  unfold cyL; omega
theorem inv_then {p q : List Int} (hp : Permuted p) (hq : Permuted q) (hl : q.length = p.length) (hpq : Permuted (thenL p q)) : invL (thenL p q) = thenL (invL q) (invL p) := by
  apply ext_nth (by simp; omega)
  intro k hk
  simp at hk
  obtain ⟨x, x0, x1, e⟩ := ex_pre hpq (y := (k : Int)) (by omega) (by simpa using hk)
  simp at x1
  have hx := perm_lt hp x0 x1
  rw [nth_thenL _ _ _ (by omega) (by simp; omega), ← e, nth_invL hpq x0 (by simpa using x1), nth_thenL _ _ _ x0 x1, nth_invL hq hx.1 (by omega), nth_invL hp x0 x1]
theorem then_perm {p q : List Int} (hp : Permuted p) (hq : Permuted q) (hl : q.length = p.length) : Permuted (thenL p q) := by
  rw [permuted_iff]
  intro x x0 x1
  rw [thenL_length] at x1
  obtain ⟨y, y0, y1, e⟩ := ex_pre hq (y := x) x0 (by omega)
  obtain ⟨z, z0, z1, e2⟩ := ex_pre hp (y := y) y0 (by omega)
  rw [← e, ← e2, ← nth_thenL p q z z0 z1]
  exact nth_mem z0 (by simpa using z1)
end Go.Proofs.Ytkghonhghbcdlaa

namespace Go.Proofs.Ytkghonhghbcdlaa
set_option linter.unusedVariables false
set_option linter.unusedSimpArgs false
open Go.RowKit

theorem ren_val {t : List (List Int)} {p : List Int} {x y : Int} (hx0 : 0 ≤ x) (hx : x < t.length) (hy0 : 0 ≤ y) (hy : y < t.length) : val2 (renL t p) x y = nth p (val2 t (nth (invL p) x) (nth (invL p) y)) := val2_tabOf' hx0 hx hy0 hy
theorem ren_then {t : List (List Int)} {p q : List Int} (h : RenOk t p) (hq : Permuted q) (hl : q.length = t.length) : renL (renL t p) q = renL t (thenL p q) := by
  obtain ⟨ht, hp, hpl⟩ := h
  have hpq := then_perm hp hq (by omega)
  unfold renL
  rw [tabOf_length]
  refine tabOf_congr fun x y hx hy => ?_
  have a := invL_lt hq (y := x) (by omega) (by omega)
  have b := invL_lt hq (y := y) (by omega) (by omega)
  have c := invL_lt hp (y := nth (invL q) x) a.1 (by omega)
  have d := invL_lt hp (y := nth (invL q) y) b.1 (by omega)
  have e := val2_lt ht (x := nth (invL p) (nth (invL q) x)) (y := nth (invL p) (nth (invL q) y)) c.1 (by omega) d.1 (by omega)
  have hA : nth (thenL (invL q) (invL p)) x = nth (invL p) (nth (invL q) x) := nth_thenL _ _ _ (by omega) (by rw [invL_length]; omega)
  have hB : nth (thenL (invL q) (invL p)) y = nth (invL p) (nth (invL q) y) := nth_thenL _ _ _ (by omega) (by rw [invL_length]; omega)
  rw [val2_tabOf' a.1 (by omega) b.1 (by omega), inv_then hp hq (by omega) hpq, hA, hB]
  exact (nth_thenL p q _ e.1 (by omega)).symm
theorem ren_one {t : List (List Int)} (ht : isTab t = true) : renL t (iota t.length) = t := by
  have hi : ∀ x : Int, 0 ≤ x → x < t.length → nth (invL (iota t.length)) x = x := fun x h0 h1 => by
    have h := nth_invL (permuted_iota t.length) (x := x) h0 (by simpa using h1)
    rwa [nth_iota _ _ h0 h1] at h
  conv => rhs; rw [← tabOf_val2 ht]
  unfold renL
  refine tabOf_congr fun x y hx hy => ?_
  rw [hi _ (by omega) (by omega), hi _ (by omega) (by omega)]
  have e := val2_lt ht (x := (x : Int)) (y := (y : Int)) (by omega) (by omega) (by omega) (by omega)
  rw [nth_iota _ _ e.1 e.2]
theorem renOk_ren {t : List (List Int)} {p : List Int} (h : RenOk t p) {q : List Int} (hq : Permuted q) (hl : q.length = t.length) : RenOk (renL t p) q := ⟨isTab_renL h, hq, by rw [renL_length]; exact hl⟩

theorem lexR_le_trans {a b c : List (List Int)} (h1 : lexR b a = false) (h2 : lexR c b = false) : lexR c a = false := by
  cases e : lexR c a with
  | false => rfl
  | true =>
    by_cases hab : a = b
    · subst hab; rw [e] at h2; cases h2
    · have h3 := lexR_total (a := b) (b := a) (fun h => hab h.symm) h1
      rw [lexR_trans e h3] at h2; cases h2
theorem bestR_le (f : List Int → List (List Int)) : ∀ (X : List (List Int)) (ps : List (List Int)), lexR X (bestR f X ps) = false ∧ ∀ p ∈ ps, lexR (f p) (bestR f X ps) = false
  | X, [] => ⟨lexR_irrefl X, by simp⟩
  | X, p :: ps => by
    unfold bestR
    obtain ⟨h1, h2⟩ := bestR_le f (if lexR (f p) X then f p else X) ps
    have hX : lexR X (if lexR (f p) X then f p else X) = false := by
      split
      · rename_i h; exact lexR_asymm h
      · exact lexR_irrefl X
    have hp : lexR (f p) (if lexR (f p) X then f p else X) = false := by
      split
      · exact lexR_irrefl _
      · rename_i h; simpa using h
    refine ⟨lexR_le_trans h1 hX, fun q hq => ?_⟩
    rcases List.mem_cons.1 hq with rfl | hq
    · exact lexR_le_trans h1 hp
    · exact h2 q hq
def lsT' (t : List (List Int)) : List (List Int) := bestR (renL t) t (allPerms t.length)
theorem lsT_is {t : List (List Int)} (ht : isTab t = true) : (∃ q, Permuted q ∧ q.length = t.length ∧ lsT' t = renL t q) ∧ ∀ q, Permuted q → q.length = t.length → lexR (renL t q) (lsT' t) = false := by
  refine ⟨?_, fun q hq hl => (bestR_le (renL t) t (allPerms t.length)).2 q (mem_allPerms.2 ⟨hq, hl⟩)⟩
  rcases bestR_mem (renL t) t (allPerms t.length) with h | ⟨q, hq, h⟩
  · exact ⟨iota t.length, permuted_iota _, by simp, by rw [ren_one ht]; exact h⟩
  · obtain ⟨a, b⟩ := mem_allPerms.1 hq
    exact ⟨q, a, b, h⟩
theorem perm_inv {p : List Int} (hp : Permuted p) : Permuted (invL p) := by
  rw [permuted_iff]
  intro x x0 x1
  rw [invL_length] at x1
  have := perm_lt hp x0 x1
  rw [← nth_invL hp x0 x1]
  exact nth_mem this.1 (by rw [invL_length]; exact this.2)
/-- Renamed tables have the same least form. -/
theorem lsT_ren {t : List (List Int)} {p : List Int} (h : RenOk t p) : lsT' (renL t p) = lsT' t := by
  obtain ⟨ht, hp, hpl⟩ := h
  have h : RenOk t p := ⟨ht, hp, hpl⟩
  obtain ⟨⟨q1, a1, b1, e1⟩, m1⟩ := lsT_is ht
  obtain ⟨⟨q2, a2, b2, e2⟩, m2⟩ := lsT_is (isTab_renL h)
  rw [renL_length] at b2 m2
  -- each is among the other's
  have f2 : lsT' (renL t p) = renL t (thenL p q2) := by rw [e2, ren_then h a2 b2]
  have hip := perm_inv hp
  have hback : thenL p (thenL (invL p) q1) = q1 := by
    apply ext_nth (by simp; omega)
    intro k hk
    simp at hk
    rw [nth_thenL _ _ _ (by omega) (by omega), nth_thenL _ _ _ (perm_lt hp (by omega) (by omega)).1 (by rw [invL_length]; exact (perm_lt hp (by omega) (by omega)).2), nth_invL hp (by omega) (by omega)]
  have f1 : lsT' t = renL (renL t p) (thenL (invL p) q1) := by
    rw [ren_then h (then_perm hip a1 (by simp; omega)) (by simp; omega), hback, e1]
  have g1 := m1 (thenL p q2) (then_perm hp a2 (by omega)) (by simp; omega)
  have g2 := m2 (thenL (invL p) q1) (then_perm hip a1 (by simp; omega)) (by simp; omega)
  rw [← f2] at g1
  rw [← f1] at g2
  apply Classical.byContradiction
  intro hne
  rw [lexR_total hne g1] at g2
  cases g2

theorem row_renL {t : List (List Int)} {p : List Int} (h : RenOk t p) {x : Nat} (hx : x < t.length) : row (renL t p) x = thenL (thenL (invL p) (row t (nth (invL p) x))) p := by
  obtain ⟨ht, hp, hpl⟩ := h
  have hix := invL_lt hp (y := (x : Int)) (by omega) (by omega)
  have hrl := isTab_row ht hix.1 (by omega)
  have hrr := isTab_row (isTab_renL (t := t) (p := p) ⟨ht, hp, hpl⟩) (x := (x : Int)) (by omega) (by simp; omega)
  rw [renL_length] at hrr
  apply ext_nth (by simp; omega)
  intro y hy
  have hy' : y < t.length := by omega
  have hiy := invL_lt hp (y := (y : Int)) (by omega) (by omega)
  have hv := val2_lt ht (x := nth (invL p) x) (y := nth (invL p) y) hix.1 (by omega) hiy.1 (by omega)
  have e1 : nth (row (renL t p) x) y = nth p (val2 t (nth (invL p) x) (nth (invL p) y)) := ren_val (by omega) (by omega) (by omega) (by omega)
  rw [e1, nth_thenL _ _ _ (by omega) (by simp; omega), nth_thenL _ _ _ (by omega) (by simp; omega)]
  rfl
theorem permRows_iff {t : List (List Int)} (ht : isTab t = true) : permRows t = true ↔ ∀ x : Nat, x < t.length → Permuted (row t x) := by
  obtain ⟨h1, h2⟩ := isTab_len ht
  unfold permRows
  rw [List.all_eq_true]
  constructor
  · intro h x hx
    have := h _ (row_mem (t := t) (x := (x : Int)) (by omega) (by omega))
    exact (isPerm_parts this).2.2
  · intro h r hr
    obtain ⟨x, hx, rfl⟩ := List.getElem_of_mem hr
    have hp := h x hx
    have hl := isTab_row ht (x := (x : Int)) (by omega) (by omega)
    rw [row_nat _ _ hx] at hp hl
    simp [isPerm, inR, hp]
    omega
/-- Renaming keeps 'all rows are permutations'. -/
theorem permRows_ren {t : List (List Int)} {p : List Int} (h : RenOk t p) (hr : permRows t = true) : permRows (renL t p) = true := by
  obtain ⟨ht, hp, hpl⟩ := h
  have h : RenOk t p := ⟨ht, hp, hpl⟩
  rw [permRows_iff (isTab_renL h)]
  rw [permRows_iff ht] at hr
  intro x hx
  rw [renL_length] at hx
  have hix := invL_lt hp (y := (x : Int)) (by omega) (by omega)
  have hrow := hr (nth (invL p) x).toNat (by omega)
  rw [show (((nth (invL p) x).toNat : Nat) : Int) = nth (invL p) x by omega] at hrow
  have hrl := isTab_row ht hix.1 (by omega)
  rw [row_renL h hx]
  have h1 := then_perm (perm_inv hp) hrow (by simp; omega)
  exact then_perm h1 hp (by first | (simp; omega) | simp [hpl] | omega)
theorem trans_ren {t : List (List Int)} {p : List Int} (h : RenOk t p) : transL (renL t p) = renL (transL t) p := by
  obtain ⟨ht, hp, hpl⟩ := h
  unfold transL
  rw [renL_length]
  unfold renL
  rw [tabOf_length]
  refine tabOf_congr fun x y hx hy => ?_
  have a := invL_lt hp (y := (x : Int)) (by omega) (by omega)
  have b := invL_lt hp (y := (y : Int)) (by omega) (by omega)
  rw [val2_tabOf' (by omega) (by omega) (by omega) (by omega), val2_tabOf' a.1 (by omega) b.1 (by omega)]
theorem ren_back {t : List (List Int)} {p : List Int} (h : RenOk t p) : renL (renL t p) (invL p) = t := by
  obtain ⟨ht, hp, hpl⟩ := h
  have h : RenOk t p := ⟨ht, hp, hpl⟩
  rw [ren_then h (perm_inv hp) (by simp; omega), then_back hp, hpl, ren_one ht]
theorem permRows_ren_iff {t : List (List Int)} {p : List Int} (h : RenOk t p) : permRows (renL t p) = permRows t := by
  rw [Bool.eq_iff_iff]
  constructor
  · intro hr
    have h2 := permRows_ren (renOk_ren h (perm_inv h.2.1) (by have := h.2.2; simp; omega)) hr
    rwa [ren_back h] at h2
  · exact permRows_ren h
/-- Renaming keeps latin tables and tables with permutations as rows. -/
theorem lat_ren {t : List (List Int)} {p : List Int} (h : RenOk t p) : latRes (renL t p) = latRes t := by
  have h2 : RenOk (transL t) p := ⟨isTab_transL h.1, h.2.1, by simp; exact h.2.2⟩
  unfold latRes
  rw [if_pos (isTab_renL h), if_pos h.1, permRows_ren_iff h, trans_ren h, permRows_ren_iff h2]
theorem trans_trans {t : List (List Int)} (ht : isTab t = true) : transL (transL t) = t := by
  conv => rhs; rw [← tabOf_val2 ht]
  unfold transL
  rw [tabOf_length]
  refine tabOf_congr fun x y hx hy => ?_
  exact val2_tabOf' (by omega) (by omega) (by omega) (by omega)
end Go.Proofs.Ytkghonhghbcdlaa

namespace Go.Proofs.Ytkghonhghbcdlaa
set_option linter.unusedVariables false
set_option linter.unusedSimpArgs false
open Go.RowKit

theorem eql_nilC (W : World) (a : Option Addr) (n c : Nat) : (binOp .eql 27 (.slice a n c) (.slice none 0 0)).run Try.prog W = .ok (.bool a.isNone) W := Lib.run_eql_slice_nil W _ _ a n c 0 0 Try.underlying27

end Go.Proofs.Ytkghonhghbcdlaa

namespace Go.Proofs.Ytkghonhghbcdlaa
set_option linter.unusedVariables false
set_option linter.unusedSimpArgs false
open Go.RowKit


set_option maxHeartbeats 1600000 in
theorem c_l01Own2 (v : Value) (t : List (List Int)) (w : World) (hx : Rows w v t) (hn : t.length ≤ 1048576) (hr : ∀ r ∈ t, r.length ≤ 1048576) :
    Calls Try.prog 102 #[v] w (RRows w t) := by
  obtain ⟨a, c, rfl, hc, hm⟩ := hx.shape
  have HR := Lib.hid hr; clear hr
  go_enter Try.func102, Try.ntmps102
  go_wp2
  go_loopw [3, 4] (fun s i wr => ∃ (k : Nat) (sa : Option Addr) (sc : Nat), k ≤ t.length ∧ i = .int .i64 k ∧ s = .slice sa k sc ∧ Below w.heap.size w wr ∧ OwnRows w.heap.size wr (.slice sa k sc) (t.take k)) (fun _ i _ => t.length - (intOf i).toNat)
  case atStart => exact ⟨0, _, _, Nat.zero_le _, rfl, rfl, (Below.refl _ _).alloc (Nat.le_refl _) _, OwnRows.made0 w (Nat.le_refl _)⟩
  case round =>
    obtain ⟨k, sa, sc, hk, rfl, rfl, hb, hown⟩ := hrel
    have hlen : (t.take k).length = k := by simp; omega
    by_cases hlt : k < t.length
    · obtain ⟨b, o, ra, rc, rfl, hcell, hu⟩ := (hx.below hb).getS k hlt
      have hrl : (row t k).length ≤ 1048576 := HR.out _ (row_mem (by omega) (by omega))
      have Hb := Lib.hid hb; have Ho := Lib.hid hown; have Hl := Lib.hid hlen; have Hs := Lib.hid hb.size; have HU := Lib.hid hu; clear hb hown hlen hu
      obtain ⟨wo, rfl⟩ : ∃ wo : World, wo = wr := ⟨_, rfl⟩
      go_wp2_with fail
      refine (c_l01Own _ _ _ HU.out hrl).mono ?_; rintro e w1 ⟨r, rfl, hor, hb1⟩
      obtain ⟨qa, qc, hqv, _⟩ := hor.shape
      subst hqv
      have HRr := Lib.hid hor; have HB1 := Lib.hid hb1; clear hor hb1 hcell
      go_wp2_with (at_builtin; refine wpList_app_row w.heap.size wo w1 _ (t.take k) _ (row t k) _ _ rfl rfl rfl Ho.out HB1.out HRr.out rfl (by rw [Hl.out]; omega) Hs.out ?_; intro a' c' w' hown' hkeep; rw [Hl.out]; have Hk := Lib.hid hkeep; have Ho' := Lib.hid hown'; clear hkeep hown')
      go_roundw
      case rel =>
        have h1 := Ho'.out
        rw [Hl.out, ← take_snoc_row _ _ hlt] at h1
        exact ⟨k + 1, a', c', by omega, by go_num, rfl, OwnRows.frame Ho.out (bb Hb.out HB1.out) (Nat.le_refl _) (Nat.le_trans Hs.out HB1.out.size) Hk.out, h1⟩
      case measure => simp [intOf]; omega
    · have Hb := Lib.hid hb; have Ho := Lib.hid hown; clear hb hown hlen
      obtain rfl : k = t.length := by omega
      go_wp2
      go_ret
      exact ⟨_, rfl, by have := Ho.out; rwa [List.take_of_length_le (Nat.le_refl _)] at this, Hb.out⟩

end Go.Proofs.Ytkghonhghbcdlaa

namespace Go.Proofs.Ytkghonhghbcdlaa
set_option linter.unusedVariables false
set_option linter.unusedSimpArgs false
open Go.RowKit

theorem Own.keepN {B : Nat} {S : Nat → Prop} {w w' : World} {v : Value} {xs : List Int} (h : Own B w v xs) (k : Keep S w w') (hs : ∀ b, v.ownBlock = some b → ¬ S b) : Own B w' v xs := by
  obtain ⟨hl, h | ⟨g, cap, cur, hv, hb, hg, r⟩⟩ := h
  · exact ⟨hl, .inl h⟩
  · exact ⟨hl, .inr ⟨g, cap, cur, hv, hb, by rw [k.block g (Array.getElem?_eq_some_iff.1 hg).1 (hs g (by rw [hv]; rfl))]; exact hg, r⟩⟩

/-- Two tables in the variable at block q; all of them below m. -/
structure Out2 (lo m q : Nat) (w : World) (va vb : Value) (A B : List (List Int)) : Prop where
  ql : q < lo
  lm : lo ≤ m
  mw : m ≤ w.heap.size
  blk : Blk w q 26 [va, vb]
  a : OwnRowsIn lo m w va A
  b : OwnRowsIn lo m w vb B
  ne : ∀ k, va.ownBlock = some k → vb.ownBlock ≠ some k
/-- .. the first of them has grown. -/
structure Out2h (lo m q : Nat) (w : World) (va vb : Value) (A B : List (List Int)) : Prop where
  ql : q < lo
  lm : lo ≤ m
  mw : m ≤ w.heap.size
  blk : Blk w q 26 [va, vb]
  a : OwnRows lo w va A
  b : OwnRowsIn lo m w vb B
  ne : ∀ k, va.ownBlock = some k → vb.ownBlock ≠ some k

theorem OwnRowsIn.ltv {lo m : Nat} {w : World} {v : Value} {A : List (List Int)} (h : OwnRowsIn lo m w v A) {k : Nat} (hk : v.ownBlock = some k) : lo ≤ k ∧ k < m ∧ k < w.heap.size := by
  obtain ⟨us, h1, h2, h3, h4⟩ := h
  have := World.ownsRow.lt h1 k hk
  exact ⟨this.1, h3 k hk, this.2⟩

theorem Out2.under {lo m q : Nat} {w w' : World} {va vb : Value} {A B : List (List Int)} (h : Out2 lo m q w va vb A B) (hb : Below w.heap.size w w') : Out2 lo m q w' va vb A B :=
  ⟨h.ql, h.lm, Nat.le_trans h.mw hb.size, h.blk.under hb, h.a.under hb, h.b.under hb, h.ne⟩
theorem Out2.start {lo q : Nat} {w : World} (hq : q < lo) (hl : lo ≤ w.heap.size) (hb : Blk w q 26 [.slice none 0 0, .slice none 0 0]) : Out2 lo w.heap.size q w (.slice none 0 0) (.slice none 0 0) [] [] :=
  ⟨hq, hl, Nat.le_refl _, hb, OwnRowsIn.nil0 _ _ _, OwnRowsIn.nil0 _ _ _, by intro k hk; cases hk⟩

/-- 'out.First = append(out.First, first)'. -/
theorem Out2.app1 {lo m q : Nat} {w w' : World} {va vb : Value} {A B : List (List Int)} {xs : List Int} {g l c : Nat} (h : Out2 lo m q w va vb A B) (ho : OwnRows lo w' (.slice (some ⟨g, 0, none⟩) l c) (A ++ [xs]))
    (hk : Keep (fun b => va.ownBlock = some b) w w') (hg : va.ownBlock = some g ∨ w.heap.size ≤ g) :
    Out2h lo m q (w'.setCell ⟨q, 0, none⟩ (.slice (some ⟨g, 0, none⟩) l c)) (.slice (some ⟨g, 0, none⟩) l c) vb (A ++ [xs]) B := by
  have hq := h.ql; have hl := h.lm; have hm := h.mw
  have hsz := hk.size
  have hva : ∀ b, va.ownBlock = some b → lo ≤ b ∧ b < m := fun b e => ⟨(h.a.ltv e).1, (h.a.ltv e).2.1⟩
  have hvb : ∀ b, vb.ownBlock = some b → lo ≤ b ∧ b < m := fun b e => ⟨(h.b.ltv e).1, (h.b.ltv e).2.1⟩
  have hblk := h.blk.of_block (hk.block _ h.blk.lt (fun e => by have := hva _ e; omega))
  refine ⟨hq, hl, by simp [World.setCell]; omega, hblk.set 0 _, ?_, ?_, ?_⟩
  · exact ho.keep (keep1 w' q 0 _) (fun b h1 _ h3 => by have h3 : b = q := h3; omega)
  · have h1 := h.b.keepT (h.a.out) (fun b e1 e2 => h.ne b e2 e1) hk
    exact h1.keep (keep1 w' q 0 _) (fun b h1 _ h3 => by have h3 : b = q := h3; omega)
  · intro k e e2
    simp [Value.ownBlock] at e
    subst e
    rcases hg with hg | hg
    · exact h.ne _ hg e2
    · have := hvb _ e2; omega
/-- 'out.Second = append(out.Second, second)'. -/
theorem Out2h.app2 {lo m q : Nat} {w w' : World} {va vb : Value} {A B : List (List Int)} {xs : List Int} {g l c : Nat} (h : Out2h lo m q w va vb A B) (ho : OwnRows lo w' (.slice (some ⟨g, 0, none⟩) l c) (B ++ [xs]))
    (hk : Keep (fun b => vb.ownBlock = some b) w w') (hg : vb.ownBlock = some g ∨ w.heap.size ≤ g) :
    Out2 lo (w'.setCell ⟨q, 1, none⟩ (.slice (some ⟨g, 0, none⟩) l c)).heap.size q (w'.setCell ⟨q, 1, none⟩ (.slice (some ⟨g, 0, none⟩) l c)) va (.slice (some ⟨g, 0, none⟩) l c) A (B ++ [xs]) := by
  have hq := h.ql; have hl := h.lm; have hm := h.mw
  have hsz := hk.size
  have hva : ∀ b, va.ownBlock = some b → lo ≤ b ∧ b < w.heap.size := fun b e => OwnRows.lt h.a e
  have hvb : ∀ b, vb.ownBlock = some b → lo ≤ b ∧ b < m := fun b e => ⟨(h.b.ltv e).1, (h.b.ltv e).2.1⟩
  have hblk := h.blk.of_block (hk.block _ h.blk.lt (fun e => by have := hvb _ e; omega))
  refine ⟨hq, by simp [World.setCell]; omega, Nat.le_refl _, hblk.set 1 _, ?_, ?_, ?_⟩
  · have h1 := h.a.keepT (h.b.out) (fun b e1 e2 => h.ne b e1 e2) hk
    exact (h1.keep (keep1 w' q 1 _) (fun b h1 _ h3 => by have h3 : b = q := h3; omega)).inn
  · exact (ho.keep (keep1 w' q 1 _) (fun b h1 _ h3 => by have h3 : b = q := h3; omega)).inn
  · intro k e e2
    simp [Value.ownBlock] at e2
    subst e2
    rcases hg with hg | hg
    · exact h.ne _ e hg
    · have := hva _ e; omega
theorem Out2.blkq {lo m q : Nat} {w w' : World} {va vb : Value} {A B : List (List Int)} (h : Out2 lo m q w va vb A B) (hk : Keep (fun b => va.ownBlock = some b) w w') : Blk w' q 26 [va, vb] := by
  have hq := h.ql
  exact h.blk.of_block (hk.block _ h.blk.lt (fun e => by have := (h.a.ltv e).1; omega))
theorem Out2h.blkq {lo m q : Nat} {w w' : World} {va vb : Value} {A B : List (List Int)} (h : Out2h lo m q w va vb A B) (hk : Keep (fun b => vb.ownBlock = some b) w w') : Blk w' q 26 [va, vb] := by
  have hq := h.ql
  exact h.blk.of_block (hk.block _ h.blk.lt (fun e => by have := (h.b.ltv e).1; omega))
/-- A row that the call has made since stays as it was. -/
theorem Out2.row1 {lo m q : Nat} {w w' : World} {va vb u : Value} {A B : List (List Int)} {ys : List Int} (h : Out2 lo m q w va vb A B) (hu : Own m w u ys) (hk : Keep (fun b => va.ownBlock = some b) w w') (x : Value) : Own m (w'.setCell ⟨q, 0, none⟩ x) u ys := by
  have hq := h.ql; have hl := h.lm
  have h1 := hu.keep hk (fun b h1 _ h3 => by have := (h.a.ltv h3).2.1; omega)
  exact h1.keep (keep1 w' q 0 _) (fun b h1 _ h3 => by have h3 : b = q := h3; omega)
theorem Out2.frame1 {lo m q B0 : Nat} {w0 w w' : World} {va vb : Value} {A B : List (List Int)} (h : Out2 lo m q w va vb A B) (hb : Below B0 w0 w) (h0 : B0 ≤ q) (hk : Keep (fun b => va.ownBlock = some b) w w') (x : Value) : Below B0 w0 (w'.setCell ⟨q, 0, none⟩ x) := by
  have hq := h.ql; have hl := h.lm; have hm := h.mw
  exact (OwnRows.frame h.a.out hb (by omega) (by omega) hk).setCell (p := ⟨q, 0, none⟩) h0 x
theorem Out2h.frame2 {lo m q B0 : Nat} {w0 w w' : World} {va vb : Value} {A B : List (List Int)} (h : Out2h lo m q w va vb A B) (hb : Below B0 w0 w) (h0 : B0 ≤ q) (hk : Keep (fun b => vb.ownBlock = some b) w w') (x : Value) : Below B0 w0 (w'.setCell ⟨q, 1, none⟩ x) := by
  have hq := h.ql; have hl := h.lm; have hm := h.mw
  exact (OwnRows.frame h.b.out hb (by omega) (by omega) hk).setCell (p := ⟨q, 1, none⟩) h0 x
/-- A block outside of both tables stays as it was. -/
theorem Out2.blk1 {lo m q p : Nat} {w w' : World} {va vb : Value} {A B : List (List Int)} {t : TypeId} {cs : List Value} (h : Out2 lo m q w va vb A B) (hp : p < q) (hB : Blk w p t cs) (hk : Keep (fun b => va.ownBlock = some b) w w') (x : Value) : Blk (w'.setCell ⟨q, 0, none⟩ x) p t cs := by
  have hq := h.ql
  exact (hB.of_block (hk.block _ hB.lt (fun e => by have := (h.a.ltv e).1; omega))).other (a := ⟨q, 0, none⟩) (by show p ≠ q; omega) x
theorem Out2h.blk2 {lo m q p : Nat} {w w' : World} {va vb : Value} {A B : List (List Int)} {t : TypeId} {cs : List Value} (h : Out2h lo m q w va vb A B) (hp : p < q) (hB : Blk w p t cs) (hk : Keep (fun b => vb.ownBlock = some b) w w') (x : Value) : Blk (w'.setCell ⟨q, 1, none⟩ x) p t cs := by
  have hq := h.ql
  exact (hB.of_block (hk.block _ hB.lt (fun e => by have := (h.b.ltv e).1; omega))).other (a := ⟨q, 1, none⟩) (by show p ≠ q; omega) x

theorem wpList_app_int2 {ops : Array Oper} {rest : List Oper} {o : Oper} {a : Act} {Q : Exit → Act → World → Prop} (B : Nat) (w : World) (v : Value) (xs : List Int) (y : Int) (s x : Operand) (sz : Nat) (hsz : sz = w.heap.size) (hgd : o.guard = none)
    (ho : o.op = .call { callee := .builtin .append, args := #[s, x], argTypes := #[27, 27] })
    (hs : a.eval s = v) (hown : Own B w v xs) (hx : a.eval x = .slice (some ⟨sz, 0, none⟩) 1 1) (hn : xs.length ≤ 1099511627776) (hB2 : B ≤ w.heap.size)
    (h : ∀ g c' w', Own B w' (.slice (some ⟨g, 0, none⟩) (xs.length + 1) c') (xs ++ [y]) → Keep (fun b => v.ownBlock = some b) w w' → (v.ownBlock = some g ∨ w.heap.size ≤ g) → wpList Try.prog ops Q rest (a.put o.dst (.slice (some ⟨g, 0, none⟩) (xs.length + 1) c')) w') :
    wpList Try.prog ops Q (o :: rest) a (w.alloc (.cells #[.int .i64 y] 2)) := by
  subst hsz
  exact wpList_plain hgd fun _ hK => wp_app_int B w v xs y s x ho hs hown hx hn hB2 fun g c' w' h2 h3 h4 => hK _ _ (h g c' w' h2 h3 h4)
theorem wpList_app_row2s {ops : Array Oper} {rest : List Oper} {o : Oper} {a : Act} {Q : Exit → Act → World → Prop} (B m : Nat) (w : World) (v : Value) (xss : List (List Int)) (u : Value) (xs : List Int) (s x : Operand) (sz : Nat) (hsz : sz = w.heap.size) (hgd : o.guard = none)
    (ho : o.op = .call { callee := .builtin .append, args := #[s, x], argTypes := #[24, 24] })
    (hs : a.eval s = v) (hown : OwnRowsIn B m w v xss) (hu : Own m w u xs) (hx : a.eval x = .slice (some ⟨sz, 0, none⟩) 1 1) (hn : xss.length ≤ 1099511627776) (hB : B ≤ m) (hB2 : B ≤ w.heap.size)
    (h : ∀ g c' w', OwnRows B w' (.slice (some ⟨g, 0, none⟩) (xss.length + 1) c') (xss ++ [xs]) → Keep (fun b => v.ownBlock = some b) w w' → (v.ownBlock = some g ∨ w.heap.size ≤ g) → wpList Try.prog ops Q rest (a.put o.dst (.slice (some ⟨g, 0, none⟩) (xss.length + 1) c')) w') :
    wpList Try.prog ops Q (o :: rest) a (w.alloc (.cells #[u] 27)) := by
  subst hsz
  exact wpList_app_row2 B m w v xss u xs s x hgd ho hs hown hu hx hn hB hB2 h

/-- A pair of tables of the call's own (not apart from each other), beside a code. -/
def RSolRO (w0 : World) (A B : List (List Int)) (c : Int) (e : Ending) (w' : World) : Prop :=
  ∃ r1 r2, e = .returned (.tuple #[.agg #[r1, r2], .int .i64 c]) ∧ (OwnRows w0.heap.size w' r1 A ∧ OwnRows w0.heap.size w' r2 B) ∧ Below w0.heap.size w0 w'
theorem storedO {w w2 : World} {r1 r2 : Value} {A B : List (List Int)} {lo q : Nat} (hB : Below w.heap.size w w2) (hs : OwnRows lo w2 r1 A ∧ OwnRows lo w2 r2 B) (hq : w.heap.size ≤ q) (hlo : q < lo) :
    (OwnRows w.heap.size ((w2.setCell ⟨q, 0, none⟩ r1).setCell ⟨q, 1, none⟩ r2) r1 A ∧ OwnRows w.heap.size ((w2.setCell ⟨q, 0, none⟩ r1).setCell ⟨q, 1, none⟩ r2) r2 B) ∧ Below w.heap.size w ((w2.setCell ⟨q, 0, none⟩ r1).setCell ⟨q, 1, none⟩ r2) := by
  have k : Keep (fun b => b = q) w2 ((w2.setCell ⟨q, 0, none⟩ r1).setCell ⟨q, 1, none⟩ r2) := ((Keep.refl (fun b => b = q) w2).setCell (p := ⟨q, 0, none⟩) (.inl rfl) _).setCell (p := ⟨q, 1, none⟩) (.inl rfl) _
  exact ⟨⟨(hs.1.keep k (fun b h1 _ h3 => by omega)).mono (by omega), (hs.2.keep k (fun b h1 _ h3 => by omega)).mono (by omega)⟩, (hB.setCell (p := ⟨q, 0, none⟩) hq _).setCell (p := ⟨q, 1, none⟩) hq _⟩
/-- The box of a result, laid ahead of the call and filled behind it. -/
theorem box_early {w3 : World} {q : Nat} {u v a b : Value} {t : TypeId} (h : Blk w3 q t [u, v]) : Blk ((w3.setCell ⟨q, 0, none⟩ a).setCell ⟨q, 1, none⟩ b) q t [a, b] := (h.set 0 a).set 1 b
theorem keep_early (w3 : World) (q : Nat) (a b : Value) : Keep (fun k => k = q) w3 ((w3.setCell ⟨q, 0, none⟩ a).setCell ⟨q, 1, none⟩ b) :=
  ((Keep.refl (fun k => k = q) w3).setCell (p := ⟨q, 0, none⟩) (.inl rfl) _).setCell (p := ⟨q, 1, none⟩) (.inl rfl) _
theorem keep_late (w3 : World) (o : Obj) : Keep (fun k => k = w3.heap.size) w3 (w3.alloc o) := (Keep.refl _ w3).alloc o

/-- Two lists of the call's own that grow side by side. -/
structure Two (B : Nat) (w : World) (u v : Value) (xs ys : List Int) : Prop where
  a : Own B w u xs
  b : Own B w v ys
  ne : ∀ k, u.ownBlock = some k → v.ownBlock ≠ some k
theorem Two.app1 {B g l c : Nat} {w w' : World} {u v : Value} {xs ys : List Int} {x : Int} (h : Two B w u v xs ys) (ho : Own B w' (.slice (some ⟨g, 0, none⟩) l c) (xs ++ [x])) (hk : Keep (fun b => u.ownBlock = some b) w w') (hg : u.ownBlock = some g ∨ w.heap.size ≤ g) :
    Two B w' (.slice (some ⟨g, 0, none⟩) l c) v (xs ++ [x]) ys := by
  refine ⟨ho, h.b.keepN hk (fun b e1 e2 => h.ne b e2 e1), ?_⟩
  intro k e e2
  simp [Value.ownBlock] at e
  subst e
  rcases hg with hg | hg
  · exact h.ne _ hg e2
  · have := (h.b.lt e2).2; omega
theorem Two.app2 {B g l c : Nat} {w w' : World} {u v : Value} {xs ys : List Int} {x : Int} (h : Two B w u v xs ys) (ho : Own B w' (.slice (some ⟨g, 0, none⟩) l c) (ys ++ [x])) (hk : Keep (fun b => v.ownBlock = some b) w w') (hg : v.ownBlock = some g ∨ w.heap.size ≤ g) :
    Two B w' u (.slice (some ⟨g, 0, none⟩) l c) xs (ys ++ [x]) := by
  refine ⟨h.a.keepN hk (fun b e1 e2 => h.ne b e1 e2), ho, ?_⟩
  intro k e e2
  simp [Value.ownBlock] at e2
  subst e2
  rcases hg with hg | hg
  · exact h.ne _ e hg
  · have := (h.a.lt e).2; omega
theorem Two.made0 (w : World) : Two w.heap.size ((w.alloc (.cells #[] 2)).alloc (.cells #[] 2)) (.slice (some ⟨w.heap.size, 0, none⟩) 0 0) (.slice (some ⟨w.heap.size + 1, 0, none⟩) 0 0) [] [] := by
  refine ⟨(Own.made0 w (Nat.le_refl _)).under ((Below.refl _ _).alloc (Nat.le_refl _) _), ?_, ?_⟩
  · have := Own.made0 (B := w.heap.size) (w.alloc (.cells #[] 2)) (by simp)
    simpa using this
  · intro k e e2
    simp [Value.ownBlock] at e e2
    omega
theorem Two.under {B : Nat} {w w' : World} {u v : Value} {xs ys : List Int} (h : Two B w u v xs ys) (hb : Below w.heap.size w w') : Two B w' u v xs ys := ⟨h.a.under hb, h.b.under hb, h.ne⟩
end Go.Proofs.Ytkghonhghbcdlaa

namespace Go.Proofs.Ytkghonhghbcdlaa
set_option linter.unusedVariables false
set_option linter.unusedSimpArgs false
open Go Go.RowKit

theorem OwnRowsIn.put {lo hi : Nat} {w : World} {sa : Option Addr} {n c : Nat} {t : List (List Int)} (h : OwnRowsIn lo hi w (.slice sa n c) t) {u y m : Nat} (hu : u < t.length) (hm : (row t u).length = m) (hy : y < m) :
    ∃ b g cr z0, sa = some ⟨b, 0, none⟩ ∧ lo ≤ b ∧ b < hi ∧ lo ≤ g ∧ g < hi ∧ b ≠ g ∧ w.cell? ⟨b, u, none⟩ = some (.slice (some ⟨g, 0, none⟩) m cr) ∧ w.cell? ⟨g, y, none⟩ = some z0 ∧ w.frozen? ⟨g, y, none⟩ = false ∧
      ∀ z : Int, OwnRowsIn lo hi (w.setCell ⟨g, y, none⟩ (.int .i64 z)) (.slice sa n c) (t.set u ((row t u).set y z)) := by
  obtain ⟨us, h1, h2, h3, h4⟩ := h
  have hul : u < us.length := by rw [h2.len]; exact hu
  obtain ⟨a, c', hv, _, _, hc⟩ := ownsRow_cells h1
  obtain ⟨b, hab, hcell⟩ := hc u hul
  injection hv with e1 e2 e3
  subst e1 hab
  have hrow : t[u] = row t u := (row_nat t u hu).symm
  have hown := h2.own u hul hu
  rcases hown.open with ⟨_, k2⟩ | ⟨g, cs, k1, k2, k3, k4⟩
  · rw [hrow] at k2; rw [k2] at hm; simp at hm; omega
  · have hy' : y < (t[u]).length := by rw [hrow]; omega
    have hv1 : us[u] = .slice (some ⟨g, 0, none⟩) m ((t[u]).length + cs.length) := by rw [k1, hrow, hm]
    have hput := fun z => h2.put hul hu hv1 hy' z
    obtain ⟨p1, p2⟩ := h2.cellAt hul hu hv1 hy'
    have hg := h4 u hul g (by rw [hv1]; rfl)
    have hb1 := World.ownsRow.lt h1 b rfl
    have hbg : b ≠ g := by
      obtain ⟨hl, hn | ⟨g', cap, cur, hv', hb', hg', r⟩⟩ := h1
      · simp at hn
      · injection hv' with e1 e2 e3
        injection e1 with e1
        injection e1 with e1
        subst e1
        have := hown.ne (g := b) (t := 27) (cs := cur.toList) (by unfold Blk; simpa using hg') (by decide)
        intro e
        apply this
        rw [hv1, e]; rfl
    refine ⟨b, g, _, _, rfl, hb1.1, h3 b rfl, k2, hg, hbg, by rw [hcell, hv1], p1, p2, fun z => ⟨us, ?_, ?_, h3, h4⟩⟩
    · refine ownsRow_ne h1 hown ?_
      rw [hv1]
      exact keepB _ _ _ _ _ _
    · have := hput z
      rw [hrow] at this; exact this

/-- Two tables side by side, apart from a box q. -/
def TwoIn (lo q : Nat) (W : World) (va vb : Value) (X Y : List (List Int)) : Prop :=
  ∃ l1 h1 l2 h2, lo ≤ l1 ∧ lo ≤ l2 ∧ h1 ≤ l2 ∧ h1 ≤ W.heap.size ∧ h2 ≤ W.heap.size ∧ (h1 ≤ q ∨ q < l1) ∧ (h2 ≤ q ∨ q < l2) ∧ OwnRowsIn l1 h1 W va X ∧ OwnRowsIn l2 h2 W vb Y
theorem size_set (w : World) (a : Addr) (v : Value) : (w.setCell a v).heap.size = w.heap.size := by simp [World.setCell]
theorem TwoIn.keep {lo q : Nat} {S : Nat → Prop} {W W' : World} {va vb : Value} {X Y : List (List Int)} (h : TwoIn lo q W va vb X Y) (k : Keep S W W') (hS : ∀ b, lo ≤ b → b ≠ q → b < W.heap.size → ¬ S b) : TwoIn lo q W' va vb X Y := by
  obtain ⟨l1, h1, l2, h2, a, b, c, d1, d, e, f, o1, o2⟩ := h
  have hs := k.size
  exact ⟨l1, h1, l2, h2, a, b, c, by omega, by omega, e, f, o1.keep k (fun x x1 x2 => hS x (by omega) (by omega) (by omega)), o2.keep k (fun x x1 x2 => hS x (by omega) (by omega) (by omega))⟩
theorem TwoIn.under {lo q : Nat} {W W' : World} {va vb : Value} {X Y : List (List Int)} (h : TwoIn lo q W va vb X Y) (hb : Below W.heap.size W W') : TwoIn lo q W' va vb X Y :=
  h.keep (S := fun b => W.heap.size ≤ b) (Keep.of_below hb) fun x _ _ x1 x2 => by omega
/-- An entry of each written, in either order. -/
theorem TwoIn.put {lo q : Nat} {W : World} {sa sb : Option Addr} {n c n' c' : Nat} {X Y : List (List Int)} (h : TwoIn lo q W (.slice sa n c) (.slice sb n' c') X Y) {u y m m' : Nat}
    (hu : u < X.length) (hu' : u < Y.length) (hm : (row X u).length = m) (hm' : (row Y u).length = m') (hy : y < m) (hy' : y < m') :
    ∃ b1 g1 r1 b2 g2 r2 z1 z2, sa = some ⟨b1, 0, none⟩ ∧ sb = some ⟨b2, 0, none⟩ ∧ (lo ≤ b1 ∧ lo ≤ g1 ∧ lo ≤ b2 ∧ lo ≤ g2) ∧ (q ≠ b1 ∧ q ≠ g1 ∧ q ≠ b2 ∧ q ≠ g2) ∧ (b1 ≠ g1 ∧ b1 ≠ g2 ∧ b2 ≠ g1 ∧ b2 ≠ g2 ∧ g1 ≠ g2) ∧
      W.cell? ⟨b1, u, none⟩ = some (.slice (some ⟨g1, 0, none⟩) m r1) ∧ W.cell? ⟨b2, u, none⟩ = some (.slice (some ⟨g2, 0, none⟩) m' r2) ∧ W.cell? ⟨g1, y, none⟩ = some z1 ∧ W.frozen? ⟨g1, y, none⟩ = false ∧ W.cell? ⟨g2, y, none⟩ = some z2 ∧ W.frozen? ⟨g2, y, none⟩ = false ∧
      (∀ s t : Int, TwoIn lo q ((W.setCell ⟨g1, y, none⟩ (.int .i64 s)).setCell ⟨g2, y, none⟩ (.int .i64 t)) (.slice sa n c) (.slice sb n' c') (X.set u ((row X u).set y s)) (Y.set u ((row Y u).set y t))) ∧
      ∀ s t : Int, TwoIn lo q ((W.setCell ⟨g2, y, none⟩ (.int .i64 t)).setCell ⟨g1, y, none⟩ (.int .i64 s)) (.slice sa n c) (.slice sb n' c') (X.set u ((row X u).set y s)) (Y.set u ((row Y u).set y t)) := by
  obtain ⟨l1, h1, l2, h2, a, b, cc, d1, d, e, f, o1, o2⟩ := h
  have ok1 := fun (W' : World) (o : OwnRowsIn l1 h1 W' (.slice sa n c) X) => o.put hu hm hy
  obtain ⟨b1, g1, r1, z1, rfl, p1, p2, p3, p4, p5, p6, p7, p8, p9⟩ := o1.put hu hm hy
  obtain ⟨b2, g2, r2, z2, rfl, k1, k2, k3, k4, k5, k6, k7, k8, k9⟩ := o2.put hu' hm' hy'
  refine ⟨b1, g1, r1, b2, g2, r2, z1, z2, rfl, rfl, ⟨by omega, by omega, by omega, by omega⟩, ⟨by omega, by omega, by omega, by omega⟩, ⟨by omega, by omega, by omega, by omega, by omega⟩, p6, k6, p7, p8, k7, k8, ?_, ?_⟩
  · intro s t
    have kk := (Keep.refl (fun x => x = g1) W).setCell (p := ⟨g1, y, none⟩) (.inl rfl) (.int .i64 s)
    have o2' := o2.keep kk (fun x x1 x2 e => by omega)
    obtain ⟨b2', g2', r2', z2', hb', _, _, _, _, _, j6, _, _, j9⟩ := o2'.put hu' hm' hy'
    have k6' : (W.setCell ⟨g1, y, none⟩ (.int .i64 s)).cell? ⟨b2, u, none⟩ = some (.slice (some ⟨g2, 0, none⟩) m' r2) := (World.cell?_of_block (w := W) (kk.block b2 (cell_lt k6) (by omega))).trans k6
    injection hb' with hb'; injection hb' with hb'; subst hb'
    rw [k6'] at j6
    injection j6 with j6; injection j6 with j6; injection j6 with j6; injection j6 with j6; subst j6
    have kk2 := (Keep.refl (fun x => x = g2) (W.setCell ⟨g1, y, none⟩ (.int .i64 s))).setCell (p := ⟨g2, y, none⟩) (.inl rfl) (.int .i64 t)
    exact ⟨l1, h1, l2, h2, a, b, cc, by rw [size_set, size_set]; exact d1, by rw [size_set, size_set]; exact d, e, f, (p9 s).keep kk2 (fun x x1 x2 e => by omega), j9 t⟩
  · intro s t
    have kk := (Keep.refl (fun x => x = g2) W).setCell (p := ⟨g2, y, none⟩) (.inl rfl) (.int .i64 t)
    have o1' := o1.keep kk (fun x x1 x2 e => by omega)
    obtain ⟨b1', g1', r1', z1', hb', _, _, _, _, _, j6, _, _, j9⟩ := o1'.put hu hm hy
    have k6' : (W.setCell ⟨g2, y, none⟩ (.int .i64 t)).cell? ⟨b1, u, none⟩ = some (.slice (some ⟨g1, 0, none⟩) m r1) := (World.cell?_of_block (w := W) (kk.block b1 (cell_lt p6) (by omega))).trans p6
    injection hb' with hb'; injection hb' with hb'; subst hb'
    rw [k6'] at j6
    injection j6 with j6; injection j6 with j6; injection j6 with j6; injection j6 with j6; subst j6
    have kk2 := (Keep.refl (fun x => x = g1) (W.setCell ⟨g2, y, none⟩ (.int .i64 t))).setCell (p := ⟨g1, y, none⟩) (.inl rfl) (.int .i64 s)
    exact ⟨l1, h1, l2, h2, a, b, cc, by rw [size_set, size_set]; exact d1, by rw [size_set, size_set]; exact d, e, f, j9 s, (k9 t).keep kk2 (fun x x1 x2 e => by omega)⟩
end Go.Proofs.Ytkghonhghbcdlaa

namespace Go.Proofs.Ytkghonhghbcdlaa
set_option linter.unusedVariables false
set_option linter.unusedSimpArgs false
open Go Go.RowKit

/-- A table of the call's own, all its blocks in P. -/
def OwnP (lo : Nat) (P : Nat → Prop) (w : World) (v : Value) (t : List (List Int)) : Prop :=
  ∃ us, w.ownsRow lo 27 1 v us.length us ∧ RowVals lo w us t ∧ (∀ k, v.ownBlock = some k → P k) ∧ ∀ i (h : i < us.length) k, us[i].ownBlock = some k → P k
theorem OwnP.out {lo : Nat} {P : Nat → Prop} {w : World} {v : Value} {t : List (List Int)} (h : OwnP lo P w v t) : OwnRows lo w v t := by
  obtain ⟨us, h1, h2, _⟩ := h
  exact ⟨us, h1, h2⟩
theorem OwnP.imp {lo : Nat} {P Q : Nat → Prop} {w : World} {v : Value} {t : List (List Int)} (h : OwnP lo P w v t) (hpq : ∀ b, P b → Q b) : OwnP lo Q w v t := by
  obtain ⟨us, h1, h2, h3, h4⟩ := h
  exact ⟨us, h1, h2, fun k hk => hpq k (h3 k hk), fun i hi k hk => hpq k (h4 i hi k hk)⟩
theorem OwnP.nil (lo : Nat) (P : Nat → Prop) (w : World) : OwnP lo P w (.slice none 0 0) [] :=
  ⟨[], ⟨by simp, .inl ⟨rfl, rfl⟩⟩, RowVals.nil _ _, (by intro k hk; cases hk), (by intro i hi; simp at hi)⟩
theorem OwnP.keep {lo : Nat} {P S : Nat → Prop} {w w' : World} {v : Value} {t : List (List Int)} (h : OwnP lo P w v t) (k : Keep S w w') (hs : ∀ b, P b → ¬ S b) : OwnP lo P w' v t := by
  obtain ⟨us, h1, h2, h3, h4⟩ := h
  refine ⟨us, ?_, ⟨h2.len, fun i hi hi' => ?_, h2.apart⟩, h3, h4⟩
  · obtain ⟨hl, hn | ⟨g, cap, cur, hv, hb, hg, r⟩⟩ := h1
    · exact ⟨hl, .inl hn⟩
    · exact ⟨hl, .inr ⟨g, cap, cur, hv, hb, by rw [k.block g (Array.getElem?_eq_some_iff.1 hg).1 (hs g (h3 g (by rw [hv]; rfl)))]; exact hg, r⟩⟩
  · have h6 := h4 i hi
    obtain ⟨hl, hn | ⟨g, cap, cur, hv, hb, hg, r⟩⟩ := h2.own i hi hi'
    · exact ⟨hl, .inl hn⟩
    · exact ⟨hl, .inr ⟨g, cap, cur, hv, hb, by rw [k.block g (Array.getElem?_eq_some_iff.1 hg).1 (hs g (h6 g (by rw [hv]; rfl)))]; exact hg, r⟩⟩
theorem OwnP.under {lo : Nat} {P : Nat → Prop} {w w' : World} {v : Value} {t : List (List Int)} (h : OwnP lo P w v t) (hb : Below w.heap.size w w') : OwnP lo P w' v t := by
  obtain ⟨us, h1, h2, h3, h4⟩ := h
  exact ⟨us, ownsRow_keep h1 (Keep.of_below hb) (fun b _ hlt => by omega), h2.under hb, h3, h4⟩

/-- 'append(s, u)' at an operation: the new array is the old one or a new block; the blocks are told. -/
theorem wp_app_rowP {o : Oper} {a : Act} {K : Act → World → Prop} {Q : Exit → Act → World → Prop} (P : Nat → Prop) (B m : Nat) (w : World) (v : Value) (xss : List (List Int)) (u : Value) (xs : List Int) (s x : Operand)
    (ho : o.op = .call { callee := .builtin .append, args := #[s, x], argTypes := #[24, 24] })
    (hs : a.eval s = v) (hown : OwnP B P w v xss) (hP : ∀ b, P b → b < m) (hu : Own m w u xs) (hx : a.eval x = .slice (some ⟨w.heap.size, 0, none⟩) 1 1) (hn : xss.length ≤ 1099511627776) (hB : B ≤ m) (hB2 : B ≤ w.heap.size)
    (h : ∀ g c' w', OwnP B (fun b => P b ∨ u.ownBlock = some b ∨ b = g) w' (.slice (some ⟨g, 0, none⟩) (xss.length + 1) c') (xss ++ [xs]) → Keep (fun b => v.ownBlock = some b) w w' → (v.ownBlock = some g ∨ w.heap.size ≤ g) → K (a.put o.dst (.slice (some ⟨g, 0, none⟩) (xss.length + 1) c')) w') :
    o.wp Try.prog a (w.alloc (.cells #[u] 27)) K Q := by
  obtain ⟨us, h1, h2, hv3, hlt⟩ := hown
  have h2' := rowvals_snoc h2 (fun i hi k hk => hP k (hlt i hi k hk)) hu hB
  have hlen := h2.len
  obtain ⟨ua, uc, hu1, _⟩ := hu.shape
  obtain ⟨i0, hi, hz0, hz1, hz2⟩ := info_parts inf_ints
  refine wp_append_lies _ s x 24 ho B 27 i0 (.slice none 0 0) 1 24 Try.underlying24 hi hz0 hz1 hz2 rfl (by decide) v us.length us hs (h1.alloc _) ⟨w.heap.size, 0, none⟩ 1 1 [u] hx rfl ?_ ?_ (by decide) (by unfold maxLen; omega) (by omega) (by simp; omega) (w.heap.size + 1) (by simp) ?_
  · intro j u' hj
    match j, hj with
    | 0, hj => simp at hj; subst hj; simp [Addr.add]
  · intro u' hu'; simp at hu'; subst hu'; subst hu1; rfl
  · intro g cap w' h3 h4 h5 _
    have hk := Keep.of_grown h4
    have hk2 : Keep (fun b => v.ownBlock = some b) w w' := ((Keep.refl _ w).alloc _).trans hk
    rw [hlen] at h3 ⊢
    refine h g cap w' ⟨us ++ [u], by simpa [hlen] using h3, rowvals_keepT h2' h1 hk2, ?_, ?_⟩ hk2 (by rcases h5 with h5 | h5; exact .inl h5; exact .inr (by omega))
    · intro k hk
      simp [Value.ownBlock] at hk
      exact .inr (.inr hk.symm)
    · intro i hi k hk
      by_cases e : i < us.length
      · rw [List.getElem_append_left e] at hk
        exact .inl (hlt i e k hk)
      · have e2 : i = us.length := by simp at hi; omega
        subst e2
        rw [List.getElem_append_right (Nat.le_refl _)] at hk
        simp only [Nat.sub_self, List.getElem_cons_zero] at hk
        exact .inr (.inl hk)
theorem wpList_app_rowP {ops : Array Oper} {rest : List Oper} {o : Oper} {a : Act} {Q : Exit → Act → World → Prop} (P : Nat → Prop) (B m : Nat) (w : World) (v : Value) (xss : List (List Int)) (u : Value) (xs : List Int) (s x : Operand) (hgd : o.guard = none)
    (ho : o.op = .call { callee := .builtin .append, args := #[s, x], argTypes := #[24, 24] })
    (hs : a.eval s = v) (hown : OwnP B P w v xss) (hP : ∀ b, P b → b < m) (hu : Own m w u xs) (hx : a.eval x = .slice (some ⟨w.heap.size, 0, none⟩) 1 1) (hn : xss.length ≤ 1099511627776) (hB : B ≤ m) (hB2 : B ≤ w.heap.size)
    (h : ∀ g c' w', OwnP B (fun b => P b ∨ u.ownBlock = some b ∨ b = g) w' (.slice (some ⟨g, 0, none⟩) (xss.length + 1) c') (xss ++ [xs]) → Keep (fun b => v.ownBlock = some b) w w' → (v.ownBlock = some g ∨ w.heap.size ≤ g) → wpList Try.prog ops Q rest (a.put o.dst (.slice (some ⟨g, 0, none⟩) (xss.length + 1) c')) w') :
    wpList Try.prog ops Q (o :: rest) a (w.alloc (.cells #[u] 27)) :=
  wpList_plain hgd fun _ hK => wp_app_rowP P B m w v xss u xs s x ho hs hown hP hu hx hn hB hB2 fun g c' w' h2 h3 h4 => hK _ _ (h g c' w' h2 h3 h4)
theorem step_app_rowP {ops : Array Oper} {o : Oper} {a : Act} {K : Act → World → Prop} {Q : Exit → Act → World → Prop} {E : Prop} (P : Nat → Prop) (B m : Nat) (w : World) (v : Value) (xss : List (List Int)) (u : Value) (xs : List Int) (s x : Operand) (hgd : o.guard = none)
    (ho : o.op = .call { callee := .builtin .append, args := #[s, x], argTypes := #[24, 24] })
    (hs : a.eval s = v) (hown : OwnP B P w v xss) (hP : ∀ b, P b → b < m) (hu : Own m w u xs) (hx : a.eval x = .slice (some ⟨w.heap.size, 0, none⟩) 1 1) (hn : xss.length ≤ 1099511627776) (hB : B ≤ m) (hB2 : B ≤ w.heap.size)
    (h : ∀ g c' w', OwnP B (fun b => P b ∨ u.ownBlock = some b ∨ b = g) w' (.slice (some ⟨g, 0, none⟩) (xss.length + 1) c') (xss ++ [xs]) → Keep (fun b => v.ownBlock = some b) w w' → (v.ownBlock = some g ∨ w.heap.size ≤ g) → K (a.put o.dst (.slice (some ⟨g, 0, none⟩) (xss.length + 1) c')) w') :
    if Region.wanted o (yielded ops a.tmps) = true then Oper.wp Try.prog o a (w.alloc (.cells #[u] 27)) K Q else E := by
  have hw : Region.wanted o (yielded ops a.tmps) = true := by simp [Region.wanted, hgd]
  rw [if_pos hw]
  exact wp_app_rowP P B m w v xss u xs s x ho hs hown hP hu hx hn hB hB2 h

/-- A store into an entry. -/
theorem OwnP.put {lo : Nat} {P : Nat → Prop} {w : World} {sa : Option Addr} {n c : Nat} {t : List (List Int)} (h : OwnP lo P w (.slice sa n c) t) {u y m : Nat} (hu : u < t.length) (hm : (row t u).length = m) (hy : y < m) :
    ∃ b g cr z0, sa = some ⟨b, 0, none⟩ ∧ P b ∧ P g ∧ b ≠ g ∧ w.cell? ⟨b, u, none⟩ = some (.slice (some ⟨g, 0, none⟩) m cr) ∧ w.cell? ⟨g, y, none⟩ = some z0 ∧ w.frozen? ⟨g, y, none⟩ = false ∧
      ∀ z : Int, OwnP lo P (w.setCell ⟨g, y, none⟩ (.int .i64 z)) (.slice sa n c) (t.set u ((row t u).set y z)) := by
  obtain ⟨us, h1, h2, h3, h4⟩ := h
  have hul : u < us.length := by rw [h2.len]; exact hu
  obtain ⟨a, c', hv, _, _, hc⟩ := ownsRow_cells h1
  obtain ⟨b, hab, hcell⟩ := hc u hul
  injection hv with e1 e2 e3
  subst e1 hab
  have hrow : t[u] = row t u := (row_nat t u hu).symm
  have hown := h2.own u hul hu
  rcases hown.open with ⟨_, k2⟩ | ⟨g, cs, k1, k2, k3, k4⟩
  · rw [hrow] at k2; rw [k2] at hm; simp at hm; omega
  · have hy' : y < (t[u]).length := by rw [hrow]; omega
    have hv1 : us[u] = .slice (some ⟨g, 0, none⟩) m ((t[u]).length + cs.length) := by rw [k1, hrow, hm]
    have hput := fun z => h2.put hul hu hv1 hy' z
    obtain ⟨p1, p2⟩ := h2.cellAt hul hu hv1 hy'
    have hg := h4 u hul g (by rw [hv1]; rfl)
    have hbg : b ≠ g := by
      obtain ⟨hl, hn | ⟨g', cap, cur, hv', hb', hg', r⟩⟩ := h1
      · simp at hn
      · injection hv' with e1 e2 e3
        injection e1 with e1
        injection e1 with e1
        subst e1
        have := hown.ne (g := b) (t := 27) (cs := cur.toList) (by unfold Blk; simpa using hg') (by decide)
        intro e
        apply this
        rw [hv1, e]; rfl
    refine ⟨b, g, _, _, rfl, h3 b rfl, hg, hbg, by rw [hcell, hv1], p1, p2, fun z => ⟨us, ?_, ?_, h3, h4⟩⟩
    · refine ownsRow_ne h1 hown ?_
      rw [hv1]
      exact keepB _ _ _ _ _ _
    · have := hput z
      rw [hrow] at this; exact this

/-- Two tables apart from each other and from a box q. -/
def TwoP (lo q : Nat) (W : World) (va vb : Value) (X Y : List (List Int)) : Prop :=
  ∃ P1 P2 : Nat → Prop, (∀ b, P1 b → lo ≤ b ∧ b < W.heap.size ∧ b ≠ q ∧ ¬ P2 b) ∧ (∀ b, P2 b → lo ≤ b ∧ b < W.heap.size ∧ b ≠ q) ∧ OwnP lo P1 W va X ∧ OwnP lo P2 W vb Y
theorem TwoP.keep {lo q : Nat} {S : Nat → Prop} {W W' : World} {va vb : Value} {X Y : List (List Int)} (h : TwoP lo q W va vb X Y) (k : Keep S W W') (hS : ∀ b, lo ≤ b → b ≠ q → b < W.heap.size → ¬ S b) : TwoP lo q W' va vb X Y := by
  obtain ⟨P1, P2, h1, h2, o1, o2⟩ := h
  have hs := k.size
  exact ⟨P1, P2, fun b hb => ⟨(h1 b hb).1, by have := (h1 b hb).2.1; omega, (h1 b hb).2.2⟩, fun b hb => ⟨(h2 b hb).1, by have := (h2 b hb).2.1; omega, (h2 b hb).2.2⟩,
    o1.keep k (fun x hx => hS x (h1 x hx).1 (h1 x hx).2.2.1 (h1 x hx).2.1), o2.keep k (fun x hx => hS x (h2 x hx).1 (h2 x hx).2.2 (h2 x hx).2.1)⟩
theorem TwoP.under {lo q : Nat} {W W' : World} {va vb : Value} {X Y : List (List Int)} (h : TwoP lo q W va vb X Y) (hb : Below W.heap.size W W') : TwoP lo q W' va vb X Y :=
  h.keep (S := fun b => W.heap.size ≤ b) (Keep.of_below hb) fun x _ _ x1 x2 => by omega
/-- An entry of each written, first in the first table. -/
theorem TwoP.put {lo q : Nat} {W : World} {sa sb : Option Addr} {n c n' c' : Nat} {X Y : List (List Int)} (h : TwoP lo q W (.slice sa n c) (.slice sb n' c') X Y) {u y m m' : Nat}
    (hu : u < X.length) (hu' : u < Y.length) (hm : (row X u).length = m) (hm' : (row Y u).length = m') (hy : y < m) (hy' : y < m') :
    ∃ b1 g1 r1 b2 g2 r2 z1 z2, sa = some ⟨b1, 0, none⟩ ∧ sb = some ⟨b2, 0, none⟩ ∧ (lo ≤ b1 ∧ lo ≤ g1 ∧ lo ≤ b2 ∧ lo ≤ g2) ∧ (q ≠ b1 ∧ q ≠ g1 ∧ q ≠ b2 ∧ q ≠ g2) ∧ (b1 ≠ g1 ∧ b1 ≠ g2 ∧ b2 ≠ g1 ∧ b2 ≠ g2 ∧ g1 ≠ g2) ∧
      W.cell? ⟨b1, u, none⟩ = some (.slice (some ⟨g1, 0, none⟩) m r1) ∧ W.cell? ⟨b2, u, none⟩ = some (.slice (some ⟨g2, 0, none⟩) m' r2) ∧ W.cell? ⟨g1, y, none⟩ = some z1 ∧ W.frozen? ⟨g1, y, none⟩ = false ∧ 
      (∀ s : Int, (W.setCell ⟨g1, y, none⟩ (.int .i64 s)).cell? ⟨g2, y, none⟩ = some z2 ∧ (W.setCell ⟨g1, y, none⟩ (.int .i64 s)).frozen? ⟨g2, y, none⟩ = false) ∧
      ∀ s t : Int, TwoP lo q ((W.setCell ⟨g1, y, none⟩ (.int .i64 s)).setCell ⟨g2, y, none⟩ (.int .i64 t)) (.slice sa n c) (.slice sb n' c') (X.set u ((row X u).set y s)) (Y.set u ((row Y u).set y t)) := by
  obtain ⟨P1, P2, h1, h2, o1, o2⟩ := h
  obtain ⟨b1, g1, r1, z1, rfl, p1, p3, p5, p6, p7, p8, p9⟩ := o1.put hu hm hy
  obtain ⟨b2, g2, r2, z2, rfl, k1, k3, k5, k6, k7, k8, k9⟩ := o2.put hu' hm' hy'
  have a1 := h1 b1 p1; have a2 := h1 g1 p3; have a3 := h2 b2 k1; have a4 := h2 g2 k3
  have e1 : b1 ≠ g2 := fun e => a1.2.2.2 (e ▸ k3)
  have e2 : b2 ≠ g1 := fun e => a2.2.2.2 (e ▸ k1)
  have e3 : g1 ≠ g2 := fun e => a2.2.2.2 (e ▸ k3)
  have hmid : ∀ s : Int, OwnP lo P2 (W.setCell ⟨g1, y, none⟩ (.int .i64 s)) (.slice (some ⟨b2, 0, none⟩) n' c') Y := fun s => by
    have kk := (Keep.refl (fun x => x = g1) W).setCell (p := ⟨g1, y, none⟩) (.inl rfl) (.int .i64 s)
    exact o2.keep kk (fun x hx e => a2.2.2.2 (e ▸ hx))
  have hmid2 : ∀ s : Int, (W.setCell ⟨g1, y, none⟩ (.int .i64 s)).cell? ⟨g2, y, none⟩ = some z2 ∧ (W.setCell ⟨g1, y, none⟩ (.int .i64 s)).frozen? ⟨g2, y, none⟩ = false ∧ ∀ t : Int, OwnP lo P2 ((W.setCell ⟨g1, y, none⟩ (.int .i64 s)).setCell ⟨g2, y, none⟩ (.int .i64 t)) (.slice (some ⟨b2, 0, none⟩) n' c') (Y.set u ((row Y u).set y t)) := fun s => by
    have kk := (Keep.refl (fun x => x = g1) W).setCell (p := ⟨g1, y, none⟩) (.inl rfl) (.int .i64 s)
    obtain ⟨b2', g2', r2', z2', hb', _, _, _, j6, j7, j8, j9⟩ := (hmid s).put hu' hm' hy'
    have k6' : (W.setCell ⟨g1, y, none⟩ (.int .i64 s)).cell? ⟨b2, u, none⟩ = some (.slice (some ⟨g2, 0, none⟩) m' r2) := (World.cell?_of_block (w := W) (kk.block b2 (cell_lt k6) (by omega))).trans k6
    have k7' : (W.setCell ⟨g1, y, none⟩ (.int .i64 s)).cell? ⟨g2, y, none⟩ = some z2 := (World.cell?_of_block (w := W) (kk.block g2 (cell_lt k7) (by omega))).trans k7
    injection hb' with hb'; injection hb' with hb'; subst hb'
    rw [k6'] at j6
    injection j6 with j6; injection j6 with j6; injection j6 with j6; injection j6 with j6; subst j6
    exact ⟨k7', j8, j9⟩
  refine ⟨b1, g1, r1, b2, g2, r2, z1, z2, rfl, rfl, ⟨a1.1, a2.1, a3.1, a4.1⟩, ⟨a1.2.2.1.symm, a2.2.2.1.symm, a3.2.2.symm, a4.2.2.symm⟩, ⟨p5, e1, e2, k5, e3⟩, p6, k6, p7, p8, fun s => ⟨(hmid2 s).1, (hmid2 s).2.1⟩, ?_⟩
  intro s t
  have kk2 := (Keep.refl (fun x => x = g2) (W.setCell ⟨g1, y, none⟩ (.int .i64 s))).setCell (p := ⟨g2, y, none⟩) (.inl rfl) (.int .i64 t)
  refine ⟨P1, P2, fun b hb => ⟨(h1 b hb).1, by rw [size_set, size_set]; exact (h1 b hb).2.1, (h1 b hb).2.2⟩, fun b hb => ⟨(h2 b hb).1, by rw [size_set, size_set]; exact (h2 b hb).2.1, (h2 b hb).2.2⟩, (p9 s).keep kk2 (fun x hx e => (h1 x hx).2.2.2 (e ▸ k3)), (hmid2 s).2.2 t⟩
end Go.Proofs.Ytkghonhghbcdlaa

namespace Go.Proofs.Ytkghonhghbcdlaa
set_option linter.unusedVariables false
set_option linter.unusedSimpArgs false
open Go.RowKit

def lexS (A B C D : List (List Int)) : Bool := if A = C then lexR B D else lexR A C
def orI (x y : Int) : Int := if x = 0 then y else x
theorem orI_neg {A B C D : List (List Int)} : orI (cmpR A C) (cmpR B D) < 0 ↔ lexS A B C D = true := by
  unfold orI lexS
  by_cases h : A = C
  · rw [if_pos (cmpR_zero.2 h), if_pos h]; exact cmpR_neg
  · rw [if_neg (fun e => h (cmpR_zero.1 e)), if_neg h]; exact cmpR_neg




end Go.Proofs.Ytkghonhghbcdlaa

namespace Go.Proofs.Ytkghonhghbcdlaa
set_option linter.unusedVariables false
set_option linter.unusedSimpArgs false
open Go Go.RowKit

variable {F : Fence} {n : Nat} {P : Program}

/-- The iterator's contract: it hands the rows of T, one after the other, in a slice that lies in blocks [size at its start, hi); between two rounds it writes these blocks alone. J hi k: what the caller keeps when k rows have come. -/
def SeqRows (F : Fence) (n : Nat) (P : Program) (g : Nat) (lb : Array Value) (T : List (List Int)) (w : World) : Prop :=
  ∀ (l : Nat) (J Jx : Nat → Nat → World → Prop) (W1 : World), Below w.heap.size w W1 →
    (∀ hi k W W', J hi k W → Keep (fun b => W1.heap.size ≤ b ∧ b < hi) W W' → J hi k W') →
    (∀ hi k W W', Jx hi k W → Keep (fun b => W1.heap.size ≤ b ∧ b < hi) W W' → Jx hi k W') →
    (∀ W', Below W1.heap.size W1 W' → J W'.heap.size 0 W') →
    (∀ hi k u W, J hi k W → W1.heap.size ≤ hi → hi ≤ W.heap.size → k < T.length → Ints W u (row T k) → YieldAt F (n - 1) P l #[u] W fun e W' =>
      (e = .returned (.bool true) ∧ J hi (k + 1) W' ∧ Keep (fun b => b < W1.heap.size ∨ hi ≤ b) W W') ∨ (e = .returned (.bool false) ∧ Jx hi (k + 1) W')) →
    CallsIn F n P g (#[.func (.yield l) #[] #[]] ++ lb) W1 fun e W' => (∃ v, e = .returned v) ∧ ((∃ hi, J hi T.length W') ∨ (∃ hi k, Jx hi k W'))

def rowsPost (S0 : Nat → Prop) (I : Nat → Nat → World → Prop) (Ix : Code → Nat → Nat → World → Prop) (hi k : Nat) (W : World) : Exit → Act → World → Prop
  | .normal, _, W' => Keep (fun b => S0 b ∨ hi ≤ b) W W' ∧ I hi k W'
  | .ret, _, W' => Keep (fun b => S0 b ∨ hi ≤ b) W W' ∧ Ix .ret hi k W'
  | .exit id, _, W' => Keep (fun b => S0 b ∨ hi ≤ b) W W' ∧ Ix (.exit id) hi k W'
  | .goto t, _, W' => Keep (fun b => S0 b ∨ hi ≤ b) W W' ∧ Ix (.goto t) hi k W'
  | .panic _, _, _ => False
  | .outgrown, _, _ => False

theorem keep_putObj (W : World) (l : Nat) (o : Obj) : Keep (fun b => b = l) W (W.putObj l o) :=
  (Keep.of_grown (grownBy_putObj' W l o)).mono fun k _ h => by cases h; rfl

theorem wpIn_rangeFunc_rows {g : Operand} {ps : Array Tmp} {assign body : Code} {Q : Exit → Act → World → Prop} {a : Act} {w : World}
    (hro : F.round = none) (h1 : 1 ≤ n) {gf : Nat} {lb : Array Value} (hg : a.eval g = .func (.func gf) #[] lb) (hFg : F.fn gf) (eg : ∀ args w, (callFunc gf args).run P w = .ok (.enter gf args) w)
    (S0 : Nat → Prop) (hS0 : ∀ b, S0 b → b < w.heap.size) {T : List (List Int)} (hseq : SeqRows F (n - 1) P gf lb T w) (hps : ps.size = 1)
    (I : Nat → Nat → World → Prop) (Ix : Code → Nat → Nat → World → Prop)
    (hI : ∀ hi k W W', I hi k W → Keep (fun b => w.heap.size ≤ b ∧ b < hi) W W' → I hi k W')
    (hIx : ∀ c hi k W W', Ix c hi k W → Keep (fun b => w.heap.size ≤ b ∧ b < hi) W W' → Ix c hi k W')
    (h0 : ∀ W', Below w.heap.size w W' → I W'.heap.size 0 W') (a₁ : Value → Act)
    (hassign : ∀ (l : Nat) (u : Value) (W : World) (K : Act → World → Prop), K (a₁ u) W →
      assign.wpIn (F.inRound l) (n - 1 - 1) P (Exit.then K (fun _ _ _ => False)) { tmps := (ps.zip #[u]).foldl (fun t (p, v) => t.setIfInBounds p v) a.tmps, defers := [] } W)
    (hbody : ∀ (l hi k : Nat) (u : Value) (W : World), I hi k W → w.heap.size ≤ hi → hi ≤ W.heap.size → k < T.length → Ints W u (row T k) → body.wpIn (F.inRound l) (n - 1 - 1) P (rowsPost S0 I Ix hi (k + 1) W) (a₁ u) W)
    (hdone : ∀ (D hi : Nat) (W : World), w.heap.size ≤ D → D < hi → I hi T.length W → W.heap[D]? = some (.deferred (some [])) → Q .normal { a with defers := { target := .collected D, args := #[] } :: a.defers } W)
    (hstop : ∀ (D hi k : Nat) (c : Code) (W : World), w.heap.size ≤ D → D < hi → Ix c hi k W → W.heap[D]? = some (.deferred (some [])) → c.wpIn F n P Q { a with defers := { target := .collected D, args := #[] } :: a.defers } W) :
    (Code.rangeFunc g ps assign body).wpIn F n P Q a w := by
  refine wpIn_rangeFunc ?_
  intro fn hfn
  rw [hro]
  obtain ⟨rec, hrec⟩ : ∃ rec : LoopState → Option Code → Loop, rec = fun st pe => { state := st, pending := pe, fn, tmps := a.tmps, params := ps, assign, body, defers := w.heap.size } := ⟨_, rfl⟩
  obtain ⟨W1, hW1⟩ : ∃ W1, (w.alloc (.deferred (some []))).alloc (.loop (rec .ready none)) = W1 := ⟨_, rfl⟩
  have hL1 : W1.heap[w.heap.size + 1]? = some (.loop (rec .ready none)) := by
    rw [← hW1]; have := World.alloc_heap_new (w.alloc (.deferred (some []))) (.loop (rec .ready none)); rwa [World.size_alloc] at this
  have hK1 : W1.heap[w.heap.size]? = some (.deferred (some [])) := by
    rw [← hW1]; exact (Below.heap_alloc _ _ _ (by simp)).trans (World.alloc_heap_new w _)
  have hsz : W1.heap.size = w.heap.size + 2 := by rw [← hW1]; simp
  have hb1 : Below w.heap.size w W1 := by
    rw [← hW1]; exact ((Below.refl _ w).alloc (Nat.le_refl _) _).alloc (by simp) _
  refine ⟨w.heap.size + 1, [{ target := .collected w.heap.size, args := #[] }], W1, { target := .fn (.func gf) lb, args := #[.func (.yield (w.heap.size + 1)) #[] #[]] }, W1, gf,
    #[.func (.yield (w.heap.size + 1)) #[] #[]] ++ lb, W1, ?_, ?_, ?_, ?_, fun _ => h1, ?_⟩
  · rw [← hW1, hrec]; exact run_enterLoop_outer _ _ _ _ _
  · simp only [resolve, hg]
    simp [go_sem]
  · intro f' hf'; simp [Target.leads] at hf'; subst hf'; exact hFg
  · simp [invoke, go_sem, eg]
  · have stepI : ∀ {hi k : Nat} {W : World} (o : Obj), w.heap.size + 2 ≤ hi → I hi k W → I hi k (W.putObj (w.heap.size + 1) o) := fun o hh h =>
      hI _ _ _ _ h ((keep_putObj _ _ _).mono fun b _ e => by subst e; omega)
    have stepIx : ∀ {c : Code} {hi k : Nat} {W : World} (o : Obj), w.heap.size + 2 ≤ hi → Ix c hi k W → Ix c hi k (W.putObj (w.heap.size + 1) o) := fun o hh h =>
      hIx _ _ _ _ _ h ((keep_putObj _ _ _).mono fun b _ e => by subst e; omega)
    have keptAt : ∀ {hi b : Nat} {W W' : World}, b < W1.heap.size → W1.heap.size ≤ W.heap.size → Keep (fun b => W1.heap.size ≤ b ∧ b < hi) W W' → W'.heap[b]? = W.heap[b]? := fun hb hW hk =>
      hk.block _ (by omega) (by omega)
    refine (hseq (w.heap.size + 1)
      (fun hi k W => I hi k W ∧ W.heap[w.heap.size + 1]? = some (.loop (rec .ready none)) ∧ W.heap[w.heap.size]? = some (.deferred (some [])) ∧ w.heap.size + 2 ≤ hi ∧ W1.heap.size ≤ W.heap.size)
      (fun hi k W => ∃ c, Ix c hi k W ∧ W.heap[w.heap.size + 1]? = some (.loop (rec .done (some c))) ∧ W.heap[w.heap.size]? = some (.deferred (some [])) ∧ w.heap.size + 2 ≤ hi ∧ W1.heap.size ≤ W.heap.size)
      W1 hb1 ?_ ?_ ?_ ?_).mono ?_
    · rintro hi k W W' ⟨h, hl, hk, hh, hs⟩ hkeep
      exact ⟨hI _ _ _ _ h (hkeep.mono fun b _ hb => ⟨by omega, hb.2⟩), (keptAt (by omega) hs hkeep).trans hl, (keptAt (by omega) hs hkeep).trans hk, hh, Nat.le_trans hs hkeep.size⟩
    · rintro hi k W W' ⟨c, h, hl, hk, hh, hs⟩ hkeep
      exact ⟨c, hIx _ _ _ _ _ h (hkeep.mono fun b _ hb => ⟨by omega, hb.2⟩), (keptAt (by omega) hs hkeep).trans hl, (keptAt (by omega) hs hkeep).trans hk, hh, Nat.le_trans hs hkeep.size⟩
    · intro W' hb
      exact ⟨h0 W' (bb hb1 hb), (hb.block _ (by omega)).trans hL1, (hb.block _ (by omega)).trans hK1, by have := hb.size; omega, hb.size⟩
    · -- ONE ROUND
      rintro hi k u W ⟨hi0, hl, hk, hh, hs⟩ hlo hhi hlen hu
      have hlt : w.heap.size + 1 < W.heap.size := (Array.getElem?_eq_some_iff.1 hl).1
      have hy := run_yield (P := P) (args := #[u]) hl (by rw [hrec]; simpa using hps.symm)
      rw [hrec] at hy
      refine ⟨fn, _, assign, body, hy, roundIn_of_wpIn hfn (hassign _ u W _ ⟨_, run_beginRound hl (by rw [hrec]), ?_⟩)⟩
      obtain ⟨W2, hW2⟩ : ∃ W2, W.putObj (w.heap.size + 1) (.loop { rec .ready none with state := .busy }) = W2 := ⟨_, rfl⟩
      have hl2 : W2.heap[w.heap.size + 1]? = some (.loop { rec .ready none with state := .busy }) := by rw [← hW2]; exact World.putObj_heap_same hlt
      have hk2 : W2.heap[w.heap.size]? = some (.deferred (some [])) := by rw [← hW2]; exact (World.putObj_heap_other (by omega)).trans hk
      have kp2 : Keep (fun b => b = w.heap.size + 1) W W2 := by rw [← hW2]; exact keep_putObj _ _ _
      have hi2 : I hi k W2 := by rw [← hW2]; exact stepI _ hh hi0
      have hu2 : Ints W2 u (row T k) := by
        obtain ⟨ua, uc, hv, huc, hum, hcell⟩ := hu
        refine ⟨ua, uc, hv, huc, hum, fun i hi' => ?_⟩
        obtain ⟨b, o, e, hc⟩ := hcell i hi'
        refine ⟨b, o, e, ?_⟩
        have hb : b ≠ w.heap.size + 1 := by
          rintro rfl
          simp [World.cell?, hl] at hc
        have hblt : b < W.heap.size := by
          rcases Nat.lt_or_ge b W.heap.size with h | h
          · exact h
          · simp [World.cell?, Array.getElem?_eq_none h] at hc
        simp only [World.cell?] at hc ⊢
        rw [kp2.block b hblt hb]
        exact hc
      rw [hW2]
      refine wpIn_mono (hbody _ hi k u W2 hi2 (by omega) (Nat.le_trans hhi kp2.size) hlen hu2) ?_
      have fin : ∀ (jump : Option Code) (W3 : World), Keep (fun b => S0 b ∨ hi ≤ b) W2 W3 →
          (Instr.endRound (w.heap.size + 1) jump).run P W3 = .ok (.bool jump.isNone) (W3.putObj (w.heap.size + 1) (.loop (rec (if jump.isNone then .ready else .done) jump))) ∧
          (W3.putObj (w.heap.size + 1) (.loop (rec (if jump.isNone then .ready else .done) jump))).heap[w.heap.size + 1]? = some (.loop (rec (if jump.isNone then .ready else .done) jump)) ∧
          (W3.putObj (w.heap.size + 1) (.loop (rec (if jump.isNone then .ready else .done) jump))).heap[w.heap.size]? = some (.deferred (some [])) ∧ W1.heap.size ≤ (W3.putObj (w.heap.size + 1) (.loop (rec (if jump.isNone then .ready else .done) jump))).heap.size ∧
          Keep (fun b => b < W1.heap.size ∨ hi ≤ b) W (W3.putObj (w.heap.size + 1) (.loop (rec (if jump.isNone then .ready else .done) jump))) := fun jump W3 hk3 => by
        have hno : ∀ b, w.heap.size ≤ b → b < w.heap.size + 2 → ¬ (S0 b ∨ hi ≤ b) := fun b h1 h2 h => by
          rcases h with h | h
          · have := hS0 b h; omega
          · omega
        have hsz2 : W2.heap.size = W.heap.size := by rw [← hW2]; simp [World.putObj]
        have hl3 := (hk3.block (w.heap.size + 1) (by omega) (hno _ (by omega) (by omega))).trans hl2
        have hd3 := (hk3.block (w.heap.size) (by omega) (hno _ (by omega) (by omega))).trans hk2
        have := run_endRound (P := P) jump hl3
        rw [hrec] at this ⊢
        refine ⟨this, World.putObj_heap_same (Array.getElem?_eq_some_iff.1 hl3).1, (World.putObj_heap_other (by omega)).trans hd3, Nat.le_trans hs (Nat.le_trans kp2.size (Nat.le_trans hk3.size (keep_putObj _ _ _).size)), ?_⟩
        refine ((kp2.mono (fun b _ e => ?_)).trans (hk3.mono (fun b _ e => ?_))).trans ((keep_putObj _ _ _).mono (fun b _ e => ?_))
        · exact .inl (by subst e; omega)
        · rcases e with e | e
          · exact .inl (by have := hS0 b e; omega)
          · exact .inr e
        · exact .inl (by subst e; omega)
      rintro e a3 W3 hp
      cases e with
      | normal =>
        obtain ⟨hk3, hi3⟩ := hp
        obtain ⟨hr, hl4, hk4, hs4, hkk⟩ := fin none W3 hk3
        exact ⟨_, _, hr, .inl ⟨rfl, ⟨stepI _ hh hi3, hl4, hk4, hh, hs4⟩, hkk⟩⟩
      | ret =>
        obtain ⟨hk3, hi3⟩ := hp
        obtain ⟨hr, hl4, hk4, hs4, hkk⟩ := fin (some .ret) W3 hk3
        exact ⟨_, _, hr, .inr ⟨rfl, .ret, stepIx _ hh hi3, hl4, hk4, hh, hs4⟩⟩
      | exit id =>
        obtain ⟨hk3, hi3⟩ := hp
        obtain ⟨hr, hl4, hk4, hs4, hkk⟩ := fin (some (.exit id)) W3 hk3
        exact ⟨_, _, hr, .inr ⟨rfl, .exit id, stepIx _ hh hi3, hl4, hk4, hh, hs4⟩⟩
      | goto t =>
        obtain ⟨hk3, hi3⟩ := hp
        obtain ⟨hr, hl4, hk4, hs4, hkk⟩ := fin (some (.goto t)) W3 hk3
        exact ⟨_, _, hr, .inr ⟨rfl, .goto t, stepIx _ hh hi3, hl4, hk4, hh, hs4⟩⟩
      | panic ch => exact hp.elim
      | outgrown => exact hp.elim
    · -- BEHIND THE ITERATOR
      rintro e W2 ⟨⟨v, rfl⟩, (⟨hi, h, hl, hk, hh, hs⟩ | ⟨hi, k, c, h, hl, hk, hh, hs⟩)⟩
      · exact ⟨none, _, by have := run_endLoop (P := P) hl (by rw [hrec]; simp); rw [hrec] at this; exact this, hdone _ hi _ (Nat.le_refl _) (by omega) (stepI _ hh h) ((World.putObj_heap_other (by omega)).trans hk)⟩
      · exact ⟨some c, _, by have := run_endLoop (P := P) hl (by rw [hrec]; simp); rw [hrec] at this; exact this, hstop _ hi k c _ (Nat.le_refl _) (by omega) (stepIx _ hh h) ((World.putObj_heap_other (by omega)).trans hk)⟩
end Go.Proofs.Ytkghonhghbcdlaa

namespace Go.Proofs.Ytkghonhghbcdlaa
set_option linter.unusedVariables false
set_option linter.unusedSimpArgs false
open Go.RowKit

theorem rowOf_set (n : Nat) (g : Int → Int) (k : Nat) (v : Int) : (rowOf n g).set k v = rowOf n (fun x => if x = k then v else g x) := by
  apply List.ext_getElem (by simp)
  intro i h1 h2
  have hi : i < n := by simpa using h2
  rw [List.getElem_set]
  simp only [rowOf, List.getElem_map, List.getElem_range]
  by_cases e : k = i
  · subst e; simp
  · rw [if_neg e, if_neg (by omega)]
/-- The list after r exchanges. -/
def revG (mid : List Int) (r : Nat) (x : Int) : Int := if x < r ∨ (mid.length : Int) - r ≤ x then nth mid (mid.length - 1 - x) else nth mid x
theorem revG_zero (mid : List Int) : rowOf mid.length (revG mid 0) = mid := by
  apply ext_nth (by simp)
  intro k hk
  have hk' : k < mid.length := by simpa using hk
  rw [nth_rowOf _ _ _ hk']
  unfold revG
  rw [if_neg (by omega)]
theorem revG_done (mid : List Int) (r : Nat) (h : (mid.length : Int) - 1 - r ≤ r) : rowOf mid.length (revG mid r) = mid.reverse := by
  apply ext_nth (by simp)
  intro k hk
  have hk' : k < mid.length := by simpa using hk
  rw [nth_rowOf _ _ _ hk', nth_nat _ _ (by simpa using hk'), List.getElem_reverse]
  have e : nth mid ((mid.length : Int) - 1 - k) = mid[mid.length - 1 - k] := by
    rw [show (mid.length : Int) - 1 - k = ((mid.length - 1 - k : Nat) : Int) from by omega, nth_nat]
  unfold revG
  by_cases c : (k : Int) < r ∨ (mid.length : Int) - r ≤ k
  · rw [if_pos c, e]
  · rw [if_neg c]
    have : (k : Int) = (mid.length : Int) - 1 - k := by omega
    rw [this, e]
theorem revG_step (mid : List Int) (r q : Nat) (hq : (q : Int) = (mid.length : Int) - 1 - r) (hlt : r < q) :
    rowOf mid.length (fun x => if x = q then revG mid r r else if x = r then revG mid r q else revG mid r x) = rowOf mid.length (revG mid (r + 1)) := by
  apply rowOf_congr
  intro y hy
  have e1 : revG mid r r = nth mid r := by unfold revG; rw [if_neg (by omega)]
  have e2 : revG mid r q = nth mid q := by unfold revG; rw [if_neg (by omega)]
  by_cases c1 : (y : Int) = q
  · rw [if_pos c1, e1]
    unfold revG
    rw [if_pos (by omega)]
    congr 1; omega
  · rw [if_neg c1]
    by_cases c2 : (y : Int) = r
    · rw [if_pos c2, e2]
      unfold revG
      rw [if_pos (by omega)]
      congr 1; omega
    · rw [if_neg c2]
      unfold revG
      by_cases c3 : (y : Int) < r ∨ (mid.length : Int) - r ≤ y
      · rw [if_pos c3, if_pos (by omega)]
      · rw [if_neg c3, if_neg (by omega)]

/-- The cell of the middle part of a block. -/
theorem Blk.mid {w : World} {b : Nat} {t : TypeId} {pre post : List Value} {m : Nat} {g : Int → Int} (h : Blk w b t (pre ++ ((rowOf m g).map (Value.int .i64) ++ post))) {o : Nat} (ho : o = pre.length) (k : Nat) (hk : k < m) :
    w.cell? ⟨b, o + k, none⟩ = some (.int .i64 (g k)) := by
  subst ho
  rw [h.cell (by simp; omega), List.getElem_append_right (by omega), List.getElem_append_left (by simp; omega)]
  simp [rowOf]
theorem Blk.midSet {w : World} {b : Nat} {t : TypeId} {pre post : List Value} {m : Nat} {g : Int → Int} (h : Blk w b t (pre ++ ((rowOf m g).map (Value.int .i64) ++ post))) {o : Nat} (ho : o = pre.length) (k : Nat) (hk : k < m) (v : Int) :
    Blk (w.setCell ⟨b, o + k, none⟩ (.int .i64 v)) b t (pre ++ ((rowOf m (fun x => if x = k then v else g x)).map (Value.int .i64) ++ post)) := by
  have := h.set (o + k) (.int .i64 v)
  subst ho
  rw [List.set_append, if_neg (by omega), show pre.length + k - pre.length = k from by omega, List.set_append, if_pos (by simp; omega), ← List.map_set, rowOf_set] at this
  exact this


theorem split_at (p : List Int) (m q : Nat) (h1 : m < q) (h2 : q < p.length) :
    ∃ (u d1 d2 : List Int) (a b : Int), p = u ++ a :: (d1 ++ b :: d2) ∧ u.length = m ∧ d1.length = q - m - 1 ∧ a = nth p m ∧ b = nth p q ∧ ∀ x ∈ d2, ∃ j : Nat, q < j ∧ j < p.length ∧ nth p j = x := by
  refine ⟨p.take m, (p.drop (m + 1)).take (q - m - 1), p.drop (q + 1), nth p m, nth p q, ?_, by simp; omega, by simp; omega, rfl, rfl, fun x hx => ?_⟩
  · have e1 : p = p.take m ++ p.drop m := (List.take_append_drop m p).symm
    have e2 : p.drop m = nth p m :: p.drop (m + 1) := by rw [List.drop_eq_getElem_cons (by omega), nth_nat _ _ (by omega)]
    have e3 : p.drop (m + 1) = (p.drop (m + 1)).take (q - m - 1) ++ (p.drop (m + 1)).drop (q - m - 1) := (List.take_append_drop _ _).symm
    have e4 : (p.drop (m + 1)).drop (q - m - 1) = nth p q :: p.drop (q + 1) := by
      rw [List.drop_drop, show m + 1 + (q - m - 1) = q from by omega, List.drop_eq_getElem_cons h2, nth_nat _ _ h2]
    rw [e4] at e3
    rw [e3] at e2
    rw [e2] at e1
    exact e1
  · obtain ⟨k, hk, rfl⟩ := List.getElem_of_mem hx
    have hk' : q + 1 + k < p.length := by simp at hk; omega
    refine ⟨q + 1 + k, by omega, hk', ?_⟩
    rw [nth_nat _ _ hk', List.getElem_drop]
theorem swap_split {p u d1 d2 : List Int} {a b : Int} {m q : Nat} (hpe : p = u ++ a :: (d1 ++ b :: d2)) (hu : u.length = m) (hd : d1.length = q - m - 1) (h : m < q) :
    ((p.map (Value.int .i64)).set m (.int .i64 b)).set q (.int .i64 a) = (u ++ [b]).map (Value.int .i64) ++ ((d1 ++ a :: d2).map (Value.int .i64) ++ []) := by
  subst hpe hu
  obtain rfl : q = u.length + (d1.length + 1) := by omega
  simp [List.set_append]
theorem drop_split {p u r : List Int} {a : Int} {m : Nat} (hpe : p = u ++ a :: r) (hu : u.length = m) : p.drop (m + 1) = r := by
  subst hpe hu
  rw [List.drop_append, List.drop_of_length_le (by omega), show u.length + 1 - u.length = 1 from by omega]
  rfl

def NextPost (b : Nat) (p : List Int) (w0 : World) (e : Ending) (w' : World) : Prop :=
  (∃ q, IsNext p q ∧ e = .returned (.bool true) ∧ Blk w' b 2 (q.map (Value.int .i64)) ∧ Keep (fun x => x = b) w0 w') ∨ (Desc p ∧ e = .returned (.bool false) ∧ Keep (fun x => x = b) w0 w')
theorem desc_step {p : List Int} {m : Nat} (h : m + 1 < p.length) (hd : Desc (p.drop (m + 1))) (hgt : nth p (m + 1 : Nat) < nth p m) : Desc (p.drop m) := by
  rw [List.drop_eq_getElem_cons (by omega)]
  refine List.pairwise_cons.2 ⟨fun x hx => ?_, hd⟩
  have h0 := hd
  rw [List.drop_eq_getElem_cons h] at hx h0
  rw [nth_nat _ _ h, nth_nat _ _ (by omega)] at hgt
  rcases List.mem_cons.1 hx with e | e
  · subst e; exact hgt
  · have := (List.pairwise_cons.1 h0).1 x e; omega

end Go.Proofs.Ytkghonhghbcdlaa

namespace Go.Proofs.Ytkghonhghbcdlaa
set_option linter.unusedVariables false
set_option linter.unusedSimpArgs false
open Go Go.RowKit Go.Shelf
attribute [local go_sem] Oper.semAt_some

end Go.Proofs.Ytkghonhghbcdlaa

namespace Go.Proofs.Ytkghonhghbcdlaa
set_option linter.unusedVariables false
set_option linter.unusedSimpArgs false
open Go.RowKit

theorem Keep.chain {S T : Nat → Prop} {w w1 w2 : World} (h1 : Keep S w w1) (h2 : Keep T w1 w2) (hT : ∀ b, b < w.heap.size → T b → S b) : Keep S w w2 :=
  ⟨h2.os.trans h1.os, h2.tape.trans h1.tape, h2.output.trans h1.output, Nat.le_trans h1.size h2.size, fun k hk hn => (h2.block k (Nat.lt_of_lt_of_le hk h1.size) (fun h => hn (hT k hk h))).trans (h1.block k hk hn)⟩
theorem Own.keepR {B B0 : Nat} {w w' : World} {u v : Value} {xs : List Int} {yss : List (List Int)} (h : Own B w u xs) (hv : OwnRows B0 w v yss) (k : Keep (fun b => v.ownBlock = some b) w w') : Own B w' u xs := by
  obtain ⟨us', h3, h4⟩ := hv
  obtain ⟨hl, hn' | ⟨g, cap, cur, hv5, hbg, hg, r⟩⟩ := h
  · exact ⟨hl, .inl hn'⟩
  · refine ⟨hl, .inr ⟨g, cap, cur, hv5, hbg, ?_, r⟩⟩
    rw [k.block g (Array.getElem?_eq_some_iff.1 hg).1 ?_]; exact hg
    intro e
    obtain ⟨_, hnn | ⟨g', cap', cur', hv', _, hg', _⟩⟩ := h3
    · rw [hnn.1] at e; cases e
    · rw [hv'] at e
      simp [Value.ownBlock] at e
      subst e
      rw [hg] at hg'
      simp at hg'

def partG (n m : Nat) (start : List Int) (k : Nat) : List (List Int) := ((iota k).filter fun x => decide (¬ x ∈ start)).flatMap fun x => growL n m (start ++ [x])
theorem partG_succ (n m : Nat) (start : List Int) (k : Nat) : partG n m start (k + 1) = partG n m start k ++ (if (k : Int) ∈ start then [] else growL n m (start ++ [(k : Int)])) := by
  unfold partG
  rw [show iota (k + 1) = iota k ++ [(k : Int)] from by simp [iota, List.range_succ], List.filter_append, List.flatMap_append]
  congr 1
  by_cases h : (k : Int) ∈ start
  · simp [h]
  · simp [h]
theorem partG_mono (n m : Nat) (start : List Int) (k : Nat) : ∀ d, (partG n m start k).length ≤ (partG n m start (k + d)).length
  | 0 => Nat.le_refl _
  | d + 1 => by
    have := partG_mono n m start k d
    rw [← Nat.add_assoc, partG_succ, List.length_append]; omega
theorem partG_le {n m : Nat} {start : List Int} {k : Nat} (h : k ≤ n) : (partG n m start k).length ≤ (growL n (m + 1) start).length := by
  have := partG_mono n m start k (n - k)
  rw [show k + (n - k) = n from by omega] at this
  exact this

def GrowPost (w : World) (v : Value) (B : Nat) (ys : List (List Int)) (e : Ending) (w' : World) : Prop :=
  ∃ r, e = .returned r ∧ OwnRows B w' r ys ∧ Keep (fun b => v.ownBlock = some b) w w' ∧ ∀ b, r.ownBlock = some b → v.ownBlock = some b ∨ w.heap.size ≤ b


theorem growL_length (n : Nat) : ∀ (m : Nat) (start : List Int), (growL n m start).length ≤ n ^ m
  | 0, start => by simp [growL]
  | m + 1, start => by
    have h : ∀ k, (partG n m start k).length ≤ k * n ^ m := by
      intro k
      induction k with
      | zero => simp [partG, iota]
      | succ k ih =>
        rw [partG_succ, List.length_append, Nat.add_mul, Nat.one_mul]
        have : (if (k : Int) ∈ start then [] else growL n m (start ++ [(k : Int)])).length ≤ n ^ m := by
          split
          · simp
          · exact growL_length n m _
        omega
    have := h n
    rw [Nat.pow_succ, Nat.mul_comm]
    exact this
theorem allPerms_le {n : Nat} (h : n ≤ 7) : (allPerms n).length ≤ 823543 := by
  refine Nat.le_trans (growL_length n n []) ?_
  have h1 : n ^ n ≤ 7 ^ n := Nat.pow_le_pow_left h n
  have h2 : 7 ^ n ≤ 7 ^ 7 := Nat.pow_le_pow_right (by omega) h
  omega

end Go.Proofs.Ytkghonhghbcdlaa

namespace Go.Proofs.Ytkghonhghbcdlaa
set_option linter.unusedVariables false
set_option linter.unusedSimpArgs false
open Go Go.RowKit Go.Shelf
attribute [local go_sem] Oper.semAt_some


theorem stepIn_append {F : Fence} {n : Nat} {P : Program} {ops : Array Oper} {o : Oper} {a : Act} {K : Act → World → Prop} {Q : Exit → Act → World → Prop} {E : Prop} {W W' : World} {v' : Value} (hgd : o.guard = none) (hF : ∀ f, F.fn f) (s x : Operand) (t : TypeId)
    (ho : o.op = .call { callee := .builtin .append, args := #[s, x], argTypes := #[t, t] }) (hrun : (Builtin.append_ #[t, t] o.type #[a.eval s, a.eval x]).run P W = .ok v' W') (h : K (a.put o.dst v') W') :
    if Region.wanted o (yielded ops a.tmps) = true then Oper.wpIn F n P o a W K Q else E := by
  have hw : Region.wanted o (yielded ops a.tmps) = true := by simp [Region.wanted, hgd]
  rw [if_pos hw]
  refine ⟨fun f _ => hF f, ?_⟩
  rw [Oper.semAt_eq _ _ _ (by rw [ho]; intro c hc; cases hc)]
  unfold execOp
  simp only [ho, resolve, invoke, builtin, Sem.run_bind, Sem.run_pure, Result.andThen_ok, List.map_toArray, List.map_cons, List.map_nil, hrun]
  exact h

/-- 'append(s, u)' of one row: the run. -/
theorem run_app_row2 (B m : Nat) (w : World) (ty : TypeId) (v : Value) (xss : List (List Int)) (u : Value) (xs : List Int) (hown : OwnRowsIn B m w v xss) (hu : Own m w u xs) (hn : xss.length ≤ 1099511627776) (hB : B ≤ m) (hB2 : B ≤ w.heap.size) :
    ∃ g c' w', (Builtin.append_ #[24, 24] ty #[v, .slice (some ⟨w.heap.size, 0, none⟩) 1 1]).run Try.prog (w.alloc (.cells #[u] 27)) = .ok (.slice (some ⟨g, 0, none⟩) (xss.length + 1) c') w' ∧ OwnRows B w' (.slice (some ⟨g, 0, none⟩) (xss.length + 1) c') (xss ++ [xs]) ∧ Keep (fun b => v.ownBlock = some b) w w' := by
  obtain ⟨us, h1, h2, _, hlt⟩ := hown
  have h2' := rowvals_snoc h2 hlt hu hB
  have hlen := h2.len
  obtain ⟨ua, uc, hu1, _⟩ := hu.shape
  obtain ⟨i0, hi, hz0, hz1, hz2⟩ := info_parts inf_ints
  obtain ⟨g, cap, w', hr, h3, h4, h5, _⟩ := run_append_lies (P := Try.prog) (w.alloc (.cells #[u] 27)) 24 ty B 27 i0 (.slice none 0 0) 1 24 Try.underlying24 hi hz0 hz1 hz2 rfl (by decide) v us.length us (h1.alloc _) ⟨w.heap.size, 0, none⟩ 1 1 [u] rfl
    (by
      intro j u' hj
      match j, hj with
      | 0, hj => simp at hj; subst hj; simp [Addr.add])
    (by intro u' hu'; simp at hu'; subst hu'; subst hu1; rfl) (by decide) (by unfold maxLen; omega) (by omega) (by simp; omega) (w.heap.size + 1) (by simp)
  have hk := Keep.of_grown h4
  have hk2 : Keep (fun b => v.ownBlock = some b) w w' := ((Keep.refl _ w).alloc _).trans hk
  rw [hlen] at h3 hr
  exact ⟨g, cap, w', hr, ⟨us ++ [u], by simpa [hlen] using h3, rowvals_keepT h2' h1 hk2⟩, hk2⟩

end Go.Proofs.Ytkghonhghbcdlaa

namespace Go.Proofs.Ytkghonhghbcdlaa
set_option linter.unusedVariables false
set_option linter.unusedSimpArgs false
open Go Go.RowKit Go.Shelf
attribute [local go_sem] Oper.semAt_some

abbrev Tabs := List (List Int) × List (List Int)
def stepS (A B : List (List Int)) (X : Tabs) (p : List Int) : Tabs := if lexS (renL A p) (renL B p) X.1 X.2 then (renL A p, renL B p) else X
def bestS (A B : List (List Int)) (X : Tabs) (ps : List (List Int)) : Tabs := ps.foldl (stepS A B) X
theorem bestS_snoc (A B : List (List Int)) (X : Tabs) (ps : List (List Int)) (k : Nat) (h : k < ps.length) : bestS A B X (ps.take (k + 1)) = stepS A B (bestS A B X (ps.take k)) (row ps k) := by
  unfold bestS; rw [take_snoc_row _ _ h, List.foldl_append]; rfl
theorem bestS_len {A B : List (List Int)} (hl : B.length = A.length) : ∀ (X : Tabs) (ps : List (List Int)), X.1.length = A.length → X.2.length = A.length → (bestS A B X ps).1.length = A.length ∧ (bestS A B X ps).2.length = A.length
  | X, [], h1, h2 => ⟨h1, h2⟩
  | X, p :: ps, h1, h2 => by
    unfold bestS; rw [List.foldl_cons]
    refine bestS_len hl _ ps ?_ ?_
    · unfold stepS; split
      · simp
      · exact h1
    · unfold stepS; split
      · simpa using hl
      · exact h2
theorem lexS_pos {X P Y Q : List (List Int)} (h : 0 < cmpR X Y) : lexS X P Y Q = false := by
  unfold lexS
  have h1 : X ≠ Y := fun e => by rw [cmpR_zero.2 e] at h; omega
  rw [if_neg h1]
  cases e : lexR X Y with
  | false => rfl
  | true => have := cmpR_neg.2 e; omega
theorem lexS_neg {X P Y Q : List (List Int)} (h : cmpR X Y < 0) : lexS X P Y Q = true := by
  unfold lexS
  have h1 : X ≠ Y := fun e => by rw [cmpR_zero.2 e] at h; omega
  rw [if_neg h1, cmpR_neg.1 h]
def lsSA (A B : List (List Int)) : List (List Int) := (bestS A B (A, B) (allPerms A.length)).1
def lsSB (A B : List (List Int)) : List (List Int) := (bestS A B (A, B) (allPerms A.length)).2

/-- The best pair so far: made ahead of the loop (below m), or behind hi. -/
def BestP (lo m hi : Nat) (W : World) (va vb : Value) (X Y : List (List Int)) : Prop :=
  ∃ l1 h1 l2 h2, lo ≤ l1 ∧ lo ≤ l2 ∧ (h1 ≤ l2 ∨ h2 ≤ l1) ∧ ((h1 ≤ m ∧ h2 ≤ m) ∨ (hi ≤ l1 ∧ hi ≤ l2)) ∧ h1 ≤ W.heap.size ∧ h2 ≤ W.heap.size ∧ OwnRowsIn l1 h1 W va X ∧ OwnRowsIn l2 h2 W vb Y
theorem BestP.keep {lo m hi : Nat} {S : Nat → Prop} {W W' : World} {va vb : Value} {X Y : List (List Int)} (h : BestP lo m hi W va vb X Y) (k : Keep S W W') (h1 : ∀ b, b < m → ¬ S b) (h2 : ∀ b, hi ≤ b → ¬ S b) : BestP lo m hi W' va vb X Y := by
  obtain ⟨l1, g1, l2, g2, a, b, c, d, e, f, o1, o2⟩ := h
  have hs := k.size
  refine ⟨l1, g1, l2, g2, a, b, c, d, by omega, by omega, o1.keep k ?_, o2.keep k ?_⟩
  · intro x x1 x2
    rcases d with d | d
    · exact h1 x (by omega)
    · exact h2 x (by omega)
  · intro x x1 x2
    rcases d with d | d
    · exact h1 x (by omega)
    · exact h2 x (by omega)
theorem BestP.under {lo m hi : Nat} {W W' : World} {va vb : Value} {X Y : List (List Int)} (h : BestP lo m hi W va vb X Y) (hb : Below W.heap.size W W') : BestP lo m hi W' va vb X Y := by
  obtain ⟨l1, g1, l2, g2, a, b, c, d, e, f, o1, o2⟩ := h
  have hs := hb.size
  exact ⟨l1, g1, l2, g2, a, b, c, d, by omega, by omega, o1.under hb, o2.under hb⟩
theorem BestP.own {lo m hi : Nat} {W : World} {va vb : Value} {X Y : List (List Int)} (h : BestP lo m hi W va vb X Y) : OwnSol lo W.heap.size W va vb X Y := by
  obtain ⟨l1, g1, l2, g2, a, b, c, d, e, f, o1, o2⟩ := h
  exact ⟨l1, g1, l2, g2, a, e, b, f, c, o1, o2⟩

theorem BestP.keepL {lo m hi : Nat} {S : Nat → Prop} {W W' : World} {va vb : Value} {X Y : List (List Int)} (h : BestP lo m hi W va vb X Y) (k : Keep S W W') (h1 : ∀ b, lo ≤ b → b < m → ¬ S b) (h2 : ∀ b, lo ≤ b → hi ≤ b → ¬ S b) : BestP lo m hi W' va vb X Y := by
  obtain ⟨l1, g1, l2, g2, a, b, c, d, e, f, o1, o2⟩ := h
  have hs := k.size
  refine ⟨l1, g1, l2, g2, a, b, c, d, by omega, by omega, o1.keep k ?_, o2.keep k ?_⟩
  · intro x x1 x2
    rcases d with d | d
    · exact h1 x (by omega) (by omega)
    · exact h2 x (by omega) (by omega)
  · intro x x1 x2
    rcases d with d | d
    · exact h1 x (by omega) (by omega)
    · exact h2 x (by omega) (by omega)
theorem BestP.ownL {lo' lo m hi : Nat} {W : World} {va vb : Value} {X Y : List (List Int)} (h : BestP lo m hi W va vb X Y) (hl : lo' ≤ lo) : OwnSol lo' W.heap.size W va vb X Y := by
  obtain ⟨l1, g1, l2, g2, a, b, c, d, e, f, o1, o2⟩ := h
  exact ⟨l1, g1, l2, g2, by omega, e, by omega, f, c, o1, o2⟩
theorem BestP.mk0 {lo q s1 s2 hi : Nat} {w1 w2 V : World} {a b : Value} {A B : List (List Int)} (ho1 : OwnRows s1 w1 a A) (hb : Below w1.heap.size w1 w2) (ho2 : OwnRows s2 w2 b B) (hs1 : lo ≤ s1) (hs2 : w1.heap.size ≤ s2) (hlo : lo ≤ w1.heap.size)
    (hk : Keep (fun k => k = q) w2 V) (hq1 : q < s1 ∨ w1.heap.size ≤ q) (hq2 : q < s2 ∨ w2.heap.size ≤ q) : BestP lo V.heap.size hi V a b A B := by
  have h1 := hb.size; have h2 := hk.size
  exact ⟨s1, w1.heap.size, s2, w2.heap.size, hs1, by omega, .inl hs2, .inl ⟨by omega, h2⟩, by omega, h2, (ho1.inn.under hb).keep hk (fun x _ _ e => by omega), ho2.inn.keep hk (fun x _ _ e => by omega)⟩
theorem fin_up {lo m hi q : Nat} {W w1 w9 w5 wz : World} {a b : Value} {XA XB : List (List Int)} (ho1 : OwnRows W.heap.size w1 a XA) (b0 : W.heap.size ≤ w1.heap.size) (b1 : Below w1.heap.size w1 w9) (ho2 : OwnRows w9.heap.size w5 b XB) (b95 : Below w9.heap.size w9 w5) (b2 : Below w5.heap.size w5 wz)
    (hW : hi ≤ W.heap.size) (hlo : lo ≤ W.heap.size) (hq : q < W.heap.size) : BestP lo m hi ((wz.setCell ⟨q, 0, none⟩ a).setCell ⟨q, 1, none⟩ b) a b XA XB := by
  have s1 := b1.size; have s2 := b95.size; have s3 := b2.size
  have hz : ((wz.setCell ⟨q, 0, none⟩ a).setCell ⟨q, 1, none⟩ b).heap.size = wz.heap.size := by simp [World.setCell]
  exact ⟨W.heap.size, w1.heap.size, w9.heap.size, w5.heap.size, hlo, by omega, .inl s1, .inr ⟨hW, by omega⟩, by omega, by omega, (((ho1.inn.under b1).under b95).under b2).keep (keep_early _ _ _ _) (fun x _ _ e => by omega), (ho2.inn.under b2).keep (keep_early _ _ _ _) (fun x _ _ e => by omega)⟩

end Go.Proofs.Ytkghonhghbcdlaa

namespace Go.Proofs.Ytkghonhghbcdlaa
set_option linter.unusedVariables false
set_option linter.unusedSimpArgs false
open Go Go.RowKit

theorem OwnP.blk {lo : Nat} {P : Nat → Prop} {w : World} {v : Value} {t : List (List Int)} (h : OwnP lo P w v t) {k : Nat} (hk : v.ownBlock = some k) : P k := by
  obtain ⟨us, _, _, h3, _⟩ := h
  exact h3 k hk
/-- Two tables apart from each other, all behind the box q. -/
structure Emp (B q : Nat) (W0 W : World) (va vb : Value) (X Y : List (List Int)) (P1 P2 : Nat → Prop) : Prop where
  p1 : ∀ b, P1 b → q < b ∧ b < W.heap.size ∧ ¬ P2 b
  p2 : ∀ b, P2 b → q < b ∧ b < W.heap.size ∧ ¬ P1 b
  o1 : OwnP B P1 W va X
  o2 : OwnP B P2 W vb Y
  hb : Below B W0 W
theorem Emp.swap {B q : Nat} {W0 W : World} {va vb : Value} {X Y : List (List Int)} {P1 P2 : Nat → Prop} (h : Emp B q W0 W va vb X Y P1 P2) : Emp B q W0 W vb va Y X P2 P1 := ⟨h.p2, h.p1, h.o2, h.o1, h.hb⟩
theorem Emp.drew {B q : Nat} {W0 W : World} {va vb : Value} {X Y : List (List Int)} {P1 P2 : Nat → Prop} (h : Emp B q W0 W va vb X Y P1 P2) : Emp B q W0 W.drew va vb X Y P1 P2 :=
  ⟨h.p1, h.p2, h.o1.under (Below.refl _ _).drew, h.o2.under (Below.refl _ _).drew, h.hb.drew⟩
theorem Emp.app {B q : Nat} {W0 W w2 : World} {va vb va' u : Value} {X Y X' : List (List Int)} {P1 P2 : Nat → Prop} {o : Obj} {g : Nat} (h : Emp B q W0 W va vb X Y P1 P2) (hq : q < W.heap.size) (hB : B ≤ q) (hu : u.ownBlock = some W.heap.size) (hv' : va'.ownBlock = some g)
    (ho : OwnP B (fun b => P1 b ∨ u.ownBlock = some b ∨ b = g) w2 va' X') (k : Keep (fun b => va.ownBlock = some b) (W.alloc o) w2) (hg : va.ownBlock = some g ∨ (W.alloc o).heap.size ≤ g) (i : Nat) (z : Value) :
    Emp B q W0 (w2.setCell ⟨q, i, none⟩ z) va' vb X' Y (fun b => P1 b ∨ u.ownBlock = some b ∨ b = g) P2 := by
  have hs := k.size
  have hs1 : (W.alloc o).heap.size = W.heap.size + 1 := by simp
  have hgl := (OwnRows.lt ho.out hv').2
  have hz := size_set w2 ⟨q, i, none⟩ z
  have hgq : q < g ∧ ¬ P2 g := by
    rcases hg with hg | hg
    · have := h.p1 g (h.o1.blk hg); exact ⟨this.1, this.2.2⟩
    · exact ⟨by omega, fun e => by have := (h.p2 g e).2.1; omega⟩
  have kk : Keep (fun b => va.ownBlock = some b ∨ b = q) W (w2.setCell ⟨q, i, none⟩ z) := by
    have k1 : Keep (fun b => va.ownBlock = some b ∨ b = q) W (W.alloc o) := (Keep.refl _ W).alloc o
    have k2 : Keep (fun b => va.ownBlock = some b ∨ b = q) (W.alloc o) w2 := ⟨k.os, k.tape, k.output, k.size, fun x hx hn => k.block x hx (fun e => hn (.inl e))⟩
    exact (k1.trans k2).setCell (p := ⟨q, i, none⟩) (.inl (.inr rfl)) z
  refine ⟨fun b hb => ?_, fun b hb => ?_, ?_, ?_, ?_⟩
  · rcases hb with hb | hb | hb
    · have := h.p1 b hb; exact ⟨this.1, by omega, this.2.2⟩
    · rw [hu] at hb; injection hb with hb; subst hb
      exact ⟨hq, by omega, fun e => by have := (h.p2 _ e).2.1; omega⟩
    · subst hb; exact ⟨hgq.1, by omega, hgq.2⟩
  · have h2 := h.p2 b hb
    refine ⟨h2.1, by omega, fun e => ?_⟩
    rcases e with e | e | e
    · exact h2.2.2 e
    · rw [hu] at e; injection e with e; omega
    · subst e; exact hgq.2 hb
  · refine ho.keep (keep1 w2 q i z) fun b hb e => ?_
    have e : b = q := e
    subst e
    rcases hb with hb | hb | hb
    · have := (h.p1 _ hb).1; omega
    · rw [hu] at hb; injection hb with hb; omega
    · subst hb; omega
  · refine h.o2.keep kk fun b hb e => ?_
    rcases e with e | e
    · exact (h.p2 b hb).2.2 (h.o1.blk e)
    · subst e; have := (h.p2 _ hb).1; omega
  · refine h.hb.trans (kk.below fun b hb => ⟨by omega, fun e => ?_⟩)
    rcases e with e | e
    · have := (h.p1 _ (h.o1.blk e)).1; omega
    · omega

theorem Emp.old {B q : Nat} {W0 W w2 : World} {va vb : Value} {X Y : List (List Int)} {P1 P2 : Nat → Prop} {o : Obj} (h : Emp B q W0 W va vb X Y P1 P2) (k : Keep (fun b => va.ownBlock = some b) (W.alloc o) w2) (i : Nat) (z : Value) {b : Nat} (hb : b < q) (hl : b < W.heap.size) :
    (w2.setCell ⟨q, i, none⟩ z).heap[b]? = W.heap[b]? := by
  have kk : Keep (fun b => va.ownBlock = some b ∨ b = q) W (w2.setCell ⟨q, i, none⟩ z) := by
    have k1 : Keep (fun b => va.ownBlock = some b ∨ b = q) W (W.alloc o) := (Keep.refl _ W).alloc o
    have k2 : Keep (fun b => va.ownBlock = some b ∨ b = q) (W.alloc o) w2 := ⟨k.os, k.tape, k.output, k.size, fun x hx hn => k.block x hx (fun e => hn (.inl e))⟩
    exact (k1.trans k2).setCell (p := ⟨q, i, none⟩) (.inl (.inr rfl)) z
  refine kk.block b hl fun e => ?_
  rcases e with e | e
  · have := (h.p1 _ (h.o1.blk e)).1; omega
  · omega

/-- Two tables apart from each other. -/
def RTwo (w0 : World) (X Y : List (List Int)) (e : Ending) (w' : World) : Prop :=
  ∃ r1 r2 P1 P2, e = .returned (.agg #[r1, r2]) ∧ Emp w0.heap.size (w0.heap.size + 1) w0 w' r1 r2 X Y P1 P2
theorem own_made (n : Nat) (W : World) (h : n ≤ maxLen) : Own W.heap.size (W.alloc (.cells (madeCells #[.int .i64 0] n) 2)) (.slice (some ⟨W.heap.size, 0, none⟩) n n) (List.replicate n 0) := by
  have := Blk.made W (.int .i64 0) n 2
  exact Own.shut (cs := []) (by simpa using this) (Nat.le_refl _) (by simpa using h) (by simp) (by simp)

set_option maxHeartbeats 1000000 in
theorem c_l02Empty (n : Nat) (w : World) (hn : n ≤ 12) :
    Calls Try.prog 147 #[.int .i64 n] w (RTwo w (tabOf n fun _ _ => 0) (tabOf n fun _ _ => 0)) := by
  obtain ⟨f0, f1, hW0, hsz⟩ := boxes2 w [.slice none 0 0, .slice none 0 0] [.slice none 0 0, .slice none 0 0] 26 26
  have hmk := run_make_row' (P := Try.prog) 27 2 (.int .i64 0) 8 Try.underlying27 inf_int64 rfl .i64 .i64 n (by omega) (by omega)
  go_enter Try.func147, Try.ntmps147
  go_wp2
  have hB0 : Below w.heap.size w ((w.alloc (.cells #[.slice none 0 0, .slice none 0 0] 26)).alloc (.cells #[.slice none 0 0, .slice none 0 0] 26)) := hW0
  have hE0 := Emp.mk (B := w.heap.size) (q := w.heap.size + 1) (W0 := w) (W := ((w.alloc (.cells #[.slice none 0 0, .slice none 0 0] 26)).alloc (.cells #[.slice none 0 0, .slice none 0 0] 26))) (P1 := fun _ => False) (P2 := fun _ => False) (fun b hb => hb.elim) (fun b hb => hb.elim) (OwnP.nil _ _ _) (OwnP.nil _ _ _) hB0
  go_loopw [4] (fun i wr => ∃ (k : Nat) (va vb : Value) (P1 P2 : Nat → Prop), k ≤ n ∧ i = .int .i64 k ∧ Hid (w.heap.size + 2 ≤ wr.heap.size) ∧ Hid (Blk wr w.heap.size 26 [.slice none 0 0, .slice none 0 0]) ∧ Hid (Blk wr (w.heap.size + 1) 26 [va, vb]) ∧
    Hid (Emp w.heap.size (w.heap.size + 1) w wr va vb (List.replicate k (List.replicate n 0)) (List.replicate k (List.replicate n 0)) P1 P2)) (fun i _ => n - (intOf i).toNat)
  case atStart => exact ⟨0, _, _, _, _, Nat.zero_le _, rfl, Lib.hid (by simp), Lib.hid f0, Lib.hid f1, Lib.hid hE0⟩
  case round =>
    clear hB0 f0 f1 hW0 hsz hE0
    obtain ⟨k, va, vb, P1, P2, hk, rfl, HS, HQ0, HQ1, HE⟩ := hrel
    obtain ⟨wo, rfl⟩ : ∃ wo : World, wo = wr := ⟨_, rfl⟩
    by_cases hlt : k < n
    · have HQd := Lib.hid HQ1.out.drew
      have HEd := Lib.hid HE.out.drew
      obtain ⟨cA, cB, cF, cG⟩ := two_cells HQd.out
      have hcm := (two_cells (HQ1.out.alloc (.cells (madeCells #[.int .i64 0] n) 2))).1
      have hcm2 := (two_cells ((HQ1.out.alloc (.cells (madeCells #[.int .i64 0] n) 2)).alloc (.cells #[.slice (some ⟨wo.heap.size, 0, none⟩) n n] 27))).1
      go_wp2
      go_region_law (first
        | (refine step_app_rowP P1 w.heap.size wo.heap.size (wo.drew.alloc (.cells (madeCells #[.int .i64 0] n) 2)) va (List.replicate k (List.replicate n 0)) (.slice (some ⟨wo.heap.size, 0, none⟩) n n) (List.replicate n 0) (.tmp 12) (.tmp 15) rfl rfl rfl (HEd.out.o1.under ((Below.refl _ _).alloc (Nat.le_refl _) _)) (fun b hb => (HE.out.p1 b hb).2.1) (own_made n wo.drew (by unfold maxLen; omega)) (show Value.slice (some ⟨wo.heap.size + 1, 0, none⟩) 1 1 = _ from by simp) (by simp; omega) (by have := HS.out; omega) (by have := HS.out; simp; omega) ?_; intro g c2 w2 hown2 hk2 hg2; rw [List.length_replicate] at hown2; rw [List.length_replicate]
           have hQ2 := (HQd.out.alloc (.cells (madeCells #[.int .i64 0] n) 2)).of_block (hk2.block _ (HQd.out.alloc (.cells (madeCells #[.int .i64 0] n) 2)).lt (fun e => by have := (HE.out.p1 _ (HE.out.o1.blk e)).1; omega))
           obtain ⟨dA, dB, dF, dG⟩ := two_cells hQ2
           have HQ2 := Lib.hid hQ2; have HO := Lib.hid hown2; have HK := Lib.hid hk2; have HG := Lib.hid hg2; clear hown2 hk2 hg2 hQ2))
      all_goals
        have hs2 := HS.out
        have hE3 := HEd.out.app (va' := .slice (some ⟨g, 0, none⟩) (k + 1) c2) (u := .slice (some ⟨wo.heap.size, 0, none⟩) n n) (by show _ < wo.heap.size; omega) (by omega) rfl rfl HO.out HK.out HG.out 0 (.slice (some ⟨g, 0, none⟩) (k + 1) c2)
        have hQ3 := HQ2.out.set 0 (.slice (some ⟨g, 0, none⟩) (k + 1) c2)
        have hZ3 := (HQ0.out.drew).of_block (HEd.out.old HK.out 0 (.slice (some ⟨g, 0, none⟩) (k + 1) c2) (b := w.heap.size) (by omega) HQ0.out.lt)
        obtain ⟨w3, hw3⟩ : ∃ w3, w2.setCell ⟨w.heap.size + 1, 0, none⟩ (.slice (some ⟨g, 0, none⟩) (k + 1) c2) = w3 := ⟨_, rfl⟩
        rw [hw3] at hE3 hQ3 hZ3 ⊢
        have hs3 : w.heap.size + 2 ≤ w3.heap.size := hQ3.lt
        have HE3 := Lib.hid hE3.swap
        have HEd3 := Lib.hid hE3.swap.drew
        have HQ3 := Lib.hid hQ3; have HZ3 := Lib.hid hZ3; have HS3 := Lib.hid hs3
        clear hE3 hQ3 hZ3 hw3 dA dB dF dG cA cB cF cG hcm hcm2 hs2 hs3
        have HQd3 := Lib.hid HQ3.out.drew
        obtain ⟨cA, cB, cF, cG⟩ := two_cells HQd3.out
        have hcm := (two_cells (HQ3.out.alloc (.cells (madeCells #[.int .i64 0] n) 2))).2.1
        have hcm2 := (two_cells ((HQ3.out.alloc (.cells (madeCells #[.int .i64 0] n) 2)).alloc (.cells #[.slice (some ⟨w3.heap.size, 0, none⟩) n n] 27))).2.1
        go_wp2
        go_region_law (first
          | (refine step_app_rowP P2 w.heap.size w3.heap.size (w3.drew.alloc (.cells (madeCells #[.int .i64 0] n) 2)) vb (List.replicate k (List.replicate n 0)) (.slice (some ⟨w3.heap.size, 0, none⟩) n n) (List.replicate n 0) (.tmp 19) (.tmp 22) rfl rfl rfl (HEd3.out.o1.under ((Below.refl _ _).alloc (Nat.le_refl _) _)) (fun b hb => (HE3.out.p1 b hb).2.1) (own_made n w3.drew (by unfold maxLen; omega)) (show Value.slice (some ⟨w3.heap.size + 1, 0, none⟩) 1 1 = _ from by simp) (by simp; omega) (by have := HS3.out; omega) (by have := HS3.out; simp; omega) ?_; intro g4 c4 w4 hown2 hk2 hg2; rw [List.length_replicate] at hown2; rw [List.length_replicate]
             have hQ2 := (HQd3.out.alloc (.cells (madeCells #[.int .i64 0] n) 2)).of_block (hk2.block _ (HQd3.out.alloc (.cells (madeCells #[.int .i64 0] n) 2)).lt (fun e => by have := (HE3.out.p1 _ (HE3.out.o1.blk e)).1; omega))
             obtain ⟨dA, dB, dF, dG⟩ := two_cells hQ2
             have HQ4 := Lib.hid hQ2; have HO4 := Lib.hid hown2; have HK4 := Lib.hid hk2; have HG4 := Lib.hid hg2; clear hown2 hk2 hg2 hQ2))
        all_goals
          have hs2 := HS3.out
          have hE5 := HEd3.out.app (va' := .slice (some ⟨g4, 0, none⟩) (k + 1) c4) (u := .slice (some ⟨w3.heap.size, 0, none⟩) n n) (by show _ < w3.heap.size; omega) (by omega) rfl rfl HO4.out HK4.out HG4.out 1 (.slice (some ⟨g4, 0, none⟩) (k + 1) c4)
          have hQ5 := HQ4.out.set 1 (.slice (some ⟨g4, 0, none⟩) (k + 1) c4)
          have hZ5 := (HZ3.out.drew).of_block (HEd3.out.old HK4.out 1 (.slice (some ⟨g4, 0, none⟩) (k + 1) c4) (b := w.heap.size) (by omega) HZ3.out.lt)
          obtain ⟨w5, hw5⟩ : ∃ w5, w4.setCell ⟨w.heap.size + 1, 1, none⟩ (.slice (some ⟨g4, 0, none⟩) (k + 1) c4) = w5 := ⟨_, rfl⟩
          rw [hw5] at hE5 hQ5 hZ5 ⊢
          have HE5 := Lib.hid hE5.swap; have HQ5 := Lib.hid hQ5; have HZ5 := Lib.hid hZ5
          clear hE5 hQ5 hZ5 hw5 dA dB dF dG cA cB cF cG hcm hcm2 hs2 hmk
          go_wp2
          go_roundw
          case rel =>
            have hE := HE5.out
            rw [← List.replicate_succ'] at hE
            exact ⟨k + 1, _, _, _, _, by omega, by go_num, Lib.hid HQ5.out.lt, HZ5, HQ5, Lib.hid hE⟩
          case measure => simp [intOf]; omega
    · obtain rfl : k = n := by omega
      have hE := HE.out
      have hrep : List.replicate k (List.replicate k (0 : Int)) = tabOf k fun _ _ => 0 := by
        apply ext_row (by simp)
        intro x hx
        simp at hx
        rw [row_tabOf _ _ _ hx, rowOf_const, row_nat _ _ (by simpa using hx)]
        simp
      rw [hrep] at hE
      obtain ⟨ra1, rc1, rfl, hca⟩ := OwnRows.shape' hE.o1.out
      obtain ⟨ra2, rc2, rfl, hcb⟩ := OwnRows.shape' hE.o2.out
      rw [show (tabOf k fun _ _ => (0 : Int)).length = k from by simp] at hE
      obtain ⟨z0, z1, z2, z3⟩ := two_cells HQ0.out
      have HQ1' := HQ1.out
      rw [show (tabOf k fun _ _ => (0 : Int)).length = k from by simp] at HQ1'
      obtain ⟨y0, y1, y2, y3⟩ := two_cells HQ1'
      have HE' := Lib.hid hE; clear hE hca hcb HE
      go_wp2
      refine bodyPost_ret (v := .agg #[.slice ra1 k rc1, .slice ra2 k rc2]) (by simp [results, Try.results147, go_sem, z0, z1]) rfl ⟨_, _, P1, P2, rfl, ?_⟩
      have kz : Keep (fun b => b = w.heap.size) wo ((wo.setCell ⟨w.heap.size, 0, none⟩ (.slice ra1 k rc1)).setCell ⟨w.heap.size, 1, none⟩ (.slice ra2 k rc2)) := keep_early _ _ _ _
      have hks := kz.size
      have hE := HE'.out
      exact ⟨fun b hb => ⟨(hE.p1 b hb).1, by have := (hE.p1 b hb).2.1; omega, (hE.p1 b hb).2.2⟩, fun b hb => ⟨(hE.p2 b hb).1, by have := (hE.p2 b hb).2.1; omega, (hE.p2 b hb).2.2⟩, hE.o1.keep kz (fun b hb e => by have := (hE.p1 b hb).1; omega), hE.o2.keep kz (fun b hb e => by have := (hE.p2 b hb).1; omega), hE.hb.trans (kz.below fun b hb => ⟨by have : w.heap.size + 2 ≤ wo.heap.size := HS.out; omega, fun e => by have e : b = w.heap.size := e; omega⟩)⟩
end Go.Proofs.Ytkghonhghbcdlaa

namespace Go.Proofs.Ytkghonhghbcdlaa
set_option linter.unusedVariables false
set_option linter.unusedSimpArgs false
open Go Go.RowKit Go.Shelf

theorem ivT_row {A B : List (List Int)} {n : Nat} {z : Int → Int} {ini : Int → Int → Int} {k u : Nat} (hu : u < n) : (row (ivT A B n z ini k) u).length = n := by
  unfold ivT; rw [row_tabOf _ _ _ hu]; simp

theorem two_start {w1 : World} {B q0 : Nat} {W0 : World} {va vb : Value} {X Y : List (List Int)} {P1 P2 : Nat → Prop} (h : Emp B q0 W0 w1 va vb X Y P1 P2) (hB : B ≤ q0) (o : Obj) :
    TwoP B w1.heap.size (w1.alloc o) va vb X Y := by
  have hs : (w1.alloc o).heap.size = w1.heap.size + 1 := by simp
  have hb : Below w1.heap.size w1 (w1.alloc o) := (Below.refl _ _).alloc (Nat.le_refl _) _
  refine ⟨P1, P2, fun b hb => ?_, fun b hb => ?_, h.o1.under hb, h.o2.under hb⟩
  · have := h.p1 b hb; exact ⟨by omega, by omega, by omega, this.2.2⟩
  · have := h.p2 b hb; exact ⟨by omega, by omega, by omega⟩
theorem row_zeros {n u : Nat} (hu : u < n) : (row (tabOf n fun _ _ => (0 : Int)) u).length = n := by rw [row_tabOf _ _ _ hu]; simp

set_option maxRecDepth 100000 in
set_option maxHeartbeats 4000000 in
theorem c_l02InverseC (v0 u0 : Value) (A B : List (List Int)) (w : World) (hA : Sol w v0 u0 A B) (hs : collL A B = []) (hp : isPM A B = true) :
    Calls Try.prog 133 #[.agg #[v0, u0]] w (RSolR w (ivA A B A.length) (ivB A B A.length)) := by
  have hPm := pmL_perm hp hs
  clear hs
  obtain ⟨n0, b0, o0, c0, rb0, ro0, rc0, b0s, o0s, c0s, rb0s, ro0s, rc0s, rfl, rfl, hl0, hl0s, hn0, hx0, hc0, hm0, hc0s, hm0s, t0, t0s⟩ := hA.tabs hp
  rw [hl0] at hPm ⊢
  have HPm := Lib.hid hPm; clear hPm
  have HL0 := Lib.hid hl0; clear hl0
  have HL0s := Lib.hid hl0s; clear hl0s
  go_enter Try.func133, Try.ntmps133
  obtain ⟨f0, f2, hW0, hsz⟩ := boxes2 w [.slice (some ⟨b0, o0, none⟩) n0 c0, .slice (some ⟨b0s, o0s, none⟩) n0 c0s] [.slice none 0 0, .slice none 0 0] 26 26
  obtain ⟨W0, hW⟩ : ∃ W0, ((w.alloc (.cells #[.slice (some ⟨b0, o0, none⟩) n0 c0, .slice (some ⟨b0s, o0s, none⟩) n0 c0s] 26)).alloc (.cells #[.slice none 0 0, .slice none 0 0] 26)) = W0 := ⟨_, rfl⟩
  rw [hW] at f0 f2 hW0 hsz
  have HSZ := Lib.hid hsz
  obtain ⟨cA0, cB0, -, -⟩ := two_cells f0
  replace t0 := t0.below hW0; replace t0s := t0s.below hW0
  have HT0 := Lib.hid t0; have HT0s := Lib.hid t0s
  have HF0 := Lib.hid f0; have HF2 := Lib.hid f2; have HW0 := Lib.hid hW0
  have hsz := HSZ.out
  have hW' := hW
  subst hW'
  clear hA hp f0 f2 t0 t0s hW0
  go_wp2_with fail
  obtain ⟨W0, hW⟩ : ∃ W0, ((w.alloc (.cells #[.slice (some ⟨b0, o0, none⟩) n0 c0, .slice (some ⟨b0s, o0s, none⟩) n0 c0s] 26)).alloc (.cells #[.slice none 0 0, .slice none 0 0] 26)) = W0 := ⟨_, rfl⟩
  rw [hW] at HF0 HF2 HW0 HSZ HT0 HT0s hsz cA0 cB0 ⊢
  clear hW
  refine (c_l02Empty n0 _ hx0).mono ?_; rintro e w1 ⟨r1, r2, P1, P2, rfl, hE⟩
  obtain ⟨ra1, rc1, hv1, -⟩ := OwnRows.shape' hE.o1.out
  obtain ⟨ra2, rc2, hv2, -⟩ := OwnRows.shape' hE.o2.out
  rw [show (tabOf n0 fun _ _ => (0 : Int)).length = n0 from by simp] at hv1 hv2
  subst hv1 hv2
  have hT := two_start hE (by omega) (.cells #[.slice ra1 n0 rc1, .slice ra2 n0 rc2] 26)
  have hQ : Blk (w1.alloc (.cells #[.slice ra1 n0 rc1, .slice ra2 n0 rc2] 26)) w1.heap.size 26 [.slice ra1 n0 rc1, .slice ra2 n0 rc2] := Blk.new w1 [.slice ra1 n0 rc1, .slice ra2 n0 rc2] 26
  have hB1 : Below W0.heap.size W0 (w1.alloc (.cells #[.slice ra1 n0 rc1, .slice ra2 n0 rc2] 26)) := hE.hb.alloc hE.hb.size _
  have hqs : W0.heap.size ≤ w1.heap.size := hE.hb.size
  obtain ⟨tb1, _, _, tb2, _, _, _, _, rfl, rfl, -⟩ := hT.put (u := 0) (y := 0) (m := n0) (m' := n0) (by simp; omega) (by simp; omega) (row_zeros (by omega)) (row_zeros (by omega)) (by omega) (by omega)
  have hZ : TwoP W0.heap.size w1.heap.size (w1.alloc (.cells #[.slice (some ⟨tb1, 0, none⟩) n0 rc1, .slice (some ⟨tb2, 0, none⟩) n0 rc2] 26)) (.slice (some ⟨tb1, 0, none⟩) n0 rc1) (.slice (some ⟨tb2, 0, none⟩) n0 rc2) (ivT A B n0 (fun c => c / n0) (fun _ _ => 0) (0 * n0)) (ivT A B n0 (fun c => c % n0) (fun _ _ => 0) (0 * n0)) := by
    rw [Nat.zero_mul, ivT_zero HPm.out, ivT_zero HPm.out]; exact hT
  have HT := Lib.hid hZ; have HQ := Lib.hid hQ; have HB1 := Lib.hid hB1
  have hqV : w1.heap.size < (w1.alloc (.cells #[.slice (some ⟨tb1, 0, none⟩) n0 rc1, .slice (some ⟨tb2, 0, none⟩) n0 rc2] 26)).heap.size := by simp
  clear hT hZ hQ hB1 hE cA0 cB0
  go_wp2
  obtain ⟨V, hV⟩ : ∃ V, (w1.alloc (.cells #[.slice (some ⟨tb1, 0, none⟩) n0 rc1, .slice (some ⟨tb2, 0, none⟩) n0 rc2] 26)) = V := ⟨_, rfl⟩
  rw [hV] at HT HQ HB1 hqV ⊢
  clear hV
  generalize w1.heap.size = q at HT HQ hqs hqV ⊢
  have HFV := Lib.hid (HF0.out.under HB1.out); have HGV := Lib.hid (HF2.out.under HB1.out)
  go_loopw [5, 6, 7, 8] (fun i _ _ _ wr => ∃ x : Nat, x ≤ n0 ∧ i = .int .i64 x ∧ Hid (Below W0.heap.size W0 wr) ∧ Hid (Blk wr w.heap.size 26 [.slice (some ⟨b0, o0, none⟩) n0 c0, .slice (some ⟨b0s, o0s, none⟩) n0 c0s]) ∧ Hid (Blk wr (w.heap.size + 1) 26 [.slice none 0 0, .slice none 0 0]) ∧ Hid (Blk wr q 26 [.slice (some ⟨tb1, 0, none⟩) n0 rc1, .slice (some ⟨tb2, 0, none⟩) n0 rc2]) ∧
    Hid (TwoP W0.heap.size q wr (.slice (some ⟨tb1, 0, none⟩) n0 rc1) (.slice (some ⟨tb2, 0, none⟩) n0 rc2) (ivT A B n0 (fun c => c / n0) (fun _ _ => 0) (x * n0)) (ivT A B n0 (fun c => c % n0) (fun _ _ => 0) (x * n0)))) (fun i _ _ _ _ => n0 - (intOf i).toNat)
  case atStart => exact ⟨0, Nat.zero_le _, rfl, HB1, HFV, HGV, HQ, HT⟩
  case round =>
    clear HFV HGV HQ HB1 HT hqV
    obtain ⟨x, hx, rfl, HB, HG, HR, HF, HT⟩ := hrel
    obtain ⟨wo, rfl⟩ : ∃ wo : World, wo = wr := ⟨_, rfl⟩
    by_cases hlt : x < n0
    · go_wp2
      go_loopw [6, 7, 8] (fun j _ _ wi => ∃ y : Nat, y ≤ n0 ∧ j = .int .i64 y ∧ Hid (Below W0.heap.size W0 wi) ∧ Hid (Blk wi w.heap.size 26 [.slice (some ⟨b0, o0, none⟩) n0 c0, .slice (some ⟨b0s, o0s, none⟩) n0 c0s]) ∧ Hid (Blk wi (w.heap.size + 1) 26 [.slice none 0 0, .slice none 0 0]) ∧ Hid (Blk wi q 26 [.slice (some ⟨tb1, 0, none⟩) n0 rc1, .slice (some ⟨tb2, 0, none⟩) n0 rc2]) ∧
        Hid (TwoP W0.heap.size q wi (.slice (some ⟨tb1, 0, none⟩) n0 rc1) (.slice (some ⟨tb2, 0, none⟩) n0 rc2) (ivT A B n0 (fun c => c / n0) (fun _ _ => 0) (x * n0 + y)) (ivT A B n0 (fun c => c % n0) (fun _ _ => 0) (x * n0 + y)))) (fun j _ _ _ => n0 - (intOf j).toNat)
      case atStart => exact ⟨0, Nat.zero_le _, rfl, HB, HG, HR, HF, HT⟩
      case round =>
        clear HB HG HR HF HT
        obtain ⟨y, hy, rfl, HB, HG, HR, HF, HT⟩ := hrel
        obtain ⟨wi, rfl⟩ : ∃ wi : World, wi = wr := ⟨_, rfl⟩
        by_cases hlty : y < n0
        · have T := HT0.out.below HB.out
          have T' := HT0s.out.below HB.out
          have va := T.rng x y (by omega) (by omega) (by omega) (by omega)
          have vb := T'.rng x y (by omega) (by omega) (by omega) (by omega)
          have HVa := Lib.hid va; have HVb := Lib.hid vb
          obtain ⟨u, hu⟩ : ∃ u : Nat, val2 A x y = u := ⟨(val2 A x y).toNat, by omega⟩
          obtain ⟨v, hv⟩ : ∃ v : Nat, val2 B x y = v := ⟨(val2 B x y).toNat, by omega⟩
          have e1 := T.row x hlt; have e2 := T'.row x hlt
          have e3 := T.val x y hlt hlty; have e4 := T'.val x y hlt hlty
          rw [hu] at e3; rw [hv] at e4
          have hun : u < n0 := by omega
          have hvn : v < n0 := by omega
          have HU0 := Lib.hid hu; have HV0 := Lib.hid hv
          have HE := Lib.hid (And.intro e2 e4)
          clear hu hv va vb T T' e2 e4
          obtain ⟨c1, c2, -, -⟩ := two_cells HG.out
          obtain ⟨q1, q2, q3, q4⟩ := two_cells HF.out
          obtain ⟨_, g1, r1, _, g2, r2, _, _, E1, E2, -, -, -, p1, p2, -⟩ := HT.out.put (u := u) (y := v) (m := n0) (m' := n0) (by simpa using hun) (by simpa using hun) (ivT_row hun) (ivT_row hun) hvn hvn
          injection E1 with E1; injection E1 with E1; injection E2 with E2; injection E2 with E2; subst E1 E2
          have HP := Lib.hid (And.intro p1 p2)
          go_wp2
          go_quiet (fail)
          rename_i nq
          have hbq : Below wi.heap.size wi (wi.drewN nq) := below_drewN (Below.refl _ _) nq
          generalize wi.drewN nq = wq at hbq ⊢
          clear p1 p2 q1 q2 q3 q4 c1 c2 e1 e3
          have P1 := cell_under hbq HP.out.1; have P2 := cell_under hbq HP.out.2
          obtain ⟨_, g1', r1', _, g2', r2', z1, z2, E1, E2, ⟨m1, m2, m3, m4⟩, ⟨n1, n2, n3, n4⟩, ⟨o1, o2, o3, o4, o5⟩, p1, p2, p3, p4, p5, p6⟩ := (HT.out.under hbq).put (u := u) (y := v) (m := n0) (m' := n0) (by simpa using hun) (by simpa using hun) (ivT_row hun) (ivT_row hun) hvn hvn
          injection E1 with E1; injection E1 with E1; injection E2 with E2; injection E2 with E2; subst E1 E2
          rw [P1] at p1; rw [P2] at p2
          injection p1 with p1; injection p1 with p1; injection p1 with p1; injection p1 with p1
          injection p2 with p2; injection p2 with p2; injection p2 with p2; injection p2 with p2
          subst p1 p2
          have hBq : Below W0.heap.size W0 wq := HB.out.trans (hbq.mono HB.out.size)
          have hB9 : Below W0.heap.size W0 (wq.setCell ⟨g1, v, none⟩ (.int .i64 (x : Int))) := hBq.setCell (p := ⟨g1, v, none⟩) m2 _
          have H6 := Lib.hid p6; have HB9 := Lib.hid hB9
          have hBX := (HT0s.out.below hBq); have hBY := (HT0s.out.below hB9)
          have a1 := hBX.row x hlt; have a2 := hBX.val x y hlt hlty
          have a3 := hBY.row x hlt; have a4 := hBY.val x y hlt hlty
          rw [HV0.out] at a2 a4
          obtain ⟨b1, b2, -, -⟩ := two_cells (HF0.out.under hBq)
          obtain ⟨b3, b4, -, -⟩ := two_cells (HF0.out.under hB9)
          obtain ⟨s1, s2⟩ := p5 x
          have HPk := Lib.hid hbq
          clear hBX hBY P1 P2 hBq hB9 p5 p6 hbq
          go_wp2
          have kz : Keep (fun b => b = g1 ∨ b = g2) wi ((wq.setCell ⟨g1, v, none⟩ (.int .i64 (x : Int))).setCell ⟨g2, v, none⟩ (.int .i64 (y : Int))) := by
            have k0 : Keep (fun b => b = g1 ∨ b = g2) wi wq := (Keep.refl _ wi).under HPk.out
            exact (k0.setCell (p := ⟨g1, v, none⟩) (.inl (.inl rfl)) (.int .i64 (x : Int))).setCell (p := ⟨g2, v, none⟩) (.inl (.inr rfl)) (.int .i64 (y : Int))
          have hT9 : TwoP W0.heap.size q ((wq.setCell ⟨g1, v, none⟩ (.int .i64 (x : Int))).setCell ⟨g2, v, none⟩ (.int .i64 (y : Int))) (.slice (some ⟨tb1, 0, none⟩) n0 rc1) (.slice (some ⟨tb2, 0, none⟩) n0 rc2) (ivT A B n0 (fun c => c / n0) (fun _ _ => 0) (x * n0 + y + 1)) (ivT A B n0 (fun c => c % n0) (fun _ _ => 0) (x * n0 + y + 1)) := by
            have h9 := H6.out x y
            have hcd := code_div (n := n0) (x := (x : Int)) (y := (y : Int)) (by omega) (by omega)
            have va := HVa.out
            have vb := HVb.out
            have e1 := ivT_step HPm.out (fun c => c / n0) (fun _ _ => 0) hlt hlty va.1 va.2 vb.1 vb.2
            have e2 := ivT_step HPm.out (fun c => c % n0) (fun _ _ => 0) hlt hlty va.1 va.2 vb.1 vb.2
            rw [HU0.out, HV0.out] at e1 e2
            simp only [Int.toNat_natCast] at e1 e2
            rw [hcd.1] at e1
            rw [hcd.2] at e2
            rw [← e1, ← e2]
            exact h9
          have hz := HSZ.out
          go_roundw
          case rel =>
            exact ⟨y + 1, by omega, by go_num, Lib.hid (HB9.out.setCell (p := ⟨g2, v, none⟩) m4 _), Lib.hid (HG.out.of_block (kz.block _ HG.out.lt (by omega))), Lib.hid (HR.out.of_block (kz.block _ HR.out.lt (by omega))), Lib.hid (HF.out.of_block (kz.block _ HF.out.lt (by omega))), Lib.hid hT9⟩
          case measure => simp [intOf]; omega
        · obtain rfl : y = n0 := by omega
          go_wp2
          go_roundw
          case rel => exact ⟨x + 1, by omega, by go_num, HB, HG, HR, HF, Lib.hid (by have h := HT.out; rw [show x * y + y = (x + 1) * y from by rw [Nat.succ_mul]] at h; exact h)⟩
          case measure => simp [intOf]; omega
    · obtain rfl : x = n0 := by omega
      obtain ⟨q1, q2, -, -⟩ := two_cells HF.out
      obtain ⟨d1, d2, d3, d4⟩ := two_cells HR.out
      have hz := HSZ.out
      have HPd := HPm
      go_wp2
      have hT := HT.out
      rw [ivA_eq HPd.out, ivB_eq HPd.out] at hT
      obtain ⟨Q1, Q2, k1, k2, o1, o2⟩ := hT
      have kz : Keep (fun b => b = w.heap.size + 1) wo ((wo.setCell ⟨w.heap.size + 1, 0, none⟩ (.slice (some ⟨tb1, 0, none⟩) x rc1)).setCell ⟨w.heap.size + 1, 1, none⟩ (.slice (some ⟨tb2, 0, none⟩) x rc2)) := keep_early _ _ _ _
      have hBz : Below w.heap.size w wo := HW0.out.trans (HB.out.mono HW0.out.size)
      refine bodyPost_ret (v := .agg #[.slice (some ⟨tb1, 0, none⟩) x rc1, .slice (some ⟨tb2, 0, none⟩) x rc2]) (by simp [results, Try.results133, go_sem, d1, d2]) rfl ⟨_, _, rfl, ⟨?_, ?_⟩, hBz.trans (kz.below fun b hb => ⟨by have := hBz.size; omega, fun e => by have e : b = w.heap.size + 1 := e; omega⟩)⟩
      · exact ((o1.keep kz (fun b hb e => by have := (k1 b hb).1; have e : b = w.heap.size + 1 := e; omega)).out).mono (by omega)
      · exact ((o2.keep kz (fun b hb e => by have := (k2 b hb).1; have e : b = w.heap.size + 1 := e; omega)).out).mono (by omega)
theorem c_l02Inverse (v0 u0 : Value) (A B : List (List Int)) (w : World) (hA : Sol w v0 u0 A B) (hs : isSol A B = true) (hp : isPM A B = true) :
    Calls Try.prog 133 #[.agg #[v0, u0]] w (RSolR w (ivA A B A.length) (ivB A B A.length)) := c_l02InverseC v0 u0 A B w hA (isSol_coll hs) hp
end Go.Proofs.Ytkghonhghbcdlaa

namespace Go.Proofs.Ytkghonhghbcdlaa
set_option linter.unusedVariables false
set_option linter.unusedSimpArgs false
open Go Go.RowKit Go.Shelf

def inRA (A B : List (List Int)) : List (List Int) := if isSol A B then ivA A B A.length else []
def inRB (A B : List (List Int)) : List (List Int) := if isSol A B then ivB A B A.length else []
def inCode (A B : List (List Int)) : Int := if isSol A B then 0 else 1
theorem cut_waysInv {p G : Prop} (k : Hid p → G) (h : p) : G := k (Lib.hid h)



theorem in_total (A B : List (List Int)) : total (inRA A B) ≤ 144 ∧ total (inRB A B) ≤ 144 := by
  unfold inRA inRB
  split
  · rename_i h
    obtain ⟨q1, q2, _⟩ := isPM_parts (isSol_pm h)
    have l1 := isTab_len q1
    have h1 := total_le _ (tab_rows (n := A.length) (g := fun u v => nth (invL (pmL A B A.length)) (u * A.length + v) / A.length) l1.2)
    have h2 := total_le _ (tab_rows (n := A.length) (g := fun u v => nth (invL (pmL A B A.length)) (u * A.length + v) % A.length) l1.2)
    rw [tabOf_length] at h1 h2
    unfold ivA ivB
    omega
  · simp [total]
end Go.Proofs.Ytkghonhghbcdlaa

namespace Go.Proofs.Ytkghonhghbcdlaa
set_option linter.unusedVariables false
set_option linter.unusedSimpArgs false
open Go.RowKit

def miA (A B : List (List Int)) : List (List Int) := if isPM A B then transL B else []
def miB (A B : List (List Int)) : List (List Int) := if isPM A B then transL A else []
def pmCodeM (A B : List (List Int)) : Int := if isPM A B then 0 else 1




theorem mi_total (A B : List (List Int)) : total (miA A B) ≤ 144 ∧ total (miB A B) ≤ 144 := by
  unfold miA miB
  split
  · rename_i h
    obtain ⟨q1, q2, _⟩ := isPM_parts h
    have l1 := isTab_len q1; have l2 := isTab_len q2
    have h1 := total_le _ (tab_rows (g := fun x y => val2 B y x) l2.2)
    have h2 := total_le _ (tab_rows (g := fun x y => val2 A y x) l1.2)
    rw [tabOf_length] at h1 h2
    unfold transL
    omega
  · simp [total]
end Go.Proofs.Ytkghonhghbcdlaa

namespace Go.Proofs.Ytkghonhghbcdlaa
set_option linter.unusedVariables false
set_option linter.unusedSimpArgs false
open Go.RowKit

def pmCode (A B : List (List Int)) : Int := if isPM A B then 0 else 1
def sqF (A B : List (List Int)) (x : Nat) : Bool := decide (val2 A x x = x) && decide (val2 B x x = x)
def sqRes (A B : List (List Int)) : Bool := if isPM A B then all1 A.length (sqF A B) else false


set_option maxRecDepth 100000 in
set_option maxHeartbeats 800000 in
theorem c_IsSquareFree (v0 u0 : Value) (A B : List (List Int)) (w : World) (hA : Sol w v0 u0 A B)  :
    Calls Try.prog 23 #[.agg #[v0, u0]] w (RVal w (.tuple #[.bool (sqRes A B), .int .i64 (pmCode A B)])) := by
  by_cases hp0 : isPM A B = true
  case neg =>
    have hq0 : isPM A B = false := by simpa using hp0
    have HQ := Lib.hid hq0; clear hp0
    obtain ⟨a0, c0, rfl, _, _⟩ := hA.1.shape
    obtain ⟨a0s, c0s, rfl, _, _⟩ := hA.2.shape
    go_enter Try.func23, Try.ntmps23
    go_wp2_with fail
    obtain ⟨f0, hW0, hsz⟩ := boxes1 w [.slice a0 A.length c0, .slice a0s B.length c0s] 26
    obtain ⟨W0, hW⟩ : ∃ W, (w.alloc (.cells #[.slice a0 A.length c0, .slice a0s B.length c0s] 26)) = W := ⟨_, rfl⟩
    rw [hW] at f0 hW0 hsz ⊢
    clear hW hsz
    refine (c_IsPairMap _ _ _ _ _ (hA.below hW0)).mono ?_; rintro e g0 ⟨rfl, hbg0⟩
    have hB0 := bb hW0 hbg0
    replace f0 := f0.under hbg0
    obtain ⟨cA0, cB0, -, -⟩ := two_cells f0
    clear hbg0
    have HB := Lib.hid hB0
    clear hB0 hW0
    go_wp2
    go_ret2
    exact ⟨by simp [sqRes, pmCode, HQ.out], HB.out⟩
  have HP0 := Lib.hid hp0
  obtain ⟨n0, b0, o0, c0, rb0, ro0, rc0, b0s, o0s, c0s, rb0s, ro0s, rc0s, rfl, rfl, hl0, hl0s, hn0, hx0, hc0, hm0, hc0s, hm0s, t0, t0s⟩ := hA.tabs hp0
  have HL0 := Lib.hid hl0; clear hl0
  have HL0s := Lib.hid hl0s; clear hl0s
  go_enter Try.func23, Try.ntmps23
  go_wp2_with fail
  obtain ⟨f0, hW0, hsz⟩ := boxes1 w [.slice (some ⟨b0, o0, none⟩) n0 c0, .slice (some ⟨b0s, o0s, none⟩) n0 c0s] 26
  obtain ⟨W0, hW⟩ : ∃ W, (w.alloc (.cells #[.slice (some ⟨b0, o0, none⟩) n0 c0, .slice (some ⟨b0s, o0s, none⟩) n0 c0s] 26)) = W := ⟨_, rfl⟩
  rw [hW] at f0 hW0 hsz ⊢
  clear hW hsz
  refine (c_IsPairMap _ _ _ _ _ (hA.below hW0)).mono ?_; rintro e g0 ⟨rfl, hbg0⟩
  have hB0 := bb hW0 hbg0
  replace f0 := f0.under hbg0
  obtain ⟨cA0, cB0, -, -⟩ := two_cells f0
  clear hbg0
  have HT := Lib.hid (t0.below hB0); have HTs := Lib.hid (t0s.below hB0); have HB := Lib.hid hB0
  clear hB0 hW0 t0 t0s f0 hA
  go_wp2
  go_loop [11, 4] (fun i _ => ∃ k : Nat, k ≤ n0 ∧ i = .int .i64 k ∧ Hid (∀ x, x < k → sqF A B x = true)) (fun i _ => n0 - (intOf i).toNat)
  case atStart => exact ⟨0, Nat.zero_le _, rfl, Lib.hid (by simp)⟩
  case round =>
    obtain ⟨k, hk, rfl, HA⟩ := hrel
    by_cases hlt : k < n0
    · have r1 := HT.out.row k hlt; have v1 := HT.out.val k k hlt hlt
      have r2 := HTs.out.row k hlt; have v2 := HTs.out.val k k hlt hlt
      by_cases h1 : val2 A k k = k
      · have e1 : (val2 A k k != (k : Int)) = false := by simp [h1]
        by_cases h2 : val2 B k k = k
        · have e2 : (val2 B k k != (k : Int)) = false := by simp [h2]
          have H1 := Lib.hid h1; have H2 := Lib.hid h2; clear h1 h2
          go_wp2
          go_round
          case rel => exact ⟨k + 1, by omega, by go_num, Lib.hid (lt_snoc HA.out (by simp [sqF, H1.out, H2.out]))⟩
          case measure => simp [intOf]; omega
        · have e2 : (val2 B k k != (k : Int)) = true := by simp [h2]
          have H2 := Lib.hid h2; clear h1 h2
          go_wp2
          go_ret2
          exact ⟨by simp [sqRes, pmCode, HP0.out, HL0.out, all1_no hlt (P := sqF A B) (by simp [sqF, H2.out])], HB.out⟩
      · have e1 : (val2 A k k != (k : Int)) = true := by simp [h1]
        have H1 := Lib.hid h1; clear h1
        go_wp2
        go_ret2
        exact ⟨by simp [sqRes, pmCode, HP0.out, HL0.out, all1_no hlt (P := sqF A B) (by simp [sqF, H1.out])], HB.out⟩
    · go_wp2
      go_ret2
      obtain rfl : k = n0 := by omega
      exact ⟨by simp [sqRes, pmCode, HP0.out, HL0.out, all1_iff.2 HA.out], HB.out⟩

end Go.Proofs.Ytkghonhghbcdlaa

namespace Go.Proofs.Ytkghonhghbcdlaa
set_option linter.unusedVariables false
set_option linter.unusedSimpArgs false
open Go.RowKit

open Classical in
noncomputable def soRes (A B : List (List Int)) : Int := if isSol A B = true then (if ∀ j, j < A.length * A.length → ordS (pmL A B A.length) (j + 1) ≤ 1000000 then ordS (pmL A B A.length) (A.length * A.length) else 0) else 0
open Classical in
noncomputable def soCode (A B : List (List Int)) : Int := if isSol A B = true then (if ∀ j, j < A.length * A.length → ordS (pmL A B A.length) (j + 1) ≤ 1000000 then 0 else 3) else 1
theorem so_all {A B : List (List Int)} {n : Nat} (h : isSol A B = true) (hl : A.length = n) (h1 : ∀ j, j < n * n → ordS (pmL A B n) (j + 1) ≤ 1000000) : soRes A B = ordS (pmL A B n) (n * n) ∧ soCode A B = 0 := by
  subst hl; unfold soRes soCode; rw [if_pos h, if_pos h1, if_pos h, if_pos h1]; exact ⟨rfl, rfl⟩
theorem so_lim {A B : List (List Int)} {n k : Nat} (h : isSol A B = true) (hl : A.length = n) (hk : k < n * n) (h1 : 1000000 < ordS (pmL A B n) (k + 1)) : soRes A B = 0 ∧ soCode A B = 3 := by
  subst hl; unfold soRes soCode
  have : ¬ ∀ j, j < A.length * A.length → ordS (pmL A B A.length) (j + 1) ≤ 1000000 := fun h2 => by have := h2 k hk; omega
  rw [if_pos h, if_neg this, if_pos h, if_neg this]; exact ⟨rfl, rfl⟩
/-- One step of the order: its bounds. -/
theorem ord_step {o : Int} {r : Nat} (ho : 1 ≤ o) (ho2 : o ≤ 1000000) (hr : 1 ≤ r) (hr2 : r ≤ 144) :
    (0 < gcdI o r ∧ gcdI o r ≤ 1000000) ∧ (0 ≤ o / gcdI o r ∧ o / gcdI o r ≤ 1000000) ∧ (0 ≤ o / gcdI o r * r ∧ o / gcdI o r * r ≤ 144000000) := by
  obtain ⟨h1, h2⟩ := gcdI_pos (a := o) (b := r) (by omega) (by omega)
  have h3 : 0 ≤ o / gcdI o r := Int.ediv_nonneg (by omega) (by omega)
  have h4 : o / gcdI o r ≤ o := Int.ediv_le_self _ (by omega)
  have h5 : o / gcdI o r * r ≤ 1000000 * 144 := Int.mul_le_mul (by omega) (by omega) (by omega) (by omega)
  exact ⟨⟨h1, by omega⟩, ⟨h3, by omega⟩, Int.mul_nonneg h3 (by omega), by omega⟩
theorem code_mul {n : Nat} {x : Int} (hn : n ≤ 12) (hx0 : 0 ≤ x) (hx : x < n) : 0 ≤ x * (n : Int) ∧ x * (n : Int) ≤ 144 := by
  have h1 : x * (n : Int) ≤ 12 * 12 := Int.mul_le_mul (by omega) (by omega) (by omega) (by omega)
  exact ⟨Int.mul_nonneg hx0 (by omega), by omega⟩

theorem lt_snocP {k : Nat} {P : Nat → Prop} (h : ∀ j, j < k → P j) (hk : P k) : ∀ j, j < k + 1 → P j := fun j hj => by
  by_cases e : j = k
  · subst e; exact hk
  · exact h j (by omega)


theorem code_nat {n x y : Nat} (hx : x < n) (hy : y < n) : x * n + y < n * n := by
  have := code_lt (n := n) (x := (x : Int)) (y := (y : Int)) (by omega) (by omega) (by omega) (by omega)
  have h := this.2
  rw [← Int.natCast_mul, ← Int.natCast_add] at h
  exact Int.ofNat_lt.1 h


end Go.Proofs.Ytkghonhghbcdlaa
