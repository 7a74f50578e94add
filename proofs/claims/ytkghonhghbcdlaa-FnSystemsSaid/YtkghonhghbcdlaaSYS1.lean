/-
  The walks behind the law FnSystems, joined into one text.
-/
import Derived.Test.YtkghonhghbcdlaaI4
import Derived.Test.YtkghonhghbcdlaaS1c
import Derived.Test.YtkghonhghbcdlaaI3c
import Derived.Deep.AppendLies
import Derived.Deep.RegionHeld3
import Derived.Deep.RegionLaw
import Derived.Test.YtkghonhghbcdlaaT1
import Derived.Test.YtkghonhghbcdlaaLTables
import Derived.Test.YtkghonhghbcdlaaI14
import Derived.Test.YtkghonhghbcdlaaI20
import Derived.Test.YtkghonhghbcdlaaRows
import Derived.Test.YtkghonhghbcdlaaBase
import Derived.ProofKit
import Derived.OpenShut
import Derived.ShutString
import Derived.ChangeOld
import Derived.Lib.SmallJoins
import Derived.Deep.Slices
import Derived.Test.YtkghonhghbcdlaaLawC
import Derived.Test.YtkghonhghbcdlaaLawB
import Derived.Test.YtkghonhghbcdlaaI1c
import Derived.Test.YtkghonhghbcdlaaD3
import Derived.Test.YtkghonhghbcdlaaP6
import Derived.Test.YtkghonhghbcdlaaP7
import Derived.Test.YtkghonhghbcdlaaP5
import Derived.Test.YtkghonhghbcdlaaS1
import Derived.Test.YtkghonhghbcdlaaD2
import Derived.Test.YtkghonhghbcdlaaI3d
import Derived.Test.YtkghonhghbcdlaaA1
import Derived.Shelf.SlGeneric
import Derived.Ground.SlsfProg
import Derived.Shelf.SlSortCmp.NoneTotal
import Derived.Test.YtkghonhghbcdlaaProg
import Derived.Test.YtkghonhghbcdlaaI24
import Derived.Sort.OwnSorted
import Derived.Test.YtkghonhghbcdlaaI1d
import Derived.Test.YtkghonhghbcdlaaI15
namespace Go.Proofs.Ytkghonhghbcdlaa
set_option linter.unusedVariables false
set_option linter.unusedSimpArgs false
open Go.RowKit

/-- The rows of a table hold integers, arrays of rows do not: a table stays as it was where only the array of another turns. -/
theorem rowvals_keepT {B B0 : Nat} {w w' : World} {us us' : List Value} {xss : List (List Int)} {v : Value} {n : Nat} (h : RowVals B w us xss) (hv : w.ownsRow B0 27 1 v n us') (k : Keep (fun b => v.ownBlock = some b) w w') : RowVals B w' us xss := by
  refine ⟨h.len, fun i hi hi' => ?_, h.apart⟩
  have h5 := h.own i hi hi'
  obtain ⟨hl, hn' | ⟨g, cap, cur, hv5, hbg, hg, r⟩⟩ := h5
  · exact ⟨hl, .inl hn'⟩
  · refine ⟨hl, .inr ⟨g, cap, cur, hv5, hbg, ?_, r⟩⟩
    rw [k.block g (Array.getElem?_eq_some_iff.1 hg).1 ?_]; exact hg
    intro e
    obtain ⟨_, hnn | ⟨g', cap', cur', hv', _, hg', _⟩⟩ := hv
    · rw [hnn.1] at e; cases e
    · rw [hv'] at e
      simp [Value.ownBlock] at e
      subst e
      rw [hg] at hg'
      simp at hg'
theorem OwnRows.keepT {B B0 : Nat} {w w' : World} {u v : Value} {xss yss : List (List Int)} (h : OwnRows B w u xss) (hv : OwnRows B0 w v yss) (hne : ∀ b, u.ownBlock = some b → v.ownBlock ≠ some b) (k : Keep (fun b => v.ownBlock = some b) w w') : OwnRows B w' u xss := by
  obtain ⟨us, h1, h2⟩ := h
  obtain ⟨us', h3, h4⟩ := hv
  refine ⟨us, ?_, rowvals_keepT h2 h3 k⟩
  obtain ⟨hl, h | ⟨g, cap, cur, hv, hb, hg, r⟩⟩ := h1
  · exact ⟨hl, .inl h⟩
  · exact ⟨hl, .inr ⟨g, cap, cur, hv, hb, by rw [k.block g (Array.getElem?_eq_some_iff.1 hg).1 (hne g (by rw [hv]; rfl))]; exact hg, r⟩⟩

theorem OwnRowsIn.keepT {B B0 hi : Nat} {w w' : World} {u v : Value} {xss yss : List (List Int)} (h : OwnRowsIn B hi w u xss) (hv : OwnRows B0 w v yss) (hne : ∀ b, u.ownBlock = some b → v.ownBlock ≠ some b) (k : Keep (fun b => v.ownBlock = some b) w w') : OwnRowsIn B hi w' u xss := by
  obtain ⟨us, h1, h2, e1, e2⟩ := h
  obtain ⟨us', h3, h4⟩ := hv
  refine ⟨us, ?_, rowvals_keepT h2 h3 k, e1, e2⟩
  obtain ⟨hl, h | ⟨g, cap, cur, hv, hb, hg, r⟩⟩ := h1
  · exact ⟨hl, .inl h⟩
  · exact ⟨hl, .inr ⟨g, cap, cur, hv, hb, by rw [k.block g (Array.getElem?_eq_some_iff.1 hg).1 (hne g (by rw [hv]; rfl))]; exact hg, r⟩⟩
theorem rowvals_snoc {B m : Nat} {w : World} {us : List Value} {xss : List (List Int)} (h : RowVals B w us xss) (hlt : ∀ i (h : i < us.length) k, us[i].ownBlock = some k → k < m) {u : Value} {xs : List Int} (hu : Own m w u xs) (hB : B ≤ m) :
    RowVals B w (us ++ [u]) (xss ++ [xs]) := by
  refine ⟨by simp [h.len], fun i hi hi' => ?_, ?_⟩
  · by_cases e : i < us.length
    · rw [List.getElem_append_left e, List.getElem_append_left (by rw [← h.len]; exact e)]
      exact h.own i e (by rw [← h.len]; exact e)
    · have e2 : i = us.length := by simp at hi; omega
      subst e2
      rw [List.getElem_append_right (Nat.le_refl _), List.getElem_append_right (by rw [h.len]; exact Nat.le_refl _)]
      simp only [h.len, Nat.sub_self, List.getElem_cons_zero]
      exact hu.mono hB
  · rw [List.pairwise_append]
    refine ⟨h.apart, by simp, fun x hx y hy => ?_⟩
    simp at hy; subst hy
    obtain ⟨i, hi, rfl⟩ := List.getElem_of_mem hx
    cases e : us[i].ownBlock with
    | none => exact .inl rfl
    | some b =>
      refine .inr fun e2 => ?_
      have h1 := hlt i hi b e
      have h2 := (hu.lt e2.symm).1
      omega

/-- 'append(s, u)' at an operation: the new array is the old one or a new block. -/
theorem wp_app_row2 {o : Oper} {a : Act} {K : Act → World → Prop} {Q : Exit → Act → World → Prop} (B m : Nat) (w : World) (v : Value) (xss : List (List Int)) (u : Value) (xs : List Int) (s x : Operand)
    (ho : o.op = .call { callee := .builtin .append, args := #[s, x], argTypes := #[24, 24] })
    (hs : a.eval s = v) (hown : OwnRowsIn B m w v xss) (hu : Own m w u xs) (hx : a.eval x = .slice (some ⟨w.heap.size, 0, none⟩) 1 1) (hn : xss.length ≤ 1099511627776) (hB : B ≤ m) (hB2 : B ≤ w.heap.size)
    (h : ∀ g c' w', OwnRows B w' (.slice (some ⟨g, 0, none⟩) (xss.length + 1) c') (xss ++ [xs]) → Keep (fun b => v.ownBlock = some b) w w' → (v.ownBlock = some g ∨ w.heap.size ≤ g) → K (a.put o.dst (.slice (some ⟨g, 0, none⟩) (xss.length + 1) c')) w') :
    o.wp Try.prog a (w.alloc (.cells #[u] 27)) K Q := by
  obtain ⟨us, h1, h2, _, hlt⟩ := hown
  have h2' := rowvals_snoc h2 hlt hu hB
  have hlen := h2.len
  obtain ⟨ua, uc, hu1, _⟩ := hu.shape
  obtain ⟨i0, hi, hz0, hz1, hz2⟩ := info_parts inf_ints
  refine wp_append_lies _ s x 24 ho B 27 i0 (.slice none 0 0) 1 24 Try.underlying24 hi hz0 hz1 hz2 rfl (by decide) v us.length us hs (h1.alloc _) ⟨w.heap.size, 0, none⟩ 1 1 [u] hx rfl ?_ ?_ (by decide) (by unfold maxLen; omega) (by omega) (by simp; omega) (w.heap.size + 1) (by simp) ?_
  · intro j u' hj
    match j, hj with
    | 0, hj => simp at hj; subst hj; simp [Addr.add]
  · intro u' hu'; simp at hu'; subst hu'; subst hu1; rfl
  · intro g cap w' h3 h4 h5 _
    have hk := Keep.of_grown h4
    have hk2 : Keep (fun b => v.ownBlock = some b) w w' := ((Keep.refl _ w).alloc _).trans hk
    rw [hlen] at h3 ⊢
    refine h g cap w' ⟨us ++ [u], by simpa [hlen] using h3, rowvals_keepT h2' h1 hk2⟩ hk2 (by rcases h5 with h5 | h5; exact .inl h5; exact .inr (by omega))

theorem wpList_app_row2 {ops : Array Oper} {rest : List Oper} {o : Oper} {a : Act} {Q : Exit → Act → World → Prop} (B m : Nat) (w : World) (v : Value) (xss : List (List Int)) (u : Value) (xs : List Int) (s x : Operand) (hgd : o.guard = none)
    (ho : o.op = .call { callee := .builtin .append, args := #[s, x], argTypes := #[24, 24] })
    (hs : a.eval s = v) (hown : OwnRowsIn B m w v xss) (hu : Own m w u xs) (hx : a.eval x = .slice (some ⟨w.heap.size, 0, none⟩) 1 1) (hn : xss.length ≤ 1099511627776) (hB : B ≤ m) (hB2 : B ≤ w.heap.size)
    (h : ∀ g c' w', OwnRows B w' (.slice (some ⟨g, 0, none⟩) (xss.length + 1) c') (xss ++ [xs]) → Keep (fun b => v.ownBlock = some b) w w' → (v.ownBlock = some g ∨ w.heap.size ≤ g) → wpList Try.prog ops Q rest (a.put o.dst (.slice (some ⟨g, 0, none⟩) (xss.length + 1) c')) w') :
    wpList Try.prog ops Q (o :: rest) a (w.alloc (.cells #[u] 27)) :=
  wpList_plain hgd fun _ hK => wp_app_row2 B m w v xss u xs s x ho hs hown hu hx hn hB hB2 fun g c' w' h2 h3 h4 => hK _ _ (h g c' w' h2 h3 h4)

theorem step_app_row2 {ops : Array Oper} {o : Oper} {a : Act} {K : Act → World → Prop} {Q : Exit → Act → World → Prop} {E : Prop} (B m : Nat) (w : World) (v : Value) (xss : List (List Int)) (u : Value) (xs : List Int) (s x : Operand) (hgd : o.guard = none)
    (ho : o.op = .call { callee := .builtin .append, args := #[s, x], argTypes := #[24, 24] })
    (hs : a.eval s = v) (hown : OwnRowsIn B m w v xss) (hu : Own m w u xs) (hx : a.eval x = .slice (some ⟨w.heap.size, 0, none⟩) 1 1) (hn : xss.length ≤ 1099511627776) (hB : B ≤ m) (hB2 : B ≤ w.heap.size)
    (h : ∀ g c' w', OwnRows B w' (.slice (some ⟨g, 0, none⟩) (xss.length + 1) c') (xss ++ [xs]) → Keep (fun b => v.ownBlock = some b) w w' → (v.ownBlock = some g ∨ w.heap.size ≤ g) → K (a.put o.dst (.slice (some ⟨g, 0, none⟩) (xss.length + 1) c')) w') :
    if Region.wanted o (yielded ops a.tmps) = true then Oper.wp Try.prog o a (w.alloc (.cells #[u] 27)) K Q else E := by
  have hw : Region.wanted o (yielded ops a.tmps) = true := by simp [Region.wanted, hgd]
  rw [if_pos hw]
  exact wp_app_row2 B m w v xss u xs s x ho hs hown hu hx hn hB hB2 h
end Go.Proofs.Ytkghonhghbcdlaa

namespace Go.Proofs.Ytkghonhghbcdlaa
set_option linter.unusedVariables false
set_option linter.unusedSimpArgs false
open Go.RowKit

/-- The result can be read; nothing that was there has turned. -/
def RSolR (w0 : World) (A B : List (List Int)) (e : Ending) (w' : World) : Prop := ∃ r1 r2, e = .returned (.agg #[r1, r2]) ∧ (OwnRows w0.heap.size w' r1 A ∧ OwnRows w0.heap.size w' r2 B) ∧ Below w0.heap.size w0 w'

theorem rowOf_self (p : List Int) : rowOf p.length (nth p) = p := by
  apply ext_nth (by simp)
  intro k hk
  rw [nth_rowOf p.length (nth p) k (by simpa using hk)]

theorem rowOf_const (n : Nat) (c : Int) : rowOf n (fun _ => c) = List.replicate n c := by
  unfold rowOf
  rw [List.map_const']
  simp

theorem OwnRows.shape' {B : Nat} {w : World} {v : Value} {xss : List (List Int)} (h : OwnRows B w v xss) : ∃ a c, v = .slice a xss.length c ∧ Rows w (.slice a xss.length c) xss := by
  have hr := h.rows
  obtain ⟨a, c, rfl, _⟩ := hr.shape
  exact ⟨a, c, rfl, hr⟩

set_option maxHeartbeats 1000000 in
theorem c_l02Twist (v v' : Value) (p q : List Int) (w : World) (hp : Ints w v p) (hq : Ints w v' q) (hl : q.length = p.length) (hn : p.length ≤ 1048576) :
    Calls Try.prog 146 #[v, v'] w (RSolR w (twA p) (twB p q)) := by
  obtain ⟨a, c, rfl, hc, hm⟩ := hp.shape
  obtain ⟨a', c', rfl, hc', hm'⟩ := hq.shape
  have HL := Lib.hid hl; clear hl
  obtain ⟨f0, f1, hW0, hsz⟩ := boxes2 w [.slice none 0 0, .slice none 0 0] [.slice none 0 0, .slice none 0 0] 26 26
  go_enter Try.func146, Try.ntmps146
  go_wp2
  have hB0 : Below w.heap.size w ((w.alloc (.cells #[.slice none 0 0, .slice none 0 0] 26)).alloc (.cells #[.slice none 0 0, .slice none 0 0] 26)) := hW0
  go_loopw [6, 7, 8] (fun i _ _ wr => ∃ (k : Nat) (va vb : Value), k ≤ p.length ∧ i = .int .i64 k ∧ Hid (Below w.heap.size w wr ∧ w.heap.size + 2 ≤ wr.heap.size) ∧ Hid (Blk wr w.heap.size 26 [.slice none 0 0, .slice none 0 0]) ∧ Hid (Blk wr (w.heap.size + 1) 26 [va, vb]) ∧
    Hid (OwnRows (w.heap.size + 2) wr va ((twA p).take k)) ∧ Hid (OwnRows (w.heap.size + 2) wr vb ((twB p q).take k)) ∧ Hid (∀ b, va.ownBlock = some b → vb.ownBlock ≠ some b)) (fun i _ _ _ => p.length - (intOf i).toNat)
  case atStart => exact ⟨0, _, _, Nat.zero_le _, rfl, Lib.hid ⟨hB0, by simp⟩, Lib.hid f0, Lib.hid f1, Lib.hid ⟨[], ⟨by simp, .inl ⟨rfl, rfl⟩⟩, RowVals.nil _ _⟩, Lib.hid ⟨[], ⟨by simp, .inl ⟨rfl, rfl⟩⟩, RowVals.nil _ _⟩, Lib.hid (by intro b hb; cases hb)⟩
  case round =>
    clear hB0 f0 f1 hW0 hsz
    obtain ⟨k, va, vb, hk, rfl, HB, HQ0, HQ1, HA, HBt, HNE⟩ := hrel
    obtain ⟨wo, rfl⟩ : ∃ wo : World, wo = wr := ⟨_, rfl⟩
    by_cases hlt : k < p.length
    · have hkq : k < q.length := by rw [HL.out]; exact hlt
      go_wp2
      go_loopw [7, 8] (fun s y wi => ∃ (j : Nat) (sa : Option Addr) (sc : Nat), j ≤ p.length ∧ y = .int .i64 j ∧ s = .slice sa j sc ∧ Below wo.heap.size wo wi ∧ Own wo.heap.size wi (.slice sa j sc) (List.replicate j (nth q k))) (fun _ y _ => p.length - (intOf y).toNat)
      case atStart => exact ⟨0, _, _, Nat.zero_le _, rfl, rfl, (Below.refl _ _).alloc (Nat.le_refl _) _, Own.made0 wo (Nat.le_refl _)⟩
      case round =>
        obtain ⟨j, sa, sc, hj, rfl, rfl, hb, hown⟩ := hrel
        by_cases hlj : j < p.length
        · obtain ⟨b, o, rfl, hcell⟩ := ((hq.below HB.out.1).below hb).get k hkq
          have Hb := Lib.hid hb; have Ho := Lib.hid hown; have Hs := Lib.hid hb.size; clear hb hown
          go_wp2_with (at_builtin; refine wpList_app_int wo.heap.size wr _ (List.replicate j (nth q k)) (nth q k) _ _ rfl rfl rfl Ho.out rfl (by simp; omega) Hs.out ?_; intro a' c' w' hown' hkeep; rw [List.length_replicate]; have Hk := Lib.hid hkeep; have Ho' := Lib.hid hown'; clear hkeep hown')
          go_roundw
          case rel =>
            have h1 := Ho'.out
            rw [List.length_replicate, ← List.replicate_succ'] at h1
            exact ⟨j + 1, a', c', by omega, by go_num, rfl, Ho.out.frame Hb.out (Nat.le_refl _) Hs.out Hk.out, h1⟩
          case measure => simp [intOf]; omega
        · obtain rfl : j = p.length := by omega
          obtain ⟨wi, rfl⟩ : ∃ wi : World, wi = wr := ⟨_, rfl⟩
          have Hb := Lib.hid hb; have Ho := Lib.hid hown; clear hb hown
          have HQ1d := Lib.hid ((HQ1.out.under Hb.out).drew)
          obtain ⟨cA, cB, cF, cG⟩ := two_cells HQ1d.out
          have hpd := ((hp.below HB.out.1).below Hb.out).below ((Below.refl wi.heap.size wi).drew)
          have hAd := (HA.out.inn.under Hb.out).under ((Below.refl wi.heap.size wi).drew)
          have hlen : ((twA p).take k).length = k := by simp [twA]; omega
          have hBW := HB.out.2
          have hbs := Hb.out.size
          have HPd := Lib.hid hpd; have HAd := Lib.hid hAd; have HLen := Lib.hid hlen; have HBW := Lib.hid hBW; have Hbs := Lib.hid hbs
          have HK1 : Hid (((twA p).take k).length ≤ 1099511627776) := by show _ ≤ _; rw [hlen]; omega
          have HB2s : Hid (w.heap.size + 2 ≤ wi.heap.size) := by show _ ≤ _; omega
          clear hpd hAd hlen hBW hbs
          go_wp2
          go_region_law (first
            | (go_simp; go_at_call 124; refine (c_l01Own _ p _ HPd.out (by omega)).mono ?_; rintro e w1 ⟨r1, rfl, ho1', hb1'⟩; obtain ⟨ra1, rc1, rfl, _⟩ := ho1'.shape; have ho1 := Lib.hid ho1'; have hb1 := Lib.hid hb1'; have HAd1 := Lib.hid (HAd.out.under hb1'); have HB1s : Hid (w.heap.size + 2 ≤ w1.heap.size) := Nat.le_trans HB2s.out hb1'.size; obtain ⟨cA1, cB1, cF1, cG1⟩ := two_cells (HQ1d.out.under hb1'); have cA1z : (w1.alloc (.cells #[.slice ra1 p.length rc1] 27)).cell? ⟨w.heap.size + 1, 0, none⟩ = some va := (two_cells ((HQ1d.out.under hb1').alloc _)).1; clear ho1' hb1')
            | (refine step_app_row2 (w.heap.size + 2) wo.heap.size w1 va ((twA p).take k) (.slice ra1 p.length rc1) p (.tmp 31) (.tmp 34) rfl rfl rfl HAd1.out (ho1.out.mono Hbs.out) rfl HK1.out HBW.out HB1s.out ?_; intro g c2 w2 hown2 hk2 hg2; rw [HLen.out] at hown2; rw [HLen.out]
               have hq1 : ∀ b, va.ownBlock = some b → w.heap.size + 2 ≤ b := fun b e => (OwnRows.lt HA.out e).1
               have hQ2 := (HQ1d.out.under hb1.out).of_block (hk2.block _ (HQ1d.out.under hb1.out).lt (fun e => by have := hq1 _ e; omega))
               obtain ⟨cA2, cB2, cF2, cG2⟩ := two_cells hQ2
               have HQ2 := Lib.hid hQ2; have HK2 := Lib.hid hk2; have HG2 := Lib.hid hg2; have Hown2 := Lib.hid hown2; clear hQ2 hk2 hg2 hown2 hq1))
          all_goals
            have hbw := HBW.out
            have hva : ∀ b, va.ownBlock = some b → w.heap.size + 2 ≤ b ∧ b < wo.heap.size := fun b e => OwnRows.lt HA.out e
            have hvb : ∀ b, vb.ownBlock = some b → w.heap.size + 2 ≤ b ∧ b < wo.heap.size := fun b e => OwnRows.lt HBt.out e
            have hs1 : wo.heap.size ≤ w1.heap.size := Nat.le_trans Hbs.out hb1.out.size
            have hQ3 := HQ2.out.set 0 (.slice (some ⟨g, 0, none⟩) (k + 1) c2)
            have hA3 := Hown2.out.keep (keep1 w2 (w.heap.size + 1) 0 (.slice (some ⟨g, 0, none⟩) (k + 1) c2)) (fun b h1 h2 h3 => by have h3 : b = w.heap.size + 1 := h3; omega)
            have hB1 := ((HBt.out.inn.under Hb.out).under ((Below.refl wi.heap.size wi).drew)).under hb1.out
            have hB3 := (hB1.keepT HAd1.out.out (fun b e1 e2 => HNE.out b e2 e1) HK2.out).keep (keep1 w2 (w.heap.size + 1) 0 (.slice (some ⟨g, 0, none⟩) (k + 1) c2)) (fun b h1 h2 h3 => by have h3 : b = w.heap.size + 1 := h3; omega)
            have hu1 := (Ho.out.under ((Below.refl wi.heap.size wi).drew)).under hb1.out
            have hu3 := (hu1.keep HK2.out (fun b h1 h2 h3 => by have := hva b h3; omega)).keep (keep1 w2 (w.heap.size + 1) 0 (.slice (some ⟨g, 0, none⟩) (k + 1) c2)) (fun b h1 h2 h3 => by have h3 : b = w.heap.size + 1 := h3; omega)
            have hW1 : Below w.heap.size w w1 := bb (bb (bb HB.out.1 Hb.out) ((Below.refl wi.heap.size wi).drew)) hb1.out
            have hW3 := (OwnRows.frame HAd1.out.out hW1 (by omega) (by omega) HK2.out).setCell (p := ⟨w.heap.size + 1, 0, none⟩) (by show _ ≤ w.heap.size + 1; omega) (.slice (some ⟨g, 0, none⟩) (k + 1) c2)
            have hZ1 := (((HQ0.out.under Hb.out).drew).under hb1.out)
            have hZ3 := (hZ1.of_block (HK2.out.block _ hZ1.lt (fun e => by have := hva _ e; omega))).other (a := ⟨w.heap.size + 1, 0, none⟩) (by show w.heap.size ≠ w.heap.size + 1; omega) (.slice (some ⟨g, 0, none⟩) (k + 1) c2)
            have hne3 : ∀ b, (Value.slice (some ⟨g, 0, none⟩) (k + 1) c2).ownBlock = some b → vb.ownBlock ≠ some b := by
              intro b e e2
              simp [Value.ownBlock] at e
              subst e
              rcases HG2.out with h | h
              · exact HNE.out _ h e2
              · have := hvb _ e2; omega
            have hs3 : w1.heap.size ≤ (w2.setCell ⟨w.heap.size + 1, 0, none⟩ (.slice (some ⟨g, 0, none⟩) (k + 1) c2)).heap.size := by simpa [World.setCell] using HK2.out.size
            obtain ⟨w3, hw3⟩ : ∃ w3, w2.setCell ⟨w.heap.size + 1, 0, none⟩ (.slice (some ⟨g, 0, none⟩) (k + 1) c2) = w3 := ⟨_, rfl⟩
            rw [hw3] at hQ3 hA3 hB3 hu3 hW3 hZ3 hs3 ⊢
            obtain ⟨dA, dB, dF, dG⟩ := two_cells hQ3
            have hlb : ((twB p q).take k).length = k := by simp [twB]; omega
            have HLB := Lib.hid hlb
            have HB3 := Lib.hid hB3; have HU3 := Lib.hid hu3; have HQ3 := Lib.hid hQ3; have HA3 := Lib.hid hA3; have HW3 := Lib.hid hW3; have HZ3 := Lib.hid hZ3; have HN3 := Lib.hid hne3; have HVB := Lib.hid hvb
            have HK3 : Hid (((twB p q).take k).length ≤ 1099511627776) := by show _ ≤ _; rw [hlb]; omega
            have HS3 : Hid (w.heap.size + 2 ≤ w3.heap.size ∧ wo.heap.size ≤ w3.heap.size) := by have := HBW.out; exact ⟨by omega, by omega⟩
            have HG3 : Hid (g < w3.heap.size) := (OwnRows.lt hA3 rfl).2
            clear hbw hlb hB3 hu3 hQ3 hA3 hW3 hZ3 hne3 hvb hva hs1 hs3 hW1 hZ1 hu1 hB1 cA1 cA1z cB1 cF1 cG1 cA2 cB2 cF2 cG2 cA cB cF cG hw3
            go_wp2_with (at_builtin; refine wpList_app_row2 (w.heap.size + 2) wo.heap.size w3 vb ((twB p q).take k) _ (List.replicate p.length (nth q k)) _ _ rfl rfl rfl HB3.out HU3.out rfl HK3.out HBW.out HS3.out.1 ?_; intro g2 c4 w4 hown4 hk4 hg4; rw [HLB.out] at hown4; rw [HLB.out]; have hQ4 := HQ3.out.of_block (hk4.block _ HQ3.out.lt (fun e => by have := (HVB.out _ e).1; omega)); obtain ⟨eA, eB, eF, eG⟩ := two_cells hQ4; have HQ4 := Lib.hid hQ4; have Hown4 := Lib.hid hown4; have HK4 := Lib.hid hk4; have HG4 := Lib.hid hg4; clear hQ4 hown4 hk4 hg4)
            go_roundw
            case rel =>
              have hbw := HBW.out
              have hs3 := HS3.out
              have hs4 := HK4.out.size
              have hQ5 := HQ4.out.set 1 (.slice (some ⟨g2, 0, none⟩) (k + 1) c4)
              have hB5 := Hown4.out.keep (keep1 w4 (w.heap.size + 1) 1 (.slice (some ⟨g2, 0, none⟩) (k + 1) c4)) (fun b h1 h2 h3 => by have h3 : b = w.heap.size + 1 := h3; omega)
              have hA5 := (HA3.out.keepT HB3.out.out (fun b e1 e2 => HN3.out b e1 e2) HK4.out).keep (keep1 w4 (w.heap.size + 1) 1 (.slice (some ⟨g2, 0, none⟩) (k + 1) c4)) (fun b h1 h2 h3 => by have h3 : b = w.heap.size + 1 := h3; omega)
              have hW5 := (OwnRows.frame HB3.out.out HW3.out (by omega) (by omega) HK4.out).setCell (p := ⟨w.heap.size + 1, 1, none⟩) (by show _ ≤ w.heap.size + 1; omega) (.slice (some ⟨g2, 0, none⟩) (k + 1) c4)
              have hZ5 := (HZ3.out.of_block (HK4.out.block _ HZ3.out.lt (fun e => by have := (HVB.out _ e).1; omega))).other (a := ⟨w.heap.size + 1, 1, none⟩) (by show w.heap.size ≠ w.heap.size + 1; omega) (.slice (some ⟨g2, 0, none⟩) (k + 1) c4)
              have hs5 : w.heap.size + 2 ≤ (w4.setCell ⟨w.heap.size + 1, 1, none⟩ (.slice (some ⟨g2, 0, none⟩) (k + 1) c4)).heap.size := by have : w3.heap.size ≤ w4.heap.size := hs4; simp [World.setCell]; omega
              refine ⟨k + 1, .slice (some ⟨g, 0, none⟩) (k + 1) c2, .slice (some ⟨g2, 0, none⟩) (k + 1) c4, by omega, by go_num, Lib.hid ⟨hW5, hs5⟩, Lib.hid hZ5, Lib.hid hQ5, Lib.hid ?_, Lib.hid ?_, Lib.hid fun b e1 e2 => ?_⟩
              · rw [take_snoc_row _ _ (by simp [twA]; omega)]
                unfold twA
                rw [row_tabOf _ _ _ hlt, rowOf_self]
                exact hA5
              · rw [take_snoc_row _ _ (by simp [twB]; omega)]
                unfold twB
                rw [row_tabOf _ _ _ hlt, rowOf_const]
                exact hB5
              · simp [Value.ownBlock] at e1 e2
                subst e1
                subst e2
                rcases HG4.out with h | h
                · exact HN3.out _ rfl h
                · have := HG3.out; omega
            case measure => simp [intOf]; omega
    · obtain rfl : k = p.length := by omega
      have hA := HA.out
      have hB := HBt.out
      rw [List.take_of_length_le (by simp [twA])] at hA
      rw [List.take_of_length_le (by simp [twB])] at hB
      obtain ⟨ra1, rc1, rfl, hca⟩ := OwnRows.shape' hA
      obtain ⟨ra2, rc2, rfl, hcb⟩ := OwnRows.shape' hB
      obtain ⟨z0, z1, z2, z3⟩ := two_cells HQ0.out
      obtain ⟨y0, y1, y2, y3⟩ := two_cells HQ1.out
      have HA' := Lib.hid hA; have HB' := Lib.hid hB; clear hA hB hca hcb
      go_wp2
      refine bodyPost_ret (v := .agg #[.slice ra1 (twA p).length rc1, .slice ra2 (twB p q).length rc2]) (by simp [results, Try.results146, go_sem, z0, z1]) rfl ⟨_, _, rfl, ⟨?_, ?_⟩, (HB.out.1.setCell (p := ⟨w.heap.size, 0, none⟩) (Nat.le_refl _) _).setCell (p := ⟨w.heap.size, 1, none⟩) (Nat.le_refl _) _⟩
      · exact ((HA'.out.keep (keep1 _ w.heap.size 0 _) (fun b h1 h2 h3 => by have h3 : b = w.heap.size := h3; omega)).keep (keep1 _ w.heap.size 1 _) (fun b h1 h2 h3 => by have h3 : b = w.heap.size := h3; omega)).mono (by omega)
      · exact ((HB'.out.keep (keep1 _ w.heap.size 0 _) (fun b h1 h2 h3 => by have h3 : b = w.heap.size := h3; omega)).keep (keep1 _ w.heap.size 1 _) (fun b h1 h2 h3 => by have h3 : b = w.heap.size := h3; omega)).mono (by omega)
/-- A pair of tables that can be read, all of it below hi. -/
def RdSol (lo hi : Nat) (w : World) (v1 v2 : Value) (A B : List (List Int)) : Prop := ∃ w0 : World, lo = 0 ∧ Sol w0 v1 v2 A B ∧ w0.heap.size ≤ hi ∧ Below w0.heap.size w0 w
theorem RdSol.sol {lo hi : Nat} {w : World} {v1 v2 : Value} {A B : List (List Int)} (h : RdSol lo hi w v1 v2 A B) : Sol w v1 v2 A B := by
  obtain ⟨w0, _, h1, _, h2⟩ := h
  exact h1.below h2
theorem RdSol.under {lo hi : Nat} {w w' : World} {v1 v2 : Value} {A B : List (List Int)} (h : RdSol lo hi w v1 v2 A B) (hb : Below w.heap.size w w') : RdSol lo hi w' v1 v2 A B := by
  obtain ⟨w0, h0, h1, h3, h2⟩ := h
  exact ⟨w0, h0, h1, h3, bb h2 hb⟩
theorem RdSol.keep {lo hi : Nat} {S : Nat → Prop} {w w' : World} {v1 v2 : Value} {A B : List (List Int)} (h : RdSol lo hi w v1 v2 A B) (k : Keep S w w') (hs : ∀ b, lo ≤ b → b < hi → ¬ S b) : RdSol lo hi w' v1 v2 A B := by
  obtain ⟨w0, h0, h1, h3, h2⟩ := h
  subst h0
  exact ⟨w0, rfl, h1, h3, h2.trans (k.below fun b hb => ⟨by have := h2.size; omega, hs b (Nat.zero_le _) (by omega)⟩)⟩
def RSolRC (w0 : World) (A B : List (List Int)) (c : Int) (e : Ending) (w' : World) : Prop := ∃ r1 r2, e = .returned (.tuple #[.agg #[r1, r2], .int .i64 c]) ∧ RdSol 0 w'.heap.size w' r1 r2 A B ∧ Below w0.heap.size w0 w'

theorem OwnRowsIn.nil0 (lo hi : Nat) (w : World) : OwnRowsIn lo hi w (.slice none 0 0) [] :=
  ⟨[], ⟨by simp, .inl ⟨rfl, rfl⟩⟩, RowVals.nil _ _, (by intro k hk; cases hk), (by intro i hi; simp at hi)⟩
theorem OwnSol.nil0 {lo hi : Nat} {w : World} (h : lo ≤ hi) : OwnSol lo hi w (.slice none 0 0) (.slice none 0 0) [] [] :=
  ⟨lo, lo, lo, lo, Nat.le_refl _, h, Nat.le_refl _, h, .inl (Nat.le_refl _), OwnRowsIn.nil0 _ _ _, OwnRowsIn.nil0 _ _ _⟩

theorem total_le (t : List (List Int)) (h : ∀ r ∈ t, r.length ≤ 12) : total t ≤ t.length * 12 := by
  induction t with
  | nil => simp [total]
  | cons r t ih =>
    have h1 := h r (by simp)
    have h2 := ih fun r hr => h r (by simp [hr])
    simp only [total, List.length_cons]
    omega
theorem tab_rows {n : Nat} {g : Int → Int → Int} (hn : n ≤ 12) : ∀ r ∈ tabOf n g, r.length ≤ 12 := by
  intro r hr
  simp only [tabOf, List.mem_map] at hr
  obtain ⟨x, _, rfl⟩ := hr
  simpa using hn
end Go.Proofs.Ytkghonhghbcdlaa

namespace Go.Proofs.Ytkghonhghbcdlaa
set_option linter.unusedVariables false
set_option linter.unusedSimpArgs false
open Go.RowKit

def ivF (A B : List (List Int)) (x y : Nat) : Bool := decide (val2 A (val2 A x y) (val2 B x y) = x) && decide (val2 B (val2 A x y) (val2 B x y) = y)
def involL (A B : List (List Int)) : Bool := all2 A.length (ivF A B)


set_option maxRecDepth 100000 in
set_option maxHeartbeats 800000 in
theorem c_isInvolutive (v0 u0 : Value) (A B : List (List Int)) (w : World) (hA : Sol w v0 u0 A B) (hp : isPM A B = true) :
    Calls Try.prog 62 #[.agg #[v0, u0]] w (RVal w (.bool (involL A B))) := by
  obtain ⟨n0, b0, o0, c0, rb0, ro0, rc0, b0s, o0s, c0s, rb0s, ro0s, rc0s, rfl, rfl, hl0, hl0s, hn0, hx0, hc0, hm0, hc0s, hm0s, t0, t0s⟩ := hA.tabs hp
  have HL0 := Lib.hid hl0; clear hl0
  have HL0s := Lib.hid hl0s; clear hl0s
  go_enter Try.func62, Try.ntmps62
  go_wp2
  obtain ⟨f0, hW0, hsz⟩ := boxes1 w [.slice (some ⟨b0, o0, none⟩) n0 c0, .slice (some ⟨b0s, o0s, none⟩) n0 c0s] 26
  obtain ⟨W0, hW⟩ : ∃ W, (w.alloc (.cells #[.slice (some ⟨b0, o0, none⟩) n0 c0, .slice (some ⟨b0s, o0s, none⟩) n0 c0s] 26)) = W := ⟨_, rfl⟩
  rw [hW] at f0 hW0 hsz ⊢
  have HSZ := Lib.hid hsz
  clear hW hsz
  obtain ⟨cA0, cB0, -, -⟩ := two_cells f0
  replace t0 := t0.below hW0; replace t0s := t0s.below hW0
  have HT := Lib.hid t0; have HTs := Lib.hid t0s; have HW := Lib.hid hW0; have HF := Lib.hid f0
  clear t0 t0s hA hp hW0 f0
  go_loop [11, 3, 4, 5, 6, 7] (fun i _ _ _ _ _ => ∃ k : Nat, k ≤ n0 ∧ i = .int .i64 k ∧ Hid (∀ x, x < k → ∀ y, y < n0 → ivF A B x y = true)) (fun i _ _ _ _ _ => n0 - (intOf i).toNat)
  case atStart => exact ⟨0, Nat.zero_le _, rfl, Lib.hid (by intro x hx; omega)⟩
  case round =>
    obtain ⟨k, hk, rfl, HA⟩ := hrel
    by_cases hlt : k < n0
    · have r1 := HT.out.row k hlt
      go_wp2
      go_loop [18, 5, 6, 7] (fun i _ _ _ => ∃ j : Nat, j ≤ n0 ∧ i = .int .i64 j ∧ Hid (∀ y, y < j → ivF A B k y = true)) (fun i _ _ _ => n0 - (intOf i).toNat)
      case atStart => exact ⟨0, Nat.zero_le _, rfl, Lib.hid (by intro x hx; omega)⟩
      case round =>
        obtain ⟨j, hj, rfl, HA2⟩ := hrel
        by_cases hlj : j < n0
        · have T := HT.out; have Ts := HTs.out
          have x1 := T.val k j hlt hlj; have r2 := Ts.row k hlt; have x2 := Ts.val k j hlt hlj
          obtain ⟨hu0, hu1⟩ := T.rng k j (by omega) (by omega) (by omega) (by omega)
          obtain ⟨hv0, hv1⟩ := Ts.rng k j (by omega) (by omega) (by omega) (by omega)
          have r3 := T.rowi (val2 A k j) hu0 hu1; have x3 := T.vali (val2 A k j) (val2 B k j) hu0 hu1 hv0 hv1
          have r4 := Ts.rowi (val2 A k j) hu0 hu1; have x4 := Ts.vali (val2 A k j) (val2 B k j) hu0 hu1 hv0 hv1
          clear T Ts
          by_cases h1 : val2 A (val2 A k j) (val2 B k j) = k
          · have e1 : (val2 A (val2 A k j) (val2 B k j) != (k : Int)) = false := by simp [h1]
            by_cases h2 : val2 B (val2 A k j) (val2 B k j) = j
            · have e2 : (val2 B (val2 A k j) (val2 B k j) != (j : Int)) = false := by simp [h2]
              have H1 := Lib.hid h1; have H2 := Lib.hid h2; clear h1 h2
              go_wp2
              go_round
              case rel => exact ⟨j + 1, by omega, by go_num, Lib.hid (lt_snoc HA2.out (by simp [ivF, H1.out, H2.out]))⟩
              case measure => simp [intOf]; omega
            · have e2 : (val2 B (val2 A k j) (val2 B k j) != (j : Int)) = true := by simp [h2]
              have H2 := Lib.hid h2; clear h1 h2
              go_wp2
              go_ret
              exact ⟨ret_bool (by simp [involL, HL0.out, all2_no hlt hlj (P := ivF A B) (by simp [ivF, H2.out])]), HW.out⟩
          · have e1 : (val2 A (val2 A k j) (val2 B k j) != (k : Int)) = true := by simp [h1]
            have H1 := Lib.hid h1; clear h1
            go_wp2
            go_ret
            exact ⟨ret_bool (by simp [involL, HL0.out, all2_no hlt hlj (P := ivF A B) (by simp [ivF, H1.out])]), HW.out⟩
        · obtain rfl : j = n0 := by omega
          go_wp2
          go_round
          case rel => exact ⟨k + 1, by omega, by go_num, Lib.hid (lt_snoc HA.out HA2.out)⟩
          case measure => simp [intOf]; omega
    · obtain rfl : k = n0 := by omega
      go_wp2
      go_ret
      exact ⟨ret_bool (by simp [involL, HL0.out, all2_iff.2 HA.out]), HW.out⟩

def pmCode' (A B : List (List Int)) : Int := if isPM A B then 0 else 1
def involRes (A B : List (List Int)) : Bool := if isPM A B then involL A B else false
set_option maxHeartbeats 800000 in
theorem c_IsInvolutive (v0 u0 : Value) (A B : List (List Int)) (w : World) (hA : Sol w v0 u0 A B) :
    Calls Try.prog 21 #[.agg #[v0, u0]] w (RVal w (.tuple #[.bool (involRes A B), .int .i64 (pmCode' A B)])) := by
  obtain ⟨a0, c0, rfl, _, _⟩ := hA.1.shape
  obtain ⟨a0s, c0s, rfl, _, _⟩ := hA.2.shape
  by_cases hp0 : isPM A B = true
  case neg =>
    have hq0 : isPM A B = false := by simpa using hp0
    have HQ := Lib.hid hq0; clear hp0
    go_enter Try.func21, Try.ntmps21
    go_wp2_with fail
    obtain ⟨f0, hW0, hsz⟩ := boxes1 w [.slice a0 A.length c0, .slice a0s B.length c0s] 26
    obtain ⟨W0, hW⟩ : ∃ W, (w.alloc (.cells #[.slice a0 A.length c0, .slice a0s B.length c0s] 26)) = W := ⟨_, rfl⟩
    rw [hW] at f0 hW0 hsz ⊢
    clear hW hsz
    refine (c_IsPairMap _ _ _ _ _ (hA.below hW0)).mono ?_; rintro e g0 ⟨rfl, hbg0⟩
    have hB0 := bb hW0 hbg0
    replace f0 := f0.under hbg0
    obtain ⟨cA0, cB0, -, -⟩ := two_cells f0
    clear hbg0
    have HB := Lib.hid hB0
    clear hB0 f0 hW0 hA
    go_wp2
    go_ret2
    exact ⟨by simp [involRes, pmCode', HQ.out], HB.out⟩
  have HP0 := Lib.hid hp0
  go_enter Try.func21, Try.ntmps21
  go_wp2_with fail
  obtain ⟨f0, hW0, hsz⟩ := boxes1 w [.slice a0 A.length c0, .slice a0s B.length c0s] 26
  obtain ⟨W0, hW⟩ : ∃ W, (w.alloc (.cells #[.slice a0 A.length c0, .slice a0s B.length c0s] 26)) = W := ⟨_, rfl⟩
  rw [hW] at f0 hW0 hsz ⊢
  clear hW hsz
  refine (c_IsPairMap _ _ _ _ _ (hA.below hW0)).mono ?_; rintro e g0 ⟨rfl, hbg0⟩
  have hB0 := bb hW0 hbg0
  replace f0 := f0.under hbg0
  obtain ⟨cA0, cB0, -, -⟩ := two_cells f0
  clear hbg0
  go_wp2_with fail
  refine (c_isInvolutive _ _ _ _ _ (hA.below hB0) HP0.out).mono ?_; rintro e wz ⟨rfl, hb⟩
  have HB := Lib.hid (bb hB0 hb)
  clear hb hB0 f0 hW0 hA
  go_wp2
  go_ret2
  exact ⟨by simp [involRes, pmCode', HP0.out], HB.out⟩
end Go.Proofs.Ytkghonhghbcdlaa

namespace Go.Proofs.Ytkghonhghbcdlaa
set_option linter.unusedVariables false
set_option linter.unusedSimpArgs false
open Go.RowKit

theorem Rows.any {w : World} {v : Value} {t : List (List Int)} (h : Rows w v t) : ∃ a l c, v = .slice a l c := by
  obtain ⟨a, c, rfl, _, _⟩ := h.shape
  exact ⟨_, _, _, rfl⟩
theorem OwnRows.any {B : Nat} {w : World} {v : Value} {t : List (List Int)} (h : OwnRows B w v t) : ∃ a l c, v = .slice a l c := h.rows.any
theorem storedR {w w2 : World} {r1 r2 : Value} {A B : List (List Int)} {lo q : Nat} (hB : Below w.heap.size w w2) (hs : OwnRows lo w2 r1 A ∧ OwnRows lo w2 r2 B) (hq : w.heap.size ≤ q) (hlo : q < lo) :
    RdSol 0 ((w2.setCell ⟨q, 0, none⟩ r1).setCell ⟨q, 1, none⟩ r2).heap.size ((w2.setCell ⟨q, 0, none⟩ r1).setCell ⟨q, 1, none⟩ r2) r1 r2 A B ∧ Below w.heap.size w ((w2.setCell ⟨q, 0, none⟩ r1).setCell ⟨q, 1, none⟩ r2) := by
  have k : Keep (fun b => b = q) w2 ((w2.setCell ⟨q, 0, none⟩ r1).setCell ⟨q, 1, none⟩ r2) := ((Keep.refl (fun b => b = q) w2).setCell (p := ⟨q, 0, none⟩) (.inl rfl) _).setCell (p := ⟨q, 1, none⟩) (.inl rfl) _
  exact ⟨⟨_, rfl, ⟨(hs.1.keep k (fun b h1 _ h3 => by omega)).rows, (hs.2.keep k (fun b h1 _ h3 => by omega)).rows⟩, Nat.le_refl _, Below.refl _ _⟩, (hB.setCell (p := ⟨q, 0, none⟩) hq _).setCell (p := ⟨q, 1, none⟩) hq _⟩
theorem rsolR_of {w : World} {A B : List (List Int)} {e : Ending} {w' : World} (h : RSol w A B e w') : RSolR w A B e w' := by
  obtain ⟨r1, r2, he, hs, hb⟩ := h
  obtain ⟨lo1, hi1, lo2, hi2, h1, _, h3, _, _, k1, k2⟩ := hs
  exact ⟨r1, r2, he, ⟨k1.out.mono h1, k2.out.mono h3⟩, hb⟩
end Go.Proofs.Ytkghonhghbcdlaa

namespace Go.Proofs.Ytkghonhghbcdlaa
set_option linter.unusedVariables false
set_option linter.unusedSimpArgs false
open Go.RowKit

set_option maxHeartbeats 400000 in
theorem c_slicesEqual (v1 v2 : Value) (xs ys : List Int) (w : World) (hx : Ints w v1 xs) (hy : Ints w v2 ys) :
    Calls Try.prog 110 #[v1, v2] w (QVal w (.bool (decide (xs = ys)))) := by
  obtain ⟨a, c, rfl, hc, hm, hcell⟩ := hx
  obtain ⟨a2, c2, rfl, hc2, hm2, hcell2⟩ := hy
  have hm' : xs.length ≤ 9223372036854775807 := by unfold maxLen at hm; omega
  have hm2' : ys.length ≤ 9223372036854775807 := by unfold maxLen at hm2; omega
  have HC := Lib.hid hcell; clear hcell
  have HC2 := Lib.hid hcell2; clear hcell2
  clear hm hm2
  by_cases hlen : xs.length = ys.length
  · have hl1 : ((xs.length : Int) == (ys.length : Int)) = true := by simp [hlen]
    have hl2 : ((xs.length : Int) != (ys.length : Int)) = false := by simp [hlen]
    have HL := Lib.hid hlen; clear hlen
    go_enter Try.func110, Try.ntmps110
    go_wp2
    go_loopw [13, 5] (fun i _ wr => ∃ k : Nat, k ≤ xs.length ∧ i = .int .i64 k ∧ Hid (∃ n, wr = w.drewN n) ∧ Hid (xs.take k = ys.take k)) (fun i _ _ => xs.length - (intOf i).toNat)
    case atStart => exact ⟨0, Nat.zero_le _, rfl, Lib.hid ⟨0, rfl⟩, Lib.hid rfl⟩
    case round =>
      obtain ⟨k, hk, rfl, HN, HE⟩ := hrel
      have hb : Below w.heap.size w wr := by obtain ⟨n, hn⟩ := HN.out; rw [hn]; exact below_drewN (Below.refl _ _) n
      by_cases hlt : k < xs.length
      · have hlt2 : k < ys.length := by have := HL.out; omega
        obtain ⟨b, o, rfl, hcell⟩ := HC.out k hlt
        obtain ⟨b2, o2, rfl, hcell2⟩ := HC2.out k hlt2
        have h1 : wr.cell? ⟨b, o + k, none⟩ = some (.int .i64 xs[k]) := cell_under hb hcell
        have h2 : wr.cell? ⟨b2, o2 + k, none⟩ = some (.int .i64 ys[k]) := cell_under hb hcell2
        clear hb hcell hcell2
        have hk0 : (0 : Int) ≤ k := by omega
        have hk1 : (k : Int) < xs.length := by omega
        have hk2 : (k : Int) < ys.length := by omega
        by_cases he : xs[k] = ys[k]
        · have he1 : (xs[k] != ys[k]) = false := by simp [he]
          have HV := Lib.hid he; clear he
          go_wp2
          go_quiet (fail)
          go_wp2
          go_roundw
          case rel => exact ⟨k + 1, by omega, by go_num, by obtain ⟨n, hn⟩ := HN.out; exact Lib.hid ⟨n + _, by rw [hn]; exact drewN_drewN w n _⟩, Lib.hid (eq_snoc hlt hlt2 HE.out HV.out)⟩
          case measure => simp [intOf]; omega
        · have he1 : (xs[k] != ys[k]) = true := by simp [he]
          go_wp2
          go_quiet (fail)
          go_wp2
          go_ret
          refine ⟨ret_bool ?_, by obtain ⟨n, hn⟩ := HN.out; exact ⟨n + _, by rw [hn]; exact drewN_drewN w n _⟩⟩
          simp only [Eq.comm (a := false), decide_eq_false_iff_not]
          rintro rfl
          exact he rfl
      · go_wp2
        go_ret
        refine ⟨ret_bool ?_, HN.out⟩
        have h := HE.out
        rw [List.take_of_length_le (by omega), List.take_of_length_le (by have := HL.out; omega)] at h
        simp [h]
  · have hl1 : ((xs.length : Int) == (ys.length : Int)) = false := by simp; omega
    have hl2 : ((xs.length : Int) != (ys.length : Int)) = true := by simp; omega
    go_enter Try.func110, Try.ntmps110
    go_wp2
    go_ret
    refine ⟨ret_bool ?_, ⟨0, rfl⟩⟩
    simp only [Eq.comm (a := false), decide_eq_false_iff_not]
    rintro rfl
    exact hlen rfl
end Go.Proofs.Ytkghonhghbcdlaa

namespace Go.Proofs.Ytkghonhghbcdlaa
set_option linter.unusedVariables false
set_option linter.unusedSimpArgs false
open Go.RowKit

def twOk (p q : List Int) : Bool := isPerm p && isPerm q && decide (p.length = q.length)
def twCm (p q : List Int) : Bool := decide (thenL p q = thenL q p)
def twRA (p q : List Int) : List (List Int) := if twOk p q && twCm p q then twA p else []
def twRB (p q : List Int) : List (List Int) := if twOk p q && twCm p q then twB p q else []
def twCode (p q : List Int) : Int := if twOk p q then (if twCm p q then 0 else 5) else 2
theorem twOk_of {p q : List Int} (h1 : isPerm p = true) (h2 : isPerm q = true) (h3 : p.length = q.length) : twOk p q = true := by simp [twOk, h1, h2, h3]
theorem twOk_no1 {p q : List Int} (h1 : isPerm p = false) : twOk p q = false := by simp [twOk, h1]
theorem twOk_no2 {p q : List Int} (h1 : isPerm q = false) : twOk p q = false := by simp [twOk, h1]
theorem twOk_no3 {p q : List Int} (h1 : p.length ≠ q.length) : twOk p q = false := by simp [twOk, h1]
theorem perm_inT {xs : List Int} (h : isPerm xs = true) : (∀ x ∈ xs, 0 ≤ x ∧ x < xs.length) ∧ xs.length ≤ 12 := by
  simp [isPerm, inR] at h; exact ⟨h.2.2, by omega⟩


theorem tw_total (p q : List Int) : total (twRA p q) ≤ 144 ∧ total (twRB p q) ≤ 144 := by
  unfold twRA twRB
  split
  · rename_i h
    have hl : p.length ≤ 12 := by simp [twOk, isPerm, inR] at h; omega
    have h1 := total_le _ (tab_rows (g := fun _ y => nth p y) hl)
    have h2 := total_le _ (tab_rows (g := fun x _ => nth q x) hl)
    rw [tabOf_length] at h1 h2
    unfold twA twB
    omega
  · simp [total]
end Go.Proofs.Ytkghonhghbcdlaa

namespace Go.Proofs.Ytkghonhghbcdlaa
set_option linter.unusedVariables false
set_option linter.unusedSimpArgs false
open Go.RowKit

theorem val2_tabOf' {n : Nat} {g : Int → Int → Int} {x y : Int} (hx0 : 0 ≤ x) (hx : x < n) (hy0 : 0 ≤ y) (hy : y < n) : val2 (tabOf n g) x y = g x y := by
  show nth (row (tabOf n g) x) y = _
  rw [row_tabOfi _ _ _ hx0 hx, nth_rowOfi _ _ _ hy0 hy]
theorem perm_lt {p : List Int} (h : Permuted p) {x : Int} (h0 : 0 ≤ x) (h1 : x < p.length) : 0 ≤ nth p x ∧ nth p x < p.length := h.2 _ (nth_mem h0 h1)
theorem perm_inj {p : List Int} (h : Permuted p) {x y : Int} (h0 : 0 ≤ x) (h1 : x < p.length) (g0 : 0 ≤ y) (g1 : y < p.length) (e : nth p x = nth p y) : x = y := by
  rw [← nth_invL h h0 h1, e, nth_invL h g0 g1]
theorem isPerm_parts {p : List Int} (h : isPerm p = true) : 1 ≤ p.length ∧ p.length ≤ 12 ∧ Permuted p := by
  simp only [isPerm, Bool.and_eq_true, inR, decide_eq_true_eq] at h
  exact ⟨by omega, by omega, h.2⟩

section
variable {p q : List Int} (hp : Permuted p) (hq : Permuted q) (hl : q.length = p.length) (h1 : 1 ≤ p.length) (h12 : p.length ≤ 12)
include hp hq hl h1 h12
omit hp hq hl h1 h12 in
theorem tw_A0 {x y : Int} (hx0 : 0 ≤ x) (hx : x < p.length) (hy0 : 0 ≤ y) (hy : y < p.length) : val2 (twA p) x y = nth p y := val2_tabOf' hx0 hx hy0 hy
omit hp hq hl h1 h12 in
theorem tw_B0 {x y : Int} (hx0 : 0 ≤ x) (hx : x < p.length) (hy0 : 0 ≤ y) (hy : y < p.length) : val2 (twB p q) x y = nth q x := val2_tabOf' hx0 hx hy0 hy
theorem tw_pm : isPM (twA p) (twB p q) = true := by
  have ha : isTab (twA p) = true := isTab_tabOf h1 h12 fun x y hx hy => perm_lt hp (by omega) (by omega)
  have hb : isTab (twB p q) = true := isTab_tabOf h1 h12 fun x y hx hy => by have := perm_lt hq (x := x) (by omega) (by omega); omega
  have hab : (twA p).length = (twB p q).length := by simp [twA, twB]
  simp [isPM, ha, hb, hab]
theorem tw_coll : collL (twA p) (twB p q) = [] := by
  have hla : (twA p).length = p.length := by simp [twA]
  unfold collL
  refine quad_none (find2_none fun a ha b hb => ?_)
  rw [hla] at ha hb ⊢
  unfold colP
  have a1 := div_lt_sq ha; have a2 := Nat.mod_lt a (show 0 < p.length by omega)
  have b1 := div_lt_sq hb; have b2 := Nat.mod_lt b (show 0 < p.length by omega)
  have g1 := Nat.div_add_mod a p.length
  have g2 := Nat.div_add_mod b p.length
  generalize a / p.length = x1 at a1 g1 ⊢
  generalize a % p.length = y1 at a2 g1 ⊢
  generalize b / p.length = x2 at b1 g2 ⊢
  generalize b % p.length = y2 at b2 g2 ⊢
  rw [tw_A0 (by omega) (by omega) (by omega) (by omega), tw_A0 (by omega) (by omega) (by omega) (by omega), tw_B0 (by omega) (by omega) (by omega) (by omega), tw_B0 (by omega) (by omega) (by omega) (by omega)]
  by_cases e1 : nth p (y1 : Int) = nth p (y2 : Int)
  · by_cases e2 : nth q (x1 : Int) = nth q (x2 : Int)
    · have f1 := perm_inj hp (by omega) (by omega) (by omega) (by omega) e1
      have f2 := perm_inj hq (by omega) (by omega) (by omega) (by omega) e2
      have : a = b := by
        rw [← g1, ← g2, show x1 = x2 by omega, show y1 = y2 by omega]
      simp [this]
    · simp [e2]
  · simp [e1]
theorem tw_nd : nondegL (twA p) (twB p q) = true := by
  have e : ∀ {n : Nat} {g : Int → Int → Int} {r : List Int}, isPerm r = true → (∀ x : Nat, x < n → rowOf n (g x) = r) → permRows (tabOf n g) = true := by
    intro n g r hr hg
    unfold permRows tabOf
    rw [List.all_eq_true]
    intro s hs
    rw [List.mem_map] at hs
    obtain ⟨x, hx, rfl⟩ := hs
    have e := hg x (by simpa using hx)
    show isPerm (rowOf n (g x)) = true
    rw [e]; exact hr
  have ip : isPerm p = true := by simp [isPerm, inR, hp]; omega
  have iq : isPerm q = true := by simp [isPerm, inR, hq]; omega
  unfold nondegL
  rw [Bool.and_eq_true]
  refine ⟨e ip fun x hx => rowOf_self p, ?_⟩
  have hlb : (twB p q).length = p.length := by simp [twB]
  unfold transL
  rw [hlb]
  refine e iq fun x hx => ?_
  have : rowOf p.length (fun y => val2 (twB p q) y x) = rowOf p.length (nth q) := rowOf_congr fun y hy => tw_B0 (by omega) (by omega) (by omega) (by omega)
  rw [this, ← hl, rowOf_self]
theorem tw_inv : involL (twA p) (twB p q) = decide (invL p = q) := by
  have hla : (twA p).length = p.length := by simp [twA]
  have key : ∀ x y : Nat, x < p.length → y < p.length → ivF (twA p) (twB p q) x y = (decide (nth p (nth q x) = x) && decide (nth q (nth p y) = y)) := by
    intro x y hx hy
    have a := perm_lt hp (x := y) (by omega) (by omega)
    have b := perm_lt hq (x := x) (by omega) (by omega)
    unfold ivF
    rw [tw_A0 (x := x) (y := y) (by omega) (by omega) (by omega) (by omega), tw_B0 (x := x) (y := y) (by omega) (by omega) (by omega) (by omega),
      tw_A0 (by omega) (by omega) (by omega) (by omega), tw_B0 (by omega) (by omega) (by omega) (by omega)]
  rw [Bool.eq_iff_iff]
  unfold involL
  rw [all2_iff, hla, decide_eq_true_eq]
  constructor
  · intro h
    apply ext_nth (by simp; omega)
    intro k hk
    simp at hk
    obtain ⟨x, x0, x1, ex⟩ := ex_pre hp (y := (k : Int)) (by omega) (by omega)
    have := h 0 (by omega) x.toNat (by omega)
    rw [key _ _ (by omega) (by omega)] at this
    simp only [Bool.and_eq_true, decide_eq_true_eq] at this
    have e := this.2
    rw [show ((x.toNat : Nat) : Int) = x by omega, ex] at e
    rw [e, ← ex, nth_invL hp x0 x1]
  · intro h x hx y hy
    rw [key x y hx hy, ← h]
    have e2 := nth_invL hp (x := (y : Int)) (by omega) (by omega)
    obtain ⟨z, z0, z1, ez⟩ := ex_pre hp (y := (x : Int)) (by omega) (by omega)
    have e1 : nth p (nth (invL p) x) = x := by rw [← ez, nth_invL hp z0 z1]
    simp [e1, e2]
theorem tw_sol (hc : thenL p q = thenL q p) : isSol (twA p) (twB p q) = true := by
  have hla : (twA p).length = p.length := by simp [twA]
  have hcom : ∀ y : Int, 0 ≤ y → y < p.length → nth q (nth p y) = nth p (nth q y) := by
    intro y y0 y1
    have e : nth (thenL p q) y = nth (thenL q p) y := by rw [hc]
    rw [nth_thenL _ _ _ y0 y1, nth_thenL _ _ _ y0 (by omega)] at e
    exact e
  have hyF : yF (twA p) (twB p q) = [] := by
    unfold yF
    have : find3 (twA p).length (yP (twA p) (twB p q)) = none := find3_none fun x hx y hy z hz => by
      rw [hla] at hx hy hz
      have px := perm_lt hp (x := x) (by omega) (by omega)
      have py := perm_lt hp (x := y) (by omega) (by omega)
      have pz := perm_lt hp (x := z) (by omega) (by omega)
      have qx := perm_lt hq (x := x) (by omega) (by omega)
      have qy := perm_lt hq (x := y) (by omega) (by omega)
      have tA := fun (x y : Int) (a : 0 ≤ x) (b : x < p.length) (c : 0 ≤ y) (d : y < p.length) => tw_A0 (p := p) (x := x) (y := y) a b c d
      have tB := fun (x y : Int) (a : 0 ≤ x) (b : x < p.length) (c : 0 ≤ y) (d : y < p.length) => tw_B0 (p := p) (q := q) (x := x) (y := y) a b c d
      unfold yP yL yR
      rw [tA x y (by omega) (by omega) (by omega) (by omega), tB x y (by omega) (by omega) (by omega) (by omega), tA y z (by omega) (by omega) (by omega) (by omega), tB y z (by omega) (by omega) (by omega) (by omega),
        tA (nth q x) z (by omega) (by omega) (by omega) (by omega), tB (nth q x) z (by omega) (by omega) (by omega) (by omega), tA x (nth p z) (by omega) (by omega) (by omega) (by omega), tB x (nth p z) (by omega) (by omega) (by omega) (by omega),
        tA (nth p y) (nth p z) (by omega) (by omega) (by omega) (by omega), tB (nth p y) (nth p z) (by omega) (by omega) (by omega) (by omega), tA (nth q x) (nth q y) (by omega) (by omega) (by omega) (by omega), tB (nth q x) (nth q y) (by omega) (by omega) (by omega) (by omega), hcom y (by omega) (by omega)]
      simp
    rw [this]; rfl
  simp [isSol, tw_pm hp hq hl h1 h12, tw_coll hp hq hl h1 h12, hyF]
end
theorem then_back {p : List Int} (hp : Permuted p) : thenL p (invL p) = iota p.length := by
  apply ext_nth (by simp)
  intro k hk
  simp at hk
  rw [nth_thenL _ _ _ (by omega) (by omega), nth_invL hp (by omega) (by omega)]
  rw [nth_nat _ _ (by simpa using hk)]
  simp [iota]
end Go.Proofs.Ytkghonhghbcdlaa

namespace Go.Proofs.Ytkghonhghbcdlaa
set_option linter.unusedVariables false
set_option linter.unusedSimpArgs false
open Go.ChangeShapes Go.WideShapes Go.ChangeAt Go.RowKit

theorem own_knob : ownKnob Try.prog.godebug = none := by kernel_rfl
theorem laid_out : laidOutB Try.prog = true := by kernel_rfl
theorem cells_int64 : Try.prog.cellsOf 2 = 1 := by kernel_rfl
theorem cells_ints : Try.prog.cellsOf 27 = 1 := by kernel_rfl

section
variable {H : Type} {enc : TypeId × Value → H} {w : World} {base : Nat} {spare : Nat → Bool} {held : Bool}

theorem ints_of_trod {fuel : Nat} {u : Value} {x : DataW H × List MemPlace} (h : DataW.trod enc Try.prog w base spare held fuel 27 [u] = some x) : ∃ xs, Ints w u xs := by
  rcases open_ints Try.underlying27 Try.underlying2 cells_int64 h with ⟨hcs, _⟩ | ⟨a, len, cap, zs, hcs, _, hl, hm, hz, _, hcell, _⟩
  · simp at hcs; subst hcs
    exact ⟨[], Ints.nil w⟩
  · simp at hcs; subst hcs
    have hge : len ≤ zs.length := by rw [hz]; split <;> omega
    have hlen : (zs.take len).length = len := by simp; omega
    refine ⟨zs.take len, some a, cap, by rw [hlen], by rw [hlen]; exact hl, hm, fun i hi => ?_⟩
    have hi' : i < zs.length := by omega
    obtain ⟨b, off, rfl, hc⟩ := ints_at hcell (by omega)
    refine ⟨b, off, rfl, ?_⟩
    rw [hc i hi']
    simp [hi']

theorem rows_of_trod {fuel : Nat} {u : Value} {x : DataW H × List MemPlace} (h : DataW.trod enc Try.prog w base spare held fuel 24 [u] = some x) : ∃ xss, Rows w u xss := by
  rcases Deep.open_slice1 Try.underlying24 cells_ints h with ⟨hcs, _⟩ | ⟨a, len, cap, m, n, V, D, Pl, hcs, _, hl, hm, hmm, _, hx⟩
  · simp at hcs; subst hcs
    exact ⟨[], Rows.nil w⟩
  · simp at hcs; subst hcs
    have hge : len ≤ m := by rw [hmm]; split <;> omega
    have each : ∀ i, i < len → ∃ xs, Ints w (V i) xs := fun i hi => ints_of_trod (hx i (by omega)).2
    obtain ⟨Z, hZ⟩ := Deep.choose_lt each
    refine ⟨(List.range len).map Z, some a, cap, by simp, by simpa using hl, hm, fun i hi => ?_⟩
    have hi' : i < len := by simpa using hi
    have h0 := (hx 0 (by omega)).1
    obtain ⟨b, off, spot⟩ := a
    have hspot : spot = none := by simpa [Addr.add] using World.cell?_spot h0
    subst hspot
    refine ⟨b, off, V i, rfl, ?_, ?_⟩
    · have := (hx i (by omega)).1
      rwa [Go.WideShapes.add_plain] at this
    · simpa using hZ i hi'

end
end Go.Proofs.Ytkghonhghbcdlaa

namespace Go.Proofs.Ytkghonhghbcdlaa
set_option linter.unusedVariables false
set_option linter.unusedSimpArgs false
open Go.RowKit

def pmCodeN (A B : List (List Int)) : Int := if isPM A B then 0 else 1
def ndRes (A B : List (List Int)) : Bool := if isPM A B then nondegL A B else false
set_option maxHeartbeats 800000 in
theorem c_IsNondegenerate (v0 u0 : Value) (A B : List (List Int)) (w : World) (hA : Sol w v0 u0 A B) :
    Calls Try.prog 22 #[.agg #[v0, u0]] w (RVal w (.tuple #[.bool (ndRes A B), .int .i64 (pmCodeN A B)])) := by
  obtain ⟨a0, c0, rfl, _, _⟩ := hA.1.shape
  obtain ⟨a0s, c0s, rfl, _, _⟩ := hA.2.shape
  by_cases hp0 : isPM A B = true
  case neg =>
    have hq0 : isPM A B = false := by simpa using hp0
    have HQ := Lib.hid hq0; clear hp0
    go_enter Try.func22, Try.ntmps22
    go_wp2_with fail
    obtain ⟨f0, hW0, hsz⟩ := boxes1 w [.slice a0 A.length c0, .slice a0s B.length c0s] 26
    obtain ⟨W0, hW⟩ : ∃ W, (w.alloc (.cells #[.slice a0 A.length c0, .slice a0s B.length c0s] 26)) = W := ⟨_, rfl⟩
    rw [hW] at f0 hW0 hsz ⊢
    clear hW hsz
    refine (c_IsPairMap _ _ _ _ _ (hA.below hW0)).mono ?_; rintro e g0 ⟨rfl, hbg0⟩
    have hB0 := bb hW0 hbg0
    replace f0 := f0.under hbg0
    obtain ⟨cA0, cB0, -, -⟩ := two_cells f0
    clear hbg0
    have HB := Lib.hid hB0
    clear hB0 f0 hW0 hA
    go_wp2
    go_ret2
    exact ⟨by simp [ndRes, pmCodeN, HQ.out], HB.out⟩
  have HP0 := Lib.hid hp0
  go_enter Try.func22, Try.ntmps22
  go_wp2_with fail
  obtain ⟨f0, hW0, hsz⟩ := boxes1 w [.slice a0 A.length c0, .slice a0s B.length c0s] 26
  obtain ⟨W0, hW⟩ : ∃ W, (w.alloc (.cells #[.slice a0 A.length c0, .slice a0s B.length c0s] 26)) = W := ⟨_, rfl⟩
  rw [hW] at f0 hW0 hsz ⊢
  clear hW hsz
  refine (c_IsPairMap _ _ _ _ _ (hA.below hW0)).mono ?_; rintro e g0 ⟨rfl, hbg0⟩
  have hB0 := bb hW0 hbg0
  replace f0 := f0.under hbg0
  obtain ⟨cA0, cB0, -, -⟩ := two_cells f0
  clear hbg0
  go_wp2_with fail
  refine (c_isNondegenerate _ _ _ _ _ (hA.below hB0) HP0.out).mono ?_; rintro e wz ⟨rfl, hb⟩
  have HB := Lib.hid (bb hB0 hb)
  clear hb hB0 f0 hW0 hA
  go_wp2
  go_ret2
  exact ⟨by simp [ndRes, pmCodeN, HP0.out], HB.out⟩
end Go.Proofs.Ytkghonhghbcdlaa

namespace Go.Proofs.Ytkghonhghbcdlaa
set_option linter.unusedVariables false
set_option linter.unusedSimpArgs false
open Go.RowKit

def flN (n : Int) : List Int := iota n.toNat
def flA (n : Int) : List (List Int) := if inR n 1 12 then twA (flN n) else []
def flB (n : Int) : List (List Int) := if inR n 1 12 then twB (flN n) (flN n) else []
def flCode (n : Int) : Int := if inR n 1 12 then 0 else 2

set_option maxHeartbeats 400000 in
theorem c_l02Flip (n : Nat) (w : World) (hn : n ≤ 1048576) :
    Calls Try.prog 129 #[.int .i64 n] w (RSolR w (twA (iota n)) (twB (iota n) (iota n))) := by
  obtain ⟨f0, hW0, hsz⟩ := boxes1 w [.slice none 0 0, .slice none 0 0] 26
  have HF := Lib.hid f0; have HW := Lib.hid hW0; clear f0 hW0
  go_enter Try.func129, Try.ntmps129
  go_wp2_with fail
  refine (c_l01Unit n _ hn).mono ?_; rintro e w1 ⟨r1, rfl, ho1, hb1⟩
  have HO := Lib.hid ho1; have HB1 := Lib.hid hb1; clear ho1 hb1
  go_wp2_with fail
  refine (c_l02Twist _ _ (iota n) (iota n) _ HO.out.ints HO.out.ints rfl (by rw [iota_length]; exact hn)).mono ?_; rintro e w2 ⟨s1, s2, rfl, hs, hb2⟩
  obtain ⟨a1, c1, rfl, _⟩ := OwnRows.shape' hs.1
  obtain ⟨a2, c2, rfl, _⟩ := OwnRows.shape' hs.2
  obtain ⟨g0, g1, g2, g3⟩ := two_cells ((HF.out.under HB1.out).under hb2)
  have HS := Lib.hid hs; have HB2 := Lib.hid hb2; have HZ := Lib.hid hsz; clear hs hb2 hsz
  go_wp2
  have hz := HZ.out
  have hs1 : (w.alloc (.cells #[.slice none 0 0, .slice none 0 0] 26)).heap.size ≤ w1.heap.size := HB1.out.size
  refine bodyPost_ret (v := .agg #[.slice a1 (twA (iota n)).length c1, .slice a2 (twB (iota n) (iota n)).length c2]) (by simp [results, Try.results129, go_sem, g0, g1]) rfl ⟨_, _, rfl, ⟨?_, ?_⟩, ((bb (bb HW.out HB1.out) HB2.out).setCell (p := ⟨w.heap.size, 0, none⟩) (Nat.le_refl _) _).setCell (p := ⟨w.heap.size, 1, none⟩) (Nat.le_refl _) _⟩
  · exact ((HS.out.1.keep (keep1 _ w.heap.size 0 _) (fun b h1 h2 h3 => by have h3 : b = w.heap.size := h3; omega)).keep (keep1 _ w.heap.size 1 _) (fun b h1 h2 h3 => by have h3 : b = w.heap.size := h3; omega)).mono (by omega)
  · exact ((HS.out.2.keep (keep1 _ w.heap.size 0 _) (fun b h1 h2 h3 => by have h3 : b = w.heap.size := h3; omega)).keep (keep1 _ w.heap.size 1 _) (fun b h1 h2 h3 => by have h3 : b = w.heap.size := h3; omega)).mono (by omega)


theorem fl_total (n : Int) : total (flA n) ≤ 144 ∧ total (flB n) ≤ 144 := by
  unfold flA flB
  split
  · rename_i h
    have hl : (flN n).length ≤ 12 := by simp [inR] at h; simp [flN]; omega
    have h1 := total_le _ (tab_rows (g := fun _ y => nth (flN n) y) hl)
    have h2 := total_le _ (tab_rows (g := fun x _ => nth (flN n) x) hl)
    rw [tabOf_length] at h1 h2
    unfold twA twB
    omega
  · simp [total]

end Go.Proofs.Ytkghonhghbcdlaa

namespace Go.Proofs.Ytkghonhghbcdlaa
set_option linter.unusedVariables false
set_option linter.unusedSimpArgs false
open Go.RowKit

theorem isPerm_in {xs : List Int} (h : isPerm xs = true) : (∀ x ∈ xs, 0 ≤ x ∧ x < xs.length) ∧ xs.length ≤ 1048576 := by
  simp [isPerm, inR] at h; exact ⟨h.2.2, by omega⟩

def invRes (xs : List Int) : List Int := if isPerm xs then invL xs else []
def invCode (xs : List Int) : Int := if isPerm xs then 0 else 1
theorem invRes_length (xs : List Int) : (invRes xs).length ≤ xs.length := by unfold invRes; split <;> simp



end Go.Proofs.Ytkghonhghbcdlaa

namespace Go.Proofs.Ytkghonhghbcdlaa
set_option linter.unusedVariables false
set_option linter.unusedSimpArgs false
open Go Go.RowKit Go.ChangeShapes Go.WideShapes Go.ChangeAt

section
variable {H : Type} {enc : TypeId × Value → H} {w : World} {base : Nat} {spare : Nat → Bool} {held : Bool}
theorem cells_u8 : Try.prog.cellsOf 5 = 1 := by kernel_rfl
theorem bytes_of_trod {fuel : Nat} {u : Value} {x : DataW H × List MemPlace} (h : DataW.trod enc Try.prog w base spare held fuel 22 [u] = some x) : ∃ bs, Bytes w u bs := by
  rcases open_ints Try.underlying22 Try.underlying5 cells_u8 h with ⟨hcs, _⟩ | ⟨a, len, cap, zs, hcs, _, hl, hm, hz, _, hcell, hwf⟩
  · simp at hcs; subst hcs
    exact ⟨[], none, 0, rfl, Nat.le_refl _, by decide, fun i hi => absurd hi (by simp)⟩
  · simp at hcs; subst hcs
    have hge : len ≤ zs.length := by rw [hz]; split <;> omega
    have hlen : (zs.take len).length = len := by simp; omega
    refine ⟨zs.take len, some a, cap, by rw [hlen], by rw [hlen]; exact hl, hm, fun i hi => ?_⟩
    have hi' : i < zs.length := by omega
    obtain ⟨b, off, rfl, hc⟩ := ints_at hcell (by omega)
    have hr := hwf (zs.getD i 0) (by simp [List.getD, hi'])
    have hci := hc i hi'
    generalize zs.getD i 0 = z at hr hci
    simp [Lit.wf, IntKind.min, IntKind.max, IntKind.signed, IntKind.bits] at hr
    exact ⟨b, off, z, rfl, hci, by omega, by omega⟩
end

structure TwF (w W : World) (v1 v2 : Value) (p q : List Int) (sb : Nat) (r1 r2 : Value) (A B : List (List Int)) : Prop where
  hp : Ints W v1 p
  hq : Ints W v2 q
  hs : Blk W sb 26 [r1, r2]
  hsol : Sol W r1 r2 A B
  hb : Below w.heap.size w W
theorem TwF.under {w W W' : World} {v1 v2 : Value} {p q : List Int} {sb : Nat} {r1 r2 : Value} {A B : List (List Int)} (h : TwF w W v1 v2 p q sb r1 r2 A B) (k : Below W.heap.size W W') : TwF w W' v1 v2 p q sb r1 r2 A B :=
  ⟨h.hp.below k, h.hq.below k, h.hs.under k, h.hsol.below k, h.hb.trans (k.mono h.hb.size)⟩
theorem TwF.new {w W : World} {v1 v2 : Value} {p q : List Int} {sb : Nat} {r1 r2 : Value} {A B : List (List Int)} (h : TwF w W v1 v2 p q sb r1 r2 A B) (o : Obj) : TwF w (W.alloc o) v1 v2 p q sb r1 r2 A B := h.under ((Below.refl _ _).alloc (Nat.le_refl _) o)

theorem tw_cases (p q : List Int) : twCode p q = 2 ∨ (twCode p q = 5 ∧ thenRes p q ≠ thenRes q p) ∨
    (twCode p q = 0 ∧ isPerm p = true ∧ isPerm q = true ∧ q.length = p.length ∧ thenL p q = thenL q p ∧ twRA p q = twA p ∧ twRB p q = twB p q) := by
  by_cases h1 : isPerm p = true
  · by_cases h2 : isPerm q = true
    · by_cases h3 : p.length = q.length
      · by_cases h4 : thenL p q = thenL q p
        · exact .inr (.inr ⟨by simp [twCode, twOk, twCm, h1, h2, h3, h4], h1, h2, h3.symm, h4, by simp [twRA, twOk, twCm, h1, h2, h3, h4], by simp [twRB, twOk, twCm, h1, h2, h3, h4]⟩)
        · refine .inr (.inl ⟨by simp [twCode, twOk, twCm, h1, h2, h3, h4], ?_⟩)
          simp [thenRes, okThen, h1, h2, h3, h4]
      · exact .inl (by simp [twCode, twOk, h3])
    · exact .inl (by simp [twCode, twOk, h2])
  · exact .inl (by simp [twCode, twOk, h1])

theorem inv_perm {p : List Int} (h : isPerm p = true) : isPerm (invL p) = true := by
  obtain ⟨⟨h1, h2⟩, hp⟩ := isPerm_in' h
  have : Permuted (invL p) := by
    rw [permuted_iff]
    intro x x0 x1
    rw [invL_length] at x1
    have := perm_lt hp x0 x1
    rw [← nth_invL hp x0 x1]
    exact nth_mem this.1 (by rw [invL_length]; exact this.2)
  simp [isPerm, inR, this]; omega
theorem iota_perm {n : Nat} (h1 : 1 ≤ n) (h2 : n ≤ 12) : isPerm (iota n) = true := by
  have : Permuted (iota n) := ⟨iota_nodup n, fun x hx => by simpa using (mem_iota n x).1 hx⟩
  simp [isPerm, inR, this]; omega
theorem then_unit {p : List Int} (h : isPerm p = true) : thenRes p (invL p) = iota p.length := by
  have h2 := inv_perm h
  simp only [thenRes, okThen, h, h2, invL_length]
  simpa using then_back (isPerm_in' h).2
theorem flip_unit {n : Nat} (h1 : 1 ≤ n) (h2 : n ≤ 12) : flA n = twA (iota n) ∧ flB n = twB (iota n) (iota n) ∧ flCode n = 0 := by
  have h : inR n 1 12 = true := by simp [inR]; omega
  exact ⟨by simp [flA, flN, h], by simp [flB, flN, h], by simp [flCode, h]⟩
theorem twist_unit {n : Nat} (h1 : 1 ≤ n) (h2 : n ≤ 12) : twRA (iota n) (iota n) = twA (iota n) ∧ twRB (iota n) (iota n) = twB (iota n) (iota n) ∧ twCode (iota n) (iota n) = 0 := by
  have h := iota_perm h1 h2
  exact ⟨by simp [twRA, twOk, twCm, h], by simp [twRB, twOk, twCm, h], by simp [twCode, twOk, twCm, h]⟩
end Go.Proofs.Ytkghonhghbcdlaa

namespace Go.Proofs.Ytkghonhghbcdlaa
set_option linter.unusedVariables false
set_option linter.unusedSimpArgs false
open Go Go.RowKit

def LS (w W : World) (L : List (Value × List Int)) (M : List (Value × List (List Int))) (Bx : List (Nat × Value × Value)) : Prop :=
  (∀ e ∈ L, Ints W e.1 e.2) ∧ (∀ e ∈ M, Rows W e.1 e.2) ∧ (∀ e ∈ Bx, Blk W e.1 26 [e.2.1, e.2.2]) ∧ Below w.heap.size w W
namespace LS
variable {w W W' : World} {L : List (Value × List Int)} {M : List (Value × List (List Int))} {Bx : List (Nat × Value × Value)}
theorem under (h : LS w W L M Bx) (k : Below W.heap.size W W') : LS w W' L M Bx :=
  ⟨fun e he => (h.1 e he).below k, fun e he => (h.2.1 e he).below k, fun e he => (h.2.2.1 e he).under k, h.2.2.2.trans (k.mono h.2.2.2.size)⟩
theorem addI (h : LS w W L M Bx) {v : Value} {xs : List Int} (hi : Ints W v xs) : LS w W ((v, xs) :: L) M Bx :=
  ⟨fun e he => by rcases List.mem_cons.1 he with rfl | he; exact hi; exact h.1 e he, h.2⟩
theorem addR (h : LS w W L M Bx) {v : Value} {X : List (List Int)} (hi : Rows W v X) : LS w W L ((v, X) :: M) Bx :=
  ⟨h.1, fun e he => by rcases List.mem_cons.1 he with rfl | he; exact hi; exact h.2.1 e he, h.2.2⟩
theorem addS (h : LS w W L M Bx) {v1 v2 : Value} {A B : List (List Int)} (hs : Sol W v1 v2 A B) : LS w W L ((v1, A) :: (v2, B) :: M) Bx := (h.addR hs.2).addR hs.1
theorem box (h : LS w W L M Bx) (a b : Value) : LS w (W.alloc (.cells #[a, b] 26)) L M ((W.heap.size, a, b) :: Bx) := by
  have h2 := h.under ((Below.refl W.heap.size W).alloc (Nat.le_refl _) (.cells #[a, b] 26))
  exact ⟨h2.1, h2.2.1, fun e he => by rcases List.mem_cons.1 he with rfl | he; exact Blk.new W [a, b] 26; exact h2.2.2.1 e he, h2.2.2.2⟩
theorem getI (h : LS w W L M Bx) {v : Value} {xs : List Int} (he : (v, xs) ∈ L) : Ints W v xs := h.1 _ he
theorem getR (h : LS w W L M Bx) {v : Value} {X : List (List Int)} (he : (v, X) ∈ M) : Rows W v X := h.2.1 _ he
theorem getB (h : LS w W L M Bx) {q : Nat} {a b : Value} (he : (q, a, b) ∈ Bx) : Blk W q 26 [a, b] := h.2.2.1 _ he
end LS
end Go.Proofs.Ytkghonhghbcdlaa

namespace Go.Proofs.Ytkghonhghbcdlaa
set_option linter.unusedVariables false
set_option linter.unusedSimpArgs false

/-- One step: a list is taken in if it is new. -/
def gStep (G : List (List Int)) (x : List Int) : List (List Int) := if x ∈ G then G else G ++ [x]
/-- What is found after t steps: step number i * m + k goes on from element number i with list number k. -/
def gAt (n : Nat) (L : List (List Int)) : Nat → List (List Int)
  | 0 => [iota n]
  | t + 1 => if t < (gAt n L t).length * L.length then gStep (gAt n L t) (thenL (row (gAt n L t) (t / L.length : Nat)) (row L (t % L.length : Nat))) else gAt n L t
/-- All that is found within a thousand elements' steps. -/
def gAll (n : Nat) (L : List (List Int)) : List (List Int) := gAt n L (1000 * L.length)
def gOk (n : Nat) (L : List (List Int)) : Bool := decide ((gAll n L).length ≤ 1000)

theorem gStep_len (G : List (List Int)) (x : List Int) : G.length ≤ (gStep G x).length ∧ (gStep G x).length ≤ G.length + 1 := by
  unfold gStep; split <;> simp
theorem gAt_len (n : Nat) (L : List (List Int)) (t : Nat) : (gAt n L t).length ≤ (gAt n L (t + 1)).length ∧ (gAt n L (t + 1)).length ≤ (gAt n L t).length + 1 := by
  simp only [gAt]
  split
  · exact gStep_len _ _
  · omega
theorem gAt_mono (n : Nat) (L : List (List Int)) (t : Nat) : ∀ s, (gAt n L t).length ≤ (gAt n L (t + s)).length
  | 0 => Nat.le_refl _
  | s + 1 => Nat.le_trans (gAt_mono n L t s) (gAt_len n L (t + s)).1
theorem gAt_pos (n : Nat) (L : List (List Int)) (t : Nat) : 0 < (gAt n L t).length := by
  have := gAt_mono n L 0 t
  simp [gAt] at this; omega
theorem gStep_pre (G : List (List Int)) (x : List Int) : ∃ r, gStep G x = G ++ r := by
  unfold gStep; split
  · exact ⟨[], by simp⟩
  · exact ⟨[x], rfl⟩
theorem gAt_pre (n : Nat) (L : List (List Int)) (t : Nat) : ∀ s, ∃ r, gAt n L (t + s) = gAt n L t ++ r
  | 0 => ⟨[], by simp⟩
  | s + 1 => by
    obtain ⟨r, hr⟩ := gAt_pre n L t s
    rw [← Nat.add_assoc]
    simp only [gAt]
    split
    · obtain ⟨r', hr'⟩ := gStep_pre (gAt n L (t + s)) (thenL (row (gAt n L (t + s)) ((t + s) / L.length : Nat)) (row L ((t + s) % L.length : Nat)))
      exact ⟨r ++ r', by rw [hr', hr, List.append_assoc]⟩
    · exact ⟨r, hr⟩
theorem gAt_row {n : Nat} {L : List (List Int)} {t i : Nat} (h : i < (gAt n L t).length) (s : Nat) : row (gAt n L (t + s)) i = row (gAt n L t) i := by
  obtain ⟨r, hr⟩ := gAt_pre n L t s
  have h2 : i < (gAt n L t ++ r).length := by simp; omega
  rw [hr, row_nat _ _ h2, row_nat _ _ h, List.getElem_append_left h]
theorem gAt_mem {n : Nat} {L : List (List Int)} {t : Nat} {x : List Int} (h : x ∈ gAt n L t) (s : Nat) : x ∈ gAt n L (t + s) := by
  obtain ⟨r, hr⟩ := gAt_pre n L t s
  rw [hr]; exact List.mem_append_left _ h
/-- No more is found behind the last element's steps. -/
theorem gAt_stop {n : Nat} {L : List (List Int)} {t : Nat} (h : (gAt n L t).length * L.length ≤ t) : ∀ s, gAt n L (t + s) = gAt n L t
  | 0 => rfl
  | s + 1 => by
    rw [← Nat.add_assoc]
    simp only [gAt]
    rw [gAt_stop h s, if_neg]
    omega
theorem gAll_stop {n : Nat} {L : List (List Int)} {t : Nat} (h : (gAt n L t).length * L.length ≤ t) (ht : t ≤ 1000 * L.length) : gAll n L = gAt n L t := by
  unfold gAll
  obtain ⟨s, hs⟩ : ∃ s, 1000 * L.length = t + s := ⟨1000 * L.length - t, by omega⟩
  rw [hs]; exact gAt_stop h s
/-- The end within the bound. -/
theorem g_ok {n : Nat} {L : List (List Int)} {i : Nat} (h : (gAt n L (i * L.length)).length = i) (hi : i ≤ 1000) : gOk n L = true ∧ gAll n L = gAt n L (i * L.length) := by
  have e := gAll_stop (n := n) (L := L) (t := i * L.length) (by rw [h]; exact Nat.le_refl _) (Nat.mul_le_mul_right _ hi)
  refine ⟨?_, e⟩
  unfold gOk
  rw [e, h]; simpa using hi
/-- One element too many. -/
theorem g_over {n : Nat} {L : List (List Int)} {t : Nat} (h : 1000 < (gAt n L t).length) (ht : t ≤ 1000 * L.length) : gOk n L = false := by
  obtain ⟨s, hs⟩ : ∃ s, 1000 * L.length = t + s := ⟨1000 * L.length - t, by omega⟩
  have := gAt_mono n L t s
  unfold gOk gAll
  rw [hs]; simp; omega
/-- The step that the loops do. -/
theorem gAt_next {n : Nat} {L : List (List Int)} {i k : Nat} (hk : k < L.length) (hi : i < (gAt n L (i * L.length + k)).length) :
    gAt n L (i * L.length + k + 1) = gStep (gAt n L (i * L.length + k)) (thenL (row (gAt n L (i * L.length + k)) i) (row L k)) := by
  have h0 : 0 < L.length := by omega
  have e1 : (i * L.length + k) / L.length = i := by rw [Nat.mul_comm, Nat.mul_add_div h0, Nat.div_eq_of_lt hk]; omega
  have e2 : (i * L.length + k) % L.length = k := by rw [Nat.mul_comm, Nat.mul_add_mod, Nat.mod_eq_of_lt hk]
  have hlt : i * L.length + k < (gAt n L (i * L.length + k)).length * L.length := by
    have : (i + 1) * L.length ≤ (gAt n L (i * L.length + k)).length * L.length := Nat.mul_le_mul_right _ hi
    rw [Nat.add_mul] at this; omega
  simp only [gAt]
  rw [if_pos hlt, e1, e2]

/-- What is found: lists without doubles, permutations, each made of the given ones. -/
structure Gr (n : Nat) (L : List (List Int)) (G : List (List Int)) : Prop where
  nodup : G.Nodup
  perm : ∀ p ∈ G, Permuted p ∧ p.length = n
  made : ∀ p ∈ G, ∀ x : Int, 0 ≤ x → x < n → Reach L x (nth p x)
theorem Gr.unit (n : Nat) (L : List (List Int)) : Gr n L [iota n] :=
  ⟨by simp, fun p hp => by simp at hp; subst hp; exact ⟨permuted_iota n, by simp⟩, fun p hp x h0 h1 => by simp at hp; subst hp; rw [nth_iota n x h0 h1]; exact .here⟩
theorem then_perm' {p q : List Int} (hp : Permuted p) (hq : Permuted q) (hl : p.length = q.length) : Permuted (thenL p q) := by
  refine ⟨?_, fun x hx => ?_⟩
  · unfold thenL
    refine List.pairwise_map.2 (List.Pairwise.imp_of_mem ?_ (List.nodup_iff_pairwise_ne.1 hp.1))
    intro a b ha hb hne e
    obtain ⟨a0, a1⟩ := hp.2 a ha
    obtain ⟨b0, b1⟩ := hp.2 b hb
    exact hne (hq.inj a0 (by omega) b0 (by omega) e)
  · unfold thenL at hx ⊢
    obtain ⟨y, hy, rfl⟩ := List.mem_map.1 hx
    obtain ⟨y0, y1⟩ := hp.2 y hy
    have := hq.lt y0 (by omega)
    simp only [List.length_map]; omega
theorem Gr.step {n : Nat} {L G : List (List Int)} (h : Gr n L G) (hs : SysOk n L) {g q : List Int} (hg : g ∈ G) (hq : q ∈ L) : Gr n L (gStep G (thenL g q)) := by
  unfold gStep
  split
  · exact h
  · rename_i hn
    obtain ⟨p1, l1⟩ := h.perm g hg
    obtain ⟨p2, l2⟩ := hs q hq
    refine ⟨?_, ?_, ?_⟩
    · rw [List.nodup_append]
      exact ⟨h.nodup, by simp, fun a ha b hb e => by simp at hb; subst hb; subst e; exact hn ha⟩
    · intro p hp
      rcases List.mem_append.1 hp with hp | hp
      · exact h.perm p hp
      · simp at hp; subst hp
        exact ⟨then_perm' p1 p2 (by omega), by simp [thenL, l1]⟩
    · intro p hp x h0 h1
      rcases List.mem_append.1 hp with hp | hp
      · exact h.made p hp x h0 h1
      · simp at hp; subst hp
        rw [nth_thenL _ _ _ h0 (by omega)]
        exact .step (h.made g hg x h0 h1) hq
theorem gAt_gr {n : Nat} {L : List (List Int)} (hs : SysOk n L) : ∀ t, Gr n L (gAt n L t)
  | 0 => Gr.unit n L
  | t + 1 => by
    have ih := gAt_gr hs t
    simp only [gAt]
    split
    · rename_i hlt
      have h0 : 0 < L.length := Nat.pos_of_ne_zero (by rintro e; rw [e] at hlt; omega)
      have h1 : t / L.length < (gAt n L t).length := (Nat.div_lt_iff_lt_mul h0).2 hlt
      have h2 := Nat.mod_lt t h0
      exact ih.step hs (row_mem (Int.natCast_nonneg _) (Int.ofNat_lt.2 h1)) (row_mem (Int.natCast_nonneg _) (Int.ofNat_lt.2 h2))
    · exact ih
/-- What is found at the end is closed. -/
theorem gAll_closed {n : Nat} {L : List (List Int)} (hok : gOk n L = true) {g q : List Int} (hg : g ∈ gAll n L) (hq : q ∈ L) : thenL g q ∈ gAll n L := by
  have hlen : (gAll n L).length ≤ 1000 := by simpa [gOk] using hok
  obtain ⟨i, hi, rfl⟩ := List.getElem_of_mem hg
  obtain ⟨k, hk, rfl⟩ := List.getElem_of_mem hq
  -- the step of i and k lies within the thousand elements' steps
  have key : ∀ t, i * L.length + k + 1 ≤ t → (∀ s, i < (gAt n L s).length → True) → i < (gAt n L (i * L.length + k)).length → thenL (row (gAt n L (i * L.length + k)) i) (row L k) ∈ gAt n L t := by
    intro t ht _ hi2
    obtain ⟨s, rfl⟩ : ∃ s, t = i * L.length + k + 1 + s := ⟨t - (i * L.length + k + 1), by omega⟩
    refine gAt_mem ?_ s
    rw [gAt_next hk hi2]
    unfold gStep
    split
    · assumption
    · simp
  have hT : i * L.length + k + 1 ≤ 1000 * L.length := by
    have : (i + 1) * L.length ≤ 1000 * L.length := Nat.mul_le_mul_right _ (by omega)
    rw [Nat.add_mul] at this; omega
  -- element i is there by then: else all had stopped
  have hi2 : i < (gAt n L (i * L.length + k)).length := by
    rcases Nat.lt_or_ge i (gAt n L (i * L.length + k)).length with h | h
    · exact h
    · exfalso
      have h1 : (gAt n L (i * L.length + k)).length * L.length ≤ i * L.length + k := Nat.le_trans (Nat.mul_le_mul_right _ h) (Nat.le_add_right _ _)
      have := gAll_stop h1 (by omega)
      rw [this] at hi; omega
  have e := key (1000 * L.length) hT (fun _ _ => trivial) hi2
  obtain ⟨s, hs⟩ : ∃ s, 1000 * L.length = i * L.length + k + s := ⟨1000 * L.length - (i * L.length + k), by omega⟩
  have er : row (gAll n L) i = row (gAt n L (i * L.length + k)) i := by unfold gAll; rw [hs]; exact gAt_row hi2 s
  rw [← er, row_nat _ _ hi, row_nat _ _ hk] at e
  exact e
theorem gAll_unit (n : Nat) (L : List (List Int)) : iota n ∈ gAll n L := by
  have := gAt_mem (n := n) (L := L) (t := 0) (x := iota n) (by simp [gAt]) (1000 * L.length)
  rwa [Nat.zero_add] at this
/-- The images of an element are those that the given lists lead to. -/
theorem gAll_images {n : Nat} {L : List (List Int)} (hs : SysOk n L) (hok : gOk n L = true) {x y : Int} (h0 : 0 ≤ x) (h1 : x < n) : (∃ g ∈ gAll n L, nth g x = y) ↔ Reach L x y := by
  constructor
  · rintro ⟨g, hg, rfl⟩
    exact (gAt_gr hs _).made g hg x h0 h1
  · intro h
    induction h with
    | here => exact ⟨iota n, gAll_unit n L, nth_iota n x h0 h1⟩
    | step _ hp ih =>
      obtain ⟨g, hg, e⟩ := ih
      refine ⟨thenL g _, gAll_closed hok hg hp, ?_⟩
      have := ((gAt_gr hs _).perm g hg).2
      rw [nth_thenL _ _ _ h0 (by omega), e]

/-! The ascending list. -/
def AscR (S : List (List Int)) : Prop := S.Pairwise fun p q => lexB p q = true
theorem ascR_eq : ∀ {S T : List (List Int)}, S.Perm T → AscR S → AscR T → S = T
  | [], T, hp, _, _ => (List.Perm.nil_eq hp)
  | a :: S, [], hp, _, _ => by have := hp.length_eq; simp at this
  | a :: S, b :: T, hp, h1, h2 => by
    have h1' := List.pairwise_cons.1 h1
    have h2' := List.pairwise_cons.1 h2
    have e : a = b := by
      have ha : a ∈ b :: T := hp.mem_iff.1 (by simp)
      have hb : b ∈ a :: S := hp.mem_iff.2 (by simp)
      rcases List.mem_cons.1 ha with ha | ha
      · exact ha
      · rcases List.mem_cons.1 hb with hb | hb
        · exact hb.symm
        · have x1 := h2'.1 a ha
          have x2 := h1'.1 b hb
          have := lexB_asymm x1
          rw [this] at x2; cases x2
    subst e
    rw [ascR_eq (List.perm_cons a |>.1 hp) h1'.2 h2'.2]
/-- The elements in ascending order. -/
def gSort (G : List (List Int)) : List (List Int) := G.mergeSort fun p q => !lexB q p
theorem gSort_perm (G : List (List Int)) : (gSort G).Perm G := List.mergeSort_perm _ _
theorem ascR_nodup {S : List (List Int)} (hn : S.Nodup) (h : S.Pairwise fun p q => (!lexB q p) = true) : AscR S := by
  refine List.Pairwise.imp₂ (R := fun p q => (!lexB q p) = true) (S := fun p q => p ≠ q) ?_ h (List.nodup_iff_pairwise_ne.1 hn)
  intro a b h1 h2
  cases e : lexB a b
  · have := lexB_total h2 e
    rw [this] at h1; cases h1
  · rfl
theorem gSort_asc {G : List (List Int)} (hn : G.Nodup) : AscR (gSort G) := by
  refine ascR_nodup ((gSort_perm G).nodup_iff.2 hn) ?_
  refine List.pairwise_mergeSort ?_ ?_ G
  · intro a b c h1 h2
    simp only [Bool.not_eq_true'] at *
    cases e : lexB c a
    · rfl
    · exfalso
      -- c < a; a ≤ b; b ≤ c
      rcases Classical.em (a = b) with rfl | hab
      · rw [e] at h2; cases h2
      · have x1 := lexB_total (Ne.symm hab) h1
        have x2 := lexB_trans e x1
        rw [x2] at h2; cases h2
  · intro a b
    cases e : lexB b a
    · simp
    · simp [lexB_asymm e]
theorem gSort_is {G S : List (List Int)} (hn : G.Nodup) (hp : S.Perm G) (hs : AscR S) : S = gSort G := ascR_eq (hp.trans (gSort_perm G).symm) hs (gSort_asc hn)
theorem mem_gSort {G : List (List Int)} {x : List Int} : x ∈ gSort G ↔ x ∈ G := (gSort_perm G).mem_iff
end Go.Proofs.Ytkghonhghbcdlaa

namespace Go.Proofs.Ytkghonhghbcdlaa
set_option linter.unusedVariables false
set_option linter.unusedSimpArgs false

open Classical in
theorem labs_newE {L : List (List Int)} {n k : Nat} (h : ¬ 0 ≤ nth (labs L n k).1 k) : labs L n (k + 1) = (rowOf n (fun y => if Reach L k y then (labs L n k).2 else nth (labs L n k).1 y), (labs L n k).2 + 1) := by
  conv => lhs; unfold labs
  rw [if_neg h]
/-- When k starts have been looked at: two elements with numbers have the same one just if one leads to the other. -/
theorem labs_same {L : List (List Int)} {n : Nat} (hs : SysOk n L) : ∀ (k x y : Nat), k ≤ n → x < n → y < n → 0 ≤ nth (labs L n k).1 x → (nth (labs L n k).1 x = nth (labs L n k).1 y ↔ Reach L x y)
  | 0, x, y, _, hx, hy => by
    have : nth (List.replicate n (-1 : Int)) x = -1 := by rw [nth_nat _ _ (by simpa using hx)]; simp
    simp [labs, this]
  | k + 1, x, y, hk, hx, hy => by
    intro h0
    have ih := fun x y hx hy => labs_same hs k x y (by omega) hx hy
    by_cases hl : 0 ≤ nth (labs L n k).1 k
    · rw [labs_old hl] at h0 ⊢
      exact ih x y hx hy h0
    · have hf : nth (labs L n k).1 k < 0 := by omega
      have hr := labs_range L n k
      have hx0 := hr x hx
      have hy0 := hr y hy
      have hn := (labs_next L n k).1
      rw [labs_newE hl] at h0 ⊢
      simp only at h0 ⊢
      rw [nth_rowOf _ _ _ hx, nth_rowOf _ _ _ hy] at *
      by_cases rx : Reach L k x <;> by_cases ry : Reach L k y
      · rw [if_pos rx, if_pos ry]
        exact ⟨fun _ => (rx.symm hs (by omega) (by omega)).trans ry, fun _ => rfl⟩
      · rw [if_pos rx, if_neg ry]
        exact ⟨fun e => by omega, fun h => absurd (rx.trans h) ry⟩
      · rw [if_neg rx, if_pos ry]
        exact ⟨fun e => by omega, fun h => absurd (ry.trans (h.symm hs (by omega) (by omega))) rx⟩
      · rw [if_neg rx, if_neg ry]
        rw [if_neg rx] at h0
        exact ih x y hx hy h0
theorem orb_nonneg {L : List (List Int)} {n : Nat} (hs : SysOk n L) {x : Nat} (hx : x < n) : 0 ≤ nth (orbL L n) x := (labs_iff hs n x (Nat.le_refl _) hx).2 ⟨x, hx, .here⟩
theorem orb_same {L : List (List Int)} {n : Nat} (hs : SysOk n L) {x y : Nat} (hx : x < n) (hy : y < n) : nth (orbL L n) x = nth (orbL L n) y ↔ Reach L x y :=
  labs_same hs n x y (Nat.le_refl _) hx hy (orb_nonneg hs hx)
/-- A number once given stays. -/
theorem labs_keep {L : List (List Int)} {n : Nat} (hs : SysOk n L) {k y : Nat} (hk : k < n) (hy : y < n) (h : 0 ≤ nth (labs L n k).1 y) : nth (labs L n (k + 1)).1 y = nth (labs L n k).1 y := by
  by_cases hl : 0 ≤ nth (labs L n k).1 k
  · rw [labs_old hl]
  · rw [labs_newE hl]
    simp only
    rw [nth_rowOf _ _ _ hy, if_neg]
    · intro hr
      have := labs_fresh hs hk hy (by omega) hr
      omega
theorem labs_keeps {L : List (List Int)} {n : Nat} (hs : SysOk n L) {k y : Nat} (hy : y < n) : ∀ s, k + s ≤ n → 0 ≤ nth (labs L n k).1 y → nth (labs L n (k + s)).1 y = nth (labs L n k).1 y
  | 0, _, _ => rfl
  | s + 1, h, h0 => by
    have ih := labs_keeps hs hy s (by omega) h0
    rw [← Nat.add_assoc, labs_keep hs (by omega) hy (by rw [ih]; exact h0), ih]
/-- The number of an element: one that was given before, or the next one. -/
theorem orb_next {L : List (List Int)} {n : Nat} (hs : SysOk n L) {x : Nat} (hx : x < n) :
    nth (orbL L n) x ≤ (labs L n x).2 ∧ (labs L n (x + 1)).2 = if nth (orbL L n) x = (labs L n x).2 then (labs L n x).2 + 1 else (labs L n x).2 := by
  by_cases hl : 0 ≤ nth (labs L n x).1 x
  · have e : nth (orbL L n) x = nth (labs L n x).1 x := by
      have := labs_keeps hs (k := x) hx (n - x) (by omega) hl
      rwa [show x + (n - x) = n from by omega] at this
    have hr := labs_range L n x x hx
    rw [labs_old hl, e, if_neg (by omega)]
    exact ⟨by omega, rfl⟩
  · have hn := (labs_next L n x).1
    have e1 : nth (labs L n (x + 1)).1 x = (labs L n x).2 := by
      rw [labs_newE hl]
      simp only
      rw [nth_rowOf _ _ _ hx, if_pos .here]
    have e : nth (orbL L n) x = (labs L n x).2 := by
      have := labs_keeps hs (k := x + 1) hx (n - (x + 1)) (by omega) (by rw [e1]; exact hn)
      rw [show x + 1 + (n - (x + 1)) = n from by omega, e1] at this
      exact this
    refine ⟨by omega, ?_⟩
    rw [if_pos e]
    rw [labs_newE hl]
/-- The marks that the elements of a group leave at the images of x. -/
theorem seen_iff {n : Nat} {L : List (List Int)} (hs : SysOk n L) (hok : gOk n L = true) {x y : Nat} (hx : x < n) (hy : y < n) :
    (∃ g ∈ gSort (gAll n L), nth g x = y) ↔ nth (orbL L n) x = nth (orbL L n) y := by
  rw [orb_same hs hx hy, ← gAll_images hs hok (by omega) (by omega)]
  simp only [mem_gSort]
end Go.Proofs.Ytkghonhghbcdlaa

namespace Go.Proofs.Ytkghonhghbcdlaa
set_option linter.unusedVariables false
set_option linter.unusedSimpArgs false
open Go.RowKit

theorem Keep.chain {S T : Nat → Prop} {w w1 w2 : World} (h1 : Keep S w w1) (h2 : Keep T w1 w2) (hT : ∀ b, b < w.heap.size → T b → S b) : Keep S w w2 :=
  ⟨h2.os.trans h1.os, h2.tape.trans h1.tape, h2.output.trans h1.output, Nat.le_trans h1.size h2.size, fun k hk hn => (h2.block k (Nat.lt_of_lt_of_le hk h1.size) (fun h => hn (hT k hk h))).trans (h1.block k hk hn)⟩
theorem Own.keepR {B B0 : Nat} {w w' : World} {u v : Value} {xs : List Int} {yss : List (List Int)} (h : Own B w u xs) (hv : OwnRows B0 w v yss) (k : Keep (fun b => v.ownBlock = some b) w w') : Own B w' u xs := by
  obtain ⟨us', h3, h4⟩ := hv
  obtain ⟨hl, hn' | ⟨g, cap, cur, hv5, hbg, hg, r⟩⟩ := h
  · exact ⟨hl, .inl hn'⟩
  · refine ⟨hl, .inr ⟨g, cap, cur, hv5, hbg, ?_, r⟩⟩
    rw [k.block g (Array.getElem?_eq_some_iff.1 hg).1 ?_]; exact hg
    intro e
    obtain ⟨_, hnn | ⟨g', cap', cur', hv', _, hg', _⟩⟩ := h3
    · rw [hnn.1] at e; cases e
    · rw [hv'] at e
      simp [Value.ownBlock] at e
      subst e
      rw [hg] at hg'
      simp at hg'

def partG (n m : Nat) (start : List Int) (k : Nat) : List (List Int) := ((iota k).filter fun x => decide (¬ x ∈ start)).flatMap fun x => growL n m (start ++ [x])
theorem partG_succ (n m : Nat) (start : List Int) (k : Nat) : partG n m start (k + 1) = partG n m start k ++ (if (k : Int) ∈ start then [] else growL n m (start ++ [(k : Int)])) := by
  unfold partG
  rw [show iota (k + 1) = iota k ++ [(k : Int)] from by simp [iota, List.range_succ], List.filter_append, List.flatMap_append]
  congr 1
  by_cases h : (k : Int) ∈ start
  · simp [h]
  · simp [h]
theorem partG_mono (n m : Nat) (start : List Int) (k : Nat) : ∀ d, (partG n m start k).length ≤ (partG n m start (k + d)).length
  | 0 => Nat.le_refl _
  | d + 1 => by
    have := partG_mono n m start k d
    rw [← Nat.add_assoc, partG_succ, List.length_append]; omega
theorem partG_le {n m : Nat} {start : List Int} {k : Nat} (h : k ≤ n) : (partG n m start k).length ≤ (growL n (m + 1) start).length := by
  have := partG_mono n m start k (n - k)
  rw [show k + (n - k) = n from by omega] at this
  exact this

def GrowPost (w : World) (v : Value) (B : Nat) (ys : List (List Int)) (e : Ending) (w' : World) : Prop :=
  ∃ r, e = .returned r ∧ OwnRows B w' r ys ∧ Keep (fun b => v.ownBlock = some b) w w' ∧ ∀ b, r.ownBlock = some b → v.ownBlock = some b ∨ w.heap.size ≤ b


theorem growL_length (n : Nat) : ∀ (m : Nat) (start : List Int), (growL n m start).length ≤ n ^ m
  | 0, start => by simp [growL]
  | m + 1, start => by
    have h : ∀ k, (partG n m start k).length ≤ k * n ^ m := by
      intro k
      induction k with
      | zero => simp [partG, iota]
      | succ k ih =>
        rw [partG_succ, List.length_append, Nat.add_mul, Nat.one_mul]
        have : (if (k : Int) ∈ start then [] else growL n m (start ++ [(k : Int)])).length ≤ n ^ m := by
          split
          · simp
          · exact growL_length n m _
        omega
    have := h n
    rw [Nat.pow_succ, Nat.mul_comm]
    exact this
theorem allPerms_le {n : Nat} (h : n ≤ 7) : (allPerms n).length ≤ 823543 := by
  refine Nat.le_trans (growL_length n n []) ?_
  have h1 : n ^ n ≤ 7 ^ n := Nat.pow_le_pow_left h n
  have h2 : 7 ^ n ≤ 7 ^ 7 := Nat.pow_le_pow_right (by omega) h
  omega

end Go.Proofs.Ytkghonhghbcdlaa

namespace Go.Proofs.Ytkghonhghbcdlaa
set_option linter.unusedVariables false
set_option linter.unusedSimpArgs false
open Go Go.RowKit

theorem Own.keep1 {B : Nat} {w : World} {v : Value} {xs : List Int} (h : Own B w v xs) {p : Addr} (z : Value) (hp : v.ownBlock ≠ some p.block) : Own B (w.setCell p z) v xs := by
  obtain ⟨hl, hn | ⟨g, cap, cur, hv, hb, hg, r⟩⟩ := h
  · exact ⟨hl, .inl hn⟩
  · refine ⟨hl, .inr ⟨g, cap, cur, hv, hb, ?_, r⟩⟩
    rw [Below.heap_setCell _ _ _ _ (by intro e; apply hp; rw [hv, ← e]; rfl)]; exact hg
theorem drew_set {b : Nat} {w w' : World} (h : Drew b w w') {p : Addr} (hp : w.heap.size ≤ p.block) (hb : b < p.block) (z : Value) : Drew b w (w'.setCell p z) :=
  ⟨h.1.keep (S := fun x => x = p.block) ((Keep.refl (fun x => x = p.block) w').setCell (p := p) (.inl rfl) z) (fun q hq e => by omega), h.2.setCell (p := p) (.inr hp) z⟩
theorem drew_app {b B : Nat} {w w1 w2 : World} {v : Value} {xss : List (List Int)} (h : Drew b w w1) (ho : OwnRows B w1 v xss) (k : Keep (fun x => v.ownBlock = some x) w1 w2) (hb : b < w.heap.size) (hB : w.heap.size ≤ B := by exact Nat.le_refl _) : Drew b w w2 :=
  ⟨h.1.keep k (fun p hp e => by have := (OwnRows.lt ho e).1; omega), h.2.chain k (fun x hx e => by have := (OwnRows.lt ho e).1; omega)⟩

set_option maxRecDepth 100000 in
set_option maxHeartbeats 4000000 in
theorem c_l01Tables (b n : Nat) (w : World) (hs : Src w b) (h1 : 1 ≤ n) (h2 : n ≤ 1000) :
    Calls Try.prog 80 #[.pointer (some ⟨b, 0, none⟩), .int .i64 n] w (fun e w' => ∃ (r : Value) (X : List (List Int)), e = .returned r ∧ X.length = n ∧ (∀ row ∈ X, row.length = n) ∧ OwnRows w.heap.size w' r X ∧ Drew b w w') := by
  have hbl := hs.lt
  have hbel : Below w.heap.size w (w.alloc (.cells #[] 27)) := (Below.refl _ _).alloc (Nat.le_refl _) _
  have HD0 := Lib.hid ((Drew.refl hs).under hbel)
  have HO0 := Lib.hid (OwnRows.made0 w (Nat.le_refl w.heap.size))
  clear hs hbel
  go_enter Try.func80, Try.ntmps80
  go_wp2_with fail
  refine (c_l01Next b 3 _ HD0.out.1 (by omega) (by omega)).mono ?_; rintro e w1 ⟨kd, rfl, k0, k3, hd1⟩
  have HD1 := Lib.hid (HD0.out.trans hd1)
  have HO1 := Lib.hid (HO0.out.keep hd1.2 (fun x h1 h2 e => by have e : x = b := e; omega))
  clear hd1
  go_wp2_with fail
  refine (c_l01Draw b n _ HD1.out.1 h1 h2).mono ?_; rintro e w2 ⟨rf, fs, rfl, hfl, hof, hd2⟩
  have HD2 := Lib.hid (HD1.out.trans hd2)
  have HO2 := Lib.hid (HO1.out.keep hd2.2 (fun x h1 h2 e => by have e : x = b := e; omega))
  rcases hof.open with ⟨_, h0⟩ | ⟨gf, cf, hv, hgf, hblk, hmx⟩
  · rw [h0] at hfl; simp at hfl; omega
  rw [hfl] at hv hmx
  subst hv
  have HF2 := Lib.hid (And.intro (hof.mono HD1.out.2.size) hfl)
  clear hof hd2 hblk hmx hgf
  go_wp2
  go_loopw [5, 8] (fun t x wr => ∃ (k : Nat) (X : List (List Int)) (ta : Option Addr) (tc : Nat), k ≤ n ∧ x = .int .i64 k ∧ t = .slice ta k tc ∧ Hid (X.length = k ∧ ∀ row ∈ X, row.length = n) ∧ Hid (OwnRows w.heap.size wr (.slice ta k tc) X) ∧ Hid (Own w.heap.size wr (.slice (some ⟨gf, 0, none⟩) n (n + cf.length)) fs ∧ fs.length = n) ∧ Hid (Drew b w wr)) (fun _ x _ => n - (intOf x).toNat)
  case atStart => exact ⟨0, [], _, _, Nat.zero_le _, rfl, rfl, Lib.hid (by simp), HO2, HF2, HD2⟩
  case round =>
    clear HO2 HF2 HD2 HO1 HD1 HO0 HD0
    obtain ⟨k, X, ta, tc, hk, rfl, rfl, HX, HO, HF, HDr⟩ := hrel
    obtain ⟨wo, rfl⟩ : ∃ wo : World, wo = wr := ⟨_, rfl⟩
    have hwo : w.heap.size ≤ wo.heap.size := HDr.out.2.size
    by_cases hlt : k < n
    · go_wp2_with fail
      refine (c_l01Draw b n _ HDr.out.1 h1 h2).mono ?_; rintro e w3 ⟨rr, ys0, rfl, hyl, hor, hd3⟩
      rcases hor.open with ⟨_, h0⟩ | ⟨g, cs, hv, hgo, hblk, hmx⟩
      · rw [h0] at hyl; simp at hyl; omega
      rw [hyl] at hv hmx
      subst hv
      have HMX := Lib.hid hmx
      have HD2 := Lib.hid (HDr.out.trans hd3); have HB2 := Lib.hid hblk; have HY0 := Lib.hid hyl
      have HR2 := Lib.hid (HO.out.inn.keep hd3.2 (fun x h1 h2 e => by have e : x = b := e; omega))
      have HF2 := Lib.hid (And.intro (hd3.own HF.out.1 hbl) (And.intro HF.out.2 (HF.out.1.lt (k := gf) rfl).2))
      clear hor hd3 hblk hmx hyl HO HF HDr
      by_cases hk0 : kd = 0
      · subst hk0
        go_wp2
        go_loopw [10] (fun y wi => ∃ (j : Nat) (ys : List Int), j ≤ n ∧ y = .int .i64 j ∧ Hid (ys.length = n) ∧ Hid (Blk wi g 2 (ys.map (Value.int .i64) ++ cs)) ∧ Hid (OwnRowsIn w.heap.size wo.heap.size wi (.slice ta k tc) X) ∧ Hid (Own w.heap.size wi (.slice (some ⟨gf, 0, none⟩) n (n + cf.length)) fs ∧ fs.length = n ∧ gf < wo.heap.size) ∧ Hid (Drew b w wi)) (fun y _ => n - (intOf y).toNat)
        case atStart => exact ⟨0, ys0, Nat.zero_le _, rfl, HY0, HB2, HR2, HF2, HD2⟩
        case round =>
          clear HY0 HB2 HR2 HF2 HD2
          obtain ⟨j, ys, hj, rfl, HY, HBk, HR, HFs, HD⟩ := hrel
          obtain ⟨wi, rfl⟩ : ∃ wi : World, wi = wr := ⟨_, rfl⟩
          by_cases hlj : j < n
          · go_wp2_with fail
            refine (c_l01Next b n _ HD.out.1 (by omega) (by omega)).mono ?_; rintro e w4 ⟨z, rfl, z0, z1, hd⟩
            have hB4 := hd.blk HBk.out (by omega)
            have hl := HY.out
            have l1 := hB4.labN j (by omega)
            have f1 := hB4.frozen j
            have s1 := hB4.labSet (j : Int) (by omega) (by omega) z
            rw [Int.toNat_natCast] at s1
            have HS := Lib.hid s1
            have HRk := Lib.hid ((HR.out.keep hd.2 (fun x h1 h2 e => by have e : x = b := e; omega)).keep ((Keep.refl (fun x => x = g) w4).setCell (p := ⟨g, j, none⟩) (.inl rfl) (.int .i64 z)) (fun x h1 h2 e => by have e : x = g := e; have := hgo; omega))
            have HFk := Lib.hid (And.intro ((hd.own HFs.out.1 hbl).keep1 (p := ⟨g, j, none⟩) (.int .i64 z) (fun e => by simp [Value.ownBlock] at e; have := HFs.out.2.2; have := hgo; omega)) HFs.out.2)
            have HDk := Lib.hid (drew_set (HD.out.trans hd) (p := ⟨g, j, none⟩) (by show w.heap.size ≤ g; have := hgo; have := hwo; omega) (by show b < g; have := hgo; have := hwo; omega) (.int .i64 z))
            clear hB4 hl s1 hd
            go_wp2
            go_roundw
            case rel => exact ⟨j + 1, _, by omega, by go_num, Lib.hid (by simpa using HY.out), HS, HRk, HFk, HDk⟩
            case measure => simp [intOf]; omega
          · have HRI := Lib.hid HR.out
            have HFi := Lib.hid HFs.out
            have HDi := Lib.hid HD.out
            have HYs := Lib.hid HY.out
            have HOr := Lib.hid (Own.shut HBk.out (Nat.le_refl _) (by rw [HYs.out]; exact HMX.out) HYs.out.symm (by rw [HYs.out]) : Own g wi (.slice (some ⟨g, 0, none⟩) n (n + cs.length)) ys)
            have HSz : Hid (wo.heap.size ≤ wi.heap.size ∧ w.heap.size ≤ wi.heap.size) := Lib.hid ⟨by have := HOr.out.lt (k := g) rfl; have := hgo; omega, by have := HDi.out.2.size; omega⟩
            go_wp2_with (at_builtin; refine wpList_app_row2 w.heap.size wo.heap.size wi _ X _ ys _ _ rfl rfl rfl HRI.out (HOr.out.mono (by have := hgo; omega)) rfl (by have := HX.out.1; omega) (by have := hwo; omega) HSz.out.2 ?_; intro ga gc w9 hown hkeep hor; have HOwn := Lib.hid hown; have HKp := Lib.hid hkeep; clear hown hkeep hor)
            go_roundw
            case rel =>
              have hX := HX.out
              refine ⟨k + 1, X ++ [ys], some ⟨ga, 0, none⟩, gc, by omega, by go_num, by rw [hX.1], Lib.hid ⟨by simp [hX.1], fun r hr => ?_⟩, Lib.hid (by have h := HOwn.out; rw [hX.1] at h; exact h), Lib.hid ⟨HFi.out.1.keepR HRI.out.out HKp.out, HFi.out.2.1⟩, Lib.hid (drew_app HDi.out HRI.out.out HKp.out hbl)⟩
              rcases List.mem_append.1 hr with h | h
              · exact hX.2 r h
              · simp at h; subst h; exact HYs.out
            case measure => simp [intOf]; omega
      · by_cases hk1 : kd = 1
        · subst hk1
          go_wp2
          go_loopw [11] (fun y wi => ∃ (j : Nat) (ys : List Int), j ≤ n ∧ y = .int .i64 j ∧ Hid (ys.length = n) ∧ Hid (Blk wi g 2 (ys.map (Value.int .i64) ++ cs)) ∧ Hid (OwnRowsIn w.heap.size wo.heap.size wi (.slice ta k tc) X) ∧ Hid (Own w.heap.size wi (.slice (some ⟨gf, 0, none⟩) n (n + cf.length)) fs ∧ fs.length = n ∧ gf < wo.heap.size) ∧ Hid (Drew b w wi)) (fun y _ => n - (intOf y).toNat)
          case atStart => exact ⟨0, ys0, Nat.zero_le _, rfl, HY0, HB2, HR2, HF2, HD2⟩
          case round =>
            clear HY0 HB2 HR2 HF2 HD2
            obtain ⟨j, ys, hj, rfl, HY, HBk, HR, HFs, HD⟩ := hrel
            obtain ⟨wi, rfl⟩ : ∃ wi : World, wi = wr := ⟨_, rfl⟩
            by_cases hlj : j < n
            · have hmod0 := Int.emod_nonneg ((k : Int) + (j : Int)) (show (n : Int) ≠ 0 by omega)
              have hmod1 := Int.emod_lt_of_pos ((k : Int) + (j : Int)) (show (0 : Int) < n by omega)
              obtain ⟨u, hu⟩ : ∃ u : Nat, ((k : Int) + (j : Int)) % (n : Int) = u := ⟨(((k : Int) + (j : Int)) % (n : Int)).toNat, by omega⟩
              have hun : u < n := by omega
              obtain ⟨_, _, e1, hcf⟩ := HFs.out.1.ints.get u (by rw [HFs.out.2.1]; exact hun)
              injection e1 with e1; injection e1 with e1 e2; subst e1 e2
              rw [Nat.zero_add] at hcf
              have hl := HY.out
              have l1 := HBk.out.labN j (by omega)
              have f1 := HBk.out.frozen j
              obtain ⟨z, hz⟩ : ∃ z, nth fs u = z := ⟨_, rfl⟩
              rw [hz] at hcf
              have s1 := HBk.out.labSet (j : Int) (by omega) (by omega) z
              rw [Int.toNat_natCast] at s1
              have HS := Lib.hid s1
              have HRk := Lib.hid (HR.out.keep ((Keep.refl (fun x => x = g) wi).setCell (p := ⟨g, j, none⟩) (.inl rfl) (.int .i64 z)) (fun x h1 h2 e => by have e : x = g := e; have := hgo; omega))
              have HFk := Lib.hid (And.intro (HFs.out.1.keep1 (p := ⟨g, j, none⟩) (.int .i64 z) (fun e => by simp [Value.ownBlock] at e; have := HFs.out.2.2; have := hgo; omega)) HFs.out.2)
              have HDk := Lib.hid (drew_set HD.out (p := ⟨g, j, none⟩) (by show w.heap.size ≤ g; have := hgo; have := hwo; omega) (by show b < g; have := hgo; have := hwo; omega) (.int .i64 z))
              clear hl s1 hz hmod0 hmod1
              go_wp2
              go_roundw
              case rel => exact ⟨j + 1, _, by omega, by go_num, Lib.hid (by simpa using HY.out), HS, HRk, HFk, HDk⟩
              case measure => simp [intOf]; omega
            · have HRI := Lib.hid HR.out
              have HFi := Lib.hid HFs.out
              have HDi := Lib.hid HD.out
              have HYs := Lib.hid HY.out
              have HOr := Lib.hid (Own.shut HBk.out (Nat.le_refl _) (by rw [HYs.out]; exact HMX.out) HYs.out.symm (by rw [HYs.out]) : Own g wi (.slice (some ⟨g, 0, none⟩) n (n + cs.length)) ys)
              have HSz : Hid (wo.heap.size ≤ wi.heap.size ∧ w.heap.size ≤ wi.heap.size) := Lib.hid ⟨by have := HOr.out.lt (k := g) rfl; have := hgo; omega, by have := HDi.out.2.size; omega⟩
              go_wp2_with (at_builtin; refine wpList_app_row2 w.heap.size wo.heap.size wi _ X _ ys _ _ rfl rfl rfl HRI.out (HOr.out.mono (by have := hgo; omega)) rfl (by have := HX.out.1; omega) (by have := hwo; omega) HSz.out.2 ?_; intro ga gc w9 hown hkeep hor; have HOwn := Lib.hid hown; have HKp := Lib.hid hkeep; clear hown hkeep hor)
              go_roundw
              case rel =>
                have hX := HX.out
                refine ⟨k + 1, X ++ [ys], some ⟨ga, 0, none⟩, gc, by omega, by go_num, by rw [hX.1], Lib.hid ⟨by simp [hX.1], fun r hr => ?_⟩, Lib.hid (by have h := HOwn.out; rw [hX.1] at h; exact h), Lib.hid ⟨HFi.out.1.keepR HRI.out.out HKp.out, HFi.out.2.1⟩, Lib.hid (drew_app HDi.out HRI.out.out HKp.out hbl)⟩
                rcases List.mem_append.1 hr with h | h
                · exact hX.2 r h
                · simp at h; subst h; exact HYs.out
              case measure => simp [intOf]; omega
        · have hz0 : (kd == 0) = false := by simp [hk0]
          have hz1 : (kd == 1) = false := by simp [hk1]
          have HRI := Lib.hid HR2.out
          have HFi := Lib.hid HF2.out
          have HDi := Lib.hid HD2.out
          have HYs := Lib.hid HY0.out
          have HOr := Lib.hid (Own.shut HB2.out (Nat.le_refl _) (by rw [HYs.out]; exact HMX.out) HYs.out.symm (by rw [HYs.out]) : Own g w3 (.slice (some ⟨g, 0, none⟩) n (n + cs.length)) ys0)
          have HSz : Hid (wo.heap.size ≤ w3.heap.size ∧ w.heap.size ≤ w3.heap.size) := Lib.hid ⟨by have := HOr.out.lt (k := g) rfl; have := hgo; omega, by have := HDi.out.2.size; omega⟩
          go_wp2_with (at_builtin; refine wpList_app_row2 w.heap.size wo.heap.size w3 _ X _ ys0 _ _ rfl rfl rfl HRI.out (HOr.out.mono (by have := hgo; omega)) rfl (by have := HX.out.1; omega) (by have := hwo; omega) HSz.out.2 ?_; intro ga gc w9 hown hkeep hor; have HOwn := Lib.hid hown; have HKp := Lib.hid hkeep; clear hown hkeep hor)
          go_roundw
          case rel =>
            have hX := HX.out
            refine ⟨k + 1, X ++ [ys0], some ⟨ga, 0, none⟩, gc, by omega, by go_num, by rw [hX.1], Lib.hid ⟨by simp [hX.1], fun r hr => ?_⟩, Lib.hid (by have h := HOwn.out; rw [hX.1] at h; exact h), Lib.hid ⟨HFi.out.1.keepR HRI.out.out HKp.out, HFi.out.2.1⟩, Lib.hid (drew_app HDi.out HRI.out.out HKp.out hbl)⟩
            rcases List.mem_append.1 hr with h | h
            · exact hX.2 r h
            · simp at h; subst h; exact HYs.out
          case measure => simp [intOf]; omega
    · obtain rfl : n = k := by omega
      go_wp2
      go_ret
      exact ⟨_, X, rfl, HX.out.1, HX.out.2, HO.out, HDr.out⟩
end Go.Proofs.Ytkghonhghbcdlaa

namespace Go.Proofs.Ytkghonhghbcdlaa
set_option linter.unusedVariables false
set_option linter.unusedSimpArgs false
open Go Go.RowKit

theorem OwnRowsIn.put {lo hi : Nat} {w : World} {sa : Option Addr} {n c : Nat} {t : List (List Int)} (h : OwnRowsIn lo hi w (.slice sa n c) t) {u y m : Nat} (hu : u < t.length) (hm : (row t u).length = m) (hy : y < m) :
    ∃ b g cr z0, sa = some ⟨b, 0, none⟩ ∧ lo ≤ b ∧ b < hi ∧ lo ≤ g ∧ g < hi ∧ b ≠ g ∧ w.cell? ⟨b, u, none⟩ = some (.slice (some ⟨g, 0, none⟩) m cr) ∧ w.cell? ⟨g, y, none⟩ = some z0 ∧ w.frozen? ⟨g, y, none⟩ = false ∧
      ∀ z : Int, OwnRowsIn lo hi (w.setCell ⟨g, y, none⟩ (.int .i64 z)) (.slice sa n c) (t.set u ((row t u).set y z)) := by
  obtain ⟨us, h1, h2, h3, h4⟩ := h
  have hul : u < us.length := by rw [h2.len]; exact hu
  obtain ⟨a, c', hv, _, _, hc⟩ := ownsRow_cells h1
  obtain ⟨b, hab, hcell⟩ := hc u hul
  injection hv with e1 e2 e3
  subst e1 hab
  have hrow : t[u] = row t u := (row_nat t u hu).symm
  have hown := h2.own u hul hu
  rcases hown.open with ⟨_, k2⟩ | ⟨g, cs, k1, k2, k3, k4⟩
  · rw [hrow] at k2; rw [k2] at hm; simp at hm; omega
  · have hy' : y < (t[u]).length := by rw [hrow]; omega
    have hv1 : us[u] = .slice (some ⟨g, 0, none⟩) m ((t[u]).length + cs.length) := by rw [k1, hrow, hm]
    have hput := fun z => h2.put hul hu hv1 hy' z
    obtain ⟨p1, p2⟩ := h2.cellAt hul hu hv1 hy'
    have hg := h4 u hul g (by rw [hv1]; rfl)
    have hb1 := World.ownsRow.lt h1 b rfl
    have hbg : b ≠ g := by
      obtain ⟨hl, hn | ⟨g', cap, cur, hv', hb', hg', r⟩⟩ := h1
      · simp at hn
      · injection hv' with e1 e2 e3
        injection e1 with e1
        injection e1 with e1
        subst e1
        have := hown.ne (g := b) (t := 27) (cs := cur.toList) (by unfold Blk; simpa using hg') (by decide)
        intro e
        apply this
        rw [hv1, e]; rfl
    refine ⟨b, g, _, _, rfl, hb1.1, h3 b rfl, k2, hg, hbg, by rw [hcell, hv1], p1, p2, fun z => ⟨us, ?_, ?_, h3, h4⟩⟩
    · refine ownsRow_ne h1 hown ?_
      rw [hv1]
      exact keepB _ _ _ _ _ _
    · have := hput z
      rw [hrow] at this; exact this

/-- Two tables side by side, apart from a box q. -/
def TwoIn (lo q : Nat) (W : World) (va vb : Value) (X Y : List (List Int)) : Prop :=
  ∃ l1 h1 l2 h2, lo ≤ l1 ∧ lo ≤ l2 ∧ h1 ≤ l2 ∧ h1 ≤ W.heap.size ∧ h2 ≤ W.heap.size ∧ (h1 ≤ q ∨ q < l1) ∧ (h2 ≤ q ∨ q < l2) ∧ OwnRowsIn l1 h1 W va X ∧ OwnRowsIn l2 h2 W vb Y
theorem size_set (w : World) (a : Addr) (v : Value) : (w.setCell a v).heap.size = w.heap.size := by simp [World.setCell]
theorem TwoIn.keep {lo q : Nat} {S : Nat → Prop} {W W' : World} {va vb : Value} {X Y : List (List Int)} (h : TwoIn lo q W va vb X Y) (k : Keep S W W') (hS : ∀ b, lo ≤ b → b ≠ q → b < W.heap.size → ¬ S b) : TwoIn lo q W' va vb X Y := by
  obtain ⟨l1, h1, l2, h2, a, b, c, d1, d, e, f, o1, o2⟩ := h
  have hs := k.size
  exact ⟨l1, h1, l2, h2, a, b, c, by omega, by omega, e, f, o1.keep k (fun x x1 x2 => hS x (by omega) (by omega) (by omega)), o2.keep k (fun x x1 x2 => hS x (by omega) (by omega) (by omega))⟩
theorem TwoIn.under {lo q : Nat} {W W' : World} {va vb : Value} {X Y : List (List Int)} (h : TwoIn lo q W va vb X Y) (hb : Below W.heap.size W W') : TwoIn lo q W' va vb X Y :=
  h.keep (S := fun b => W.heap.size ≤ b) (Keep.of_below hb) fun x _ _ x1 x2 => by omega
/-- An entry of each written, in either order. -/
theorem TwoIn.put {lo q : Nat} {W : World} {sa sb : Option Addr} {n c n' c' : Nat} {X Y : List (List Int)} (h : TwoIn lo q W (.slice sa n c) (.slice sb n' c') X Y) {u y m m' : Nat}
    (hu : u < X.length) (hu' : u < Y.length) (hm : (row X u).length = m) (hm' : (row Y u).length = m') (hy : y < m) (hy' : y < m') :
    ∃ b1 g1 r1 b2 g2 r2 z1 z2, sa = some ⟨b1, 0, none⟩ ∧ sb = some ⟨b2, 0, none⟩ ∧ (lo ≤ b1 ∧ lo ≤ g1 ∧ lo ≤ b2 ∧ lo ≤ g2) ∧ (q ≠ b1 ∧ q ≠ g1 ∧ q ≠ b2 ∧ q ≠ g2) ∧ (b1 ≠ g1 ∧ b1 ≠ g2 ∧ b2 ≠ g1 ∧ b2 ≠ g2 ∧ g1 ≠ g2) ∧
      W.cell? ⟨b1, u, none⟩ = some (.slice (some ⟨g1, 0, none⟩) m r1) ∧ W.cell? ⟨b2, u, none⟩ = some (.slice (some ⟨g2, 0, none⟩) m' r2) ∧ W.cell? ⟨g1, y, none⟩ = some z1 ∧ W.frozen? ⟨g1, y, none⟩ = false ∧ W.cell? ⟨g2, y, none⟩ = some z2 ∧ W.frozen? ⟨g2, y, none⟩ = false ∧
      (∀ s t : Int, TwoIn lo q ((W.setCell ⟨g1, y, none⟩ (.int .i64 s)).setCell ⟨g2, y, none⟩ (.int .i64 t)) (.slice sa n c) (.slice sb n' c') (X.set u ((row X u).set y s)) (Y.set u ((row Y u).set y t))) ∧
      ∀ s t : Int, TwoIn lo q ((W.setCell ⟨g2, y, none⟩ (.int .i64 t)).setCell ⟨g1, y, none⟩ (.int .i64 s)) (.slice sa n c) (.slice sb n' c') (X.set u ((row X u).set y s)) (Y.set u ((row Y u).set y t)) := by
  obtain ⟨l1, h1, l2, h2, a, b, cc, d1, d, e, f, o1, o2⟩ := h
  have ok1 := fun (W' : World) (o : OwnRowsIn l1 h1 W' (.slice sa n c) X) => o.put hu hm hy
  obtain ⟨b1, g1, r1, z1, rfl, p1, p2, p3, p4, p5, p6, p7, p8, p9⟩ := o1.put hu hm hy
  obtain ⟨b2, g2, r2, z2, rfl, k1, k2, k3, k4, k5, k6, k7, k8, k9⟩ := o2.put hu' hm' hy'
  refine ⟨b1, g1, r1, b2, g2, r2, z1, z2, rfl, rfl, ⟨by omega, by omega, by omega, by omega⟩, ⟨by omega, by omega, by omega, by omega⟩, ⟨by omega, by omega, by omega, by omega, by omega⟩, p6, k6, p7, p8, k7, k8, ?_, ?_⟩
  · intro s t
    have kk := (Keep.refl (fun x => x = g1) W).setCell (p := ⟨g1, y, none⟩) (.inl rfl) (.int .i64 s)
    have o2' := o2.keep kk (fun x x1 x2 e => by omega)
    obtain ⟨b2', g2', r2', z2', hb', _, _, _, _, _, j6, _, _, j9⟩ := o2'.put hu' hm' hy'
    have k6' : (W.setCell ⟨g1, y, none⟩ (.int .i64 s)).cell? ⟨b2, u, none⟩ = some (.slice (some ⟨g2, 0, none⟩) m' r2) := (World.cell?_of_block (w := W) (kk.block b2 (cell_lt k6) (by omega))).trans k6
    injection hb' with hb'; injection hb' with hb'; subst hb'
    rw [k6'] at j6
    injection j6 with j6; injection j6 with j6; injection j6 with j6; injection j6 with j6; subst j6
    have kk2 := (Keep.refl (fun x => x = g2) (W.setCell ⟨g1, y, none⟩ (.int .i64 s))).setCell (p := ⟨g2, y, none⟩) (.inl rfl) (.int .i64 t)
    exact ⟨l1, h1, l2, h2, a, b, cc, by rw [size_set, size_set]; exact d1, by rw [size_set, size_set]; exact d, e, f, (p9 s).keep kk2 (fun x x1 x2 e => by omega), j9 t⟩
  · intro s t
    have kk := (Keep.refl (fun x => x = g2) W).setCell (p := ⟨g2, y, none⟩) (.inl rfl) (.int .i64 t)
    have o1' := o1.keep kk (fun x x1 x2 e => by omega)
    obtain ⟨b1', g1', r1', z1', hb', _, _, _, _, _, j6, _, _, j9⟩ := o1'.put hu hm hy
    have k6' : (W.setCell ⟨g2, y, none⟩ (.int .i64 t)).cell? ⟨b1, u, none⟩ = some (.slice (some ⟨g1, 0, none⟩) m r1) := (World.cell?_of_block (w := W) (kk.block b1 (cell_lt p6) (by omega))).trans p6
    injection hb' with hb'; injection hb' with hb'; subst hb'
    rw [k6'] at j6
    injection j6 with j6; injection j6 with j6; injection j6 with j6; injection j6 with j6; subst j6
    have kk2 := (Keep.refl (fun x => x = g1) (W.setCell ⟨g2, y, none⟩ (.int .i64 t))).setCell (p := ⟨g1, y, none⟩) (.inl rfl) (.int .i64 s)
    exact ⟨l1, h1, l2, h2, a, b, cc, by rw [size_set, size_set]; exact d1, by rw [size_set, size_set]; exact d, e, f, j9 s, (k9 t).keep kk2 (fun x x1 x2 e => by omega)⟩
end Go.Proofs.Ytkghonhghbcdlaa

namespace Go.Proofs.Ytkghonhghbcdlaa
set_option linter.unusedVariables false
set_option linter.unusedSimpArgs false
open Go.RowKit

theorem Own.keepN {B : Nat} {S : Nat → Prop} {w w' : World} {v : Value} {xs : List Int} (h : Own B w v xs) (k : Keep S w w') (hs : ∀ b, v.ownBlock = some b → ¬ S b) : Own B w' v xs := by
  obtain ⟨hl, h | ⟨g, cap, cur, hv, hb, hg, r⟩⟩ := h
  · exact ⟨hl, .inl h⟩
  · exact ⟨hl, .inr ⟨g, cap, cur, hv, hb, by rw [k.block g (Array.getElem?_eq_some_iff.1 hg).1 (hs g (by rw [hv]; rfl))]; exact hg, r⟩⟩

/-- Two tables in the variable at block q; all of them below m. -/
structure Out2 (lo m q : Nat) (w : World) (va vb : Value) (A B : List (List Int)) : Prop where
  ql : q < lo
  lm : lo ≤ m
  mw : m ≤ w.heap.size
  blk : Blk w q 26 [va, vb]
  a : OwnRowsIn lo m w va A
  b : OwnRowsIn lo m w vb B
  ne : ∀ k, va.ownBlock = some k → vb.ownBlock ≠ some k
/-- .. the first of them has grown. -/
structure Out2h (lo m q : Nat) (w : World) (va vb : Value) (A B : List (List Int)) : Prop where
  ql : q < lo
  lm : lo ≤ m
  mw : m ≤ w.heap.size
  blk : Blk w q 26 [va, vb]
  a : OwnRows lo w va A
  b : OwnRowsIn lo m w vb B
  ne : ∀ k, va.ownBlock = some k → vb.ownBlock ≠ some k

theorem OwnRowsIn.ltv {lo m : Nat} {w : World} {v : Value} {A : List (List Int)} (h : OwnRowsIn lo m w v A) {k : Nat} (hk : v.ownBlock = some k) : lo ≤ k ∧ k < m ∧ k < w.heap.size := by
  obtain ⟨us, h1, h2, h3, h4⟩ := h
  have := World.ownsRow.lt h1 k hk
  exact ⟨this.1, h3 k hk, this.2⟩

theorem Out2.under {lo m q : Nat} {w w' : World} {va vb : Value} {A B : List (List Int)} (h : Out2 lo m q w va vb A B) (hb : Below w.heap.size w w') : Out2 lo m q w' va vb A B :=
  ⟨h.ql, h.lm, Nat.le_trans h.mw hb.size, h.blk.under hb, h.a.under hb, h.b.under hb, h.ne⟩
theorem Out2.start {lo q : Nat} {w : World} (hq : q < lo) (hl : lo ≤ w.heap.size) (hb : Blk w q 26 [.slice none 0 0, .slice none 0 0]) : Out2 lo w.heap.size q w (.slice none 0 0) (.slice none 0 0) [] [] :=
  ⟨hq, hl, Nat.le_refl _, hb, OwnRowsIn.nil0 _ _ _, OwnRowsIn.nil0 _ _ _, by intro k hk; cases hk⟩

/-- 'out.First = append(out.First, first)'. -/
theorem Out2.app1 {lo m q : Nat} {w w' : World} {va vb : Value} {A B : List (List Int)} {xs : List Int} {g l c : Nat} (h : Out2 lo m q w va vb A B) (ho : OwnRows lo w' (.slice (some ⟨g, 0, none⟩) l c) (A ++ [xs]))
    (hk : Keep (fun b => va.ownBlock = some b) w w') (hg : va.ownBlock = some g ∨ w.heap.size ≤ g) :
    Out2h lo m q (w'.setCell ⟨q, 0, none⟩ (.slice (some ⟨g, 0, none⟩) l c)) (.slice (some ⟨g, 0, none⟩) l c) vb (A ++ [xs]) B := by
  have hq := h.ql; have hl := h.lm; have hm := h.mw
  have hsz := hk.size
  have hva : ∀ b, va.ownBlock = some b → lo ≤ b ∧ b < m := fun b e => ⟨(h.a.ltv e).1, (h.a.ltv e).2.1⟩
  have hvb : ∀ b, vb.ownBlock = some b → lo ≤ b ∧ b < m := fun b e => ⟨(h.b.ltv e).1, (h.b.ltv e).2.1⟩
  have hblk := h.blk.of_block (hk.block _ h.blk.lt (fun e => by have := hva _ e; omega))
  refine ⟨hq, hl, by simp [World.setCell]; omega, hblk.set 0 _, ?_, ?_, ?_⟩
  · exact ho.keep (keep1 w' q 0 _) (fun b h1 _ h3 => by have h3 : b = q := h3; omega)
  · have h1 := h.b.keepT (h.a.out) (fun b e1 e2 => h.ne b e2 e1) hk
    exact h1.keep (keep1 w' q 0 _) (fun b h1 _ h3 => by have h3 : b = q := h3; omega)
  · intro k e e2
    simp [Value.ownBlock] at e
    subst e
    rcases hg with hg | hg
    · exact h.ne _ hg e2
    · have := hvb _ e2; omega
/-- 'out.Second = append(out.Second, second)'. -/
theorem Out2h.app2 {lo m q : Nat} {w w' : World} {va vb : Value} {A B : List (List Int)} {xs : List Int} {g l c : Nat} (h : Out2h lo m q w va vb A B) (ho : OwnRows lo w' (.slice (some ⟨g, 0, none⟩) l c) (B ++ [xs]))
    (hk : Keep (fun b => vb.ownBlock = some b) w w') (hg : vb.ownBlock = some g ∨ w.heap.size ≤ g) :
    Out2 lo (w'.setCell ⟨q, 1, none⟩ (.slice (some ⟨g, 0, none⟩) l c)).heap.size q (w'.setCell ⟨q, 1, none⟩ (.slice (some ⟨g, 0, none⟩) l c)) va (.slice (some ⟨g, 0, none⟩) l c) A (B ++ [xs]) := by
  have hq := h.ql; have hl := h.lm; have hm := h.mw
  have hsz := hk.size
  have hva : ∀ b, va.ownBlock = some b → lo ≤ b ∧ b < w.heap.size := fun b e => OwnRows.lt h.a e
  have hvb : ∀ b, vb.ownBlock = some b → lo ≤ b ∧ b < m := fun b e => ⟨(h.b.ltv e).1, (h.b.ltv e).2.1⟩
  have hblk := h.blk.of_block (hk.block _ h.blk.lt (fun e => by have := hvb _ e; omega))
  refine ⟨hq, by simp [World.setCell]; omega, Nat.le_refl _, hblk.set 1 _, ?_, ?_, ?_⟩
  · have h1 := h.a.keepT (h.b.out) (fun b e1 e2 => h.ne b e1 e2) hk
    exact (h1.keep (keep1 w' q 1 _) (fun b h1 _ h3 => by have h3 : b = q := h3; omega)).inn
  · exact (ho.keep (keep1 w' q 1 _) (fun b h1 _ h3 => by have h3 : b = q := h3; omega)).inn
  · intro k e e2
    simp [Value.ownBlock] at e2
    subst e2
    rcases hg with hg | hg
    · exact h.ne _ e hg
    · have := hva _ e; omega
theorem Out2.blkq {lo m q : Nat} {w w' : World} {va vb : Value} {A B : List (List Int)} (h : Out2 lo m q w va vb A B) (hk : Keep (fun b => va.ownBlock = some b) w w') : Blk w' q 26 [va, vb] := by
  have hq := h.ql
  exact h.blk.of_block (hk.block _ h.blk.lt (fun e => by have := (h.a.ltv e).1; omega))
theorem Out2h.blkq {lo m q : Nat} {w w' : World} {va vb : Value} {A B : List (List Int)} (h : Out2h lo m q w va vb A B) (hk : Keep (fun b => vb.ownBlock = some b) w w') : Blk w' q 26 [va, vb] := by
  have hq := h.ql
  exact h.blk.of_block (hk.block _ h.blk.lt (fun e => by have := (h.b.ltv e).1; omega))
/-- A row that the call has made since stays as it was. -/
theorem Out2.row1 {lo m q : Nat} {w w' : World} {va vb u : Value} {A B : List (List Int)} {ys : List Int} (h : Out2 lo m q w va vb A B) (hu : Own m w u ys) (hk : Keep (fun b => va.ownBlock = some b) w w') (x : Value) : Own m (w'.setCell ⟨q, 0, none⟩ x) u ys := by
  have hq := h.ql; have hl := h.lm
  have h1 := hu.keep hk (fun b h1 _ h3 => by have := (h.a.ltv h3).2.1; omega)
  exact h1.keep (keep1 w' q 0 _) (fun b h1 _ h3 => by have h3 : b = q := h3; omega)
theorem Out2.frame1 {lo m q B0 : Nat} {w0 w w' : World} {va vb : Value} {A B : List (List Int)} (h : Out2 lo m q w va vb A B) (hb : Below B0 w0 w) (h0 : B0 ≤ q) (hk : Keep (fun b => va.ownBlock = some b) w w') (x : Value) : Below B0 w0 (w'.setCell ⟨q, 0, none⟩ x) := by
  have hq := h.ql; have hl := h.lm; have hm := h.mw
  exact (OwnRows.frame h.a.out hb (by omega) (by omega) hk).setCell (p := ⟨q, 0, none⟩) h0 x
theorem Out2h.frame2 {lo m q B0 : Nat} {w0 w w' : World} {va vb : Value} {A B : List (List Int)} (h : Out2h lo m q w va vb A B) (hb : Below B0 w0 w) (h0 : B0 ≤ q) (hk : Keep (fun b => vb.ownBlock = some b) w w') (x : Value) : Below B0 w0 (w'.setCell ⟨q, 1, none⟩ x) := by
  have hq := h.ql; have hl := h.lm; have hm := h.mw
  exact (OwnRows.frame h.b.out hb (by omega) (by omega) hk).setCell (p := ⟨q, 1, none⟩) h0 x
/-- A block outside of both tables stays as it was. -/
theorem Out2.blk1 {lo m q p : Nat} {w w' : World} {va vb : Value} {A B : List (List Int)} {t : TypeId} {cs : List Value} (h : Out2 lo m q w va vb A B) (hp : p < q) (hB : Blk w p t cs) (hk : Keep (fun b => va.ownBlock = some b) w w') (x : Value) : Blk (w'.setCell ⟨q, 0, none⟩ x) p t cs := by
  have hq := h.ql
  exact (hB.of_block (hk.block _ hB.lt (fun e => by have := (h.a.ltv e).1; omega))).other (a := ⟨q, 0, none⟩) (by show p ≠ q; omega) x
theorem Out2h.blk2 {lo m q p : Nat} {w w' : World} {va vb : Value} {A B : List (List Int)} {t : TypeId} {cs : List Value} (h : Out2h lo m q w va vb A B) (hp : p < q) (hB : Blk w p t cs) (hk : Keep (fun b => vb.ownBlock = some b) w w') (x : Value) : Blk (w'.setCell ⟨q, 1, none⟩ x) p t cs := by
  have hq := h.ql
  exact (hB.of_block (hk.block _ hB.lt (fun e => by have := (h.b.ltv e).1; omega))).other (a := ⟨q, 1, none⟩) (by show p ≠ q; omega) x

theorem wpList_app_int2 {ops : Array Oper} {rest : List Oper} {o : Oper} {a : Act} {Q : Exit → Act → World → Prop} (B : Nat) (w : World) (v : Value) (xs : List Int) (y : Int) (s x : Operand) (sz : Nat) (hsz : sz = w.heap.size) (hgd : o.guard = none)
    (ho : o.op = .call { callee := .builtin .append, args := #[s, x], argTypes := #[27, 27] })
    (hs : a.eval s = v) (hown : Own B w v xs) (hx : a.eval x = .slice (some ⟨sz, 0, none⟩) 1 1) (hn : xs.length ≤ 1099511627776) (hB2 : B ≤ w.heap.size)
    (h : ∀ g c' w', Own B w' (.slice (some ⟨g, 0, none⟩) (xs.length + 1) c') (xs ++ [y]) → Keep (fun b => v.ownBlock = some b) w w' → (v.ownBlock = some g ∨ w.heap.size ≤ g) → wpList Try.prog ops Q rest (a.put o.dst (.slice (some ⟨g, 0, none⟩) (xs.length + 1) c')) w') :
    wpList Try.prog ops Q (o :: rest) a (w.alloc (.cells #[.int .i64 y] 2)) := by
  subst hsz
  exact wpList_plain hgd fun _ hK => wp_app_int B w v xs y s x ho hs hown hx hn hB2 fun g c' w' h2 h3 h4 => hK _ _ (h g c' w' h2 h3 h4)
theorem wpList_app_row2s {ops : Array Oper} {rest : List Oper} {o : Oper} {a : Act} {Q : Exit → Act → World → Prop} (B m : Nat) (w : World) (v : Value) (xss : List (List Int)) (u : Value) (xs : List Int) (s x : Operand) (sz : Nat) (hsz : sz = w.heap.size) (hgd : o.guard = none)
    (ho : o.op = .call { callee := .builtin .append, args := #[s, x], argTypes := #[24, 24] })
    (hs : a.eval s = v) (hown : OwnRowsIn B m w v xss) (hu : Own m w u xs) (hx : a.eval x = .slice (some ⟨sz, 0, none⟩) 1 1) (hn : xss.length ≤ 1099511627776) (hB : B ≤ m) (hB2 : B ≤ w.heap.size)
    (h : ∀ g c' w', OwnRows B w' (.slice (some ⟨g, 0, none⟩) (xss.length + 1) c') (xss ++ [xs]) → Keep (fun b => v.ownBlock = some b) w w' → (v.ownBlock = some g ∨ w.heap.size ≤ g) → wpList Try.prog ops Q rest (a.put o.dst (.slice (some ⟨g, 0, none⟩) (xss.length + 1) c')) w') :
    wpList Try.prog ops Q (o :: rest) a (w.alloc (.cells #[u] 27)) := by
  subst hsz
  exact wpList_app_row2 B m w v xss u xs s x hgd ho hs hown hu hx hn hB hB2 h

/-- A pair of tables of the call's own (not apart from each other), beside a code. -/
def RSolRO (w0 : World) (A B : List (List Int)) (c : Int) (e : Ending) (w' : World) : Prop :=
  ∃ r1 r2, e = .returned (.tuple #[.agg #[r1, r2], .int .i64 c]) ∧ (OwnRows w0.heap.size w' r1 A ∧ OwnRows w0.heap.size w' r2 B) ∧ Below w0.heap.size w0 w'
theorem storedO {w w2 : World} {r1 r2 : Value} {A B : List (List Int)} {lo q : Nat} (hB : Below w.heap.size w w2) (hs : OwnRows lo w2 r1 A ∧ OwnRows lo w2 r2 B) (hq : w.heap.size ≤ q) (hlo : q < lo) :
    (OwnRows w.heap.size ((w2.setCell ⟨q, 0, none⟩ r1).setCell ⟨q, 1, none⟩ r2) r1 A ∧ OwnRows w.heap.size ((w2.setCell ⟨q, 0, none⟩ r1).setCell ⟨q, 1, none⟩ r2) r2 B) ∧ Below w.heap.size w ((w2.setCell ⟨q, 0, none⟩ r1).setCell ⟨q, 1, none⟩ r2) := by
  have k : Keep (fun b => b = q) w2 ((w2.setCell ⟨q, 0, none⟩ r1).setCell ⟨q, 1, none⟩ r2) := ((Keep.refl (fun b => b = q) w2).setCell (p := ⟨q, 0, none⟩) (.inl rfl) _).setCell (p := ⟨q, 1, none⟩) (.inl rfl) _
  exact ⟨⟨(hs.1.keep k (fun b h1 _ h3 => by omega)).mono (by omega), (hs.2.keep k (fun b h1 _ h3 => by omega)).mono (by omega)⟩, (hB.setCell (p := ⟨q, 0, none⟩) hq _).setCell (p := ⟨q, 1, none⟩) hq _⟩
/-- The box of a result, laid ahead of the call and filled behind it. -/
theorem box_early {w3 : World} {q : Nat} {u v a b : Value} {t : TypeId} (h : Blk w3 q t [u, v]) : Blk ((w3.setCell ⟨q, 0, none⟩ a).setCell ⟨q, 1, none⟩ b) q t [a, b] := (h.set 0 a).set 1 b
theorem keep_early (w3 : World) (q : Nat) (a b : Value) : Keep (fun k => k = q) w3 ((w3.setCell ⟨q, 0, none⟩ a).setCell ⟨q, 1, none⟩ b) :=
  ((Keep.refl (fun k => k = q) w3).setCell (p := ⟨q, 0, none⟩) (.inl rfl) _).setCell (p := ⟨q, 1, none⟩) (.inl rfl) _
theorem keep_late (w3 : World) (o : Obj) : Keep (fun k => k = w3.heap.size) w3 (w3.alloc o) := (Keep.refl _ w3).alloc o

/-- Two lists of the call's own that grow side by side. -/
structure Two (B : Nat) (w : World) (u v : Value) (xs ys : List Int) : Prop where
  a : Own B w u xs
  b : Own B w v ys
  ne : ∀ k, u.ownBlock = some k → v.ownBlock ≠ some k
theorem Two.app1 {B g l c : Nat} {w w' : World} {u v : Value} {xs ys : List Int} {x : Int} (h : Two B w u v xs ys) (ho : Own B w' (.slice (some ⟨g, 0, none⟩) l c) (xs ++ [x])) (hk : Keep (fun b => u.ownBlock = some b) w w') (hg : u.ownBlock = some g ∨ w.heap.size ≤ g) :
    Two B w' (.slice (some ⟨g, 0, none⟩) l c) v (xs ++ [x]) ys := by
  refine ⟨ho, h.b.keepN hk (fun b e1 e2 => h.ne b e2 e1), ?_⟩
  intro k e e2
  simp [Value.ownBlock] at e
  subst e
  rcases hg with hg | hg
  · exact h.ne _ hg e2
  · have := (h.b.lt e2).2; omega
theorem Two.app2 {B g l c : Nat} {w w' : World} {u v : Value} {xs ys : List Int} {x : Int} (h : Two B w u v xs ys) (ho : Own B w' (.slice (some ⟨g, 0, none⟩) l c) (ys ++ [x])) (hk : Keep (fun b => v.ownBlock = some b) w w') (hg : v.ownBlock = some g ∨ w.heap.size ≤ g) :
    Two B w' u (.slice (some ⟨g, 0, none⟩) l c) xs (ys ++ [x]) := by
  refine ⟨h.a.keepN hk (fun b e1 e2 => h.ne b e1 e2), ho, ?_⟩
  intro k e e2
  simp [Value.ownBlock] at e2
  subst e2
  rcases hg with hg | hg
  · exact h.ne _ e hg
  · have := (h.a.lt e).2; omega
theorem Two.made0 (w : World) : Two w.heap.size ((w.alloc (.cells #[] 2)).alloc (.cells #[] 2)) (.slice (some ⟨w.heap.size, 0, none⟩) 0 0) (.slice (some ⟨w.heap.size + 1, 0, none⟩) 0 0) [] [] := by
  refine ⟨(Own.made0 w (Nat.le_refl _)).under ((Below.refl _ _).alloc (Nat.le_refl _) _), ?_, ?_⟩
  · have := Own.made0 (B := w.heap.size) (w.alloc (.cells #[] 2)) (by simp)
    simpa using this
  · intro k e e2
    simp [Value.ownBlock] at e e2
    omega
theorem Two.under {B : Nat} {w w' : World} {u v : Value} {xs ys : List Int} (h : Two B w u v xs ys) (hb : Below w.heap.size w w') : Two B w' u v xs ys := ⟨h.a.under hb, h.b.under hb, h.ne⟩
end Go.Proofs.Ytkghonhghbcdlaa

namespace Go.Proofs.Ytkghonhghbcdlaa
set_option linter.unusedVariables false
set_option linter.unusedSimpArgs false
open Go Go.RowKit

/-- Integers that can be read, in a block from lo on. -/
def IntsAt (lo : Nat) (w : World) (v : Value) (xs : List Int) : Prop := Ints w v xs ∧ ∀ b o, (∃ n c, v = .slice (some ⟨b, o, none⟩) n c) → lo ≤ b
theorem Own.at' {lo : Nat} {w : World} {v : Value} {xs : List Int} (h : Own lo w v xs) : IntsAt lo w v xs := by
  refine ⟨h.ints, fun b o hv => ?_⟩
  obtain ⟨n, c, rfl⟩ := hv
  obtain ⟨hl, hn | ⟨g, cap, cur, hv, hb, hg, r⟩⟩ := h
  · cases hn.1
  · injection hv with e1; injection e1 with e1; injection e1 with e1; subst e1; exact hb
theorem IntsAt.keep {lo : Nat} {S : Nat → Prop} {w w' : World} {v : Value} {xs : List Int} (h : IntsAt lo w v xs) (k : Keep S w w') (hS : ∀ b, lo ≤ b → ¬ S b) : IntsAt lo w' v xs := by
  obtain ⟨⟨a, c, hv, h1, h2, hc⟩, hb⟩ := h
  refine ⟨⟨a, c, hv, h1, h2, fun i hi => ?_⟩, hb⟩
  obtain ⟨b, o, ha, hcell⟩ := hc i hi
  exact ⟨b, o, ha, cell_of_block (k.block b (cell_lt hcell) (hS b (hb b o ⟨_, _, by rw [hv, ha]⟩))) hcell⟩
/-- A table that can be read, all of it in blocks from lo on. -/
def RowsAt (lo : Nat) (w : World) (v : Value) (X : List (List Int)) : Prop :=
  ∃ (a : Option Addr) (c : Nat), v = .slice a X.length c ∧ X.length ≤ c ∧ c ≤ maxLen ∧ ∀ i (h : i < X.length), ∃ b o u, a = some ⟨b, o, none⟩ ∧ lo ≤ b ∧ w.cell? ⟨b, o + i, none⟩ = some u ∧ IntsAt lo w u X[i]
theorem RowsAt.rows {lo : Nat} {w : World} {v : Value} {X : List (List Int)} (h : RowsAt lo w v X) : Rows w v X := by
  obtain ⟨a, c, hv, h1, h2, hc⟩ := h
  exact ⟨a, c, hv, h1, h2, fun i hi => by obtain ⟨b, o, u, ha, _, hcell, hu⟩ := hc i hi; exact ⟨b, o, u, ha, hcell, hu.1⟩⟩
theorem RowsAt.keep {lo : Nat} {S : Nat → Prop} {w w' : World} {v : Value} {X : List (List Int)} (h : RowsAt lo w v X) (k : Keep S w w') (hS : ∀ b, lo ≤ b → ¬ S b) : RowsAt lo w' v X := by
  obtain ⟨a, c, hv, h1, h2, hc⟩ := h
  refine ⟨a, c, hv, h1, h2, fun i hi => ?_⟩
  obtain ⟨b, o, u, ha, hlo, hcell, hu⟩ := hc i hi
  exact ⟨b, o, u, ha, hlo, cell_of_block (k.block b (cell_lt hcell) (hS b hlo)) hcell, hu.keep k hS⟩
theorem OwnRows.at' {lo : Nat} {w : World} {v : Value} {X : List (List Int)} (h : OwnRows lo w v X) : RowsAt lo w v X := by
  obtain ⟨us, h1, h2⟩ := h
  have hlt := fun k (hk : v.ownBlock = some k) => World.ownsRow.lt h1 k hk
  obtain ⟨a, c, hv, hc, hm, hcell⟩ := ownsRow_cells h1
  rw [h2.len] at hv hc
  refine ⟨a, c, hv, hc, hm, fun i hi => ?_⟩
  have hi' : i < us.length := by rw [h2.len]; exact hi
  obtain ⟨g, ha, hg⟩ := hcell i hi'
  exact ⟨g, 0, us[i], ha, (hlt g (by rw [hv, ha]; rfl)).1, by rwa [Nat.zero_add], (h2.own i hi' hi).at'⟩
theorem RowVals.others {B : Nat} {w w' : World} {us : List Value} {xss : List (List Int)} (h : RowVals B w us xss) {k : Nat} (hk : k < us.length) (hkeep : Keep (fun b => us[k].ownBlock = some b) w w') (i : Nat) (hi : i < us.length) (hi' : i < xss.length) (e : k ≠ i) : Own B w' us[i] xss[i] := by
  have h0 := h.own i hi hi'
  obtain ⟨hl, hn | ⟨g, cap, cur, hv, hb, hg, r⟩⟩ := h0
  · exact ⟨hl, .inl hn⟩
  · refine ⟨hl, .inr ⟨g, cap, cur, hv, hb, ?_, r⟩⟩
    rw [hkeep.block g (Array.getElem?_eq_some_iff.1 hg).1 ?_]; exact hg
    intro e2
    have h1 : (us[i]).ownBlock = some g := by rw [hv]; rfl
    rcases Nat.lt_or_gt_of_ne e with hlt | hlt
    · have := List.pairwise_iff_getElem.1 h.apart k i hk hi hlt
      rcases this with h3 | h3
      · rw [h3] at e2; cases e2
      · exact h3 (e2.trans h1.symm)
    · have := List.pairwise_iff_getElem.1 h.apart i k hi hk hlt
      rcases this with h3 | h3
      · rw [h3] at h1; cases h1
      · exact h3 (h1.trans e2.symm)
/-- The first row appended to, and stored anew. -/
theorem first_row {lo : Nat} {w : World} {sa : Option Addr} {n c : Nat} {X : List (List Int)} (h : OwnRows lo w (.slice sa n c) X) (hX : 0 < X.length) :
    ∃ (b : Nat) (u : Value), sa = some ⟨b, 0, none⟩ ∧ lo ≤ b ∧ w.cell? ⟨b, 0, none⟩ = some u ∧ w.frozen? ⟨b, 0, none⟩ = false ∧ Own lo w u (row X 0) ∧
      ∀ (w' : World) (u' : Value) (ys : List Int), Keep (fun k => u.ownBlock = some k) w w' → Own lo w' u' ys → w'.cell? ⟨b, 0, none⟩ = some u ∧ w'.frozen? ⟨b, 0, none⟩ = false ∧ RowsAt lo (w'.setCell ⟨b, 0, none⟩ u') (.slice sa n c) (X.set 0 ys) := by
  obtain ⟨us, h1, h2⟩ := h
  have hlt := fun k (hk : (Value.slice sa n c).ownBlock = some k) => World.ownsRow.lt h1 k hk
  have h1' := h1
  obtain ⟨hl, hn | ⟨g, cap, cur, hv, hb, hg, hr1, hr2, hr3, hr4⟩⟩ := h1'
  · have := h2.len; have := hn.2; omega
  injection hv with e1 e2 e3
  subst e1
  have hul : 0 < us.length := by rw [h2.len]; exact hX
  obtain ⟨a, c', hv', hc', hm', hcell⟩ := ownsRow_cells h1
  injection hv' with e1 e4 e5
  subst e1
  have hblk : Blk w g 27 cur.toList := by unfold Blk; simpa using hg
  obtain ⟨g', hg', hcc⟩ := hcell 0 hul
  injection hg' with hg'; injection hg' with hg'; subst hg'
  have hrow : row X 0 = X[0] := row_nat X 0 hX
  have hown := h2.own 0 hul hX
  refine ⟨g, us[0], rfl, hb, hcc, hblk.frozen 0, by rw [hrow]; exact hown, fun w' u' ys hk ho => ?_⟩
  have hne : ∀ i (hi : i < us.length), us[i].ownBlock ≠ some g := fun i hi => (h2.own i hi (by rw [← h2.len]; exact hi)).ne hblk (by decide)
  have hblk' := hblk.of_block (hk.block g hblk.lt (hne 0 hul))
  have hcw : ∀ i (hi : i < us.length), w'.cell? ⟨g, i, none⟩ = some us[i] := fun i hi => by
    obtain ⟨g', hg', hcc⟩ := hcell i hi
    injection hg' with hg'; injection hg' with hg'; subst hg'
    exact cell_of_block (hk.block g hblk.lt (hne 0 hul)) hcc
  have hks : Keep (fun x => x = g) w' (w'.setCell ⟨g, 0, none⟩ u') := (Keep.refl (fun x => x = g) w').setCell (p := ⟨g, 0, none⟩) (.inl rfl) u'
  have hu'g : u'.ownBlock ≠ some g := ho.ne hblk' (by decide)
  have hfar : ∀ {v : Value} {xs : List Int}, Own lo w' v xs → v.ownBlock ≠ some g → IntsAt lo (w'.setCell ⟨g, 0, none⟩ u') v xs := fun h1 h2 => (h1.keep1 (p := ⟨g, 0, none⟩) u' h2).at'
  refine ⟨hcw 0 hul, hblk'.frozen 0, some ⟨g, 0, none⟩, c, ?_, ?_, ?_, fun i hi => ?_⟩
  · rw [List.length_set, ← h2.len]; rw [e4]
  · rw [List.length_set, ← h2.len, e5]; exact hc'
  · rw [e5]; exact hm'
  · rw [List.length_set] at hi
    have hi' : i < us.length := by rw [h2.len]; exact hi
    by_cases e : i = 0
    · subst e
      refine ⟨g, 0, u', rfl, hb, (by first | exact World.cell?_setCell_same _ _ _ (hcw 0 hul) | exact World.cell?_setCell_same _ _ (hcw 0 hul)), ?_⟩
      simp only [List.getElem_set_self]
      exact hfar ho hu'g
    · refine ⟨g, 0, us[i], rfl, hb, ?_, ?_⟩
      · have hs := hblk'.set 0 u'
        have h3 : i < cur.toList.length := by
          have := hcell i hi'
          rw [← hr4] at hi'
          simp at hi' ⊢; omega
        have := hs.cell (i := i) (by simpa using h3)
        rw [Nat.zero_add, this, List.getElem_set_ne (by omega)]
        have h4 := hblk'.cell (i := i) h3
        rw [hcw i hi'] at h4
        exact h4.symm
      · rw [List.getElem_set_ne (by omega)]
        exact hfar (h2.others hul hk i hi' hi (by omega)) (hne i hi')

theorem drew_at {b lo : Nat} {w1 w2 : World} {v : Value} {X : List (List Int)} (h : Drew b w1 w2) (hr : RowsAt lo w1 v X) (hb : b < lo) : RowsAt lo w2 v X := hr.keep h.2 (fun x hx e => by have e : x = b := e; omega)
theorem drew_int {b B : Nat} {w w1 w2 : World} {v : Value} {xs : List Int} (h : Drew b w w1) (ho : Own B w1 v xs) (k : Keep (fun x => v.ownBlock = some x) w1 w2) (hb : b < w.heap.size) (hB : w.heap.size ≤ B) : Drew b w w2 :=
  ⟨h.1.keep k (fun p hp e => by have := (ho.lt e).1; omega), h.2.chain k (fun x hx e => by have := (ho.lt e).1; omega)⟩
theorem keep_mono {S T : Nat → Prop} {w w' : World} (k : Keep S w w') (h : ∀ x, S x → T x) : Keep T w w' := ⟨k.os, k.tape, k.output, k.size, fun x hx hn => k.block x hx (fun e => hn (h x e))⟩
set_option maxRecDepth 100000 in
set_option maxHeartbeats 4000000 in
theorem c_l01Bad (b n : Nat) (w : World) (hs : Src w b) (h1 : 1 ≤ n) (h2 : n ≤ 100) :
    Calls Try.prog 81 #[.pointer (some ⟨b, 0, none⟩), .int .i64 n] w (fun e w' => ∃ (r : Value) (X : List (List Int)), e = .returned r ∧ X.length ≤ 101 ∧ (∀ row ∈ X, row.length ≤ 101) ∧ RowsAt w.heap.size w' r X ∧ Drew b w w') := by
  have hbl := hs.lt
  have HS := Lib.hid hs
  clear hs
  go_enter Try.func81, Try.ntmps81
  go_wp2_with fail
  refine (c_l01Tables b n _ HS.out h1 (by omega)).mono ?_; rintro e w1 ⟨r, X, rfl, hXl, hXr, hor, hd1⟩
  obtain ⟨ra, rc, hr, -⟩ := OwnRows.shape' hor
  rw [hXl] at hr
  subst hr
  have HO := Lib.hid hor; have HD1 := Lib.hid hd1; have HX := Lib.hid (And.intro hXl hXr)
  clear hor hd1 hXl hXr
  go_wp2_with fail
  refine (c_l01Next b 30 _ HD1.out.1 (by omega) (by omega)).mono ?_; rintro e w2 ⟨kd, rfl, k0, k30, hd2⟩
  have HD2 := Lib.hid (HD1.out.trans hd2)
  have HO2 := Lib.hid (HO.out.keep hd2.2 (fun x h1 h2 e => by have e : x = b := e; omega))
  clear hd2
  by_cases e0 : kd = 0
  · subst e0
    go_wp2_with fail
    refine (c_l01Unit n _ (by omega)).mono ?_; rintro e w3 ⟨ru, rfl, hou, hb3⟩
    have HO3 := Lib.hid (HO2.out.under hb3).inn; have HU := Lib.hid hou; have HD3 := Lib.hid (HD2.out.under hb3)
    have HB := Lib.hid hb3.size; have HW := Lib.hid HD2.out.2.size
    obtain ⟨ua, uc, hu, -, -⟩ := hou.ints.shape
    rw [iota_length] at hu
    subst hu
    clear hou
    have HI2 := Lib.hid (HO2.out.inn.under hb3)
    clear hb3
    go_wp2_with (at_builtin; refine wpList_app_row2 w.heap.size w2.heap.size w3 _ X _ (iota n) _ _ rfl rfl rfl HI2.out HU.out rfl (by have := HX.out.1; omega) HW.out (Nat.le_trans HW.out HB.out) ?_; intro ga gc w9 hown hkeep hor; have HOwn := Lib.hid hown; have HKp := Lib.hid hkeep; clear hown hkeep hor)
    go_ret
    refine ⟨_, X ++ [iota n], rfl, by have := HX.out.1; simp; omega, fun r hr => ?_, HOwn.out.at', drew_app HD3.out HI2.out.out HKp.out hbl⟩
    rcases List.mem_append.1 hr with h | h
    · have := HX.out.2 r h; omega
    · simp at h; subst h; simp; omega
  by_cases e1 : kd = 1
  · subst e1
    obtain ⟨tb, u, hra, htb, hc0, hf0, hou, hfin⟩ := first_row HO2.out (by have := HX.out.1; omega)
    subst hra
    have HFin := Lib.hid hfin; have HOu := Lib.hid hou; have HW := Lib.hid HD2.out.2.size
    have hrl : (row X 0).length = n := HX.out.2 _ (row_mem (by omega) (by have := HX.out.1; omega))
    have HRl := Lib.hid hrl
    obtain ⟨ua, uc, hu, -, -⟩ := hou.ints.shape
    rw [hrl] at hu
    subst hu
    clear hfin hou hrl
    go_wp2_with (at_builtin; refine wpList_app_int2 w.heap.size w2 _ (row X 0) 0 _ _ w2.heap.size rfl rfl rfl rfl HOu.out rfl (by rw [HRl.out]; omega) HW.out ?_; intro ga gc w9 hown hkeep hor; rw [HRl.out] at hown; rw [HRl.out]; obtain ⟨q1, q2, q3⟩ := HFin.out w9 _ _ hkeep hown; have HQ3 := Lib.hid q3; have HKp := Lib.hid hkeep; clear hown hkeep hor q3)
    go_ret
    refine ⟨_, X.set 0 (row X 0 ++ [0]), rfl, by have := HX.out.1; simp; omega, fun r hr => ?_, HQ3.out, ?_⟩
    · rcases List.mem_or_eq_of_mem_set hr with h | h
      · have := HX.out.2 r h; omega
      · subst h; have := HRl.out; simp; omega
    · exact drew_set (drew_int HD2.out HOu.out HKp.out hbl (Nat.le_refl _)) (p := ⟨tb, 0, none⟩) htb (by show b < tb; omega) _
  have z0 : (kd == 0) = false := by simp [e0]
  have z1 : (kd == 1) = false := by simp [e1]
  by_cases e2 : kd = 2
  · subst e2
    have hXl := HX.out.1
    have hrl : (row X ((0 : Nat) : Int)).length = n := HX.out.2 _ (row_mem (by omega) (by omega))
    have HRl := Lib.hid hrl
    obtain ⟨tb, g, cr, zz, hra, t1, t2, t3, t4, t5, hc, -, -, -⟩ := HO2.out.inn.put (u := 0) (y := 0) (m := n) (by omega) hrl (by omega)
    subst hra
    have HK : Hid (∀ w' : World, Keep (fun k => k = b ∨ k = g) w2 w' → w'.cell? ⟨tb, 0, none⟩ = some (.slice (some ⟨g, 0, none⟩) n cr)) := Lib.hid (fun w' k => cell_of_block (k.block tb (cell_lt hc) (by omega)) hc)
    have hbel : Below w2.heap.size w2 (w2.alloc (.cells #[.int .i64 (-1), .int .i64 n, .int .i64 1099511627776] 2)).drew := ((Below.refl _ _).alloc (Nat.le_refl _) _).drew
    have HD3 := Lib.hid (HD2.out.under hbel)
    have HOw : Hid (Own w2.heap.size (w2.alloc (.cells #[.int .i64 (-1), .int .i64 n, .int .i64 1099511627776] 2)).drew (.slice (some ⟨w2.heap.size, 0, none⟩) 3 3) [-1, (n : Int), 1099511627776]) := Lib.hid
      ((Own.shut (cs := []) (by simpa using Blk.new w2 [.int .i64 (-1), .int .i64 n, .int .i64 1099511627776] 2) (Nat.le_refl _) (by simp [maxLen]) (by simp) (by simp) : Own w2.heap.size (w2.alloc (.cells #[.int .i64 (-1), .int .i64 n, .int .i64 1099511627776] 2)) (.slice (some ⟨w2.heap.size, 0, none⟩) 3 3) [-1, (n : Int), 1099511627776]).under (Below.refl _ _).drew)
    have hlt2 := HD2.out.1.lt
    have HSrc := Lib.hid HD3.out.1
    have hn0 : 0 < n := by omega
    have hn00 : (0 : Int) < (n : Int) := by omega
    have K0 : Keep (fun k => k = b ∨ k = g) w2 w2.drew := (Keep.refl _ w2).drew
    have K1 : Keep (fun k => k = b ∨ k = g) w2 (w2.alloc (.cells #[.int .i64 (-1), .int .i64 n, .int .i64 1099511627776] 2)).drew := ((Keep.refl _ w2).alloc _).drew
    have zc := HK.out _ K0
    have HO3 := Lib.hid (HO2.out.inn.under hbel)
    clear hbel hc
    go_wp2
    go_region_held3 (fun w' => w'.cell? ⟨tb, 0, none⟩ = some (.slice (some ⟨g, 0, none⟩) n cr))
      (first | exact HK.out _ K0 | exact HK.out _ K1 | exact HK.out _ K5 | exact HK.out _ K6 | exact HK.out _ (K5.setCell (.inl (.inr rfl)) _))
      ((go_at_call 74; (with_reducible refine (c_l01Pick b w2.heap.size _ [-1, (n : Int), 1099511627776] _ HSrc.out HOw.out hlt2 (by simp) (by simp)).mono ?_); rintro e w5 ⟨x, rfl, hx, hd5⟩; have K5 := K1.trans (keep_mono hd5.2 (T := fun k => k = b ∨ k = g) (fun x hx => .inl hx)); have c5 := HK.out _ K5; obtain ⟨tb5, g5, cr5, zz5, f1, f2, f3, f4, f5, f6, f7, f8, f9, f10⟩ := (HO3.out.keep hd5.2 (fun x h1 h2 e => by have e : x = b := e; omega)).put (u := 0) (y := 0) (m := n) (by omega) HRl.out (by omega); injection f1 with f1; injection f1 with f1; subst f1; rw [c5] at f7; injection f7 with f7; injection f7 with f7; injection f7 with f7; injection f7 with f7; subst f7; have HF10 := Lib.hid f10; have HD5 := Lib.hid (HD3.out.trans hd5); clear f10 hd5 hx))
    all_goals
      have HD6 := Lib.hid (drew_set HD5.out (p := ⟨g, 0, none⟩) (by show w.heap.size ≤ g; omega) (by show b < g; omega) (.int .i64 x))
      have HT := Lib.hid (HF10.out x).out.at'
      rename_i hHz
      clear hHz
      go_wp2
      go_ret
      refine ⟨_, X.set 0 ((row X ((0 : Nat) : Int)).set 0 x), rfl, by have := HX.out.1; simp; omega, fun r hr => ?_, HT.out, HD6.out⟩
      rcases List.mem_or_eq_of_mem_set hr with h | h
      · have := HX.out.2 r h; omega
      · subst h; have := HRl.out; rw [List.length_set]; omega
  have z2 : (kd == 2) = false := by simp [e2]
  by_cases e3 : kd = 3
  · subst e3
    have HN := Lib.hid (OwnRows.made0 w2 (Nat.le_refl w2.heap.size))
    have HD3 := Lib.hid (HD2.out.under ((Below.refl w2.heap.size w2).alloc (Nat.le_refl _) (.cells #[] 27)))
    go_wp2
    go_ret
    exact ⟨_, [], rfl, by simp, by simp, (HN.out.mono HD2.out.2.size).at', HD3.out⟩
  have z3 : (kd == 3) = false := by simp [e3]
  by_cases e4 : kd = 4
  · subst e4
    go_wp2_with fail
    refine (c_l01Tables b 13 _ HD2.out.1 (by omega) (by omega)).mono ?_; rintro e w3 ⟨r3, Y, rfl, hYl, hYr, hor, hd3⟩
    have HO3 := Lib.hid hor; have HD3 := Lib.hid (HD2.out.trans hd3); have HY := Lib.hid (And.intro hYl hYr)
    clear hor hd3 hYl hYr
    go_wp2
    go_ret
    exact ⟨_, Y, rfl, by have := HY.out.1; omega, fun r hr => by have := HY.out.2 r hr; omega, (HO3.out.mono HD2.out.2.size).at', HD3.out⟩
  have z4 : (kd == 4) = false := by simp [e4]
  go_wp2
  go_ret
  exact ⟨_, X, rfl, by have := HX.out.1; omega, fun r hr => by have := HX.out.2 r hr; omega, HO2.out.at', HD2.out⟩
end Go.Proofs.Ytkghonhghbcdlaa

namespace Go.Proofs.Ytkghonhghbcdlaa
set_option linter.unusedVariables false
set_option linter.unusedSimpArgs false
open Go Go.RowKit

/-- The source at block b. -/
def Dice (w : World) (b : Nat) : Prop :=
  ∃ (v : Value) (n i : Nat) (h : Int), Blk w b 83 [v, .int .i64 i, .int .u64 h] ∧ BytesB w v n b ∧ i ≤ n ∧ 0 ≤ h ∧ h ≤ 18446744073709551615
theorem Dice.keep {S : Nat → Prop} {w w' : World} {b : Nat} (h : Dice w b) (k : Keep S w w') (hs : ∀ p, p ≤ b → ¬ S p) : Dice w' b := by
  obtain ⟨v, n, i, x, h1, h2, h3⟩ := h
  exact ⟨v, n, i, x, h1.of_block (k.block b h1.lt (hs b (Nat.le_refl _))), h2.keep k (fun p hp => hs p (by omega)), h3⟩
theorem Dice.lt {w : World} {b : Nat} (h : Dice w b) : b < w.heap.size := by
  obtain ⟨v, n, i, x, h1, _⟩ := h; exact h1.lt
theorem Dice.under {w w' : World} {b : Nat} (h : Dice w b) (hb : Below w.heap.size w w') : Dice w' b :=
  h.keep (S := fun k => w.heap.size ≤ k) (Keep.of_below hb) (fun p hp e => by have := h.lt; omega)

/-- A draw leaves all but the source as it was. -/
def Rolled (b : Nat) (w w' : World) : Prop := Dice w' b ∧ Keep (fun k => k = b) w w'
theorem Rolled.refl {b : Nat} {w : World} (h : Dice w b) : Rolled b w w := ⟨h, Keep.refl _ _⟩
theorem Rolled.trans {b : Nat} {w w' w'' : World} (h : Rolled b w w') (k : Rolled b w' w'') : Rolled b w w'' := ⟨k.1, h.2.trans k.2⟩
theorem Rolled.under {b : Nat} {w w' w'' : World} (h : Rolled b w w') (k : Below w'.heap.size w' w'') : Rolled b w w'' := ⟨h.1.under k, h.2.under k⟩
theorem Rolled.own {b B : Nat} {w w' : World} {v : Value} {xs : List Int} (h : Rolled b w w') (ho : Own B w v xs) (hB : b < B) : Own B w' v xs := ho.keep h.2 (fun k h1 h2 e => by have e : k = b := e; omega)
theorem Rolled.below {b B : Nat} {w0 w w' : World} (h : Rolled b w w') (hb : Below B w0 w) (hB : B ≤ b) (hs : B ≤ w.heap.size) : Below B w0 w' := hb.trans (h.2.below fun k hk => ⟨by omega, fun e => by have e : k = b := e; omega⟩)
theorem Rolled.blk {b g : Nat} {w w' : World} {t : TypeId} {cs : List Value} (h : Rolled b w w') (hk : Blk w g t cs) (hg : g ≠ b) : Blk w' g t cs := hk.of_block (h.2.block g hk.lt hg)

set_option maxRecDepth 100000 in
set_option maxHeartbeats 1600000 in
theorem c_below (b : Nat) (n : Int) (w : World) (hs : Dice w b) (h1 : 1 ≤ n) (h2 : n ≤ 9223372036854775807) :
    Calls Try.prog 37 #[.pointer (some ⟨b, 0, none⟩), .int .i64 n] w (fun e w' => ∃ r : Int, e = .returned (.int .i64 r) ∧ 0 ≤ r ∧ r < n ∧ Rolled b w w') := by
  obtain ⟨v, m, i, h, hblk, hby, him, hh0, hh1⟩ := hs
  have HBy := Lib.hid hby
  obtain ⟨a, c, hv, hmc, hcm, hcell⟩ := hby
  subst hv
  obtain ⟨W, hW⟩ : ∃ W : Int, IntKind.u64.wrap (IntKind.u64.wrap (h * 6364136223846793005) + 1442695040888963407) = W := ⟨_, rfl⟩
  have hWr := wrap64 (IntKind.u64.wrap (h * 6364136223846793005) + 1442695040888963407)
  rw [hW] at hWr
  obtain ⟨hW0, hW1⟩ := hWr
  obtain ⟨X, hX⟩ : ∃ X : Int, bits BinOp.and IntKind.u64 (W / 8589934592) 16777215 = X := ⟨_, rfl⟩
  have hXr : 0 ≤ X ∧ X < 16777216 := by
    rw [and_24 _ (by omega) (by omega)] at hX; omega
  obtain ⟨hX0, hX1⟩ := hXr
  have hXw : IntKind.i64.wrap X = X := by rw [IntKind.wrap_i64]; omega
  have hb2 := hblk.set 2 (.int .u64 W)
  have hk2 : Keep (fun k => k = b) w (w.setCell ⟨b, 2, none⟩ (.int .u64 W)) := (Keep.refl (fun k => k = b) w).setCell (p := ⟨b, 2, none⟩) (.inl rfl) _
  have hBy2 := HBy.out.keep hk2 (fun p hp e => by have e : p = b := e; omega)
  go_enter Try.func37, Try.ntmps37
  have c0 := hblk.cell (i := 0) (by simp); have c1 := hblk.cell (i := 1) (by simp); have c2 := hblk.cell (i := 2) (by simp)
  have f2 := hblk.frozen 2
  have d0 := hb2.cell (i := 0) (by simp); have d1 := hb2.cell (i := 1) (by simp)
  simp only [List.getElem_cons_zero, List.getElem_cons_succ, List.set_cons_succ, List.set_cons_zero] at c0 c1 c2 d0 d1 hb2
  have HB2 := Lib.hid hb2; have HK2 := Lib.hid hk2; have HBY2 := Lib.hid hBy2
  clear hb2 hk2 hBy2 hblk
  by_cases hlt : i < m
  · obtain ⟨p0, o0, x, ha0, hpb, hcx, hx0, hx1⟩ := hcell i hlt
    subst ha0
    go_wp2
    go_quiet (fail)
    rename_i nq
    have hbq : Below (w.setCell ⟨b, 2, none⟩ (.int .u64 W)).heap.size (w.setCell ⟨b, 2, none⟩ (.int .u64 W)) ((w.setCell ⟨b, 2, none⟩ (.int .u64 W)).drewN nq) := below_drewN (Below.refl _ _) nq
    generalize (w.setCell ⟨b, 2, none⟩ (.int .u64 W)).drewN nq = wq at hbq ⊢
    have hBq := HB2.out.under hbq
    have e0 := hBq.cell (i := 0) (by simp); have e1 := hBq.cell (i := 1) (by simp)
    simp only [List.getElem_cons_zero, List.getElem_cons_succ] at e0 e1
    have g1 := hBq.frozen 1
    have hcx2 := cell_of_block (HK2.out.block p0 (cell_lt hcx) (fun e => by have e : p0 = b := e; omega)) hcx
    have hcq := cell_under hbq hcx2
    have HBq := Lib.hid hBq; have hKq := Lib.hid (HK2.out.under hbq)
    clear hBq c0 c1 c2 f2 d0 d1 hcx hcx2 hbq hW hX hXw
    go_wp2
    go_quiet (fail)
    have hbq : Below wq.heap.size wq (wq.drewN nq) := below_drewN (Below.refl _ _) nq
    have hBr := HBq.out.under hbq
    have hKr := hKq.out.under hbq
    generalize wq.drewN nq = wr at hbq hBr hKr ⊢
    have k1 := hBr.cell (i := 1) (by simp)
    simp only [List.getElem_cons_zero, List.getElem_cons_succ] at k1
    have g2 := hBr.frozen 1
    have hBs := hBr.set 1 (.int .i64 ((i + 1 : Nat) : Int))
    have hKs := hKr.setCell (p := ⟨b, 1, none⟩) (.inl rfl) (.int .i64 ((i + 1 : Nat) : Int))
    have HBs := Lib.hid hBs; have HKs := Lib.hid hKs
    have hmm : i + 1 ≤ m := hlt
    have hi63 : m ≤ 9223372036854775807 := by unfold maxLen at hcm; omega
    clear e0 e1 g1 hcq hbq hBr hKr hBs hKs
    have hn0 : 0 < n := by omega
    have hv0 := Int.emod_nonneg (X + x) (show n ≠ 0 by omega)
    have hv1 := Int.emod_lt_of_pos (X + x) hn0
    have HR := Lib.hid (And.intro hv0 hv1)
    clear hv0 hv1
    go_wp2
    go_ret
    exact ⟨(X + x) % n, rfl, HR.out.1, HR.out.2, ⟨_, m, i + 1, W, HBs.out, HBy.out.keep HKs.out (fun p hp e => by have e : p = b := e; omega), hmm, hW0, hW1⟩, HKs.out⟩
  · have hlt' : ¬ ((i : Int) < m) := by omega
    clear hlt
    go_wp2
    go_quiet (fail)
    have hbq : Below (w.setCell ⟨b, 2, none⟩ (.int .u64 W)).heap.size (w.setCell ⟨b, 2, none⟩ (.int .u64 W)) ((w.setCell ⟨b, 2, none⟩ (.int .u64 W)).drewN nq) := below_drewN (Below.refl _ _) nq
    generalize (w.setCell ⟨b, 2, none⟩ (.int .u64 W)).drewN nq = wq at hbq ⊢
    have HBs := Lib.hid (HB2.out.under hbq); have HKs := Lib.hid (HK2.out.under hbq)
    have hn0 : 0 < n := by omega
    have hv0 := Int.emod_nonneg X (show n ≠ 0 by omega)
    have hv1 := Int.emod_lt_of_pos X hn0
    have HR := Lib.hid (And.intro hv0 hv1)
    clear hv0 hv1 c0 c1 c2 f2 d0 d1 hbq hW hX hXw
    go_wp2
    go_ret
    exact ⟨X % n, rfl, HR.out.1, HR.out.2, ⟨_, m, i, W, HBs.out, HBy.out.keep HKs.out (fun p hp e => by have e : p = b := e; omega), him, hW0, hW1⟩, HKs.out⟩
set_option maxRecDepth 100000 in
set_option maxHeartbeats 1600000 in
theorem c_roll (v : Value) (n : Nat) (sd : Int) (w : World) (hv : BytesR w v n) (hn : n ≤ 4096) :
    Calls Try.prog 36 #[v, .int .u64 sd] w (fun e w' => ∃ b : Nat, e = .returned (.pointer (some ⟨b, 0, none⟩)) ∧ w.heap.size ≤ b ∧ Dice w' b ∧ Below w.heap.size w w') := by
  have HV := Lib.hid hv
  obtain ⟨a, c, hva, hnc, hcm, hcell⟩ := hv
  subst hva
  clear hcell
  obtain ⟨h0, hh0⟩ : ∃ h : Int, IntKind.u64.wrap (IntKind.u64.wrap (sd * 5507) + (n : Int)) = h := ⟨_, rfl⟩
  have hr := wrap64 (IntKind.u64.wrap (sd * 5507) + (n : Int))
  rw [hh0] at hr
  have HR := Lib.hid hr
  have HB1 : Hid (Below w.heap.size w (w.alloc (.cells #[.slice a n c, .int .i64 0, .int .u64 h0] 83))) := Lib.hid ((Below.refl _ _).alloc (Nat.le_refl _) _)
  have HK1 : Hid (Blk (w.alloc (.cells #[.slice a n c, .int .i64 0, .int .u64 h0] 83)) w.heap.size 83 [.slice a n c, .int .i64 0, .int .u64 h0]) := Lib.hid (Blk.new w [.slice a n c, .int .i64 0, .int .u64 h0] 83)
  go_enter Try.func36, Try.ntmps36
  have HR0 : Hid (0 ≤ h0 ∧ h0 ≤ 18446744073709551615) := HR
  go_wp2
  go_loopw [6] (fun i wr => ∃ (k : Nat) (h : Int), k ≤ n ∧ i = .int .i64 k ∧ Hid (Blk wr w.heap.size 83 [.slice a n c, .int .i64 0, .int .u64 h]) ∧ Hid (0 ≤ h ∧ h ≤ 18446744073709551615) ∧ Hid (Below w.heap.size w wr)) (fun i _ => n - (intOf i).toNat)
  case atStart => exact ⟨0, h0, Nat.zero_le _, rfl, HK1, HR0, HB1⟩
  case round =>
    clear HB1 HK1 HR0 HR hr
    obtain ⟨k, h, hk, rfl, HK, HH, HB⟩ := hrel
    by_cases hlt : k < n
    · obtain ⟨a', c', hva', -, -, hc⟩ := HV.out.below HB.out
      injection hva' with e1 e2 e3
      subst e1 e3
      clear e2
      obtain ⟨p0, o0, x, ha0, hcell, hx0, hx1⟩ := hc k hlt
      subst ha0
      clear hc
      have hk4 : (k : Int) < 4096 := by omega
      have c0 := HK.out.cell (i := 2) (by simp)
      simp only [List.getElem_cons_zero, List.getElem_cons_succ] at c0
      have f0 := HK.out.frozen 2
      obtain ⟨W, hW⟩ : ∃ W : Int, IntKind.u64.wrap (IntKind.u64.wrap (IntKind.u64.wrap (h * 1099511628211) + IntKind.u64.wrap x) + 5) = W := ⟨_, rfl⟩
      have hWr := wrap64 (IntKind.u64.wrap (IntKind.u64.wrap (h * 1099511628211) + IntKind.u64.wrap x) + 5)
      rw [hW] at hWr
      have HWr := Lib.hid hWr
      have HKs := Lib.hid (HK.out.set 2 (.int .u64 W))
      clear hWr
      go_wp2
      go_still_tail 15, (by kernel_rfl)
      change wpList _ _ _ _ _ wr.drew
      go_wp2
      go_roundw
      case rel => exact ⟨k + 1, W, by omega, by go_num, by first | exact HKs | exact Lib.hid HKs.out.drew, HWr, by first | exact Lib.hid (HB.out.setCell (p := ⟨w.heap.size, 2, none⟩) (Nat.le_refl _) _) | exact Lib.hid (HB.out.setCell (p := ⟨w.heap.size, 2, none⟩) (Nat.le_refl _) _).drew⟩
      case measure => simp [intOf]; omega
    · go_wp2
      go_ret
      exact ⟨w.heap.size, rfl, Nat.le_refl _, ⟨_, n, 0, h, HK.out, (HV.out.b (Nat.le_refl _)).keep (Keep.of_below HB.out) (fun p hp e => by omega), Nat.zero_le _, HH.out.1, HH.out.2⟩, HB.out⟩

end Go.Proofs.Ytkghonhghbcdlaa

namespace Go.Proofs.Ytkghonhghbcdlaa
set_option linter.unusedVariables false
set_option linter.unusedSimpArgs false
open Go Go.RowKit

set_option maxHeartbeats 800000 in
theorem c_hasRow5 (v1 v2 : Value) (xs : List (List Int)) (ys : List Int) (w : World) (hx : Rows w v1 xs) (hy : Ints w v2 ys) :
    Calls Try.prog 38 #[v1, v2] w (RVal w (.bool (decide (ys ∈ xs)))) := by
  obtain ⟨a, c, rfl, hc, hm⟩ := hx.shape
  obtain ⟨a2, c2, rfl, hc2, hm2⟩ := hy.shape
  go_enter Try.func38, Try.ntmps38
  go_wp2
  go_loopw [5] (fun i wr => ∃ k : Nat, k ≤ xs.length ∧ i = .int .i64 k ∧ Hid (Below w.heap.size w wr) ∧ Hid (ys ∉ xs.take k)) (fun i _ => xs.length - (intOf i).toNat)
  case atStart => exact ⟨0, Nat.zero_le _, rfl, Lib.hid (Below.refl _ _), Lib.hid (by simp)⟩
  case round =>
    obtain ⟨k, hk, rfl, HB, HT⟩ := hrel
    obtain ⟨wo, rfl⟩ : ∃ wo : World, wo = wr := ⟨_, rfl⟩
    by_cases hlt : k < xs.length
    · obtain ⟨b, o, u1, u2, rfl, hcell, hu⟩ := (hx.below HB.out).getS k hlt
      have HU := Lib.hid hu
      have HY := Lib.hid (hy.below HB.out)
      clear hu
      by_cases he : row xs k = ys
      · have hd : decide (row xs k = ys) = true := by simp [he]
        have HD := Lib.hid hd
        have HE := Lib.hid he; clear he
        go_wp2_with fail
        refine (c_likeInts _ _ (row xs k) ys _ HU.out HY.out).mono ?_; rintro e w2 ⟨rfl, hb⟩
        rw [HD.out]
        have HB2 := Lib.hid (bb HB.out (below_of_drewN hb))
        clear hb
        go_wp2
        go_ret
        refine ⟨ret_bool ?_, HB2.out⟩
        rw [← HE.out]
        simp [row_mem (t := xs) (x := (k : Int)) (by omega) (by omega)]
      · have hd : decide (row xs k = ys) = false := by simp [he]
        have HD := Lib.hid hd
        have HE := Lib.hid he; clear he
        go_wp2_with fail
        refine (c_likeInts _ _ (row xs k) ys _ HU.out HY.out).mono ?_; rintro e w2 ⟨rfl, hb⟩
        rw [HD.out]
        have HB2 := Lib.hid (bb HB.out (below_of_drewN hb))
        clear hb
        go_wp2
        go_roundw
        case rel => exact ⟨k + 1, by omega, by go_num, HB2, Lib.hid (by
          rw [take_snoc_row _ _ hlt]
          intro h
          rcases List.mem_append.1 h with h | h
          · exact HT.out h
          · simp at h; exact HE.out h.symm)⟩
        case measure => simp [intOf]; omega
    · go_wp2
      go_ret
      refine ⟨ret_bool ?_, HB.out⟩
      have h := HT.out
      rw [List.take_of_length_le (by omega)] at h
      simp [h]

/-- The length of a slice's value. -/
def lenV : Value → Nat
  | .slice _ n _ => n
  | _ => 0
theorem c_l01UnitI (N : Int) (n : Nat) (hN : N = n) (w : World) (hn : n ≤ 1048576) :
    Calls Try.prog 99 #[.int .i64 N] w (RInts w (iota n)) := by
  subst hN
  exact c_l01Unit n w hn
/-- What the draw of a system leaves. -/
def RGr2 (b : Nat) (w : World) (e : Ending) (w' : World) : Prop :=
  ∃ (n : Int) (r : Value) (L : List (List Int)), e = .returned (.tuple #[.int .i64 n, r]) ∧ (-1 ≤ n ∧ n ≤ 1000) ∧ OwnRows w.heap.size w' r L ∧ Drew b w w'
set_option maxRecDepth 100000 in
set_option maxHeartbeats 4000000 in
theorem c_l01Group2 (b m : Nat) (w : World) (hs : Src w b) (h1 : 1 ≤ m) (h2 : m ≤ 100) :
    Calls Try.prog 73 #[.pointer (some ⟨b, 0, none⟩), .int .i64 m] w (RGr2 b w) := by
  have hbl := hs.lt
  have HS0 := Lib.hid hs
  clear hs
  go_enter Try.func73, Try.ntmps73
  have HB0 : Hid (Below w.heap.size w (w.alloc (.cells #[] 27))) := Lib.hid ((Below.refl _ _).alloc (Nat.le_refl _) _)
  go_wp2_with fail
  refine (c_l01Next b m _ HS0.out (by omega) (by omega)).mono ?_; rintro e w1 ⟨n0, rfl, n1, n2, hd1⟩
  obtain ⟨N, hN⟩ : ∃ N : Nat, 1 + n0 = (N : Int) := ⟨(1 + n0).toNat, by omega⟩
  have hN1 : 1 ≤ N ∧ N ≤ 100 := by omega
  have HD1 := Lib.hid (hd1.under ((Below.refl w1.heap.size w1).alloc (Nat.le_refl _) (.cells #[] 27)))
  have HO1 := Lib.hid ((OwnRows.made0 w1 (Nat.le_refl w1.heap.size)).mono hd1.2.size)
  clear hd1 HB0
  go_wp2_with fail
  refine (c_l01Next b 4 _ HD1.out.1 (by omega) (by omega)).mono ?_; rintro e w2 ⟨k0, rfl, k1, k2, hd2⟩
  obtain ⟨K, rfl⟩ : ∃ K : Nat, k0 = K := ⟨k0.toNat, by omega⟩
  have HD2 := Lib.hid (HD1.out.trans hd2)
  have HO2 := Lib.hid (HO1.out.keep hd2.2 (fun x h1 h2 e => by have e : x = b := e; omega))
  clear hd2 hN n1 n2
  go_wp2
  go_loopw [7, 8] (fun t x wr => ∃ (j l : Nat) (X : List (List Int)) (ta : Option Addr) (tc : Nat), l + j ≤ 3 ∧ x = .int .i64 j ∧ t = .slice ta l tc ∧ Hid (X.length = l) ∧ Hid (OwnRows w.heap.size wr (.slice ta l tc) X) ∧ Hid (Drew b w wr)) (fun _ x _ => (intOf x).toNat)
  case atStart => exact ⟨K, 0, [], _, _, by omega, rfl, rfl, Lib.hid rfl, HO2, HD2⟩
  case round =>
    clear HO2 HD2 HO1 HD1
    obtain ⟨j, l, X, ta, tc, hjl, rfl, rfl, HX, HO, HDr⟩ := hrel
    obtain ⟨wo, rfl⟩ : ∃ wo : World, wo = wr := ⟨_, rfl⟩
    have hwo : w.heap.size ≤ wo.heap.size := HDr.out.2.size
    by_cases hj : 0 < j
    · go_wp2_with fail
      refine (c_l01Draw b N _ HDr.out.1 (by omega) (by omega)).mono ?_; rintro e w3 ⟨rr, ys, rfl, hyl, hor, hd3⟩
      obtain ⟨ra, rc, hv, -, -⟩ := hor.ints.shape
      rw [hyl] at hv
      subst hv
      have HDi := Lib.hid (HDr.out.trans hd3)
      have HRI := Lib.hid (HO.out.inn.keep hd3.2 (fun x h1 h2 e => by have e : x = b := e; omega))
      have HOr := Lib.hid hor
      have HSz : Hid (wo.heap.size ≤ w3.heap.size ∧ w.heap.size ≤ w3.heap.size) := Lib.hid ⟨hd3.2.size, by have := hd3.2.size; omega⟩
      clear hor hd3 hyl HO HDr
      go_wp2_with (at_builtin; refine wpList_app_row2 w.heap.size wo.heap.size w3 _ X _ ys _ _ rfl rfl rfl HRI.out HOr.out rfl (by have := HX.out; omega) (by have := hwo; omega) HSz.out.2 ?_; intro ga gc w9 hown hkeep hor; have HOwn := Lib.hid hown; have HKp := Lib.hid hkeep; clear hown hkeep hor)
      go_roundw
      case rel =>
        have hX := HX.out
        exact ⟨j - 1, l + 1, X ++ [ys], some ⟨ga, 0, none⟩, gc, by omega, by go_num, by rw [hX], Lib.hid (by simp [hX]), Lib.hid (by have h := HOwn.out; rw [hX] at h; exact h), Lib.hid (drew_app HDi.out HRI.out.out HKp.out hbl)⟩
      case measure => simp [intOf]; omega
    · obtain rfl : j = 0 := by omega
      have hl3 : l ≤ 3 := by omega
      go_wp2_with fail
      refine (c_l01Next b 30 _ HDr.out.1 (by omega) (by omega)).mono ?_; rintro e w4 ⟨kd, rfl, q0, q1, hd4⟩
      have HD4 := Lib.hid (HDr.out.trans hd4)
      have HO4 := Lib.hid (HO.out.keep hd4.2 (fun x h1 h2 e => by have e : x = b := e; omega))
      have hw4 : w.heap.size ≤ w4.heap.size := HD4.out.2.size
      clear hd4 HO HDr
      by_cases e0 : kd = 0
      · subst e0
        go_wp2_with fail
        refine (c_l01UnitI _ (N + 1) (by omega) _ (by omega)).mono ?_; rintro e w5 ⟨ru, rfl, hou, hb5⟩
        obtain ⟨ua, uc, hu, -, -⟩ := hou.ints.shape
        rw [iota_length] at hu
        subst hu
        have HRI := Lib.hid (HO4.out.inn.under hb5); have HU := Lib.hid hou; have HD5 := Lib.hid (HD4.out.under hb5)
        have HSz : Hid (w.heap.size ≤ w4.heap.size ∧ w.heap.size ≤ w5.heap.size) := Lib.hid ⟨hw4, by have := hb5.size; omega⟩
        clear hou hb5
        go_wp2_with (at_builtin; refine wpList_app_row2 w.heap.size w4.heap.size w5 _ X _ (iota (N + 1)) _ _ rfl rfl rfl HRI.out HU.out rfl (by have := HX.out; omega) HSz.out.1 HSz.out.2 ?_; intro ga gc w9 hown hkeep hor; have HOwn := Lib.hid hown; have HKp := Lib.hid hkeep; clear hown hkeep hor)
        go_ret2
        exact ⟨_, _, X ++ [iota (N + 1)], rfl, by omega, HOwn.out, drew_app HD5.out HRI.out.out HKp.out hbl⟩
      have z0 : (kd == 0) = false := by simp [e0]
      by_cases e1 : kd = 1
      · subst e1
        have hbel : Below w4.heap.size w4 (w4.alloc (.cells #[.int .i64 (-1), .int .i64 0, .int .i64 13, .int .i64 ((N : Int) + 1)] 2)) := (Below.refl _ _).alloc (Nat.le_refl _) _
        have HD5 := Lib.hid (HD4.out.under hbel)
        have HO5 := Lib.hid (HO4.out.under hbel)
        have hlt := HD4.out.1.lt
        have hown : Own w4.heap.size (w4.alloc (.cells #[.int .i64 (-1), .int .i64 0, .int .i64 13, .int .i64 ((N : Int) + 1)] 2)) (.slice (some ⟨w4.heap.size, 0, none⟩) 4 4) [-1, 0, 13, (N : Int) + 1] :=
          Own.shut (cs := []) (by simpa using Blk.new w4 [.int .i64 (-1), .int .i64 0, .int .i64 13, .int .i64 ((N : Int) + 1)] 2) (Nat.le_refl _) (by simp [maxLen]) (by simp) (by simp)
        have HW := Lib.hid hown
        clear hbel hown
        go_wp2_with fail
        refine (c_l01Pick b w4.heap.size _ [-1, 0, 13, (N : Int) + 1] _ HD5.out.1 HW.out hlt (by simp) (by simp)).mono ?_; rintro e w6 ⟨x, rfl, hx, hd6⟩
        have HD6 := Lib.hid (HD5.out.trans hd6)
        have HO6 := Lib.hid (HO5.out.keep hd6.2 (fun x h1 h2 e => by have e : x = b := e; omega))
        have hxr : -1 ≤ x ∧ x ≤ 1000 := by simp at hx; omega
        have HXr := Lib.hid hxr
        clear hx hd6 hxr
        go_wp2
        go_ret2
        exact ⟨_, _, X, rfl, HXr.out, HO6.out, HD6.out⟩
      have z1 : (kd == 1) = false := by simp [e1]
      by_cases e2 : kd = 2
      · subst e2
        go_wp2
        go_loopw [7] (fun t wr => ∃ (l : Nat) (X : List (List Int)) (ta : Option Addr) (tc : Nat), l ≤ 17 ∧ t = .slice ta l tc ∧ Hid (X.length = l) ∧ Hid (OwnRows w.heap.size wr (.slice ta l tc) X) ∧ Hid (Drew b w wr)) (fun t _ => 17 - lenV t)
        case atStart => exact ⟨l, X, _, _, by omega, rfl, HX, HO4, HD4⟩
        case round =>
          clear HX HO4 HD4 hl3 hjl
          obtain ⟨l, X, ta, tc, hl, rfl, HX, HO, HDr⟩ := hrel
          obtain ⟨wo, rfl⟩ : ∃ wo : World, wo = wr := ⟨_, rfl⟩
          have hwo : w.heap.size ≤ wo.heap.size := HDr.out.2.size
          by_cases hlt : l < 17
          · go_wp2_with fail
            refine (c_l01Unit N _ (by omega)).mono ?_; rintro e w5 ⟨ru, rfl, hou, hb5⟩
            obtain ⟨ua, uc, hu, -, -⟩ := hou.ints.shape
            rw [iota_length] at hu
            subst hu
            have HRI := Lib.hid (HO.out.inn.under hb5); have HU := Lib.hid hou; have HD5 := Lib.hid (HDr.out.under hb5)
            have HSz : Hid (w.heap.size ≤ wo.heap.size ∧ w.heap.size ≤ w5.heap.size) := Lib.hid ⟨hwo, by have := hb5.size; omega⟩
            clear hou hb5 HO HDr
            go_wp2_with (at_builtin; refine wpList_app_row2 w.heap.size wo.heap.size w5 _ X _ (iota N) _ _ rfl rfl rfl HRI.out HU.out rfl (by have := HX.out; omega) HSz.out.1 HSz.out.2 ?_; intro ga gc w9 hown hkeep hor; have HOwn := Lib.hid hown; have HKp := Lib.hid hkeep; clear hown hkeep hor)
            go_roundw
            case rel =>
              have hX := HX.out
              exact ⟨l + 1, X ++ [iota N], some ⟨ga, 0, none⟩, gc, by omega, by rw [hX], Lib.hid (by simp [hX]), Lib.hid (by have h := HOwn.out; rw [hX] at h; exact h), Lib.hid (drew_app HD5.out HRI.out.out HKp.out hbl)⟩
            case measure => simp [lenV]; have := HX.out; omega
          · go_wp2
            go_ret2
            exact ⟨_, _, X, rfl, by omega, HO.out, HDr.out⟩
      have z2 : (kd == 2) = false := by simp [e2]
      go_wp2
      go_ret2
      exact ⟨_, _, X, rfl, by omega, HO4.out, HD4.out⟩

set_option maxRecDepth 100000 in
set_option maxHeartbeats 1600000 in
theorem c_DrawGroup (v : Value) (n : Nat) (w : World) (hv : BytesR w v n) (hn : n ≤ 4096) :
    Calls Try.prog 31 #[v] w (fun e w' => ∃ (k : Int) (r : Value) (L : List (List Int)), e = .returned (.tuple #[.int .i64 k, r]) ∧ (-1 ≤ k ∧ k ≤ 1000) ∧ Rows w' r L ∧ Below w.heap.size w w') := by
  have HV := Lib.hid hv
  obtain ⟨a, c, hva, -⟩ := hv
  subst hva
  go_enter Try.func31, Try.ntmps31
  go_wp2_with fail
  refine (c_l01From _ n _ HV.out hn).mono ?_; rintro e w1 ⟨b, rfl, hwb, hs, hb1⟩
  have HS := Lib.hid hs; have HB1 := Lib.hid hb1
  have hbel : Below w1.heap.size w1 (w1.alloc (.cells #[.int .i64 4, .int .i64 5, .int .i64 6, .int .i64 7] 2)) := (Below.refl _ _).alloc (Nat.le_refl _) _
  have HD2 := Lib.hid ((Drew.refl hs).under hbel)
  have hlt := hs.lt
  have hown : Own w1.heap.size (w1.alloc (.cells #[.int .i64 4, .int .i64 5, .int .i64 6, .int .i64 7] 2)) (.slice (some ⟨w1.heap.size, 0, none⟩) 4 4) [4, 5, 6, 7] :=
    Own.shut (cs := []) (by simpa using Blk.new w1 [.int .i64 4, .int .i64 5, .int .i64 6, .int .i64 7] 2) (Nat.le_refl _) (by simp [maxLen]) (by simp) (by simp)
  have HW := Lib.hid hown
  clear hbel hown hs hb1
  go_wp2_with fail
  refine (c_l01Pick b w1.heap.size _ [4, 5, 6, 7] _ HD2.out.1 HW.out hlt (by simp) (by simp)).mono ?_; rintro e w2 ⟨x, rfl, hx, hd⟩
  obtain ⟨m, rfl⟩ : ∃ m : Nat, x = m := ⟨x.toNat, by simp at hx; omega⟩
  have hm : 1 ≤ m ∧ m ≤ 100 := by simp at hx; omega
  have HD3 := Lib.hid (HD2.out.trans hd)
  clear hx hd
  go_wp2_with fail
  refine (c_l01Group2 b m _ HD3.out.1 hm.1 hm.2).mono ?_; rintro e w3 ⟨k, r, L, rfl, hk, ho, hd⟩
  obtain ⟨ra, rc, hr, hrows⟩ := OwnRows.shape' ho
  subst hr
  have HR := Lib.hid hrows; have HB := Lib.hid ((HD3.out.trans hd).below HB1.out hwb HB1.out.size)
  clear ho hd hrows
  go_wp2
  go_ret2
  exact ⟨k, _, L, rfl, hk, HR.out, HB.out⟩
end Go.Proofs.Ytkghonhghbcdlaa

namespace Go.Proofs.Ytkghonhghbcdlaa
set_option linter.unusedVariables false
set_option linter.unusedSimpArgs false
open Go Go.RowKit

/-- The place of p in an ascending list: what lies ahead of it is less, what lies behind is not. -/
structure PutAt (S : List (List Int)) (p : List Int) (lo hi : Nat) : Prop where
  le : lo ≤ hi
  len : hi ≤ S.length
  less : ∀ i : Nat, i < lo → lexB (row S i) p = true
  more : ∀ i : Nat, hi ≤ i → i < S.length → lexB (row S i) p = false
theorem ascR_lt {S : List (List Int)} (h : AscR S) {i j : Nat} (hij : i < j) (hj : j < S.length) : lexB (row S i) (row S j) = true := by
  rw [row_nat _ _ (by omega), row_nat _ _ hj]
  exact List.pairwise_iff_getElem.1 h i j (by omega) hj hij
theorem PutAt.start (S : List (List Int)) (p : List Int) : PutAt S p 0 S.length := ⟨Nat.zero_le _, Nat.le_refl _, fun i h => by omega, fun i h1 h2 => by omega⟩
theorem PutAt.up {S : List (List Int)} {p : List Int} {lo hi at' : Nat} (h : PutAt S p lo hi) (hs : AscR S) (h2 : at' < hi) (hl : lexB (row S at') p = true) : PutAt S p (at' + 1) hi := by
  refine ⟨h2, h.len, fun i hi' => ?_, h.more⟩
  rcases Nat.lt_or_ge i at' with e | e
  · exact lexB_trans (ascR_lt hs e (Nat.lt_of_lt_of_le h2 h.len)) hl
  · have : i = at' := by omega
    rw [this]; exact hl
theorem PutAt.down {S : List (List Int)} {p : List Int} {lo hi at' : Nat} (h : PutAt S p lo hi) (hs : AscR S) (h1 : lo ≤ at') (h2 : at' < hi) (hl : lexB (row S at') p = false) : PutAt S p lo at' := by
  refine ⟨h1, Nat.le_of_lt (Nat.lt_of_lt_of_le h2 h.len), h.less, fun i hi' hi2 => ?_⟩
  rcases Nat.lt_or_ge at' i with e | e
  · cases e3 : lexB (row S i) p
    · rfl
    · rw [lexB_trans (ascR_lt hs e hi2) e3] at hl; cases hl
  · have : i = at' := by omega
    rw [this]; exact hl
theorem put_in {S : List (List Int)} {p : List Int} {k : Nat} (hk : k < S.length) (e : row S k = p) : p ∈ S := by
  rw [← e]; exact row_mem (by omega) (by omega)
theorem put_new {S : List (List Int)} {p : List Int} {k : Nat} (h : PutAt S p k k) (hs : AscR S) (hne : ¬ (k < S.length ∧ row S k = p)) : p ∉ S ∧ AscR (S.take k ++ p :: S.drop k) ∧ (S.take k ++ p :: S.drop k).Perm (S ++ [p]) := by
  have hni : p ∉ S := by
    intro hp
    obtain ⟨i, hi, e⟩ := List.getElem_of_mem hp
    have e' : row S i = p := by rw [row_nat _ _ hi]; exact e
    rcases Nat.lt_trichotomy i k with g | g | g
    · have := h.less i g
      rw [e', lexB_irrefl] at this; cases this
    · subst g; exact hne ⟨hi, e'⟩
    · have h1 := h.more k (Nat.le_refl _) (by omega)
      have h2 := ascR_lt hs g hi
      rw [e'] at h2
      rw [h2] at h1; cases h1
  refine ⟨hni, ?_, ?_⟩
  · have hs' : (S.take k ++ S.drop k).Pairwise fun p q => lexB p q = true := by rw [List.take_append_drop]; exact hs
    obtain ⟨p1, p2, p3⟩ := List.pairwise_append.1 hs'
    refine List.pairwise_append.2 ⟨p1, List.pairwise_cons.2 ⟨fun b hb => ?_, p2⟩, fun a ha b hb => ?_⟩
    · obtain ⟨j, hj, e⟩ := List.getElem_of_mem hb
      rw [List.getElem_drop] at e
      simp only [List.length_drop] at hj
      have h1 := h.more (k + j) (by omega) (by omega)
      rw [row_nat _ _ (show k + j < S.length by omega), e] at h1
      exact lexB_total (fun e2 => hni (by rw [← e2]; exact List.mem_of_mem_drop hb)) h1
    · rcases List.mem_cons.1 hb with rfl | hb
      · obtain ⟨j, hj, e⟩ := List.getElem_of_mem ha
        rw [List.getElem_take] at e
        simp only [List.length_take] at hj
        have h1 := h.less j (by omega)
        rwa [row_nat _ _ (show j < S.length by omega), e] at h1
      · exact p3 a ha b hb
  · refine (List.perm_middle (a := p) (l₁ := S.take k) (l₂ := S.drop k)).trans ?_
    rw [List.take_append_drop]
    exact (List.perm_append_singleton p S).symm

/-! The cells: the new one at the end, then moved up to its place. -/
def shf (us : List Value) (u : Value) (k : Nat) : List Value := (us ++ [u]).take (k + 1) ++ us.drop k
theorem shf_end (us : List Value) (u : Value) : shf us u us.length = us ++ [u] := by simp [shf, List.take_of_length_le]
theorem shf_len (us : List Value) (u : Value) {k : Nat} (h : k ≤ us.length) : (shf us u k).length = us.length + 1 := by simp [shf]; omega
theorem shf_at (us : List Value) (u : Value) {k j : Nat} (h : j ≤ k) (hk : j < us.length) : (shf us u k)[j]? = us[j]? := by
  unfold shf
  rw [List.getElem?_append_left (by simp; omega), List.getElem?_take, if_pos (by omega), List.getElem?_append_left hk]
theorem shf_step (us : List Value) (u : Value) {k : Nat} (h1 : k < us.length) : (shf us u (k + 1)).set (k + 1) us[k] = shf us u k := by
  apply List.ext_getElem?
  intro j
  unfold shf
  rw [List.getElem?_set]
  by_cases e : k + 1 = j
  · subst e
    simp only [if_true]
    have h3 : k + 1 < ((us ++ [u]).take (k + 1 + 1) ++ us.drop (k + 1)).length := by simp; omega
    rw [if_pos h3, List.getElem?_append_right (by simp; omega)]
    have h4 : ((us ++ [u]).take (k + 1)).length = k + 1 := by simp; omega
    rw [h4, Nat.sub_self, List.getElem?_drop]
    simp [h1]
  · rw [if_neg e]
    rcases Nat.lt_or_ge j (k + 1) with h | h
    · rw [List.getElem?_append_left (by simp; omega), List.getElem?_append_left (by simp; omega), List.getElem?_take, List.getElem?_take, if_pos (by omega), if_pos (by omega)]
    · have h4 : ((us ++ [u]).take (k + 1)).length = k + 1 := by simp; omega
      have h5 : ((us ++ [u]).take (k + 1 + 1)).length = k + 2 := by simp; omega
      rw [List.getElem?_append_right (by rw [h5]; omega), List.getElem?_append_right (by rw [h4]; omega), h4, h5, List.getElem?_drop, List.getElem?_drop]
      congr 1; omega
theorem shf_done (us : List Value) (u : Value) {k : Nat} (h : k ≤ us.length) : (shf us u k).set k u = us.take k ++ u :: us.drop k := by
  apply List.ext_getElem?
  intro j
  unfold shf
  have h4 : ((us ++ [u]).take (k + 1)).length = k + 1 := by simp; omega
  have h5 : (us.take k).length = k := by simp; omega
  rw [List.getElem?_set]
  by_cases e : k = j
  · subst e
    rw [if_pos rfl, if_pos (by simp; omega), List.getElem?_append_right (by rw [h5]; exact Nat.le_refl _), h5, Nat.sub_self]
    rfl
  · rw [if_neg e]
    rcases Nat.lt_or_ge j k with h' | h'
    · rw [List.getElem?_append_left (by rw [h4]; omega), List.getElem?_append_left (by rw [h5]; omega), List.getElem?_take, List.getElem?_take, if_pos (by omega), if_pos (by omega), List.getElem?_append_left (by omega)]
    · rw [List.getElem?_append_right (by rw [h4]; omega), List.getElem?_append_right (by rw [h5]; omega), h4, h5]
      obtain ⟨i, rfl⟩ : ∃ i, j = k + 1 + i := ⟨j - (k + 1), by omega⟩
      rw [show k + 1 + i - k = i + 1 by omega, show k + 1 + i - (k + 1) = i by omega, List.getElem?_cons_succ]

/-- A row of one-cell values that nobody else holds, opened. -/
theorem ownsRow_open {B : Nat} {w : World} {t : TypeId} {v : Value} {us : List Value} (h : w.ownsRow B t 1 v us.length us) :
    (v = .slice none 0 0 ∧ us = []) ∨ ∃ g cs, v = .slice (some ⟨g, 0, none⟩) us.length (us.length + cs.length) ∧ B ≤ g ∧ Blk w g t (us ++ cs) ∧ us.length + cs.length ≤ maxLen := by
  obtain ⟨hl, h | ⟨g, cap, cur, rfl, hb, hg, hc, hm, hs, ht⟩⟩ := h
  · exact .inl ⟨h.1, List.eq_nil_of_length_eq_zero h.2⟩
  · have e : us ++ cur.toList.drop us.length = cur.toList := by
      rw [Nat.mul_one] at ht
      conv => lhs; lhs; rw [← ht]
      exact List.take_append_drop _ _
    refine .inr ⟨g, cur.toList.drop us.length, ?_, hb, ?_, ?_⟩
    · congr 1; simp; omega
    · unfold Blk
      rw [hg, e]
    · simp; omega
theorem ownsRow_shut {B : Nat} {w : World} {t : TypeId} {g : Nat} {us cs : List Value} (h : Blk w g t (us ++ cs)) (hB : B ≤ g) (hm : us.length + cs.length ≤ maxLen) {n m : Nat} (hn : n = us.length) (hm' : m = us.length + cs.length) :
    w.ownsRow B t 1 (.slice (some ⟨g, 0, none⟩) n m) us.length us := by
  subst hn; subst hm'
  refine ⟨by simp, .inr ⟨g, _, _, rfl, hB, h, by omega, hm, by simp, ?_⟩⟩
  simp only [Nat.mul_one]
  rw [List.take_append_of_le_length (by simp), List.take_of_length_le (by simp)]
/-- The rows in another order. -/
theorem RowVals.perm2 {B : Nat} {w : World} {us us2 : List Value} {X Y : List (List Int)} (h : RowVals B w us X) (hp : (us2.zip Y).Perm (us.zip X)) (hl : us2.length = Y.length) : RowVals B w us2 Y := by
  have hz : ∀ i (h1 : i < us2.length) (h2 : i < Y.length), ∃ j, ∃ (h3 : j < us.length) (h4 : j < X.length), us2[i] = us[j] ∧ Y[i] = X[j] := by
    intro i h1 h2
    have h3 : i < (us2.zip Y).length := by simp; omega
    have hm : (us2.zip Y)[i] ∈ us.zip X := hp.mem_iff.1 (List.getElem_mem h3)
    obtain ⟨j, hj, e⟩ := List.getElem_of_mem hm
    rw [List.getElem_zip, List.getElem_zip] at e
    simp only [List.length_zip] at hj
    exact ⟨j, by omega, by omega, (congrArg Prod.fst e).symm, (congrArg Prod.snd e).symm⟩
  refine ⟨hl, fun i h1 h2 => ?_, ?_⟩
  · obtain ⟨j, h3, h4, e1, e2⟩ := hz i h1 h2
    rw [e1, e2]; exact h.own j h3 h4
  · have hu : us2.Perm us := by
      have := hp.map Prod.fst
      rwa [List.map_fst_zip (by omega), List.map_fst_zip (by have := h.len; omega)] at this
    refine (List.Perm.pairwise_iff ?_ hu).2 h.apart
    intro a b hab
    rcases hab with e | e
    · by_cases hb : b.ownBlock = none
      · exact .inl hb
      · exact .inr (by rw [e]; exact fun e2 => hb e2)
    · exact .inr (Ne.symm e)
end Go.Proofs.Ytkghonhghbcdlaa

namespace Go.Proofs
open Go.Shelf
def Try.laysSF_ren : Go.Shelf.Ren := ⟨fun | 6 => 111 | 15 => 127 | 14 => 126 | 28 => 143 | 29 => 144 | 20 => 135 | 21 => 136 | 22 => 137 | 23 => 138 | 24 => 139 | 25 => 140 | 26 => 141 | 27 => 142 | 46 => 148 | 47 => 149 | 48 => 150 | 49 => 151 | 50 => 152 | 57 => 153 | n => n, fun | 22 => 24 | 24 => 27 | 25 => 102 | 3 => 3 | 39 => 84 | 0 => 0 | 53 => 123 | 55 => 53 | 4 => 4 | 46 => 116 | 45 => 115 | 50 => 120 | 5 => 5 | 9 => 9 | 66 => 127 | 70 => 131 | 76 => 133 | 77 => 134 | n => n, fun | n => n⟩
theorem Try.laysSF : Go.Proofs.SlLaysF.n6 Try.prog Try.laysSF_ren := {
  mixed := by kernel_rfl
  f6 := ⟨Try.f111.name, by decide, Try.func111.trans (congrArg some (by kernel_rfl))⟩
  f14 := ⟨Try.f126.name, by decide, Try.func126.trans (congrArg some (by kernel_rfl))⟩
  f15 := Try.func127.trans (congrArg some (by kernel_rfl))
  f20 := ⟨Try.f135.name, by decide, Try.func135.trans (congrArg some (by kernel_rfl))⟩
  f21 := ⟨Try.f136.name, by decide, Try.func136.trans (congrArg some (by kernel_rfl))⟩
  f22 := ⟨Try.f137.name, by decide, Try.func137.trans (congrArg some (by kernel_rfl))⟩
  f23 := ⟨Try.f138.name, by decide, Try.func138.trans (congrArg some (by kernel_rfl))⟩
  f24 := ⟨Try.f139.name, by decide, Try.func139.trans (congrArg some (by kernel_rfl))⟩
  f25 := ⟨Try.f140.name, by decide, Try.func140.trans (congrArg some (by kernel_rfl))⟩
  f26 := ⟨Try.f141.name, by decide, Try.func141.trans (congrArg some (by kernel_rfl))⟩
  f27 := ⟨Try.f142.name, by decide, Try.func142.trans (congrArg some (by kernel_rfl))⟩
  f28 := Try.func143.trans (congrArg some (by kernel_rfl))
  f29 := Try.func144.trans (congrArg some (by kernel_rfl))
  f46 := ⟨Try.f148.name, by decide, Try.func148.trans (congrArg some (by kernel_rfl))⟩
  f47 := Try.func149.trans (congrArg some (by kernel_rfl))
  f48 := Try.func150.trans (congrArg some (by kernel_rfl))
  f49 := ⟨Try.f151.name, by decide, Try.func151.trans (congrArg some (by kernel_rfl))⟩
  f50 := ⟨Try.f152.name, by decide, Try.func152.trans (congrArg some (by kernel_rfl))⟩
  f57 := ⟨Try.f153.name, by decide, Try.func153.trans (congrArg some (by kernel_rfl))⟩
  t0 := Try.underlying0
  a0 := Try.isAgg0
  z0 := Try.sizeOf0
  v0 := Try.zeroValue0
  t3 := Try.underlying3
  a3 := Try.isAgg3
  z3 := Try.sizeOf3
  v3 := Try.zeroValue3
  t4 := Try.underlying4
  a4 := Try.isAgg4
  z4 := Try.sizeOf4
  v4 := Try.zeroValue4
  t5 := Try.underlying5
  a5 := Try.isAgg5
  z5 := Try.sizeOf5
  v5 := Try.zeroValue5
  t9 := Try.underlying9
  a9 := Try.isAgg9
  z9 := Try.sizeOf9
  v9 := Try.zeroValue9
  t22 := Try.underlying24
  a22 := Try.isAgg24
  z22 := Try.sizeOf24
  v22 := Try.zeroValue24
  a24 := Try.isAgg27
  z24 := Try.sizeOf27
  t25 := Try.underlying102
  a25 := Try.isAgg102
  z25 := Try.sizeOf102
  v25 := Try.zeroValue102
  t39 := Try.underlying84
  a39 := Try.isAgg84
  z39 := Try.sizeOf84
  v39 := Try.zeroValue84
  t45 := Try.underlying115
  a45 := Try.isAgg115
  z45 := Try.sizeOf115
  v45 := Try.zeroValue115
  t46 := Try.underlying116
  a46 := Try.isAgg116
  z46 := Try.sizeOf116
  v46 := Try.zeroValue116
  t50 := Try.underlying120
  a50 := Try.isAgg120
  z50 := Try.sizeOf120
  v50 := Try.zeroValue120
  t53 := Try.underlying123
  a53 := Try.isAgg123
  z53 := Try.sizeOf123
  v53 := Try.zeroValue123
  t55 := Try.underlying53
  a55 := Try.isAgg53
  z55 := Try.sizeOf53
  v55 := Try.zeroValue53
  t66 := Try.underlying127
  a66 := Try.isAgg127
  z66 := Try.sizeOf127
  v66 := Try.zeroValue127
  t70 := Try.underlying131
  a70 := Try.isAgg131
  z70 := Try.sizeOf131
  v70 := Try.zeroValue131
  t76 := Try.underlying133
  a76 := Try.isAgg133
  z76 := Try.sizeOf133
  v76 := Try.zeroValue133
  t77 := Try.underlying134
  a77 := Try.isAgg134
  z77 := Try.sizeOf134
  v77 := Try.zeroValue134 }
end Go.Proofs

namespace Go.Proofs.Ytkghonhghbcdlaa
set_option linter.unusedVariables false
set_option linter.unusedSimpArgs false
open Go Go.RowKit Go.Sort Go.Shelf

theorem heap_sortedG {α : Type} [Inhabited α] {w : World} {g n : Nat} {os : Array Obj} {cur : Array Value} {e : TypeId} {fr : Nat × Nat} (enc : α → Value) (d : Array α) (hb : w.heap[g]? = some (.cells cur e fr)) :
    (grow (putRow enc (Sort.ahead w n) g 0 d) os).heap[g]? = some (.cells (putCells enc 0 d cur) e fr) := by
  have hg : g < w.heap.size := (Array.getElem?_eq_some_iff.1 hb).1
  rw [heap_grow_old _ _ (by simpa using hg)]
  simp [putRow, mapBlock, Sort.ahead, Array.getElem?_modify, hb, onCells]
theorem keep_sortedG {α : Type} [Inhabited α] {w : World} {g n : Nat} {os : Array Obj} (enc : α → Value) (d : Array α) : Keep (fun k => k = g) w (grow (putRow enc (Sort.ahead w n) g 0 d) os) := by
  refine ⟨rfl, rfl, rfl, by simp, fun k hk hne => ?_⟩
  rw [heap_grow_old _ _ (by simpa using hk)]
  have : g ≠ k := fun e => hne e.symm
  simp [putRow, mapBlock, Sort.ahead, Array.getElem?_modify, this]
theorem blk_sortedG {α : Type} [Inhabited α] {w : World} {g n : Nat} {os : Array Obj} {t : TypeId} {us cs : List Value} (enc : α → Value) (d : Array α) (h : Blk w g t (us ++ cs)) (hl : us.length = d.size) :
    Blk (grow (putRow enc (Sort.ahead w n) g 0 d) os) g t (d.toList.map enc ++ cs) := by
  have := heap_sortedG (n := n) (os := os) enc d h
  unfold Blk
  rw [this]
  congr 2
  apply Array.ext'
  apply List.ext_getElem?
  intro j
  rcases Nat.lt_or_ge j d.size with hj | hj
  · have h2 : j < (us ++ cs).length := by simp; omega
    simp [putCells, hj, List.getElem?_append_left, show j < us.length by omega, hl]
  · simp only [putCells, List.getElem?_append_right, List.length_map, Array.length_toList, hj]
    rcases Nat.lt_or_ge j (us ++ cs).length with h2 | h2
    · have h3 : ¬ j < d.size := by omega
      have h4 : j - d.size < cs.length := by simp at h2; omega
      simp only [List.length_append] at h2
      simp [h3, h2, h4, List.getElem_append_right (show us.length ≤ j by omega), hl]
      rw [List.getElem?_append_right (by omega), hl]; exact List.getElem?_eq_getElem h4
    · simp only [List.length_append] at h2
      simp [show ¬ j < us.length + cs.length by omega, show ¬ j - d.size < cs.length by omega]

theorem keep_mono' {S T : Nat → Prop} {w w' : World} (k : Keep S w w') (h : ∀ x, S x → T x) : Keep T w w' := ⟨k.os, k.tape, k.output, k.size, fun x hx hn => k.block x hx (fun e => hn (h x e))⟩
theorem lex_ntrans {x y z : List Int} (h1 : lexB x y = false) (h2 : lexB y z = false) : lexB x z = false := by
  cases e : lexB x z
  · rfl
  · exfalso
    by_cases hyz : y = z
    · rw [hyz, e] at h1; cases h1
    · have h3 := lexB_total hyz h2
      rw [lexB_trans e h3] at h1; cases h1
/-- The values of the rows by their numbers. -/
def encV (us : List Value) (i : Fin us.length) : Value := us[i.val]
def cfV (us : List Value) (X : List (List Int)) (i j : Fin us.length) : Int := cmpB (row X i.val) (row X j.val)
theorem lt_cfV (us : List Value) (X : List (List Int)) (i j : Fin us.length) : ltOf (cfV us X) i j = lexB (row X i.val) (row X j.val) := by
  unfold ltOf cfV
  cases e : lexB (row X i.val) (row X j.val)
  · have : ¬ cmpB (row X i.val) (row X j.val) < 0 := fun h => by rw [cmpB_neg.1 h] at e; cases e
    simp [this]
  · simp [cmpB_neg.2 e]
theorem swo_cfV (us : List Value) (X : List (List Int)) : SWO (ltOf (cfV us X)) where
  irrefl x := by rw [lt_cfV]; exact lexB_irrefl _
  trans x y z h1 h2 := by rw [lt_cfV] at *; exact lexB_trans h1 h2
  ntrans x y z h1 h2 := by rw [lt_cfV] at *; exact lex_ntrans h1 h2

theorem eg_slCompare : ∀ args w, (callFunc 112 args).run Try.prog w = .ok (.enter 112 args) w := Go.Proofs.enters_of Try.func112 (by kernel_rfl) rfl
set_option maxHeartbeats 1000000 in
theorem c_SortRows (B : Nat) (w : World) (a : Option Addr) (c : Nat) (X : List (List Int)) (h : OwnRows B w (.slice a X.length c) X) (hn : X.Nodup) (h0 : 0 < X.length) (hm : X.length ≤ 1048576) :
    Calls Try.prog 111 #[.slice a X.length c, .func (.func 112) #[] #[]] w (fun e w' => e = .returned (.tuple #[]) ∧ OwnRows B w' (.slice a X.length c) (gSort X) ∧ Below B w w') := by
  obtain ⟨us, h1, h2⟩ := h
  have hl := h2.len
  rcases ownsRow_open h1 with ⟨hv, hnil⟩ | ⟨g, cs, hv, hb, hblk, hmx⟩
  · rw [hnil] at hl; simp at hl; omega
  injection hv with e1 e2 e3
  subst e1 e3
  rw [← hl] at h1 ⊢
  haveI : Inhabited (Fin us.length) := ⟨⟨0, by omega⟩⟩
  have hds : (Array.ofFn (n := us.length) id).size = us.length := by simp
  have hge : ∀ j, j < us.length → ∀ hj : j < us.length, (Array.ofFn (n := us.length) id)[j]! = ⟨j, hj⟩ := fun j h hj => by
    rw [getElem!_pos _ j (by simpa using h)]; simp
  have hH : Holds (encV us) w g 0 (Array.ofFn (n := us.length) id) := by
    intro j hj
    rw [hds] at hj
    rw [hge j hj hj, Nat.zero_add]
    refine ⟨?_, hblk.frozen j⟩
    rw [hblk.cell (i := j) (by simp; omega), List.getElem_append_left hj]
    rfl
  have hone : OneCell (encV us) := fun x => by
    obtain ⟨xa, xc, hx, -⟩ := (h2.own x.val x.2 (by rw [← hl]; exact x.2)).shape
    unfold encV
    rw [hx]; rfl
  have hrow : ∀ (w' : World), Keep (fun k => k = g) w w' → RowVals B w' us X := fun w' k => rowvals_keepT h2 h1 (keep_mono' k (fun x hx => by rw [hx]; rfl))
  have hcmp : CmpReads Try.prog 112 #[] (encV us) (cfV us X) g 0 (Array.ofFn (n := us.length) id).size w := by
    intro m os dk hs x y
    have hk : Keep (fun k => k = g) w (sortWorld (encV us) w g 0 m dk os) := keep_sortedG _ _
    have hr := hrow _ hk
    have hx := (hr.own x.val x.2 (by rw [← hl]; exact x.2)).ints
    have hy := (hr.own y.val y.2 (by rw [← hl]; exact y.2)).ints
    have := c_slCompare (encV us x) (encV us y) _ _ _ hx hy
    rw [← row_nat X x.val (by rw [← hl]; exact x.2), ← row_nat X y.val (by rw [← hl]; exact y.2)] at this
    rw [show (#[encV us x, encV us y] ++ #[] : Array Value) = #[encV us x, encV us y] from by simp]
    exact this
  have hT : ∀ x y, ltOf (cfV us X) x y = false → ltOf (cfV us X) y x = false → x = y := fun x y g1 g2 => by
    rw [lt_cfV] at g1 g2
    by_cases e : row X x.val = row X y.val
    · rw [row_nat X x.val (by rw [← hl]; exact x.2), row_nat X y.val (by rw [← hl]; exact y.2)] at e
      have := (List.getElem_inj hn).1 e
      exact Fin.ext this
    · have := lexB_total e g1
      rw [this] at g2; cases g2
  have hcon := Any.slices_SortFunc_total Try.laysSF (encV us) hone (cfV us X) (swo_cfV us X) 112 #[] g 0 (us.length + cs.length) (Array.ofFn (n := us.length) id) w eg_slCompare hcmp.lays hH hblk.lt (by rw [hds]; omega) hT
  rw [hds] at hcon
  refine Calls.mono hcon ?_
  rintro e w' ⟨he, m, os, hw'⟩
  obtain ⟨D, hD⟩ : ∃ D, ((Array.ofFn (n := us.length) id).toList.mergeSort fun x y => !(ltOf (cfV us X)) y x) = D := ⟨_, rfl⟩
  have hp : D.Perm (Array.ofFn (n := us.length) id).toList := by rw [← hD]; exact List.mergeSort_perm _ _
  have hDl : D.length = us.length := by rw [hp.length_eq]; simp
  rw [hD] at hw'
  have hk : Keep (fun k => k = g) w w' := by rw [hw']; exact keep_sortedG _ _
  have hb2 : Blk w' g 27 (D.map (encV us) ++ cs) := by
    rw [hw']
    have := blk_sortedG (n := m) (os := os) (encV us) D.toArray hblk (by simp [hDl])
    simpa [sortWorld] using this
  have hS : D.map (fun i => row X i.val) = gSort X := by
    refine gSort_is hn ?_ ?_
    · refine (hp.map _).trans (List.Perm.of_eq ?_)
      apply List.ext_getElem (by simp [hl])
      intro j g1 g2
      simp at g1
      simp [row_nat X j g2]
    · have hs : D.Pairwise fun x y => (!(ltOf (cfV us X)) y x) = true := by
        rw [← hD]
        refine List.pairwise_mergeSort ?_ ?_ _
        · intro x y z g1 g2
          simp only [Bool.not_eq_true'] at *
          exact (swo_cfV us X).ntrans _ _ _ g2 g1
        · intro x y
          cases g1 : ltOf (cfV us X) y x
          · simp
          · cases g3 : ltOf (cfV us X) x y
            · simp
            · have := (swo_cfV us X).trans _ _ _ g1 g3
              rw [(swo_cfV us X).irrefl] at this; cases this
      have hnd : D.Nodup := hp.nodup_iff.2 (by
        rw [List.nodup_iff_pairwise_ne, List.pairwise_iff_getElem]
        intro i j g1 g2 hij
        simp at g1 g2 ⊢
        omega)
      unfold AscR
      rw [List.pairwise_map]
      refine List.Pairwise.imp₂ (R := fun x y => (!(ltOf (cfV us X)) y x) = true) (S := fun x y => x ≠ y) ?_ hs (List.nodup_iff_pairwise_ne.1 hnd)
      intro x y g1 g2
      cases g3 : lexB (row X x.val) (row X y.val)
      · exfalso
        simp only [Bool.not_eq_true'] at g1
        exact g2 (hT x y (by rw [lt_cfV]; exact g3) g1)
      · rfl
  refine ⟨he, ⟨D.map (encV us), ?_, ?_⟩, hk.below fun k hk' => ⟨?_, fun e => by have e : k = g := e; omega⟩⟩
  · have := ownsRow_shut (B := B) hb2 hb (by simp; omega) (n := us.length) (m := us.length + cs.length) (by simp [hDl]) (by simp [hDl])
    exact this
  · have hr := hrow w' hk
    rw [← hS]
    refine hr.perm2 ?_ (by simp)
    have e5 : (D.map (encV us)).zip (D.map fun i => row X i.val) = D.map fun i => (encV us i, row X i.val) := by rw [List.zip_map']
    have e6 : us.zip X = (Array.ofFn (n := us.length) id).toList.map fun i => (encV us i, row X i.val) := by
      apply List.ext_getElem (by simp; omega)
      intro j g1 g2
      simp at g1 g2
      simp [encV, row_nat X j (by omega)]
    rw [e5, e6]
    exact hp.map _
  · have := hblk.lt; omega
end Go.Proofs.Ytkghonhghbcdlaa

namespace Go.Proofs.Ytkghonhghbcdlaa
set_option linter.unusedVariables false
set_option linter.unusedSimpArgs false
open Go Go.RowKit

theorem one_row {w w1 : World} {u : Value} {xs : List Int} (hu : Own w.heap.size w1 u xs) (hb : Below w.heap.size w w1) : OwnRows w.heap.size (w1.alloc (.cells #[u] 27)) (.slice (some ⟨w1.heap.size, 0, none⟩) 1 1) [xs] := by
  have hu' := hu.under ((Below.refl w1.heap.size w1).alloc (Nat.le_refl _) (.cells #[u] 27))
  refine ⟨[u], ownsRow_blk (Blk.new w1 [u] 27) hb.size rfl rfl (by unfold maxLen; simp), ⟨rfl, fun i hi hi' => ?_, by simp⟩⟩
  have : i = 0 := by simp at hi; omega
  subst this
  exact hu'
theorem eg_groupElements1 : ∀ args w, (callFunc 109 args).run Try.prog w = .ok (.enter 109 args) w := Go.Proofs.enters_of Try.func109 (by kernel_rfl) rfl
set_option maxHeartbeats 400000 in
theorem c_groupElements1 (b : Nat) (own : List Int) (u o : Value) (r : List Int) (w : World) (hbox : w.cell? ⟨b, 0, none⟩ = some o) (ho : Ints w o own) (hu : Ints w u r) :
    Calls Try.prog 109 #[u, .pointer (some ⟨b, 0, none⟩)] w (RVal w (.bool (decide (r = own)))) := by
  obtain ⟨oa, oc, rfl, -, -⟩ := ho.shape
  obtain ⟨ua, uc, rfl, -, -⟩ := hu.shape
  have HO := Lib.hid ho; have HU := Lib.hid hu
  clear ho hu
  go_enter Try.func109, Try.ntmps109
  go_wp2_with fail
  refine (c_slicesEqual _ _ _ _ _ HU.out HO.out).mono ?_; rintro e w1 hq
  obtain ⟨he, hb⟩ := hq.r
  subst he
  have HB := Lib.hid hb
  clear hb hq
  go_wp2
  go_ret
  exact ⟨rfl, HB.out⟩
/-- What the group's function leaves. -/
def RGrp (n : Nat) (L : List (List Int)) (w : World) (e : Ending) (w' : World) : Prop :=
  ∃ r X, e = .returned (.tuple #[r, .bool (gOk n L)]) ∧ OwnRows w.heap.size w' r X ∧ (gOk n L = true → X = gSort (gAll n L)) ∧ Below w.heap.size w w'
theorem any_own {G : List (List Int)} {own : List Int} : (G.any fun r => decide (r = own)) = decide (own ∈ G) := by
  rw [Bool.eq_iff_iff, List.any_eq_true]
  simp only [decide_eq_true_eq]
  exact ⟨fun ⟨x, hx, e⟩ => e ▸ hx, fun h => ⟨own, h, rfl⟩⟩
set_option maxRecDepth 100000 in
set_option maxHeartbeats 4000000 in
theorem c_groupElements (n : Nat) (v : Value) (L : List (List Int)) (w : World) (hx : Rows w v L) (hn0 : 1 ≤ n) (hn : n ≤ 12) (hL : L.length ≤ 16) (hs : SysOk n L) :
    Calls Try.prog 69 #[.int .i64 n, v] w (RGrp n L w) := by
  obtain ⟨la, lc, rfl, -, -⟩ := hx.shape
  have HS := Lib.hid hs; have HX := Lib.hid hx
  clear hs hx
  go_enter Try.func69, Try.ntmps69
  go_wp2_with fail
  refine (c_identity n _ (by omega)).mono ?_; rintro e w1 ⟨r1, rfl, ho1, hb1⟩
  obtain ⟨ra1, rc1, rfl, -⟩ := ho1.shape
  have HG1 := Lib.hid (one_row ho1 hb1)
  have HB1 := Lib.hid (bb hb1 ((Below.refl w1.heap.size w1).alloc (Nat.le_refl _) (.cells #[.slice ra1 (iota n).length rc1] 27)))
  rw [iota_length] at HG1 HB1 ⊢
  clear ho1 hb1
  go_wp2
  go_loopw [6, 7, 9, 10] (fun g i _ _ wr => ∃ (k : Nat) (G : List (List Int)) (ra : Option Addr) (rc : Nat), i = .int .i64 k ∧ g = .slice ra G.length rc ∧ k ≤ G.length ∧ G.length ≤ 1000 ∧ Hid (G = gAt n L (k * L.length)) ∧ Hid (OwnRows w.heap.size wr (.slice ra G.length rc) G) ∧ Hid (Below w.heap.size w wr)) (fun _ i _ _ _ => 1001 - (intOf i).toNat)
  case atStart => exact ⟨0, [iota n], _, _, rfl, rfl, by simp, by simp, Lib.hid (by rw [Nat.zero_mul]; rfl), HG1, HB1⟩
  case round =>
    clear HG1 HB1
    obtain ⟨k, G, ra, rc, rfl, rfl, hk, hG, HGe, HO, HB⟩ := hrel
    obtain ⟨wo, rfl⟩ : ∃ wo : World, wo = wr := ⟨_, rfl⟩
    by_cases hlt : k < G.length
    · go_wp2
      go_loopw [22, 6, 9, 10] (fun x g _ _ wr => ∃ (j : Nat) (G : List (List Int)) (ra : Option Addr) (rc : Nat), x = .int .i64 j ∧ j ≤ L.length ∧ g = .slice ra G.length rc ∧ k < G.length ∧ G.length ≤ 1000 ∧ Hid (G = gAt n L (k * L.length + j)) ∧ Hid (OwnRows w.heap.size wr (.slice ra G.length rc) G) ∧ Hid (Below w.heap.size w wr)) (fun x _ _ _ _ => L.length - (intOf x).toNat)
      case atStart => exact ⟨0, G, _, _, rfl, Nat.zero_le _, rfl, hlt, hG, HGe, HO, HB⟩
      case round =>
        clear HGe HO HB hG hlt hk
        obtain ⟨j, G, ra, rc, rfl, hj, rfl, hkG, hG, HGe, HO, HB⟩ := hrel
        obtain ⟨wo, rfl⟩ : ∃ wo : World, wo = wr := ⟨_, rfl⟩
        by_cases hlt : j < L.length
        · obtain ⟨b, o, xa, xc, rfl, hcell, hu⟩ := (HX.out.below HB.out).getS j hlt
          obtain ⟨b2, o2, ya, yc, rfl, hcell2, hu2⟩ := HO.out.rows.getS k hkG
          have hgr := gAt_gr HS.out (k * L.length + j)
          rw [← HGe.out] at hgr
          have hpk := hgr.perm _ (row_mem (x := (k : Int)) (by omega) (by omega))
          have hpj := HS.out _ (row_mem (t := L) (x := (j : Int)) (by omega) (by omega))
          have hin : ∀ x ∈ row G k, 0 ≤ x ∧ x < (row L j).length := fun x hx => by have := hpk.1.2 x hx; omega
          have HIn := Lib.hid hin
          have HLk := Lib.hid (show (row G k).length ≤ 1048576 by omega)
          have HU := Lib.hid hu; have HU2 := Lib.hid hu2
          clear hgr hpk hpj hin hu hu2
          go_wp2_with fail
          refine (c_then _ _ _ _ _ HU2.out HU.out HIn.out HLk.out).mono ?_; rintro e w1 ⟨r1, rfl, ho1, hb1⟩
          obtain ⟨qa, qc, rfl, -⟩ := ho1.shape
          have HO1 := Lib.hid ho1; have HB1 := Lib.hid hb1
          clear ho1 hb1
          have hlen : (thenL (row G k) (row L j)).length = (row G k).length := by simp
          obtain ⟨own, how⟩ : ∃ own, thenL (row G k) (row L j) = own := ⟨_, rfl⟩
          rw [how] at HO1 hlen
          obtain ⟨hblk0, hb0, hsz0⟩ := boxes1' w1 [.slice qa (row G k).length qc] 27
          have HBV := Lib.hid (bb HB1.out ((Below.refl w1.heap.size w1).alloc (Nat.le_refl _) (.cells #[.slice qa (row G k).length qc] 27)))
          have HF := Lib.hid hblk0
          have HOV := Lib.hid (HO1.out.under hb0)
          have HGV := Lib.hid (HO.out.under HBV.out)
          have hsz1 : w1.heap.size < (w1.alloc (.cells #[.slice qa (row G k).length qc] 27)).heap.size := by rw [show (w1.alloc (.cells #[.slice qa (row G k).length qc] 27)).heap.size = w1.heap.size + 1 from hsz0]; omega
          have hsz2 : w.heap.size ≤ wo.heap.size := HB.out.size
          have hsz3 : wo.heap.size ≤ w1.heap.size := HB1.out.size
          have HNx := Lib.hid (gAt_next (n := n) (L := L) (i := k) (k := j) hlt (by rw [← HGe.out]; exact hkG))
          rw [← HGe.out, how] at HNx
          clear hblk0 hb0 hsz0 HU HU2 HIn HLk HO1 HB1
          obtain ⟨V, hV⟩ : ∃ V, (w1.alloc (.cells #[.slice qa (row G k).length qc] 27)) = V := ⟨_, rfl⟩
          have hF : Blk V w1.heap.size 27 [.slice qa (row G k).length qc] := by rw [← hV]; exact HF.out
          rw [hV] at HBV HOV HGV hsz1
          clear HF
          go_wp2_with fail
          clear hV
          have HP : Hid (Pays V 109 #[.pointer (some ⟨w1.heap.size, 0, none⟩)] G (fun r => decide (r = own))) := Lib.hid (fun W u r hbW hu _ => c_groupElements1 _ own _ _ r W ((hF.under hbW).cell (i := 0) (by simp)) (by have := (HOV.out.under hbW).ints; rw [hlen] at this; exact this) hu)
          refine (c_ContainsFunc _ _ _ _ _ _ HGV.out.rows eg_groupElements1 HP.out).mono ?_; rintro e w2 ⟨rfl, hb2⟩
          rw [any_own]
          have HB2 := Lib.hid (bb HBV.out hb2); have hc2 := (hF.under hb2).cell (i := 0) (by simp)
          have HO2 := Lib.hid (HOV.out.under hb2)
          rw [hlen] at HO2
          have hc2 : w2.cell? ⟨w1.heap.size, 0, none⟩ = some (.slice qa (row G k).length qc) := hc2
          clear hb2 HP hF HOV HGV HBV hsz1
          by_cases hm : own ∈ G
          · have HM := Lib.hid hm
            rw [decide_eq_true hm]; clear hm hc2 HO2
            go_wp2
            go_roundw
            case rel => exact ⟨j + 1, G, _, _, by go_num, by omega, rfl, hkG, hG, Lib.hid (by have := HNx.out; unfold gStep at this; rw [if_pos HM.out] at this; rw [← Nat.add_assoc]; exact this.symm), Lib.hid (HO.out.under HB2.out), Lib.hid (bb HB.out HB2.out)⟩
            case measure => simp [intOf]; omega
          · have HM := Lib.hid (show gAt n L (k * L.length + j + 1) = G ++ [own] by have := HNx.out; unfold gStep at this; rw [if_neg hm] at this; exact this)
            rw [decide_eq_false hm]; clear hm
            by_cases hfull : G.length = 1000
            · clear hc2 HO2
              go_wp2
              go_ret2
              have hov := g_over (n := n) (L := L) (t := k * L.length + j + 1) (by rw [HM.out]; simp; omega) (by have := Nat.mul_le_mul_right L.length (show k + 1 ≤ 1000 by omega); rw [Nat.add_mul] at this; omega)
              exact ⟨.slice none 0 0, [], by rw [hov]; rfl, OwnRows.nil _ _, (fun e => by rw [hov] at e; cases e), bb HB.out HB2.out⟩
            · go_wp2_with (at_builtin; refine wpList_app_row w.heap.size wo w2 _ G _ own _ _ rfl rfl rfl HO.out HB2.out HO2.out rfl (by omega) hsz2 ?_; intro a' c' w' hown' hkeep; have Hk := Lib.hid hkeep; have Ho' := Lib.hid hown'; clear hkeep hown')
              go_roundw
              case rel => exact ⟨j + 1, G ++ [own], a', c', by go_num, by omega, by simp, by simp; omega, by simp; omega, Lib.hid (by rw [← Nat.add_assoc]; exact HM.out.symm), Lib.hid (by simpa using Ho'.out), Lib.hid (OwnRows.frame HO.out (bb HB.out HB2.out) (Nat.le_refl _) (by have := HB2.out.size; omega) Hk.out)⟩
              case measure => simp [intOf]; omega
        · obtain rfl : j = L.length := by omega
          clear HX
          go_wp2_with fail
          go_roundw
          case rel => exact ⟨k + 1, G, _, _, by go_num, rfl, hkG, hG, Lib.hid (by rw [Nat.add_mul, Nat.one_mul]; exact HGe.out), HO, HB⟩
          case measure => simp [intOf]; omega
    · obtain rfl : k = G.length := by omega
      obtain ⟨hok, hall⟩ := g_ok (n := n) (L := L) (i := G.length) (by rw [← HGe.out]) hG
      rw [← HGe.out] at hall
      have hg := gAt_gr HS.out (G.length * L.length)
      have hp := gAt_pos n L (G.length * L.length)
      rw [← HGe.out] at hg hp
      have HOk := Lib.hid hok; have HAll := Lib.hid hall; have HNd := Lib.hid hg.nodup
      clear hok hall hg HX
      go_wp2_with fail
      refine (c_SortRows w.heap.size wo ra rc G HO.out HNd.out hp (by omega)).mono ?_; rintro e w2 ⟨rfl, hs2, hb2⟩
      have HS2 := Lib.hid hs2; have HB2 := Lib.hid hb2
      clear hs2 hb2
      go_wp2
      go_ret2
      exact ⟨_, gSort G, by rw [HOk.out]; rfl, HS2.out, fun _ => by rw [HAll.out], HB.out.trans HB2.out⟩
end Go.Proofs.Ytkghonhghbcdlaa

namespace Go.Proofs.Ytkghonhghbcdlaa
set_option linter.unusedVariables false
set_option linter.unusedSimpArgs false
open Go Go.RowKit

/-- 'append(s, u)' of a list of lists: the cells in plain sight. -/
theorem wp_app_rowC {o : Oper} {a : Act} {K : Act → World → Prop} {Q : Exit → Act → World → Prop} (B m : Nat) (w : World) (v : Value) (us : List Value) (xss : List (List Int)) (u : Value) (xs : List Int) (s x : Operand)
    (ho : o.op = .call { callee := .builtin .append, args := #[s, x], argTypes := #[24, 24] })
    (hs : a.eval s = v) (h1 : w.ownsRow B 27 1 v us.length us) (h2 : RowVals B w us xss) (hlt : ∀ i (h : i < us.length) k, us[i].ownBlock = some k → k < m) (hu : Own m w u xs) (hx : a.eval x = .slice (some ⟨w.heap.size, 0, none⟩) 1 1) (hn : us.length ≤ 1099511627776) (hB : B ≤ m) (hB2 : B ≤ w.heap.size)
    (h : ∀ g c' w', w'.ownsRow B 27 1 (.slice (some ⟨g, 0, none⟩) (us.length + 1) c') (us.length + 1) (us ++ [u]) → RowVals B w' (us ++ [u]) (xss ++ [xs]) → Keep (fun b => v.ownBlock = some b) w w' → (v.ownBlock = some g ∨ w.heap.size ≤ g) → K (a.put o.dst (.slice (some ⟨g, 0, none⟩) (us.length + 1) c')) w') :
    o.wp Try.prog a (w.alloc (.cells #[u] 27)) K Q := by
  have h2' := rowvals_snoc h2 hlt hu hB
  obtain ⟨ua, uc, hu1, _⟩ := hu.shape
  obtain ⟨i0, hi, hz0, hz1, hz2⟩ := info_parts inf_ints
  refine wp_append_lies _ s x 24 ho B 27 i0 (.slice none 0 0) 1 24 Try.underlying24 hi hz0 hz1 hz2 rfl (by decide) v us.length us hs (h1.alloc _) ⟨w.heap.size, 0, none⟩ 1 1 [u] hx rfl ?_ ?_ (by decide) (by unfold maxLen; omega) (by omega) (by simp; omega) (w.heap.size + 1) (by simp) ?_
  · intro j u' hj
    match j, hj with
    | 0, hj => simp at hj; subst hj; simp [Addr.add]
  · intro u' hu'; simp at hu'; subst hu'; subst hu1; rfl
  · intro g cap w' h3 h4 h5 _
    have hk := Keep.of_grown h4
    have hk2 : Keep (fun b => v.ownBlock = some b) w w' := ((Keep.refl _ w).alloc _).trans hk
    refine h g cap w' (by simpa using h3) (rowvals_keepT h2' h1 hk2) hk2 (by rcases h5 with h5 | h5; exact .inl h5; exact .inr (by omega))
theorem wpList_app_rowC {ops : Array Oper} {rest : List Oper} {o : Oper} {a : Act} {Q : Exit → Act → World → Prop} (B m : Nat) (w : World) (v : Value) (us : List Value) (xss : List (List Int)) (u : Value) (xs : List Int) (s x : Operand) (hgd : o.guard = none)
    (ho : o.op = .call { callee := .builtin .append, args := #[s, x], argTypes := #[24, 24] })
    (hs : a.eval s = v) (h1 : w.ownsRow B 27 1 v us.length us) (h2 : RowVals B w us xss) (hlt : ∀ i (h : i < us.length) k, us[i].ownBlock = some k → k < m) (hu : Own m w u xs) (hx : a.eval x = .slice (some ⟨w.heap.size, 0, none⟩) 1 1) (hn : us.length ≤ 1099511627776) (hB : B ≤ m) (hB2 : B ≤ w.heap.size)
    (h : ∀ g c' w', w'.ownsRow B 27 1 (.slice (some ⟨g, 0, none⟩) (us.length + 1) c') (us.length + 1) (us ++ [u]) → RowVals B w' (us ++ [u]) (xss ++ [xs]) → Keep (fun b => v.ownBlock = some b) w w' → (v.ownBlock = some g ∨ w.heap.size ≤ g) → wpList Try.prog ops Q rest (a.put o.dst (.slice (some ⟨g, 0, none⟩) (us.length + 1) c')) w') :
    wpList Try.prog ops Q (o :: rest) a (w.alloc (.cells #[u] 27)) :=
  wpList_plain hgd fun _ hK => wp_app_rowC B m w v us xss u xs s x ho hs h1 h2 hlt hu hx hn hB hB2 fun g c' w' h3 h4 h5 h6 => hK _ _ (h g c' w' h3 h4 h5 h6)
theorem keep_mono2 {S T : Nat → Prop} {w w' : World} (k : Keep S w w') (h : ∀ x, x < w.heap.size → S x → T x) : Keep T w w' := ⟨k.os, k.tape, k.output, k.size, fun x hx hn => k.block x hx (fun e => hn (h x hx e))⟩

theorem keep_put {w W w2 wF : World} {v : Value} {g : Nat} (hb : Below w.heap.size w W) (k1 : Keep (fun b => v.ownBlock = some b) W w2) (k2 : Keep (fun x => x = g) w2 wF) (hg : v.ownBlock = some g ∨ W.heap.size ≤ g) :
    Keep (fun b => v.ownBlock = some b) w wF ∧ (v.ownBlock = some g ∨ w.heap.size ≤ g) := by
  have hs := hb.size
  have m0 : Keep (fun x => v.ownBlock = some x ∨ w.heap.size ≤ x) w W := keep_mono2 (Keep.of_below hb) (fun x _ h => .inr h)
  have m1 : Keep (fun x => v.ownBlock = some x ∨ w.heap.size ≤ x) W w2 := keep_mono2 k1 (fun x _ h => .inl h)
  have m2 : Keep (fun x => v.ownBlock = some x ∨ w.heap.size ≤ x) w2 wF := keep_mono2 k2 (fun x _ h => by
    rcases hg with h' | h'
    · exact .inl (by rw [h', h])
    · exact .inr (by rw [h]; omega))
  refine ⟨keep_mono2 ((m0.trans m1).trans m2) (fun x hx h => by rcases h with h | h; exact h; omega), ?_⟩
  rcases hg with h' | h'
  · exact .inl h'
  · exact .inr (by omega)

/-- What is left of a list of lists with one put in. -/
def RPut (B : Nat) (v : Value) (S : List (List Int)) (p : List Int) (w : World) (e : Ending) (w' : World) : Prop :=
  (p ∈ S ∧ e = .returned (.tuple #[v, .bool false]) ∧ Below w.heap.size w w') ∨
  (p ∉ S ∧ ∃ g c T, e = .returned (.tuple #[.slice (some ⟨g, 0, none⟩) (S.length + 1) c, .bool true]) ∧ OwnRows B w' (.slice (some ⟨g, 0, none⟩) (S.length + 1) c) T ∧ AscR T ∧ T.Perm (S ++ [p]) ∧ Keep (fun b => v.ownBlock = some b) w w' ∧ (v.ownBlock = some g ∨ w.heap.size ≤ g))

set_option maxRecDepth 100000 in
set_option maxHeartbeats 4000000 in
theorem c_l01Put (B m : Nat) (v u : Value) (S : List (List Int)) (p : List Int) (w : World) (hS : OwnRowsIn B m w v S) (hA : AscR S) (hu : Own m w u p) (hn : S.length ≤ 1048576) (hBm : B ≤ m) (hmw : B ≤ w.heap.size) :
    Calls Try.prog 101 #[v, u] w (RPut B v S p w) := by
  obtain ⟨sa, sc, rfl, -⟩ := hS.rows.shape
  obtain ⟨ua, uc, rfl, -⟩ := hu.shape
  have HS := Lib.hid hS; have HA := Lib.hid hA; have HU := Lib.hid hu
  clear hS hA hu
  go_enter Try.func101, Try.ntmps101
  go_wp2_with fail
  go_loopw [6, 7, 8] (fun l h _ wr => ∃ (lo hi : Nat), l = .int .i64 lo ∧ h = .int .i64 hi ∧ lo ≤ hi ∧ hi ≤ S.length ∧ Hid (PutAt S p lo hi) ∧ Hid (Below w.heap.size w wr)) (fun l h _ _ => (intOf h).toNat - (intOf l).toNat)
  case atStart => exact ⟨0, S.length, rfl, rfl, Nat.zero_le _, Nat.le_refl _, Lib.hid (PutAt.start S p), Lib.hid (Below.refl _ _)⟩
  case round =>
    obtain ⟨lo, hi, rfl, rfl, hle, hhi, HP, HB⟩ := hrel
    obtain ⟨wo, rfl⟩ : ∃ wo : World, wo = wr := ⟨_, rfl⟩
    by_cases hlt : lo < hi
    · obtain ⟨q, hq⟩ : ∃ q, (lo + hi) / 2 = q := ⟨_, rfl⟩
      have hq2 : (lo + hi : Int) / 2 = (q : Int) := by omega
      have hq3 : lo ≤ q := by omega
      have hq4 : q < hi := by omega
      obtain ⟨b, o, xa, xc, rfl, hcell, hux⟩ := (HS.out.rows.below HB.out).getS q (by omega)
      have HX := Lib.hid hux; have HU2 := Lib.hid (HU.out.under HB.out).ints
      clear hux
      go_wp2_with fail
      refine (c_l01Less _ _ _ _ _ HX.out HU2.out).mono ?_; rintro e w1 ⟨rfl, nd, rfl⟩
      have HB2 := Lib.hid (below_drewN HB.out nd)
      obtain ⟨w1, hw1⟩ : ∃ w1, wo.drewN nd = w1 := ⟨_, rfl⟩
      rw [hw1] at HB2 ⊢
      clear hw1 HX HU2 hcell
      by_cases hls : lexB (row S q) p = true
      · have HL := Lib.hid hls
        rw [hls]; clear hls
        go_wp2_with fail
        go_roundw
        case rel => exact ⟨q + 1, hi, by go_num, rfl, by omega, hhi, Lib.hid (HP.out.up HA.out hq4 HL.out), HB2⟩
        case measure => simp [intOf]; omega
      · have hls : lexB (row S q) p = false := by simpa using hls
        have HL := Lib.hid hls
        rw [hls]; clear hls
        go_wp2_with fail
        go_roundw
        case rel => exact ⟨lo, q, rfl, by go_num, by omega, by omega, Lib.hid (HP.out.down HA.out hq3 hq4 HL.out), HB2⟩
        case measure => simp [intOf]; omega
    · obtain rfl : lo = hi := by omega
      by_cases hlo : lo < S.length
      case' pos =>
        obtain ⟨b, o, xa, xc, rfl, hcell, hux⟩ := (HS.out.rows.below HB.out).getS lo hlo
        have HX := Lib.hid hux; have HU2 := Lib.hid (HU.out.under HB.out).ints
        clear hux
        go_wp2_with fail
        refine (c_l01Same _ _ _ _ _ HX.out HU2.out).mono ?_; rintro e w1 ⟨rfl, nd, rfl⟩
        have HBW := Lib.hid (below_drewN HB.out nd)
        obtain ⟨W, hw1⟩ : ∃ w1, wo.drewN nd = w1 := ⟨_, rfl⟩
        rw [hw1] at HBW ⊢
        clear hw1 HX HU2 hcell
        by_cases hsm : row S lo = p
        case pos =>
          have HM := Lib.hid (put_in hlo hsm)
          rw [decide_eq_true hsm]
          clear hsm
          go_wp2
          go_ret2
          exact .inl ⟨HM.out, rfl, HBW.out⟩
        rw [decide_eq_false hsm]
        have HNew := Lib.hid (put_new HP.out HA.out (fun h => hsm h.2))
        obtain ⟨sa, hsa⟩ : ∃ sa : Option Addr, some ⟨b, o, none⟩ = sa := ⟨_, rfl⟩
        rw [hsa] at HS ⊢
        have HSA := Lib.hid hsa
        clear hsm hsa
      case' neg =>
        have HNew := Lib.hid (put_new HP.out HA.out (fun h => hlo h.1))
        obtain ⟨W, hW⟩ : ∃ W : World, W = wo := ⟨_, rfl⟩
        rw [← hW] at HB ⊢
        clear hW
        have HBW := HB
      all_goals clear HB
      all_goals
        obtain ⟨us, h1, h2, hve, hlt⟩ := HS.out.under HBW.out
        have hul : us.length = S.length := h2.len
        have HR1 := Lib.hid (And.intro h1 (And.intro h2 hlt)); have HU3 := Lib.hid (HU.out.under HBW.out)
        have hWs : B ≤ W.heap.size := Nat.le_trans hmw HBW.out.size
        clear h1 h2 hve hlt
        go_wp2_with (at_builtin; refine wpList_app_rowC B m W _ us S _ p _ _ rfl rfl rfl HR1.out.1 HR1.out.2.1 HR1.out.2.2 HU3.out rfl (by omega) hBm hWs ?_; intro g c' w2 ho hr hk hg; rw [hul] at ho ⊢; have HOw := Lib.hid ho; have HRw := Lib.hid hr; have HKw := Lib.hid (keep_mono2 (T := fun b => (Value.slice sa S.length sc).ownBlock = some b) hk (fun _ _ h => h)); have HGw := Lib.hid (show (Value.slice sa S.length sc).ownBlock = some g ∨ W.heap.size ≤ g from hg); clear ho hr hk hg)
        clear hlo
        obtain ⟨cs, hbl, hgB, hmx, hc'⟩ : ∃ cs : List Value, Blk w2 g 27 ((us ++ [Value.slice ua p.length uc]) ++ cs) ∧ B ≤ g ∧ (us ++ [Value.slice ua p.length uc]).length + cs.length ≤ maxLen ∧ c' = (us ++ [Value.slice ua p.length uc]).length + cs.length := by
          have ho : w2.ownsRow B 27 1 (.slice (some ⟨g, 0, none⟩) (S.length + 1) c') (us ++ [Value.slice ua p.length uc]).length (us ++ [Value.slice ua p.length uc]) := by have := HOw.out; simpa [hul] using this
          rcases ownsRow_open ho with ⟨h0, _⟩ | ⟨g', cs, hv, hb, hbk, hm⟩
          · cases h0
          · injection hv with e1 e2 e3
            injection e1 with e1; injection e1 with e1
            subst e1
            exact ⟨cs, hbk, hb, hm, e3⟩
        have HBl := Lib.hid hbl; have HMx := Lib.hid (And.intro hgB (And.intro hmx hc'))
        clear hbl hgB hmx hc'
        go_loopw [10] (fun k wi => ∃ q : Nat, lo ≤ q ∧ q ≤ S.length ∧ k = .int .i64 q ∧ Hid (Blk wi g 27 (shf us (.slice ua p.length uc) q ++ cs)) ∧ Hid (Keep (fun x => x = g) w2 wi)) (fun k _ => (intOf k).toNat)
        case atStart => exact ⟨S.length, by omega, Nat.le_refl _, rfl, Lib.hid (by rw [← hul, shf_end]; exact HBl.out), Lib.hid (Keep.refl _ _)⟩
        case round =>
          clear HBl
          obtain ⟨q, hq1, hq2, rfl, HB, HK⟩ := hrel
          obtain ⟨wi, rfl⟩ : ∃ wi : World, wi = wr := ⟨_, rfl⟩
          by_cases hq : lo < q
          · obtain ⟨m', rfl⟩ : ∃ m', q = m' + 1 := ⟨q - 1, by omega⟩
            have hml : m' < us.length := by omega
            obtain ⟨ya, yc, hy, -⟩ := (HR1.out.2.1.own m' hml (by omega)).shape
            have hcell : wi.cell? ⟨g, m', none⟩ = some (.slice ya (S[m']'(by omega)).length yc) := by
              rw [← hy]
              have h5 := shf_at us (.slice ua p.length uc) (k := m' + 1) (j := m') (by omega) hml
              have h6 : m' < (shf us (.slice ua p.length uc) (m' + 1) ++ cs).length := by rw [List.length_append, shf_len us (.slice ua p.length uc) (by omega)]; omega
              rw [HB.out.cell h6]
              have h7 := List.getElem?_append_left (l₂ := cs) (show m' < (shf us (.slice ua p.length uc) (m' + 1)).length by rw [shf_len us (.slice ua p.length uc) (by omega)]; omega)
              rw [← List.getElem?_eq_getElem h6, h7, h5, List.getElem?_eq_getElem hml]
            have hfr := HB.out.frozen (m' + 1)
            have hcell3 := HB.out.cell (i := m' + 1) (by rw [List.length_append, shf_len us (.slice ua p.length uc) (by omega)]; omega)
            have hfr2 := HB.out.frozen m'
            have em : (((m' + 1 : Nat) : Int) - 1) = (m' : Int) := by omega
            go_wp2
            go_roundw
            case rel =>
              refine ⟨m', by omega, by omega, by go_num, Lib.hid ?_, Lib.hid ?_⟩
              · have h9 := HB.out.set (m' + 1) (.slice ya (S[m']'(by omega)).length yc)
                rw [← hy, List.set_append_left _ _ (by rw [shf_len us (.slice ua p.length uc) (by omega)]; omega), shf_step us (.slice ua p.length uc) hml] at h9
                rw [← hy]; exact h9
              · exact HK.out.setCell (p := ⟨g, m' + 1, none⟩) (.inl rfl) _
            case measure => simp [intOf]
          · obtain rfl : q = lo := by omega
            have hcell3 := HB.out.cell (i := q) (by rw [List.length_append, shf_len us (.slice ua p.length uc) (by omega)]; omega)
            have hfr2 := HB.out.frozen q
            go_wp2
            go_ret2
            have h9 := HB.out.set q (.slice ua p.length uc)
            rw [List.set_append_left _ _ (by rw [shf_len us (.slice ua p.length uc) (by omega)]; omega), shf_done us (.slice ua p.length uc) (by omega)] at h9
            have hk9 : Keep (fun x => x = g) w2 (wi.setCell ⟨g, q, none⟩ (.slice ua p.length uc)) := HK.out.setCell (p := ⟨g, q, none⟩) (.inl rfl) _
            have hl9 : (us.take q ++ Value.slice ua p.length uc :: us.drop q).length = S.length + 1 := by simp; omega
            obtain ⟨hn1, hn2, hn3⟩ := HNew.out
            have hkg := keep_put HBW.out HKw.out hk9 HGw.out
            try (have hsa := HSA.out; subst hsa)
            refine .inr ⟨hn1, g, c', S.take q ++ p :: S.drop q, rfl, ⟨us.take q ++ Value.slice ua p.length uc :: us.drop q, ?_, ?_⟩, hn2, hn3, ?_, ?_⟩
            · exact ownsRow_shut h9 HMx.out.1 (by have := HMx.out.2.1; rw [hl9]; simp at this; omega) hl9.symm (by rw [HMx.out.2.2, hl9]; simp; omega)
            · refine (rowvals_keepT HRw.out HOw.out (keep_mono2 hk9 (fun x _ hx => by rw [hx]; rfl))).perm2 ?_ (by simp; omega)
              rw [List.zip_append (by simp [hul]), List.zip_cons_cons, List.zip_append hul]
              refine (List.perm_middle).trans ?_
              rw [← List.zip_append (by simp [hul]), List.take_append_drop, List.take_append_drop]
              exact (List.perm_append_singleton _ _).symm
            · exact hkg.1
            · exact hkg.2
end Go.Proofs.Ytkghonhghbcdlaa

namespace Go.Proofs.Ytkghonhghbcdlaa
set_option linter.unusedVariables false
set_option linter.unusedSimpArgs false
open Go.RowKit

theorem eql_nilC (W : World) (a : Option Addr) (n c : Nat) : (binOp .eql 27 (.slice a n c) (.slice none 0 0)).run Try.prog W = .ok (.bool a.isNone) W := Lib.run_eql_slice_nil W _ _ a n c 0 0 Try.underlying27

end Go.Proofs.Ytkghonhghbcdlaa

namespace Go.Proofs.Ytkghonhghbcdlaa
set_option linter.unusedVariables false
set_option linter.unusedSimpArgs false
open Go.RowKit


set_option maxHeartbeats 1600000 in
theorem c_l01Own2 (v : Value) (t : List (List Int)) (w : World) (hx : Rows w v t) (hn : t.length ≤ 1048576) (hr : ∀ r ∈ t, r.length ≤ 1048576) :
    Calls Try.prog 102 #[v] w (RRows w t) := by
  obtain ⟨a, c, rfl, hc, hm⟩ := hx.shape
  have HR := Lib.hid hr; clear hr
  go_enter Try.func102, Try.ntmps102
  go_wp2
  go_loopw [3, 4] (fun s i wr => ∃ (k : Nat) (sa : Option Addr) (sc : Nat), k ≤ t.length ∧ i = .int .i64 k ∧ s = .slice sa k sc ∧ Below w.heap.size w wr ∧ OwnRows w.heap.size wr (.slice sa k sc) (t.take k)) (fun _ i _ => t.length - (intOf i).toNat)
  case atStart => exact ⟨0, _, _, Nat.zero_le _, rfl, rfl, (Below.refl _ _).alloc (Nat.le_refl _) _, OwnRows.made0 w (Nat.le_refl _)⟩
  case round =>
    obtain ⟨k, sa, sc, hk, rfl, rfl, hb, hown⟩ := hrel
    have hlen : (t.take k).length = k := by simp; omega
    by_cases hlt : k < t.length
    · obtain ⟨b, o, ra, rc, rfl, hcell, hu⟩ := (hx.below hb).getS k hlt
      have hrl : (row t k).length ≤ 1048576 := HR.out _ (row_mem (by omega) (by omega))
      have Hb := Lib.hid hb; have Ho := Lib.hid hown; have Hl := Lib.hid hlen; have Hs := Lib.hid hb.size; have HU := Lib.hid hu; clear hb hown hlen hu
      obtain ⟨wo, rfl⟩ : ∃ wo : World, wo = wr := ⟨_, rfl⟩
      go_wp2_with fail
      refine (c_l01Own _ _ _ HU.out hrl).mono ?_; rintro e w1 ⟨r, rfl, hor, hb1⟩
      obtain ⟨qa, qc, hqv, _⟩ := hor.shape
      subst hqv
      have HRr := Lib.hid hor; have HB1 := Lib.hid hb1; clear hor hb1 hcell
      go_wp2_with (at_builtin; refine wpList_app_row w.heap.size wo w1 _ (t.take k) _ (row t k) _ _ rfl rfl rfl Ho.out HB1.out HRr.out rfl (by rw [Hl.out]; omega) Hs.out ?_; intro a' c' w' hown' hkeep; rw [Hl.out]; have Hk := Lib.hid hkeep; have Ho' := Lib.hid hown'; clear hkeep hown')
      go_roundw
      case rel =>
        have h1 := Ho'.out
        rw [Hl.out, ← take_snoc_row _ _ hlt] at h1
        exact ⟨k + 1, a', c', by omega, by go_num, rfl, OwnRows.frame Ho.out (bb Hb.out HB1.out) (Nat.le_refl _) (Nat.le_trans Hs.out HB1.out.size) Hk.out, h1⟩
      case measure => simp [intOf]; omega
    · have Hb := Lib.hid hb; have Ho := Lib.hid hown; clear hb hown hlen
      obtain rfl : k = t.length := by omega
      go_wp2
      go_ret
      exact ⟨_, rfl, by have := Ho.out; rwa [List.take_of_length_le (Nat.le_refl _)] at this, Hb.out⟩

end Go.Proofs.Ytkghonhghbcdlaa

namespace Go.Proofs.Ytkghonhghbcdlaa
set_option linter.unusedVariables false
set_option linter.unusedSimpArgs false
open Go Go.RowKit

theorem Own.keepG {B B0 : Nat} {w w' : World} {u v : Value} {xs : List Int} {yss : List (List Int)} (h : Own B w u xs) (hv : OwnRows B0 w v yss) (k : Keep (fun b => v.ownBlock = some b) w w') : Own B w' u xs := by
  obtain ⟨us', h3, h4⟩ := hv
  have hr : RowVals B w [u] [xs] := ⟨rfl, fun i hi hi' => by
    have : i = 0 := by simp at hi; omega
    subst this
    exact h, by simp⟩
  exact (rowvals_keepT hr h3 k).own 0 (by simp) (by simp)
set_option maxRecDepth 100000 in
set_option maxHeartbeats 4000000 in
theorem c_l01Group (n : Nat) (v : Value) (L : List (List Int)) (w : World) (hx : Rows w v L) (hn0 : 1 ≤ n) (hn : n ≤ 12) (hL : L.length ≤ 16) (hs : SysOk n L) :
    Calls Try.prog 66 #[.int .i64 n, v, .int .i64 1000] w (RGrp n L w) := by
  obtain ⟨la, lc, rfl, -, -⟩ := hx.shape
  have HS := Lib.hid hs; have HX := Lib.hid hx
  clear hs hx
  go_enter Try.func66, Try.ntmps66
  go_wp2_with fail
  refine (c_l01Unit n _ (by omega)).mono ?_; rintro e w1 ⟨r1, rfl, ho1, hb1⟩
  obtain ⟨ra1, rc1, rfl, -⟩ := ho1.shape
  have HG1 := Lib.hid (one_row ho1 hb1)
  have HB1 := Lib.hid (bb hb1 ((Below.refl w1.heap.size w1).alloc (Nat.le_refl _) (.cells #[.slice ra1 (iota n).length rc1] 27)))
  rw [iota_length] at HG1 HB1 ⊢
  have hsz1 : w1.heap.size < (w1.alloc (.cells #[.slice ra1 n rc1] 27)).heap.size := by simp
  clear ho1 hb1
  obtain ⟨V, hV⟩ : ∃ V, (w1.alloc (.cells #[.slice ra1 n rc1] 27)) = V := ⟨_, rfl⟩
  rw [hV] at HG1 HB1 hsz1
  go_wp2_with fail
  clear hV
  refine (c_l01Unit n _ (by omega)).mono ?_; rintro e w2 ⟨r2, rfl, ho2, hb2⟩
  obtain ⟨ra2, rc2, rfl, -⟩ := ho2.shape
  have HG2 := Lib.hid (one_row ho2 hb2)
  have hb3 := bb hb2 ((Below.refl w2.heap.size w2).alloc (Nat.le_refl _) (.cells #[.slice ra2 (iota n).length rc2] 27))
  have hne : w1.heap.size ≠ w2.heap.size := by have := hb2.size; omega
  have HF1 := Lib.hid (HG1.out.under hb3)
  have HB2 := Lib.hid (bb HB1.out hb3)
  have HF2 := Lib.hid (HG2.out.mono HB1.out.size)
  rw [iota_length] at HF1 HB2 HF2 ⊢
  clear ho2 hb2 hb3 HG1 HB1 HG2
  go_wp2
  go_loopw [8, 9, 10, 11, 12, 13, 14] (fun f s i _ _ _ _ wr => ∃ (k : Nat) (F S : List (List Int)) (fg sg : Nat) (fc sc : Nat), i = .int .i64 k ∧ f = .slice (some ⟨fg, 0, none⟩) F.length fc ∧ s = .slice (some ⟨sg, 0, none⟩) S.length sc ∧ fg ≠ sg ∧ k ≤ F.length ∧ F.length ≤ 1000 ∧ Hid (F = gAt n L (k * L.length)) ∧ Hid (AscR S ∧ S.Perm F) ∧ Hid (OwnRows w.heap.size wr (.slice (some ⟨fg, 0, none⟩) F.length fc) F) ∧ Hid (OwnRows w.heap.size wr (.slice (some ⟨sg, 0, none⟩) S.length sc) S) ∧ Hid (Below w.heap.size w wr)) (fun _ _ i _ _ _ _ _ => 1001 - (intOf i).toNat)
  case atStart => exact ⟨0, [iota n], [iota n], _, _, _, _, rfl, rfl, rfl, hne, by simp, by simp, Lib.hid (by rw [Nat.zero_mul]; rfl), Lib.hid ⟨by simp [AscR], List.Perm.refl _⟩, HF1, HF2, HB2⟩
  case round =>
    clear HF1 HF2 HB2 hne hsz1
    obtain ⟨k, F, S, fg, sg, fc, sc, rfl, rfl, rfl, hfs, hk, hF, HGe, HA, HOF, HOS, HB⟩ := hrel
    obtain ⟨wo, rfl⟩ : ∃ wo : World, wo = wr := ⟨_, rfl⟩
    by_cases hlt : k < F.length
    · go_wp2
      go_loopw [8, 9, 11, 12, 13, 14] (fun f s x _ _ _ wr => ∃ (j : Nat) (F S : List (List Int)) (fg sg : Nat) (fc sc : Nat), x = .int .i64 j ∧ j ≤ L.length ∧ f = .slice (some ⟨fg, 0, none⟩) F.length fc ∧ s = .slice (some ⟨sg, 0, none⟩) S.length sc ∧ fg ≠ sg ∧ k < F.length ∧ F.length ≤ 1000 ∧ Hid (F = gAt n L (k * L.length + j)) ∧ Hid (AscR S ∧ S.Perm F) ∧ Hid (OwnRows w.heap.size wr (.slice (some ⟨fg, 0, none⟩) F.length fc) F) ∧ Hid (OwnRows w.heap.size wr (.slice (some ⟨sg, 0, none⟩) S.length sc) S) ∧ Hid (Below w.heap.size w wr)) (fun _ _ x _ _ _ _ => L.length - (intOf x).toNat)
      case atStart => exact ⟨0, F, S, _, _, _, _, rfl, Nat.zero_le _, rfl, rfl, hfs, hlt, hF, HGe, HA, HOF, HOS, HB⟩
      case round =>
        clear HGe HA HOF HOS HB hF hlt hk hfs
        obtain ⟨j, F, S, fg, sg, fc, sc, rfl, hj, rfl, rfl, hfs, hkF, hF, HGe, HA, HOF, HOS, HB⟩ := hrel
        obtain ⟨wo, rfl⟩ : ∃ wo : World, wo = wr := ⟨_, rfl⟩
        by_cases hlt : j < L.length
        · obtain ⟨b, o, xa, xc, rfl, hcell, hu⟩ := (HX.out.below HB.out).getS j hlt
          obtain ⟨b2, o2, ya, yc, e2, hcell2, hu2⟩ := HOF.out.rows.getS k hkF
          injection e2 with e2; injection e2 with e2 e3
          subst e2 e3
          rw [Nat.zero_add] at hcell2
          have hgr := gAt_gr HS.out (k * L.length + j)
          rw [← HGe.out] at hgr
          have hpk := hgr.perm _ (row_mem (x := (k : Int)) (by omega) (by omega))
          have hpj := HS.out _ (row_mem (t := L) (x := (j : Int)) (by omega) (by omega))
          have hin : ∀ x ∈ row F k, 0 ≤ x ∧ x < (row L j).length := fun x hx => by have := hpk.1.2 x hx; omega
          have HIn := Lib.hid hin
          have HLk := Lib.hid (show (row F k).length ≤ 1048576 by omega)
          have HU := Lib.hid hu; have HU2 := Lib.hid hu2
          have HNx := Lib.hid (gAt_next (n := n) (L := L) (i := k) (k := j) hlt (by rw [← HGe.out]; exact hkF))
          rw [← HGe.out] at HNx
          have hsz2 : w.heap.size ≤ wo.heap.size := HB.out.size
          have hfl : fg < wo.heap.size := (OwnRows.lt HOF.out rfl).2
          clear hgr hpk hpj hin hu hu2
          go_wp2
          go_region_held3 (fun w' => w'.cell? ⟨fg, k, none⟩ = some (.slice ya (row F k).length yc) ∧ w'.cell? ⟨b, o + j, none⟩ = some (.slice xa (row L j).length xc)) (first | go_keep | exact ⟨hcell2, hcell⟩ | exact ⟨cell_under HX1.out hcell2, cell_under HX1.out hcell⟩)
            ((go_at_call 100; (with_reducible refine (c_l01Then _ _ (row F k) (row L j) _ (HU2.out.below (Below.refl _ _).drew) (HU.out.below (Below.refl _ _).drew) HIn.out HLk.out).mono ?_); rintro e w1 ⟨r1, rfl, ho1, hb1⟩; obtain ⟨qa, qc, hv1, -⟩ := ho1.shape; subst hv1; have HO1 := Lib.hid ho1; have HX1 := Lib.hid (bb (Below.refl wo.heap.size wo).drew hb1); clear ho1 hb1))
          have hlen : (thenL (row F k) (row L j)).length = (row F k).length := by simp
          obtain ⟨p, hp⟩ : ∃ p, thenL (row F k) (row L j) = p := ⟨_, rfl⟩
          rw [hp] at HO1 hlen HNx
          have HOp : Hid (Own wo.heap.size w1 (.slice qa (row F k).length qc) p) := Lib.hid (by have := HO1.out; rw [hlen] at this; exact this)
          have hsz3 : wo.heap.size ≤ w1.heap.size := HX1.out.size
          have HSi := Lib.hid (HOS.out.inn.under HX1.out)
          have hSl : S.length ≤ 1048576 := by have := HA.out.2.length_eq; omega
          have hgS : sg < wo.heap.size := (OwnRows.lt HOS.out rfl).2
          clear HO1 hcell hcell2 HU HU2 HIn HLk
          go_wp2_with fail
          refine (c_l01Put w.heap.size wo.heap.size _ _ S p w1 HSi.out HA.out.1 HOp.out hSl hsz2 (by omega)).mono ?_; rintro e w2' hq
          rcases hq with ⟨hm, rfl, hb⟩ | ⟨hm, g, c, T, rfl, hT, hTa, hTp, hk, hg⟩
          · have HB2 := Lib.hid (bb HX1.out hb)
            have HM := Lib.hid (HA.out.2.mem_iff.1 hm)
            clear hb hm HSi HOp
            go_wp2
            go_roundw
            case rel => exact ⟨j + 1, F, S, fg, sg, fc, sc, by go_num, by omega, rfl, rfl, hfs, hkF, hF, Lib.hid (by have := HNx.out; unfold gStep at this; rw [if_pos HM.out] at this; rw [← Nat.add_assoc]; exact this.symm), HA, Lib.hid (HOF.out.under HB2.out), Lib.hid (HOS.out.under HB2.out), Lib.hid (bb HB.out HB2.out)⟩
            case measure => simp [intOf]; omega
          · have HM := Lib.hid (show gAt n L (k * L.length + j + 1) = F ++ [p] by have := HNx.out; unfold gStep at this; rw [if_neg (fun h => hm (HA.out.2.mem_iff.2 h))] at this; exact this)
            have HOF2 := Lib.hid (OwnRowsIn.keepT (HOF.out.inn.under HX1.out) HSi.out.out (fun b h1 h2 => by injection h1 with h1; injection h2 with h2; exact hfs (h1.trans h2.symm)) hk)
            have HOp2 := Lib.hid (HOp.out.keepG HSi.out.out hk)
            have hsz4 : w1.heap.size ≤ w2'.heap.size := hk.size
            have hgl : g < w2'.heap.size := (OwnRows.lt hT rfl).2
            have hgf : g ≠ fg := by
              rcases hg with h | h
              · injection h with h; intro e; exact hfs (by rw [← e]; exact h.symm)
              · omega
            have HT := Lib.hid (And.intro hT (And.intro hTa hTp)); have HBk := Lib.hid (OwnRows.frame HOS.out (bb HB.out HX1.out) (Nat.le_refl _) (by omega) hk)
            have hTl : T.length = S.length + 1 := by have := hTp.length_eq; simpa using this
            clear hm hT hTa hTp hk hg HSi HOp
            by_cases hfull : 1000 ≤ F.length
            · go_wp2_with (at_builtin; refine wpList_app_row2 w.heap.size wo.heap.size w2' _ F _ p _ _ rfl rfl rfl HOF2.out HOp2.out rfl (by omega) hsz2 (by omega) ?_; intro g3 c3 w3 ho3 hk3 hg3; have HB3 := Lib.hid (OwnRows.frame HOF.out HBk.out (Nat.le_refl _) (by omega) hk3); clear ho3 hk3 hg3)
              go_ret2
              have hov := g_over (n := n) (L := L) (t := k * L.length + j + 1) (by rw [HM.out]; simp; omega) (by have := Nat.mul_le_mul_right L.length (show k + 1 ≤ 1000 by omega); rw [Nat.add_mul] at this; omega)
              exact ⟨.slice none 0 0, [], by rw [hov]; rfl, OwnRows.nil _ _, (fun e => by rw [hov] at e; cases e), HB3.out⟩
            · go_wp2_with (at_builtin; refine wpList_app_row2 w.heap.size wo.heap.size w2' _ F _ p _ _ rfl rfl rfl HOF2.out HOp2.out rfl (by omega) hsz2 (by omega) ?_; intro g3 c3 w3 ho3 hk3 hg3; have HB3 := Lib.hid (OwnRows.frame HOF.out HBk.out (Nat.le_refl _) (by omega) hk3); have HF3 := Lib.hid ho3; have HT3 := Lib.hid (HT.out.1.keepT HOF2.out.out (fun b h1 h2 => by injection h1 with h1; injection h2 with h2; exact hgf (h1.trans h2.symm)) hk3); have hne3 : g3 ≠ g := (by rcases hg3 with h | h; (· injection h with h; intro e; exact hgf (by rw [← e]; exact h.symm)); (· omega)); clear ho3 hk3 hg3)
              go_roundw
              case rel => exact ⟨j + 1, F ++ [p], T, g3, g, c3, c, by go_num, by omega, by simp, by rw [hTl], hne3, by rw [List.length_append, List.length_singleton]; omega, by rw [List.length_append, List.length_singleton]; omega, Lib.hid (by rw [← Nat.add_assoc]; exact HM.out.symm), Lib.hid ⟨HT.out.2.1, HT.out.2.2.trans (HA.out.2.append_right _)⟩, Lib.hid (by simpa using HF3.out), Lib.hid (by rw [hTl]; exact HT3.out), HB3⟩
              case measure => simp [intOf]; omega
        · obtain rfl : j = L.length := by omega
          clear HX
          go_wp2_with fail
          go_roundw
          case rel => exact ⟨k + 1, F, S, _, _, _, _, by go_num, rfl, rfl, hfs, hkF, hF, Lib.hid (by rw [Nat.add_mul, Nat.one_mul]; exact HGe.out), HA, HOF, HOS, HB⟩
          case measure => simp [intOf]; omega
    · obtain rfl : k = F.length := by omega
      obtain ⟨hok, hall⟩ := g_ok (n := n) (L := L) (i := F.length) (by rw [← HGe.out]) hF
      rw [← HGe.out] at hall
      have hg := gAt_gr HS.out (F.length * L.length)
      rw [← HGe.out] at hg
      have HOk := Lib.hid hok
      have HSe := Lib.hid (gSort_is hg.nodup HA.out.2 HA.out.1)
      rw [← hall] at HSe
      have hSl : S.length ≤ 1048576 := by have := HA.out.2.length_eq; omega
      have HSr := Lib.hid (show ∀ r ∈ S, r.length ≤ 1048576 from fun r hr => by have := (hg.perm r (HA.out.2.mem_iff.1 hr)).2; omega)
      clear hok hall hg HX
      go_wp2_with fail
      refine (c_l01Own2 _ S _ HOS.out.rows hSl HSr.out).mono ?_; rintro e w2 ⟨r, rfl, hs2, hb2⟩
      have HS2 := Lib.hid (hs2.mono HB.out.size); have HB2 := Lib.hid (bb HB.out hb2)
      clear hs2 hb2
      go_wp2
      go_ret2
      exact ⟨_, S, by rw [HOk.out]; rfl, HS2.out, fun _ => HSe.out, HB2.out⟩
end Go.Proofs.Ytkghonhghbcdlaa

namespace Go.Proofs.Ytkghonhghbcdlaa
set_option linter.unusedVariables false
set_option linter.unusedSimpArgs false
open Go.RowKit

noncomputable def grpRes (n : Int) (L : List (List Int)) : List (List Int) := if sysL n L then (if gOk n.toNat L then gSort (gAll n.toNat L) else []) else []
noncomputable def grpCode (n : Int) (L : List (List Int)) : Int := if sysL n L then (if gOk n.toNat L then 0 else 3) else 1
theorem total_le12 : ∀ S : List (List Int), (∀ r ∈ S, r.length ≤ 12) → total S ≤ S.length * 12
  | [], _ => by simp [total]
  | r :: S, h => by
    have h1 := total_le12 S (fun x hx => h x (List.mem_cons_of_mem _ hx))
    have h2 := h r (List.mem_cons_self ..)
    simp only [total, List.length_cons]; omega
theorem total_grpRes (n : Int) (L : List (List Int)) : total (grpRes n L) ≤ 1152921504606846976 := by
  unfold grpRes
  split
  · rename_i h
    split
    · rename_i hok
      have hg := gAt_gr (sysL_ok h) (1000 * L.length)
      have h1 := sysL_n h
      have h2 := total_le12 (gSort (gAll n.toNat L)) (fun r hr => by
        have := (hg.perm r (mem_gSort.1 hr)).2
        omega)
      have h3 := (gSort_perm (gAll n.toNat L)).length_eq
      have h4 : (gAll n.toNat L).length ≤ 1000 := by simpa [gOk] using hok
      omega
    · simp [total]
  · simp [total]

set_option maxRecDepth 100000 in
set_option maxHeartbeats 800000 in
theorem c_GroupElements (n : Int) (v1 : Value) (L : List (List Int)) (w : World) (hln : -9223372036854775808 ≤ n) (hun : n ≤ 9223372036854775807) (hL : Rows w v1 L)  :
    Calls Try.prog 27 #[.int .i64 n, v1] w (RRowsC w (grpRes n L) (grpCode n L)) := by
  by_cases hp0 : sysL n L = true
  case neg =>
    have hq0 : sysL n L = false := by simpa using hp0
    have HQ := Lib.hid hq0; clear hp0
    obtain ⟨a1, c1, rfl, hc1, hm1⟩ := hL.shape
    go_enter Try.func27, Try.ntmps27
    go_wp2_with fail
    refine (c_isSystem _ _ _ _ (hL.below (Below.refl _ _))).mono ?_; rintro e g0 ⟨rfl, hbg0⟩
    have hB0 := hbg0
    clear hbg0
    have HB := Lib.hid hB0
    clear hB0
    go_wp2
    go_ret2
    exact ⟨.slice none 0 0, by simp [grpCode, HQ.out], by simpa [grpRes, HQ.out] using OwnRows.nil _ _, HB.out⟩
  have HP0 := Lib.hid hp0
  obtain ⟨a1, c1, rfl, hc1, hm1⟩ := hL.shape
  go_enter Try.func27, Try.ntmps27
  go_wp2_with fail
  refine (c_isSystem _ _ _ _ (hL.below (Below.refl _ _))).mono ?_; rintro e g0 ⟨rfl, hbg0⟩
  have hB0 := hbg0
  clear hbg0
  obtain ⟨h1, h2, h3⟩ := sysL_n HP0.out
  obtain ⟨N, rfl⟩ : ∃ N : Nat, n = N := ⟨n.toNat, by omega⟩
  go_wp2_with fail
  refine (c_groupElements N _ L _ (hL.below hB0) (by omega) (by omega) h3 (sysL_ok HP0.out)).mono ?_; rintro e w2 ⟨r, X, rfl, ho, hX, hb⟩
  obtain ⟨ra, rc, rfl, -⟩ := ho.rows.shape
  have HO := Lib.hid (ho.mono hB0.size); have HB := Lib.hid (bb hB0 hb); have HXe := Lib.hid hX; clear ho hb hX
  clear hB0 hL
  by_cases hok : gOk N L = true
  · have HOk := Lib.hid hok
    rw [hok]; clear hok
    go_wp2
    go_ret2
    exact ⟨.slice ra X.length rc, by simp [grpCode, HP0.out, HOk.out], by have h : grpRes (N : Int) L = X := (by simp [grpRes, HP0.out, HOk.out, HXe.out HOk.out]); rw [h]; exact HO.out, HB.out⟩
  · have hok : gOk N L = false := by simpa using hok
    have HOk := Lib.hid hok
    rw [hok]; clear hok
    go_wp2
    go_ret2
    exact ⟨.slice none 0 0, by simp [grpCode, HP0.out, HOk.out], by simpa [grpRes, HP0.out, HOk.out] using OwnRows.nil _ _, HB.out⟩

theorem c_l01SystemG (n : Int) (v : Value) (L : List (List Int)) (w : World) (hx : Rows w v L) : Calls Try.prog 65 #[.int .i64 n, v] w (RVal w (.bool (sysL n L))) := (c_l01System n v L w hx).mono (by rintro e w' ⟨rfl, rfl⟩; exact ⟨rfl, Below.refl _ _⟩)

set_option maxRecDepth 100000 in
set_option maxHeartbeats 800000 in
theorem c_specGroupElements (n : Int) (v1 : Value) (L : List (List Int)) (w : World) (hln : -9223372036854775808 ≤ n) (hun : n ≤ 9223372036854775807) (hL : Rows w v1 L)  :
    Calls Try.prog 25 #[.int .i64 n, v1] w (RRowsC w (grpRes n L) (grpCode n L)) := by
  by_cases hp0 : sysL n L = true
  case neg =>
    have hq0 : sysL n L = false := by simpa using hp0
    have HQ := Lib.hid hq0; clear hp0
    obtain ⟨a1, c1, rfl, hc1, hm1⟩ := hL.shape
    go_enter Try.func25, Try.ntmps25
    go_wp2_with fail
    refine (c_l01SystemG _ _ _ _ (hL.below (Below.refl _ _))).mono ?_; rintro e g0 ⟨rfl, hbg0⟩
    have hB0 := hbg0
    clear hbg0
    have HB := Lib.hid hB0
    clear hB0
    go_wp2
    go_ret2
    exact ⟨.slice none 0 0, by simp [grpCode, HQ.out], by simpa [grpRes, HQ.out] using OwnRows.nil _ _, HB.out⟩
  have HP0 := Lib.hid hp0
  obtain ⟨a1, c1, rfl, hc1, hm1⟩ := hL.shape
  go_enter Try.func25, Try.ntmps25
  go_wp2_with fail
  refine (c_l01SystemG _ _ _ _ (hL.below (Below.refl _ _))).mono ?_; rintro e g0 ⟨rfl, hbg0⟩
  have hB0 := hbg0
  clear hbg0
  obtain ⟨h1, h2, h3⟩ := sysL_n HP0.out
  obtain ⟨N, rfl⟩ : ∃ N : Nat, n = N := ⟨n.toNat, by omega⟩
  go_wp2_with fail
  refine (c_l01Group N _ L _ (hL.below hB0) (by omega) (by omega) h3 (sysL_ok HP0.out)).mono ?_; rintro e w2 ⟨r, X, rfl, ho, hX, hb⟩
  obtain ⟨ra, rc, rfl, -⟩ := ho.rows.shape
  have HO := Lib.hid (ho.mono hB0.size); have HB := Lib.hid (bb hB0 hb); have HXe := Lib.hid hX; clear ho hb hX
  clear hB0 hL
  by_cases hok : gOk N L = true
  · have HOk := Lib.hid hok
    rw [hok]; clear hok
    go_wp2
    go_ret2
    exact ⟨.slice ra X.length rc, by simp [grpCode, HP0.out, HOk.out], by have h : grpRes (N : Int) L = X := (by simp [grpRes, HP0.out, HOk.out, HXe.out HOk.out]); rw [h]; exact HO.out, HB.out⟩
  · have hok : gOk N L = false := by simpa using hok
    have HOk := Lib.hid hok
    rw [hok]; clear hok
    go_wp2
    go_ret2
    exact ⟨.slice none 0 0, by simp [grpCode, HP0.out, HOk.out], by simpa [grpRes, HP0.out, HOk.out] using OwnRows.nil _ _, HB.out⟩
theorem cut_waysGroupElements {p G : Prop} (k : Hid p → G) (h : p) : G := k (Lib.hid h)
set_option maxHeartbeats 16000000 in
theorem law_GroupElements (n0 : Int) (v1 : Value) (x1 : List (List Int)) (w : World) (hl0 : -9223372036854775808 ≤ n0) (hu0 : n0 ≤ 9223372036854775807) (hx1 : Rows w v1 x1) :
    Calls Try.prog 5 #[.int .i64 n0, v1] w (RVal w (.bool true)) := by
  obtain ⟨a1, c1, rfl, hc1, hm1⟩ := hx1.shape
  go_enter Try.func5, Try.ntmps5
  have BW : Below w.heap.size w w := Below.refl _ _
  go_wp2_with fail
  refine (c_szInt64SS _ _ _ _ (hx1.below BW) (by omega) (by omega)).mono ?_; rintro e w1 ⟨rfl, rfl⟩
  by_cases hg1 : leftR x1 (1048576) < 0
  case pos =>
    have HB := Lib.hid BW; clear BW
    go_wp2
    go_ret
    exact ⟨rfl, HB.out⟩
  have hf1 := leftR_fits (left := 1048576) (by omega) (by omega) hg1
  have Hf1 := Lib.hid hf1
  clear hf1
  have hf1 : x1.length ≤ 1048576 ∧ total x1 ≤ 1048576 ∧ 0 ≤ leftR x1 (1048576) ∧ leftR x1 (1048576) ≤ 1048576 := ⟨Hf1.out.1, Hf1.out.2.2⟩
  have hB0 : total (grpRes n0 x1) ≤ 1152921504606846976 := by exact total_grpRes n0 x1
  obtain ⟨R0, hR0⟩ : ∃ z, z = grpRes n0 x1 := ⟨_, rfl⟩
  obtain ⟨R1, hR1⟩ : ∃ z, z = grpCode n0 x1 := ⟨_, rfl⟩
  rw [← hR0] at hB0
  have HR0 := Lib.hid hR0
  clear hR0
  have HR1 := Lib.hid hR1
  clear hR1
  have hd0 : decide (R0 = R0) = true := by simp
  have hk1 : (R1 != R1) = false := by simp
  have hda1 : decide (x1 = x1) = true := by simp
  have hq0 : ((1 + (total R0 : Int)) != (1 + (total R0 : Int))) = false := by simp
  go_wp2_with fail
  refine (c_toInt64SS _ _ _ (hx1.below BW) hf1.1 Hf1.out.2.1).mono ?_; rintro e w1 ⟨t1, rfl, ot1r, hb1⟩
  have hs1 := hb1.size
  replace BW := bb BW hb1
  have ot1 := ot1r.inn
  clear ot1r
  clear hb1
  go_wp2_with fail
  refine (c_specGroupElements _ _ _ _ hl0 hu0 (ot1.rows)).mono ?_
  rw [← HR0.out, ← HR1.out]
  rintro e w2 ⟨s0, rfl, os0r, hb2⟩
  have hs2 := hb2.size
  replace ot1 := ot1.under hb2
  replace BW := bb BW hb2
  clear ot1
  have hS := os0r.rows
  clear os0r
  have BS : Below w2.heap.size w2 w2 := Below.refl _ _
  clear hb2
  go_wp2_with fail
  refine (c_toInt64SS _ _ _ (hx1.below BW) hf1.1 Hf1.out.2.1).mono ?_; rintro e w3 ⟨z1, rfl, oz1r, hb3⟩
  have hs3 := hb3.size
  replace BW := bb BW hb3
  replace BS := bb BS hb3
  have oz1 := oz1r.inn
  clear oz1r
  clear hb3
  go_wp2_with fail
  refine (c_GroupElements _ _ _ _ hl0 hu0 (oz1.rows)).mono ?_
  rw [← HR0.out, ← HR1.out]
  rintro e w4 ⟨g0, rfl, og0r, hb4⟩
  have hs4 := hb4.size
  replace oz1 := oz1.under hb4
  replace BW := bb BW hb4
  replace BS := bb BS hb4
  have og0 := og0r.inn
  clear og0r
  clear hb4
  go_wp2_with fail
  refine (c_eqR _ _ _ _ _ (og0.rows) (hS.below BS)).mono ?_; rintro e w5 ⟨rfl, hb5⟩
  have hs5 := hb5.size
  replace oz1 := oz1.under hb5
  replace og0 := og0.under hb5
  replace BW := bb BW hb5
  replace BS := bb BS hb5
  clear hb5
  go_wp2_with fail
  refine (c_toInt64SS _ _ _ (hx1.below BW) hf1.1 Hf1.out.2.1).mono ?_; rintro e w6 ⟨t2, rfl, ot2r, hb6⟩
  have hs6 := hb6.size
  replace oz1 := oz1.under hb6
  replace og0 := og0.under hb6
  replace BW := bb BW hb6
  replace BS := bb BS hb6
  have ot2 := ot2r.inn
  clear ot2r
  clear hb6
  go_wp2_with fail
  refine (c_eqR _ _ _ _ _ (oz1.rows) (ot2.rows)).mono ?_; rintro e w7 ⟨rfl, hb7⟩
  have hs7 := hb7.size
  replace oz1 := oz1.under hb7
  replace og0 := og0.under hb7
  replace ot2 := ot2.under hb7
  replace BW := bb BW hb7
  replace BS := bb BS hb7
  clear hb7
  clear ot2
  go_wp2_with fail
  refine (c_markR _ _ _ _ _ _ oz1 (by omega) (by omega)).mono ?_; rintro e w8 ⟨rfl, oz1m, hkw8⟩
  have hs8 := hkw8.size
  replace og0 := og0.keep hkw8 (fun b p q r => by omega)
  replace BW := below_keep BW hkw8 (by omega)
  replace BS := below_keep BS hkw8 (by omega)
  clear oz1
  have oz1 := oz1m
  clear oz1m hkw8
  clear oz1
  go_wp2_with fail
  refine (c_eqR _ _ _ _ _ (og0.rows) (hS.below BS)).mono ?_; rintro e w9 ⟨rfl, hb9⟩
  have hs9 := hb9.size
  replace og0 := og0.under hb9
  replace BW := bb BW hb9
  replace BS := bb BS hb9
  clear hb9
  go_wp2_with fail
  refine (c_markR _ _ _ _ _ _ og0 (by omega) (by omega)).mono ?_; rintro e w10 ⟨rfl, og0m, hkw10⟩
  have hs10 := hkw10.size
  replace BW := below_keep BW hkw10 (by omega)
  replace BS := below_keep BS hkw10 (by omega)
  clear og0
  have og0 := og0m
  clear og0m hkw10
  go_wp2_with fail
  refine (c_heldR _ _ _ _ (og0.rows) (by omega) (by omega)).mono ?_; rintro e w11 ⟨rfl, hb11⟩
  have hs11 := hb11.size
  replace og0 := og0.under hb11
  replace BW := bb BW hb11
  replace BS := bb BS hb11
  clear hb11
  go_wp2_with fail
  refine (c_toInt64SS _ _ _ (hx1.below BW) hf1.1 Hf1.out.2.1).mono ?_; rintro e w12 ⟨t3, rfl, ot3r, hb12⟩
  have hs12 := hb12.size
  replace og0 := og0.under hb12
  replace BW := bb BW hb12
  replace BS := bb BS hb12
  have ot3 := ot3r.inn
  clear ot3r
  clear hb12
  go_wp2_with fail
  refine (c_GroupElements _ _ _ _ hl0 hu0 (ot3.rows)).mono ?_
  rw [← HR0.out, ← HR1.out]
  rintro e w13 ⟨h0, rfl, oh0r, hb13⟩
  have hs13 := hb13.size
  replace og0 := og0.under hb13
  replace ot3 := ot3.under hb13
  replace BW := bb BW hb13
  replace BS := bb BS hb13
  have oh0 := oh0r.inn
  clear oh0r
  clear ot3
  clear hb13
  go_wp2_with fail
  refine (c_eqR _ _ _ _ _ (oh0.rows) (hS.below BS)).mono ?_; rintro e w14 ⟨rfl, hb14⟩
  have hs14 := hb14.size
  replace og0 := og0.under hb14
  replace oh0 := oh0.under hb14
  replace BW := bb BW hb14
  replace BS := bb BS hb14
  clear hb14
  go_wp2_with fail
  refine (c_heldR _ _ _ _ (og0.rows) (by omega) (by omega)).mono ?_; rintro e w15 ⟨rfl, hb15⟩
  have hs15 := hb15.size
  replace og0 := og0.under hb15
  replace oh0 := oh0.under hb15
  replace BW := bb BW hb15
  replace BS := bb BS hb15
  clear hb15
  have HB := Lib.hid BW
  clear BW BS hS og0 oh0 hx1
  go_wp2
  go_ret
  exact ⟨rfl, HB.out⟩
end Go.Proofs.Ytkghonhghbcdlaa
