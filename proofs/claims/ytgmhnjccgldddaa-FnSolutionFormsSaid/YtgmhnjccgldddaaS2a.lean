/-
  Two tables that grow side by side: the reference's l02Twist (layer 1).
-/
import Derived.Test.YtgmhnjccgldddaaI4
import Derived.Test.YtgmhnjccgldddaaS1c
import Derived.Test.YtgmhnjccgldddaaI3c
import Derived.Deep.AppendLies
import Derived.Deep.RegionHeld3
import Derived.Deep.RegionLaw
namespace Go.Proofs.Ytgmhnjccgldddaa
set_option linter.unusedVariables false
set_option linter.unusedSimpArgs false
open Go.RowKit

/-- The rows of a table hold integers, arrays of rows do not: a table stays as it was where only the array of another turns. -/
theorem rowvals_keepT {B B0 : Nat} {w w' : World} {us us' : List Value} {xss : List (List Int)} {v : Value} {n : Nat} (h : RowVals B w us xss) (hv : w.ownsRow B0 26 1 v n us') (k : Keep (fun b => v.ownBlock = some b) w w') : RowVals B w' us xss := by
  refine ⟨h.len, fun i hi hi' => ?_, h.apart⟩
  have h5 := h.own i hi hi'
  obtain ⟨hl, hn' | ⟨g, cap, cur, hv5, hbg, hg, r⟩⟩ := h5
  · exact ⟨hl, .inl hn'⟩
  · refine ⟨hl, .inr ⟨g, cap, cur, hv5, hbg, ?_, r⟩⟩
    rw [k.block g (Array.getElem?_eq_some_iff.1 hg).1 ?_]; exact hg
    intro e
    obtain ⟨_, hnn | ⟨g', cap', cur', hv', _, hg', _⟩⟩ := hv
    · rw [hnn.1] at e; cases e
    · rw [hv'] at e
      simp [Value.ownBlock] at e
      subst e
      rw [hg] at hg'
      simp at hg'
theorem OwnRows.keepT {B B0 : Nat} {w w' : World} {u v : Value} {xss yss : List (List Int)} (h : OwnRows B w u xss) (hv : OwnRows B0 w v yss) (hne : ∀ b, u.ownBlock = some b → v.ownBlock ≠ some b) (k : Keep (fun b => v.ownBlock = some b) w w') : OwnRows B w' u xss := by
  obtain ⟨us, h1, h2⟩ := h
  obtain ⟨us', h3, h4⟩ := hv
  refine ⟨us, ?_, rowvals_keepT h2 h3 k⟩
  obtain ⟨hl, h | ⟨g, cap, cur, hv, hb, hg, r⟩⟩ := h1
  · exact ⟨hl, .inl h⟩
  · exact ⟨hl, .inr ⟨g, cap, cur, hv, hb, by rw [k.block g (Array.getElem?_eq_some_iff.1 hg).1 (hne g (by rw [hv]; rfl))]; exact hg, r⟩⟩

theorem OwnRowsIn.keepT {B B0 hi : Nat} {w w' : World} {u v : Value} {xss yss : List (List Int)} (h : OwnRowsIn B hi w u xss) (hv : OwnRows B0 w v yss) (hne : ∀ b, u.ownBlock = some b → v.ownBlock ≠ some b) (k : Keep (fun b => v.ownBlock = some b) w w') : OwnRowsIn B hi w' u xss := by
  obtain ⟨us, h1, h2, e1, e2⟩ := h
  obtain ⟨us', h3, h4⟩ := hv
  refine ⟨us, ?_, rowvals_keepT h2 h3 k, e1, e2⟩
  obtain ⟨hl, h | ⟨g, cap, cur, hv, hb, hg, r⟩⟩ := h1
  · exact ⟨hl, .inl h⟩
  · exact ⟨hl, .inr ⟨g, cap, cur, hv, hb, by rw [k.block g (Array.getElem?_eq_some_iff.1 hg).1 (hne g (by rw [hv]; rfl))]; exact hg, r⟩⟩
theorem rowvals_snoc {B m : Nat} {w : World} {us : List Value} {xss : List (List Int)} (h : RowVals B w us xss) (hlt : ∀ i (h : i < us.length) k, us[i].ownBlock = some k → k < m) {u : Value} {xs : List Int} (hu : Own m w u xs) (hB : B ≤ m) :
    RowVals B w (us ++ [u]) (xss ++ [xs]) := by
  refine ⟨by simp [h.len], fun i hi hi' => ?_, ?_⟩
  · by_cases e : i < us.length
    · rw [List.getElem_append_left e, List.getElem_append_left (by rw [← h.len]; exact e)]
      exact h.own i e (by rw [← h.len]; exact e)
    · have e2 : i = us.length := by simp at hi; omega
      subst e2
      rw [List.getElem_append_right (Nat.le_refl _), List.getElem_append_right (by rw [h.len]; exact Nat.le_refl _)]
      simp only [h.len, Nat.sub_self, List.getElem_cons_zero]
      exact hu.mono hB
  · rw [List.pairwise_append]
    refine ⟨h.apart, by simp, fun x hx y hy => ?_⟩
    simp at hy; subst hy
    obtain ⟨i, hi, rfl⟩ := List.getElem_of_mem hx
    cases e : us[i].ownBlock with
    | none => exact .inl rfl
    | some b =>
      refine .inr fun e2 => ?_
      have h1 := hlt i hi b e
      have h2 := (hu.lt e2.symm).1
      omega

/-- 'append(s, u)' at an operation: the new array is the old one or a new block. -/
theorem wp_app_row2 {o : Oper} {a : Act} {K : Act → World → Prop} {Q : Exit → Act → World → Prop} (B m : Nat) (w : World) (v : Value) (xss : List (List Int)) (u : Value) (xs : List Int) (s x : Operand)
    (ho : o.op = .call { callee := .builtin .append, args := #[s, x], argTypes := #[22, 22] })
    (hs : a.eval s = v) (hown : OwnRowsIn B m w v xss) (hu : Own m w u xs) (hx : a.eval x = .slice (some ⟨w.heap.size, 0, none⟩) 1 1) (hn : xss.length ≤ 1099511627776) (hB : B ≤ m) (hB2 : B ≤ w.heap.size)
    (h : ∀ g c' w', OwnRows B w' (.slice (some ⟨g, 0, none⟩) (xss.length + 1) c') (xss ++ [xs]) → Keep (fun b => v.ownBlock = some b) w w' → (v.ownBlock = some g ∨ w.heap.size ≤ g) → K (a.put o.dst (.slice (some ⟨g, 0, none⟩) (xss.length + 1) c')) w') :
    o.wp Try.prog a (w.alloc (.cells #[u] 26)) K Q := by
  obtain ⟨us, h1, h2, _, hlt⟩ := hown
  have h2' := rowvals_snoc h2 hlt hu hB
  have hlen := h2.len
  obtain ⟨ua, uc, hu1, _⟩ := hu.shape
  obtain ⟨i0, hi, hz0, hz1, hz2⟩ := info_parts inf_ints
  refine wp_append_lies _ s x 22 ho B 26 i0 (.slice none 0 0) 1 24 Try.underlying22 hi hz0 hz1 hz2 rfl (by decide) v us.length us hs (h1.alloc _) ⟨w.heap.size, 0, none⟩ 1 1 [u] hx rfl ?_ ?_ (by decide) (by unfold maxLen; omega) (by omega) (by simp; omega) (w.heap.size + 1) (by simp) ?_
  · intro j u' hj
    match j, hj with
    | 0, hj => simp at hj; subst hj; simp [Addr.add]
  · intro u' hu'; simp at hu'; subst hu'; subst hu1; rfl
  · intro g cap w' h3 h4 h5 _
    have hk := Keep.of_grown h4
    have hk2 : Keep (fun b => v.ownBlock = some b) w w' := ((Keep.refl _ w).alloc _).trans hk
    rw [hlen] at h3 ⊢
    refine h g cap w' ⟨us ++ [u], by simpa [hlen] using h3, rowvals_keepT h2' h1 hk2⟩ hk2 (by rcases h5 with h5 | h5; exact .inl h5; exact .inr (by omega))

theorem wpList_app_row2 {ops : Array Oper} {rest : List Oper} {o : Oper} {a : Act} {Q : Exit → Act → World → Prop} (B m : Nat) (w : World) (v : Value) (xss : List (List Int)) (u : Value) (xs : List Int) (s x : Operand) (hgd : o.guard = none)
    (ho : o.op = .call { callee := .builtin .append, args := #[s, x], argTypes := #[22, 22] })
    (hs : a.eval s = v) (hown : OwnRowsIn B m w v xss) (hu : Own m w u xs) (hx : a.eval x = .slice (some ⟨w.heap.size, 0, none⟩) 1 1) (hn : xss.length ≤ 1099511627776) (hB : B ≤ m) (hB2 : B ≤ w.heap.size)
    (h : ∀ g c' w', OwnRows B w' (.slice (some ⟨g, 0, none⟩) (xss.length + 1) c') (xss ++ [xs]) → Keep (fun b => v.ownBlock = some b) w w' → (v.ownBlock = some g ∨ w.heap.size ≤ g) → wpList Try.prog ops Q rest (a.put o.dst (.slice (some ⟨g, 0, none⟩) (xss.length + 1) c')) w') :
    wpList Try.prog ops Q (o :: rest) a (w.alloc (.cells #[u] 26)) :=
  wpList_plain hgd fun _ hK => wp_app_row2 B m w v xss u xs s x ho hs hown hu hx hn hB hB2 fun g c' w' h2 h3 h4 => hK _ _ (h g c' w' h2 h3 h4)

theorem step_app_row2 {ops : Array Oper} {o : Oper} {a : Act} {K : Act → World → Prop} {Q : Exit → Act → World → Prop} {E : Prop} (B m : Nat) (w : World) (v : Value) (xss : List (List Int)) (u : Value) (xs : List Int) (s x : Operand) (hgd : o.guard = none)
    (ho : o.op = .call { callee := .builtin .append, args := #[s, x], argTypes := #[22, 22] })
    (hs : a.eval s = v) (hown : OwnRowsIn B m w v xss) (hu : Own m w u xs) (hx : a.eval x = .slice (some ⟨w.heap.size, 0, none⟩) 1 1) (hn : xss.length ≤ 1099511627776) (hB : B ≤ m) (hB2 : B ≤ w.heap.size)
    (h : ∀ g c' w', OwnRows B w' (.slice (some ⟨g, 0, none⟩) (xss.length + 1) c') (xss ++ [xs]) → Keep (fun b => v.ownBlock = some b) w w' → (v.ownBlock = some g ∨ w.heap.size ≤ g) → K (a.put o.dst (.slice (some ⟨g, 0, none⟩) (xss.length + 1) c')) w') :
    if Region.wanted o (yielded ops a.tmps) = true then Oper.wp Try.prog o a (w.alloc (.cells #[u] 26)) K Q else E := by
  have hw : Region.wanted o (yielded ops a.tmps) = true := by simp [Region.wanted, hgd]
  rw [if_pos hw]
  exact wp_app_row2 B m w v xss u xs s x ho hs hown hu hx hn hB hB2 h
end Go.Proofs.Ytgmhnjccgldddaa
