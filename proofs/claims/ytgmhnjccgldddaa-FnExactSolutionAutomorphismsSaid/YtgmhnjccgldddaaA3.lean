/-
  append of a whole list of integers to a list of the call's own, as an operation and as a step of a drawn region.
-/
import Derived.Test.YtgmhnjccgldddaaA1
import Derived.Deep.RegionLaw
namespace Go.Proofs.Ytgmhnjccgldddaa
set_option linter.unusedVariables false
set_option linter.unusedSimpArgs false
open Go Go.RowKit

/-- 'append(s, src...)' at an operation, s of the call's own from m on. -/
theorem wp_app_intsM {o : Oper} {a : Act} {K : Act → World → Prop} {Q : Exit → Act → World → Prop} (m : Nat) (w : World) (v u : Value) (xs ys : List Int) (s x : Operand)
    (ho : o.op = .call { callee := .builtin .append, args := #[s, x], argTypes := #[26, 26] })
    (hs : a.eval s = v) (hown : Own m w v xs) (hx : a.eval x = u) (hu : Ints w u ys) (hn : xs.length + ys.length ≤ 1099511627776) (hm : m ≤ w.heap.size)
    (h : ∀ a' c' w', Own m w' (.slice a' (xs.length + ys.length) c') (xs ++ ys) → Keep (fun b => v.ownBlock = some b) w w' → K (a.put o.dst (.slice a' (xs.length + ys.length) c')) w') : o.wp Try.prog a w K Q := by
  obtain ⟨i0, hi, hz0, hz1, hz2⟩ := info_parts inf_int64
  obtain ⟨ad, c, rfl, hc, hmx, hcell⟩ := hu
  cases ad with
  | none =>
    have h0 : ys = [] := by
      cases ys with
      | nil => rfl
      | cons y ys => obtain ⟨b, o, e, _⟩ := hcell 0 (by simp); cases e
    subst h0
    obtain ⟨sa, sc, rfl, hsc⟩ := hown.shape
    have hr : (Builtin.append_ #[26, 26] o.type #[.slice sa xs.length sc, .slice none 0 c]).run Try.prog w = .ok (.slice sa xs.length sc) w := by
      rcases hown.2 with ⟨e, _⟩ | ⟨g, cap, cur, e, _, _, hnc, _⟩
      · simp [Builtin.append_, run_underlying Try.underlying26, sizeOf, typeInfo, hi, Builtin.lenOf, Builtin.firstCells, e]
      · simp [Builtin.append_, run_underlying Try.underlying26, sizeOf, typeInfo, hi, Builtin.lenOf, Builtin.firstCells, hnc, storeCells, e]
    unfold Oper.wp
    have hx' : a.eval x = .slice none 0 c := by simpa using hx
    simp [execOp, ho, resolve, invoke, builtin, hs, hx', hr, Result.andThen]
    show K (a.put o.dst (.slice sa xs.length sc)) w
    simpa using h sa sc w (by simpa using hown) (Keep.refl _ _)
  | some ad =>
    refine wp_append_own _ s x 26 ho m 2 i0 (.int .i64 0) 1 8 Try.underlying26 hi hz0 hz1 hz2 rfl (by decide) v xs.length (xs.map (Value.int .i64)) hs hown ad ys.length c (ys.map (Value.int .i64)) hx (by simp) ?_ (by intro u hu; simp at hu; obtain ⟨z, _, rfl⟩ := hu; rfl) (by unfold maxLen; omega) (by omega) hm ?_
    · intro j u hj
      have hjl : j < ys.length := by
        rcases Nat.lt_or_ge j ys.length with h | h
        · exact h
        · simp [List.getElem?_eq_none (show (ys.map (Value.int .i64)).length ≤ j by simpa using h)] at hj
      obtain ⟨b, o, e, hcl⟩ := hcell j hjl
      cases e
      rw [Go.WideShapes.add_plain, hcl]
      simp [List.getElem?_eq_getElem hjl] at hj
      rw [hj]
    · intro v' w' h1 h2 _
      have hO : Own m w' v' (xs ++ ys) := by simpa [Own] using h1
      obtain ⟨a', c', rfl, _⟩ := hO.shape
      rw [List.length_append] at hO ⊢
      exact h a' c' w' hO (Keep.of_grown h2)
theorem step_app_intsM {ops : Array Oper} {o : Oper} {a : Act} {K : Act → World → Prop} {Q : Exit → Act → World → Prop} {E : Prop} (m : Nat) (w : World) (v u : Value) (xs ys : List Int) (L : Nat) (hL : xs.length + ys.length = L) (s x : Operand) (hgd : o.guard = none)
    (ho : o.op = .call { callee := .builtin .append, args := #[s, x], argTypes := #[26, 26] })
    (hs : a.eval s = v) (hown : Own m w v xs) (hx : a.eval x = u) (hu : Ints w u ys) (hn : L ≤ 1099511627776) (hm : m ≤ w.heap.size)
    (h : ∀ a' c' w', Own m w' (.slice a' L c') (xs ++ ys) → Keep (fun b => v.ownBlock = some b) w w' → K (a.put o.dst (.slice a' L c')) w') :
    if Region.wanted o (yielded ops a.tmps) = true then Oper.wp Try.prog o a w K Q else E := by
  subst hL
  have hw : Region.wanted o (yielded ops a.tmps) = true := by simp [Region.wanted, hgd]
  rw [if_pos hw]
  exact wp_app_intsM m w v u xs ys s x ho hs hown hx hu hn hm h
theorem wpList_app_intsM {ops : Array Oper} {rest : List Oper} {o : Oper} {a : Act} {Q : Exit → Act → World → Prop} (m : Nat) (w : World) (v u : Value) (xs ys : List Int) (s x : Operand) (hgd : o.guard = none)
    (ho : o.op = .call { callee := .builtin .append, args := #[s, x], argTypes := #[26, 26] })
    (hs : a.eval s = v) (hown : Own m w v xs) (hx : a.eval x = u) (hu : Ints w u ys) (hn : xs.length + ys.length ≤ 1099511627776) (hm : m ≤ w.heap.size)
    (h : ∀ a' c' w', Own m w' (.slice a' (xs.length + ys.length) c') (xs ++ ys) → Keep (fun b => v.ownBlock = some b) w w' → wpList Try.prog ops Q rest (a.put o.dst (.slice a' (xs.length + ys.length) c')) w') :
    wpList Try.prog ops Q (o :: rest) a w :=
  wpList_plain hgd fun _ hK => wp_app_intsM m w v u xs ys s x ho hs hown hx hu hn hm fun a' c' w' h1 h2 => hK _ _ (h a' c' w' h1 h2)
end Go.Proofs.Ytgmhnjccgldddaa
