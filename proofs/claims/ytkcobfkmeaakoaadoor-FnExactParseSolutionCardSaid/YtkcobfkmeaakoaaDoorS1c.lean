/-
  What the reference's copy, compare, identity and the program's 'increasing' return (layer 1).
-/
import Derived.Test.YtkcobfkmeaakoaaDoorI1c
import Derived.Test.YtkcobfkmeaakoaaDoorP3
import Derived.Laws.AppendOwnNone
namespace Go.Proofs.YtkcobfkmeaakoaaDoor
set_option linter.unusedVariables false
set_option linter.unusedSimpArgs false
open Go.RowKit


theorem iota_snoc (k : Nat) : iota (k + 1) = iota k ++ [(k : Int)] := by simp [iota, List.range_succ]


/-- 'append(s, src...)', s a slice of integers of the call's own, src any slice of integers. -/
theorem wpList_app_ints {ops : Array Oper} {rest : List Oper} {o : Oper} {a : Act} {Q : Exit → Act → World → Prop} (B : Nat) (w : World) (v u : Value) (xs ys : List Int) (s x : Operand) (hgd : o.guard = none)
    (ho : o.op = .call { callee := .builtin .append, args := #[s, x], argTypes := #[37, 37] })
    (hs : a.eval s = v) (hown : Own B w v xs) (hx : a.eval x = u) (hu : Ints w u ys) (hn : xs.length + ys.length ≤ 1099511627776) (hbase : B ≤ w.heap.size)
    (h : ∀ a' c' w', Own B w' (.slice a' (xs.length + ys.length) c') (xs ++ ys) → Keep (fun b => v.ownBlock = some b) w w' → wpList Tryd.prog ops Q rest (a.put o.dst (.slice a' (xs.length + ys.length) c')) w') :
    wpList Tryd.prog ops Q (o :: rest) a w := by
  obtain ⟨i0, hi, hz0, hz1, hz2⟩ := info_parts inf_int64
  obtain ⟨ad, c, rfl, hc, hm, hcell⟩ := hu
  cases ad with
  | none =>
    have h0 : ys = [] := by
      cases ys with
      | nil => rfl
      | cons y ys => obtain ⟨b, o, e, _⟩ := hcell 0 (by simp); cases e
    subst h0
    obtain ⟨sa, sc, rfl, hsc⟩ := hown.shape
    have hr : (Builtin.append_ #[37, 37] o.type #[.slice sa xs.length sc, .slice none 0 c]).run Tryd.prog w = .ok (.slice sa xs.length sc) w := by
      rcases hown.2 with ⟨e, _⟩ | ⟨g, cap, cur, e, _, _, hnc, _⟩
      · simp [Builtin.append_, run_underlying Tryd.underlying37, sizeOf, typeInfo, hi, Builtin.lenOf, Builtin.firstCells, e]
      · simp [Builtin.append_, run_underlying Tryd.underlying37, sizeOf, typeInfo, hi, Builtin.lenOf, Builtin.firstCells, hnc, storeCells, e]
    refine wpList_plain hgd fun K hK => ?_
    unfold Oper.wp
    have hx' : a.eval x = .slice none 0 c := by simpa using hx
    simp [execOp, ho, resolve, invoke, builtin, hs, hx', hr, Result.andThen]
    exact hK _ _ (by simpa using h sa sc w (by simpa using hown) (Keep.refl _ _))
  | some ad =>
    refine wpList_append_own _ hgd s x 37 ho B 2 i0 (.int .i64 0) 1 8 Tryd.underlying37 hi hz0 hz1 hz2 rfl (by decide) v xs.length (xs.map (Value.int .i64)) hs hown ad ys.length c (ys.map (Value.int .i64)) hx (by simp) ?_ (by intro u hu; simp at hu; obtain ⟨z, _, rfl⟩ := hu; rfl) (by unfold maxLen; omega) (by omega) hbase ?_
    · intro j u hj
      have hjl : j < ys.length := by
        rcases Nat.lt_or_ge j ys.length with h | h
        · exact h
        · simp [List.getElem?_eq_none (show (ys.map (Value.int .i64)).length ≤ j by simpa using h)] at hj
      obtain ⟨b, o, e, hcl⟩ := hcell j hjl
      cases e
      rw [Go.WideShapes.add_plain, hcl]
      simp [List.getElem?_eq_getElem hjl] at hj
      rw [hj]
    · intro v' w' h1 h2 _
      have hO : Own B w' v' (xs ++ ys) := by simpa [Own] using h1
      obtain ⟨a', c', rfl, _⟩ := hO.shape
      rw [List.length_append] at hO ⊢
      exact h a' c' w' hO (Keep.of_grown h2)



end Go.Proofs.YtkcobfkmeaakoaaDoor
