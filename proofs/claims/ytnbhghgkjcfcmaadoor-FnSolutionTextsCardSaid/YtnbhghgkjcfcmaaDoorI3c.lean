/-
  The reference's ways with tables: rows, columns, the turned table, the renamed table. Condition: a table (and a permutation of its elements).
-/
import Derived.Test.YtnbhghgkjcfcmaaDoorI3b
import Derived.Test.YtnbhghgkjcfcmaaDoorS1
namespace Go.Proofs.YtnbhghgkjcfcmaaDoor
set_option linter.unusedVariables false
set_option linter.unusedSimpArgs false
open Go.RowKit

/-- 'append(s, u)', s a table of the call's own, u a row made since. -/
theorem wpList_app_row {ops : Array Oper} {rest : List Oper} {o : Oper} {a : Act} {Q : Exit → Act → World → Prop} (B : Nat) (w0 w : World) (v : Value) (xss : List (List Int)) (u : Value) (xs : List Int) (s x : Operand) (hgd : o.guard = none)
    (ho : o.op = .call { callee := .builtin .append, args := #[s, x], argTypes := #[24, 24] })
    (hs : a.eval s = v) (hown : OwnRows B w0 v xss) (hb : Below w0.heap.size w0 w) (hu : Own w0.heap.size w u xs) (hx : a.eval x = .slice (some ⟨w.heap.size, 0, none⟩) 1 1) (hn : xss.length ≤ 1099511627776) (hB : B ≤ w0.heap.size)
    (h : ∀ a' c' w', OwnRows B w' (.slice a' (xss.length + 1) c') (xss ++ [xs]) → Keep (fun b => v.ownBlock = some b) w w' → wpList Tryd.prog ops Q rest (a.put o.dst (.slice a' (xss.length + 1) c')) w') :
    wpList Tryd.prog ops Q (o :: rest) a (w.alloc (.cells #[u] 32)) := by
  obtain ⟨us, h1, h2⟩ := hown
  have h1' := ownsRow_keep h1 (Keep.of_below hb) (fun b _ hlt => by omega)
  have h2' := h2.snoc hb hu hB
  have hlen := h2.len
  obtain ⟨ua, uc, hu1, _⟩ := hu.shape
  refine wpList_app w hgd s x 24 ho B 32 (.slice none 0 0) 24 Tryd.underlying24 inf_ints rfl (by decide) v us.length us hs h1' u (by subst hu1; rfl) hx (by omega) (Nat.le_trans hB hb.size) fun a' c' w' h3 h4 => ?_
  rw [hlen] at h3 ⊢
  refine h a' c' w' ⟨us ++ [u], by simpa [hlen] using h3, ?_⟩ h4
  refine ⟨h2'.len, fun i hi hi' => ?_, h2'.apart⟩
  have h5 := h2'.own i hi hi'
  obtain ⟨hl, hn' | ⟨g, cap, cur, hv, hbg, hg, r⟩⟩ := h5
  · exact ⟨hl, .inl hn'⟩
  · refine ⟨hl, .inr ⟨g, cap, cur, hv, hbg, ?_, r⟩⟩
    rw [h4.block g (Array.getElem?_eq_some_iff.1 hg).1 ?_]; exact hg
    intro e
    obtain ⟨_, hnn | ⟨g', cap', cur', hv', _, hg', _⟩⟩ := h1'
    · rw [hnn.1] at e; cases e
    · rw [hv'] at e
      simp [Value.ownBlock] at e
      subst e
      rw [hg] at hg'
      simp at hg'

theorem OwnRows.lt {B : Nat} {w : World} {v : Value} {xss : List (List Int)} (h : OwnRows B w v xss) {k : Nat} (hk : v.ownBlock = some k) : B ≤ k ∧ k < w.heap.size := by
  obtain ⟨us, h1, _⟩ := h
  exact World.ownsRow.lt h1 k hk
theorem OwnRows.frame {B B0 : Nat} {w0 w1 w w' : World} {v : Value} {xss : List (List Int)} (h : OwnRows B w1 v xss) (hb : Below B0 w0 w) (hB : B0 ≤ B) (hs : B0 ≤ w.heap.size) (hk : Keep (fun b => v.ownBlock = some b) w w') : Below B0 w0 w' :=
  hb.trans (hk.below fun k hk' => ⟨by omega, fun e => by have := (h.lt e).1; omega⟩)
theorem OwnRows.made0 {B : Nat} (w : World) (hB : B ≤ w.heap.size) : OwnRows B (w.alloc (.cells #[] 32)) (.slice (some ⟨w.heap.size, 0, none⟩) 0 0) [] :=
  ⟨[], ownsRow_blk (us := []) (heap_alloc_new w _) hB rfl rfl (by decide), RowVals.nil _ _⟩

/-- Are all rows permutations? -/
def permRows (t : List (List Int)) : Bool := t.all fun r => isPerm r


end Go.Proofs.YtnbhghgkjcfcmaaDoor
