/-
  A queue of integers: a slice of a block of the call's own that is cut at its front and grows at its end.
-/
import Derived.Test.YtkcobfkmeaakoaaBase
import Derived.ArgAppend
import Derived.Laws.Append
import Derived.Laws.AppendOwn
import Derived.Deep.AppendLies
namespace Go.Proofs.Ytkcobfkmeaakoaa
open Go.RowKit

/-- v is a slice over q; its block lies from B on. -/
def Que (B : Nat) (w : World) (v : Value) (q : List Int) : Prop :=
  ∃ (b : Nat) (pre post : List Value), v = .slice (some ⟨b, pre.length, none⟩) q.length (q.length + post.length) ∧ B ≤ b ∧ Blk w b 2 (pre ++ (q.map (Value.int .i64) ++ post))

theorem Que.under {B : Nat} {w w' : World} {v : Value} {q : List Int} (h : Que B w v q) (k : Below w.heap.size w w') : Que B w' v q := by
  obtain ⟨b, pre, post, h1, h2, h3⟩ := h
  exact ⟨b, pre, post, h1, h2, h3.under k⟩
theorem Que.other {B : Nat} {w : World} {v : Value} {q : List Int} (h : Que B w v q) {a : Addr} (ha : a.block < B) (u : Value) : Que B (w.setCell a u) v q := by
  obtain ⟨b, pre, post, h1, h2, h3⟩ := h
  exact ⟨b, pre, post, h1, h2, h3.other (by omega) u⟩
theorem Que.mono {B B' : Nat} {w : World} {v : Value} {q : List Int} (h : Que B w v q) (hB : B' ≤ B) : Que B' w v q := by
  obtain ⟨b, pre, post, h1, h2, h3⟩ := h
  exact ⟨b, pre, post, h1, by omega, h3⟩
theorem Que.new {w : World} {B : Nat} (y : Int) (hB : B ≤ w.heap.size) : Que B (w.alloc (.cells #[.int .i64 y] 2)) (.slice (some ⟨w.heap.size, 0, none⟩) 1 1) [y] :=
  ⟨w.heap.size, [], [], rfl, hB, Blk.new w [.int .i64 y] _⟩
theorem Que.front {B : Nat} {w : World} {v : Value} {y : Int} {q : List Int} (h : Que B w v (y :: q)) : ∃ b o c, v = .slice (some ⟨b, o, none⟩) (q.length + 1) c ∧ q.length + 1 ≤ c ∧ w.cell? ⟨b, o, none⟩ = some (.int .i64 y) := by
  obtain ⟨b, pre, post, h1, h2, h3⟩ := h
  refine ⟨b, pre.length, _, h1, by simp, ?_⟩
  rw [h3.cell (by simp), List.getElem_append_right (Nat.le_refl _)]
  simp
/-- The rest, behind 'q[1:]'. -/
theorem Que.cut {B : Nat} {w : World} {b o n c : Nat} {y : Int} {q : List Int} (h : Que B w (.slice (some ⟨b, o, none⟩) n c) (y :: q)) (hq : 0 < q.length) : Que B w (.slice (some ⟨b, o + 1, none⟩) (n - 1) (c - 1)) q := by
  obtain ⟨b', pre, post, h1, h2, h3⟩ := h
  cases h1
  refine ⟨b, pre ++ [.int .i64 y], post, ?_, h2, ?_⟩
  · simp <;> omega
  · simpa [List.append_assoc] using h3

set_option maxRecDepth 100000 in
theorem run_app_que {B : Nat} {w : World} {v : Value} {q : List Int} (ty : TypeId) (y : Int) (h : Que B w v q) (hn : q.length ≤ 1048576) (hB : B ≤ w.heap.size) (x : Nat) (hx : w.cell? ⟨x, 0, none⟩ = some (.int .i64 y)) :
    ∃ v' w', (Builtin.append_ #[25, 25] ty #[v, .slice (some ⟨x, 0, none⟩) 1 1]).run Try.prog w = .ok v' w' ∧ Que B w' v' (q ++ [y]) ∧ Below B w w' ∧ ∃ a c, v' = .slice a (q.length + 1) c := by
  obtain ⟨b, pre, post, rfl, h2, h3⟩ := h
  obtain ⟨i0, hi, hz0, hz1, hz2⟩ := info_parts inf_int64
  have hnews : ∀ j u, ([Value.int .i64 y])[j]? = some u → w.cell? (Addr.add ⟨x, 0, none⟩ j) = some u := by
    intro j u hj
    match j, hj with
    | 0, hj => simp at hj; subst hj; simpa [Addr.add] using hx
  by_cases hr : q.length + 1 ≤ q.length + post.length
  · obtain ⟨z, post', rfl⟩ : ∃ z post', post = z :: post' := by
      cases post with
      | nil => simp at hr; omega
      | cons z p => exact ⟨z, p, rfl⟩
    have hlt : pre.length + q.length < (pre ++ (q.map (Value.int .i64) ++ z :: post')).length := by simp
    have hrun := run_append_room_cells (P := Try.prog) (w := w) 25 ty 2 i0 Try.underlying25 hi b pre.length q.length (q.length + (z :: post').length) ⟨x, 0, none⟩ 1 1 [.int .i64 y] (by simp [hz1]) hnews (by intro u hu; simp at hu; subst hu; rfl) hr
      (by intro j hj; simp at hj; subst hj; rw [hz1]; simp only [Nat.mul_one, Nat.add_zero]; rw [h3.cell hlt]; rfl)
      (by intro j hj; exact h3.frozen _)
    rw [hz1] at hrun
    simp only [Nat.mul_one, World.setCells] at hrun
    refine ⟨_, _, hrun, ⟨b, pre, post', ?_, h2, ?_⟩, (Below.refl B w).setCell (p := ⟨b, pre.length + q.length, none⟩) h2 _, _, _, rfl⟩
    · simp; omega
    · have := h3.set (pre.length + q.length) (.int .i64 y)
      rw [List.set_append, if_neg (by omega), List.set_append, if_neg (by simp), show pre.length + q.length - pre.length - (q.map (Value.int .i64)).length = 0 from by simp] at this
      simpa [List.append_assoc] using this
  · have hg : q.length + post.length < q.length + 1 := by omega
    have hpost : post = [] := List.eq_nil_of_length_eq_zero (by omega)
    subst hpost
    have holds : ∀ j u, (q.map (Value.int .i64))[j]? = some u → w.cell? (Addr.add ⟨b, pre.length, none⟩ j) = some u := by
      intro j u hj
      obtain ⟨hj1, rfl⟩ := List.getElem?_eq_some_iff.1 hj
      have hj2 : j < q.length := by simpa using hj1
      have e : Addr.add ⟨b, pre.length, none⟩ j = ⟨b, pre.length + j, none⟩ := by simp [Addr.add]
      rw [e]
      rw [h3.cell (by simp; omega), List.getElem_append_right (by omega), List.getElem_append_left (by simpa using by omega)]
      simp
    have hrun := run_append_grow (P := Try.prog) w 25 ty 2 i0 (.int .i64 0) Try.underlying25 hi hz0 ⟨b, pre.length, none⟩ q.length (q.length + ([] : List Value).length) (q.map (Value.int .i64)) (by simp [hz1]) holds ⟨x, 0, none⟩ 1 1 [.int .i64 y] (by simp [hz1]) hnews hg (by omega) (growslice_fits hg (by rw [hz2]; omega))
    have hge := grownCap_ge w (q.length + 1) (q.length + ([] : List Value).length) 2
    refine ⟨_, _, hrun, ⟨w.heap.size, [], (Builtin.zeroCells (Value.int .i64 0).cells (grownCap w (q.length + 1) (q.length + ([] : List Value).length) 2 - (q.length + 1))).toList, ?_, hB, ?_⟩, ((Below.refl B w).drew).alloc hB _, _, _, rfl⟩
    · have hs : (Value.int .i64 0).cells.size = 1 := rfl
      have e : (q ++ [y]).length + (Builtin.zeroCells (Value.int .i64 0).cells (grownCap w (q.length + 1) (q.length + ([] : List Value).length) 2 - (q.length + 1))).toList.length = grownCap w (q.length + 1) (q.length + ([] : List Value).length) 2 := by
        have e0 : ∀ n, (Builtin.zeroCells (Value.int .i64 0).cells n).toList.length = n := fun n => (Array.length_toList).trans ((size_zeroCells _ n).trans (by rw [hs, Nat.mul_one]))
        rw [e0]
        simp only [List.length_append, List.length_cons, List.length_nil]
        simp only [List.length_nil] at hge
        omega
      rw [e]
      simp
    · unfold Blk
      rw [show w.heap.size = w.drew.heap.size from rfl, heap_alloc_new]
      congr 2
      apply Array.ext'
      simp

/-- 'append(q, y)' at the list of a plain region's operations. -/
theorem wpList_app_que {ops : Array Oper} {rest : List Oper} {o : Oper} {a : Act} {Q : Exit → Act → World → Prop} (B : Nat) (w : World) (v : Value) (q : List Int) (y : Int) (s x : Operand) (hgd : o.guard = none)
    (ho : o.op = .call { callee := .builtin .append, args := #[s, x], argTypes := #[25, 25] })
    (hs : a.eval s = v) (hq : Que B w v q) (hx : a.eval x = .slice (some ⟨w.heap.size, 0, none⟩) 1 1) (hn : q.length ≤ 1048576) (hB : B ≤ w.heap.size)
    (h : ∀ a' c' w', Que B w' (.slice a' (q.length + 1) c') (q ++ [y]) → Below B w w' → wpList Try.prog ops Q rest (a.put o.dst (.slice a' (q.length + 1) c')) w') :
    wpList Try.prog ops Q (o :: rest) a (w.alloc (.cells #[.int .i64 y] 2)) := by
  refine wpList_plain hgd fun K hK => ?_
  have hb0 := (Below.refl w.heap.size w).alloc (Nat.le_refl _) (Obj.cells #[.int .i64 y] 2)
  obtain ⟨v', w', hrun, h1, h2, a', c', rfl⟩ := run_app_que o.type y (hq.under hb0) hn (by simp; omega) w.heap.size ((Blk.new w [.int .i64 y] 2).cell (i := 0) (by simp))
  unfold Oper.wp execOp
  simp only [ho, resolve, invoke, builtin, Sem.run_bind, Sem.run_pure, Result.andThen_ok, List.map_toArray, List.map_cons, List.map_nil, hs, hx, hrun]
  exact hK _ _ (h a' c' w' h1 (((Below.refl B w).alloc hB _).trans h2))
end Go.Proofs.Ytkcobfkmeaakoaa
