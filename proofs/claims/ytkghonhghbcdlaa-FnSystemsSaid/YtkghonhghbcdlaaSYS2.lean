/-
  The walks behind the law FnSystems, joined into one text.
-/
import Derived.Test.YtkghonhghbcdlaaBase
import Derived.ArgAppend
import Derived.Laws.Append
import Derived.Laws.AppendOwn
import Derived.Deep.AppendLies
import Derived.Test.YtkghonhghbcdlaaI17
import Derived.Deep.LoopGhost
import Derived.Test.YtkghonhghbcdlaaSYS1
namespace Go.Proofs.Ytkghonhghbcdlaa
set_option linter.unusedVariables false
set_option linter.unusedSimpArgs false
open Go.RowKit

/-- v is a slice over q; its block lies from B on. -/
def Que (B : Nat) (w : World) (v : Value) (q : List Int) : Prop :=
  ∃ (b : Nat) (pre post : List Value), v = .slice (some ⟨b, pre.length, none⟩) q.length (q.length + post.length) ∧ B ≤ b ∧ Blk w b 2 (pre ++ (q.map (Value.int .i64) ++ post))

theorem Que.under {B : Nat} {w w' : World} {v : Value} {q : List Int} (h : Que B w v q) (k : Below w.heap.size w w') : Que B w' v q := by
  obtain ⟨b, pre, post, h1, h2, h3⟩ := h
  exact ⟨b, pre, post, h1, h2, h3.under k⟩
theorem Que.other {B : Nat} {w : World} {v : Value} {q : List Int} (h : Que B w v q) {a : Addr} (ha : a.block < B) (u : Value) : Que B (w.setCell a u) v q := by
  obtain ⟨b, pre, post, h1, h2, h3⟩ := h
  exact ⟨b, pre, post, h1, h2, h3.other (by omega) u⟩
theorem Que.mono {B B' : Nat} {w : World} {v : Value} {q : List Int} (h : Que B w v q) (hB : B' ≤ B) : Que B' w v q := by
  obtain ⟨b, pre, post, h1, h2, h3⟩ := h
  exact ⟨b, pre, post, h1, by omega, h3⟩
theorem Que.new {w : World} {B : Nat} (y : Int) (hB : B ≤ w.heap.size) : Que B (w.alloc (.cells #[.int .i64 y] 2)) (.slice (some ⟨w.heap.size, 0, none⟩) 1 1) [y] :=
  ⟨w.heap.size, [], [], rfl, hB, Blk.new w [.int .i64 y] _⟩
theorem Que.front {B : Nat} {w : World} {v : Value} {y : Int} {q : List Int} (h : Que B w v (y :: q)) : ∃ b o c, v = .slice (some ⟨b, o, none⟩) (q.length + 1) c ∧ q.length + 1 ≤ c ∧ w.cell? ⟨b, o, none⟩ = some (.int .i64 y) := by
  obtain ⟨b, pre, post, h1, h2, h3⟩ := h
  refine ⟨b, pre.length, _, h1, by simp, ?_⟩
  rw [h3.cell (by simp), List.getElem_append_right (Nat.le_refl _)]
  simp
/-- The rest, behind 'q[1:]'. -/
theorem Que.cut {B : Nat} {w : World} {b o n c : Nat} {y : Int} {q : List Int} (h : Que B w (.slice (some ⟨b, o, none⟩) n c) (y :: q)) (hq : 0 < q.length) : Que B w (.slice (some ⟨b, o + 1, none⟩) (n - 1) (c - 1)) q := by
  obtain ⟨b', pre, post, h1, h2, h3⟩ := h
  cases h1
  refine ⟨b, pre ++ [.int .i64 y], post, ?_, h2, ?_⟩
  · simp <;> omega
  · simpa [List.append_assoc] using h3

set_option maxRecDepth 100000 in
theorem run_app_que {B : Nat} {w : World} {v : Value} {q : List Int} (ty : TypeId) (y : Int) (h : Que B w v q) (hn : q.length ≤ 1048576) (hB : B ≤ w.heap.size) (x : Nat) (hx : w.cell? ⟨x, 0, none⟩ = some (.int .i64 y)) :
    ∃ v' w', (Builtin.append_ #[27, 27] ty #[v, .slice (some ⟨x, 0, none⟩) 1 1]).run Try.prog w = .ok v' w' ∧ Que B w' v' (q ++ [y]) ∧ Below B w w' ∧ ∃ a c, v' = .slice a (q.length + 1) c := by
  obtain ⟨b, pre, post, rfl, h2, h3⟩ := h
  obtain ⟨i0, hi, hz0, hz1, hz2⟩ := info_parts inf_int64
  have hnews : ∀ j u, ([Value.int .i64 y])[j]? = some u → w.cell? (Addr.add ⟨x, 0, none⟩ j) = some u := by
    intro j u hj
    match j, hj with
    | 0, hj => simp at hj; subst hj; simpa [Addr.add] using hx
  by_cases hr : q.length + 1 ≤ q.length + post.length
  · obtain ⟨z, post', rfl⟩ : ∃ z post', post = z :: post' := by
      cases post with
      | nil => simp at hr; omega
      | cons z p => exact ⟨z, p, rfl⟩
    have hlt : pre.length + q.length < (pre ++ (q.map (Value.int .i64) ++ z :: post')).length := by simp
    have hrun := run_append_room_cells (P := Try.prog) (w := w) 27 ty 2 i0 Try.underlying27 hi b pre.length q.length (q.length + (z :: post').length) ⟨x, 0, none⟩ 1 1 [.int .i64 y] (by simp [hz1]) hnews (by intro u hu; simp at hu; subst hu; rfl) hr
      (by intro j hj; simp at hj; subst hj; rw [hz1]; simp only [Nat.mul_one, Nat.add_zero]; rw [h3.cell hlt]; rfl)
      (by intro j hj; exact h3.frozen _)
    rw [hz1] at hrun
    simp only [Nat.mul_one, World.setCells] at hrun
    refine ⟨_, _, hrun, ⟨b, pre, post', ?_, h2, ?_⟩, (Below.refl B w).setCell (p := ⟨b, pre.length + q.length, none⟩) h2 _, _, _, rfl⟩
    · simp; omega
    · have := h3.set (pre.length + q.length) (.int .i64 y)
      rw [List.set_append, if_neg (by omega), List.set_append, if_neg (by simp), show pre.length + q.length - pre.length - (q.map (Value.int .i64)).length = 0 from by simp] at this
      simpa [List.append_assoc] using this
  · have hg : q.length + post.length < q.length + 1 := by omega
    have hpost : post = [] := List.eq_nil_of_length_eq_zero (by omega)
    subst hpost
    have holds : ∀ j u, (q.map (Value.int .i64))[j]? = some u → w.cell? (Addr.add ⟨b, pre.length, none⟩ j) = some u := by
      intro j u hj
      obtain ⟨hj1, rfl⟩ := List.getElem?_eq_some_iff.1 hj
      have hj2 : j < q.length := by simpa using hj1
      have e : Addr.add ⟨b, pre.length, none⟩ j = ⟨b, pre.length + j, none⟩ := by simp [Addr.add]
      rw [e]
      rw [h3.cell (by simp; omega), List.getElem_append_right (by omega), List.getElem_append_left (by simpa using by omega)]
      simp
    have hrun := run_append_grow (P := Try.prog) w 27 ty 2 i0 (.int .i64 0) Try.underlying27 hi hz0 ⟨b, pre.length, none⟩ q.length (q.length + ([] : List Value).length) (q.map (Value.int .i64)) (by simp [hz1]) holds ⟨x, 0, none⟩ 1 1 [.int .i64 y] (by simp [hz1]) hnews hg (by omega) (growslice_fits hg (by rw [hz2]; omega))
    have hge := grownCap_ge w (q.length + 1) (q.length + ([] : List Value).length) 2
    refine ⟨_, _, hrun, ⟨w.heap.size, [], (Builtin.zeroCells (Value.int .i64 0).cells (grownCap w (q.length + 1) (q.length + ([] : List Value).length) 2 - (q.length + 1))).toList, ?_, hB, ?_⟩, ((Below.refl B w).drew).alloc hB _, _, _, rfl⟩
    · have hs : (Value.int .i64 0).cells.size = 1 := rfl
      have e : (q ++ [y]).length + (Builtin.zeroCells (Value.int .i64 0).cells (grownCap w (q.length + 1) (q.length + ([] : List Value).length) 2 - (q.length + 1))).toList.length = grownCap w (q.length + 1) (q.length + ([] : List Value).length) 2 := by
        have e0 : ∀ n, (Builtin.zeroCells (Value.int .i64 0).cells n).toList.length = n := fun n => (Array.length_toList).trans ((size_zeroCells _ n).trans (by rw [hs, Nat.mul_one]))
        rw [e0]
        simp only [List.length_append, List.length_cons, List.length_nil]
        simp only [List.length_nil] at hge
        omega
      rw [e]
      simp
    · unfold Blk
      rw [show w.heap.size = w.drew.heap.size from rfl, heap_alloc_new]
      congr 2
      apply Array.ext'
      simp

/-- 'append(q, y)' at the list of a plain region's operations. -/
theorem wpList_app_que {ops : Array Oper} {rest : List Oper} {o : Oper} {a : Act} {Q : Exit → Act → World → Prop} (B : Nat) (w : World) (v : Value) (q : List Int) (y : Int) (s x : Operand) (hgd : o.guard = none)
    (ho : o.op = .call { callee := .builtin .append, args := #[s, x], argTypes := #[27, 27] })
    (hs : a.eval s = v) (hq : Que B w v q) (hx : a.eval x = .slice (some ⟨w.heap.size, 0, none⟩) 1 1) (hn : q.length ≤ 1048576) (hB : B ≤ w.heap.size)
    (h : ∀ a' c' w', Que B w' (.slice a' (q.length + 1) c') (q ++ [y]) → Below B w w' → wpList Try.prog ops Q rest (a.put o.dst (.slice a' (q.length + 1) c')) w') :
    wpList Try.prog ops Q (o :: rest) a (w.alloc (.cells #[.int .i64 y] 2)) := by
  refine wpList_plain hgd fun K hK => ?_
  have hb0 := (Below.refl w.heap.size w).alloc (Nat.le_refl _) (Obj.cells #[.int .i64 y] 2)
  obtain ⟨v', w', hrun, h1, h2, a', c', rfl⟩ := run_app_que o.type y (hq.under hb0) hn (by simp; omega) w.heap.size ((Blk.new w [.int .i64 y] 2).cell (i := 0) (by simp))
  unfold Oper.wp execOp
  simp only [ho, resolve, invoke, builtin, Sem.run_bind, Sem.run_pure, Result.andThen_ok, List.map_toArray, List.map_cons, List.map_nil, hs, hx, hrun]
  exact hK _ _ (h a' c' w' h1 (((Below.refl B w).alloc hB _).trans h2))
end Go.Proofs.Ytkghonhghbcdlaa

namespace Go.Proofs.Ytkghonhghbcdlaa
set_option linter.unusedVariables false
set_option linter.unusedSimpArgs false
open Go.RowKit

/-- What holds in the search from k: l0 the labels ahead of it, m its number, l the labels now, q the queue; i lists have been tried at the queue's head. -/
structure BI (L : List (List Int)) (n k : Nat) (l0 : List Int) (m : Int) (l q : List Int) (i : Nat) : Prop where
  len : l.length = n
  lab : ∀ y : Nat, y < n → nth l y = nth l0 y ∨ (nth l y = m ∧ Reach L k y)
  st : nth l k = m
  qin : ∀ y ∈ q, (0 ≤ y ∧ y < n) ∧ nth l y = m ∧ Reach L k y
  done : ∀ y : Nat, y < n → nth l y = m → Reach L k y → ¬ (y : Int) ∈ q → ∀ p ∈ L, 0 ≤ nth l (nth p y)
  part : ∀ j, j < i → 0 ≤ nth l (nth (row L j) (nth q 0))

def negs (l : List Int) : Nat := l.countP (fun x => decide (x < 0))
theorem negs_set {l : List Int} {x : Int} {m : Int} (h0 : 0 ≤ x) (h1 : x < l.length) (hx : nth l x < 0) (hm : 0 ≤ m) : negs (l.set x.toNat m) + 1 = negs l := by
  have hlt : x.toNat < l.length := by omega
  have hx' : l[x.toNat] < 0 := by simpa [nth, hlt] using hx
  have hpos : 0 < l.countP (fun x => decide (x < 0)) := List.countP_pos_iff.2 ⟨l[x.toNat], List.getElem_mem hlt, by simpa using hx'⟩
  unfold negs
  rw [List.countP_set hlt]
  simp only [hx', decide_true, if_true, show ¬ m < 0 from by omega, decide_false, Bool.false_eq_true, if_false]
  omega

section
variable {L : List (List Int)} {n k : Nat} {l0 l q : List Int} {m : Int} {i : Nat}
theorem BI.start (hl : l0.length = n) (hk : k < n) (hm : 0 ≤ m) (hne : ∀ y : Nat, y < n → nth l0 y < m) : BI L n k l0 m (l0.set k m) [(k : Int)] 0 := by
  have hs : ∀ y : Nat, y < n → nth (l0.set k m) y = if y = k then m else nth l0 y := fun y hy => by
    have := nth_set l0 (k : Int) (y : Int) m (by omega) (by omega) (by omega)
    simp only [Int.toNat_natCast] at this
    rw [this]
    by_cases e : y = k
    · rw [if_pos (by omega), if_pos e]
    · rw [if_neg (by omega), if_neg e]
  refine ⟨by simpa using hl, fun y hy => ?_, by rw [hs k hk, if_pos rfl], ?_, ?_, by intro j hj; omega⟩
  · rw [hs y hy]
    by_cases e : y = k
    · subst e; exact .inr ⟨if_pos rfl, .here⟩
    · exact .inl (if_neg e)
  · intro y hy
    simp at hy; subst hy
    exact ⟨⟨by omega, by omega⟩, by rw [hs k hk, if_pos rfl], .here⟩
  · intro y hy hv hr hnq
    rw [hs y hy, if_neg (by intro e; subst e; simp at hnq)] at hv
    have := hne y hy
    omega
theorem BI.skip (h : BI L n k l0 m l q i) (hx : 0 ≤ nth l (nth (row L i) (nth q 0))) : BI L n k l0 m l q (i + 1) :=
  ⟨h.len, h.lab, h.st, h.qin, h.done, fun j hj => by
    by_cases e : j = i
    · subst e; exact hx
    · exact h.part j (by omega)⟩
theorem BI.push (h : BI L n k l0 m l q i) (hs : SysOk n L) (hi : i < L.length) (hq : 0 < q.length) (hm : 0 ≤ m) (hx : nth l (nth (row L i) (nth q 0)) < 0) :
    BI L n k l0 m (l.set (nth (row L i) (nth q 0)).toNat m) (q ++ [nth (row L i) (nth q 0)]) (i + 1) := by
  have hmem := row_mem (t := L) (x := i) (by omega) (by omega)
  obtain ⟨⟨hy0, hy1⟩, hyl, hyr⟩ := h.qin _ (nth_mem (p := q) (x := 0) (by omega) (by omega))
  obtain ⟨hpp, hpl⟩ := hs _ hmem
  have hxr := hpp.lt hy0 (by rw [hpl]; exact hy1)
  rw [hpl] at hxr
  have hxR : Reach L k (nth (row L i) (nth q 0)) := hyr.step hmem
  have hq0 : nth (q ++ [nth (row L i) (nth q 0)]) 0 = nth q 0 := nth_append_left _ _ _ (by omega) (by omega)
  obtain ⟨x, hxe⟩ : ∃ x, nth (row L i) (nth q 0) = x := ⟨_, rfl⟩
  have hss : ∀ y : Int, 0 ≤ y → nth (l.set x.toNat m) y = if y = x then m else nth l y := fun y hy => nth_set _ _ _ _ (by rw [← hxe]; exact hxr.1) (by rw [h.len, ← hxe]; exact hxr.2) hy
  have hmono : ∀ y : Int, 0 ≤ y → 0 ≤ nth l y → 0 ≤ nth (l.set x.toNat m) y := fun y hy h0 => by
    rw [hss y hy]; split <;> omega
  rw [hxe] at hx hxr hxR hq0
  rw [hxe]
  refine ⟨by simpa using h.len, fun y hy => ?_, ?_, ?_, ?_, ?_⟩
  · rw [hss y (by omega)]
    by_cases e : (y : Int) = x
    · rw [if_pos e]; exact .inr ⟨rfl, by rw [e]; exact hxR⟩
    · rw [if_neg e]; exact h.lab y hy
  · rw [hss k (by omega)]
    split
    · rfl
    · exact h.st
  · intro y hy
    rcases List.mem_append.1 hy with hy | hy
    · obtain ⟨h1, h2, h3⟩ := h.qin y hy
      refine ⟨h1, ?_, h3⟩
      rw [hss y h1.1]
      split
      · rfl
      · exact h2
    · simp at hy; subst hy
      exact ⟨hxr, by rw [hss _ hxr.1, if_pos rfl], hxR⟩
  · intro y hy hv hr hnq p hp
    have hpy : 0 ≤ nth p y := by
      obtain ⟨h1, h2⟩ := hs p hp
      exact (h1.lt (x := y) (by omega) (by omega)).1
    have hne : ¬ (y : Int) = x := fun e => hnq (List.mem_append.2 (.inr (by simp [e])))
    rw [hss y (by omega), if_neg hne] at hv
    exact hmono _ hpy (h.done y hy hv hr (fun h => hnq (List.mem_append.2 (.inl h))) p hp)
  · intro j hj
    rw [hq0]
    by_cases e : j = i
    · subst e
      rw [hxe, hss x hxr.1, if_pos rfl]
      exact hm
    · have hpj : 0 ≤ nth (row L j) (nth q 0) := by
        obtain ⟨h1, h2⟩ := hs _ (row_mem (t := L) (x := j) (by omega) (by omega))
        exact (h1.lt hy0 (by omega)).1
      exact hmono _ hpj (h.part j (by omega))
theorem BI.pop {y : Int} {q' : List Int} (h : BI L n k l0 m l (y :: q') L.length) : BI L n k l0 m l q' 0 := by
  refine ⟨h.len, h.lab, h.st, fun z hz => h.qin z (List.mem_cons_of_mem _ hz), ?_, by intro j hj; omega⟩
  intro z hz hv hr hnq p hp
  by_cases e : (z : Int) = y
  · obtain ⟨j, hj, rfl⟩ := List.getElem_of_mem hp
    have := h.part j hj
    rw [row_nat _ _ hj] at this
    rw [e]
    exact this
  · exact h.done z hz hv hr (by intro h2; rcases List.mem_cons.1 h2 with h2 | h2; exact e h2; exact hnq h2) p hp
end
theorem BI.last {L : List (List Int)} {n k : Nat} {l : List Int} {i : Nat} (h : BI L n k (labs L n k).1 (labs L n k).2 l [] i) (hs : SysOk n L) (hk : k < n) (hf : nth (labs L n k).1 k < 0) : labs L n (k + 1) = (l, (labs L n k).2 + 1) := by
  have hm := (labs_next L n k).1
  refine labs_new hf h.len fun y hy => ?_
  by_cases hr : Reach L k y
  · rw [if_pos hr]
    have : nth l y = (labs L n k).2 := by
      refine reach_closed (n := n) hs (S := fun z => Reach L k z ∧ nth l z = (labs L n k).2) hr (by omega) (by omega) ⟨.here, h.st⟩ ?_ |>.2
      rintro z hz0 hz1 ⟨hzr, hzv⟩ p hp
      obtain ⟨z', rfl⟩ : ∃ z' : Nat, z = z' := ⟨z.toNat, by omega⟩
      have hge := h.done z' (by omega) hzv hzr (by simp) p hp
      have hpr := hzr.step hp
      obtain ⟨hp0, hp1⟩ := hpr.range hs (by omega) (by omega)
      obtain ⟨u, hu⟩ : ∃ u : Nat, nth p z' = u := ⟨(nth p z').toNat, by omega⟩
      rw [hu] at hge hpr hp1 ⊢
      refine ⟨hpr, ?_⟩
      rcases h.lab u (by omega) with h1 | h1
      · have := labs_fresh hs hk (by omega) hf hpr
        omega
      · exact h1.1
    exact this
  · rw [if_neg hr]
    rcases h.lab y hy with h1 | h1
    · exact h1
    · exact absurd h1.2 hr

theorem BI.pop' {L : List (List Int)} {n k : Nat} {l0 l q : List Int} {m : Int} (h : BI L n k l0 m l q L.length) (hq : 0 < q.length) : BI L n k l0 m l q.tail 0 := by
  cases q with
  | nil => simp at hq
  | cons y q' => exact h.pop
theorem Que.front' {B : Nat} {w : World} {a : Option Addr} {n c : Nat} {q : List Int} (h : Que B w (.slice a n c) q) (hq : 0 < q.length) : ∃ b o, a = some ⟨b, o, none⟩ ∧ q.length ≤ c ∧ w.cell? ⟨b, o, none⟩ = some (.int .i64 (nth q 0)) := by
  cases q with
  | nil => simp at hq
  | cons y q' =>
    obtain ⟨b, o, c', hv, h1, h2⟩ := h.front
    cases hv
    exact ⟨b, o, rfl, h1, by simpa [nth] using h2⟩
theorem Que.cut' {B : Nat} {w : World} {b o n c : Nat} {q : List Int} (h : Que B w (.slice (some ⟨b, o, none⟩) n c) q) (hq : 1 < q.length) : Que B w (.slice (some ⟨b, o + 1, none⟩) (n - 1) (c - 1)) q.tail := by
  cases q with
  | nil => simp at hq
  | cons y q' => exact h.cut (by simpa using hq)
theorem labs_zero_of {n : Nat} {L : List (List Int)} {l : List Int} (hl : l.length = n) (h : ∀ y : Nat, y < n → nth l y = -1) : l = (labs L n 0).1 := by
  refine ext_nth (by simp [labs, hl]) fun y hy => ?_
  rw [h y (by omega)]
  simp only [labs]
  rw [nth_nat _ _ (by simpa [hl] using hy)]
  simp
theorem negs_le (l : List Int) : negs l ≤ l.length := List.countP_le_length

set_option maxRecDepth 100000 in
set_option maxHeartbeats 3200000 in
theorem c_orbitLabels (n : Nat) (v : Value) (L : List (List Int)) (w : World) (hx : Rows w v L) (hn0 : 1 ≤ n) (hn : n ≤ 12) (hL : L.length ≤ 16) (hs : SysOk n L) :
    Calls Try.prog 75 #[.int .i64 n, v] w (RInts w (orbL L n)) := by
  obtain ⟨a, c, rfl, hc, hm⟩ := hx.shape
  have HS := Lib.hid hs; clear hs
  have hmk := run_make_row' (P := Try.prog) 27 2 (.int .i64 0) 8 Try.underlying27 inf_int64 rfl .i64 .i64 n (by omega) (by omega)
  have hb0 : Hid (Below w.heap.size w (w.alloc (.cells (madeCells #[.int .i64 0] n) 2))) := Lib.hid ((Below.refl _ _).alloc (Nat.le_refl _) _)
  have hk0 : Hid (Blk (w.alloc (.cells (madeCells #[.int .i64 0] n) 2)) w.heap.size 2 ((List.replicate n (0 : Int)).map (Value.int .i64) ++ [])) := by
    have := Blk.made w (.int .i64 0) n 2
    show Blk _ _ _ _
    simpa using this
  go_enter Try.func75, Try.ntmps75
  go_wp2
  clear hmk
  go_loopw [6, 17] (fun _ i wr => ∃ (k : Nat) (l : List Int), k ≤ n ∧ i = .int .i64 k ∧ Hid (l.length = n) ∧ Hid (∀ y : Nat, y < k → nth l y = -1) ∧ Hid (Below w.heap.size w wr) ∧ Hid (Blk wr w.heap.size 2 (l.map (Value.int .i64) ++ []))) (fun _ i _ => n - (intOf i).toNat)
  case atStart => exact ⟨0, _, Nat.zero_le _, rfl, Lib.hid (by simp), Lib.hid (by intro y hy; omega), hb0, hk0⟩
  case round =>
    clear hb0 hk0
    obtain ⟨k, l, hk, rfl, HL, HY, HB, HBk⟩ := hrel
    by_cases hlt : k < n
    · have c1 := HBk.out.labN k (by rw [HL.out]; exact hlt)
      have c2 := HBk.out.frozen k
      have hset := HBk.out.labSet (k : Int) (by omega) (by rw [HL.out]; omega) (-1)
      have hset2 : Hid (Blk (wr.setCell ⟨w.heap.size, k, none⟩ (.int .i64 (-1))) w.heap.size 2 ((l.set k (-1)).map (Value.int .i64) ++ [])) := hset
      clear hset
      go_wp2
      go_roundw
      case rel =>
        refine ⟨k + 1, _, by omega, by go_num, Lib.hid (by simpa using HL.out), Lib.hid ?_, Lib.hid (HB.out.setCell (p := ⟨w.heap.size, k, none⟩) (Nat.le_refl _) _), hset2⟩
        intro y hy
        have := nth_set l (k : Int) (y : Int) (-1) (by omega) (by rw [HL.out]; omega) (by omega)
        simp only [Int.toNat_natCast] at this
        rw [this]
        by_cases e : y = k
        · rw [if_pos (by omega)]
        · rw [if_neg (by omega)]; exact HY.out y (by omega)
      case measure => simp [intOf]; omega
    · obtain rfl : k = n := by omega
      have hl0 := labs_zero_of (L := L) HL.out HY.out
      subst hl0
      obtain ⟨wo, rfl⟩ : ∃ wo : World, wo = wr := ⟨_, rfl⟩
      clear HL HY hlt hk
      have HSz := Lib.hid HBk.out.lt
      obtain ⟨g, HG⟩ : ∃ g, Hid (g = w.heap.size) := ⟨_, rfl⟩
      rw [← HG.out] at HBk HSz ⊢
      go_wp2
      go_loopw [7, 8, 9, 11, 12, 26] (fun m _ _ _ _ x wr => ∃ (j : Nat), j ≤ k ∧ x = .int .i64 j ∧ m = .int .i64 (labs L k j).2 ∧ Hid (Below w.heap.size w wr) ∧ Hid (Blk wr g 2 ((labs L k j).1.map (Value.int .i64) ++ []))) (fun _ _ _ _ _ x _ => k - (intOf x).toNat)
      case atStart => exact ⟨0, Nat.zero_le _, rfl, rfl, HB, HBk⟩
      case round =>
        clear HB HBk HSz
        obtain ⟨j, hj, rfl, rfl, HB, HBk⟩ := hrel
        obtain ⟨wo, rfl⟩ : ∃ wo : World, wo = wr := ⟨_, rfl⟩
        by_cases hlt : j < k
        · have hll := labs_length L k j
          have c1 := HBk.out.labN j (by omega)
          have c2 := HBk.out.frozen j
          have hnx := labs_next L k j
          have hfr := fun (y : Nat) (hy : y < k) => (labs_range L k j y hy).2
          obtain ⟨m, hm'⟩ : ∃ m, (labs L k j).2 = m := ⟨_, rfl⟩
          obtain ⟨l, hl'⟩ : ∃ l, (labs L k j).1 = l := ⟨_, rfl⟩
          rw [hl'] at c1 HBk hll
          rw [hm'] at hnx
          rw [hl', hm'] at hfr
          have HLb : Hid (labs L k j = (l, m)) := by show _ = _; rw [← hl', ← hm']
          rw [hm']
          obtain ⟨hm0, hm1⟩ := hnx
          by_cases hf : nth l j < 0
          · have HF := Lib.hid hf
            have hset : Hid (Blk (wo.setCell ⟨g, j, none⟩ (.int .i64 m)) g 2 ((l.set j m).map (Value.int .i64) ++ [])) := HBk.out.labSet (j : Int) (by omega) (by rw [hll]; omega) m
            have HStart := Lib.hid (BI.start (L := L) (k := j) hll hlt hm0 hfr)
            have HLL := Lib.hid hll
            have HBg : Hid (Below w.heap.size w (wo.setCell ⟨g, j, none⟩ (.int .i64 m))) := Lib.hid (HB.out.setCell (p := ⟨g, j, none⟩) (by rw [HG.out]; exact Nat.le_refl _) _)
            have HLt := Lib.hid HBk.out.lt
            have hng := negs_le (l.set j m)
            rw [List.length_set, hll] at hng
            have HNg := Lib.hid hng
            clear hm' hl' hll hfr hng
            go_wp2
            go_loopg [9, 11, 12] (negs (l.set j m) + 1) (fun gn s _ _ wr => ∃ (l2 q : List Int) (qa : Option Addr) (qc : Nat), s = .slice qa q.length qc ∧ Hid (negs l2 + q.length = gn ∧ gn ≤ 13) ∧ Hid (Below w.heap.size w wr ∧ wo.heap.size ≤ wr.heap.size) ∧ Hid (Blk wr g 2 (l2.map (Value.int .i64) ++ [])) ∧ Hid (BI L k j l m l2 q 0) ∧ Hid (0 < q.length → Que wo.heap.size wr (.slice qa q.length qc) q))
            case atStart =>
              have hq := Que.new (w := wo.setCell ⟨g, j, none⟩ (.int .i64 m)) (B := wo.heap.size) (j : Int) (by simp [World.setCell])
              have e : (wo.setCell ⟨g, j, none⟩ (.int .i64 m)).heap.size = wo.heap.size := by simp [World.setCell]
              refine ⟨l.set j m, [(j : Int)], _, _, rfl, Lib.hid ⟨rfl, by have := HNg.out; omega⟩, Lib.hid ⟨HBg.out.alloc HBg.out.size _, by simp [World.setCell]⟩, Lib.hid (hset.out.alloc _), HStart, Lib.hid fun _ => ?_⟩
              rw [e] at hq
              exact hq
            case round =>
              clear hset HStart HBg HBk HB c1 c2 HLL HNg hf
              obtain ⟨l2, q, qa, qc, rfl, HN, HB, HBk, HI, HQ⟩ := hrel
              obtain ⟨wp, rfl⟩ : ∃ wp : World, wp = wr := ⟨_, rfl⟩
              by_cases hq : 0 < q.length
              · have hq1 : (1 : Int) ≤ q.length := by omega
                have hq0 : (0 : Int) < q.length := by omega
                go_wp2
                go_loopw [9, 11, 12, 47] (fun s _ _ x wr => ∃ (i : Nat) (l2 q : List Int) (qa : Option Addr) (qc : Nat), i ≤ L.length ∧ 0 < q.length ∧ x = .int .i64 i ∧ s = .slice qa q.length qc ∧ Hid (negs l2 + q.length = gk ∧ gk ≤ 13) ∧ Hid (Below w.heap.size w wr ∧ wo.heap.size ≤ wr.heap.size) ∧ Hid (Blk wr g 2 (l2.map (Value.int .i64) ++ [])) ∧ Hid (BI L k j l m l2 q i) ∧ Hid (Que wo.heap.size wr (.slice qa q.length qc) q)) (fun _ _ _ x _ => L.length - (intOf x).toNat)
                case atStart => exact ⟨0, l2, q, qa, qc, Nat.zero_le _, hq, rfl, rfl, HN, HB, HBk, HI, Lib.hid (HQ.out hq)⟩
                case round =>
                  clear HN HB HBk HI HQ hq hq1 hq0
                  obtain ⟨i, l2, q, qa, qc, hi, hq, rfl, rfl, HN, HB, HBk, HI, HQ⟩ := hrel
                  obtain ⟨wz, rfl⟩ : ∃ wz : World, wz = wr := ⟨_, rfl⟩
                  have hq1 : (1 : Int) ≤ q.length := by omega
                  have hq0 : (0 : Int) < q.length := by omega
                  obtain ⟨qb, qo, rfl, hqc, d1⟩ := HQ.out.front' hq
                  by_cases hil : i < L.length
                  · have hmem := row_mem (t := L) (x := i) (by omega) (by omega)
                    obtain ⟨⟨hy0, hy1⟩, hyl, hyr⟩ := HI.out.qin _ (nth_mem (p := q) (x := 0) (by omega) (by omega))
                    obtain ⟨hpp, hpl⟩ := HS.out _ hmem
                    obtain ⟨hz0, hz1⟩ := hpp.lt hy0 (by rw [hpl]; exact hy1)
                    rw [hpl] at hz1
                    obtain ⟨b, o, ra, rc, rfl, d2, hr⟩ := (hx.below HB.out.1).getS i hil
                    have hy2 : nth q 0 < (row L i).length := by omega
                    obtain ⟨b2, o2, rfl, d3⟩ := hr.geti (nth q 0) hy0 hy2
                    have hl2 := HI.out.len
                    have d4 := HBk.out.lab (nth (row L i) (nth q 0)) hz0 (by rw [hl2]; exact hz1)
                    have d5 := HBk.out.frozen (nth (row L i) (nth q 0)).toNat
                    have HL2 := Lib.hid hl2
                    clear hl2 hyl hyr hpp hpl hmem hr
                    by_cases hneg : nth l2 (nth (row L i) (nth q 0)) < 0
                    · have HNeg := Lib.hid hneg
                      have hset : Hid (Blk (wz.setCell ⟨g, (nth (row L i) (nth q 0)).toNat, none⟩ (.int .i64 m)) g 2 ((l2.set (nth (row L i) (nth q 0)).toNat m).map (Value.int .i64) ++ [])) := HBk.out.labSet _ hz0 (by rw [HL2.out]; exact hz1) m
                      have HQ2 := Lib.hid (HQ.out.other (a := ⟨g, (nth (row L i) (nth q 0)).toNat, none⟩) HLt.out (.int .i64 m))
                      have HQl : Hid (q.length ≤ 1048576) := by have := HN.out; show _ ≤ _; omega
                      have HSz : Hid (wo.heap.size ≤ (wz.setCell ⟨g, (nth (row L i) (nth q 0)).toNat, none⟩ (.int .i64 m)).heap.size) := by show _ ≤ _; simpa [World.setCell] using HB.out.2
                      have HBs := Lib.hid (HB.out.1.setCell (p := ⟨g, (nth (row L i) (nth q 0)).toNat, none⟩) (by rw [HG.out]; exact Nat.le_refl _) (.int .i64 m))
                      go_wp2_with (at_builtin; go_must (refine wpList_app_que wo.heap.size _ _ q (nth (row L i) (nth q 0)) _ _ rfl rfl rfl HQ2.out (by simp [Act.eval, World.setCell]) HQl.out HSz.out ?_); intro a' c' w' hq' hbl'; have HQ' := Lib.hid hq'; have HB' := Lib.hid hbl'; clear hq' hbl')
                      go_roundw
                      case rel =>
                        have hng := negs_set hz0 (by rw [HL2.out]; exact hz1) HNeg.out hm0
                        refine ⟨i + 1, l2.set (nth (row L i) (nth q 0)).toNat m, q ++ [nth (row L i) (nth q 0)], a', c', by omega, by simp, by go_num, by simp, Lib.hid ?_, Lib.hid ⟨?_, ?_⟩, Lib.hid (hset.out.below HB'.out HLt.out), Lib.hid (HI.out.push HS.out hil hq hm0 HNeg.out), Lib.hid (by have := HQ'.out; simpa using this)⟩
                        · have := HN.out; simp only [List.length_append, List.length_cons, List.length_nil]; omega
                        · refine HBs.out.trans (HB'.out.mono ?_)
                          have := HG.out; have := HLt.out; omega
                        · exact Nat.le_trans HSz.out HB'.out.size
                      case measure => simp [intOf]; omega
                    · have HNeg := Lib.hid hneg
                      go_wp2
                      go_roundw
                      case rel => exact ⟨i + 1, l2, q, _, qc, by omega, hq, by go_num, rfl, HN, HB, HBk, Lib.hid (HI.out.skip (by have := HNeg.out; omega)), HQ⟩
                      case measure => simp [intOf]; omega
                  · obtain rfl : i = L.length := by omega
                    by_cases h1 : q.length = 1
                    · have hqt : q.tail = [] := List.eq_nil_of_length_eq_zero (by simp; omega)
                      by_cases hc1 : qc = 1
                      · have HH1 := Lib.hid h1; have HH2 := Lib.hid hqt; have HH3 := Lib.hid hc1; clear h1 hqt
                        go_wp2
                        go_roundg (gk - 1)
                        case measure => have := HN.out; omega
                        case rel => exact ⟨l2, q.tail, some ⟨qb, qo, none⟩, qc - 1, by simp [hc1], Lib.hid (by have := HN.out; simp; omega), HB, HBk, Lib.hid (HI.out.pop' hq), Lib.hid fun h => by rw [HH2.out] at h; simp at h⟩
                      · have HH1 := Lib.hid h1; have HH2 := Lib.hid hqt; clear h1 hqt
                        go_wp2
                        go_roundg (gk - 1)
                        case measure => have := HN.out; omega
                        case rel => exact ⟨l2, q.tail, some ⟨qb, qo + 1, none⟩, qc - 1, by simp, Lib.hid (by have := HN.out; simp; omega), HB, HBk, Lib.hid (HI.out.pop' hq), Lib.hid fun h => by rw [HH2.out] at h; simp at h⟩
                    · have hc1 : ¬ qc = 1 := by omega
                      have HQt := Lib.hid (HQ.out.cut' (by omega))
                      have HH1 := Lib.hid h1; clear h1
                      go_wp2
                      go_roundg (gk - 1)
                      case measure => have := HN.out; omega
                      case rel =>
                        refine ⟨l2, q.tail, some ⟨qb, qo + 1, none⟩, qc - 1, by simp, Lib.hid ?_, HB, HBk, Lib.hid (HI.out.pop' hq), Lib.hid fun _ => ?_⟩
                        · have := HN.out; simp; omega
                        · have := HQt.out; simpa using this
              · obtain rfl : q = [] := List.eq_nil_of_length_eq_zero (by omega)
                have hlb : (labs L k j).1 = l := by rw [HLb.out]
                have hlm : (labs L k j).2 = m := by rw [HLb.out]
                have hb := HI.out
                rw [← hlb, ← hlm] at hb
                have hnew := hb.last HS.out hlt (by rw [hlb]; exact HF.out)
                rw [hlm] at hnew
                have HNew := Lib.hid hnew
                clear hb hlb hlm hnew
                go_wp2
                go_roundw
                case rel => exact ⟨j + 1, by omega, by go_num, by rw [HNew.out], Lib.hid HB.out.1, Lib.hid (by rw [HNew.out]; exact HBk.out)⟩
                case measure => simp [intOf]; omega
          · have HF := Lib.hid hf
            clear hm' hl' hll hfr
            go_wp2
            go_roundw
            case rel =>
              have e : labs L k (j + 1) = labs L k j := labs_old (by rw [HLb.out]; have := HF.out; omega)
              exact ⟨j + 1, by omega, by go_num, by rw [e, HLb.out], HB, by rw [e, HLb.out]; assumption⟩
            case measure => simp [intOf]; omega
        · obtain rfl : j = k := by omega
          go_wp2
          go_ret
          exact ⟨_, rfl, Own.shut HBk.out (by rw [HG.out]; exact Nat.le_refl _) (by rw [labs_length]; simp [maxLen]; omega) (by rw [labs_length]) (by rw [labs_length]; simp), HB.out⟩
end Go.Proofs.Ytkghonhghbcdlaa

namespace Go.Proofs.Ytkghonhghbcdlaa
set_option linter.unusedVariables false
set_option linter.unusedSimpArgs false
open Go.RowKit

noncomputable def orbRes (n : Int) (L : List (List Int)) : List Int := if sysL n L then orbL L n.toNat else []
def orbCode (n : Int) (L : List (List Int)) : Int := if sysL n L then 0 else 1
theorem orbRes_length (n : Int) (L : List (List Int)) : (orbRes n L).length ≤ 12 := by
  unfold orbRes; split
  · rename_i h; have := sysL_n h; unfold orbL; rw [labs_length]; omega
  · simp

set_option maxRecDepth 100000 in
set_option maxHeartbeats 800000 in
theorem c_OrbitLabels (n : Int) (v1 : Value) (L : List (List Int)) (w : World) (hln : -9223372036854775808 ≤ n) (hun : n ≤ 9223372036854775807) (hL : Rows w v1 L)  :
    Calls Try.prog 33 #[.int .i64 n, v1] w (RIntsC w (orbRes n L) (orbCode n L)) := by
  by_cases hp0 : sysL n L = true
  case neg =>
    have hq0 : sysL n L = false := by simpa using hp0
    have HQ := Lib.hid hq0; clear hp0
    obtain ⟨a1, c1, rfl, hc1, hm1⟩ := hL.shape
    go_enter Try.func33, Try.ntmps33
    go_wp2_with fail
    refine (c_isSystem _ _ _ _ (hL.below (Below.refl _ _))).mono ?_; rintro e g0 ⟨rfl, hbg0⟩
    have hB0 := hbg0
    clear hbg0
    have HB := Lib.hid hB0
    clear hB0
    go_wp2
    go_ret2
    exact ⟨.slice none 0 0, by simp [orbCode, HQ.out], by simpa [orbRes, HQ.out] using Own.nil _ _, HB.out⟩
  have HP0 := Lib.hid hp0
  obtain ⟨a1, c1, rfl, hc1, hm1⟩ := hL.shape
  go_enter Try.func33, Try.ntmps33
  go_wp2_with fail
  refine (c_isSystem _ _ _ _ (hL.below (Below.refl _ _))).mono ?_; rintro e g0 ⟨rfl, hbg0⟩
  have hB0 := hbg0
  clear hbg0
  obtain ⟨h1, h2, h3⟩ := sysL_n HP0.out
  obtain ⟨N, rfl⟩ : ∃ N : Nat, n = N := ⟨n.toNat, by omega⟩
  go_wp2_with fail
  refine (c_orbitLabels N _ L _ (hL.below hB0) (by omega) (by omega) h3 (sysL_ok HP0.out)).mono ?_; rintro e w2 ⟨r, rfl, ho, hb⟩
  have HO := Lib.hid (ho.mono hB0.size); have HB := Lib.hid (bb hB0 hb); clear ho hb
  clear hB0 hL
  go_wp2
  go_ret2
  exact ⟨r, by simp [orbCode, HP0.out], by simpa [orbRes, HP0.out] using HO.out, HB.out⟩

theorem c_l01SystemV (n : Int) (v : Value) (L : List (List Int)) (w : World) (hx : Rows w v L) : Calls Try.prog 65 #[.int .i64 n, v] w (RVal w (.bool (sysL n L))) := (c_l01System n v L w hx).mono (by rintro e w' ⟨rfl, rfl⟩; exact ⟨rfl, Below.refl _ _⟩)

set_option maxRecDepth 100000 in
set_option maxHeartbeats 800000 in
theorem c_specOrbitLabels (n : Int) (v1 : Value) (L : List (List Int)) (w : World) (hln : -9223372036854775808 ≤ n) (hun : n ≤ 9223372036854775807) (hL : Rows w v1 L)  :
    Calls Try.prog 34 #[.int .i64 n, v1] w (RIntsC w (orbRes n L) (orbCode n L)) := by
  by_cases hp0 : sysL n L = true
  case neg =>
    have hq0 : sysL n L = false := by simpa using hp0
    have HQ := Lib.hid hq0; clear hp0
    obtain ⟨a1, c1, rfl, hc1, hm1⟩ := hL.shape
    go_enter Try.func34, Try.ntmps34
    go_wp2_with fail
    refine (c_l01SystemV _ _ _ _ (hL.below (Below.refl _ _))).mono ?_; rintro e g0 ⟨rfl, hbg0⟩
    have hB0 := hbg0
    clear hbg0
    have HB := Lib.hid hB0
    clear hB0
    go_wp2
    go_ret2
    exact ⟨.slice none 0 0, by simp [orbCode, HQ.out], by simpa [orbRes, HQ.out] using Own.nil _ _, HB.out⟩
  have HP0 := Lib.hid hp0
  obtain ⟨a1, c1, rfl, hc1, hm1⟩ := hL.shape
  go_enter Try.func34, Try.ntmps34
  go_wp2_with fail
  refine (c_l01SystemV _ _ _ _ (hL.below (Below.refl _ _))).mono ?_; rintro e g0 ⟨rfl, hbg0⟩
  have hB0 := hbg0
  clear hbg0
  obtain ⟨h1, h2, h3⟩ := sysL_n HP0.out
  obtain ⟨N, rfl⟩ : ∃ N : Nat, n = N := ⟨n.toNat, by omega⟩
  go_wp2_with fail
  refine (c_l01Orbits N _ L _ (hL.below hB0) (by omega) (by omega) h3 (sysL_ok HP0.out)).mono ?_; rintro e w2 ⟨r, rfl, ho, hb⟩
  have HO := Lib.hid (ho.mono hB0.size); have HB := Lib.hid (bb hB0 hb); clear ho hb
  clear hB0 hL
  go_wp2
  go_ret2
  exact ⟨r, by simp [orbCode, HP0.out], by simpa [orbRes, HP0.out] using HO.out, HB.out⟩

end Go.Proofs.Ytkghonhghbcdlaa

namespace Go.Proofs.Ytkghonhghbcdlaa
set_option linter.unusedVariables false
set_option linter.unusedSimpArgs false
open Go Go.RowKit

theorem grp_good {n : Int} {L : List (List Int)} (h : grpCode n L = 0) : sysL n L = true ∧ gOk n.toNat L = true := by
  unfold grpCode at h
  split at h
  · rename_i h1
    split at h
    · rename_i h2; exact ⟨h1, h2⟩
    · simp at h
  · simp at h
/-- The images of x under the first elements. -/
def imgs (G : List (List Int)) (x j : Nat) : List Int := (G.take j).map fun g => nth g x
theorem imgs_succ {G : List (List Int)} {x j : Nat} (h : j < G.length) : imgs G x (j + 1) = imgs G x j ++ [nth (row G j) x] := by
  simp [imgs, take_snoc_row _ _ h]
/-- What holds of a system whose group was found. -/
structure SysF (N : Nat) (L G : List (List Int)) (R : List Int) : Prop where
  n12 : 1 ≤ N ∧ N ≤ 12
  len : 1 ≤ G.length ∧ G.length ≤ 1000
  rlen : R.length = N
  rows : ∀ {j : Nat}, j < G.length → (row G j).length = N
  vals : ∀ {j x : Nat}, j < G.length → x < N → 0 ≤ nth (row G j) x ∧ nth (row G j) x < N
  closed : ∀ {i j : Nat}, i < G.length → j < L.length → thenRes (row G i) (row L j) ∈ G
  next : ∀ {k : Nat} {m : Int}, k < N → m = (labs L N k).2 → nth R k ≤ m ∧ (if nth R k = m then m + 1 else m) = (labs L N (k + 1)).2
  seen : ∀ {k y : Nat}, k < N → y < N → decide ((y : Int) ∈ imgs G k G.length) = decide (nth R k = nth R y)
theorem sys_facts {N : Nat} {L G : List (List Int)} {R : List Int} (h : sysL (N : Int) L = true ∧ gOk (N : Int).toNat L = true) (hG : grpRes (N : Int) L = G) (hR : orbRes (N : Int) L = R) : SysF N L G R := by
  obtain ⟨h1, h2⟩ := h
  have hn := sysL_n h1
  have hs := sysL_ok h1
  rw [Int.toNat_natCast] at h2 hs
  have eG : G = gSort (gAll N L) := by rw [← hG]; simp [grpRes, h1, h2]
  have eR : R = orbL L N := by rw [← hR]; simp [orbRes, h1]
  have hgr := gAt_gr hs (1000 * L.length)
  have hmem : ∀ {j : Nat}, j < G.length → row G j ∈ gAll N L := fun {j} hj => mem_gSort.1 (by rw [← eG]; exact row_mem (by omega) (by omega))
  have hp : ∀ {j : Nat}, j < G.length → Permuted (row G j) ∧ (row G j).length = N := fun {j} hj => hgr.perm _ (hmem hj)
  have hlen : G.length = (gAll N L).length := by rw [eG]; exact (gSort_perm _).length_eq
  refine ⟨by omega, ⟨by rw [hlen]; exact gAt_pos _ _ _, by rw [hlen]; simpa [gOk] using h2⟩, by rw [eR]; exact labs_length L N N, fun {j} hj => (hp hj).2, fun {j x} hj hx => ?_, fun {i j} hi hj => ?_, fun {k m} hk hm => ?_, fun {k y} hk hy => ?_⟩
  · have e := (hp hj).2
    have := (hp hj).1.lt (x := (x : Int)) (by omega) (by omega)
    omega
  · have hL : row L j ∈ L := row_mem (by omega) (by omega)
    have hq := hs _ hL
    have hpi := hp hi
    have hok : okThen (row G i) (row L j) = true := by
      simp [okThen, isPerm, inR, hpi.1, hq.1, hpi.2, hq.2]; omega
    have e : thenRes (row G i) (row L j) = thenL (row G i) (row L j) := by simp [thenRes, hok]
    rw [e]
    have hc := mem_gSort.2 (gAll_closed h2 (hmem hi) hL)
    rwa [← eG] at hc
  · subst hm
    have := orb_next hs hk
    rw [eR]
    exact ⟨this.1, this.2.symm⟩
  · have := seen_iff hs h2 hk hy
    rw [← eG, ← eR] at this
    simp only [decide_eq_decide]
    rw [← this]
    simp only [imgs, List.take_length, List.mem_map]

set_option maxRecDepth 100000 in
set_option maxHeartbeats 16000000 in
theorem law_Systems (v : Value) (bs : List Int) (w : World) (hv : Bytes w v bs) : Calls Try.prog 6 #[v] w (RVal w (.bool true)) := by
  have HV : Hid (BytesR w v bs.length) := Lib.hid hv
  obtain ⟨a, c, hva, -⟩ := hv
  subst hva
  go_enter Try.func6, Try.ntmps6
  go_wp2_with fail
  refine (c_big a bs.length c _).mono ?_; rintro e w' ⟨rfl, rfl⟩
  by_cases hbig : 4096 < bs.length
  case pos =>
    have hd : decide (4096 < bs.length) = true := by simpa using hbig
    rw [hd]; clear hd hbig
    go_wp2
    go_ret
    exact ⟨rfl, Below.refl _ _⟩
  have hd : decide (4096 < bs.length) = false := by simpa using hbig
  rw [hd]; clear hd
  go_wp2_with fail
  refine (c_DrawGroup _ bs.length _ HV.out (by omega)).mono ?_; rintro e w1 ⟨n, v1, L, rfl, ⟨hn0, hn1⟩, hr, hb⟩
  obtain ⟨la, lc, hr1, -⟩ := hr.shape
  subst hr1
  have H1 := Lib.hid (LS.addR (w := w) (L := []) (M := []) (Bx := []) ⟨fun e he => by simp at he, fun e he => by simp at he, fun e he => by simp at he, hb⟩ hr)
  clear hr hb
  obtain ⟨G, hG⟩ : ∃ G, grpRes n L = G := ⟨_, rfl⟩
  obtain ⟨q1, hq1⟩ : ∃ q, grpCode n L = q := ⟨_, rfl⟩
  obtain ⟨R, hR⟩ : ∃ R, orbRes n L = R := ⟨_, rfl⟩
  obtain ⟨q2, hq2⟩ : ∃ q, orbCode n L = q := ⟨_, rfl⟩
  have F := Lib.hid (And.intro (And.intro hG hq1) (And.intro hR hq2))
  have hqq1 : (q1 != q1) = false := by simp
  have hqq2 : (q2 != q2) = false := by simp
  clear hG hq1 hR hq2
  go_wp2_with fail
  refine (c_GroupElements n _ L _ (by omega) (by omega) (H1.out.getR (X := L) (by simp))).mono ?_; rintro e w2 ⟨all, rfl, hs, hb⟩
  rw [F.out.1.1] at hs
  rw [F.out.1.2]
  have H2 := Lib.hid ((H1.out.under hb).addR hs.rows)
  clear hs hb
  go_wp2_with fail
  refine (c_specGroupElements n _ L _ (by omega) (by omega) (H2.out.getR (X := L) (by simp))).mono ?_; rintro e w3 ⟨want, rfl, hs, hb⟩
  rw [F.out.1.1] at hs
  rw [F.out.1.2]
  have H3 := Lib.hid ((H2.out.under hb).addR hs.rows)
  clear hs hb
  go_wp2_with fail
  refine (c_likeRows5 _ _ G G _ (H3.out.getR (X := G) (by simp)) (H3.out.getR (X := G) (by simp))).mono ?_; rintro e w4 ⟨rfl, hb⟩
  rw [show decide (G = G) = true from by simp]
  have H4 := Lib.hid (H3.out.under hb)
  clear hb
  go_wp2_with fail
  refine (c_OrbitLabels n _ L _ (by omega) (by omega) (H4.out.getR (X := L) (by simp))).mono ?_; rintro e w5 ⟨lab, rfl, hs, hb⟩
  rw [F.out.2.1] at hs
  rw [F.out.2.2]
  have H5 := Lib.hid ((H4.out.under hb).addI hs.ints)
  clear hs hb
  go_wp2_with fail
  refine (c_specOrbitLabels n _ L _ (by omega) (by omega) (H5.out.getR (X := L) (by simp))).mono ?_; rintro e w6 ⟨due, rfl, hs, hb⟩
  rw [F.out.2.1] at hs
  rw [F.out.2.2]
  have H6 := Lib.hid ((H5.out.under hb).addI hs.ints)
  clear hs hb
  go_wp2_with fail
  refine (c_likeInts _ _ R R _ (H6.out.getI (xs := R) (by simp)) (H6.out.getI (xs := R) (by simp))).mono ?_; rintro e w7 ⟨rfl, hb⟩
  rw [show decide (R = R) = true from by simp]
  have H7 := Lib.hid (H6.out.under (below_of_drewN hb))
  clear hb
  by_cases hc1 : q1 = 0
  case neg =>
    have hb1 : (q1 != 0) = true := by simpa using hc1
    go_wp2
    go_ret
    exact ⟨rfl, H7.out.2.2.2⟩
  subst hc1
  obtain ⟨N, hN⟩ : ∃ N : Nat, n = N := ⟨n.toNat, by have := sysL_n (grp_good F.out.1.2).1; omega⟩
  subst hN
  have HF := Lib.hid (sys_facts (grp_good F.out.1.2) F.out.1.1 F.out.2.1)
  obtain ⟨g1, g2⟩ := HF.out.len
  have g3 := HF.out.rlen
  obtain ⟨N1, N2⟩ := HF.out.n12
  obtain ⟨ga, gc, hall, -⟩ := (H7.out.getR (v := all) (X := G) (by simp)).shape
  subst hall
  obtain ⟨ra, rc, hlab, -⟩ := (H7.out.getI (v := lab) (xs := R) (by simp)).shape
  rw [g3] at hlab
  subst hlab
  clear g3 hqq1 hqq2 F
  have HV0 := Lib.hid (HV.out.below H7.out.2.2.2)
  go_wp2_with fail
  refine (c_roll _ bs.length 811 _ HV0.out (by omega)).mono ?_; rintro e wr0 ⟨b, rfl, hwb, hdi, hb⟩
  have HDi := Lib.hid hdi; have HBl := Lib.hid hb; have HWB := Lib.hid hwb
  clear hdi hb hwb
  have hg1I : (1 : Int) ≤ (G.length : Int) := by omega
  have hg2I : (G.length : Int) ≤ 9223372036854775807 := by omega
  go_wp2_with fail
  refine (c_below b G.length _ HDi.out hg1I hg2I).mono ?_; rintro e wr1 ⟨x, rfl, x0, x1, hd⟩
  obtain ⟨X0, rfl⟩ : ∃ X : Nat, x = X := ⟨x.toNat, by omega⟩
  have hX0 : X0 < G.length := by omega
  have HD1 := Lib.hid hd; clear hd
  have HB1 := Lib.hid (HD1.out.below HBl.out HWB.out HBl.out.size)
  have HR1 := Lib.hid (H7.out.under HB1.out)
  obtain ⟨p1, o1, s1, e1, f1, gx7, h7⟩ := (H7.out.getR (v := .slice ga G.length gc) (X := G) (by simp)).getS X0 hX0
  subst f1
  have gx1 := cell_under HB1.out gx7
  have HP := Lib.hid h7
  clear h7 gx7
  by_cases hL : 0 < L.length
  case neg =>
    have hLI : ¬ (0 : Int) < (L.length : Int) := by omega
    have HG := Lib.hid (show ∀ W', Below wr1.heap.size wr1 W' → Rows W' (.slice (some ⟨p1, o1, none⟩) G.length gc) G from fun W' k => ((HR1.out.under k).getR (v := .slice (some ⟨p1, o1, none⟩) G.length gc) (X := G) (by simp)))
    have HI := Lib.hid (show ∀ W', Below wr1.heap.size wr1 W' → Ints W' (.slice ra N rc) R from fun W' k => ((HR1.out.under k).getI (v := .slice ra N rc) (xs := R) (by simp)))
    have HWb := Lib.hid HR1.out.2.2.2
    clear H7 HR1 HP
    go_wp2
    go_loopw [15, 16] (fun nx x wr => ∃ (k : Nat) (m : Int), k ≤ N ∧ x = .int .i64 k ∧ nx = .int .i64 m ∧ (0 ≤ m ∧ m ≤ k) ∧ Hid (m = (labs L N k).2) ∧ Hid (Below wr1.heap.size wr1 wr)) (fun _ x _ => N - (intOf x).toNat)
    case atStart => exact ⟨0, 0, Nat.zero_le _, rfl, rfl, by omega, Lib.hid rfl, Lib.hid (by first | exact Below.refl _ _ | exact (Below.refl _ _).drew)⟩
    case round =>
      obtain ⟨k, m, hk, rfl, rfl, ⟨m0, m1⟩, HM, HB⟩ := hrel
      obtain ⟨wo, rfl⟩ : ∃ wo : World, wo = wr := ⟨_, rfl⟩
      by_cases hlt : k < N
      case neg =>
        go_wp2
        go_ret
        exact ⟨rfl, bb HWb.out HB.out⟩
      obtain ⟨zm1, zm2⟩ := HF.out.next hlt HM.out
      obtain ⟨z, hz⟩ : ∃ z, nth R k = z := ⟨_, rfl⟩
      rw [hz] at zm1 zm2
      have HZ := Lib.hid hz
      have HM2 := Lib.hid zm2
      clear hz zm2
      obtain ⟨lb, lo, hla, hlc⟩ := (HI.out wo HB.out).get k (by have := HF.out.rlen; omega)
      subst hla
      rw [HZ.out] at hlc
      have hnz : ¬ m < z := by omega
      have hmk := run_make_row' (P := Try.prog) 57 4 (.bool false) 1 Try.underlying57 inf_bool rfl .i64 .i64 N (by omega) (by omega)
      have cont : True := trivial
      by_cases hzm : z = m
      · subst hzm
        go_wp2
        have hB0 : Below wo.heap.size wo (wo.alloc (.cells (madeCells #[.bool false] N) 4)) := (Below.refl _ _).alloc (Nat.le_refl _) _
        have hK0 : Blk (wo.alloc (.cells (madeCells #[.bool false] N) 4)) wo.heap.size 4 ((List.range N).map fun (j : Nat) => Value.bool (decide ((j : Int) ∈ imgs G k 0))) := by
          have := Blk.made wo (.bool false) N 4
          simpa [imgs, List.map_const'] using this
        have HB0 := Lib.hid (bb HB.out hB0); have HK0 := Lib.hid hK0; have HO0 := Lib.hid hB0
        clear hB0 hK0 hlc hmk
        go_loopw [18] (fun i wr => ∃ j : Nat, j ≤ G.length ∧ i = .int .i64 j ∧ Hid (Blk wr wo.heap.size 4 ((List.range N).map fun (y : Nat) => Value.bool (decide ((y : Int) ∈ imgs G k j)))) ∧ Hid (Below wo.heap.size wo wr)) (fun i _ => G.length - (intOf i).toNat)
        case atStart => exact ⟨0, Nat.zero_le _, rfl, HK0, HO0⟩
        case round =>
          clear HK0 HO0 HB0
          obtain ⟨j, hj, rfl, HK, HO⟩ := hrel
          obtain ⟨wi, rfl⟩ : ∃ wi : World, wi = wr := ⟨_, rfl⟩
          by_cases hjl : j < G.length
          · have hgr := (HG.out wi (bb HB.out HO.out)).at j hjl
            obtain ⟨ha1, hc1, hcell, hrow⟩ := hgr
            have hrl := HF.out.rows hjl
            rw [hrl] at hcell hrow
            obtain ⟨hb1, ho1, hha, hcx⟩ := hrow.get k (by omega)
            subst hha
            obtain ⟨t0, t1⟩ := HF.out.vals hjl hlt
            obtain ⟨y, hy⟩ : ∃ y : Nat, nth (row G j) k = y := ⟨(nth (row G j) k).toNat, by omega⟩
            rw [hy] at hcx
            have hyN : y < N := by omega
            have HY := Lib.hid hy
            obtain ⟨u, hu⟩ := fill_cell0 HK.out (k := y) (by simpa using hyN)
            have hfz := HK.out.frozen y
            have HS := Lib.hid (HK.out.set y (.bool true))
            clear hy hrow hrl t0 t1
            go_wp2
            go_roundw
            case rel =>
              refine ⟨j + 1, by omega, by go_num, Lib.hid ?_, Lib.hid (HO.out.setCell (p := ⟨wo.heap.size, y, none⟩) (Nat.le_refl _) _)⟩
              have h := HS.out
              have e := seen_set N (imgs G k j) (y : Int) (by omega)
              rw [Int.toNat_natCast] at e
              rw [e, ← HY.out, ← imgs_succ hjl] at h
              exact h
            case measure => simp [intOf]; omega
          · obtain rfl : j = G.length := by omega
            go_wp2
            go_loopw [19] (fun i wr => ∃ y : Nat, y ≤ N ∧ i = .int .i64 y ∧ Hid (Below wi.heap.size wi wr)) (fun i _ => N - (intOf i).toNat)
            case atStart => exact ⟨0, Nat.zero_le _, rfl, Lib.hid (Below.refl _ _)⟩
            case round =>
              obtain ⟨y, hy, rfl, HBy⟩ := hrel
              obtain ⟨wy, rfl⟩ : ∃ wy : World, wy = wr := ⟨_, rfl⟩
              by_cases hyl : y < N
              · have hIn := HI.out wy (bb HB.out (bb HO.out HBy.out))
                have q0 := hIn.at k (by have := HF.out.rlen; omega)
                have q1 := hIn.at y (by have := HF.out.rlen; omega)
                have q2 := (HK.out.under HBy.out).cell (i := y) (by simpa using hyl)
                simp only [List.getElem_map, List.getElem_range] at q2
                rw [HF.out.seen hlt hyl] at q2
                obtain ⟨z2, hz2⟩ : ∃ z, nth R y = z := ⟨_, rfl⟩
                rw [HZ.out, hz2] at q2
                rw [HZ.out] at q0
                rw [hz2] at q1
                clear hIn hz2
                by_cases hzz : z = z2
                · subst hzz
                  have hd : decide (z = z) = true := by simp
                  rw [hd] at q2
                  clear hd
                  go_wp2
                  go_quiet (fail)
                  go_wp2
                  go_roundw
                  case rel => exact ⟨y + 1, by omega, by go_num, Lib.hid (below_drewN HBy.out _)⟩
                  case measure => simp [intOf]; omega
                · have hd : decide (z = z2) = false := by simpa using hzz
                  rw [hd] at q2
                  have hdb : (z == z2) = false := by simpa using hzz
                  clear hd
                  go_wp2
                  go_quiet (fail)
                  go_wp2
                  go_roundw
                  case rel => exact ⟨y + 1, by omega, by go_num, Lib.hid (below_drewN HBy.out _)⟩
                  case measure => simp [intOf]; omega
              · go_wp2
                go_roundw
                case rel => exact ⟨k + 1, z + 1, by omega, by go_num, by go_num, by omega, Lib.hid (by have := HM2.out; simpa using this), Lib.hid (bb HB.out (bb HO.out HBy.out))⟩
                case measure => simp [intOf]; omega
      · have hzb : (z == m) = false := by simpa using hzm
        go_wp2
        have hB0 : Below wo.heap.size wo (wo.alloc (.cells (madeCells #[.bool false] N) 4)) := (Below.refl _ _).alloc (Nat.le_refl _) _
        have hK0 : Blk (wo.alloc (.cells (madeCells #[.bool false] N) 4)) wo.heap.size 4 ((List.range N).map fun (j : Nat) => Value.bool (decide ((j : Int) ∈ imgs G k 0))) := by
          have := Blk.made wo (.bool false) N 4
          simpa [imgs, List.map_const'] using this
        have HB0 := Lib.hid (bb HB.out hB0); have HK0 := Lib.hid hK0; have HO0 := Lib.hid hB0
        clear hB0 hK0 hlc hmk
        go_loopw [18] (fun i wr => ∃ j : Nat, j ≤ G.length ∧ i = .int .i64 j ∧ Hid (Blk wr wo.heap.size 4 ((List.range N).map fun (y : Nat) => Value.bool (decide ((y : Int) ∈ imgs G k j)))) ∧ Hid (Below wo.heap.size wo wr)) (fun i _ => G.length - (intOf i).toNat)
        case atStart => exact ⟨0, Nat.zero_le _, rfl, HK0, HO0⟩
        case round =>
          clear HK0 HO0 HB0
          obtain ⟨j, hj, rfl, HK, HO⟩ := hrel
          obtain ⟨wi, rfl⟩ : ∃ wi : World, wi = wr := ⟨_, rfl⟩
          by_cases hjl : j < G.length
          · have hgr := (HG.out wi (bb HB.out HO.out)).at j hjl
            obtain ⟨ha1, hc1, hcell, hrow⟩ := hgr
            have hrl := HF.out.rows hjl
            rw [hrl] at hcell hrow
            obtain ⟨hb1, ho1, hha, hcx⟩ := hrow.get k (by omega)
            subst hha
            obtain ⟨t0, t1⟩ := HF.out.vals hjl hlt
            obtain ⟨y, hy⟩ : ∃ y : Nat, nth (row G j) k = y := ⟨(nth (row G j) k).toNat, by omega⟩
            rw [hy] at hcx
            have hyN : y < N := by omega
            have HY := Lib.hid hy
            obtain ⟨u, hu⟩ := fill_cell0 HK.out (k := y) (by simpa using hyN)
            have hfz := HK.out.frozen y
            have HS := Lib.hid (HK.out.set y (.bool true))
            clear hy hrow hrl t0 t1
            go_wp2
            go_roundw
            case rel =>
              refine ⟨j + 1, by omega, by go_num, Lib.hid ?_, Lib.hid (HO.out.setCell (p := ⟨wo.heap.size, y, none⟩) (Nat.le_refl _) _)⟩
              have h := HS.out
              have e := seen_set N (imgs G k j) (y : Int) (by omega)
              rw [Int.toNat_natCast] at e
              rw [e, ← HY.out, ← imgs_succ hjl] at h
              exact h
            case measure => simp [intOf]; omega
          · obtain rfl : j = G.length := by omega
            go_wp2
            go_loopw [19] (fun i wr => ∃ y : Nat, y ≤ N ∧ i = .int .i64 y ∧ Hid (Below wi.heap.size wi wr)) (fun i _ => N - (intOf i).toNat)
            case atStart => exact ⟨0, Nat.zero_le _, rfl, Lib.hid (Below.refl _ _)⟩
            case round =>
              obtain ⟨y, hy, rfl, HBy⟩ := hrel
              obtain ⟨wy, rfl⟩ : ∃ wy : World, wy = wr := ⟨_, rfl⟩
              by_cases hyl : y < N
              · have hIn := HI.out wy (bb HB.out (bb HO.out HBy.out))
                have q0 := hIn.at k (by have := HF.out.rlen; omega)
                have q1 := hIn.at y (by have := HF.out.rlen; omega)
                have q2 := (HK.out.under HBy.out).cell (i := y) (by simpa using hyl)
                simp only [List.getElem_map, List.getElem_range] at q2
                rw [HF.out.seen hlt hyl] at q2
                obtain ⟨z2, hz2⟩ : ∃ z, nth R y = z := ⟨_, rfl⟩
                rw [HZ.out, hz2] at q2
                rw [HZ.out] at q0
                rw [hz2] at q1
                clear hIn hz2
                by_cases hzz : z = z2
                · subst hzz
                  have hd : decide (z = z) = true := by simp
                  rw [hd] at q2
                  clear hd
                  go_wp2
                  go_quiet (fail)
                  go_wp2
                  go_roundw
                  case rel => exact ⟨y + 1, by omega, by go_num, Lib.hid (below_drewN HBy.out _)⟩
                  case measure => simp [intOf]; omega
                · have hd : decide (z = z2) = false := by simpa using hzz
                  rw [hd] at q2
                  have hdb : (z == z2) = false := by simpa using hzz
                  clear hd
                  go_wp2
                  go_quiet (fail)
                  go_wp2
                  go_roundw
                  case rel => exact ⟨y + 1, by omega, by go_num, Lib.hid (below_drewN HBy.out _)⟩
                  case measure => simp [intOf]; omega
              · go_wp2
                go_roundw
                case rel => exact ⟨k + 1, m, by omega, by go_num, rfl, by omega, Lib.hid (by have := HM2.out; rw [if_neg hzm] at this; exact this), Lib.hid (bb HB.out (bb HO.out HBy.out))⟩
                case measure => simp [intOf]; omega
  have hLI : (0 : Int) < (L.length : Int) := by omega
  have hl2I : (L.length : Int) ≤ 9223372036854775807 := by
    obtain ⟨_, c', h, h2, h3⟩ := (HR1.out.getR (v := .slice la L.length lc) (X := L) (by simp)).shape
    omega
  have hl1I : (1 : Int) ≤ (L.length : Int) := by omega
  go_wp2_with fail
  refine (c_below b L.length _ HD1.out.1 hl1I hl2I).mono ?_; rintro e wr2 ⟨y, rfl, y0, y1, hd⟩
  obtain ⟨Y0, rfl⟩ : ∃ X : Nat, y = X := ⟨y.toNat, by omega⟩
  have hY0 : Y0 < L.length := by omega
  have HB2 := Lib.hid (hd.below HB1.out HWB.out HB1.out.size)
  have HR2 := Lib.hid (H7.out.under HB2.out)
  have HP2 := Lib.hid (HP.out.below HB2.out)
  obtain ⟨p2, o2, s2, e2, f2, gx2, h2⟩ := (HR2.out.getR (v := .slice la L.length lc) (X := L) (by simp)).getS Y0 hY0
  subst f2
  have HQ2 := Lib.hid h2
  clear hd h2 gx1
  go_wp2_with fail
  refine (c_then5 _ _ (row G X0) (row L Y0) _ HP2.out HQ2.out).mono ?_; rintro e wr3 ⟨th, rfl, hs, hb⟩
  have HR3 := Lib.hid (HR2.out.under hb)
  have HT3 := Lib.hid hs.ints
  clear hs hb gx2
  go_wp2_with fail
  refine (c_hasRow5 _ _ G (thenRes (row G X0) (row L Y0)) _ (HR3.out.getR (X := G) (by simp)) HT3.out).mono ?_; rintro e wr4 ⟨rfl, hb⟩
  rw [show decide (thenRes (row G X0) (row L Y0) ∈ G) = true from by simpa using HF.out.closed hX0 hY0]
  have HR4 := Lib.hid (HR3.out.under hb)
  clear hb
  have HG := Lib.hid (show ∀ W', Below wr4.heap.size wr4 W' → Rows W' (.slice (some ⟨p1, o1, none⟩) G.length gc) G from fun W' k => ((HR4.out.under k).getR (v := .slice (some ⟨p1, o1, none⟩) G.length gc) (X := G) (by simp)))
  have HI := Lib.hid (show ∀ W', Below wr4.heap.size wr4 W' → Ints W' (.slice ra N rc) R from fun W' k => ((HR4.out.under k).getI (v := .slice ra N rc) (xs := R) (by simp)))
  have HWb := Lib.hid HR4.out.2.2.2
  clear H7 HR1 HP HR2 HR3 HP2 HQ2 HT3 HR4
  go_wp2
  go_loopw [15, 16] (fun nx x wr => ∃ (k : Nat) (m : Int), k ≤ N ∧ x = .int .i64 k ∧ nx = .int .i64 m ∧ (0 ≤ m ∧ m ≤ k) ∧ Hid (m = (labs L N k).2) ∧ Hid (Below wr4.heap.size wr4 wr)) (fun _ x _ => N - (intOf x).toNat)
  case atStart => exact ⟨0, 0, Nat.zero_le _, rfl, rfl, by omega, Lib.hid rfl, Lib.hid (by first | exact Below.refl _ _ | exact (Below.refl _ _).drew)⟩
  case round =>
    obtain ⟨k, m, hk, rfl, rfl, ⟨m0, m1⟩, HM, HB⟩ := hrel
    obtain ⟨wo, rfl⟩ : ∃ wo : World, wo = wr := ⟨_, rfl⟩
    by_cases hlt : k < N
    case neg =>
      go_wp2
      go_ret
      exact ⟨rfl, bb HWb.out HB.out⟩
    obtain ⟨zm1, zm2⟩ := HF.out.next hlt HM.out
    obtain ⟨z, hz⟩ : ∃ z, nth R k = z := ⟨_, rfl⟩
    rw [hz] at zm1 zm2
    have HZ := Lib.hid hz
    have HM2 := Lib.hid zm2
    clear hz zm2
    obtain ⟨lb, lo, hla, hlc⟩ := (HI.out wo HB.out).get k (by have := HF.out.rlen; omega)
    subst hla
    rw [HZ.out] at hlc
    have hnz : ¬ m < z := by omega
    have hmk := run_make_row' (P := Try.prog) 57 4 (.bool false) 1 Try.underlying57 inf_bool rfl .i64 .i64 N (by omega) (by omega)
    have cont : True := trivial
    by_cases hzm : z = m
    · subst hzm
      go_wp2
      have hB0 : Below wo.heap.size wo (wo.alloc (.cells (madeCells #[.bool false] N) 4)) := (Below.refl _ _).alloc (Nat.le_refl _) _
      have hK0 : Blk (wo.alloc (.cells (madeCells #[.bool false] N) 4)) wo.heap.size 4 ((List.range N).map fun (j : Nat) => Value.bool (decide ((j : Int) ∈ imgs G k 0))) := by
        have := Blk.made wo (.bool false) N 4
        simpa [imgs, List.map_const'] using this
      have HB0 := Lib.hid (bb HB.out hB0); have HK0 := Lib.hid hK0; have HO0 := Lib.hid hB0
      clear hB0 hK0 hlc hmk
      go_loopw [18] (fun i wr => ∃ j : Nat, j ≤ G.length ∧ i = .int .i64 j ∧ Hid (Blk wr wo.heap.size 4 ((List.range N).map fun (y : Nat) => Value.bool (decide ((y : Int) ∈ imgs G k j)))) ∧ Hid (Below wo.heap.size wo wr)) (fun i _ => G.length - (intOf i).toNat)
      case atStart => exact ⟨0, Nat.zero_le _, rfl, HK0, HO0⟩
      case round =>
        clear HK0 HO0 HB0
        obtain ⟨j, hj, rfl, HK, HO⟩ := hrel
        obtain ⟨wi, rfl⟩ : ∃ wi : World, wi = wr := ⟨_, rfl⟩
        by_cases hjl : j < G.length
        · have hgr := (HG.out wi (bb HB.out HO.out)).at j hjl
          obtain ⟨ha1, hc1, hcell, hrow⟩ := hgr
          have hrl := HF.out.rows hjl
          rw [hrl] at hcell hrow
          obtain ⟨hb1, ho1, hha, hcx⟩ := hrow.get k (by omega)
          subst hha
          obtain ⟨t0, t1⟩ := HF.out.vals hjl hlt
          obtain ⟨y, hy⟩ : ∃ y : Nat, nth (row G j) k = y := ⟨(nth (row G j) k).toNat, by omega⟩
          rw [hy] at hcx
          have hyN : y < N := by omega
          have HY := Lib.hid hy
          obtain ⟨u, hu⟩ := fill_cell0 HK.out (k := y) (by simpa using hyN)
          have hfz := HK.out.frozen y
          have HS := Lib.hid (HK.out.set y (.bool true))
          clear hy hrow hrl t0 t1
          go_wp2
          go_roundw
          case rel =>
            refine ⟨j + 1, by omega, by go_num, Lib.hid ?_, Lib.hid (HO.out.setCell (p := ⟨wo.heap.size, y, none⟩) (Nat.le_refl _) _)⟩
            have h := HS.out
            have e := seen_set N (imgs G k j) (y : Int) (by omega)
            rw [Int.toNat_natCast] at e
            rw [e, ← HY.out, ← imgs_succ hjl] at h
            exact h
          case measure => simp [intOf]; omega
        · obtain rfl : j = G.length := by omega
          go_wp2
          go_loopw [19] (fun i wr => ∃ y : Nat, y ≤ N ∧ i = .int .i64 y ∧ Hid (Below wi.heap.size wi wr)) (fun i _ => N - (intOf i).toNat)
          case atStart => exact ⟨0, Nat.zero_le _, rfl, Lib.hid (Below.refl _ _)⟩
          case round =>
            obtain ⟨y, hy, rfl, HBy⟩ := hrel
            obtain ⟨wy, rfl⟩ : ∃ wy : World, wy = wr := ⟨_, rfl⟩
            by_cases hyl : y < N
            · have hIn := HI.out wy (bb HB.out (bb HO.out HBy.out))
              have q0 := hIn.at k (by have := HF.out.rlen; omega)
              have q1 := hIn.at y (by have := HF.out.rlen; omega)
              have q2 := (HK.out.under HBy.out).cell (i := y) (by simpa using hyl)
              simp only [List.getElem_map, List.getElem_range] at q2
              rw [HF.out.seen hlt hyl] at q2
              obtain ⟨z2, hz2⟩ : ∃ z, nth R y = z := ⟨_, rfl⟩
              rw [HZ.out, hz2] at q2
              rw [HZ.out] at q0
              rw [hz2] at q1
              clear hIn hz2
              by_cases hzz : z = z2
              · subst hzz
                have hd : decide (z = z) = true := by simp
                rw [hd] at q2
                clear hd
                go_wp2
                go_quiet (fail)
                go_wp2
                go_roundw
                case rel => exact ⟨y + 1, by omega, by go_num, Lib.hid (below_drewN HBy.out _)⟩
                case measure => simp [intOf]; omega
              · have hd : decide (z = z2) = false := by simpa using hzz
                rw [hd] at q2
                have hdb : (z == z2) = false := by simpa using hzz
                clear hd
                go_wp2
                go_quiet (fail)
                go_wp2
                go_roundw
                case rel => exact ⟨y + 1, by omega, by go_num, Lib.hid (below_drewN HBy.out _)⟩
                case measure => simp [intOf]; omega
            · go_wp2
              go_roundw
              case rel => exact ⟨k + 1, z + 1, by omega, by go_num, by go_num, by omega, Lib.hid (by have := HM2.out; simpa using this), Lib.hid (bb HB.out (bb HO.out HBy.out))⟩
              case measure => simp [intOf]; omega
    · have hzb : (z == m) = false := by simpa using hzm
      go_wp2
      have hB0 : Below wo.heap.size wo (wo.alloc (.cells (madeCells #[.bool false] N) 4)) := (Below.refl _ _).alloc (Nat.le_refl _) _
      have hK0 : Blk (wo.alloc (.cells (madeCells #[.bool false] N) 4)) wo.heap.size 4 ((List.range N).map fun (j : Nat) => Value.bool (decide ((j : Int) ∈ imgs G k 0))) := by
        have := Blk.made wo (.bool false) N 4
        simpa [imgs, List.map_const'] using this
      have HB0 := Lib.hid (bb HB.out hB0); have HK0 := Lib.hid hK0; have HO0 := Lib.hid hB0
      clear hB0 hK0 hlc hmk
      go_loopw [18] (fun i wr => ∃ j : Nat, j ≤ G.length ∧ i = .int .i64 j ∧ Hid (Blk wr wo.heap.size 4 ((List.range N).map fun (y : Nat) => Value.bool (decide ((y : Int) ∈ imgs G k j)))) ∧ Hid (Below wo.heap.size wo wr)) (fun i _ => G.length - (intOf i).toNat)
      case atStart => exact ⟨0, Nat.zero_le _, rfl, HK0, HO0⟩
      case round =>
        clear HK0 HO0 HB0
        obtain ⟨j, hj, rfl, HK, HO⟩ := hrel
        obtain ⟨wi, rfl⟩ : ∃ wi : World, wi = wr := ⟨_, rfl⟩
        by_cases hjl : j < G.length
        · have hgr := (HG.out wi (bb HB.out HO.out)).at j hjl
          obtain ⟨ha1, hc1, hcell, hrow⟩ := hgr
          have hrl := HF.out.rows hjl
          rw [hrl] at hcell hrow
          obtain ⟨hb1, ho1, hha, hcx⟩ := hrow.get k (by omega)
          subst hha
          obtain ⟨t0, t1⟩ := HF.out.vals hjl hlt
          obtain ⟨y, hy⟩ : ∃ y : Nat, nth (row G j) k = y := ⟨(nth (row G j) k).toNat, by omega⟩
          rw [hy] at hcx
          have hyN : y < N := by omega
          have HY := Lib.hid hy
          obtain ⟨u, hu⟩ := fill_cell0 HK.out (k := y) (by simpa using hyN)
          have hfz := HK.out.frozen y
          have HS := Lib.hid (HK.out.set y (.bool true))
          clear hy hrow hrl t0 t1
          go_wp2
          go_roundw
          case rel =>
            refine ⟨j + 1, by omega, by go_num, Lib.hid ?_, Lib.hid (HO.out.setCell (p := ⟨wo.heap.size, y, none⟩) (Nat.le_refl _) _)⟩
            have h := HS.out
            have e := seen_set N (imgs G k j) (y : Int) (by omega)
            rw [Int.toNat_natCast] at e
            rw [e, ← HY.out, ← imgs_succ hjl] at h
            exact h
          case measure => simp [intOf]; omega
        · obtain rfl : j = G.length := by omega
          go_wp2
          go_loopw [19] (fun i wr => ∃ y : Nat, y ≤ N ∧ i = .int .i64 y ∧ Hid (Below wi.heap.size wi wr)) (fun i _ => N - (intOf i).toNat)
          case atStart => exact ⟨0, Nat.zero_le _, rfl, Lib.hid (Below.refl _ _)⟩
          case round =>
            obtain ⟨y, hy, rfl, HBy⟩ := hrel
            obtain ⟨wy, rfl⟩ : ∃ wy : World, wy = wr := ⟨_, rfl⟩
            by_cases hyl : y < N
            · have hIn := HI.out wy (bb HB.out (bb HO.out HBy.out))
              have q0 := hIn.at k (by have := HF.out.rlen; omega)
              have q1 := hIn.at y (by have := HF.out.rlen; omega)
              have q2 := (HK.out.under HBy.out).cell (i := y) (by simpa using hyl)
              simp only [List.getElem_map, List.getElem_range] at q2
              rw [HF.out.seen hlt hyl] at q2
              obtain ⟨z2, hz2⟩ : ∃ z, nth R y = z := ⟨_, rfl⟩
              rw [HZ.out, hz2] at q2
              rw [HZ.out] at q0
              rw [hz2] at q1
              clear hIn hz2
              by_cases hzz : z = z2
              · subst hzz
                have hd : decide (z = z) = true := by simp
                rw [hd] at q2
                clear hd
                go_wp2
                go_quiet (fail)
                go_wp2
                go_roundw
                case rel => exact ⟨y + 1, by omega, by go_num, Lib.hid (below_drewN HBy.out _)⟩
                case measure => simp [intOf]; omega
              · have hd : decide (z = z2) = false := by simpa using hzz
                rw [hd] at q2
                have hdb : (z == z2) = false := by simpa using hzz
                clear hd
                go_wp2
                go_quiet (fail)
                go_wp2
                go_roundw
                case rel => exact ⟨y + 1, by omega, by go_num, Lib.hid (below_drewN HBy.out _)⟩
                case measure => simp [intOf]; omega
            · go_wp2
              go_roundw
              case rel => exact ⟨k + 1, m, by omega, by go_num, rfl, by omega, Lib.hid (by have := HM2.out; rw [if_neg hzm] at this; exact this), Lib.hid (bb HB.out (bb HO.out HBy.out))⟩
              case measure => simp [intOf]; omega
end Go.Proofs.Ytkghonhghbcdlaa
