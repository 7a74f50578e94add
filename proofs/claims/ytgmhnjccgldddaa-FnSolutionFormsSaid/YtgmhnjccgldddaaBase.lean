/-
  Plain words on memory, shared by all proofs of this seat: a slice that reads as a list of integers, a slice of such slices, a block that the call itself has made, and what a step of the call leaves as it was. No statement is proved here.
-/
import Derived.Test.YtgmhnjccgldddaaProg
import Derived.Test.YtgmhnjccgldddaaP1
import Derived.WalkKit
import Derived.WalkSpells
import Derived.WalkLawsBesides
import Derived.Lib.Hide
import Derived.Deep.OwnRows
import Derived.Deep.QuietTactic
import Derived.BigQuiet
namespace Go.Proofs.Ytgmhnjccgldddaa
set_option linter.unusedVariables false
set_option linter.unusedSimpArgs false
open Go.RowKit

theorem inf_int64 : (Try.prog.info? 2).map (fun i => (i.zero, i.size, i.bytes)) = some (some (.int .i64 0), 1, 8) := by kernel_rfl
theorem inf_bool : (Try.prog.info? 4).map (fun i => (i.zero, i.size, i.bytes)) = some (some (.bool false), 1, 1) := by kernel_rfl
theorem inf_ints : (Try.prog.info? 26).map (fun i => (i.zero, i.size, i.bytes)) = some (some (.slice none 0 0), 1, 24) := by kernel_rfl

/-- A slice of one-cell elements: element i reads as us[i]. -/
def Cells (w : World) (v : Value) (us : List Value) : Prop :=
  ∃ (a : Option Addr) (c : Nat), v = .slice a us.length c ∧ us.length ≤ c ∧ c ≤ maxLen ∧
    ∀ i (h : i < us.length), ∃ b o, a = some ⟨b, o, none⟩ ∧ w.cell? ⟨b, o + i, none⟩ = some us[i]

/-- A slice that reads as a list of integers. -/
def Ints (w : World) (v : Value) (xs : List Int) : Prop :=
  ∃ (a : Option Addr) (c : Nat), v = .slice a xs.length c ∧ xs.length ≤ c ∧ c ≤ maxLen ∧
    ∀ i (h : i < xs.length), ∃ b o, a = some ⟨b, o, none⟩ ∧ w.cell? ⟨b, o + i, none⟩ = some (.int .i64 xs[i])

/-- A slice of slices that reads as a list of lists of integers. -/
def Rows (w : World) (v : Value) (xss : List (List Int)) : Prop :=
  ∃ (a : Option Addr) (c : Nat), v = .slice a xss.length c ∧ xss.length ≤ c ∧ c ≤ maxLen ∧
    ∀ i (h : i < xss.length), ∃ b o u, a = some ⟨b, o, none⟩ ∧ w.cell? ⟨b, o + i, none⟩ = some u ∧ Ints w u xss[i]

theorem cell_lt {w : World} {a : Addr} {v : Value} (h : w.cell? a = some v) : a.block < w.heap.size := World.block_lt_of_cell? w a h

theorem cell_below {B : Nat} {w w' : World} (hb : Below B w w') {b o : Nat} (hB : b < B) {v : Value} (h : w.cell? ⟨b, o, none⟩ = some v) : w'.cell? ⟨b, o, none⟩ = some v :=
  (hb.cell (p := ⟨b, o, none⟩) hB).trans h

theorem cell_under {w w' : World} (hb : Below w.heap.size w w') {b o : Nat} {v : Value} (h : w.cell? ⟨b, o, none⟩ = some v) : w'.cell? ⟨b, o, none⟩ = some v :=
  cell_below hb (cell_lt h) h

theorem Ints.below {w w' : World} {v : Value} {xs : List Int} (h : Ints w v xs) (hb : Below w.heap.size w w') : Ints w' v xs := by
  obtain ⟨a, c, hv, h1, h2, hc⟩ := h
  refine ⟨a, c, hv, h1, h2, fun i hi => ?_⟩
  obtain ⟨b, o, ha, hcell⟩ := hc i hi
  exact ⟨b, o, ha, cell_under hb hcell⟩

theorem Cells.below {w w' : World} {v : Value} {us : List Value} (h : Cells w v us) (hb : Below w.heap.size w w') : Cells w' v us := by
  obtain ⟨a, c, hv, h1, h2, hc⟩ := h
  refine ⟨a, c, hv, h1, h2, fun i hi => ?_⟩
  obtain ⟨b, o, ha, hcell⟩ := hc i hi
  exact ⟨b, o, ha, cell_under hb hcell⟩

theorem Rows.below {w w' : World} {v : Value} {xss : List (List Int)} (h : Rows w v xss) (hb : Below w.heap.size w w') : Rows w' v xss := by
  obtain ⟨a, c, hv, h1, h2, hc⟩ := h
  refine ⟨a, c, hv, h1, h2, fun i hi => ?_⟩
  obtain ⟨b, o, u, ha, hcell, hu⟩ := hc i hi
  exact ⟨b, o, u, ha, cell_under hb hcell, hu.below hb⟩

theorem Ints.nil (w : World) : Ints w (.slice none 0 0) [] := ⟨none, 0, rfl, Nat.le_refl _, by decide, fun i h => absurd h (Nat.not_lt_zero _)⟩
theorem Ints.shape {w : World} {v : Value} {xs : List Int} (h : Ints w v xs) : ∃ a c, v = .slice a xs.length c ∧ xs.length ≤ c ∧ c ≤ 9223372036854775807 := by
  obtain ⟨a, c, hv, hc, hm, _⟩ := h
  exact ⟨a, c, hv, hc, by unfold maxLen at hm; omega⟩
theorem Ints.get {w : World} {a : Option Addr} {n c : Nat} {xs : List Int} (h : Ints w (.slice a n c) xs) (k : Nat) (hk : k < xs.length) :
    ∃ b o, a = some ⟨b, o, none⟩ ∧ w.cell? ⟨b, o + k, none⟩ = some (.int .i64 (nth xs k)) := by
  obtain ⟨a', c', hv, _, _, hc⟩ := h
  cases hv
  rw [nth_nat _ _ hk]
  exact hc k hk
theorem Ints.geti {w : World} {a : Option Addr} {n c : Nat} {xs : List Int} (h : Ints w (.slice a n c) xs) (x : Int) (h0 : 0 ≤ x) (hk : x < xs.length) :
    ∃ b o, a = some ⟨b, o, none⟩ ∧ w.cell? ⟨b, o + x.toNat, none⟩ = some (.int .i64 (nth xs x)) := by
  have := h.get x.toNat (by omega)
  rwa [show ((x.toNat : Nat) : Int) = x from by omega] at this
/-- The cell of an element, of a slice whose address is known. -/
theorem Ints.at {w : World} {b o n c : Nat} {xs : List Int} (h : Ints w (.slice (some ⟨b, o, none⟩) n c) xs) (k : Nat) (hk : k < xs.length) : w.cell? ⟨b, o + k, none⟩ = some (.int .i64 (nth xs k)) := by
  obtain ⟨b', o', e, h'⟩ := h.get k hk
  cases e; exact h'
theorem Ints.ati {w : World} {b o n c : Nat} {xs : List Int} (h : Ints w (.slice (some ⟨b, o, none⟩) n c) xs) (x : Int) (h0 : 0 ≤ x) (hk : x < xs.length) : w.cell? ⟨b, o + x.toNat, none⟩ = some (.int .i64 (nth xs x)) := by
  obtain ⟨b', o', e, h'⟩ := h.geti x h0 hk
  cases e; exact h'
theorem Rows.nil (w : World) : Rows w (.slice none 0 0) [] := ⟨none, 0, rfl, Nat.le_refl _, by decide, fun i h => absurd h (Nat.not_lt_zero _)⟩

/-- Block b is a row of just these cells, none of them frozen. -/
def Blk (w : World) (b : Nat) (t : TypeId) (cs : List Value) : Prop := w.heap[b]? = some (.cells cs.toArray t (0, 0))

namespace Blk
variable {w w' : World} {b : Nat} {t : TypeId} {cs : List Value}
theorem lt (h : Blk w b t cs) : b < w.heap.size := (Array.getElem?_eq_some_iff.1 h).1
theorem cell (h : Blk w b t cs) {i : Nat} (hi : i < cs.length) : w.cell? ⟨b, i, none⟩ = some cs[i] := by
  simp [World.cell?, show w.heap[b]? = _ from h, hi]
theorem frozen (h : Blk w b t cs) (i : Nat) : w.frozen? ⟨b, i, none⟩ = false := by simp [World.frozen?, show w.heap[b]? = _ from h]
theorem of_block (h : Blk w b t cs) (e : w'.heap[b]? = w.heap[b]?) : Blk w' b t cs := e.trans h
theorem below {B : Nat} (h : Blk w b t cs) (hb : Below B w w') (hB : b < B) : Blk w' b t cs := h.of_block (hb.block b hB)
theorem under (h : Blk w b t cs) (hb : Below w.heap.size w w') : Blk w' b t cs := h.below hb h.lt
theorem alloc (h : Blk w b t cs) (o : Obj) : Blk (w.alloc o) b t cs := h.of_block (Below.heap_alloc _ _ _ h.lt)
theorem drew (h : Blk w b t cs) : Blk w.drew b t cs := h
theorem drewN (h : Blk w b t cs) (n : Nat) : Blk (w.drewN n) b t cs := h
theorem set (h : Blk w b t cs) (i : Nat) (v : Value) : Blk (w.setCell ⟨b, i, none⟩ v) b t (cs.set i v) := by
  unfold Blk at h ⊢
  simp only [World.setCell, Array.getElem?_modify, h]
  simp
theorem other (h : Blk w b t cs) {a : Addr} (ha : b ≠ a.block) (v : Value) : Blk (w.setCell a v) b t cs := h.of_block (Below.heap_setCell _ _ _ _ ha)
theorem made (w : World) (z : Value) (n : Nat) (t : TypeId) : Blk (w.alloc (.cells (madeCells #[z] n) t)) w.heap.size t (List.replicate n z) := by
  unfold Blk
  rw [heap_alloc_new]
  congr 2
  apply Array.ext'
  rw [toList_madeCells_one]
theorem new (w : World) (cs : List Value) (t : TypeId) : Blk (w.alloc (.cells cs.toArray t)) w.heap.size t cs := heap_alloc_new w _
end Blk

/-- A slice of integers that the call has made: its block lies from B on. -/
def Own (B : Nat) (w : World) (v : Value) (xs : List Int) : Prop := w.ownsRow B 2 1 v xs.length (xs.map (Value.int .i64))

theorem Own.ints {B : Nat} {w : World} {v : Value} {xs : List Int} (h : Own B w v xs) : Ints w v xs := by
  obtain ⟨hl, h | ⟨g, cap, cur, rfl, hb, hg, hc, hm, hs, ht⟩⟩ := h
  · obtain ⟨rfl, h0⟩ := h
    have : xs = [] := List.eq_nil_of_length_eq_zero h0
    subst this
    exact Ints.nil w
  · refine ⟨_, cap, rfl, hc, hm, fun i hi => ⟨g, 0, rfl, ?_⟩⟩
    have hlt : i < cur.size := by omega
    simp only [World.cell?, hg, Option.isSome_none, Bool.false_eq_true, if_false, Nat.zero_add]
    have h2 : cur.toList[i]? = (xs.map (Value.int .i64))[i]? := by
      rw [← ht, List.getElem?_take, if_pos (by omega)]
    simpa [hi] using h2

theorem Own.mono {B B' : Nat} {w : World} {v : Value} {xs : List Int} (h : Own B w v xs) (hB : B' ≤ B) : Own B' w v xs := by
  obtain ⟨hl, h | ⟨g, cap, cur, hv, hb, r⟩⟩ := h
  · exact ⟨hl, .inl h⟩
  · exact ⟨hl, .inr ⟨g, cap, cur, hv, Nat.le_trans hB hb, r⟩⟩

theorem Own.of_blk {B : Nat} {w : World} {b : Nat} {xs : List Int} (h : Blk w b 2 (xs.map (Value.int .i64))) (hB : B ≤ b) (hm : xs.length ≤ maxLen) {n m : Nat} (hn : n = xs.length) (hm' : m = xs.length) :
    Own B w (.slice (some ⟨b, 0, none⟩) n m) xs := by
  subst hn; subst hm'
  exact ⟨by simp, .inr ⟨b, xs.length, _, rfl, hB, h, Nat.le_refl _, hm, by simp, by simp only [Nat.mul_one]; rw [List.take_of_length_le (by simp)]⟩⟩

theorem Own.nil (B : Nat) (w : World) : Own B w (.slice none 0 0) [] := ⟨rfl, .inl ⟨rfl, rfl⟩⟩

/-- A slice of integers that nobody else holds, opened: a block of its own, its first cells the integers. -/
theorem Own.open {B : Nat} {w : World} {v : Value} {xs : List Int} (h : Own B w v xs) :
    (v = .slice none 0 0 ∧ xs = []) ∨ ∃ g cs, v = .slice (some ⟨g, 0, none⟩) xs.length (xs.length + cs.length) ∧ B ≤ g ∧ Blk w g 2 (xs.map (Value.int .i64) ++ cs) ∧ xs.length + cs.length ≤ maxLen := by
  obtain ⟨hl, h | ⟨g, cap, cur, rfl, hb, hg, hc, hm, hs, ht⟩⟩ := h
  · exact .inl ⟨h.1, List.eq_nil_of_length_eq_zero h.2⟩
  · refine .inr ⟨g, cur.toList.drop xs.length, ?_, hb, ?_, ?_⟩
    · congr 1; simp; omega
    · unfold Blk
      rw [hg, ← ht]
      simp
    · simp; omega

theorem Own.shut {B : Nat} {w : World} {g : Nat} {xs : List Int} {cs : List Value} (h : Blk w g 2 (xs.map (Value.int .i64) ++ cs)) (hB : B ≤ g) (hm : xs.length + cs.length ≤ maxLen) {n m : Nat} (hn : n = xs.length) (hm' : m = xs.length + cs.length) :
    Own B w (.slice (some ⟨g, 0, none⟩) n m) xs := by
  subst hn; subst hm'
  refine ⟨by simp, .inr ⟨g, _, _, rfl, hB, h, by omega, hm, by simp, ?_⟩⟩
  simp only [Nat.mul_one]
  rw [List.take_append_of_le_length (by simp), List.take_of_length_le (by simp)]

/-- What the step leaves as it was: all blocks but those of S. -/
structure Keep (S : Nat → Prop) (w w' : World) : Prop where
  os : w'.os = w.os
  tape : w'.tape = w.tape
  output : w'.output = w.output
  size : w.heap.size ≤ w'.heap.size
  block : ∀ k, k < w.heap.size → ¬ S k → w'.heap[k]? = w.heap[k]?

namespace Keep
variable {S T : Nat → Prop} {w w' w'' : World}
theorem refl (S : Nat → Prop) (w : World) : Keep S w w := ⟨rfl, rfl, rfl, Nat.le_refl _, fun _ _ _ => rfl⟩
theorem trans (h : Keep S w w') (k : Keep S w' w'') : Keep S w w'' :=
  ⟨k.os.trans h.os, k.tape.trans h.tape, k.output.trans h.output, Nat.le_trans h.size k.size, fun i hi hs => (k.block i (Nat.lt_of_lt_of_le hi h.size) hs).trans (h.block i hi hs)⟩
theorem mono (h : Keep S w w') (hs : ∀ k, k < w.heap.size → S k → T k) : Keep T w w' := ⟨h.os, h.tape, h.output, h.size, fun k hk hn => h.block k hk fun x => hn (hs k hk x)⟩
theorem of_below {B : Nat} (h : Below B w w') : Keep (B ≤ ·) w w' := ⟨h.os, h.tape, h.output, h.size, fun k _ hn => h.block k (by omega)⟩
theorem below {B : Nat} (h : Keep S w w') (hs : ∀ k, k < B → k < w.heap.size ∧ ¬ S k) : Below B w w' := ⟨h.os, h.tape, h.output, h.size, fun k hk => h.block k (hs k hk).1 (hs k hk).2⟩
theorem setCell (h : Keep S w w') {p : Addr} (hp : S p.block ∨ w.heap.size ≤ p.block) (u : Value) : Keep S w (w'.setCell p u) :=
  ⟨h.os, h.tape, h.output, by simpa [World.setCell] using h.size, fun k hk hn => by
    rw [Below.heap_setCell _ _ _ _ (by rintro rfl; rcases hp with hp | hp; exact hn hp; omega)]; exact h.block k hk hn⟩
theorem alloc (h : Keep S w w') (o : Obj) : Keep S w (w'.alloc o) :=
  ⟨h.os, h.tape, h.output, by have := h.size; simp; omega, fun k hk hn => by rw [Below.heap_alloc _ _ _ (Nat.lt_of_lt_of_le hk h.size)]; exact h.block k hk hn⟩
theorem drew (h : Keep S w w') : Keep S w w'.drew := ⟨h.os, h.tape, h.output, h.size, h.block⟩
theorem drewN (h : Keep S w w') (n : Nat) : Keep S w (w'.drewN n) := ⟨h.os, h.tape, h.output, h.size, h.block⟩
theorem under (h : Keep S w w') {w3 : World} (k : Below w'.heap.size w' w3) : Keep S w w3 :=
  ⟨k.os.trans h.os, k.tape.trans h.tape, k.output.trans h.output, Nat.le_trans h.size k.size, fun i hi hs => (k.block i (Nat.lt_of_lt_of_le hi h.size)).trans (h.block i hi hs)⟩
end Keep

theorem below_under {B : Nat} {w w' w3 : World} (h : Below B w w') (hB : B ≤ w'.heap.size) (k : Below w'.heap.size w' w3) : Below B w w3 := h.trans (k.mono hB)
/-- One step after the other, each of which leaves all that was there. -/
theorem bb {w w' w3 : World} (h : Below w.heap.size w w') (k : Below w'.heap.size w' w3) : Below w.heap.size w w3 := h.trans (k.mono h.size)
/-- .. seen from an older world. -/
theorem bo {w0 w w' : World} (h : Below w0.heap.size w0 w) (k : Below w.heap.size w w') : Below w0.heap.size w0 w' := bb h k

/-- What is owned from B on stays so under a step that leaves all blocks from B on as they were. -/
theorem Own.keep {B : Nat} {S : Nat → Prop} {w w' : World} {v : Value} {xs : List Int} (h : Own B w v xs) (k : Keep S w w') (hs : ∀ b, B ≤ b → b < w.heap.size → ¬ S b) : Own B w' v xs := by
  obtain ⟨hl, h | ⟨g, cap, cur, hv, hb, hg, r⟩⟩ := h
  · exact ⟨hl, .inl h⟩
  · exact ⟨hl, .inr ⟨g, cap, cur, hv, hb, by rw [k.block g (Array.getElem?_eq_some_iff.1 hg).1 (hs g hb (Array.getElem?_eq_some_iff.1 hg).1)]; exact hg, r⟩⟩

theorem Own.under {B : Nat} {w w' : World} {v : Value} {xs : List Int} (h : Own B w v xs) (hb : Below w.heap.size w w') : Own B w' v xs :=
  h.keep (S := (w.heap.size ≤ ·)) (Keep.of_below hb) (fun b _ h => by omega)

/-- The result is a new slice that reads as xs; nothing that was there has turned. -/
def RInts (w0 : World) (xs : List Int) (e : Ending) (w' : World) : Prop := ∃ r, e = .returned r ∧ Own w0.heap.size w' r xs ∧ Below w0.heap.size w0 w'

/-- .. beside a code. -/
def RIntsC (w0 : World) (xs : List Int) (c : Int) (e : Ending) (w' : World) : Prop := ∃ r, e = .returned (.tuple #[r, .int .i64 c]) ∧ Own w0.heap.size w' r xs ∧ Below w0.heap.size w0 w'

/-- The result is this very value; nothing that was there has turned. -/
def RVal (w0 : World) (v : Value) (e : Ending) (w' : World) : Prop := e = .returned v ∧ Below w0.heap.size w0 w'

theorem Keep.of_grown {w w' : World} {row : Option Nat} (h : w.grownBy w' row) : Keep (fun b => row = some b) w w' :=
  ⟨h.os, h.tape, h.output, h.size, fun k hk hn => h.block k hk (fun e => hn e.symm)⟩

/-- 'append(s, u)' of one element, s a slice that the call itself has made (or nil): a slice of one element more, its own again; no other block turns. -/
theorem wpList_app {P : Program} {ops : Array Oper} {rest : List Oper} {o : Oper} {a : Act} {Q : Exit → Act → World → Prop} (w : World) (hgd : o.guard = none) (s x : Operand) (t : TypeId)
    (ho : o.op = .call { callee := .builtin .append, args := #[s, x], argTypes := #[t, t] }) (base : Nat) (e : TypeId) (z : Value) (bytes : Nat)
    (ht : P.underlying t = some (.slice e)) (hinfo : (P.info? e).map (fun i => (i.zero, i.size, i.bytes)) = some (some z, 1, bytes)) (hz : z.cells.size = 1) (hb : 1 ≤ bytes)
    (v : Value) (n : Nat) (us : List Value) (hs : a.eval s = v) (hown : w.ownsRow base e 1 v n us) (u : Value) (hu : u.oneCell' = true)
    (hx : a.eval x = .slice (some ⟨w.heap.size, 0, none⟩) 1 1) (hn : (n + 1) * bytes ≤ 140737488355328) (hbase : base ≤ w.heap.size)
    (h : ∀ a' c' w', w'.ownsRow base e 1 (.slice a' (n + 1) c') (n + 1) (us ++ [u]) → Keep (fun b => v.ownBlock = some b) w w' → wpList P ops Q rest (a.put o.dst (.slice a' (n + 1) c')) w') :
    wpList P ops Q (o :: rest) a (w.alloc (.cells #[u] e)) := by
  obtain ⟨i0, hi, hz0, hz1, hz2⟩ := info_parts hinfo
  have hn1 : n + 1 ≤ 140737488355328 := Nat.le_trans (Nat.le_mul_of_pos_right _ hb) hn
  refine wpList_append_own _ hgd s x t ho base e i0 z 1 bytes ht hi hz0 hz1 hz2 hz (by decide) v n us hs (hown.alloc _) ⟨w.heap.size, 0, none⟩ 1 1 [u] hx rfl ?_ ?_ ?_ hn (by simp; omega) ?_
  · intro j u' hj
    match j, hj with
    | 0, hj => simp at hj; subst hj; simp [Addr.add]
  · intro u' hu'; simp at hu'; subst hu'; exact hu
  · unfold maxLen; omega
  · intro v' w' hown' hg _
    have hk := (Keep.of_grown hg)
    have hk2 : Keep (fun b => v.ownBlock = some b) w w' := ((Keep.refl _ w).alloc _).trans hk
    rcases hown'.2 with ⟨rfl, h0⟩ | ⟨g, cap, cur, rfl, hr⟩
    · omega
    · exact h _ _ _ hown' hk2

/-- .. at integers. -/
theorem wpList_app_int {ops : Array Oper} {rest : List Oper} {o : Oper} {a : Act} {Q : Exit → Act → World → Prop} (B : Nat) (w : World) (v : Value) (xs : List Int) (y : Int) (s x : Operand) (hgd : o.guard = none)
    (ho : o.op = .call { callee := .builtin .append, args := #[s, x], argTypes := #[26, 26] })
    (hs : a.eval s = v) (hown : Own B w v xs) (hx : a.eval x = .slice (some ⟨w.heap.size, 0, none⟩) 1 1) (hn : xs.length ≤ 1099511627776) (hbase : B ≤ w.heap.size)
    (h : ∀ a' c' w', Own B w' (.slice a' (xs.length + 1) c') (xs ++ [y]) → Keep (fun b => v.ownBlock = some b) w w' → wpList Try.prog ops Q rest (a.put o.dst (.slice a' (xs.length + 1) c')) w') :
    wpList Try.prog ops Q (o :: rest) a (w.alloc (.cells #[.int .i64 y] 2)) :=
  wpList_app w hgd s x 26 ho B 2 (.int .i64 0) 8 Try.underlying26 inf_int64 rfl (by decide) v xs.length _ hs hown (.int .i64 y) rfl hx (by omega) hbase
    fun a' c' w' h1 h2 => h a' c' w' (by simpa [Own] using h1) h2

theorem Own.lt {B : Nat} {w : World} {v : Value} {xs : List Int} (h : Own B w v xs) {k : Nat} (hk : v.ownBlock = some k) : B ≤ k ∧ k < w.heap.size := World.ownsRow.lt h k hk
theorem Own.frame {B B0 : Nat} {w0 w w' : World} {v : Value} {xs : List Int} (h : Own B w v xs) (hb : Below B0 w0 w) (hB : B0 ≤ B) (hs : B0 ≤ w.heap.size) (hk : Keep (fun b => v.ownBlock = some b) w w') : Below B0 w0 w' :=
  hb.trans (hk.below fun k hk' => ⟨by omega, fun e => by have := (h.lt e).1; omega⟩)
theorem Own.shape {B : Nat} {w : World} {v : Value} {xs : List Int} (h : Own B w v xs) : ∃ a c, v = .slice a xs.length c ∧ xs.length ≤ c := by
  obtain ⟨a, c, hv, hc, _⟩ := h.ints
  exact ⟨a, c, hv, hc⟩
theorem Own.made0 {B : Nat} (w : World) (hB : B ≤ w.heap.size) : Own B (w.alloc (.cells #[] 2)) (.slice (some ⟨w.heap.size, 0, none⟩) 0 0) [] :=
  Own.of_blk (xs := []) (heap_alloc_new w _) hB (by decide) rfl rfl

/-- Row values: each a slice of integers of the call's own, no two over one block. -/
structure RowVals (B : Nat) (w : World) (us : List Value) (xss : List (List Int)) : Prop where
  len : us.length = xss.length
  own : ∀ i (h : i < us.length) (h' : i < xss.length), Own B w us[i] xss[i]
  apart : us.Pairwise (fun a b => a.ownBlock = none ∨ a.ownBlock ≠ b.ownBlock)

/-- Row number x; the empty list if there is none. -/
def row (t : List (List Int)) (x : Int) : List Int := t.getD x.toNat []
theorem row_nat (t : List (List Int)) (k : Nat) (h : k < t.length) : row t k = t[k] := by simp [row, h]
theorem take_snoc_row (t : List (List Int)) (k : Nat) (h : k < t.length) : t.take (k+1) = t.take k ++ [row t k] := by
  rw [List.take_succ_eq_append_getElem h, row_nat t k h]
theorem row_mem {t : List (List Int)} {x : Int} (h0 : 0 ≤ x) (h : x < t.length) : row t x ∈ t := by
  have : x.toNat < t.length := by omega
  simp [row, this]

theorem Rows.shape {w : World} {v : Value} {t : List (List Int)} (h : Rows w v t) : ∃ a c, v = .slice a t.length c ∧ t.length ≤ c ∧ c ≤ 9223372036854775807 := by
  obtain ⟨a, c, hv, hc, hm, _⟩ := h
  exact ⟨a, c, hv, hc, by unfold maxLen at hm; omega⟩
theorem Rows.get {w : World} {a : Option Addr} {n c : Nat} {t : List (List Int)} (h : Rows w (.slice a n c) t) (k : Nat) (hk : k < t.length) :
    ∃ b o u, a = some ⟨b, o, none⟩ ∧ w.cell? ⟨b, o + k, none⟩ = some u ∧ Ints w u (row t k) := by
  obtain ⟨a', c', hv, _, _, hc⟩ := h
  cases hv
  rw [row_nat _ _ hk]
  exact hc k hk
theorem Rows.geti {w : World} {a : Option Addr} {n c : Nat} {t : List (List Int)} (h : Rows w (.slice a n c) t) (x : Int) (h0 : 0 ≤ x) (hk : x < t.length) :
    ∃ b o u, a = some ⟨b, o, none⟩ ∧ w.cell? ⟨b, o + x.toNat, none⟩ = some u ∧ Ints w u (row t x) := by
  have := h.get x.toNat (by omega)
  rwa [show ((x.toNat : Nat) : Int) = x from by omega] at this
/-- The cell of a row, of a table whose address is known; the row's value written out. -/
theorem Rows.at {w : World} {b o n c : Nat} {t : List (List Int)} (h : Rows w (.slice (some ⟨b, o, none⟩) n c) t) (k : Nat) (hk : k < t.length) :
    ∃ a' c', w.cell? ⟨b, o + k, none⟩ = some (.slice a' (row t k).length c') ∧ Ints w (.slice a' (row t k).length c') (row t k) := by
  obtain ⟨b', o', u, e, h1, h2⟩ := h.get k hk
  cases e
  obtain ⟨a', c', rfl, _, _⟩ := h2.shape
  exact ⟨a', c', h1, h2⟩
theorem Rows.ati {w : World} {b o n c : Nat} {t : List (List Int)} (h : Rows w (.slice (some ⟨b, o, none⟩) n c) t) (x : Int) (h0 : 0 ≤ x) (hk : x < t.length) :
    ∃ a' c', w.cell? ⟨b, o + x.toNat, none⟩ = some (.slice a' (row t x).length c') ∧ Ints w (.slice a' (row t x).length c') (row t x) := by
  have := h.at x.toNat (by omega)
  rwa [show ((x.toNat : Nat) : Int) = x from by omega] at this

theorem Rows.getS {w : World} {a : Option Addr} {n c : Nat} {t : List (List Int)} (h : Rows w (.slice a n c) t) (k : Nat) (hk : k < t.length) :
    ∃ b o a' c', a = some ⟨b, o, none⟩ ∧ w.cell? ⟨b, o + k, none⟩ = some (.slice a' (row t k).length c') ∧ Ints w (.slice a' (row t k).length c') (row t k) := by
  obtain ⟨b, o, u, rfl, h1, h2⟩ := h.get k hk
  obtain ⟨a', c', rfl, _, _⟩ := h2.shape
  exact ⟨b, o, a', c', rfl, h1, h2⟩
theorem Rows.getSi {w : World} {a : Option Addr} {n c : Nat} {t : List (List Int)} (h : Rows w (.slice a n c) t) (x : Int) (h0 : 0 ≤ x) (hk : x < t.length) :
    ∃ b o a' c', a = some ⟨b, o, none⟩ ∧ w.cell? ⟨b, o + x.toNat, none⟩ = some (.slice a' (row t x).length c') ∧ Ints w (.slice a' (row t x).length c') (row t x) := by
  have := h.getS x.toNat (by omega)
  rwa [show ((x.toNat : Nat) : Int) = x from by omega] at this

theorem RowVals.nil (B : Nat) (w : World) : RowVals B w [] [] := ⟨rfl, fun i h => absurd h (Nat.not_lt_zero _), List.Pairwise.nil⟩
theorem RowVals.keep {B : Nat} {S : Nat → Prop} {w w' : World} {us : List Value} {xss : List (List Int)} (h : RowVals B w us xss) (k : Keep S w w') (hs : ∀ b, B ≤ b → b < w.heap.size → ¬ S b) : RowVals B w' us xss :=
  ⟨h.len, fun i hi hi' => (h.own i hi hi').keep k hs, h.apart⟩
theorem RowVals.under {B : Nat} {w w' : World} {us : List Value} {xss : List (List Int)} (h : RowVals B w us xss) (hb : Below w.heap.size w w') : RowVals B w' us xss :=
  ⟨h.len, fun i hi hi' => (h.own i hi hi').under hb, h.apart⟩
theorem RowVals.mono {B B' : Nat} {w : World} {us : List Value} {xss : List (List Int)} (h : RowVals B w us xss) (hB : B' ≤ B) : RowVals B' w us xss :=
  ⟨h.len, fun i hi hi' => (h.own i hi hi').mono hB, h.apart⟩
/-- A new row, made when the others were there already. -/
theorem RowVals.snoc {B : Nat} {w w' : World} {us : List Value} {xss : List (List Int)} (h : RowVals B w us xss) (hb : Below w.heap.size w w') {u : Value} {xs : List Int} (hu : Own w.heap.size w' u xs) (hB : B ≤ w.heap.size) :
    RowVals B w' (us ++ [u]) (xss ++ [xs]) := by
  refine ⟨by simp [h.len], fun i hi hi' => ?_, ?_⟩
  · by_cases e : i < us.length
    · rw [List.getElem_append_left e, List.getElem_append_left (by rw [← h.len]; exact e)]
      exact (h.own i e (by rw [← h.len]; exact e)).under hb
    · have e2 : i = us.length := by simp at hi; omega
      subst e2
      rw [List.getElem_append_right (Nat.le_refl _), List.getElem_append_right (by rw [h.len]; exact Nat.le_refl _)]
      simp only [h.len, Nat.sub_self, List.getElem_cons_zero]
      exact hu.mono hB
  · rw [List.pairwise_append]
    refine ⟨h.apart, by simp, fun a ha b hb' => ?_⟩
    simp at hb'; subst hb'
    obtain ⟨i, hi, rfl⟩ := List.getElem_of_mem ha
    have ho := h.own i hi (by rw [← h.len]; exact hi)
    cases e : (us[i]).ownBlock with
    | none => exact .inl rfl
    | some g =>
      refine .inr fun e2 => ?_
      have h1 := ho.lt e
      have h2 := (hu.lt (k := g) (by rw [← e2]))
      omega

/-- A table of the call's own: its outer row and its rows from B on, no two over one block. -/
def OwnRows (B : Nat) (w : World) (v : Value) (xss : List (List Int)) : Prop :=
  ∃ us, w.ownsRow B 26 1 v us.length us ∧ RowVals B w us xss

theorem ownsRow_keep {B : Nat} {S : Nat → Prop} {w w' : World} {t : TypeId} {v : Value} {us : List Value} (h : w.ownsRow B t 1 v us.length us) (k : Keep S w w') (hs : ∀ b, B ≤ b → b < w.heap.size → ¬ S b) : w'.ownsRow B t 1 v us.length us := by
  obtain ⟨hl, h | ⟨g, cap, cur, hv, hb, hg, r⟩⟩ := h
  · exact ⟨hl, .inl h⟩
  · exact ⟨hl, .inr ⟨g, cap, cur, hv, hb, by rw [k.block g (Array.getElem?_eq_some_iff.1 hg).1 (hs g hb (Array.getElem?_eq_some_iff.1 hg).1)]; exact hg, r⟩⟩
theorem ownsRow_mono {B B' : Nat} {w : World} {t : TypeId} {v : Value} {us : List Value} (h : w.ownsRow B t 1 v us.length us) (hB : B' ≤ B) : w.ownsRow B' t 1 v us.length us := by
  obtain ⟨hl, h | ⟨g, cap, cur, hv, hb, r⟩⟩ := h
  · exact ⟨hl, .inl h⟩
  · exact ⟨hl, .inr ⟨g, cap, cur, hv, Nat.le_trans hB hb, r⟩⟩
theorem ownsRow_cells {B : Nat} {w : World} {t : TypeId} {v : Value} {us : List Value} (h : w.ownsRow B t 1 v us.length us) :
    ∃ (a : Option Addr) (c : Nat), v = .slice a us.length c ∧ us.length ≤ c ∧ c ≤ maxLen ∧ ∀ i (hi : i < us.length), ∃ g, a = some ⟨g, 0, none⟩ ∧ w.cell? ⟨g, i, none⟩ = some us[i] := by
  obtain ⟨hl, h | ⟨g, cap, cur, rfl, hb, hg, hc, hm, hs, ht⟩⟩ := h
  · have : us = [] := List.eq_nil_of_length_eq_zero h.2
    subst this
    exact ⟨none, 0, h.1, Nat.le_refl _, by decide, fun i hi => absurd hi (Nat.not_lt_zero _)⟩
  · refine ⟨_, cap, rfl, hc, hm, fun i hi => ⟨g, rfl, ?_⟩⟩
    have hlt : i < cur.size := by omega
    simp only [World.cell?, hg, Option.isSome_none, Bool.false_eq_true, if_false]
    have h2 : cur.toList[i]? = us[i]? := by rw [← ht, List.getElem?_take, if_pos (by omega)]
    simpa [hi] using h2
theorem OwnRows.keep {B : Nat} {S : Nat → Prop} {w w' : World} {v : Value} {xss : List (List Int)} (h : OwnRows B w v xss) (k : Keep S w w') (hs : ∀ b, B ≤ b → b < w.heap.size → ¬ S b) : OwnRows B w' v xss := by
  obtain ⟨us, h1, h2⟩ := h
  exact ⟨us, ownsRow_keep h1 k hs, h2.keep k hs⟩
theorem OwnRows.under {B : Nat} {w w' : World} {v : Value} {xss : List (List Int)} (h : OwnRows B w v xss) (hb : Below w.heap.size w w') : OwnRows B w' v xss :=
  h.keep (S := (w.heap.size ≤ ·)) (Keep.of_below hb) (fun b _ h => by omega)
theorem OwnRows.mono {B B' : Nat} {w : World} {v : Value} {xss : List (List Int)} (h : OwnRows B w v xss) (hB : B' ≤ B) : OwnRows B' w v xss := by
  obtain ⟨us, h1, h2⟩ := h
  exact ⟨us, ownsRow_mono h1 hB, h2.mono hB⟩
theorem OwnRows.nil (B : Nat) (w : World) : OwnRows B w (.slice none 0 0) [] := ⟨[], ⟨rfl, .inl ⟨rfl, rfl⟩⟩, RowVals.nil B w⟩
theorem OwnRows.rows {B : Nat} {w : World} {v : Value} {xss : List (List Int)} (h : OwnRows B w v xss) : Rows w v xss := by
  obtain ⟨us, h1, h2⟩ := h
  obtain ⟨a, c, hv, hc, hm, hcell⟩ := ownsRow_cells h1
  rw [h2.len] at hv hc
  refine ⟨a, c, hv, hc, hm, fun i hi => ?_⟩
  have hi' : i < us.length := by rw [h2.len]; exact hi
  obtain ⟨g, ha, hg⟩ := hcell i hi'
  exact ⟨g, 0, us[i], ha, by rwa [Nat.zero_add], (h2.own i hi' hi).ints⟩

theorem fill_cell0 {w : World} {b : Nat} {t : TypeId} {cs : List Value} (h : Blk w b t cs) {k : Nat} (hk : k < cs.length) : ∃ u, w.cell? ⟨b, k, none⟩ = some u := ⟨_, h.cell hk⟩
theorem ownsRow_blk {B : Nat} {w : World} {b : Nat} {t : TypeId} {us : List Value} (h : Blk w b t us) (hB : B ≤ b) {n m : Nat} (hn : n = us.length) (hm : m = us.length) (hmax : us.length ≤ maxLen) :
    w.ownsRow B t 1 (.slice (some ⟨b, 0, none⟩) n m) us.length us := by
  subst hn; subst hm
  exact ⟨by simp, .inr ⟨b, us.length, _, rfl, hB, h, Nat.le_refl _, hmax, by simp, by simp⟩⟩
/-- A row of integers lies in no block of another element type. -/
theorem Own.ne {B : Nat} {w : World} {v : Value} {xs : List Int} (h : Own B w v xs) {g : Nat} {t : TypeId} {cs : List Value} (hg : Blk w g t cs) (ht : t ≠ 2) : v.ownBlock ≠ some g := by
  obtain ⟨hl, h | ⟨g', cap, cur, hv, hb, hg', r⟩⟩ := h
  · rw [h.1]; simp [Value.ownBlock]
  · rw [hv]
    intro e
    simp [Value.ownBlock] at e
    subst e
    unfold Blk at hg
    rw [hg'] at hg
    simp at hg
    exact ht hg.2.symm
theorem Own.setOther {B : Nat} {w : World} {v : Value} {xs : List Int} (h : Own B w v xs) {a : Addr} (ha : v.ownBlock ≠ some a.block) (u : Value) : Own B (w.setCell a u) v xs := ownsRow_setCell_other h ha u
/-- A store into a block of another element type leaves the rows. -/
theorem RowVals.store {B : Nat} {w : World} {us : List Value} {xss : List (List Int)} (h : RowVals B w us xss) {g : Nat} {t : TypeId} {cs : List Value} (hg : Blk w g t cs) (ht : t ≠ 2) (i : Nat) (u : Value) :
    RowVals B (w.setCell ⟨g, i, none⟩ u) us xss :=
  ⟨h.len, fun j hj hj' => (h.own j hj hj').setOther (a := ⟨g, i, none⟩) ((h.own j hj hj').ne hg ht) u, h.apart⟩

theorem boxes1' (w : World) (c0 : List Value) (t0 : TypeId) :
    Blk (w.alloc (.cells c0.toArray t0)) w.heap.size t0 c0 ∧ Below w.heap.size w (w.alloc (.cells c0.toArray t0)) ∧ (w.alloc (.cells c0.toArray t0)).heap.size = w.heap.size + 1 :=
  ⟨Blk.new w c0 t0, (Below.refl _ _).alloc (Nat.le_refl _) _, by simp⟩

/-- The result is a new table; nothing that was there has turned. -/
def RRows (w0 : World) (xss : List (List Int)) (e : Ending) (w' : World) : Prop := ∃ r, e = .returned r ∧ OwnRows w0.heap.size w' r xss ∧ Below w0.heap.size w0 w'
def RRowsC (w0 : World) (xss : List (List Int)) (c : Int) (e : Ending) (w' : World) : Prop := ∃ r, e = .returned (.tuple #[r, .int .i64 c]) ∧ OwnRows w0.heap.size w' r xss ∧ Below w0.heap.size w0 w'

/-- This very value, and only draws. -/
def QVal (w0 : World) (v : Value) (e : Ending) (w' : World) : Prop := e = .returned v ∧ ∃ n, w' = w0.drewN n
theorem QVal.r {w0 : World} {v : Value} {e : Ending} {w' : World} (h : QVal w0 v e w') : RVal w0 v e w' := by
  obtain ⟨he, n, hn⟩ := h
  subst hn
  exact ⟨he, below_drewN (Below.refl _ _) n⟩

theorem ret_int {k : IntKind} {a b : Int} (h : a = b) : Ending.returned (.int k a) = .returned (.int k b) := by rw [h]
theorem ret_bool {a b : Bool} (h : a = b) : Ending.returned (.bool a) = .returned (.bool b) := by rw [h]

end Go.Proofs.Ytgmhnjccgldddaa
