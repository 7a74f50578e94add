/-
  A table out of a function value (impl.tableBy), the transposed table, the renamed table; and the reference's ways. Condition: indices fit.
-/
import Derived.Test.YtnbhghgkjcfcmaaDoorI2
import Derived.Test.YtnbhghgkjcfcmaaDoorI1c
import Derived.Deep.RegionHeld3
namespace Go.Proofs.YtnbhghgkjcfcmaaDoor
set_option linter.unusedVariables false
set_option linter.unusedSimpArgs false
open Go.RowKit

/-- The table of n elements with these values. -/
def tabOf (n : Nat) (g : Int → Int → Int) : List (List Int) := (List.range n).map fun (x : Nat) => (List.range n).map fun (y : Nat) => g x y
def rowOf (n : Nat) (g : Int → Int) : List Int := (List.range n).map fun (y : Nat) => g y
@[simp] theorem tabOf_length (n : Nat) (g : Int → Int → Int) : (tabOf n g).length = n := by simp [tabOf]
@[simp] theorem rowOf_length (n : Nat) (g : Int → Int) : (rowOf n g).length = n := by simp [rowOf]
theorem row_tabOf (n : Nat) (g : Int → Int → Int) (k : Nat) (h : k < n) : row (tabOf n g) k = rowOf n (g k) := by
  rw [row_nat _ _ (by simpa using h)]; simp [tabOf, rowOf]
theorem nth_rowOf (n : Nat) (g : Int → Int) (k : Nat) (h : k < n) : nth (rowOf n g) k = g k := by
  rw [nth_nat _ _ (by simpa using h)]; simp [rowOf]
theorem nth_rowOfi (n : Nat) (g : Int → Int) (x : Int) (h0 : 0 ≤ x) (h : x < n) : nth (rowOf n g) x = g x := by
  have := nth_rowOf n g x.toNat (by omega)
  rwa [show ((x.toNat : Nat) : Int) = x from by omega] at this
theorem row_tabOfi (n : Nat) (g : Int → Int → Int) (x : Int) (h0 : 0 ≤ x) (h : x < n) : row (tabOf n g) x = rowOf n (g x) := by
  have := row_tabOf n g x.toNat (by omega)
  rwa [show ((x.toNat : Nat) : Int) = x from by omega] at this
theorem rowOf_congr {n : Nat} {g h : Int → Int} (e : ∀ y : Nat, y < n → g y = h y) : rowOf n g = rowOf n h := by
  unfold rowOf; exact List.map_congr_left fun y hy => e y (List.mem_range.1 hy)
theorem tabOf_congr {n : Nat} {g h : Int → Int → Int} (e : ∀ x y : Nat, x < n → y < n → g x y = h x y) : tabOf n g = tabOf n h := by
  unfold tabOf; exact List.map_congr_left fun x hx => List.map_congr_left fun y hy => e x y (List.mem_range.1 hx) (List.mem_range.1 hy)

/-- What is asked of the function value: at every two indices, in every world in which all that lay lies as it lay, it answers g. -/
def Pays2 (w : World) (f : FuncId) (lb : Array Value) (n : Nat) (g : Int → Int → Int) : Prop :=
  ∀ W (x y : Nat), Below w.heap.size w W → x < n → y < n → Calls Tryd.prog f (#[.int .i64 x, .int .i64 y] ++ lb) W (RVal W (.int .i64 (g x y)))

theorem RowVals.add {B : Nat} {w : World} {us : List Value} {xss : List (List Int)} (h : RowVals B w us xss) {g : Nat} {xs : List Int} (hb : Blk w g 2 (xs.map (Value.int .i64))) (hB : B ≤ g) (hm : xs.length ≤ maxLen)
    (hlt : ∀ i (hi : i < us.length) k, us[i].ownBlock = some k → k < g) {n m : Nat} (hn : n = xs.length) (hm' : m = xs.length) : RowVals B w (us ++ [.slice (some ⟨g, 0, none⟩) n m]) (xss ++ [xs]) := by
  refine ⟨by simp [h.len], fun i hi hi' => ?_, ?_⟩
  · by_cases e : i < us.length
    · rw [List.getElem_append_left e, List.getElem_append_left (by rw [← h.len]; exact e)]
      exact h.own i e (by rw [← h.len]; exact e)
    · have e2 : i = us.length := by simp at hi; omega
      subst e2
      rw [List.getElem_append_right (Nat.le_refl _), List.getElem_append_right (by rw [h.len]; exact Nat.le_refl _)]
      simp only [h.len, Nat.sub_self, List.getElem_cons_zero]
      exact Own.of_blk hb hB hm hn hm'
  · rw [List.pairwise_append]
    refine ⟨h.apart, by simp, fun a ha b hb' => ?_⟩
    simp at hb'; subst hb'
    obtain ⟨i, hi, rfl⟩ := List.getElem_of_mem ha
    cases e : (us[i]).ownBlock with
    | none => exact .inl rfl
    | some k =>
      refine .inr fun e2 => ?_
      have h1 := hlt i hi k e
      simp [Value.ownBlock] at e2
      omega
theorem RowVals.lt {B : Nat} {w : World} {us : List Value} {xss : List (List Int)} (h : RowVals B w us xss) (i : Nat) (hi : i < us.length) (k : Nat) (hk : us[i].ownBlock = some k) : k < w.heap.size :=
  ((h.own i hi (by rw [← h.len]; exact hi)).lt hk).2
theorem RowVals.setOther {B : Nat} {w : World} {us : List Value} {xss : List (List Int)} (h : RowVals B w us xss) {a : Addr} (ha : ∀ i (hi : i < us.length) k, us[i].ownBlock = some k → k ≠ a.block) (u : Value) : RowVals B (w.setCell a u) us xss :=
  ⟨h.len, fun j hj hj' => (h.own j hj hj').setOther (by intro e; exact ha j hj _ e rfl) u, h.apart⟩

theorem vals_set0 (us : List Value) (n : Nat) (z u : Value) (k : Nat) (hl : us.length = k) (hk : k < n) :
    (us ++ (List.replicate n z).drop k).set k u = us ++ [u] ++ (List.replicate n z).drop (k+1) := by
  rw [List.set_append, if_neg (by omega), hl, Nat.sub_self, List.drop_eq_getElem_cons (by simpa using hk)]
  simp only [List.set_cons_zero, List.append_assoc, List.cons_append, List.nil_append]

theorem boxes2' (w : World) (c0 c1 : List Value) (t0 t1 : TypeId) :
    Blk ((w.alloc (.cells c0.toArray t0)).alloc (.cells c1.toArray t1)) w.heap.size t0 c0 ∧
    Blk ((w.alloc (.cells c0.toArray t0)).alloc (.cells c1.toArray t1)) (w.heap.size + 1) t1 c1 ∧
    Below w.heap.size w ((w.alloc (.cells c0.toArray t0)).alloc (.cells c1.toArray t1)) ∧
    ((w.alloc (.cells c0.toArray t0)).alloc (.cells c1.toArray t1)).heap.size = w.heap.size + 2 := by
  have e1 : (w.alloc (.cells c0.toArray t0)).heap.size = w.heap.size + 1 := by simp
  have h0 := Blk.new w c0 t0
  have h1 := Blk.new (w.alloc (.cells c0.toArray t0)) c1 t1
  rw [e1] at h1
  exact ⟨h0.alloc _, h1, ((Below.refl _ _).alloc (Nat.le_refl _) _).alloc (by omega) _, by simp⟩
theorem hcell_of {w : World} {b t : Nat} {us : List Value} {u : Value} {rest : List Value} {k n : Nat} (hu : Hid (us.length = k)) (h : Blk w b t (us ++ [u] ++ rest)) (_ : k < n) : w.cell? ⟨b, k, none⟩ = some u := by
  have hu' := hu.out
  have h0 := h.cell (i := k) (by simp; omega)
  rw [List.getElem_append_left (by simp; omega), List.getElem_append_right (by omega)] at h0
  simpa [hu'] using h0


/-- The value of a table at two indices. -/
def val2 (t : List (List Int)) (x y : Int) : Int := nth (row t x) y
theorem isTab_row {t : List (List Int)} (h : isTab t = true) {x : Int} (h0 : 0 ≤ x) (h1 : x < t.length) : (row t x).length = t.length := by
  simp only [isTab, Bool.and_eq_true, Bool.not_eq_true', List.any_eq_false] at h
  have := h.2 _ (row_mem h0 h1)
  simp [rowBad] at this
  exact this.1
theorem isTab_val {t : List (List Int)} (h : isTab t = true) {r : List Int} (hr : r ∈ t) {x : Int} (hx : x ∈ r) : 0 ≤ x ∧ x < t.length := by
  simp only [isTab, Bool.and_eq_true, Bool.not_eq_true', List.any_eq_false] at h
  have := h.2 _ hr
  simp [rowBad] at this
  have := this.2 x hx
  simp [inR] at this; omega
theorem isTab_len {t : List (List Int)} (h : isTab t = true) : 1 ≤ t.length ∧ t.length ≤ 12 := by
  simp [isTab, inR] at h; omega

/-- As many rows as columns. -/
def Sq (t : List (List Int)) : Prop := t.length ≤ 12 ∧ ∀ x : Int, 0 ≤ x → x < t.length → (row t x).length = t.length
theorem isTab_sq {t : List (List Int)} (h : isTab t = true) : Sq t := ⟨(isTab_len h).2, fun _ h0 h1 => isTab_row h h0 h1⟩
def transL (t : List (List Int)) : List (List Int) := tabOf t.length fun x y => val2 t y x
@[simp] theorem transL_length (t : List (List Int)) : (transL t).length = t.length := by simp [transL]


end Go.Proofs.YtnbhghgkjcfcmaaDoor
