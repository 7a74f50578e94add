/-
  A table at a known place in memory: where its rows lie, what its values are; and the first place at which a test on two or three numbers is met. No statement is proved here.
-/
import Derived.Test.YtgmhnjccgldddaaI2b
import Derived.Test.YtgmhnjccgldddaaI4
namespace Go.Proofs.Ytgmhnjccgldddaa
set_option linter.unusedVariables false
set_option linter.unusedSimpArgs false
open Go.RowKit

/-- A table of n rows at place o of block b; row x lies at place ro x of block rb x. -/
structure TabAt (w : World) (b o n : Nat) (t : List (List Int)) (rb ro rc : Nat → Nat) : Prop where
  row : ∀ x, x < n → w.cell? ⟨b, o + x, none⟩ = some (.slice (some ⟨rb x, ro x, none⟩) n (rc x))
  val : ∀ x y, x < n → y < n → w.cell? ⟨rb x, ro x + y, none⟩ = some (.int .i64 (val2 t x y))
  rng : ∀ x y : Int, 0 ≤ x → x < n → 0 ≤ y → y < n → 0 ≤ val2 t x y ∧ val2 t x y < n

namespace TabAt
variable {w w' : World} {b o n : Nat} {t : List (List Int)} {rb ro rc : Nat → Nat}
theorem below (h : TabAt w b o n t rb ro rc) (hb : Below w.heap.size w w') : TabAt w' b o n t rb ro rc :=
  ⟨fun x hx => cell_under hb (h.row x hx), fun x y hx hy => cell_under hb (h.val x y hx hy), h.rng⟩
theorem rowi (h : TabAt w b o n t rb ro rc) (x : Int) (h0 : 0 ≤ x) (h1 : x < n) : w.cell? ⟨b, o + x.toNat, none⟩ = some (.slice (some ⟨rb x.toNat, ro x.toNat, none⟩) n (rc x.toNat)) := h.row _ (by omega)
theorem vali (h : TabAt w b o n t rb ro rc) (x y : Int) (h0 : 0 ≤ x) (h1 : x < n) (g0 : 0 ≤ y) (g1 : y < n) : w.cell? ⟨rb x.toNat, ro x.toNat + y.toNat, none⟩ = some (.int .i64 (val2 t x y)) := by
  have := h.val x.toNat y.toNat (by omega) (by omega)
  rwa [show ((x.toNat : Nat) : Int) = x from by omega, show ((y.toNat : Nat) : Int) = y from by omega] at this
theorem vin (h : TabAt w b o n t rb ro rc) (x : Int) (y : Nat) (h0 : 0 ≤ x) (h1 : x < n) (g1 : y < n) : w.cell? ⟨rb x.toNat, ro x.toNat + y, none⟩ = some (.int .i64 (val2 t x y)) := by
  have := h.val x.toNat y (by omega) g1
  rwa [show ((x.toNat : Nat) : Int) = x from by omega] at this
theorem vni (h : TabAt w b o n t rb ro rc) (x : Nat) (y : Int) (h1 : x < n) (g0 : 0 ≤ y) (g1 : y < n) : w.cell? ⟨rb x, ro x + y.toNat, none⟩ = some (.int .i64 (val2 t x y)) := by
  have := h.val x y.toNat h1 (by omega)
  rwa [show ((y.toNat : Nat) : Int) = y from by omega] at this
end TabAt

theorem Rows.tab {w : World} {v : Value} {t : List (List Int)} (h : Rows w v t) (ht : isTab t = true) :
    ∃ (n b o c : Nat) (rb ro rc : Nat → Nat), v = .slice (some ⟨b, o, none⟩) n c ∧ t.length = n ∧ 1 ≤ n ∧ n ≤ 12 ∧ n ≤ c ∧ c ≤ 9223372036854775807 ∧ TabAt w b o n t rb ro rc := by
  obtain ⟨hl1, hl2⟩ := isTab_len ht
  obtain ⟨a, c, rfl, hc, hm⟩ := h.shape
  obtain ⟨b, o, _, _, rfl, _, _⟩ := h.getS 0 (by omega)
  have each : ∀ x, x < t.length → ∃ r : Nat × Nat × Nat, w.cell? ⟨b, o + x, none⟩ = some (.slice (some ⟨r.1, r.2.1, none⟩) t.length r.2.2) ∧ ∀ y, y < t.length → w.cell? ⟨r.1, r.2.1 + y, none⟩ = some (.int .i64 (val2 t x y)) := by
    intro x hx
    obtain ⟨b', o', a', c', e, h1, h2⟩ := h.getS x hx
    cases e
    have hl := isTab_row ht (x := x) (by omega) (by omega)
    obtain ⟨b2, o2, rfl, _⟩ := h2.get 0 (by omega)
    refine ⟨⟨b2, o2, c'⟩, by rw [← hl]; exact h1, fun y hy => ?_⟩
    exact h2.at y (by omega)
  have hex : ∃ f : Nat → Nat × Nat × Nat, ∀ x, x < t.length → w.cell? ⟨b, o + x, none⟩ = some (.slice (some ⟨(f x).1, (f x).2.1, none⟩) t.length (f x).2.2) ∧ ∀ y, y < t.length → w.cell? ⟨(f x).1, (f x).2.1 + y, none⟩ = some (.int .i64 (val2 t x y)) := by
    refine ⟨fun x => if hx : x < t.length then Classical.choose (each x hx) else default, fun x hx => ?_⟩
    simp only [hx, dite_true]
    exact Classical.choose_spec (each x hx)
  obtain ⟨f, hf⟩ := hex
  exact ⟨t.length, b, o, c, fun x => (f x).1, fun x => (f x).2.1, fun x => (f x).2.2, rfl, rfl, hl1, hl2, hc, hm, fun x hx => (hf x hx).1, fun x y hx hy => (hf x hx).2 y hy,
    fun x y h0 h1 g0 g1 => isTab_val ht (row_mem h0 h1) (nth_mem g0 (by rw [isTab_row ht h0 h1]; exact g1))⟩

theorem isPM_parts {A B : List (List Int)} (h : isPM A B = true) : isTab A = true ∧ isTab B = true ∧ A.length = B.length := by
  simp [isPM] at h; exact ⟨h.1.1, h.1.2, h.2⟩

theorem Sol.tabs {w : World} {v1 v2 : Value} {A B : List (List Int)} (h : Sol w v1 v2 A B) (hp : isPM A B = true) :
    ∃ (n b1 o1 c1 : Nat) (rb1 ro1 rc1 : Nat → Nat) (b2 o2 c2 : Nat) (rb2 ro2 rc2 : Nat → Nat), v1 = .slice (some ⟨b1, o1, none⟩) n c1 ∧ v2 = .slice (some ⟨b2, o2, none⟩) n c2 ∧ A.length = n ∧ B.length = n ∧ 1 ≤ n ∧ n ≤ 12 ∧
      n ≤ c1 ∧ c1 ≤ 9223372036854775807 ∧ n ≤ c2 ∧ c2 ≤ 9223372036854775807 ∧ TabAt w b1 o1 n A rb1 ro1 rc1 ∧ TabAt w b2 o2 n B rb2 ro2 rc2 := by
  obtain ⟨h1, h2, h3⟩ := isPM_parts hp
  obtain ⟨n, b1, o1, c1, rb1, ro1, rc1, e1, l1, n1, n2, x1, x2, t1⟩ := h.1.tab h1
  obtain ⟨m, b2, o2, c2, rb2, ro2, rc2, e2, l2, _, _, y1, y2, t2⟩ := h.2.tab h2
  obtain rfl : m = n := by omega
  exact ⟨m, b1, o1, c1, rb1, ro1, rc1, b2, o2, c2, rb2, ro2, rc2, e1, e2, l1, l2, n1, n2, x1, x2, y1, y2, t1, t2⟩

/-- The first pair of numbers below n and m that meets P. -/
def find2 (n m : Nat) (P : Nat → Nat → Bool) : Option (Nat × Nat) := (List.range n).findSome? fun a => ((List.range m).find? (P a)).map fun b => (a, b)
theorem find_range {m : Nat} {P : Nat → Bool} {b : Nat} (hb : b < m) (h : P b = true) (hn : ∀ j, j < b → P j = false) : (List.range m).find? P = some b := by
  rw [List.find?_range_eq_some]
  exact ⟨h, by simpa using hb, fun j hj => by simp [hn j hj]⟩
theorem find_range_none {m : Nat} {P : Nat → Bool} (hn : ∀ j, j < m → P j = false) : (List.range m).find? P = none := by
  rw [List.find?_eq_none]; intro x hx; simp [hn x (by simpa using hx)]
theorem findSome_range {α : Type} {m : Nat} {f : Nat → Option α} {b : Nat} {r : α} (hb : b < m) (h : f b = some r) (hn : ∀ j, j < b → f j = none) : (List.range m).findSome? f = some r := by
  induction m with
  | zero => omega
  | succ m ih =>
    rw [List.range_succ, List.findSome?_append]
    by_cases e : b < m
    · rw [ih e]; rfl
    · obtain rfl : b = m := by omega
      rw [List.findSome?_eq_none_iff.2 (fun x hx => hn x (by simpa using hx))]
      simp [h]
theorem find2_hit {n m : Nat} {P : Nat → Nat → Bool} {a b : Nat} (ha : a < n) (hb : b < m) (h : P a b = true) (h1 : ∀ x, x < a → ∀ y, y < m → P x y = false) (h2 : ∀ y, y < b → P a y = false) : find2 n m P = some (a, b) := by
  unfold find2
  refine findSome_range ha ?_ fun j hj => ?_
  · rw [find_range hb h h2]; rfl
  · rw [find_range_none (h1 j hj)]; rfl
theorem find2_none {n m : Nat} {P : Nat → Nat → Bool} (h1 : ∀ x, x < n → ∀ y, y < m → P x y = false) : find2 n m P = none := by
  unfold find2
  rw [List.findSome?_eq_none_iff]
  intro x hx
  rw [find_range_none (h1 x (by simpa using hx))]; rfl
/-- The first three numbers below n that meet P. -/
def find3 (n : Nat) (P : Nat → Nat → Nat → Bool) : Option (Nat × Nat × Nat) := (List.range n).findSome? fun a => (find2 n n (P a)).map fun b => (a, b)
theorem find3_hit {n : Nat} {P : Nat → Nat → Nat → Bool} {a b c : Nat} (ha : a < n) (hb : b < n) (hc : c < n) (h : P a b c = true) (h1 : ∀ x, x < a → ∀ y, y < n → ∀ z, z < n → P x y z = false)
    (h2 : ∀ y, y < b → ∀ z, z < n → P a y z = false) (h3 : ∀ z, z < c → P a b z = false) : find3 n P = some (a, b, c) := by
  unfold find3
  refine findSome_range ha ?_ fun j hj => ?_
  · rw [find2_hit hb hc h h2 h3]; rfl
  · rw [find2_none (h1 j hj)]; rfl
theorem find3_none {n : Nat} {P : Nat → Nat → Nat → Bool} (h1 : ∀ x, x < n → ∀ y, y < n → ∀ z, z < n → P x y z = false) : find3 n P = none := by
  unfold find3
  rw [List.findSome?_eq_none_iff]
  intro x hx
  rw [find2_none (h1 x (by simpa using hx))]; rfl

/-- P at all pairs of numbers below n. -/
def all2 (n : Nat) (P : Nat → Nat → Bool) : Bool := (List.range n).all fun x => (List.range n).all fun y => P x y
theorem all2_iff {n : Nat} {P : Nat → Nat → Bool} : all2 n P = true ↔ ∀ x, x < n → ∀ y, y < n → P x y = true := by
  simp only [all2, List.all_eq_true, List.mem_range]
theorem all2_no {n : Nat} {P : Nat → Nat → Bool} {x y : Nat} (hx : x < n) (hy : y < n) (h : P x y = false) : all2 n P = false := by
  rw [Bool.eq_false_iff, ne_eq, all2_iff]
  intro hall
  rw [hall x hx y hy] at h; cases h
def all1 (n : Nat) (P : Nat → Bool) : Bool := (List.range n).all P
theorem all1_iff {n : Nat} {P : Nat → Bool} : all1 n P = true ↔ ∀ x, x < n → P x = true := by
  simp only [all1, List.all_eq_true, List.mem_range]
theorem all1_no {n : Nat} {P : Nat → Bool} {x : Nat} (hx : x < n) (h : P x = false) : all1 n P = false := by
  rw [Bool.eq_false_iff, ne_eq, all1_iff]
  intro hall
  rw [hall x hx] at h; cases h
theorem lt_snoc {k : Nat} {P : Nat → Prop} (h : ∀ x, x < k → P x) (hk : P k) : ∀ x, x < k + 1 → P x := by
  intro x hx
  by_cases e : x = k
  · rw [e]; exact hk
  · exact h x (by omega)
end Go.Proofs.Ytgmhnjccgldddaa
