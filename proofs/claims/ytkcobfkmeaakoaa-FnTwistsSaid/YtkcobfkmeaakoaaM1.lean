/-
  The pair map of two permutations that commute: a solution, nondegenerate, involutive exactly if they are inverse to each other. No program here.
-/
import Derived.Test.YtkcobfkmeaakoaaI14
import Derived.Test.YtkcobfkmeaakoaaI20
import Derived.Test.YtkcobfkmeaakoaaS2b
import Derived.Test.YtkcobfkmeaakoaaLIsInvolutive
import Derived.Test.YtkcobfkmeaakoaaLTwistSolution
namespace Go.Proofs.Ytkcobfkmeaakoaa
open Go.RowKit

theorem val2_tabOf' {n : Nat} {g : Int → Int → Int} {x y : Int} (hx0 : 0 ≤ x) (hx : x < n) (hy0 : 0 ≤ y) (hy : y < n) : val2 (tabOf n g) x y = g x y := by
  show nth (row (tabOf n g) x) y = _
  rw [row_tabOfi _ _ _ hx0 hx, nth_rowOfi _ _ _ hy0 hy]
theorem perm_lt {p : List Int} (h : Permuted p) {x : Int} (h0 : 0 ≤ x) (h1 : x < p.length) : 0 ≤ nth p x ∧ nth p x < p.length := h.2 _ (nth_mem h0 h1)
theorem perm_inj {p : List Int} (h : Permuted p) {x y : Int} (h0 : 0 ≤ x) (h1 : x < p.length) (g0 : 0 ≤ y) (g1 : y < p.length) (e : nth p x = nth p y) : x = y := by
  rw [← nth_invL h h0 h1, e, nth_invL h g0 g1]
theorem isPerm_parts {p : List Int} (h : isPerm p = true) : 1 ≤ p.length ∧ p.length ≤ 12 ∧ Permuted p := by
  simp only [isPerm, Bool.and_eq_true, inR, decide_eq_true_eq] at h
  exact ⟨by omega, by omega, h.2⟩

section
variable {p q : List Int} (hp : Permuted p) (hq : Permuted q) (hl : q.length = p.length) (h1 : 1 ≤ p.length) (h12 : p.length ≤ 12)
include hp hq hl h1 h12
omit hp hq hl h1 h12 in
theorem tw_A0 {x y : Int} (hx0 : 0 ≤ x) (hx : x < p.length) (hy0 : 0 ≤ y) (hy : y < p.length) : val2 (twA p) x y = nth p y := val2_tabOf' hx0 hx hy0 hy
omit hp hq hl h1 h12 in
theorem tw_B0 {x y : Int} (hx0 : 0 ≤ x) (hx : x < p.length) (hy0 : 0 ≤ y) (hy : y < p.length) : val2 (twB p q) x y = nth q x := val2_tabOf' hx0 hx hy0 hy
theorem tw_pm : isPM (twA p) (twB p q) = true := by
  have ha : isTab (twA p) = true := isTab_tabOf h1 h12 fun x y hx hy => perm_lt hp (by omega) (by omega)
  have hb : isTab (twB p q) = true := isTab_tabOf h1 h12 fun x y hx hy => by have := perm_lt hq (x := x) (by omega) (by omega); omega
  have hab : (twA p).length = (twB p q).length := by simp [twA, twB]
  simp [isPM, ha, hb, hab]
theorem tw_coll : collL (twA p) (twB p q) = [] := by
  have hla : (twA p).length = p.length := by simp [twA]
  unfold collL
  refine quad_none (find2_none fun a ha b hb => ?_)
  rw [hla] at ha hb ⊢
  unfold colP
  have a1 := div_lt_sq ha; have a2 := Nat.mod_lt a (show 0 < p.length by omega)
  have b1 := div_lt_sq hb; have b2 := Nat.mod_lt b (show 0 < p.length by omega)
  have g1 := Nat.div_add_mod a p.length
  have g2 := Nat.div_add_mod b p.length
  generalize a / p.length = x1 at a1 g1 ⊢
  generalize a % p.length = y1 at a2 g1 ⊢
  generalize b / p.length = x2 at b1 g2 ⊢
  generalize b % p.length = y2 at b2 g2 ⊢
  rw [tw_A0 (by omega) (by omega) (by omega) (by omega), tw_A0 (by omega) (by omega) (by omega) (by omega), tw_B0 (by omega) (by omega) (by omega) (by omega), tw_B0 (by omega) (by omega) (by omega) (by omega)]
  by_cases e1 : nth p (y1 : Int) = nth p (y2 : Int)
  · by_cases e2 : nth q (x1 : Int) = nth q (x2 : Int)
    · have f1 := perm_inj hp (by omega) (by omega) (by omega) (by omega) e1
      have f2 := perm_inj hq (by omega) (by omega) (by omega) (by omega) e2
      have : a = b := by
        rw [← g1, ← g2, show x1 = x2 by omega, show y1 = y2 by omega]
      simp [this]
    · simp [e2]
  · simp [e1]
theorem tw_nd : nondegL (twA p) (twB p q) = true := by
  have e : ∀ {n : Nat} {g : Int → Int → Int} {r : List Int}, isPerm r = true → (∀ x : Nat, x < n → rowOf n (g x) = r) → permRows (tabOf n g) = true := by
    intro n g r hr hg
    unfold permRows tabOf
    rw [List.all_eq_true]
    intro s hs
    rw [List.mem_map] at hs
    obtain ⟨x, hx, rfl⟩ := hs
    have e := hg x (by simpa using hx)
    show isPerm (rowOf n (g x)) = true
    rw [e]; exact hr
  have ip : isPerm p = true := by simp [isPerm, inR, hp]; omega
  have iq : isPerm q = true := by simp [isPerm, inR, hq]; omega
  unfold nondegL
  rw [Bool.and_eq_true]
  refine ⟨e ip fun x hx => rowOf_self p, ?_⟩
  have hlb : (twB p q).length = p.length := by simp [twB]
  unfold transL
  rw [hlb]
  refine e iq fun x hx => ?_
  have : rowOf p.length (fun y => val2 (twB p q) y x) = rowOf p.length (nth q) := rowOf_congr fun y hy => tw_B0 (by omega) (by omega) (by omega) (by omega)
  rw [this, ← hl, rowOf_self]
theorem tw_inv : involL (twA p) (twB p q) = decide (invL p = q) := by
  have hla : (twA p).length = p.length := by simp [twA]
  have key : ∀ x y : Nat, x < p.length → y < p.length → ivF (twA p) (twB p q) x y = (decide (nth p (nth q x) = x) && decide (nth q (nth p y) = y)) := by
    intro x y hx hy
    have a := perm_lt hp (x := y) (by omega) (by omega)
    have b := perm_lt hq (x := x) (by omega) (by omega)
    unfold ivF
    rw [tw_A0 (x := x) (y := y) (by omega) (by omega) (by omega) (by omega), tw_B0 (x := x) (y := y) (by omega) (by omega) (by omega) (by omega),
      tw_A0 (by omega) (by omega) (by omega) (by omega), tw_B0 (by omega) (by omega) (by omega) (by omega)]
  rw [Bool.eq_iff_iff]
  unfold involL
  rw [all2_iff, hla, decide_eq_true_eq]
  constructor
  · intro h
    apply ext_nth (by simp; omega)
    intro k hk
    simp at hk
    obtain ⟨x, x0, x1, ex⟩ := ex_pre hp (y := (k : Int)) (by omega) (by omega)
    have := h 0 (by omega) x.toNat (by omega)
    rw [key _ _ (by omega) (by omega)] at this
    simp only [Bool.and_eq_true, decide_eq_true_eq] at this
    have e := this.2
    rw [show ((x.toNat : Nat) : Int) = x by omega, ex] at e
    rw [e, ← ex, nth_invL hp x0 x1]
  · intro h x hx y hy
    rw [key x y hx hy, ← h]
    have e2 := nth_invL hp (x := (y : Int)) (by omega) (by omega)
    obtain ⟨z, z0, z1, ez⟩ := ex_pre hp (y := (x : Int)) (by omega) (by omega)
    have e1 : nth p (nth (invL p) x) = x := by rw [← ez, nth_invL hp z0 z1]
    simp [e1, e2]
theorem tw_sol (hc : thenL p q = thenL q p) : isSol (twA p) (twB p q) = true := by
  have hla : (twA p).length = p.length := by simp [twA]
  have hcom : ∀ y : Int, 0 ≤ y → y < p.length → nth q (nth p y) = nth p (nth q y) := by
    intro y y0 y1
    have e : nth (thenL p q) y = nth (thenL q p) y := by rw [hc]
    rw [nth_thenL _ _ _ y0 y1, nth_thenL _ _ _ y0 (by omega)] at e
    exact e
  have hyF : yF (twA p) (twB p q) = [] := by
    unfold yF
    have : find3 (twA p).length (yP (twA p) (twB p q)) = none := find3_none fun x hx y hy z hz => by
      rw [hla] at hx hy hz
      have px := perm_lt hp (x := x) (by omega) (by omega)
      have py := perm_lt hp (x := y) (by omega) (by omega)
      have pz := perm_lt hp (x := z) (by omega) (by omega)
      have qx := perm_lt hq (x := x) (by omega) (by omega)
      have qy := perm_lt hq (x := y) (by omega) (by omega)
      have tA := fun (x y : Int) (a : 0 ≤ x) (b : x < p.length) (c : 0 ≤ y) (d : y < p.length) => tw_A0 (p := p) (x := x) (y := y) a b c d
      have tB := fun (x y : Int) (a : 0 ≤ x) (b : x < p.length) (c : 0 ≤ y) (d : y < p.length) => tw_B0 (p := p) (q := q) (x := x) (y := y) a b c d
      unfold yP yL yR
      rw [tA x y (by omega) (by omega) (by omega) (by omega), tB x y (by omega) (by omega) (by omega) (by omega), tA y z (by omega) (by omega) (by omega) (by omega), tB y z (by omega) (by omega) (by omega) (by omega),
        tA (nth q x) z (by omega) (by omega) (by omega) (by omega), tB (nth q x) z (by omega) (by omega) (by omega) (by omega), tA x (nth p z) (by omega) (by omega) (by omega) (by omega), tB x (nth p z) (by omega) (by omega) (by omega) (by omega),
        tA (nth p y) (nth p z) (by omega) (by omega) (by omega) (by omega), tB (nth p y) (nth p z) (by omega) (by omega) (by omega) (by omega), tA (nth q x) (nth q y) (by omega) (by omega) (by omega) (by omega), tB (nth q x) (nth q y) (by omega) (by omega) (by omega) (by omega), hcom y (by omega) (by omega)]
      simp
    rw [this]; rfl
  simp [isSol, tw_pm hp hq hl h1 h12, tw_coll hp hq hl h1 h12, hyF]
end
theorem then_back {p : List Int} (hp : Permuted p) : thenL p (invL p) = iota p.length := by
  apply ext_nth (by simp)
  intro k hk
  simp at hk
  rw [nth_thenL _ _ _ (by omega) (by omega), nth_invL hp (by omega) (by omega)]
  rw [nth_nat _ _ (by simpa using hk)]
  simp [iota]
end Go.Proofs.Ytkcobfkmeaakoaa
