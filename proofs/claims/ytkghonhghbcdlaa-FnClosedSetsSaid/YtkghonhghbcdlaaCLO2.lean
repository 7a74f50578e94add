/-
  The walks behind the law FnClosedSets, joined into texts.
-/
import Derived.Test.YtkghonhghbcdlaaCLO1
import Derived.Test.YtkghonhghbcdlaaI6
import Derived.Test.YtkghonhghbcdlaaLTables
import Derived.StillTailTactics
import Derived.Deep.RegionHeld3
import Derived.Test.YtkghonhghbcdlaaI11
import Derived.Test.YtkghonhghbcdlaaD2
namespace Go.Proofs.Ytkghonhghbcdlaa
set_option linter.unusedVariables false
set_option linter.unusedSimpArgs false

def InR (n : Nat) (x : Int) : Prop := 0 ≤ x ∧ x < n
theorem InR.nat {n : Nat} {x : Int} (h : InR n x) : ∃ k : Nat, k < n ∧ x = k := ⟨x.toNat, by unfold InR at h; omega, by unfold InR at h; omega⟩
theorem InR.of {n k : Nat} (h : k < n) : InR n (k : Int) := ⟨by omega, by omega⟩
/-- No two pairs are led to the same one. -/
def Inj (n : Nat) (F G : Int → Int → Int) : Prop := ∀ x y u v : Int, InR n x → InR n y → InR n u → InR n v → F x y = F u v → G x y = G u v → x = u ∧ y = v
/-- The equation. -/
def Yb (n : Nat) (F G : Int → Int → Int) : Prop := ∀ x y z : Int, InR n x → InR n y → InR n z →
  F (F x y) (F (G x y) z) = F x (F y z) ∧ G (F x y) (F (G x y) z) = F (G x (F y z)) (G y z) ∧ G (G x y) z = G (G x (F y z)) (G y z)
def Rng (n : Nat) (F G : Int → Int → Int) : Prop := ∀ x y : Int, InR n x → InR n y → InR n (F x y) ∧ InR n (G x y)

theorem pm_rng {A B : List (List Int)} (hp : isPM A B = true) : Rng A.length (val2 A) (val2 B) := by
  obtain ⟨h1, h2, h3⟩ := isPM_parts hp
  intro x y hx hy
  refine ⟨val2_lt h1 hx.1 hx.2 hy.1 hy.2, ?_⟩
  have := val2_lt h2 hx.1 (by rw [← h3]; exact hx.2) hy.1 (by rw [← h3]; exact hy.2)
  rw [← h3] at this; exact this
theorem coll_iff {A B : List (List Int)} (hp : isPM A B = true) : collL A B = [] ↔ Inj A.length (val2 A) (val2 B) := by
  obtain ⟨h1, h2, h3⟩ := isPM_parts hp
  obtain ⟨l1, l2⟩ := isTab_len h1
  have hr := pm_rng hp
  constructor
  · intro hc x y u v hx hy hu hv e1 e2
    have hP := pmL_perm hp hc
    have c1 := code_lt hx.1 hx.2 hy.1 hy.2
    have c2 := code_lt hu.1 hu.2 hv.1 hv.2
    have e : nth (pmL A B A.length) (x * A.length + y) = nth (pmL A B A.length) (u * A.length + v) := by
      rw [nth_pmL hx.1 hx.2 hy.1 hy.2, nth_pmL hu.1 hu.2 hv.1 hv.2, e1, e2]
    have := perm_inj hP c1.1 (by rw [pmL_length]; exact c1.2) c2.1 (by rw [pmL_length]; exact c2.2) e
    exact code_inj hy.1 hy.2 hv.1 hv.2 this
  · intro hi
    unfold collL
    refine quad_none (find2_none fun a ha b hb => ?_)
    have a1 := div_lt_sq ha; have a2 := Nat.mod_lt a (show 0 < A.length by omega)
    have b1 := div_lt_sq hb; have b2 := Nat.mod_lt b (show 0 < A.length by omega)
    have g1 := Nat.div_add_mod a A.length
    have g2 := Nat.div_add_mod b A.length
    unfold colP
    by_cases e1 : val2 A (a / A.length : Nat) (a % A.length : Nat) = val2 A (b / A.length : Nat) (b % A.length : Nat)
    · by_cases e2 : val2 B (a / A.length : Nat) (a % A.length : Nat) = val2 B (b / A.length : Nat) (b % A.length : Nat)
      · obtain ⟨f1, f2⟩ := hi _ _ _ _ (InR.of a1) (InR.of a2) (InR.of b1) (InR.of b2) e1 e2
        have : a = b := by rw [← g1, ← g2, show a / A.length = b / A.length by omega, show a % A.length = b % A.length by omega]
        simp [this]
      · simp only [e2, decide_false, Bool.and_false]
    · simp only [e1, decide_false, Bool.false_and, Bool.and_false]
theorem find3_none' {n : Nat} {P : Nat → Nat → Nat → Bool} (h : find3 n P = none) {x y z : Nat} (hx : x < n) (hy : y < n) (hz : z < n) : P x y z = false := by
  unfold find3 at h
  rw [List.findSome?_eq_none_iff] at h
  have h1 := h x (by simpa using hx)
  simp only [Option.map_eq_none_iff] at h1
  exact find2_none' h1 hy hz
theorem yF_iff {A B : List (List Int)} : yF A B = [] ↔ Yb A.length (val2 A) (val2 B) := by
  have key : ∀ x y z : Int, yL A B x y z = yR A B x y z ↔ (val2 A (val2 A x y) (val2 A (val2 B x y) z) = val2 A x (val2 A y z) ∧ val2 B (val2 A x y) (val2 A (val2 B x y) z) = val2 A (val2 B x (val2 A y z)) (val2 B y z) ∧ val2 B (val2 B x y) z = val2 B (val2 B x (val2 A y z)) (val2 B y z)) := by
    intro x y z
    simp [yL, yR]
  constructor
  · intro h x y z hx hy hz
    obtain ⟨x, lx, rfl⟩ := hx.nat
    obtain ⟨y, ly, rfl⟩ := hy.nat
    obtain ⟨z, lz, rfl⟩ := hz.nat
    have hn : find3 A.length (yP A B) = none := by
      unfold yF at h
      cases e : find3 A.length (yP A B) with
      | none => rfl
      | some t => rw [e] at h; simp [trip] at h
    have := find3_none' hn lx ly lz
    simp only [yP, ne_eq, decide_eq_false_iff_not, Decidable.not_not] at this
    exact (key _ _ _).1 this
  · intro h
    have hn : find3 A.length (yP A B) = none := find3_none fun x hx y hy z hz => by
      have := (key x y z).2 (h x y z (InR.of hx) (InR.of hy) (InR.of hz))
      simp [yP, this]
    unfold yF
    rw [hn]; rfl
theorem isSol_iff {A B : List (List Int)} : isSol A B = true ↔ isPM A B = true ∧ Inj A.length (val2 A) (val2 B) ∧ Yb A.length (val2 A) (val2 B) := by
  constructor
  · intro h
    have hp := isSol_pm h
    exact ⟨hp, (coll_iff hp).1 (isSol_coll h), yF_iff.1 (isSol_yF h)⟩
  · rintro ⟨hp, h1, h2⟩
    simp [isSol, hp, (coll_iff hp).2 h1, yF_iff.2 h2]

/-- Two maps of pairs, inverse to each other. -/
def Back (n : Nat) (F G F' G' : Int → Int → Int) : Prop := ∀ x y : Int, InR n x → InR n y → F' (F x y) (G x y) = x ∧ G' (F x y) (G x y) = y
theorem yb_inv {n : Nat} {F G F' G' : Int → Int → Int} (r1 : Rng n F G) (r2 : Rng n F' G') (b1 : Back n F G F' G') (b2 : Back n F' G' F G) (h : Yb n F G) : Yb n F' G' := by
  intro x y z hx hy hz
  obtain ⟨ix1, iy1⟩ := r2 x y hx hy
  obtain ⟨e1, e2⟩ := b2 x y hx hy
  generalize F' x y = x1 at *
  generalize G' x y = y1 at *
  obtain ⟨iy2, iz2⟩ := r2 y1 z iy1 hz
  obtain ⟨e3, e4⟩ := b2 y1 z iy1 hz
  generalize F' y1 z = y2 at *
  generalize G' y1 z = z2 at *
  obtain ⟨ix3, iy3⟩ := r2 x1 y2 ix1 iy2
  obtain ⟨e5, e6⟩ := b2 x1 y2 ix1 iy2
  generalize F' x1 y2 = x3 at *
  generalize G' x1 y2 = y3 at *
  obtain ⟨h1, h2, h3⟩ := h x3 y3 z2 ix3 iy3 iz2
  rw [e5, e6, e3, e1] at h1
  rw [e5, e6, e3, e2] at h2
  rw [e6, e4] at h3
  obtain ⟨ip, iq⟩ := r1 y3 z2 iy3 iz2
  obtain ⟨k1, k2⟩ := b1 y3 z2 iy3 iz2
  generalize F y3 z2 = p at *
  generalize G y3 z2 = q at *
  obtain ⟨-, im⟩ := r1 x3 p ix3 ip
  obtain ⟨k3, k4⟩ := b1 x3 p ix3 ip
  rw [← h1] at k3 k4
  generalize G x3 p = m at *
  obtain ⟨k5, k6⟩ := b1 m q im iq
  rw [← h2, ← h3] at k5 k6
  rw [k5, k6, k3, k4, k1, k2]
  exact ⟨rfl, rfl, rfl⟩
theorem inj_back {n : Nat} {F G F' G' : Int → Int → Int} (b : Back n F G F' G') : Inj n F G := by
  intro x y u v hx hy hu hv e1 e2
  obtain ⟨a1, a2⟩ := b x y hx hy
  obtain ⟨c1, c2⟩ := b u v hu hv
  rw [e1, e2, c1] at a1
  rw [e1, e2, c2] at a2
  exact ⟨a1.symm, a2.symm⟩

theorem iv_back {A B : List (List Int)} (hp : isPM A B = true) (hc : collL A B = []) : Back A.length (val2 A) (val2 B) (val2 (ivA A B A.length)) (val2 (ivB A B A.length)) := by
  intro x y hx hy
  have hP := pmL_perm hp hc
  obtain ⟨hu, hv⟩ := pm_rng hp x y hx hy
  have c1 := code_lt hx.1 hx.2 hy.1 hy.2
  have e : nth (invL (pmL A B A.length)) (val2 A x y * A.length + val2 B x y) = x * A.length + y := by
    rw [← nth_pmL hx.1 hx.2 hy.1 hy.2, nth_invL hP c1.1 (by rw [pmL_length]; exact c1.2)]
  unfold ivA ivB
  rw [val2_tabOf' hu.1 hu.2 hv.1 hv.2, val2_tabOf' hu.1 hu.2 hv.1 hv.2, e]
  exact code_div hy.1 hy.2
theorem iv_rng {A B : List (List Int)} (hp : isPM A B = true) (hc : collL A B = []) : Rng A.length (val2 (ivA A B A.length)) (val2 (ivB A B A.length)) := by
  intro u v hu hv
  have hP := pmL_perm hp hc
  obtain ⟨h0, h1, h2⟩ := iv_range hP hu.1 hu.2 hv.1 hv.2
  obtain ⟨x, y, hx, hy, e⟩ := code_ex h0 h1
  unfold ivA ivB
  rw [val2_tabOf' hu.1 hu.2 hv.1 hv.2, val2_tabOf' hu.1 hu.2 hv.1 hv.2, e]
  obtain ⟨d1, d2⟩ := code_div (n := A.length) (x := x) hy.1 hy.2
  rw [d1, d2]
  exact ⟨hx, hy⟩
theorem iv_forth {A B : List (List Int)} (hp : isPM A B = true) (hc : collL A B = []) : Back A.length (val2 (ivA A B A.length)) (val2 (ivB A B A.length)) (val2 A) (val2 B) := by
  intro u v hu hv
  have hP := pmL_perm hp hc
  obtain ⟨h0, h1, h2⟩ := iv_range hP hu.1 hu.2 hv.1 hv.2
  obtain ⟨x, y, hx, hy, e⟩ := code_ex h0 h1
  unfold ivA ivB
  rw [val2_tabOf' hu.1 hu.2 hv.1 hv.2, val2_tabOf' hu.1 hu.2 hv.1 hv.2, e]
  obtain ⟨d1, d2⟩ := code_div (n := A.length) (x := x) hy.1 hy.2
  rw [d1, d2]
  rw [e, nth_pmL hx.1 hx.2 hy.1 hy.2] at h2
  obtain ⟨-, g2⟩ := pm_rng hp x y hx hy
  exact code_inj g2.1 g2.2 hv.1 hv.2 h2
@[simp] theorem ivA_len (A B : List (List Int)) (n : Nat) : (ivA A B n).length = n := by simp [ivA]
@[simp] theorem ivB_len (A B : List (List Int)) (n : Nat) : (ivB A B n).length = n := by simp [ivB]
theorem iv_pm' {A B : List (List Int)} (hp : isPM A B = true) (hc : collL A B = []) : isPM (ivA A B A.length) (ivB A B A.length) = true := by
  have hl := isTab_len (isPM_parts hp).1
  have hr := iv_rng hp hc
  have ha : isTab (ivA A B A.length) = true := isTab_tabOf hl.1 hl.2 fun x y hx hy => by
    have := (hr x y (InR.of hx) (InR.of hy)).1
    unfold ivA at this
    rw [val2_tabOf' (by omega) (by omega) (by omega) (by omega)] at this; exact this
  have hb : isTab (ivB A B A.length) = true := isTab_tabOf hl.1 hl.2 fun x y hx hy => by
    have := (hr x y (InR.of hx) (InR.of hy)).2
    unfold ivB at this
    rw [val2_tabOf' (by omega) (by omega) (by omega) (by omega)] at this; exact this
  simp [isPM, ha, hb]
theorem iv_sol {A B : List (List Int)} (h : isSol A B = true) : isSol (ivA A B A.length) (ivB A B A.length) = true := by
  obtain ⟨hp, h1, h2⟩ := isSol_iff.1 h
  have hc := (coll_iff hp).2 h1
  refine isSol_iff.2 ⟨iv_pm' hp hc, ?_, ?_⟩
  · rw [ivA_len]; exact inj_back (iv_forth hp hc)
  · rw [ivA_len]; exact yb_inv (pm_rng hp) (iv_rng hp hc) (iv_back hp hc) (iv_forth hp hc) h2
/-- A table is what its values say. -/
theorem tab_ext {S T : List (List Int)} (hS : isTab S = true) (hT : isTab T = true) (hl : S.length = T.length) (h : ∀ x y : Int, InR S.length x → InR S.length y → val2 S x y = val2 T x y) : S = T := by
  rw [← tabOf_val2 hS, ← tabOf_val2 hT, ← hl]
  exact tabOf_congr fun x y hx hy => h x y (InR.of hx) (InR.of hy)
theorem iv_iv {A B : List (List Int)} (h : isSol A B = true) : ivA (ivA A B A.length) (ivB A B A.length) A.length = A ∧ ivB (ivA A B A.length) (ivB A B A.length) A.length = B := by
  obtain ⟨hp, h1, h2⟩ := isSol_iff.1 h
  have hc := (coll_iff hp).2 h1
  have h' := iv_sol h
  obtain ⟨hp', h1', h2'⟩ := isSol_iff.1 h'
  have hc' := (coll_iff hp').2 h1'
  have k1 := iv_back hp' hc'
  have k2 := iv_forth hp hc
  have k3 := iv_back hp hc
  have k4 := iv_pm' hp' hc'
  have hr := pm_rng hp
  have hr3 := iv_rng hp' hc'
  rw [ivA_len] at k1 k4 hr3
  obtain ⟨t1, t2, t3⟩ := isPM_parts hp
  obtain ⟨s1, s2, s3⟩ := isPM_parts k4
  have key : ∀ x y : Int, InR A.length x → InR A.length y → val2 A x y = val2 (ivA (ivA A B A.length) (ivB A B A.length) A.length) x y ∧ val2 B x y = val2 (ivB (ivA A B A.length) (ivB A B A.length) A.length) x y := by
    intro x y hx hy
    obtain ⟨hu, hv⟩ := hr x y hx hy
    obtain ⟨a1, a2⟩ := k1 _ _ hu hv
    obtain ⟨b1, b2⟩ := k3 x y hx hy
    rw [b1, b2] at a1 a2
    exact ⟨a1.symm, a2.symm⟩
  exact ⟨(tab_ext t1 s1 (by simp) fun x y hx hy => (key x y hx hy).1).symm, (tab_ext t2 s2 (by rw [ivB_len, t3]) fun x y hx hy => (key x y (by rw [t3]; exact hx) (by rw [t3]; exact hy)).2).symm⟩

theorem invol_iff {A B : List (List Int)} : involL A B = true ↔ ∀ x y : Int, InR A.length x → InR A.length y → val2 A (val2 A x y) (val2 B x y) = x ∧ val2 B (val2 A x y) (val2 B x y) = y := by
  unfold involL
  rw [all2_iff]
  constructor
  · intro h x y hx hy
    obtain ⟨x, lx, rfl⟩ := hx.nat
    obtain ⟨y, ly, rfl⟩ := hy.nat
    have := h x lx y ly
    simpa [ivF] using this
  · intro h x hx y hy
    have := h x y (InR.of hx) (InR.of hy)
    simp [ivF, this.1, this.2]
theorem invol_own {A B : List (List Int)} (h : isSol A B = true) : (decide (A = ivA A B A.length) && decide (B = ivB A B A.length)) = involL A B := by
  obtain ⟨hp, h1, h2⟩ := isSol_iff.1 h
  have hc := (coll_iff hp).2 h1
  have hr := pm_rng hp
  have k3 := iv_back hp hc
  have k4 := iv_pm' hp hc
  obtain ⟨t1, t2, t3⟩ := isPM_parts hp
  obtain ⟨s1, s2, s3⟩ := isPM_parts k4
  rw [Bool.eq_iff_iff, invol_iff, Bool.and_eq_true, decide_eq_true_eq, decide_eq_true_eq]
  constructor
  · rintro ⟨e1, e2⟩ x y hx hy
    have := k3 x y hx hy
    rw [← e1, ← e2] at this
    exact this
  · intro hi
    have key : ∀ x y : Int, InR A.length x → InR A.length y → val2 A x y = val2 (ivA A B A.length) x y ∧ val2 B x y = val2 (ivB A B A.length) x y := by
      intro x y hx hy
      obtain ⟨hu, hv⟩ := hr x y hx hy
      obtain ⟨a1, a2⟩ := k3 _ _ hu hv
      obtain ⟨b1, b2⟩ := hi x y hx hy
      rw [b1, b2] at a1 a2
      exact ⟨a1.symm, a2.symm⟩
    exact ⟨tab_ext t1 s1 (by simp) fun x y hx hy => (key x y hx hy).1, tab_ext t2 s2 (by rw [ivB_len, t3]) fun x y hx hy => (key x y (by rw [t3]; exact hx) (by rw [t3]; exact hy)).2⟩

/-! The mirror. -/
theorem val2_transL {B : List (List Int)} {x y : Int} (hx : InR B.length x) (hy : InR B.length y) : val2 (transL B) x y = val2 B y x := by
  unfold transL; rw [val2_tabOf' hx.1 hx.2 hy.1 hy.2]
@[simp] theorem transL_len (B : List (List Int)) : (transL B).length = B.length := by simp [transL]
theorem mi_pm {A B : List (List Int)} (hp : isPM A B = true) : isPM (transL B) (transL A) = true := by
  obtain ⟨t1, t2, t3⟩ := isPM_parts hp
  simp [isPM, isTab_transL t1, isTab_transL t2, t3]
theorem mi_sol {A B : List (List Int)} (h : isSol A B = true) : isSol (transL B) (transL A) = true := by
  obtain ⟨hp, h1, h2⟩ := isSol_iff.1 h
  obtain ⟨t1, t2, t3⟩ := isPM_parts hp
  have hr := pm_rng hp
  have ta : ∀ {x y : Int}, InR A.length x → InR A.length y → val2 (transL A) x y = val2 A y x := fun hx hy => val2_transL hx hy
  have tb : ∀ {x y : Int}, InR A.length x → InR A.length y → val2 (transL B) x y = val2 B y x := fun hx hy => val2_transL (by rw [← t3]; exact hx) (by rw [← t3]; exact hy)
  have hl : (transL B).length = A.length := by simp [t3]
  refine isSol_iff.2 ⟨mi_pm hp, ?_, ?_⟩
  · rw [hl]
    intro x y u v hx hy hu hv e1 e2
    rw [tb hx hy, tb hu hv] at e1
    rw [ta hx hy, ta hu hv] at e2
    obtain ⟨a, b⟩ := h1 y x v u hy hx hv hu e2 e1
    exact ⟨b, a⟩
  · rw [hl]
    intro x y z hx hy hz
    obtain ⟨k1, k2, k3⟩ := h2 z y x hz hy hx
    obtain ⟨r1, r2⟩ := hr y x hy hx
    obtain ⟨r3, r4⟩ := hr z y hz hy
    obtain ⟨r5, r6⟩ := hr z (val2 A y x) hz r1
    obtain ⟨r7, r8⟩ := hr (val2 B z y) x r4 hx
    rw [tb hx hy, ta hx hy, tb hy hz, ta hy hz, tb r1 hz, ta r1 hz, tb hx r4, ta hx r4, tb r2 r6, ta r2 r6, tb r7 r3, ta r7 r3]
    exact ⟨k3.symm, k2.symm, k1.symm⟩
theorem mi_nd {A B : List (List Int)} (hp : isPM A B = true) : nondegL (transL B) (transL A) = nondegL A B := by
  obtain ⟨t1, t2, t3⟩ := isPM_parts hp
  unfold nondegL
  rw [trans_trans t1, Bool.and_comm]
theorem mi_inv {A B : List (List Int)} (hp : isPM A B = true) : involL (transL B) (transL A) = involL A B := by
  obtain ⟨t1, t2, t3⟩ := isPM_parts hp
  have hr := pm_rng hp
  have ta : ∀ {x y : Int}, InR A.length x → InR A.length y → val2 (transL A) x y = val2 A y x := fun hx hy => val2_transL hx hy
  have tb : ∀ {x y : Int}, InR A.length x → InR A.length y → val2 (transL B) x y = val2 B y x := fun hx hy => val2_transL (by rw [← t3]; exact hx) (by rw [← t3]; exact hy)
  have hl : (transL B).length = A.length := by simp [t3]
  rw [Bool.eq_iff_iff, invol_iff, invol_iff, hl]
  constructor
  · intro h x y hx hy
    obtain ⟨r1, r2⟩ := hr x y hx hy
    have := h y x hy hx
    rw [tb hy hx, ta hy hx, tb r2 r1, ta r2 r1] at this
    exact ⟨this.2, this.1⟩
  · intro h x y hx hy
    obtain ⟨r1, r2⟩ := hr y x hy hx
    have := h y x hy hx
    rw [tb hx hy, ta hx hy, tb r2 r1, ta r2 r1]
    exact ⟨this.2, this.1⟩
theorem mi_sq {A B : List (List Int)} (hp : isPM A B = true) : all1 (transL B).length (sqF (transL B) (transL A)) = all1 A.length (sqF A B) := by
  obtain ⟨t1, t2, t3⟩ := isPM_parts hp
  have ta : ∀ {x y : Int}, InR A.length x → InR A.length y → val2 (transL A) x y = val2 A y x := fun hx hy => val2_transL hx hy
  have tb : ∀ {x y : Int}, InR A.length x → InR A.length y → val2 (transL B) x y = val2 B y x := fun hx hy => val2_transL (by rw [← t3]; exact hx) (by rw [← t3]; exact hy)
  have hl : (transL B).length = A.length := by simp [t3]
  have key : ∀ x, x < A.length → sqF (transL B) (transL A) x = sqF A B x := fun x hx => by
    unfold sqF
    rw [ta (InR.of hx) (InR.of hx), tb (InR.of hx) (InR.of hx), Bool.and_comm]
  rw [Bool.eq_iff_iff, all1_iff, all1_iff, hl]
  exact ⟨fun h x hx => by rw [← key x hx]; exact h x hx, fun h x hx => by rw [key x hx]; exact h x hx⟩

/-! The order. -/
theorem gcd_dvd {a b : Int} (ha : 0 < a) (hb : 0 < b) : 0 < gcdI a b ∧ gcdI a b ≤ b ∧ ∃ c, 1 ≤ c ∧ a = gcdI a b * c := by
  have h1 := gcdI_pos hb ha
  refine ⟨h1.1, ?_, ?_⟩
  · have := Nat.gcd_le_right a.toNat (show 0 < b.toNat by omega)
    unfold gcdI; omega
  · obtain ⟨c, hc⟩ := Nat.gcd_dvd_left a.toNat b.toNat
    have hc' : a = gcdI a b * (c : Int) := by
      have h2 : ((a.toNat : Nat) : Int) = ((Nat.gcd a.toNat b.toNat * c : Nat) : Int) := congrArg _ hc
      rw [Int.natCast_mul, Int.toNat_of_nonneg (by omega)] at h2
      exact h2
    refine ⟨c, ?_, hc'⟩
    rcases Nat.eq_zero_or_pos c with e | e
    · subst e; simp at hc'; omega
    · omega
theorem lcm_ge {o : Int} {r : Nat} (ho : 1 ≤ o) (hr : 1 ≤ r) : o ≤ o / gcdI o r * r ∧ (r : Int) ≤ o / gcdI o r * r := by
  obtain ⟨h1, h2, c, hc, e⟩ := gcd_dvd (a := o) (b := (r : Int)) (by omega) (by omega)
  have e2 : o / gcdI o r = c := by
    have := Int.mul_ediv_cancel_left c (show gcdI o r ≠ 0 by omega)
    rw [← e] at this; exact this
  rw [e2]
  constructor
  · rw [show o = c * gcdI o r by rw [Int.mul_comm]; exact e] 
    have : c * gcdI o r ≤ c * r := Int.mul_le_mul_of_nonneg_left h2 (by omega)
    rw [show c * gcdI o r = o by rw [Int.mul_comm]; exact e.symm] at this ⊢
    exact this
  · have : (1 : Int) * r ≤ c * r := Int.mul_le_mul_of_nonneg_right hc (by omega)
    omega
theorem lcm_two {o : Int} {r : Nat} (ho : o = 1 ∨ o = 2) (hr : r = 1 ∨ r = 2) : o / gcdI o r * r = 1 ∨ o / gcdI o r * r = 2 := by
  rcases ho with rfl | rfl <;> rcases hr with rfl | rfl <;> decide
theorem ordS_mono {p : List Int} (hp : Permuted p) : ∀ {k : Nat}, k < p.length → ordS p k ≤ ordS p (k + 1) ∧ (cyc p k : Int) ≤ ordS p (k + 1) := by
  intro k hk
  have h1 := ordS_pos hp k (by omega)
  have h2 := cyc_le hp (k := (k : Int)) (by omega) (by omega)
  exact lcm_ge h1 h2.1
theorem ordS_le {p : List Int} (hp : Permuted p) {k : Nat} : ∀ {m : Nat}, k ≤ m → m ≤ p.length → ordS p k ≤ ordS p m := by
  intro m
  induction m with
  | zero => intro h _; obtain rfl : k = 0 := by omega
            exact Int.le_refl _
  | succ m ih =>
    intro h hm
    rcases Nat.lt_or_ge k (m + 1) with g | g
    · exact Int.le_trans (ih (by omega) (by omega)) (ordS_mono hp (by omega)).1
    · obtain rfl : k = m + 1 := by omega
      exact Int.le_refl _
theorem ordS_two {p : List Int} (h : ∀ k : Nat, k < p.length → cyc p k = 1 ∨ cyc p k = 2) : ∀ k : Nat, k ≤ p.length → ordS p k = 1 ∨ ordS p k = 2
  | 0, _ => .inl rfl
  | k + 1, hk => lcm_two (ordS_two h k (by omega)) (h k (by omega))
theorem so_inv {A B : List (List Int)} (h : isSol A B = true) : (soCode A B = 3 ∧ involL A B = false) ∨ (soCode A B = 0 ∧ involL A B = decide (soRes A B ≤ 2)) := by
  obtain ⟨hp, h1, h2⟩ := isSol_iff.1 h
  have hc := (coll_iff hp).2 h1
  have hP := pmL_perm hp hc
  have hl := isTab_len (isPM_parts hp).1
  have hr := pm_rng hp
  have two : ∀ x y : Int, InR A.length x → InR A.length y → iter (nth (pmL A B A.length)) 2 (x * A.length + y) = val2 A (val2 A x y) (val2 B x y) * A.length + val2 B (val2 A x y) (val2 B x y) := by
    intro x y hx hy
    obtain ⟨r1, r2⟩ := hr x y hx hy
    show nth (pmL A B A.length) (nth (pmL A B A.length) (x * A.length + y)) = _
    rw [nth_pmL hx.1 hx.2 hy.1 hy.2, nth_pmL r1.1 r1.2 r2.1 r2.2]
  by_cases hi : involL A B = true
  · have hcyc : ∀ k : Nat, k < (pmL A B A.length).length → cyc (pmL A B A.length) k = 1 ∨ cyc (pmL A B A.length) k = 2 := by
      intro k hk
      rw [pmL_length] at hk
      obtain ⟨x, y, hx, hy, e⟩ := code_ex (n := A.length) (k := (k : Int)) (by omega) (by omega)
      have e2 := two x y hx hy
      obtain ⟨i1, i2⟩ := invol_iff.1 hi x y hx hy
      rw [i1, i2, ← e] at e2
      have hcl := cyc_le hP (k := (k : Int)) (by omega) (by rw [pmL_length]; omega)
      obtain ⟨s, hs, _⟩ := isCyc_ex hP (k := (k : Int)) (by omega) (by rw [pmL_length]; omega)
      rw [cyc_eq hs]
      rcases Nat.lt_or_ge 2 s with g | g
      · exact absurd e2 (hs.2.2 2 (by omega) g)
      · have := hs.1; omega
    have h3 := ordS_two hcyc
    rw [pmL_length] at h3
    obtain ⟨a1, a2⟩ := so_all h rfl (n := A.length) fun j hj => by have := h3 (j + 1) (by omega); omega
    right
    refine ⟨a2, ?_⟩
    have := h3 _ (Nat.le_refl _)
    rw [hi, a1, eq_comm, decide_eq_true_eq]; omega
  · have hex : ∃ x y : Int, InR A.length x ∧ InR A.length y ∧ ¬ (val2 A (val2 A x y) (val2 B x y) = x ∧ val2 B (val2 A x y) (val2 B x y) = y) := by
      apply Classical.byContradiction
      intro hno
      apply hi
      rw [invol_iff]
      intro x y hx hy
      apply Classical.byContradiction
      intro hxy
      exact hno ⟨x, y, hx, hy, hxy⟩
    obtain ⟨x, y, hx, hy, hne⟩ := hex
    obtain ⟨c0, c1⟩ := code_lt hx.1 hx.2 hy.1 hy.2
    obtain ⟨k, hk⟩ : ∃ k : Nat, x * A.length + y = k := ⟨(x * A.length + y).toNat, by omega⟩
    have hk2 : k < A.length * A.length := by omega
    have e2 := two x y hx hy
    obtain ⟨s, hs, _⟩ := isCyc_ex hP (k := (k : Int)) (by omega) (by rw [pmL_length]; omega)
    have hs3 : 3 ≤ s := by
      have hne2 : iter (nth (pmL A B A.length)) 2 (k : Int) ≠ k := by
        intro e
        rw [hk] at e2
        rw [e2] at e
        rw [← hk] at e
        obtain ⟨r1, r2⟩ := hr x y hx hy
        obtain ⟨r3, r4⟩ := hr _ _ r1 r2
        obtain ⟨f1, f2⟩ := code_inj r4.1 r4.2 hy.1 hy.2 e
        exact hne ⟨f1, f2⟩
      rcases Nat.lt_or_ge s 3 with g | g
      · exfalso
        have hs1 := hs.1
        apply hne2
        have : s = 1 ∨ s = 2 := by omega
        rcases this with rfl | rfl
        · have e1 : nth (pmL A B A.length) (k : Int) = k := hs.2.1
          show nth (pmL A B A.length) (nth (pmL A B A.length) (k : Int)) = k
          rw [e1, e1]
        · exact hs.2.1
      · exact g
    have hm := ordS_mono hP (k := k) (by rw [pmL_length]; exact hk2)
    rw [cyc_eq hs] at hm
    have hle := ordS_le hP (k := k + 1) (m := A.length * A.length) (by omega) (by rw [pmL_length]; exact Nat.le_refl _)
    have hi' : involL A B = false := by simpa using hi
    by_cases hall : ∀ j, j < A.length * A.length → ordS (pmL A B A.length) (j + 1) ≤ 1000000
    · obtain ⟨a1, a2⟩ := so_all h rfl (n := A.length) hall
      right
      refine ⟨a2, ?_⟩
      rw [hi', a1, eq_comm, decide_eq_false_iff_not]; omega
    · have : ∃ j, j < A.length * A.length ∧ 1000000 < ordS (pmL A B A.length) (j + 1) := by
        apply Classical.byContradiction
        intro hno
        apply hall
        intro j hj
        apply Classical.byContradiction
        intro hg
        exact hno ⟨j, hj, by omega⟩
      obtain ⟨j, hj, hg⟩ := this
      left
      exact ⟨(so_lim h rfl hj hg).2, hi'⟩
/-- What is told as a collision is one. -/
theorem coll_some {A B : List (List Int)} (hp : isPM A B = true) (h : collL A B ≠ []) : ∃ x y u v : Nat, collL A B = [(x : Int), (y : Int), (u : Int), (v : Int)] ∧ (x < A.length ∧ y < A.length ∧ u < A.length ∧ v < A.length) ∧ val2 A x y = val2 A u v ∧ val2 B x y = val2 B u v ∧ ¬ (x = u ∧ y = v) := by
  obtain ⟨l1, l2⟩ := isTab_len (isPM_parts hp).1
  unfold collL at h ⊢
  cases e : find2 (A.length * A.length) (A.length * A.length) (colP A B A.length) with
  | none => rw [e] at h; exact absurd rfl h
  | some ab =>
    obtain ⟨a, b⟩ := ab
    unfold find2 at e
    obtain ⟨a', ha, hm⟩ := List.exists_of_findSome?_eq_some e
    simp only [Option.map_eq_some_iff, Prod.mk.injEq] at hm
    obtain ⟨b', hb', rfl, rfl⟩ := hm
    have hP := List.find?_some hb'
    have hb := List.mem_of_find?_eq_some hb'
    simp only [List.mem_range] at ha hb
    refine ⟨a' / A.length, a' % A.length, b' / A.length, b' % A.length, rfl, ⟨div_lt_sq ha, Nat.mod_lt _ (by omega), div_lt_sq hb, Nat.mod_lt _ (by omega)⟩, ?_⟩
    simp only [colP, Bool.and_eq_true, decide_eq_true_eq] at hP
    refine ⟨hP.2.1, hP.2.2, fun hh => hP.1 ?_⟩
    have g1 := Nat.div_add_mod a' A.length
    have g2 := Nat.div_add_mod b' A.length
    rw [← g1, ← g2, hh.1, hh.2]
end Go.Proofs.Ytkghonhghbcdlaa

namespace Go.Proofs.Ytkghonhghbcdlaa
set_option linter.unusedVariables false
set_option linter.unusedSimpArgs false
open Go.RowKit

def prT (A C : List (List Int)) : List (List Int) := tabOf (A.length * C.length) fun x y => val2 A (x / C.length) (y / C.length) * C.length + val2 C (x % C.length) (y % C.length)
def prOk (A B C D : List (List Int)) : Bool := isPM A B && isPM C D
def prSm (A C : List (List Int)) : Bool := decide (A.length * C.length ≤ 12)
def prRA (A B C D : List (List Int)) : List (List Int) := if prOk A B C D && prSm A C then prT A C else []
def prRB (A B C D : List (List Int)) : List (List Int) := if prOk A B C D && prSm A C then prT B D else []
def prCode (A B C D : List (List Int)) : Int := if prOk A B C D then (if prSm A C then 0 else 3) else 1
theorem prOk_of {A B C D : List (List Int)} (h1 : isPM A B = true) (h2 : isPM C D = true) : prOk A B C D = true := by simp [prOk, h1, h2]
theorem divN {k n m : Nat} (h : k < n * m) (hm : 1 ≤ m) : k / m < n ∧ k % m < m := ⟨Nat.div_lt_of_lt_mul (by rw [Nat.mul_comm]; exact h), Nat.mod_lt _ (by omega)⟩
theorem divI2 {k n m : Nat} (h : k < n * m) (hm : 1 ≤ m) : 0 ≤ (k : Int) / (m : Int) ∧ (k : Int) / (m : Int) < n ∧ 0 ≤ (k : Int) % (m : Int) ∧ (k : Int) % (m : Int) < m := by
  obtain ⟨h1, h2⟩ := divN h hm
  rw [← Int.natCast_ediv, ← Int.natCast_emod]; exact ⟨Int.natCast_nonneg _, Int.ofNat_lt.2 h1, Int.natCast_nonneg _, Int.ofNat_lt.2 h2⟩
theorem pairI {a b : Int} {n m : Nat} (ha0 : 0 ≤ a) (ha : a < n) (hb0 : 0 ≤ b) (hb : b < m) : 0 ≤ a * m + b ∧ a * m + b < n * m := by
  have h1 : 0 ≤ a * (m : Int) := Int.mul_nonneg ha0 (by omega)
  have h2 : (a + 1) * (m : Int) ≤ n * m := Int.mul_le_mul_of_nonneg_right (by omega) (by omega)
  have h3 : (a + 1) * (m : Int) = a * m + m := by rw [Int.add_mul, Int.one_mul]
  omega

theorem eg_product1 : ∀ args w, (callFunc 58 args).run Try.prog w = .ok (.enter 58 args) w := Go.Proofs.enters_of Try.func58 (by kernel_rfl) rfl

set_option maxHeartbeats 800000 in
theorem c_product1 (bs bm bt : Nat) (n m c0 c0s c1 c1s b0 o0 b0s o0s b1 o1 b1s o1s : Nat) (A B C D : List (List Int)) (rb0 ro0 rc0 rb0s ro0s rc0s rb1 ro1 rc1 rb1s ro1s rc1s : Nat → Nat) (x y : Nat) (w : World)
    (hs0 : w.cell? ⟨bs, 0, none⟩ = some (.slice (some ⟨b0, o0, none⟩) n c0)) (hs1 : w.cell? ⟨bs, 1, none⟩ = some (.slice (some ⟨b0s, o0s, none⟩) n c0s))
    (hbm : w.cell? ⟨bm, 0, none⟩ = some (.int .i64 m))
    (ht0 : w.cell? ⟨bt, 0, none⟩ = some (.slice (some ⟨b1, o1, none⟩) m c1)) (ht1 : w.cell? ⟨bt, 1, none⟩ = some (.slice (some ⟨b1s, o1s, none⟩) m c1s))
    (TA : TabAt w b0 o0 n A rb0 ro0 rc0) (TB : TabAt w b0s o0s n B rb0s ro0s rc0s) (TC : TabAt w b1 o1 m C rb1 ro1 rc1) (TD : TabAt w b1s o1s m D rb1s ro1s rc1s)
    (hx : x < n * m) (hy : y < n * m) (hm1 : 1 ≤ m) (hnm : n * m ≤ 12) (hc0 : n ≤ c0 ∧ n ≤ c0s) (hc1 : m ≤ c1 ∧ m ≤ c1s) (hn12 : n ≤ 12) (hm12 : m ≤ 12) :
    Calls Try.prog 58 #[.int .i64 x, .int .i64 y, .pointer (some ⟨bs, 0, none⟩), .pointer (some ⟨bm, 0, none⟩), .pointer (some ⟨bt, 0, none⟩)] w
      (RVal w (.tuple #[.int .i64 (val2 A (x / m : Int) (y / m : Int) * m + val2 C (x % m : Int) (y % m : Int)), .int .i64 (val2 B (x / m : Int) (y / m : Int) * m + val2 D (x % m : Int) (y % m : Int))])) := by
  obtain ⟨d1, d2, d3, d4⟩ := divI2 hx hm1
  obtain ⟨d5, d6, d7, d8⟩ := divI2 hy hm1
  obtain ⟨e1, e2⟩ := divN hx hm1
  obtain ⟨e3, e4⟩ := divN hy hm1
  have rA := TA.row _ e1; have rB := TB.row _ e1; have rC := TC.row _ e2; have rD := TD.row _ e2
  have vA := TA.val _ _ e1 e3; have vB := TB.val _ _ e1 e3; have vC := TC.val _ _ e2 e4; have vD := TD.val _ _ e2 e4
  have gA := TA.rng _ _ d1 d2 d5 d6; have gB := TB.rng _ _ d1 d2 d5 d6; have gC := TC.rng _ _ d3 d4 d7 d8; have gD := TD.rng _ _ d3 d4 d7 d8
  have pA := pairI gA.1 gA.2 gC.1 gC.2; have pB := pairI gB.1 gB.2 gD.1 gD.2
  rw [Int.natCast_ediv, Int.natCast_ediv] at vA vB
  rw [Int.natCast_emod, Int.natCast_emod] at vC vD
  have hnmI : (n : Int) * m ≤ 12 := by exact_mod_cast hnm
  have hm0 : ((m : Int) == 0) = false := by simp; omega
  obtain ⟨va, hva⟩ : ∃ z, z = val2 A ((x : Int) / m) ((y : Int) / m) := ⟨_, rfl⟩
  obtain ⟨vb, hvb⟩ : ∃ z, z = val2 B ((x : Int) / m) ((y : Int) / m) := ⟨_, rfl⟩
  obtain ⟨vc, hvc⟩ : ∃ z, z = val2 C ((x : Int) % m) ((y : Int) % m) := ⟨_, rfl⟩
  obtain ⟨vd, hvd⟩ : ∃ z, z = val2 D ((x : Int) % m) ((y : Int) % m) := ⟨_, rfl⟩
  rw [← hva] at vA gA pA ⊢; rw [← hvb] at vB gB pB ⊢; rw [← hvc] at vC gC pA ⊢; rw [← hvd] at vD gD pB ⊢
  clear hva hvb hvc hvd TA TB TC TD
  go_enter Try.func58, Try.ntmps58
  go_wp2
  go_quiet (fail)
  go_wp2
  go_quiet (fail)
  go_wp2
  go_quiet (fail)
  go_wp2
  go_ret2
  exact ⟨rfl, below_drewN (below_drewN (below_drewN (Below.refl _ _) _) _) _⟩

theorem c_solutionByI (N : Int) (n : Nat) (hNn : N = n) (f : FuncId) (lb : Array Value) (g h : Int → Int → Int) (w : World) (hn : n ≤ 1048576) (eg : ∀ args w, (callFunc f args).run Try.prog w = .ok (.enter f args) w) (hf : Pays3 w f lb n g h) :
    Calls Try.prog 49 #[.int .i64 N, .func (.func f) #[] lb] w (RSol w (tabOf n g) (tabOf n h)) := by
  subst hNn
  exact c_solutionBy n f lb g h w hn eg hf

set_option maxRecDepth 100000 in
set_option maxHeartbeats 4000000 in
theorem c_ProductSolution (v0 u0 : Value) (A B : List (List Int)) (v1 u1 : Value) (C D : List (List Int)) (w : World) (hA : Sol w v0 u0 A B) (hC : Sol w v1 u1 C D)  :
    Calls Try.prog 17 #[.agg #[v0, u0], .agg #[v1, u1]] w (RSolC w (prRA A B C D) (prRB A B C D) (prCode A B C D)) := by
  by_cases hp0 : isPM A B = true
  case neg =>
    have hq0 : isPM A B = false := by simpa using hp0
    have HQ := Lib.hid hq0; clear hp0
    obtain ⟨a0, c0, rfl, _, _⟩ := hA.1.shape
    obtain ⟨a0s, c0s, rfl, _, _⟩ := hA.2.shape
    obtain ⟨a1, c1, rfl, _, _⟩ := hC.1.shape
    obtain ⟨a1s, c1s, rfl, _, _⟩ := hC.2.shape
    go_enter Try.func17, Try.ntmps17
    go_wp2_with fail
    obtain ⟨f0, f1, f2, hW0, hsz⟩ := boxes3 w [.slice a0 A.length c0, .slice a0s B.length c0s] [.slice a1 C.length c1, .slice a1s D.length c1s] [.slice none 0 0, .slice none 0 0] 26 26 26
    obtain ⟨W0, hW⟩ : ∃ W, (((w.alloc (.cells #[.slice a0 A.length c0, .slice a0s B.length c0s] 26)).alloc (.cells #[.slice a1 C.length c1, .slice a1s D.length c1s] 26)).alloc (.cells #[.slice none 0 0, .slice none 0 0] 26)) = W := ⟨_, rfl⟩
    rw [hW] at f0 f1 f2 hW0 hsz ⊢
    clear hW hsz
    refine (c_IsPairMap _ _ _ _ _ (hA.below hW0)).mono ?_; rintro e g0 ⟨rfl, hbg0⟩
    have hB0 := bb hW0 hbg0
    replace f0 := f0.under hbg0
    obtain ⟨cA0, cB0, -, -⟩ := two_cells f0
    replace f1 := f1.under hbg0
    obtain ⟨cA1, cB1, -, -⟩ := two_cells f1
    replace f2 := f2.under hbg0
    obtain ⟨cA2, cB2, fA2, fB2⟩ := two_cells f2
    clear hbg0
    have HB := Lib.hid hB0
    clear hB0 hW0
    go_wp2
    refine bodyPost_ret (v := .tuple #[.agg #[.slice none 0 0, .slice none 0 0], .int .i64 1]) (by simp [results, Try.results17, go_sem, cA2, cB2]) rfl ⟨.slice none 0 0, .slice none 0 0, by simp [prRA, prRB, prCode, prOk, HQ.out], ?_, ?_⟩
    · have hz : w.heap.size ≤ g0.heap.size := HB.out.size
      rw [show prRA A B C D = [] from by simp [prRA, prRB, prCode, prOk, HQ.out], show prRB A B C D = [] from by simp [prRA, prRB, prCode, prOk, HQ.out]]
      exact OwnSol.nil0 (by first | exact hz | (simp [World.setCell]; exact hz))
    · first | exact HB.out | exact (HB.out.setCell (p := ⟨w.heap.size + 1 + 1, 0, none⟩) (by show _ ≤ w.heap.size + 1 + 1; omega) _).setCell (p := ⟨w.heap.size + 1 + 1, 1, none⟩) (by show _ ≤ w.heap.size + 1 + 1; omega) _
  have HP0 := Lib.hid hp0
  obtain ⟨n0, b0, o0, c0, rb0, ro0, rc0, b0s, o0s, c0s, rb0s, ro0s, rc0s, rfl, rfl, hl0, hl0s, hn0, hx0, hc0, hm0, hc0s, hm0s, t0, t0s⟩ := hA.tabs hp0
  have HL0 := Lib.hid hl0; clear hl0
  have HL0s := Lib.hid hl0s; clear hl0s
  by_cases hp1 : isPM C D = true
  case neg =>
    have hq1 : isPM C D = false := by simpa using hp1
    have HQ := Lib.hid hq1; clear hp1
    obtain ⟨a1, c1, rfl, _, _⟩ := hC.1.shape
    obtain ⟨a1s, c1s, rfl, _, _⟩ := hC.2.shape
    go_enter Try.func17, Try.ntmps17
    go_wp2_with fail
    obtain ⟨f0, f1, f2, hW0, hsz⟩ := boxes3 w [.slice (some ⟨b0, o0, none⟩) n0 c0, .slice (some ⟨b0s, o0s, none⟩) n0 c0s] [.slice a1 C.length c1, .slice a1s D.length c1s] [.slice none 0 0, .slice none 0 0] 26 26 26
    obtain ⟨W0, hW⟩ : ∃ W, (((w.alloc (.cells #[.slice (some ⟨b0, o0, none⟩) n0 c0, .slice (some ⟨b0s, o0s, none⟩) n0 c0s] 26)).alloc (.cells #[.slice a1 C.length c1, .slice a1s D.length c1s] 26)).alloc (.cells #[.slice none 0 0, .slice none 0 0] 26)) = W := ⟨_, rfl⟩
    rw [hW] at f0 f1 f2 hW0 hsz ⊢
    clear hW hsz
    refine (c_IsPairMap _ _ _ _ _ (hA.below hW0)).mono ?_; rintro e g0 ⟨rfl, hbg0⟩
    have hB0 := bb hW0 hbg0
    replace f0 := f0.under hbg0
    obtain ⟨cA0, cB0, -, -⟩ := two_cells f0
    replace f1 := f1.under hbg0
    obtain ⟨cA1, cB1, -, -⟩ := two_cells f1
    replace f2 := f2.under hbg0
    obtain ⟨cA2, cB2, fA2, fB2⟩ := two_cells f2
    clear hbg0
    go_wp2_with fail
    refine (c_IsPairMap _ _ _ _ _ (hC.below hB0)).mono ?_; rintro e g1 ⟨rfl, hbg1⟩
    have hB1 := bb hB0 hbg1
    replace f0 := f0.under hbg1
    clear cA0 cB0
    obtain ⟨cA0, cB0, -, -⟩ := two_cells f0
    replace f1 := f1.under hbg1
    clear cA1 cB1
    obtain ⟨cA1, cB1, -, -⟩ := two_cells f1
    replace f2 := f2.under hbg1
    clear cA2 cB2 fA2 fB2
    obtain ⟨cA2, cB2, fA2, fB2⟩ := two_cells f2
    clear hbg1
    have HB := Lib.hid hB1
    clear hB0 hB1 hW0
    go_wp2
    refine bodyPost_ret (v := .tuple #[.agg #[.slice none 0 0, .slice none 0 0], .int .i64 1]) (by simp [results, Try.results17, go_sem, cA2, cB2]) rfl ⟨.slice none 0 0, .slice none 0 0, by simp [prRA, prRB, prCode, prOk, HQ.out, HP0.out], ?_, ?_⟩
    · have hz : w.heap.size ≤ g1.heap.size := HB.out.size
      rw [show prRA A B C D = [] from by simp [prRA, prRB, prCode, prOk, HQ.out, HP0.out], show prRB A B C D = [] from by simp [prRA, prRB, prCode, prOk, HQ.out, HP0.out]]
      exact OwnSol.nil0 (by first | exact hz | (simp [World.setCell]; exact hz))
    · first | exact HB.out | exact (HB.out.setCell (p := ⟨w.heap.size + 1 + 1, 0, none⟩) (by show _ ≤ w.heap.size + 1 + 1; omega) _).setCell (p := ⟨w.heap.size + 1 + 1, 1, none⟩) (by show _ ≤ w.heap.size + 1 + 1; omega) _
  have HP1 := Lib.hid hp1
  obtain ⟨n1, b1, o1, c1, rb1, ro1, rc1, b1s, o1s, c1s, rb1s, ro1s, rc1s, rfl, rfl, hl1, hl1s, hn1, hx1, hc1, hm1, hc1s, hm1s, t1, t1s⟩ := hC.tabs hp1
  have HL1 := Lib.hid hl1; clear hl1
  have HL1s := Lib.hid hl1s; clear hl1s
  go_enter Try.func17, Try.ntmps17
  go_wp2_with fail
  obtain ⟨f0, f1, f2, hW0, hsz⟩ := boxes3 w [.slice (some ⟨b0, o0, none⟩) n0 c0, .slice (some ⟨b0s, o0s, none⟩) n0 c0s] [.slice (some ⟨b1, o1, none⟩) n1 c1, .slice (some ⟨b1s, o1s, none⟩) n1 c1s] [.slice none 0 0, .slice none 0 0] 26 26 26
  obtain ⟨W0, hW⟩ : ∃ W, (((w.alloc (.cells #[.slice (some ⟨b0, o0, none⟩) n0 c0, .slice (some ⟨b0s, o0s, none⟩) n0 c0s] 26)).alloc (.cells #[.slice (some ⟨b1, o1, none⟩) n1 c1, .slice (some ⟨b1s, o1s, none⟩) n1 c1s] 26)).alloc (.cells #[.slice none 0 0, .slice none 0 0] 26)) = W := ⟨_, rfl⟩
  rw [hW] at f0 f1 f2 hW0 hsz ⊢
  clear hW hsz
  refine (c_IsPairMap _ _ _ _ _ (hA.below hW0)).mono ?_; rintro e g0 ⟨rfl, hbg0⟩
  have hB0 := bb hW0 hbg0
  replace f0 := f0.under hbg0
  obtain ⟨cA0, cB0, -, -⟩ := two_cells f0
  replace f1 := f1.under hbg0
  obtain ⟨cA1, cB1, -, -⟩ := two_cells f1
  replace f2 := f2.under hbg0
  obtain ⟨cA2, cB2, fA2, fB2⟩ := two_cells f2
  clear hbg0
  go_wp2_with fail
  refine (c_IsPairMap _ _ _ _ _ (hC.below hB0)).mono ?_; rintro e g1 ⟨rfl, hbg1⟩
  have hB1 := bb hB0 hbg1
  replace f0 := f0.under hbg1
  clear cA0 cB0
  obtain ⟨cA0, cB0, -, -⟩ := two_cells f0
  replace f1 := f1.under hbg1
  clear cA1 cB1
  obtain ⟨cA1, cB1, -, -⟩ := two_cells f1
  replace f2 := f2.under hbg1
  clear cA2 cB2 fA2 fB2
  obtain ⟨cA2, cB2, fA2, fB2⟩ := two_cells f2
  clear hbg1
  have HOK := Lib.hid (prOk_of HP0.out HP1.out)
  have hnn : n0 * n1 ≤ 144 := Nat.mul_le_mul hx0 hx1
  have hnnI : (n0 : Int) * n1 ≤ 144 := by exact_mod_cast hnn
  have hnnJ : (0 : Int) ≤ (n0 : Int) * n1 := by exact_mod_cast Nat.zero_le _
  have HF0 := Lib.hid f0.drew; have HF1 := Lib.hid f1.drew; have HF2 := Lib.hid f2.drew; have HBd := Lib.hid hB1.drew
  have HT0 := Lib.hid t0; have HT0s := Lib.hid t0s; have HT1 := Lib.hid t1; have HT1s := Lib.hid t1s
  clear hA hC hB0 hB1 hW0 f0 f1 f2 t0 t0s t1 t1s
  have km : Blk (g1.alloc (.cells #[.int .i64 n1] 3)).drew g1.heap.size 3 [.int .i64 n1] := (Blk.new g1 [.int .i64 n1] 3).drew
  have hGW : Below g1.drew.heap.size g1.drew (g1.alloc (.cells #[.int .i64 n1] 3)).drew := ((Below.refl g1.drew.heap.size g1.drew).alloc (Nat.le_refl _) (.cells #[.int .i64 n1] 3))
  have hBW : Below w.heap.size w (g1.alloc (.cells #[.int .i64 n1] 3)).drew := bb HBd.out hGW
  have k0 := HF0.out.under hGW; have k1 := HF1.out.under hGW; have k2 := HF2.out.under hGW
  obtain ⟨z0, z1, z2, z3⟩ := two_cells k2
  have z4 := one_cell km
  have d0 := (two_cells HF0.out).1; have d1 := (two_cells HF1.out).1
  go_wp2
  go_region_held3 (fun w' => w'.cell? ⟨w.heap.size, 0, none⟩ = some (.slice (some ⟨b0, o0, none⟩) n0 c0) ∧ w'.cell? ⟨w.heap.size + 1, 0, none⟩ = some (.slice (some ⟨b1, o1, none⟩) n1 c1)) (first | go_keep | exact ⟨(two_cells HF0.out).1, (two_cells HF1.out).1⟩) (fail)
  by_cases hsm : n0 * n1 ≤ 12
  case neg =>
    have hgt : ¬ ((n0 : Int) * n1 ≤ 12) := by intro h; exact hsm (by exact_mod_cast h)
    have hS : prSm A C = false := by unfold prSm; rw [HL0.out, HL1.out]; simpa using hsm
    have HS := Lib.hid hS; have HB := Lib.hid hBW
    clear hsm hS hBW hGW k0 k1 k2 km
    obtain ⟨y0, y1, y2, y3⟩ : (g1.alloc (.cells #[.int .i64 n1] 3)).cell? ⟨w.heap.size + 1 + 1, 0, none⟩ = _ ∧ (g1.alloc (.cells #[.int .i64 n1] 3)).cell? ⟨w.heap.size + 1 + 1, 1, none⟩ = _ ∧ (g1.alloc (.cells #[.int .i64 n1] 3)).frozen? ⟨w.heap.size + 1 + 1, 0, none⟩ = _ ∧ (g1.alloc (.cells #[.int .i64 n1] 3)).frozen? ⟨w.heap.size + 1 + 1, 1, none⟩ = _ := ⟨z0, z1, z2, z3⟩
    go_wp2
    refine bodyPost_ret (v := .tuple #[.agg #[.slice none 0 0, .slice none 0 0], .int .i64 3]) (by simp [results, Try.results17, go_sem, y0, y1]) rfl ⟨.slice none 0 0, .slice none 0 0, by simp [prCode, HOK.out, HS.out], ?_, ?_⟩
    · have hz := HB.out.size
      rw [show prRA A B C D = [] from by simp [prRA, HS.out], show prRB A B C D = [] from by simp [prRB, HS.out]]
      exact OwnSol.nil0 (by first | exact hz | (simp [World.setCell] at hz ⊢; omega))
    · first | exact HB.out | exact (HB.out.setCell (p := ⟨w.heap.size + 1 + 1, 0, none⟩) (by show _ ≤ w.heap.size + 1 + 1; omega) _).setCell (p := ⟨w.heap.size + 1 + 1, 1, none⟩) (by show _ ≤ w.heap.size + 1 + 1; omega) _
  have hlt : (n0 : Int) * n1 ≤ 12 := by exact_mod_cast hsm
  have hS : prSm A C = true := by unfold prSm; rw [HL0.out, HL1.out]; simpa using hsm
  have HS := Lib.hid hS; clear hS
  have HBW := Lib.hid hBW; have HGW := Lib.hid hGW; have HK0 := Lib.hid k0; have HK1 := Lib.hid k1; have HK2 := Lib.hid k2; have HKm := Lib.hid km
  clear k0 k1 k2 km hBW hGW
  go_wp2_with fail
  clear z0 z1 z2 z3 z4
  generalize (g1.alloc (.cells #[.int .i64 n1] 3)).drew = V at HBW HGW HK0 HK1 HK2 HKm ⊢
  have hpay : Pays3 V 58 #[.pointer (some ⟨w.heap.size, 0, none⟩), .pointer (some ⟨g1.heap.size, 0, none⟩), .pointer (some ⟨w.heap.size + 1, 0, none⟩)] (n0 * n1)
      (fun x y => val2 A (x / n1) (y / n1) * n1 + val2 C (x % n1) (y % n1)) (fun x y => val2 B (x / n1) (y / n1) * n1 + val2 D (x % n1) (y % n1)) := fun U x y hb h1 h2 =>
    c_product1 w.heap.size g1.heap.size (w.heap.size + 1) n0 n1 c0 c0s c1 c1s b0 o0 b0s o0s b1 o1 b1s o1s A B C D rb0 ro0 rc0 rb0s ro0s rc0s rb1 ro1 rc1 rb1s ro1s rc1s x y U (two_cells (HK0.out.under hb)).1 (two_cells (HK0.out.under hb)).2.1 (one_cell (HKm.out.under hb)) (two_cells (HK1.out.under hb)).1 (two_cells (HK1.out.under hb)).2.1
      ((HT0.out.below HBW.out).below hb) ((HT0s.out.below HBW.out).below hb) ((HT1.out.below HBW.out).below hb) ((HT1s.out.below HBW.out).below hb) h1 h2 (by omega) hsm ⟨hc0, hc0s⟩ ⟨hc1, hc1s⟩ hx0 hx1
  have HP := Lib.hid hpay; clear hpay
  refine (c_solutionByI _ (n0 * n1) (by push_cast; rfl) _ _ _ _ _ (by omega) eg_product1 HP.out).mono ?_; rintro e wz ⟨s1, s2, rfl, hs, hbz⟩
  obtain ⟨sa1, sl1, sc1, rfl⟩ := hs.sol.1.any
  obtain ⟨sa2, sl2, sc2, rfl⟩ := hs.sol.2.any
  obtain ⟨z0, z1, z2, z3⟩ := two_cells (HK2.out.under hbz)
  have HLo := Lib.hid HK2.out.lt; have HSo := Lib.hid hs; have HBz := Lib.hid (bb HBW.out hbz); clear hs hbz
  go_wp2
  obtain ⟨hA, hB⟩ := stored (q := w.heap.size + 1 + 1) HBz.out HSo.out (by omega) HLo.out
  refine bodyPost_ret (v := .tuple #[.agg #[.slice sa1 sl1 sc1, .slice sa2 sl2 sc2], .int .i64 0]) (by simp [results, Try.results17, go_sem, z0, z1]) rfl ⟨_, _, by simp [prCode, HOK.out, HS.out]; exact ⟨rfl, rfl⟩, by simpa [prRA, prRB, prT, HOK.out, HS.out, HL0.out, HL0s.out, HL1.out, HL1s.out] using hA, hB⟩

set_option maxRecDepth 100000 in
set_option maxHeartbeats 4000000 in
theorem c_l02Product (v0 u0 : Value) (A B : List (List Int)) (v1 u1 : Value) (C D : List (List Int)) (w : World) (hA : Sol w v0 u0 A B) (hC : Sol w v1 u1 C D) (hp : isPM A B = true) (hq : isPM C D = true) (hsm : A.length * C.length ≤ 12) :
    Calls Try.prog 59 #[.agg #[v0, u0], .agg #[v1, u1]] w (RSolR w (prT A C) (prT B D)) := by
  obtain ⟨n0, b0, o0, c0, rb0, ro0, rc0, b0s, o0s, c0s, rb0s, ro0s, rc0s, rfl, rfl, hl0, hl0s, hn0, hx0, hc0, hm0, hc0s, hm0s, t0, t0s⟩ := hA.tabs hp
  have HL0 := Lib.hid hl0; clear hl0
  have HL0s := Lib.hid hl0s; clear hl0s
  obtain ⟨n1, b1, o1, c1, rb1, ro1, rc1, b1s, o1s, c1s, rb1s, ro1s, rc1s, rfl, rfl, hl1, hl1s, hn1, hx1, hc1, hm1, hc1s, hm1s, t1, t1s⟩ := hC.tabs hq
  have HL1 := Lib.hid hl1; clear hl1
  have HL1s := Lib.hid hl1s; clear hl1s
  go_enter Try.func59, Try.ntmps59
  go_wp2
  obtain ⟨f0, f1, f2, hW0, hsz⟩ := boxes3 w [.slice (some ⟨b0, o0, none⟩) n0 c0, .slice (some ⟨b0s, o0s, none⟩) n0 c0s] [.slice (some ⟨b1, o1, none⟩) n1 c1, .slice (some ⟨b1s, o1s, none⟩) n1 c1s] [.slice none 0 0, .slice none 0 0] 26 26 26
  obtain ⟨W0, hW⟩ : ∃ W, (((w.alloc (.cells #[.slice (some ⟨b0, o0, none⟩) n0 c0, .slice (some ⟨b0s, o0s, none⟩) n0 c0s] 26)).alloc (.cells #[.slice (some ⟨b1, o1, none⟩) n1 c1, .slice (some ⟨b1s, o1s, none⟩) n1 c1s] 26)).alloc (.cells #[.slice none 0 0, .slice none 0 0] 26)) = W := ⟨_, rfl⟩
  rw [hW] at f0 f1 f2 hW0 hsz ⊢
  have HSZ := Lib.hid hsz
  clear hW hsz
  obtain ⟨cA0, cB0, -, -⟩ := two_cells f0
  obtain ⟨cA1, cB1, -, -⟩ := two_cells f1
  obtain ⟨cA2, cB2, -, -⟩ := two_cells f2
  replace t0 := t0.below hW0; replace t0s := t0s.below hW0
  replace t1 := t1.below hW0; replace t1s := t1s.below hW0
  rw [HL0.out, HL1.out] at hsm
  obtain ⟨N, hN⟩ : ∃ N, N = n0 * n1 := ⟨_, rfl⟩
  have hNI : (n0 : Int) * n1 = N := by rw [hN]; push_cast; rfl
  obtain ⟨gA, hgA⟩ : ∃ g : Int → Int → Int, g = fun x y => val2 A (x / n1) (y / n1) * n1 + val2 C (x % n1) (y % n1) := ⟨_, rfl⟩
  obtain ⟨gB, hgB⟩ : ∃ g : Int → Int → Int, g = fun x y => val2 B (x / n1) (y / n1) * n1 + val2 D (x % n1) (y % n1) := ⟨_, rfl⟩
  have hRA : prT A C = tabOf N gA := by unfold prT; rw [HL0.out, HL1.out, hgA, hN]
  have hRB : prT B D = tabOf N gB := by unfold prT; rw [HL0s.out, HL1s.out, hgB, hN]
  have HRA := Lib.hid hRA; have HRB := Lib.hid hRB
  have HGA : Hid (∀ x y : Int, gA x y = val2 A (x / n1) (y / n1) * n1 + val2 C (x % n1) (y % n1)) := Lib.hid (by rw [hgA]; intro x y; rfl)
  have HGB : Hid (∀ x y : Int, gB x y = val2 B (x / n1) (y / n1) * n1 + val2 D (x % n1) (y % n1)) := Lib.hid (by rw [hgB]; intro x y; rfl)
  have HN := Lib.hid hN
  rw [← hN] at hsm
  clear hgA hgB hRA hRB hN hA hC hp hq
  go_quiet (fail)
  rename_i nq
  have hdn : Below W0.heap.size W0 (W0.drewN nq) := below_drewN (Below.refl _ _) nq
  replace f0 := f0.under hdn; replace f1 := f1.under hdn; replace f2 := f2.under hdn; replace hW0 := bb hW0 hdn
  have HT0 := Lib.hid (t0.below hdn); have HT0s := Lib.hid (t0s.below hdn); have HT1 := Lib.hid (t1.below hdn); have HT1s := Lib.hid (t1s.below hdn)
  have HSV : Hid ((W0.drewN nq).heap.size = w.heap.size + 1 + 1 + 1) := HSZ.out
  generalize W0.drewN nq = V at f0 f1 f2 hW0 HT0 HT0s HT1 HT1s HSV ⊢
  have HF2lt := Lib.hid f2.lt
  have hV := hW0
  clear t0 t0s t1 t1s cA0 cB0 cA1 cB1 cA2 cB2 hdn HSZ hW0
  go_wp2
  have hB1 : Below V.heap.size V (V.alloc (.cells #[.slice none 0 0, .slice none 0 0] 26)) := (Below.refl _ _).alloc (Nat.le_refl _) _
  have hout := Blk.new V [.slice none 0 0, .slice none 0 0] 26
  have hs1 : (V.alloc (.cells #[.slice none 0 0, .slice none 0 0] 26)).heap.size = V.heap.size + 1 := by simp
  have hqq : V.heap.size = V.heap.size := rfl
  change Blk (V.alloc (.cells #[.slice none 0 0, .slice none 0 0] 26)) _ _ _ at hout
  obtain ⟨W1, hW1⟩ : ∃ W, V.alloc (.cells #[.slice none 0 0, .slice none 0 0] 26) = W := ⟨_, rfl⟩
  rw [hW1] at hB1 hout hs1 ⊢
  clear hW1
  have hout' : Blk W1 (V.heap.size) 26 [.slice none 0 0, .slice none 0 0] := by rw [← hqq]; exact hout
  have HOut := Lib.hid (Out2.start (lo := V.heap.size + 1) (q := V.heap.size) (w := W1) (by omega) (by omega) hout')
  have HB1 := Lib.hid hB1; have HWW := Lib.hid hV; have HS1 := Lib.hid hs1
  have HQLE : Hid (V.heap.size ≤ V.heap.size) := Lib.hid (by omega)
  clear hB1 hout hout' hs1 hV hqq
  go_loopw [8, 9, 10, 11] (fun a _ _ _ wr => ∃ (k : Nat) (va vb : Value), k ≤ N ∧ a = .int .i64 k ∧ Hid (Below V.heap.size V wr) ∧ Hid (Out2 (V.heap.size + 1) wr.heap.size (V.heap.size) wr va vb ((tabOf N gA).take k) ((tabOf N gB).take k))) (fun a _ _ _ _ => N - (intOf a).toNat)
  case atStart => exact ⟨0, _, _, Nat.zero_le _, rfl, HB1, HOut⟩
  case round =>
    clear HB1 HOut
    obtain ⟨k, va, vb, hk, rfl, HB, HO⟩ := hrel
    obtain ⟨wo, rfl⟩ : ∃ wo : World, wo = wr := ⟨_, rfl⟩
    by_cases hlt : k < N
    · go_wp2
      go_loopw [9, 10, 11] (fun s t y wi => ∃ (j : Nat) (sa : Option Addr) (sc : Nat) (ta : Option Addr) (tc : Nat), j ≤ N ∧ y = .int .i64 j ∧ s = .slice sa j sc ∧ t = .slice ta j tc ∧ Hid (Below wo.heap.size wo wi) ∧ Hid (Two wo.heap.size wi (.slice sa j sc) (.slice ta j tc) ((rowOf N (gA k)).take j) ((rowOf N (gB k)).take j))) (fun _ _ y _ => N - (intOf y).toNat)
      case atStart => exact ⟨0, _, _, _, _, Nat.zero_le _, rfl, rfl, rfl, Lib.hid (((Below.refl wo.heap.size wo).alloc (Nat.le_refl _) _).alloc (by simp) _), Lib.hid (Two.made0 wo)⟩
      case round =>
        obtain ⟨j, sa, sc, ta, tc, hj, rfl, rfl, rfl, Hb, HTw⟩ := hrel
        obtain ⟨wi, rfl⟩ : ∃ wi : World, wi = wr := ⟨_, rfl⟩
        by_cases hlj : j < N
        · have hB2 := bb HB.out Hb.out
          obtain ⟨cA0, cB0, -, -⟩ := two_cells (f0.under hB2)
          obtain ⟨cA1, cB1, -, -⟩ := two_cells (f1.under hB2)
          have T0 := HT0.out.below hB2; have T1 := HT1.out.below hB2
          have hkN : k < n0 * n1 := by have := HN.out; omega
          have hjN : j < n0 * n1 := by have := HN.out; omega
          obtain ⟨d1, d2, d3, d4⟩ := divI2 hkN hn1
          obtain ⟨d5, d6, d7, d8⟩ := divI2 hjN hn1
          clear hkN hjN
          have HEA := Lib.hid (HGA.out k j); have HEB := Lib.hid (HGB.out k j)
          have w1 : IntKind.i64.wrap ((k : Int) / (n1 : Int)) = (k : Int) / (n1 : Int) := by rw [IntKind.wrap_i64]; omega
          have w2 : Int.tmod (k : Int) (n1 : Int) = (k : Int) % (n1 : Int) := Int.tmod_eq_emod_of_nonneg (by omega)
          have w3 : IntKind.i64.wrap ((j : Int) / (n1 : Int)) = (j : Int) / (n1 : Int) := by rw [IntKind.wrap_i64]; omega
          have w4 : Int.tmod (j : Int) (n1 : Int) = (j : Int) % (n1 : Int) := Int.tmod_eq_emod_of_nonneg (by omega)
          obtain ⟨x1, hx1⟩ : ∃ x : Int, (k : Int) / (n1 : Int) = x := ⟨_, rfl⟩
          obtain ⟨x2, hx2⟩ : ∃ x : Int, (k : Int) % (n1 : Int) = x := ⟨_, rfl⟩
          obtain ⟨x3, hx3⟩ : ∃ x : Int, (j : Int) / (n1 : Int) = x := ⟨_, rfl⟩
          obtain ⟨x4, hx4⟩ : ∃ x : Int, (j : Int) % (n1 : Int) = x := ⟨_, rfl⟩
          rw [hx1] at d1 d2 HEA HEB; rw [hx2] at d3 d4 HEA HEB; rw [hx3] at d5 d6 HEA HEB; rw [hx4] at d7 d8 HEA HEB
          replace w1 := w1.trans hx1; replace w2 := w2.trans hx2; replace w3 := w3.trans hx3; replace w4 := w4.trans hx4
          clear hx1 hx2 hx3 hx4
          have rA := T0.rowi _ d1 d2; have rC := T1.rowi _ d3 d4; have vA := T0.vali _ _ d1 d2 d5 d6; have vC := T1.vali _ _ d3 d4 d7 d8
          have gA1 := T0.rng _ _ d1 d2 d5 d6; have gC1 := T1.rng _ _ d3 d4 d7 d8
          have gB1 := HT0s.out.rng _ _ d1 d2 d5 d6; have gD1 := HT1s.out.rng _ _ d3 d4 d7 d8
          have pA := pairI gA1.1 gA1.2 gC1.1 gC1.2; have pB := pairI gB1.1 gB1.2 gD1.1 gD1.2
          have hm0 : ¬ (n1 = 0) := by omega
          obtain ⟨va1, hva⟩ : ∃ z, z = val2 A x1 x3 := ⟨_, rfl⟩
          obtain ⟨vb1, hvb⟩ : ∃ z, z = val2 B x1 x3 := ⟨_, rfl⟩
          obtain ⟨vc1, hvc⟩ : ∃ z, z = val2 C x2 x4 := ⟨_, rfl⟩
          obtain ⟨vd1, hvd⟩ : ∃ z, z = val2 D x2 x4 := ⟨_, rfl⟩
          rw [← hva] at vA gA1 pA HEA; rw [← hvb] at gB1 pB HEB; rw [← hvc] at vC gC1 pA HEA; rw [← hvd] at gD1 pB HEB
          have mA : 0 ≤ va1 * (n1 : Int) := Int.mul_nonneg gA1.1 (by omega)
          have mB : 0 ≤ vb1 * (n1 : Int) := Int.mul_nonneg gB1.1 (by omega)
          have u1 : IntKind.i64.wrap (va1 * (n1 : Int)) = va1 * (n1 : Int) := by rw [IntKind.wrap_i64]; omega
          have u2 : IntKind.i64.wrap (va1 * (n1 : Int) + vc1) = va1 * (n1 : Int) + vc1 := by rw [IntKind.wrap_i64]; omega
          have u3 : IntKind.i64.wrap (vb1 * (n1 : Int)) = vb1 * (n1 : Int) := by rw [IntKind.wrap_i64]; omega
          have u4 : IntKind.i64.wrap (vb1 * (n1 : Int) + vd1) = vb1 * (n1 : Int) + vd1 := by rw [IntKind.wrap_i64]; omega
          have HVB := Lib.hid hvb; have HVD := Lib.hid hvd; have HVA := Lib.hid hva; have HVC := Lib.hid hvc
          have HSA : Hid (∀ w' : World, Below V.heap.size V w' → w'.cell? ⟨w.heap.size, 0, none⟩ = some (.slice (some ⟨b0, o0, none⟩) n0 c0) ∧ w'.cell? ⟨w.heap.size + 1, 0, none⟩ = some (.slice (some ⟨b1, o1, none⟩) n1 c1) ∧ w'.cell? ⟨b0, o0 + x1.toNat, none⟩ = some (.slice (some ⟨rb0 x1.toNat, ro0 x1.toNat, none⟩) n0 (rc0 x1.toNat)) ∧ w'.cell? ⟨b1, o1 + x2.toNat, none⟩ = some (.slice (some ⟨rb1 x2.toNat, ro1 x2.toNat, none⟩) n1 (rc1 x2.toNat)) ∧ w'.cell? ⟨rb0 x1.toNat, ro0 x1.toNat + x3.toNat, none⟩ = some (.int .i64 va1) ∧ w'.cell? ⟨rb1 x2.toNat, ro1 x2.toNat + x4.toNat, none⟩ = some (.int .i64 vc1)) := Lib.hid (by
            intro w' hb
            have T0 := HT0.out.below hb; have T1 := HT1.out.below hb
            have a1 := T0.rowi _ d1 d2; have a2 := T1.rowi _ d3 d4; have a3 := T0.vali _ _ d1 d2 d5 d6; have a4 := T1.vali _ _ d3 d4 d7 d8
            rw [← HVA.out] at a3; rw [← HVC.out] at a4
            exact ⟨(two_cells (f0.under hb)).1, (two_cells (f1.under hb)).1, a1, a2, a3, a4⟩)
          have HSB : Hid (∀ w' : World, Below V.heap.size V w' → w'.cell? ⟨w.heap.size, 1, none⟩ = some (.slice (some ⟨b0s, o0s, none⟩) n0 c0s) ∧ w'.cell? ⟨w.heap.size + 1, 1, none⟩ = some (.slice (some ⟨b1s, o1s, none⟩) n1 c1s) ∧ w'.cell? ⟨b0s, o0s + x1.toNat, none⟩ = some (.slice (some ⟨rb0s x1.toNat, ro0s x1.toNat, none⟩) n0 (rc0s x1.toNat)) ∧ w'.cell? ⟨b1s, o1s + x2.toNat, none⟩ = some (.slice (some ⟨rb1s x2.toNat, ro1s x2.toNat, none⟩) n1 (rc1s x2.toNat)) ∧ w'.cell? ⟨rb0s x1.toNat, ro0s x1.toNat + x3.toNat, none⟩ = some (.int .i64 vb1) ∧ w'.cell? ⟨rb1s x2.toNat, ro1s x2.toNat + x4.toNat, none⟩ = some (.int .i64 vd1)) := Lib.hid (by
            intro w' hb
            have T0 := HT0s.out.below hb; have T1 := HT1s.out.below hb
            have a1 := T0.rowi _ d1 d2; have a2 := T1.rowi _ d3 d4; have a3 := T0.vali _ _ d1 d2 d5 d6; have a4 := T1.vali _ _ d3 d4 d7 d8
            rw [← HVB.out] at a3; rw [← HVD.out] at a4
            exact ⟨(two_cells (f0.under hb)).2.1, (two_cells (f1.under hb)).2.1, a1, a2, a3, a4⟩)
          clear hva hvb hvc hvd T0 T1 hB2
          have HX1 := Lib.hid (HTw.out.under ((Below.refl wi.heap.size wi).drew))
          have HZ1 := Lib.hid (bb Hb.out ((Below.refl wi.heap.size wi).drew))
          have hl1 : ((rowOf N (gA k)).take j).length = j := by simp; omega
          have hl2 : ((rowOf N (gB k)).take j).length = j := by simp; omega
          have HL1a := Lib.hid hl1; have HL2a := Lib.hid hl2
          have HN1a : Hid (((rowOf N (gA k)).take j).length ≤ 1099511627776) := by show _ ≤ _; rw [hl1]; omega
          have HN2a : Hid (((rowOf N (gB k)).take j).length ≤ 1099511627776) := by show _ ≤ _; rw [hl2]; omega
          have HS1a : Hid (wo.heap.size ≤ (wi.drew).heap.size) := Lib.hid HZ1.out.size
          clear hl1 hl2
          go_wp2
          go_region_held3 (fun w' => w'.cell? ⟨w.heap.size, 0, none⟩ = some (.slice (some ⟨b0, o0, none⟩) n0 c0) ∧ w'.cell? ⟨w.heap.size + 1, 0, none⟩ = some (.slice (some ⟨b1, o1, none⟩) n1 c1) ∧ w'.cell? ⟨b0, o0 + x1.toNat, none⟩ = some (.slice (some ⟨rb0 x1.toNat, ro0 x1.toNat, none⟩) n0 (rc0 x1.toNat)) ∧ w'.cell? ⟨b1, o1 + x2.toNat, none⟩ = some (.slice (some ⟨rb1 x2.toNat, ro1 x2.toNat, none⟩) n1 (rc1 x2.toNat)) ∧ w'.cell? ⟨rb0 x1.toNat, ro0 x1.toNat + x3.toNat, none⟩ = some (.int .i64 va1) ∧ w'.cell? ⟨rb1 x2.toNat, ro1 x2.toNat + x4.toNat, none⟩ = some (.int .i64 vc1)) (first | go_keep | exact HSA.out _ (bb HB.out HZ1.out) | exact HSA.out _ (bb HB.out HZ2.out)) ((first | (refine step_app_int wo.heap.size (wi.drew) _ ((rowOf N (gA k)).take j) _ _ _  rfl rfl rfl HX1.out.a rfl HN1a.out HS1a.out ?_; intro g c1 w1 hown1 hk1 hg1; rw [HL1a.out] at hown1; rw [HL1a.out]; have HT1 := Lib.hid (HX1.out.app1 hown1 hk1 hg1); have HZ2 := Lib.hid (HX1.out.a.frame HZ1.out (Nat.le_refl _) HS1a.out hk1); clear hown1 hk1 hg1)))
          go_wp2
          have hB3 := bb HB.out HZ2.out
          obtain ⟨cA0, cB0, -, -⟩ := two_cells (f0.under hB3)
          obtain ⟨cA1, cB1, -, -⟩ := two_cells (f1.under hB3)
          have T0s := HT0s.out.below hB3; have T1s := HT1s.out.below hB3
          have rB := T0s.rowi _ d1 d2; have rD := T1s.rowi _ d3 d4; have vB := T0s.vali _ _ d1 d2 d5 d6; have vD := T1s.vali _ _ d3 d4 d7 d8
          rw [← HVB.out] at vB
          rw [← HVD.out] at vD
          clear T0s T1s
          have HX2 := Lib.hid (HT1.out.under ((Below.refl w1.heap.size w1).drew))
          have HZ3 := Lib.hid (bb HZ2.out ((Below.refl w1.heap.size w1).drew))
          have HS2a : Hid (wo.heap.size ≤ (w1.drew).heap.size) := Lib.hid HZ3.out.size
          clear hB3
          go_wp2
          go_region_held3 (fun w' => w'.cell? ⟨w.heap.size, 1, none⟩ = some (.slice (some ⟨b0s, o0s, none⟩) n0 c0s) ∧ w'.cell? ⟨w.heap.size + 1, 1, none⟩ = some (.slice (some ⟨b1s, o1s, none⟩) n1 c1s) ∧ w'.cell? ⟨b0s, o0s + x1.toNat, none⟩ = some (.slice (some ⟨rb0s x1.toNat, ro0s x1.toNat, none⟩) n0 (rc0s x1.toNat)) ∧ w'.cell? ⟨b1s, o1s + x2.toNat, none⟩ = some (.slice (some ⟨rb1s x2.toNat, ro1s x2.toNat, none⟩) n1 (rc1s x2.toNat)) ∧ w'.cell? ⟨rb0s x1.toNat, ro0s x1.toNat + x3.toNat, none⟩ = some (.int .i64 vb1) ∧ w'.cell? ⟨rb1s x2.toNat, ro1s x2.toNat + x4.toNat, none⟩ = some (.int .i64 vd1)) (first | go_keep | exact HSB.out _ (bb HB.out HZ3.out) | exact HSB.out _ (bb HB.out HZ4.out)) ((first | (refine step_app_int wo.heap.size (w1.drew) _ ((rowOf N (gB k)).take j) _ _ _  rfl rfl rfl HX2.out.b rfl HN2a.out HS2a.out ?_; intro g2 c2 w4 hown4 hk4 hg4; rw [HL2a.out] at hown4; rw [HL2a.out]; have HT2 := Lib.hid (HX2.out.app2 hown4 hk4 hg4); have HZ4 := Lib.hid (HX2.out.b.frame HZ3.out (Nat.le_refl _) HS2a.out hk4); clear hown4 hk4 hg4)))
          go_wp2
          go_roundw
          case rel =>
            refine ⟨j + 1, some ⟨g, 0, none⟩, c1, some ⟨g2, 0, none⟩, c2, by omega, by go_num, rfl, rfl, HZ4, ?_⟩
            rw [take_snoc (rowOf N (gA k)) _ (by simpa using hlj), take_snoc (rowOf N (gB k)) _ (by simpa using hlj), nth_rowOf _ _ _ hlj, nth_rowOf _ _ _ hlj, HEA.out, HEB.out]
            exact HT2
          case measure => simp [intOf]; omega
        · obtain rfl : N = j := by omega
          have hTw := HTw.out
          rw [List.take_of_length_le (by simp), List.take_of_length_le (by simp)] at hTw
          have HU := Lib.hid hTw; clear hTw
          have HO2 := Lib.hid (HO.out.under Hb.out)
          have HBi := Lib.hid (bb HB.out Hb.out)
          have hla : ((tabOf N gA).take k).length = k := by simp; omega
          have hlb : ((tabOf N gB).take k).length = k := by simp; omega
          have HNA : Hid (((tabOf N gA).take k).length ≤ 1099511627776) := by show _ ≤ _; rw [hla]; omega
          have HNB : Hid (((tabOf N gB).take k).length ≤ 1099511627776) := by show _ ≤ _; rw [hlb]; omega
          have HLA := Lib.hid hla; have HLB := Lib.hid hlb; clear hla hlb
          have HLO : Hid ((V.heap.size + 1) ≤ wi.heap.size) := Nat.le_trans HO2.out.lm HO2.out.mw
          obtain ⟨cA, cB, cF, cG⟩ := two_cells HO2.out.blk
          go_wp2_with (at_builtin; go_loud (first
            | (refine wpList_app_row2 (V.heap.size + 1) wo.heap.size wi va ((tabOf N gA).take k) _ (rowOf N (gA k)) _ _ rfl rfl rfl HO2.out.a HU.out.a rfl HNA.out HO2.out.lm HLO.out ?_; intro g c1 w1 hown1 hk1 hg1; rw [HLA.out] at hown1; rw [HLA.out]; have hq1 := HO2.out.blkq hk1; obtain ⟨dA, dB, dF, dG⟩ := two_cells hq1; have hh := HO2.out.app1 hown1 hk1 hg1; have hv := HO2.out.row1 HU.out.b hk1 (.slice (some ⟨g, 0, none⟩) (k + 1) c1); have hf := HO2.out.frame1 HBi.out HQLE.out hk1 (.slice (some ⟨g, 0, none⟩) (k + 1) c1); obtain ⟨eA, eB, eF, eG⟩ := two_cells hh.blk; have HH := Lib.hid hh; have HV := Lib.hid hv; have HF1 := Lib.hid hf; clear hown1 hk1 hg1 hq1 hh hv hf)
            | (refine wpList_app_row2s (V.heap.size + 1) wo.heap.size (w1.setCell ⟨(V.heap.size), 0, none⟩ (.slice (some ⟨g, 0, none⟩) (k + 1) c1)) vb ((tabOf N gB).take k) _ (rowOf N (gB k)) _ _ w1.heap.size (by simp [World.setCell]) rfl rfl rfl HH.out.b HV.out rfl HNB.out HH.out.lm (Nat.le_trans HH.out.lm HH.out.mw) ?_; intro g2 c2 w4 hown4 hk4 hg4; rw [HLB.out] at hown4; rw [HLB.out]; have hq4 := HH.out.blkq hk4; clear dA dB dF dG eA eB eF eG cA cB cF cG; obtain ⟨dA, dB, dF, dG⟩ := two_cells hq4; have HH2 := Lib.hid (HH.out.app2 hown4 hk4 hg4); have HF2 := Lib.hid (HH.out.frame2 HF1.out HQLE.out hk4 (.slice (some ⟨g2, 0, none⟩) (k + 1) c2)); clear hown4 hk4 hg4 hq4)))
          go_roundw
          case rel =>
            refine ⟨k + 1, .slice (some ⟨g, 0, none⟩) (k + 1) c1, .slice (some ⟨g2, 0, none⟩) (k + 1) c2, by omega, by go_num, HF2, ?_⟩
            rw [take_snoc_row (tabOf N gA) _ (by simpa using hlt), take_snoc_row (tabOf N gB) _ (by simpa using hlt), row_tabOf _ _ _ hlt, row_tabOf _ _ _ hlt]
            exact HH2
          case measure => simp [intOf]; omega
    · obtain rfl : N = k := by omega
      have hO := HO.out
      rw [List.take_of_length_le (by simp), List.take_of_length_le (by simp)] at hO
      obtain ⟨ra1, rc1, hva, _⟩ := hO.a.out.rows.shape
      obtain ⟨ra2, rc2, hvb, _⟩ := hO.b.out.rows.shape
      rw [tabOf_length] at hva hvb
      subst hva hvb
      obtain ⟨y0, y1, y2, y3⟩ := two_cells hO.blk
      obtain ⟨z0, z1, z2, z3⟩ := two_cells (f2.under HB.out)
      have HO' := Lib.hid hO; clear hO
      have hlt2 := HF2lt.out
      go_wp2
      refine bodyPost_ret (v := .agg #[.slice ra1 N rc1, .slice ra2 N rc2]) (by simp [results, Try.results59, go_sem, z0, z1]) rfl ⟨_, _, rfl, ⟨?_, ?_⟩, ((bb HWW.out HB.out).setCell (p := ⟨w.heap.size + 1 + 1, 0, none⟩) (by show _ ≤ w.heap.size + 1 + 1; omega) _).setCell (p := ⟨w.heap.size + 1 + 1, 1, none⟩) (by show _ ≤ w.heap.size + 1 + 1; omega) _⟩
      · try rw [HRA.out]
        exact OwnRows.mono (B := (V.heap.size + 1)) ((HO'.out.a.out.keep (keep1 _ (w.heap.size + 1 + 1) 0 _) (fun b h1 h2 h3 => by have h3 : b = w.heap.size + 1 + 1 := h3; omega)).keep (keep1 _ (w.heap.size + 1 + 1) 1 _) (fun b h1 h2 h3 => by have h3 : b = w.heap.size + 1 + 1 := h3; omega)) (by have := HSV.out; omega)
      · try rw [HRB.out]
        exact OwnRows.mono (B := (V.heap.size + 1)) ((HO'.out.b.out.keep (keep1 _ (w.heap.size + 1 + 1) 0 _) (fun b h1 h2 h3 => by have h3 : b = w.heap.size + 1 + 1 := h3; omega)).keep (keep1 _ (w.heap.size + 1 + 1) 1 _) (fun b h1 h2 h3 => by have h3 : b = w.heap.size + 1 + 1 := h3; omega)) (by have := HSV.out; omega)

end Go.Proofs.Ytkghonhghbcdlaa

namespace Go.Proofs.Ytkghonhghbcdlaa
set_option linter.unusedVariables false
set_option linter.unusedSimpArgs false
open Go.RowKit

def unG (A C : List (List Int)) (z : Int → Int → Int) (x y : Int) : Int :=
  if x < A.length ∧ y < A.length then val2 A x y else if (A.length : Int) ≤ x ∧ (A.length : Int) ≤ y then A.length + val2 C (x - A.length) (y - A.length) else z x y
def unTA (A C : List (List Int)) : List (List Int) := tabOf (A.length + C.length) (unG A C fun _ y => y)
def unTB (A C : List (List Int)) : List (List Int) := tabOf (A.length + C.length) (unG A C fun x _ => x)
def unOk (A B C D : List (List Int)) : Bool := isPM A B && isPM C D
def unSm (A C : List (List Int)) : Bool := decide (A.length + C.length ≤ 12)
def unRA (A B C D : List (List Int)) : List (List Int) := if unOk A B C D && unSm A C then unTA A C else []
def unRB (A B C D : List (List Int)) : List (List Int) := if unOk A B C D && unSm A C then unTB B D else []
def unCode (A B C D : List (List Int)) : Int := if unOk A B C D then (if unSm A C then 0 else 3) else 1
theorem unOk_of {A B C D : List (List Int)} (h1 : isPM A B = true) (h2 : isPM C D = true) : unOk A B C D = true := by simp [unOk, h1, h2]

theorem eg_union1 : ∀ args w, (callFunc 60 args).run Try.prog w = .ok (.enter 60 args) w := Go.Proofs.enters_of Try.func60 (by kernel_rfl) rfl

set_option maxHeartbeats 1600000 in
theorem c_union1 (bs bn bt : Nat) (n m c0 c0s c1 c1s b0 o0 b0s o0s b1 o1 b1s o1s : Nat) (A B C D : List (List Int)) (rb0 ro0 rc0 rb0s ro0s rc0s rb1 ro1 rc1 rb1s ro1s rc1s : Nat → Nat) (x y : Nat) (w : World)
    (hbn : w.cell? ⟨bn, 0, none⟩ = some (.int .i64 n))
    (hs0 : w.cell? ⟨bs, 0, none⟩ = some (.slice (some ⟨b0, o0, none⟩) n c0)) (hs1 : w.cell? ⟨bs, 1, none⟩ = some (.slice (some ⟨b0s, o0s, none⟩) n c0s))
    (ht0 : w.cell? ⟨bt, 0, none⟩ = some (.slice (some ⟨b1, o1, none⟩) m c1)) (ht1 : w.cell? ⟨bt, 1, none⟩ = some (.slice (some ⟨b1s, o1s, none⟩) m c1s))
    (TA : TabAt w b0 o0 n A rb0 ro0 rc0) (TB : TabAt w b0s o0s n B rb0s ro0s rc0s) (TC : TabAt w b1 o1 m C rb1 ro1 rc1) (TD : TabAt w b1s o1s m D rb1s ro1s rc1s)
    (hA : A.length = n) (hB : B.length = n) (hx : x < n + m) (hy : y < n + m) (hn12 : n ≤ 12) (hm12 : m ≤ 12) :
    Calls Try.prog 60 #[.int .i64 x, .int .i64 y, .pointer (some ⟨bn, 0, none⟩), .pointer (some ⟨bs, 0, none⟩), .pointer (some ⟨bt, 0, none⟩)] w
      (RVal w (.tuple #[.int .i64 (unG A C (fun _ y => y) x y), .int .i64 (unG B D (fun x _ => x) x y)])) := by
  unfold unG
  rw [hA, hB]
  clear hA hB
  by_cases h1 : x < n ∧ y < n
  · obtain ⟨hx1, hy1⟩ := h1
    have rA := TA.row _ hx1; have rB := TB.row _ hx1; have vA := TA.val _ _ hx1 hy1; have vB := TB.val _ _ hx1 hy1
    have i1 : (x : Int) < n := by omega
    have i2 : (y : Int) < n := by omega
    rw [if_pos ⟨i1, i2⟩, if_pos ⟨i1, i2⟩]
    clear TA TB TC TD
    go_enter Try.func60, Try.ntmps60
    go_wp2
    go_quiet (fail)
    go_wp2
    go_ret2
    exact ⟨rfl, below_drewN (Below.refl _ _) _⟩
  have h1' : ¬ ((x : Int) < n ∧ (y : Int) < n) := by omega
  rw [if_neg h1', if_neg h1']
  by_cases h2 : n ≤ x ∧ n ≤ y
  · obtain ⟨hx1, hy1⟩ := h2
    have i1 : (n : Int) ≤ x := by omega
    have i2 : (n : Int) ≤ y := by omega
    have i3 : ¬ ((x : Int) < n) := by omega
    rw [if_pos ⟨i1, i2⟩, if_pos ⟨i1, i2⟩]
    have j0 : 0 ≤ (x : Int) - n := by omega
    have j1 : (x : Int) - n < m := by omega
    have j2 : 0 ≤ (y : Int) - n := by omega
    have j3 : (y : Int) - n < m := by omega
    have rC := TC.rowi _ j0 j1; have rD := TD.rowi _ j0 j1; have vC := TC.vali _ _ j0 j1 j2 j3; have vD := TD.vali _ _ j0 j1 j2 j3
    have gC := TC.rng _ _ j0 j1 j2 j3; have gD := TD.rng _ _ j0 j1 j2 j3
    have u1 : IntKind.i64.wrap ((x : Int) - n) = (x : Int) - n := by rw [IntKind.wrap_i64]; omega
    have u2 : IntKind.i64.wrap ((y : Int) - n) = (y : Int) - n := by rw [IntKind.wrap_i64]; omega
    obtain ⟨X, hX⟩ : ∃ X : Int, (x : Int) - n = X := ⟨_, rfl⟩
    obtain ⟨Y, hY⟩ : ∃ X : Int, (y : Int) - n = X := ⟨_, rfl⟩
    rw [hX] at j0 j1 rC rD vC vD gC gD ⊢; rw [hY] at j2 j3 vC vD gC gD ⊢
    obtain ⟨P, hP⟩ : ∃ P, P = val2 C X Y := ⟨_, rfl⟩
    obtain ⟨Q, hQ⟩ : ∃ P, P = val2 D X Y := ⟨_, rfl⟩
    rw [← hP] at vC gC ⊢; rw [← hQ] at vD gD ⊢
    have u3 : IntKind.i64.wrap ((n : Int) + P) = n + P := by rw [IntKind.wrap_i64]; omega
    have u4 : IntKind.i64.wrap ((n : Int) + Q) = n + Q := by rw [IntKind.wrap_i64]; omega
    replace u1 := u1.trans hX; replace u2 := u2.trans hY
    clear TA TB TC TD h1 h1' hP hQ hX hY
    go_enter Try.func60, Try.ntmps60
    go_wp2
    go_quiet (fail)
    go_wp2
    go_ret2
    exact ⟨rfl, below_drewN (Below.refl _ _) _⟩
  have h2' : ¬ ((n : Int) ≤ x ∧ (n : Int) ≤ y) := by omega
  rw [if_neg h2', if_neg h2']
  clear TA TB TC TD
  by_cases h3 : x < n
  · have i1 : (x : Int) < n := by omega
    have i2 : ¬ ((y : Int) < n) := by omega
    have i3 : ¬ ((n : Int) ≤ x) := by omega
    go_enter Try.func60, Try.ntmps60
    go_wp2
    go_ret2
    exact ⟨rfl, Below.refl _ _⟩
  · have i1 : ¬ ((x : Int) < n) := by omega
    have i2 : ¬ ((n : Int) ≤ y) := by omega
    have i3 : (n : Int) ≤ x := by omega
    go_enter Try.func60, Try.ntmps60
    go_wp2
    go_ret2
    exact ⟨rfl, Below.refl _ _⟩

set_option maxRecDepth 100000 in
set_option maxHeartbeats 4000000 in
theorem c_UnionSolution (v0 u0 : Value) (A B : List (List Int)) (v1 u1 : Value) (C D : List (List Int)) (w : World) (hA : Sol w v0 u0 A B) (hC : Sol w v1 u1 C D)  :
    Calls Try.prog 19 #[.agg #[v0, u0], .agg #[v1, u1]] w (RSolC w (unRA A B C D) (unRB A B C D) (unCode A B C D)) := by
  by_cases hp0 : isPM A B = true
  case neg =>
    have hq0 : isPM A B = false := by simpa using hp0
    have HQ := Lib.hid hq0; clear hp0
    obtain ⟨a0, c0, rfl, _, _⟩ := hA.1.shape
    obtain ⟨a0s, c0s, rfl, _, _⟩ := hA.2.shape
    obtain ⟨a1, c1, rfl, _, _⟩ := hC.1.shape
    obtain ⟨a1s, c1s, rfl, _, _⟩ := hC.2.shape
    go_enter Try.func19, Try.ntmps19
    go_wp2_with fail
    obtain ⟨f0, f1, f2, hW0, hsz⟩ := boxes3 w [.slice a0 A.length c0, .slice a0s B.length c0s] [.slice a1 C.length c1, .slice a1s D.length c1s] [.slice none 0 0, .slice none 0 0] 26 26 26
    obtain ⟨W0, hW⟩ : ∃ W, (((w.alloc (.cells #[.slice a0 A.length c0, .slice a0s B.length c0s] 26)).alloc (.cells #[.slice a1 C.length c1, .slice a1s D.length c1s] 26)).alloc (.cells #[.slice none 0 0, .slice none 0 0] 26)) = W := ⟨_, rfl⟩
    rw [hW] at f0 f1 f2 hW0 hsz ⊢
    clear hW hsz
    refine (c_IsPairMap _ _ _ _ _ (hA.below hW0)).mono ?_; rintro e g0 ⟨rfl, hbg0⟩
    have hB0 := bb hW0 hbg0
    replace f0 := f0.under hbg0
    obtain ⟨cA0, cB0, -, -⟩ := two_cells f0
    replace f1 := f1.under hbg0
    obtain ⟨cA1, cB1, -, -⟩ := two_cells f1
    replace f2 := f2.under hbg0
    obtain ⟨cA2, cB2, fA2, fB2⟩ := two_cells f2
    clear hbg0
    have HB := Lib.hid hB0
    clear hB0 hW0
    go_wp2
    refine bodyPost_ret (v := .tuple #[.agg #[.slice none 0 0, .slice none 0 0], .int .i64 1]) (by simp [results, Try.results19, go_sem, cA2, cB2]) rfl ⟨.slice none 0 0, .slice none 0 0, by simp [unRA, unRB, unCode, unOk, HQ.out], ?_, ?_⟩
    · have hz : w.heap.size ≤ g0.heap.size := HB.out.size
      rw [show unRA A B C D = [] from by simp [unRA, unRB, unCode, unOk, HQ.out], show unRB A B C D = [] from by simp [unRA, unRB, unCode, unOk, HQ.out]]
      exact OwnSol.nil0 (by first | exact hz | (simp [World.setCell]; exact hz))
    · first | exact HB.out | exact (HB.out.setCell (p := ⟨w.heap.size + 1 + 1, 0, none⟩) (by show _ ≤ w.heap.size + 1 + 1; omega) _).setCell (p := ⟨w.heap.size + 1 + 1, 1, none⟩) (by show _ ≤ w.heap.size + 1 + 1; omega) _
  have HP0 := Lib.hid hp0
  obtain ⟨n0, b0, o0, c0, rb0, ro0, rc0, b0s, o0s, c0s, rb0s, ro0s, rc0s, rfl, rfl, hl0, hl0s, hn0, hx0, hc0, hm0, hc0s, hm0s, t0, t0s⟩ := hA.tabs hp0
  have HL0 := Lib.hid hl0; clear hl0
  have HL0s := Lib.hid hl0s; clear hl0s
  by_cases hp1 : isPM C D = true
  case neg =>
    have hq1 : isPM C D = false := by simpa using hp1
    have HQ := Lib.hid hq1; clear hp1
    obtain ⟨a1, c1, rfl, _, _⟩ := hC.1.shape
    obtain ⟨a1s, c1s, rfl, _, _⟩ := hC.2.shape
    go_enter Try.func19, Try.ntmps19
    go_wp2_with fail
    obtain ⟨f0, f1, f2, hW0, hsz⟩ := boxes3 w [.slice (some ⟨b0, o0, none⟩) n0 c0, .slice (some ⟨b0s, o0s, none⟩) n0 c0s] [.slice a1 C.length c1, .slice a1s D.length c1s] [.slice none 0 0, .slice none 0 0] 26 26 26
    obtain ⟨W0, hW⟩ : ∃ W, (((w.alloc (.cells #[.slice (some ⟨b0, o0, none⟩) n0 c0, .slice (some ⟨b0s, o0s, none⟩) n0 c0s] 26)).alloc (.cells #[.slice a1 C.length c1, .slice a1s D.length c1s] 26)).alloc (.cells #[.slice none 0 0, .slice none 0 0] 26)) = W := ⟨_, rfl⟩
    rw [hW] at f0 f1 f2 hW0 hsz ⊢
    clear hW hsz
    refine (c_IsPairMap _ _ _ _ _ (hA.below hW0)).mono ?_; rintro e g0 ⟨rfl, hbg0⟩
    have hB0 := bb hW0 hbg0
    replace f0 := f0.under hbg0
    obtain ⟨cA0, cB0, -, -⟩ := two_cells f0
    replace f1 := f1.under hbg0
    obtain ⟨cA1, cB1, -, -⟩ := two_cells f1
    replace f2 := f2.under hbg0
    obtain ⟨cA2, cB2, fA2, fB2⟩ := two_cells f2
    clear hbg0
    go_wp2_with fail
    refine (c_IsPairMap _ _ _ _ _ (hC.below hB0)).mono ?_; rintro e g1 ⟨rfl, hbg1⟩
    have hB1 := bb hB0 hbg1
    replace f0 := f0.under hbg1
    clear cA0 cB0
    obtain ⟨cA0, cB0, -, -⟩ := two_cells f0
    replace f1 := f1.under hbg1
    clear cA1 cB1
    obtain ⟨cA1, cB1, -, -⟩ := two_cells f1
    replace f2 := f2.under hbg1
    clear cA2 cB2 fA2 fB2
    obtain ⟨cA2, cB2, fA2, fB2⟩ := two_cells f2
    clear hbg1
    have HB := Lib.hid hB1
    clear hB0 hB1 hW0
    go_wp2
    refine bodyPost_ret (v := .tuple #[.agg #[.slice none 0 0, .slice none 0 0], .int .i64 1]) (by simp [results, Try.results19, go_sem, cA2, cB2]) rfl ⟨.slice none 0 0, .slice none 0 0, by simp [unRA, unRB, unCode, unOk, HQ.out, HP0.out], ?_, ?_⟩
    · have hz : w.heap.size ≤ g1.heap.size := HB.out.size
      rw [show unRA A B C D = [] from by simp [unRA, unRB, unCode, unOk, HQ.out, HP0.out], show unRB A B C D = [] from by simp [unRA, unRB, unCode, unOk, HQ.out, HP0.out]]
      exact OwnSol.nil0 (by first | exact hz | (simp [World.setCell]; exact hz))
    · first | exact HB.out | exact (HB.out.setCell (p := ⟨w.heap.size + 1 + 1, 0, none⟩) (by show _ ≤ w.heap.size + 1 + 1; omega) _).setCell (p := ⟨w.heap.size + 1 + 1, 1, none⟩) (by show _ ≤ w.heap.size + 1 + 1; omega) _
  have HP1 := Lib.hid hp1
  obtain ⟨n1, b1, o1, c1, rb1, ro1, rc1, b1s, o1s, c1s, rb1s, ro1s, rc1s, rfl, rfl, hl1, hl1s, hn1, hx1, hc1, hm1, hc1s, hm1s, t1, t1s⟩ := hC.tabs hp1
  have HL1 := Lib.hid hl1; clear hl1
  have HL1s := Lib.hid hl1s; clear hl1s
  go_enter Try.func19, Try.ntmps19
  go_wp2_with fail
  obtain ⟨f0, f1, f2, hW0, hsz⟩ := boxes3 w [.slice (some ⟨b0, o0, none⟩) n0 c0, .slice (some ⟨b0s, o0s, none⟩) n0 c0s] [.slice (some ⟨b1, o1, none⟩) n1 c1, .slice (some ⟨b1s, o1s, none⟩) n1 c1s] [.slice none 0 0, .slice none 0 0] 26 26 26
  obtain ⟨W0, hW⟩ : ∃ W, (((w.alloc (.cells #[.slice (some ⟨b0, o0, none⟩) n0 c0, .slice (some ⟨b0s, o0s, none⟩) n0 c0s] 26)).alloc (.cells #[.slice (some ⟨b1, o1, none⟩) n1 c1, .slice (some ⟨b1s, o1s, none⟩) n1 c1s] 26)).alloc (.cells #[.slice none 0 0, .slice none 0 0] 26)) = W := ⟨_, rfl⟩
  rw [hW] at f0 f1 f2 hW0 hsz ⊢
  clear hW hsz
  refine (c_IsPairMap _ _ _ _ _ (hA.below hW0)).mono ?_; rintro e g0 ⟨rfl, hbg0⟩
  have hB0 := bb hW0 hbg0
  replace f0 := f0.under hbg0
  obtain ⟨cA0, cB0, -, -⟩ := two_cells f0
  replace f1 := f1.under hbg0
  obtain ⟨cA1, cB1, -, -⟩ := two_cells f1
  replace f2 := f2.under hbg0
  obtain ⟨cA2, cB2, fA2, fB2⟩ := two_cells f2
  clear hbg0
  go_wp2_with fail
  refine (c_IsPairMap _ _ _ _ _ (hC.below hB0)).mono ?_; rintro e g1 ⟨rfl, hbg1⟩
  have hB1 := bb hB0 hbg1
  replace f0 := f0.under hbg1
  clear cA0 cB0
  obtain ⟨cA0, cB0, -, -⟩ := two_cells f0
  replace f1 := f1.under hbg1
  clear cA1 cB1
  obtain ⟨cA1, cB1, -, -⟩ := two_cells f1
  replace f2 := f2.under hbg1
  clear cA2 cB2 fA2 fB2
  obtain ⟨cA2, cB2, fA2, fB2⟩ := two_cells f2
  clear hbg1
  have HOK := Lib.hid (unOk_of HP0.out HP1.out)
  have HF0 := Lib.hid f0.drew; have HF1 := Lib.hid f1.drew; have HF2 := Lib.hid f2.drew; have HBd := Lib.hid hB1.drew
  have HT0 := Lib.hid t0; have HT0s := Lib.hid t0s; have HT1 := Lib.hid t1; have HT1s := Lib.hid t1s
  clear hA hC hB0 hB1 hW0 f0 f1 f2 t0 t0s t1 t1s
  have km : Blk (g1.alloc (.cells #[.int .i64 n0] 3)).drew g1.heap.size 3 [.int .i64 n0] := (Blk.new g1 [.int .i64 n0] 3).drew
  have hGW : Below g1.drew.heap.size g1.drew (g1.alloc (.cells #[.int .i64 n0] 3)).drew := ((Below.refl g1.drew.heap.size g1.drew).alloc (Nat.le_refl _) (.cells #[.int .i64 n0] 3))
  have hBW : Below w.heap.size w (g1.alloc (.cells #[.int .i64 n0] 3)).drew := bb HBd.out hGW
  have k0 := HF0.out.under hGW; have k1 := HF1.out.under hGW; have k2 := HF2.out.under hGW
  obtain ⟨z0, z1, z2, z3⟩ := two_cells k2
  have z4 := one_cell km
  have d0 := (two_cells HF0.out).1; have d1 := (two_cells HF1.out).1
  go_wp2
  go_region_held3 (fun w' => w'.cell? ⟨w.heap.size, 0, none⟩ = some (.slice (some ⟨b0, o0, none⟩) n0 c0) ∧ w'.cell? ⟨w.heap.size + 1, 0, none⟩ = some (.slice (some ⟨b1, o1, none⟩) n1 c1)) (first | go_keep | exact ⟨(two_cells HF0.out).1, (two_cells HF1.out).1⟩) (fail)
  by_cases hsm : n0 + n1 ≤ 12
  case neg =>
    have hgt : ¬ ((n0 : Int) + n1 ≤ 12) := by intro h; exact hsm (by exact_mod_cast h)
    have hS : unSm A C = false := by unfold unSm; rw [HL0.out, HL1.out]; simpa using hsm
    have HS := Lib.hid hS; have HB := Lib.hid hBW
    clear hsm hS hBW hGW k0 k1 k2 km
    obtain ⟨y0, y1, y2, y3⟩ : (g1.alloc (.cells #[.int .i64 n0] 3)).cell? ⟨w.heap.size + 1 + 1, 0, none⟩ = _ ∧ (g1.alloc (.cells #[.int .i64 n0] 3)).cell? ⟨w.heap.size + 1 + 1, 1, none⟩ = _ ∧ (g1.alloc (.cells #[.int .i64 n0] 3)).frozen? ⟨w.heap.size + 1 + 1, 0, none⟩ = _ ∧ (g1.alloc (.cells #[.int .i64 n0] 3)).frozen? ⟨w.heap.size + 1 + 1, 1, none⟩ = _ := ⟨z0, z1, z2, z3⟩
    go_wp2
    refine bodyPost_ret (v := .tuple #[.agg #[.slice none 0 0, .slice none 0 0], .int .i64 3]) (by simp [results, Try.results19, go_sem, y0, y1]) rfl ⟨.slice none 0 0, .slice none 0 0, by simp [unCode, HOK.out, HS.out], ?_, ?_⟩
    · have hz := HB.out.size
      rw [show unRA A B C D = [] from by simp [unRA, HS.out], show unRB A B C D = [] from by simp [unRB, HS.out]]
      exact OwnSol.nil0 (by first | exact hz | (simp [World.setCell] at hz ⊢; omega))
    · first | exact HB.out | exact (HB.out.setCell (p := ⟨w.heap.size + 1 + 1, 0, none⟩) (by show _ ≤ w.heap.size + 1 + 1; omega) _).setCell (p := ⟨w.heap.size + 1 + 1, 1, none⟩) (by show _ ≤ w.heap.size + 1 + 1; omega) _
  have hlt : (n0 : Int) + n1 ≤ 12 := by exact_mod_cast hsm
  have hS : unSm A C = true := by unfold unSm; rw [HL0.out, HL1.out]; simpa using hsm
  have HS := Lib.hid hS; clear hS
  have HBW := Lib.hid hBW; have HGW := Lib.hid hGW; have HK0 := Lib.hid k0; have HK1 := Lib.hid k1; have HK2 := Lib.hid k2; have HKm := Lib.hid km
  clear k0 k1 k2 km hBW hGW
  go_wp2_with fail
  clear z0 z1 z2 z3 z4
  generalize (g1.alloc (.cells #[.int .i64 n0] 3)).drew = V at HBW HGW HK0 HK1 HK2 HKm ⊢
  have hpay : Pays3 V 60 #[.pointer (some ⟨g1.heap.size, 0, none⟩), .pointer (some ⟨w.heap.size, 0, none⟩), .pointer (some ⟨w.heap.size + 1, 0, none⟩)] (n0 + n1)
      (unG A C fun _ y => y) (unG B D fun x _ => x) := fun U x y hb h1 h2 =>
    c_union1 w.heap.size g1.heap.size (w.heap.size + 1) n0 n1 c0 c0s c1 c1s b0 o0 b0s o0s b1 o1 b1s o1s A B C D rb0 ro0 rc0 rb0s ro0s rc0s rb1 ro1 rc1 rb1s ro1s rc1s x y U (one_cell (HKm.out.under hb)) (two_cells (HK0.out.under hb)).1 (two_cells (HK0.out.under hb)).2.1 (two_cells (HK1.out.under hb)).1 (two_cells (HK1.out.under hb)).2.1
      ((HT0.out.below HBW.out).below hb) ((HT0s.out.below HBW.out).below hb) ((HT1.out.below HBW.out).below hb) ((HT1s.out.below HBW.out).below hb) HL0.out HL0s.out h1 h2 hx0 hx1
  have HP := Lib.hid hpay; clear hpay
  refine (c_solutionByI _ (n0 + n1) (by push_cast; rfl) _ _ _ _ _ (by omega) eg_union1 HP.out).mono ?_; rintro e wz ⟨s1, s2, rfl, hs, hbz⟩
  obtain ⟨sa1, sl1, sc1, rfl⟩ := hs.sol.1.any
  obtain ⟨sa2, sl2, sc2, rfl⟩ := hs.sol.2.any
  obtain ⟨z0, z1, z2, z3⟩ := two_cells (HK2.out.under hbz)
  have HLo := Lib.hid HK2.out.lt; have HSo := Lib.hid hs; have HBz := Lib.hid (bb HBW.out hbz); clear hs hbz
  go_wp2
  obtain ⟨hA, hB⟩ := stored (q := w.heap.size + 1 + 1) HBz.out HSo.out (by omega) HLo.out
  refine bodyPost_ret (v := .tuple #[.agg #[.slice sa1 sl1 sc1, .slice sa2 sl2 sc2], .int .i64 0]) (by simp [results, Try.results19, go_sem, z0, z1]) rfl ⟨_, _, by simp [unCode, HOK.out, HS.out]; exact ⟨rfl, rfl⟩, by simpa [unRA, unRB, unTA, unTB, HOK.out, HS.out, HL0.out, HL0s.out, HL1.out, HL1s.out] using hA, hB⟩

set_option maxRecDepth 100000 in
set_option maxHeartbeats 4000000 in
theorem c_l02Union (v0 u0 : Value) (A B : List (List Int)) (v1 u1 : Value) (C D : List (List Int)) (w : World) (hA : Sol w v0 u0 A B) (hC : Sol w v1 u1 C D) (hp : isPM A B = true) (hq : isPM C D = true) (hsm : A.length + C.length ≤ 12) :
    Calls Try.prog 61 #[.agg #[v0, u0], .agg #[v1, u1]] w (RSolR w (unTA A C) (unTB B D)) := by
  obtain ⟨n0, b0, o0, c0, rb0, ro0, rc0, b0s, o0s, c0s, rb0s, ro0s, rc0s, rfl, rfl, hl0, hl0s, hn0, hx0, hc0, hm0, hc0s, hm0s, t0, t0s⟩ := hA.tabs hp
  have HL0 := Lib.hid hl0; clear hl0
  have HL0s := Lib.hid hl0s; clear hl0s
  obtain ⟨n1, b1, o1, c1, rb1, ro1, rc1, b1s, o1s, c1s, rb1s, ro1s, rc1s, rfl, rfl, hl1, hl1s, hn1, hx1, hc1, hm1, hc1s, hm1s, t1, t1s⟩ := hC.tabs hq
  have HL1 := Lib.hid hl1; clear hl1
  have HL1s := Lib.hid hl1s; clear hl1s
  go_enter Try.func61, Try.ntmps61
  go_wp2
  obtain ⟨f0, f1, f2, hW0, hsz⟩ := boxes3 w [.slice (some ⟨b0, o0, none⟩) n0 c0, .slice (some ⟨b0s, o0s, none⟩) n0 c0s] [.slice (some ⟨b1, o1, none⟩) n1 c1, .slice (some ⟨b1s, o1s, none⟩) n1 c1s] [.slice none 0 0, .slice none 0 0] 26 26 26
  obtain ⟨W0, hW⟩ : ∃ W, (((w.alloc (.cells #[.slice (some ⟨b0, o0, none⟩) n0 c0, .slice (some ⟨b0s, o0s, none⟩) n0 c0s] 26)).alloc (.cells #[.slice (some ⟨b1, o1, none⟩) n1 c1, .slice (some ⟨b1s, o1s, none⟩) n1 c1s] 26)).alloc (.cells #[.slice none 0 0, .slice none 0 0] 26)) = W := ⟨_, rfl⟩
  rw [hW] at f0 f1 f2 hW0 hsz ⊢
  have HSZ := Lib.hid hsz
  clear hW hsz
  obtain ⟨cA0, cB0, -, -⟩ := two_cells f0
  obtain ⟨cA1, cB1, -, -⟩ := two_cells f1
  obtain ⟨cA2, cB2, -, -⟩ := two_cells f2
  replace t0 := t0.below hW0; replace t0s := t0s.below hW0
  replace t1 := t1.below hW0; replace t1s := t1s.below hW0
  rw [HL0.out, HL1.out] at hsm
  obtain ⟨N, hN⟩ : ∃ N, N = n0 + n1 := ⟨_, rfl⟩
  have hNI : (n0 : Int) + n1 = N := by omega
  obtain ⟨gA, hgA⟩ : ∃ g : Int → Int → Int, g = unG A C fun _ y => y := ⟨_, rfl⟩
  obtain ⟨gB, hgB⟩ : ∃ g : Int → Int → Int, g = unG B D fun x _ => x := ⟨_, rfl⟩
  have hRA : unTA A C = tabOf N gA := by unfold unTA; rw [HL0.out, HL1.out, hgA, hN]
  have hRB : unTB B D = tabOf N gB := by unfold unTB; rw [HL0s.out, HL1s.out, hgB, hN]
  have HRA := Lib.hid hRA; have HRB := Lib.hid hRB
  have HGA : Hid (∀ x y : Int, gA x y = if x < n0 ∧ y < n0 then val2 A x y else if (n0 : Int) ≤ x ∧ (n0 : Int) ≤ y then n0 + val2 C (x - n0) (y - n0) else y) := Lib.hid (by rw [hgA]; intro x y; unfold unG; rw [HL0.out])
  have HGB : Hid (∀ x y : Int, gB x y = if x < n0 ∧ y < n0 then val2 B x y else if (n0 : Int) ≤ x ∧ (n0 : Int) ≤ y then n0 + val2 D (x - n0) (y - n0) else x) := Lib.hid (by rw [hgB]; intro x y; unfold unG; rw [HL0s.out])
  have HN := Lib.hid hN
  rw [← hN] at hsm
  clear hgA hgB hRA hRB hN hA hC hp hq
  go_quiet (fail)
  rename_i nq
  have hdn : Below W0.heap.size W0 (W0.drewN nq) := below_drewN (Below.refl _ _) nq
  replace f0 := f0.under hdn; replace f1 := f1.under hdn; replace f2 := f2.under hdn; replace hW0 := bb hW0 hdn
  have HT0 := Lib.hid (t0.below hdn); have HT0s := Lib.hid (t0s.below hdn); have HT1 := Lib.hid (t1.below hdn); have HT1s := Lib.hid (t1s.below hdn)
  have HSV : Hid ((W0.drewN nq).heap.size = w.heap.size + 1 + 1 + 1) := HSZ.out
  generalize W0.drewN nq = V at f0 f1 f2 hW0 HT0 HT0s HT1 HT1s HSV ⊢
  have HF2lt := Lib.hid f2.lt
  have hV := hW0
  clear t0 t0s t1 t1s cA0 cB0 cA1 cB1 cA2 cB2 hdn HSZ hW0
  go_wp2
  have hB1 : Below V.heap.size V (V.alloc (.cells #[.slice none 0 0, .slice none 0 0] 26)) := (Below.refl _ _).alloc (Nat.le_refl _) _
  have hout := Blk.new V [.slice none 0 0, .slice none 0 0] 26
  have hs1 : (V.alloc (.cells #[.slice none 0 0, .slice none 0 0] 26)).heap.size = V.heap.size + 1 := by simp
  have hqq : V.heap.size = V.heap.size := rfl
  change Blk (V.alloc (.cells #[.slice none 0 0, .slice none 0 0] 26)) _ _ _ at hout
  obtain ⟨W1, hW1⟩ : ∃ W, V.alloc (.cells #[.slice none 0 0, .slice none 0 0] 26) = W := ⟨_, rfl⟩
  rw [hW1] at hB1 hout hs1 ⊢
  clear hW1
  have hout' : Blk W1 (V.heap.size) 26 [.slice none 0 0, .slice none 0 0] := by rw [← hqq]; exact hout
  have HOut := Lib.hid (Out2.start (lo := V.heap.size + 1) (q := V.heap.size) (w := W1) (by omega) (by omega) hout')
  have HB1 := Lib.hid hB1; have HWW := Lib.hid hV; have HS1 := Lib.hid hs1
  have HQLE : Hid (V.heap.size ≤ V.heap.size) := Lib.hid (by omega)
  clear hB1 hout hout' hs1 hV hqq
  go_loopw [8, 9, 10, 11] (fun a _ _ _ wr => ∃ (k : Nat) (va vb : Value), k ≤ N ∧ a = .int .i64 k ∧ Hid (Below V.heap.size V wr) ∧ Hid (Out2 (V.heap.size + 1) wr.heap.size (V.heap.size) wr va vb ((tabOf N gA).take k) ((tabOf N gB).take k))) (fun a _ _ _ _ => N - (intOf a).toNat)
  case atStart => exact ⟨0, _, _, Nat.zero_le _, rfl, HB1, HOut⟩
  case round =>
    clear HB1 HOut
    obtain ⟨k, va, vb, hk, rfl, HB, HO⟩ := hrel
    obtain ⟨wo, rfl⟩ : ∃ wo : World, wo = wr := ⟨_, rfl⟩
    by_cases hlt : k < N
    · go_wp2
      go_loopw [9, 10, 11] (fun s t y wi => ∃ (j : Nat) (sa : Option Addr) (sc : Nat) (ta : Option Addr) (tc : Nat), j ≤ N ∧ y = .int .i64 j ∧ s = .slice sa j sc ∧ t = .slice ta j tc ∧ Hid (Below wo.heap.size wo wi) ∧ Hid (Two wo.heap.size wi (.slice sa j sc) (.slice ta j tc) ((rowOf N (gA k)).take j) ((rowOf N (gB k)).take j))) (fun _ _ y _ => N - (intOf y).toNat)
      case atStart => exact ⟨0, _, _, _, _, Nat.zero_le _, rfl, rfl, rfl, Lib.hid (((Below.refl wo.heap.size wo).alloc (Nat.le_refl _) _).alloc (by simp) _), Lib.hid (Two.made0 wo)⟩
      case round =>
        obtain ⟨j, sa, sc, ta, tc, hj, rfl, rfl, rfl, Hb, HTw⟩ := hrel
        obtain ⟨wi, rfl⟩ : ∃ wi : World, wi = wr := ⟨_, rfl⟩
        by_cases hlj : j < N
        · have hB2 := bb HB.out Hb.out
          have hkN : (k : Int) < N := by omega
          have hjN : (j : Int) < N := by omega
          have hNe := HN.out
          by_cases h1 : k < n0 ∧ j < n0
          · have i1 : (k : Int) < n0 := by omega
            have i2 : (j : Int) < n0 := by omega
            obtain ⟨x, hx⟩ : ∃ x : Int, x = k := ⟨_, rfl⟩
            obtain ⟨y, hy⟩ : ∃ x : Int, x = j := ⟨_, rfl⟩
            have d1 : 0 ≤ x := by omega
            have d2 : x < n0 := by omega
            have d3 : 0 ≤ y := by omega
            have d4 : y < n0 := by omega
            have HEA : Hid (gA k j = val2 A k j) := Lib.hid (by rw [HGA.out, if_pos ⟨i1, i2⟩])
            have HEB : Hid (gB k j = val2 B k j) := Lib.hid (by rw [HGB.out, if_pos ⟨i1, i2⟩])
            subst hx hy
            have d5 : k < n0 := h1.1
            have d6 : j < n0 := h1.2
            clear h1 hNe
            have HSA : Hid (∀ w' : World, Below V.heap.size V w' → w'.cell? ⟨w.heap.size, 0, none⟩ = some (.slice (some ⟨b0, o0, none⟩) n0 c0) ∧ w'.cell? ⟨b0, o0 + k, none⟩ = some (.slice (some ⟨rb0 k, ro0 k, none⟩) n0 (rc0 k)) ∧ w'.cell? ⟨rb0 k, ro0 k + j, none⟩ = some (.int .i64 (val2 A k j))) := Lib.hid (by
              intro w' hb
              have T0 := HT0.out.below hb
              exact ⟨(two_cells (f0.under hb)).1, T0.row _ d5, T0.val _ _ d5 d6⟩)
            have HSB : Hid (∀ w' : World, Below V.heap.size V w' → w'.cell? ⟨w.heap.size, 1, none⟩ = some (.slice (some ⟨b0s, o0s, none⟩) n0 c0s) ∧ w'.cell? ⟨b0s, o0s + k, none⟩ = some (.slice (some ⟨rb0s k, ro0s k, none⟩) n0 (rc0s k)) ∧ w'.cell? ⟨rb0s k, ro0s k + j, none⟩ = some (.int .i64 (val2 B k j))) := Lib.hid (by
              intro w' hb
              have T0 := HT0s.out.below hb
              exact ⟨(two_cells (f0.under hb)).2.1, T0.row _ d5, T0.val _ _ d5 d6⟩)
            obtain ⟨q1, q2, q3⟩ := HSA.out wi hB2
            clear hB2
            have HX1 := Lib.hid (HTw.out.under (Below.refl wi.heap.size wi))
            have HZ1 := Lib.hid (bb Hb.out (Below.refl wi.heap.size wi))
            have hl1 : ((rowOf N (gA k)).take j).length = j := by simp; omega
            have hl2 : ((rowOf N (gB k)).take j).length = j := by simp; omega
            have HL1a := Lib.hid hl1; have HL2a := Lib.hid hl2
            have HN1a : Hid (((rowOf N (gA k)).take j).length ≤ 1099511627776) := by show _ ≤ _; rw [hl1]; omega
            have HN2a : Hid (((rowOf N (gB k)).take j).length ≤ 1099511627776) := by show _ ≤ _; rw [hl2]; omega
            have HS1a : Hid (wo.heap.size ≤ (wi).heap.size) := Lib.hid HZ1.out.size
            clear hl1 hl2
            go_wp2_with (at_builtin; go_loud (first | (refine wpList_app_int2 wo.heap.size (wi) _ ((rowOf N (gA k)).take j) _ _ _ wi.heap.size rfl rfl rfl rfl HX1.out.a rfl HN1a.out HS1a.out ?_; intro g c1 w1 hown1 hk1 hg1; rw [HL1a.out] at hown1; rw [HL1a.out]; have HT1 := Lib.hid (HX1.out.app1 hown1 hk1 hg1); have HZ2 := Lib.hid (HX1.out.a.frame HZ1.out (Nat.le_refl _) HS1a.out hk1); clear hown1 hk1 hg1; have hB3 := bb HB.out HZ2.out; clear q1 q2 q3; obtain ⟨q1, q2, q3⟩ := HSB.out w1 hB3; have HX2 := HT1; have HZ3 := HZ2; have HS2a : Hid (wo.heap.size ≤ w1.heap.size) := Lib.hid HZ3.out.size; clear hB3) | (refine wpList_app_int2 wo.heap.size w1 _ ((rowOf N (gB k)).take j) _ _ _ w1.heap.size rfl rfl rfl rfl HX2.out.b rfl HN2a.out HS2a.out ?_; intro g2 c2 w4 hown4 hk4 hg4; rw [HL2a.out] at hown4; rw [HL2a.out]; have HT2 := Lib.hid (HX2.out.app2 hown4 hk4 hg4); have HZ4 := Lib.hid (HX2.out.b.frame HZ3.out (Nat.le_refl _) HS2a.out hk4); clear hown4 hk4 hg4)))
            go_roundw
            case rel =>
              refine ⟨j + 1, some ⟨g, 0, none⟩, c1, some ⟨g2, 0, none⟩, c2, by omega, by go_num, rfl, rfl, HZ4, ?_⟩
              rw [take_snoc (rowOf N (gA k)) _ (by simpa using hlj), take_snoc (rowOf N (gB k)) _ (by simpa using hlj), nth_rowOf _ _ _ hlj, nth_rowOf _ _ _ hlj, HEA.out, HEB.out]
              exact HT2
            case measure => simp [intOf]; omega
          by_cases h2 : n0 ≤ k ∧ n0 ≤ j
          · have i1 : (n0 : Int) ≤ k := by omega
            have i2 : (n0 : Int) ≤ j := by omega
            have i3 : ¬ ((k : Int) < n0) := by omega
            have i4 : ¬ ((k : Int) < n0 ∧ (j : Int) < n0) := by omega
            obtain ⟨x, hx⟩ : ∃ x : Int, x = (k : Int) - n0 := ⟨_, rfl⟩
            obtain ⟨y, hy⟩ : ∃ x : Int, x = (j : Int) - n0 := ⟨_, rfl⟩
            have d1 : 0 ≤ x := by omega
            have d2 : x < n1 := by omega
            have d3 : 0 ≤ y := by omega
            have d4 : y < n1 := by omega
            have gC := HT1.out.rng _ _ d1 d2 d3 d4; have gD := HT1s.out.rng _ _ d1 d2 d3 d4
            obtain ⟨P, hP⟩ : ∃ P, P = val2 C x y := ⟨_, rfl⟩
            obtain ⟨Q, hQ⟩ : ∃ P, P = val2 D x y := ⟨_, rfl⟩
            have u1 : IntKind.i64.wrap ((k : Int) - n0) = x := by rw [IntKind.wrap_i64]; omega
            have u2 : IntKind.i64.wrap ((j : Int) - n0) = y := by rw [IntKind.wrap_i64]; omega
            have u3 : IntKind.i64.wrap (val2 C x y + n0) = val2 C x y + n0 := by rw [IntKind.wrap_i64]; omega
            have u4 : IntKind.i64.wrap (val2 D x y + n0) = val2 D x y + n0 := by rw [IntKind.wrap_i64]; omega
            have e1 : (k : Int) - n0 = x := hx.symm
            have e2 : (j : Int) - n0 = y := hy.symm
            have HEA : Hid (gA k j = val2 C x y + n0) := Lib.hid (by rw [HGA.out, if_neg i4, if_pos ⟨i1, i2⟩, e1, e2, Int.add_comm])
            have HEB : Hid (gB k j = val2 D x y + n0) := Lib.hid (by rw [HGB.out, if_neg i4, if_pos ⟨i1, i2⟩, e1, e2, Int.add_comm])
            clear h1 h2 hNe i4 hP hQ hx hy
            have HSA : Hid (∀ w' : World, Below V.heap.size V w' → w'.cell? ⟨w.heap.size + 1, 0, none⟩ = some (.slice (some ⟨b1, o1, none⟩) n1 c1) ∧ w'.cell? ⟨b1, o1 + x.toNat, none⟩ = some (.slice (some ⟨rb1 x.toNat, ro1 x.toNat, none⟩) n1 (rc1 x.toNat)) ∧ w'.cell? ⟨rb1 x.toNat, ro1 x.toNat + y.toNat, none⟩ = some (.int .i64 (val2 C x y))) := Lib.hid (by
              intro w' hb
              have T0 := HT1.out.below hb
              exact ⟨(two_cells (f1.under hb)).1, T0.rowi _ d1 d2, T0.vali _ _ d1 d2 d3 d4⟩)
            have HSB : Hid (∀ w' : World, Below V.heap.size V w' → w'.cell? ⟨w.heap.size + 1, 1, none⟩ = some (.slice (some ⟨b1s, o1s, none⟩) n1 c1s) ∧ w'.cell? ⟨b1s, o1s + x.toNat, none⟩ = some (.slice (some ⟨rb1s x.toNat, ro1s x.toNat, none⟩) n1 (rc1s x.toNat)) ∧ w'.cell? ⟨rb1s x.toNat, ro1s x.toNat + y.toNat, none⟩ = some (.int .i64 (val2 D x y))) := Lib.hid (by
              intro w' hb
              have T0 := HT1s.out.below hb
              exact ⟨(two_cells (f1.under hb)).2.1, T0.rowi _ d1 d2, T0.vali _ _ d1 d2 d3 d4⟩)
            obtain ⟨q1, q2, q3⟩ := HSA.out wi hB2
            clear hB2
            have HX1 := Lib.hid (HTw.out.under (Below.refl wi.heap.size wi))
            have HZ1 := Lib.hid (bb Hb.out (Below.refl wi.heap.size wi))
            have hl1 : ((rowOf N (gA k)).take j).length = j := by simp; omega
            have hl2 : ((rowOf N (gB k)).take j).length = j := by simp; omega
            have HL1a := Lib.hid hl1; have HL2a := Lib.hid hl2
            have HN1a : Hid (((rowOf N (gA k)).take j).length ≤ 1099511627776) := by show _ ≤ _; rw [hl1]; omega
            have HN2a : Hid (((rowOf N (gB k)).take j).length ≤ 1099511627776) := by show _ ≤ _; rw [hl2]; omega
            have HS1a : Hid (wo.heap.size ≤ (wi).heap.size) := Lib.hid HZ1.out.size
            clear hl1 hl2
            go_wp2_with (at_builtin; go_loud (first | (refine wpList_app_int2 wo.heap.size (wi) _ ((rowOf N (gA k)).take j) _ _ _ wi.heap.size rfl rfl rfl rfl HX1.out.a rfl HN1a.out HS1a.out ?_; intro g c1 w1 hown1 hk1 hg1; rw [HL1a.out] at hown1; rw [HL1a.out]; have HT1 := Lib.hid (HX1.out.app1 hown1 hk1 hg1); have HZ2 := Lib.hid (HX1.out.a.frame HZ1.out (Nat.le_refl _) HS1a.out hk1); clear hown1 hk1 hg1; have hB3 := bb HB.out HZ2.out; clear q1 q2 q3; obtain ⟨q1, q2, q3⟩ := HSB.out w1 hB3; have HX2 := HT1; have HZ3 := HZ2; have HS2a : Hid (wo.heap.size ≤ w1.heap.size) := Lib.hid HZ3.out.size; clear hB3) | (refine wpList_app_int2 wo.heap.size w1 _ ((rowOf N (gB k)).take j) _ _ _ w1.heap.size rfl rfl rfl rfl HX2.out.b rfl HN2a.out HS2a.out ?_; intro g2 c2 w4 hown4 hk4 hg4; rw [HL2a.out] at hown4; rw [HL2a.out]; have HT2 := Lib.hid (HX2.out.app2 hown4 hk4 hg4); have HZ4 := Lib.hid (HX2.out.b.frame HZ3.out (Nat.le_refl _) HS2a.out hk4); clear hown4 hk4 hg4)))
            go_roundw
            case rel =>
              refine ⟨j + 1, some ⟨g, 0, none⟩, c1, some ⟨g2, 0, none⟩, c2, by omega, by go_num, rfl, rfl, HZ4, ?_⟩
              rw [take_snoc (rowOf N (gA k)) _ (by simpa using hlj), take_snoc (rowOf N (gB k)) _ (by simpa using hlj), nth_rowOf _ _ _ hlj, nth_rowOf _ _ _ hlj, HEA.out, HEB.out]
              exact HT2
            case measure => simp [intOf]; omega
          · have i4 : ¬ ((k : Int) < n0 ∧ (j : Int) < n0) := by omega
            have i5 : ¬ ((n0 : Int) ≤ k ∧ (n0 : Int) ≤ j) := by omega
            have HEA : Hid (gA k j = j) := Lib.hid (by rw [HGA.out, if_neg i4, if_neg i5])
            have HEB : Hid (gB k j = k) := Lib.hid (by rw [HGB.out, if_neg i4, if_neg i5])
            clear hB2
            by_cases h3 : k < n0
            · have i1 : (k : Int) < n0 := by omega
              have i2 : ¬ ((j : Int) < n0) := by omega
              have i3 : ¬ ((n0 : Int) ≤ k) := by omega
              clear h1 h2 h3 i4 i5 hNe
              have HX1 := Lib.hid (HTw.out.under (Below.refl wi.heap.size wi))
              have HZ1 := Lib.hid (bb Hb.out (Below.refl wi.heap.size wi))
              have hl1 : ((rowOf N (gA k)).take j).length = j := by simp; omega
              have hl2 : ((rowOf N (gB k)).take j).length = j := by simp; omega
              have HL1a := Lib.hid hl1; have HL2a := Lib.hid hl2
              have HN1a : Hid (((rowOf N (gA k)).take j).length ≤ 1099511627776) := by show _ ≤ _; rw [hl1]; omega
              have HN2a : Hid (((rowOf N (gB k)).take j).length ≤ 1099511627776) := by show _ ≤ _; rw [hl2]; omega
              have HS1a : Hid (wo.heap.size ≤ (wi).heap.size) := Lib.hid HZ1.out.size
              clear hl1 hl2
              go_wp2_with (at_builtin; go_loud (first | (refine wpList_app_int2 wo.heap.size (wi) _ ((rowOf N (gA k)).take j) _ _ _ wi.heap.size rfl rfl rfl rfl HX1.out.a rfl HN1a.out HS1a.out ?_; intro g c1 w1 hown1 hk1 hg1; rw [HL1a.out] at hown1; rw [HL1a.out]; have HT1 := Lib.hid (HX1.out.app1 hown1 hk1 hg1); have HZ2 := Lib.hid (HX1.out.a.frame HZ1.out (Nat.le_refl _) HS1a.out hk1); clear hown1 hk1 hg1; have hB3 := bb HB.out HZ2.out; have HX2 := HT1; have HZ3 := HZ2; have HS2a : Hid (wo.heap.size ≤ w1.heap.size) := Lib.hid HZ3.out.size; clear hB3) | (refine wpList_app_int2 wo.heap.size w1 _ ((rowOf N (gB k)).take j) _ _ _ w1.heap.size rfl rfl rfl rfl HX2.out.b rfl HN2a.out HS2a.out ?_; intro g2 c2 w4 hown4 hk4 hg4; rw [HL2a.out] at hown4; rw [HL2a.out]; have HT2 := Lib.hid (HX2.out.app2 hown4 hk4 hg4); have HZ4 := Lib.hid (HX2.out.b.frame HZ3.out (Nat.le_refl _) HS2a.out hk4); clear hown4 hk4 hg4)))
              go_roundw
              case rel =>
                refine ⟨j + 1, some ⟨g, 0, none⟩, c1, some ⟨g2, 0, none⟩, c2, by omega, by go_num, rfl, rfl, HZ4, ?_⟩
                rw [take_snoc (rowOf N (gA k)) _ (by simpa using hlj), take_snoc (rowOf N (gB k)) _ (by simpa using hlj), nth_rowOf _ _ _ hlj, nth_rowOf _ _ _ hlj, HEA.out, HEB.out]
                exact HT2
              case measure => simp [intOf]; omega
            · have i1 : ¬ ((k : Int) < n0) := by omega
              have i2 : ¬ ((n0 : Int) ≤ j) := by omega
              have i3 : (n0 : Int) ≤ k := by omega
              clear h1 h2 h3 i4 i5 hNe
              have HX1 := Lib.hid (HTw.out.under (Below.refl wi.heap.size wi))
              have HZ1 := Lib.hid (bb Hb.out (Below.refl wi.heap.size wi))
              have hl1 : ((rowOf N (gA k)).take j).length = j := by simp; omega
              have hl2 : ((rowOf N (gB k)).take j).length = j := by simp; omega
              have HL1a := Lib.hid hl1; have HL2a := Lib.hid hl2
              have HN1a : Hid (((rowOf N (gA k)).take j).length ≤ 1099511627776) := by show _ ≤ _; rw [hl1]; omega
              have HN2a : Hid (((rowOf N (gB k)).take j).length ≤ 1099511627776) := by show _ ≤ _; rw [hl2]; omega
              have HS1a : Hid (wo.heap.size ≤ (wi).heap.size) := Lib.hid HZ1.out.size
              clear hl1 hl2
              go_wp2_with (at_builtin; go_loud (first | (refine wpList_app_int2 wo.heap.size (wi) _ ((rowOf N (gA k)).take j) _ _ _ wi.heap.size rfl rfl rfl rfl HX1.out.a rfl HN1a.out HS1a.out ?_; intro g c1 w1 hown1 hk1 hg1; rw [HL1a.out] at hown1; rw [HL1a.out]; have HT1 := Lib.hid (HX1.out.app1 hown1 hk1 hg1); have HZ2 := Lib.hid (HX1.out.a.frame HZ1.out (Nat.le_refl _) HS1a.out hk1); clear hown1 hk1 hg1; have hB3 := bb HB.out HZ2.out; have HX2 := HT1; have HZ3 := HZ2; have HS2a : Hid (wo.heap.size ≤ w1.heap.size) := Lib.hid HZ3.out.size; clear hB3) | (refine wpList_app_int2 wo.heap.size w1 _ ((rowOf N (gB k)).take j) _ _ _ w1.heap.size rfl rfl rfl rfl HX2.out.b rfl HN2a.out HS2a.out ?_; intro g2 c2 w4 hown4 hk4 hg4; rw [HL2a.out] at hown4; rw [HL2a.out]; have HT2 := Lib.hid (HX2.out.app2 hown4 hk4 hg4); have HZ4 := Lib.hid (HX2.out.b.frame HZ3.out (Nat.le_refl _) HS2a.out hk4); clear hown4 hk4 hg4)))
              go_roundw
              case rel =>
                refine ⟨j + 1, some ⟨g, 0, none⟩, c1, some ⟨g2, 0, none⟩, c2, by omega, by go_num, rfl, rfl, HZ4, ?_⟩
                rw [take_snoc (rowOf N (gA k)) _ (by simpa using hlj), take_snoc (rowOf N (gB k)) _ (by simpa using hlj), nth_rowOf _ _ _ hlj, nth_rowOf _ _ _ hlj, HEA.out, HEB.out]
                exact HT2
              case measure => simp [intOf]; omega
        · obtain rfl : N = j := by omega
          have hTw := HTw.out
          rw [List.take_of_length_le (by simp), List.take_of_length_le (by simp)] at hTw
          have HU := Lib.hid hTw; clear hTw
          have HO2 := Lib.hid (HO.out.under Hb.out)
          have HBi := Lib.hid (bb HB.out Hb.out)
          have hla : ((tabOf N gA).take k).length = k := by simp; omega
          have hlb : ((tabOf N gB).take k).length = k := by simp; omega
          have HNA : Hid (((tabOf N gA).take k).length ≤ 1099511627776) := by show _ ≤ _; rw [hla]; omega
          have HNB : Hid (((tabOf N gB).take k).length ≤ 1099511627776) := by show _ ≤ _; rw [hlb]; omega
          have HLA := Lib.hid hla; have HLB := Lib.hid hlb; clear hla hlb
          have HLO : Hid ((V.heap.size + 1) ≤ wi.heap.size) := Nat.le_trans HO2.out.lm HO2.out.mw
          obtain ⟨cA, cB, cF, cG⟩ := two_cells HO2.out.blk
          go_wp2_with (at_builtin; go_loud (first
            | (refine wpList_app_row2 (V.heap.size + 1) wo.heap.size wi va ((tabOf N gA).take k) _ (rowOf N (gA k)) _ _ rfl rfl rfl HO2.out.a HU.out.a rfl HNA.out HO2.out.lm HLO.out ?_; intro g c1 w1 hown1 hk1 hg1; rw [HLA.out] at hown1; rw [HLA.out]; have hq1 := HO2.out.blkq hk1; obtain ⟨dA, dB, dF, dG⟩ := two_cells hq1; have hh := HO2.out.app1 hown1 hk1 hg1; have hv := HO2.out.row1 HU.out.b hk1 (.slice (some ⟨g, 0, none⟩) (k + 1) c1); have hf := HO2.out.frame1 HBi.out HQLE.out hk1 (.slice (some ⟨g, 0, none⟩) (k + 1) c1); obtain ⟨eA, eB, eF, eG⟩ := two_cells hh.blk; have HH := Lib.hid hh; have HV := Lib.hid hv; have HF1 := Lib.hid hf; clear hown1 hk1 hg1 hq1 hh hv hf)
            | (refine wpList_app_row2s (V.heap.size + 1) wo.heap.size (w1.setCell ⟨(V.heap.size), 0, none⟩ (.slice (some ⟨g, 0, none⟩) (k + 1) c1)) vb ((tabOf N gB).take k) _ (rowOf N (gB k)) _ _ w1.heap.size (by simp [World.setCell]) rfl rfl rfl HH.out.b HV.out rfl HNB.out HH.out.lm (Nat.le_trans HH.out.lm HH.out.mw) ?_; intro g2 c2 w4 hown4 hk4 hg4; rw [HLB.out] at hown4; rw [HLB.out]; have hq4 := HH.out.blkq hk4; clear dA dB dF dG eA eB eF eG cA cB cF cG; obtain ⟨dA, dB, dF, dG⟩ := two_cells hq4; have HH2 := Lib.hid (HH.out.app2 hown4 hk4 hg4); have HF2 := Lib.hid (HH.out.frame2 HF1.out HQLE.out hk4 (.slice (some ⟨g2, 0, none⟩) (k + 1) c2)); clear hown4 hk4 hg4 hq4)))
          go_roundw
          case rel =>
            refine ⟨k + 1, .slice (some ⟨g, 0, none⟩) (k + 1) c1, .slice (some ⟨g2, 0, none⟩) (k + 1) c2, by omega, by go_num, HF2, ?_⟩
            rw [take_snoc_row (tabOf N gA) _ (by simpa using hlt), take_snoc_row (tabOf N gB) _ (by simpa using hlt), row_tabOf _ _ _ hlt, row_tabOf _ _ _ hlt]
            exact HH2
          case measure => simp [intOf]; omega
    · obtain rfl : N = k := by omega
      have hO := HO.out
      rw [List.take_of_length_le (by simp), List.take_of_length_le (by simp)] at hO
      obtain ⟨ra1, rc1, hva, _⟩ := hO.a.out.rows.shape
      obtain ⟨ra2, rc2, hvb, _⟩ := hO.b.out.rows.shape
      rw [tabOf_length] at hva hvb
      subst hva hvb
      obtain ⟨y0, y1, y2, y3⟩ := two_cells hO.blk
      obtain ⟨z0, z1, z2, z3⟩ := two_cells (f2.under HB.out)
      have HO' := Lib.hid hO; clear hO
      have hlt2 := HF2lt.out
      go_wp2
      refine bodyPost_ret (v := .agg #[.slice ra1 N rc1, .slice ra2 N rc2]) (by simp [results, Try.results61, go_sem, z0, z1]) rfl ⟨_, _, rfl, ⟨?_, ?_⟩, ((bb HWW.out HB.out).setCell (p := ⟨w.heap.size + 1 + 1, 0, none⟩) (by show _ ≤ w.heap.size + 1 + 1; omega) _).setCell (p := ⟨w.heap.size + 1 + 1, 1, none⟩) (by show _ ≤ w.heap.size + 1 + 1; omega) _⟩
      · try rw [HRA.out]
        exact OwnRows.mono (B := (V.heap.size + 1)) ((HO'.out.a.out.keep (keep1 _ (w.heap.size + 1 + 1) 0 _) (fun b h1 h2 h3 => by have h3 : b = w.heap.size + 1 + 1 := h3; omega)).keep (keep1 _ (w.heap.size + 1 + 1) 1 _) (fun b h1 h2 h3 => by have h3 : b = w.heap.size + 1 + 1 := h3; omega)) (by have := HSV.out; omega)
      · try rw [HRB.out]
        exact OwnRows.mono (B := (V.heap.size + 1)) ((HO'.out.b.out.keep (keep1 _ (w.heap.size + 1 + 1) 0 _) (fun b h1 h2 h3 => by have h3 : b = w.heap.size + 1 + 1 := h3; omega)).keep (keep1 _ (w.heap.size + 1 + 1) 1 _) (fun b h1 h2 h3 => by have h3 : b = w.heap.size + 1 + 1 := h3; omega)) (by have := HSV.out; omega)
end Go.Proofs.Ytkghonhghbcdlaa

namespace Go.Proofs.Ytkghonhghbcdlaa
set_option linter.unusedVariables false
set_option linter.unusedSimpArgs false
open Go.RowKit

def sbG (A : List (List Int)) (L : List Int) (x y : Int) : Int := idx L (val2 A (nth L x) (nth L y))
def sbT (A : List (List Int)) (L : List Int) : List (List Int) := tabOf L.length (sbG A L)
def sbOk (A B : List (List Int)) (L : List Int) : Bool := isPM A B && setOk A.length L && closL A B L
def sbRA (A B : List (List Int)) (L : List Int) : List (List Int) := if sbOk A B L then sbT A L else []
def sbRB (A B : List (List Int)) (L : List Int) : List (List Int) := if sbOk A B L then sbT B L else []
def sbCode (A B : List (List Int)) (L : List Int) : Int := if isPM A B then (if setOk A.length L then (if closL A B L then 0 else 5) else 2) else 1
theorem sbOk_of {A B : List (List Int)} {L : List Int} (h1 : isPM A B = true) (h2 : setOk A.length L = true) (h3 : closL A B L = true) : sbOk A B L = true := by simp [sbOk, h1, h2, h3]

set_option maxHeartbeats 400000 in
theorem c_indexIn (v : Value) (xs : List Int) (x : Int) (w : World) (hx : Ints w v xs) :
    Calls Try.prog 51 #[v, .int .i64 x] w fun e w' => e = .returned (.int .i64 (idx xs x)) ∧ w = w' := by
  go_enter Try.func51, Try.ntmps51
  go_wp2_with fail
  refine (c_slIndex _ _ _ _ hx).mono ?_; rintro e w' ⟨rfl, rfl⟩
  go_wp2
  go_ret
  exact ⟨rfl, rfl⟩

theorem eg_sub1 : ∀ args w, (callFunc 50 args).run Try.prog w = .ok (.enter 50 args) w := Go.Proofs.enters_of Try.func50 (by kernel_rfl) rfl

set_option maxHeartbeats 1600000 in
theorem c_sub1 (bl bs : Nat) (n c0 c0s b0 o0 b0s o0s : Nat) (A B : List (List Int)) (L : List Int) (al : Option Addr) (cl : Nat) (rb0 ro0 rc0 rb0s ro0s rc0s : Nat → Nat) (x y : Nat) (w : World)
    (hbl : w.cell? ⟨bl, 0, none⟩ = some (.slice al L.length cl))
    (hs0 : w.cell? ⟨bs, 0, none⟩ = some (.slice (some ⟨b0, o0, none⟩) n c0)) (hs1 : w.cell? ⟨bs, 1, none⟩ = some (.slice (some ⟨b0s, o0s, none⟩) n c0s))
    (hL : Ints w (.slice al L.length cl) L) (TA : TabAt w b0 o0 n A rb0 ro0 rc0) (TB : TabAt w b0s o0s n B rb0s ro0s rc0s)
    (hset : setOk n L = true) (hx : x < L.length) (hy : y < L.length) (hn12 : n ≤ 12) :
    Calls Try.prog 50 #[.int .i64 x, .int .i64 y, .pointer (some ⟨bl, 0, none⟩), .pointer (some ⟨bs, 0, none⟩)] w
      (RVal w (.tuple #[.int .i64 (sbG A L x y), .int .i64 (sbG B L x y)])) := by
  obtain ⟨x0, x1⟩ := setOk_in hset hx
  obtain ⟨y0, y1⟩ := setOk_in hset hy
  obtain ⟨b, o, rfl, lx⟩ := hL.get x hx
  have ly := hL.at y hy
  have hl12 := (setOk_len hset).2
  unfold sbG
  obtain ⟨X, hX⟩ : ∃ X, X = nth L x := ⟨_, rfl⟩
  obtain ⟨Y, hY⟩ : ∃ X, X = nth L y := ⟨_, rfl⟩
  rw [← hX] at x0 x1 lx ⊢; rw [← hY] at y0 y1 ly ⊢
  have rA := TA.rowi _ x0 x1; have rB := TB.rowi _ x0 x1; have vA := TA.vali _ _ x0 x1 y0 y1; have vB := TB.vali _ _ x0 x1 y0 y1
  have hx0 : (0 : Int) ≤ x := by omega
  have hx1 : (x : Int) < L.length := by omega
  have hy0 : (0 : Int) ≤ y := by omega
  have hy1 : (y : Int) < L.length := by omega
  have HL := Lib.hid hL
  clear hX hY TA TB hL
  go_enter Try.func50, Try.ntmps50
  go_wp2
  go_quiet ((go_at_call 51; exact quiet_left (c_indexIn _ _ _ _ (HL.out.below (below_drewN (Below.refl _ _) _)))))
  go_wp2
  go_ret2
  exact ⟨rfl, below_drewN (Below.refl _ _) _⟩

set_option maxRecDepth 100000 in
set_option maxHeartbeats 4000000 in
theorem c_SubSolution (v0 u0 : Value) (A B : List (List Int)) (v1 : Value) (L : List Int) (w : World) (hA : Sol w v0 u0 A B) (hL : Ints w v1 L)  :
    Calls Try.prog 9 #[.agg #[v0, u0], v1] w (RSolC w (sbRA A B L) (sbRB A B L) (sbCode A B L)) := by
  by_cases hp0 : isPM A B = true
  case neg =>
    have hq0 : isPM A B = false := by simpa using hp0
    have HQ := Lib.hid hq0; clear hp0
    obtain ⟨a0, c0, rfl, _, _⟩ := hA.1.shape
    obtain ⟨a0s, c0s, rfl, _, _⟩ := hA.2.shape
    obtain ⟨a1, c1, rfl, hc1, hm1⟩ := hL.shape
    go_enter Try.func9, Try.ntmps9
    go_wp2_with fail
    obtain ⟨f0, f1, f2, hW0, hsz⟩ := boxes3 w [.slice a0 A.length c0, .slice a0s B.length c0s] [.slice a1 L.length c1] [.slice none 0 0, .slice none 0 0] 26 27 26
    obtain ⟨W0, hW⟩ : ∃ W, (((w.alloc (.cells #[.slice a0 A.length c0, .slice a0s B.length c0s] 26)).alloc (.cells #[.slice a1 L.length c1] 27)).alloc (.cells #[.slice none 0 0, .slice none 0 0] 26)) = W := ⟨_, rfl⟩
    rw [hW] at f0 f1 f2 hW0 hsz ⊢
    clear hW hsz
    refine (c_IsPairMap _ _ _ _ _ (hA.below hW0)).mono ?_; rintro e g0 ⟨rfl, hbg0⟩
    have hB0 := bb hW0 hbg0
    replace f0 := f0.under hbg0
    obtain ⟨cA0, cB0, -, -⟩ := two_cells f0
    replace f1 := f1.under hbg0
    have cA1 := one_cell f1
    replace f2 := f2.under hbg0
    obtain ⟨cA2, cB2, fA2, fB2⟩ := two_cells f2
    clear hbg0
    have HB := Lib.hid hB0
    clear hB0 hW0
    go_wp2
    refine bodyPost_ret (v := .tuple #[.agg #[.slice none 0 0, .slice none 0 0], .int .i64 1]) (by simp [results, Try.results9, go_sem, cA2, cB2]) rfl ⟨.slice none 0 0, .slice none 0 0, by simp [sbRA, sbRB, sbCode, sbOk, HQ.out], ?_, ?_⟩
    · have hz : w.heap.size ≤ g0.heap.size := HB.out.size
      rw [show sbRA A B L = [] from by simp [sbRA, sbRB, sbCode, sbOk, HQ.out], show sbRB A B L = [] from by simp [sbRA, sbRB, sbCode, sbOk, HQ.out]]
      exact OwnSol.nil0 (by first | exact hz | (simp [World.setCell]; exact hz))
    · first | exact HB.out | exact (HB.out.setCell (p := ⟨w.heap.size + 1 + 1, 0, none⟩) (by show _ ≤ w.heap.size + 1 + 1; omega) _).setCell (p := ⟨w.heap.size + 1 + 1, 1, none⟩) (by show _ ≤ w.heap.size + 1 + 1; omega) _
  have HP0 := Lib.hid hp0
  have hl12 := isTab_len (isPM_parts HP0.out).1
  by_cases hp1 : setOk A.length L = true
  case neg =>
    have hq1 : setOk A.length L = false := by simpa using hp1
    have HQ := Lib.hid hq1; clear hp1
    obtain ⟨a0, c0, rfl, _, _⟩ := hA.1.shape
    obtain ⟨a0s, c0s, rfl, _, _⟩ := hA.2.shape
    obtain ⟨a1, c1, rfl, hc1, hm1⟩ := hL.shape
    go_enter Try.func9, Try.ntmps9
    go_wp2_with fail
    obtain ⟨f0, f1, f2, hW0, hsz⟩ := boxes3 w [.slice a0 A.length c0, .slice a0s B.length c0s] [.slice a1 L.length c1] [.slice none 0 0, .slice none 0 0] 26 27 26
    obtain ⟨W0, hW⟩ : ∃ W, (((w.alloc (.cells #[.slice a0 A.length c0, .slice a0s B.length c0s] 26)).alloc (.cells #[.slice a1 L.length c1] 27)).alloc (.cells #[.slice none 0 0, .slice none 0 0] 26)) = W := ⟨_, rfl⟩
    rw [hW] at f0 f1 f2 hW0 hsz ⊢
    clear hW hsz
    refine (c_IsPairMap _ _ _ _ _ (hA.below hW0)).mono ?_; rintro e g0 ⟨rfl, hbg0⟩
    have hB0 := bb hW0 hbg0
    replace f0 := f0.under hbg0
    obtain ⟨cA0, cB0, -, -⟩ := two_cells f0
    replace f1 := f1.under hbg0
    have cA1 := one_cell f1
    replace f2 := f2.under hbg0
    obtain ⟨cA2, cB2, fA2, fB2⟩ := two_cells f2
    clear hbg0
    go_wp2_with fail
    refine (c_isSet _ _ _ _ (hL.below hB0) (by omega) (by omega)).mono ?_; rintro e g1 ⟨rfl, hbg1⟩
    have hB1 := bb hB0 hbg1
    replace f0 := f0.under hbg1
    clear cA0 cB0
    obtain ⟨cA0, cB0, -, -⟩ := two_cells f0
    replace f1 := f1.under hbg1
    clear cA1
    have cA1 := one_cell f1
    replace f2 := f2.under hbg1
    clear cA2 cB2 fA2 fB2
    obtain ⟨cA2, cB2, fA2, fB2⟩ := two_cells f2
    clear hbg1
    have HB := Lib.hid hB1
    clear hB0 hB1 hW0
    go_wp2
    refine bodyPost_ret (v := .tuple #[.agg #[.slice none 0 0, .slice none 0 0], .int .i64 2]) (by simp [results, Try.results9, go_sem, cA2, cB2]) rfl ⟨.slice none 0 0, .slice none 0 0, by simp [sbRA, sbRB, sbCode, sbOk, HQ.out, HP0.out], ?_, ?_⟩
    · have hz : w.heap.size ≤ g1.heap.size := HB.out.size
      rw [show sbRA A B L = [] from by simp [sbRA, sbRB, sbCode, sbOk, HQ.out, HP0.out], show sbRB A B L = [] from by simp [sbRA, sbRB, sbCode, sbOk, HQ.out, HP0.out]]
      exact OwnSol.nil0 (by first | exact hz | (simp [World.setCell]; exact hz))
    · first | exact HB.out | exact (HB.out.setCell (p := ⟨w.heap.size + 1 + 1, 0, none⟩) (by show _ ≤ w.heap.size + 1 + 1; omega) _).setCell (p := ⟨w.heap.size + 1 + 1, 1, none⟩) (by show _ ≤ w.heap.size + 1 + 1; omega) _
  have HP1 := Lib.hid hp1
  by_cases hp2 : closL A B L = true
  case neg =>
    have hq2 : closL A B L = false := by simpa using hp2
    have HQ := Lib.hid hq2; clear hp2
    obtain ⟨a0, c0, rfl, _, _⟩ := hA.1.shape
    obtain ⟨a0s, c0s, rfl, _, _⟩ := hA.2.shape
    obtain ⟨a1, c1, rfl, hc1, hm1⟩ := hL.shape
    go_enter Try.func9, Try.ntmps9
    go_wp2_with fail
    obtain ⟨f0, f1, f2, hW0, hsz⟩ := boxes3 w [.slice a0 A.length c0, .slice a0s B.length c0s] [.slice a1 L.length c1] [.slice none 0 0, .slice none 0 0] 26 27 26
    obtain ⟨W0, hW⟩ : ∃ W, (((w.alloc (.cells #[.slice a0 A.length c0, .slice a0s B.length c0s] 26)).alloc (.cells #[.slice a1 L.length c1] 27)).alloc (.cells #[.slice none 0 0, .slice none 0 0] 26)) = W := ⟨_, rfl⟩
    rw [hW] at f0 f1 f2 hW0 hsz ⊢
    clear hW hsz
    refine (c_IsPairMap _ _ _ _ _ (hA.below hW0)).mono ?_; rintro e g0 ⟨rfl, hbg0⟩
    have hB0 := bb hW0 hbg0
    replace f0 := f0.under hbg0
    obtain ⟨cA0, cB0, -, -⟩ := two_cells f0
    replace f1 := f1.under hbg0
    have cA1 := one_cell f1
    replace f2 := f2.under hbg0
    obtain ⟨cA2, cB2, fA2, fB2⟩ := two_cells f2
    clear hbg0
    go_wp2_with fail
    refine (c_isSet _ _ _ _ (hL.below hB0) (by omega) (by omega)).mono ?_; rintro e g1 ⟨rfl, hbg1⟩
    have hB1 := bb hB0 hbg1
    replace f0 := f0.under hbg1
    clear cA0 cB0
    obtain ⟨cA0, cB0, -, -⟩ := two_cells f0
    replace f1 := f1.under hbg1
    clear cA1
    have cA1 := one_cell f1
    replace f2 := f2.under hbg1
    clear cA2 cB2 fA2 fB2
    obtain ⟨cA2, cB2, fA2, fB2⟩ := two_cells f2
    clear hbg1
    go_wp2_with fail
    refine (c_isClosed _ _ _ _ _ _ _ (hA.below hB1) (hL.below hB1) HP0.out HP1.out).mono ?_; rintro e g2 ⟨rfl, hbg2⟩
    have hB2 := bb hB1 hbg2
    replace f0 := f0.under hbg2
    clear cA0 cB0
    obtain ⟨cA0, cB0, -, -⟩ := two_cells f0
    replace f1 := f1.under hbg2
    clear cA1
    have cA1 := one_cell f1
    replace f2 := f2.under hbg2
    clear cA2 cB2 fA2 fB2
    obtain ⟨cA2, cB2, fA2, fB2⟩ := two_cells f2
    clear hbg2
    have HB := Lib.hid hB2
    clear hB0 hB1 hB2 hW0
    go_wp2
    refine bodyPost_ret (v := .tuple #[.agg #[.slice none 0 0, .slice none 0 0], .int .i64 5]) (by simp [results, Try.results9, go_sem, cA2, cB2]) rfl ⟨.slice none 0 0, .slice none 0 0, by simp [sbRA, sbRB, sbCode, sbOk, HQ.out, HP0.out, HP1.out], ?_, ?_⟩
    · have hz : w.heap.size ≤ g2.heap.size := HB.out.size
      rw [show sbRA A B L = [] from by simp [sbRA, sbRB, sbCode, sbOk, HQ.out, HP0.out, HP1.out], show sbRB A B L = [] from by simp [sbRA, sbRB, sbCode, sbOk, HQ.out, HP0.out, HP1.out]]
      exact OwnSol.nil0 (by first | exact hz | (simp [World.setCell]; exact hz))
    · first | exact HB.out | exact (HB.out.setCell (p := ⟨w.heap.size + 1 + 1, 0, none⟩) (by show _ ≤ w.heap.size + 1 + 1; omega) _).setCell (p := ⟨w.heap.size + 1 + 1, 1, none⟩) (by show _ ≤ w.heap.size + 1 + 1; omega) _
  have HP2 := Lib.hid hp2
  obtain ⟨a0, c0, rfl, _, _⟩ := hA.1.shape
  obtain ⟨a0s, c0s, rfl, _, _⟩ := hA.2.shape
  obtain ⟨a1, c1, rfl, hc1, hm1⟩ := hL.shape
  go_enter Try.func9, Try.ntmps9
  go_wp2_with fail
  obtain ⟨f0, f1, f2, hW0, hsz⟩ := boxes3 w [.slice a0 A.length c0, .slice a0s B.length c0s] [.slice a1 L.length c1] [.slice none 0 0, .slice none 0 0] 26 27 26
  obtain ⟨W0, hW⟩ : ∃ W, (((w.alloc (.cells #[.slice a0 A.length c0, .slice a0s B.length c0s] 26)).alloc (.cells #[.slice a1 L.length c1] 27)).alloc (.cells #[.slice none 0 0, .slice none 0 0] 26)) = W := ⟨_, rfl⟩
  rw [hW] at f0 f1 f2 hW0 hsz ⊢
  clear hW hsz
  refine (c_IsPairMap _ _ _ _ _ (hA.below hW0)).mono ?_; rintro e g0 ⟨rfl, hbg0⟩
  have hB0 := bb hW0 hbg0
  replace f0 := f0.under hbg0
  obtain ⟨cA0, cB0, -, -⟩ := two_cells f0
  replace f1 := f1.under hbg0
  have cA1 := one_cell f1
  replace f2 := f2.under hbg0
  obtain ⟨cA2, cB2, fA2, fB2⟩ := two_cells f2
  clear hbg0
  go_wp2_with fail
  refine (c_isSet _ _ _ _ (hL.below hB0) (by omega) (by omega)).mono ?_; rintro e g1 ⟨rfl, hbg1⟩
  have hB1 := bb hB0 hbg1
  replace f0 := f0.under hbg1
  clear cA0 cB0
  obtain ⟨cA0, cB0, -, -⟩ := two_cells f0
  replace f1 := f1.under hbg1
  clear cA1
  have cA1 := one_cell f1
  replace f2 := f2.under hbg1
  clear cA2 cB2 fA2 fB2
  obtain ⟨cA2, cB2, fA2, fB2⟩ := two_cells f2
  clear hbg1
  go_wp2_with fail
  refine (c_isClosed _ _ _ _ _ _ _ (hA.below hB1) (hL.below hB1) HP0.out HP1.out).mono ?_; rintro e g2 ⟨rfl, hbg2⟩
  have hB2 := bb hB1 hbg2
  replace f0 := f0.under hbg2
  clear cA0 cB0
  obtain ⟨cA0, cB0, -, -⟩ := two_cells f0
  replace f1 := f1.under hbg2
  clear cA1
  have cA1 := one_cell f1
  replace f2 := f2.under hbg2
  clear cA2 cB2 fA2 fB2
  obtain ⟨cA2, cB2, fA2, fB2⟩ := two_cells f2
  clear hbg2
  have HOK := Lib.hid (sbOk_of HP0.out HP1.out HP2.out)
  obtain ⟨n0, b0, o0, k0, rb0, ro0, rc0, b0s, o0s, k0s, rb0s, ro0s, rc0s, q0, q0s, hl0, hl0s, hn0, hx0, hc0, hm0, hc0s, hm0s, t0, t0s⟩ := hA.tabs HP0.out
  injection q0 with p1 p2 p3
  injection q0s with p4 p5 p6
  subst p1 p2 p3 p4 p6
  rw [hl0s] at f0 cB0 ⊢
  have hl12' := (setOk_len HP1.out).2
  have hLW := hL.below hB2
  have hpay : Pays3 g2 50 #[.pointer (some ⟨w.heap.size + 1, 0, none⟩), .pointer (some ⟨w.heap.size, 0, none⟩)] L.length (sbG A L) (sbG B L) := fun U x y hb h1 h2 =>
    c_sub1 (w.heap.size + 1) w.heap.size A.length c0 c0s b0 o0 b0s o0s A B L a1 c1 rb0 ro0 rc0 rb0s ro0s rc0s x y U (one_cell (f1.under hb)) (two_cells (f0.under hb)).1 (two_cells (f0.under hb)).2.1 (hLW.below hb) ((t0.below hB2).below hb) ((t0s.below hB2).below hb) HP1.out h1 h2 hx0
  have HP := Lib.hid hpay; have HF2 := Lib.hid f2; have HBW := Lib.hid hB2
  clear hpay hLW f2 t0 t0s hA hL hB0 hB1 hB2 hW0 f0 f1
  go_wp2_with fail
  refine (c_solutionBy L.length _ _ _ _ _ (by omega) eg_sub1 HP.out).mono ?_; rintro e wz ⟨s1, s2, rfl, hs, hbz⟩
  obtain ⟨sa1, sl1, sc1, rfl⟩ := hs.sol.1.any
  obtain ⟨sa2, sl2, sc2, rfl⟩ := hs.sol.2.any
  clear cA2 cB2 fA2 fB2
  obtain ⟨z0, z1, z2, z3⟩ := two_cells (HF2.out.under hbz)
  have HLo := Lib.hid HF2.out.lt; have HSo := Lib.hid hs; have HBz := Lib.hid (bb HBW.out hbz); clear hs hbz
  go_wp2
  obtain ⟨hA, hB⟩ := stored (q := w.heap.size + 1 + 1) HBz.out HSo.out (by omega) HLo.out
  refine bodyPost_ret (v := .tuple #[.agg #[.slice sa1 sl1 sc1, .slice sa2 sl2 sc2], .int .i64 0]) (by simp [results, Try.results9, go_sem, z0, z1]) rfl ⟨_, _, by simp [sbCode, HP0.out, HP1.out, HP2.out]; exact ⟨rfl, rfl⟩, by simpa [sbRA, sbRB, sbT, HOK.out] using hA, hB⟩

set_option maxRecDepth 100000 in
set_option maxHeartbeats 4000000 in
theorem c_l02Sub (v0 u0 : Value) (A B : List (List Int)) (v1 : Value) (L : List Int) (w : World) (hA : Sol w v0 u0 A B) (hL : Ints w v1 L) (hp : isPM A B = true) (hset : setOk A.length L = true) :
    Calls Try.prog 54 #[.agg #[v0, u0], v1] w (RSolR w (sbT A L) (sbT B L)) := by
  obtain ⟨n0, b0, o0, c0, rb0, ro0, rc0, b0s, o0s, c0s, rb0s, ro0s, rc0s, rfl, rfl, hl0, hl0s, hn0, hx0, hc0, hm0, hc0s, hm0s, t0, t0s⟩ := hA.tabs hp
  have HL0 := Lib.hid hl0; clear hl0
  have HL0s := Lib.hid hl0s; clear hl0s
  obtain ⟨a1, c1, rfl, hc1, hm1⟩ := hL.shape
  go_enter Try.func54, Try.ntmps54
  go_wp2
  obtain ⟨f0, f2, hW0, hsz⟩ := boxes2 w [.slice (some ⟨b0, o0, none⟩) n0 c0, .slice (some ⟨b0s, o0s, none⟩) n0 c0s] [.slice none 0 0, .slice none 0 0] 26 26
  obtain ⟨W0, hW⟩ : ∃ W, ((w.alloc (.cells #[.slice (some ⟨b0, o0, none⟩) n0 c0, .slice (some ⟨b0s, o0s, none⟩) n0 c0s] 26)).alloc (.cells #[.slice none 0 0, .slice none 0 0] 26)) = W := ⟨_, rfl⟩
  rw [hW] at f0 f2 hW0 hsz ⊢
  have HSZ := Lib.hid hsz
  clear hW hsz
  obtain ⟨cA0, cB0, -, -⟩ := two_cells f0
  obtain ⟨cA2, cB2, -, -⟩ := two_cells f2
  replace t0 := t0.below hW0; replace t0s := t0s.below hW0
  obtain ⟨N, hN⟩ : ∃ N, N = L.length := ⟨_, rfl⟩
  rw [HL0.out] at hset
  have hRA : sbT A L = tabOf N (sbG A L) := by unfold sbT; rw [hN]
  have hRB : sbT B L = tabOf N (sbG B L) := by unfold sbT; rw [hN]
  have hl12 := (setOk_len hset).2
  obtain ⟨bl, ol, hal, -⟩ := hL.get 0 (setOk_len hset).1
  subst hal
  have HRA := Lib.hid hRA; have HRB := Lib.hid hRB; have HSet := Lib.hid hset; have HN := Lib.hid hN
  have hNI : (L.length : Int) = N := by rw [hN]
  have hN12 : N ≤ 12 := by omega
  obtain ⟨gA, hgA⟩ : ∃ g : Int → Int → Int, g = sbG A L := ⟨_, rfl⟩
  obtain ⟨gB, hgB⟩ : ∃ g : Int → Int → Int, g = sbG B L := ⟨_, rfl⟩
  rw [← hgA] at HRA; rw [← hgB] at HRB
  have HGA := Lib.hid hgA; have HGB := Lib.hid hgB
  clear hRA hRB hset hN hgA hgB
  have HT0 := Lib.hid t0; have HT0s := Lib.hid t0s; have HLr := Lib.hid (hL.below hW0)
  have HF2lt := Lib.hid f2.lt
  have f1 := f2
  have HSV := HSZ
  have HF1lt := HF2lt
  clear t0 t0s cA0 cB0 cA2 cB2 hA hL hp
  have hB1 : Below W0.heap.size W0 (W0.alloc (.cells #[.slice none 0 0, .slice none 0 0] 26)) := (Below.refl _ _).alloc (Nat.le_refl _) _
  have hout := Blk.new W0 [.slice none 0 0, .slice none 0 0] 26
  have hs1 : (W0.alloc (.cells #[.slice none 0 0, .slice none 0 0] 26)).heap.size = W0.heap.size + 1 := by simp
  have hqq : W0.heap.size = w.heap.size + 1 + 1 := by have := HSV.out; omega
  change Blk (W0.alloc (.cells #[.slice none 0 0, .slice none 0 0] 26)) _ _ _ at hout
  obtain ⟨W1, hW1⟩ : ∃ W, W0.alloc (.cells #[.slice none 0 0, .slice none 0 0] 26) = W := ⟨_, rfl⟩
  rw [hW1] at hB1 hout hs1 ⊢
  clear hW1
  have hout' : Blk W1 (w.heap.size + 1 + 1) 26 [.slice none 0 0, .slice none 0 0] := by rw [← hqq]; exact hout
  have HOut := Lib.hid (Out2.start (lo := w.heap.size + 1 + 1 + 1) (q := w.heap.size + 1 + 1) (w := W1) (by omega) (by omega) hout')
  have HB1 := Lib.hid hB1; have HWW := Lib.hid hW0; have HS1 := Lib.hid hs1
  have HQLE : Hid (W0.heap.size ≤ w.heap.size + 1 + 1) := Lib.hid (by omega)
  clear hB1 hout hout' hs1 hW0 hqq
  go_loopw [6, 7, 8, 9] (fun a _ _ _ wr => ∃ (k : Nat) (va vb : Value), k ≤ N ∧ a = .int .i64 k ∧ Hid (Below W0.heap.size W0 wr) ∧ Hid (Out2 (w.heap.size + 1 + 1 + 1) wr.heap.size (w.heap.size + 1 + 1) wr va vb ((tabOf N gA).take k) ((tabOf N gB).take k))) (fun a _ _ _ _ => N - (intOf a).toNat)
  case atStart => exact ⟨0, _, _, Nat.zero_le _, rfl, HB1, HOut⟩
  case round =>
    clear HB1 HOut
    obtain ⟨k, va, vb, hk, rfl, HB, HO⟩ := hrel
    obtain ⟨wo, rfl⟩ : ∃ wo : World, wo = wr := ⟨_, rfl⟩
    by_cases hlt : k < N
    · go_wp2
      go_loopw [7, 8, 9] (fun s t y wi => ∃ (j : Nat) (sa : Option Addr) (sc : Nat) (ta : Option Addr) (tc : Nat), j ≤ N ∧ y = .int .i64 j ∧ s = .slice sa j sc ∧ t = .slice ta j tc ∧ Hid (Below wo.heap.size wo wi) ∧ Hid (Two wo.heap.size wi (.slice sa j sc) (.slice ta j tc) ((rowOf N (gA k)).take j) ((rowOf N (gB k)).take j))) (fun _ _ y _ => N - (intOf y).toNat)
      case atStart => exact ⟨0, _, _, _, _, Nat.zero_le _, rfl, rfl, rfl, Lib.hid (((Below.refl wo.heap.size wo).alloc (Nat.le_refl _) _).alloc (by simp) _), Lib.hid (Two.made0 wo)⟩
      case round =>
        obtain ⟨j, sa, sc, ta, tc, hj, rfl, rfl, rfl, Hb, HTw⟩ := hrel
        obtain ⟨wi, rfl⟩ : ∃ wi : World, wi = wr := ⟨_, rfl⟩
        by_cases hlj : j < N
        · have hB2 := bb HB.out Hb.out
          have hkL : k < L.length := by have := HN.out; omega
          have hjL : j < L.length := by have := HN.out; omega
          obtain ⟨d1, d2⟩ := setOk_in HSet.out hkL
          obtain ⟨d3, d4⟩ := setOk_in HSet.out hjL
          obtain ⟨x, hx⟩ : ∃ x, x = nth L k := ⟨_, rfl⟩
          obtain ⟨y, hy⟩ : ∃ x, x = nth L j := ⟨_, rfl⟩
          rw [← hx] at d1 d2; rw [← hy] at d3 d4
          have HXe := Lib.hid hx; have HYe := Lib.hid hy
          have HEA : Hid (gA k j = idx L (val2 A x y)) := Lib.hid (by rw [HGA.out, hx, hy]; rfl)
          have HEB : Hid (gB k j = idx L (val2 B x y)) := Lib.hid (by rw [HGB.out, hx, hy]; rfl)
          have HSA : Hid (∀ w' : World, Below W0.heap.size W0 w' → w'.cell? ⟨w.heap.size, 0, none⟩ = some (.slice (some ⟨b0, o0, none⟩) n0 c0) ∧ w'.cell? ⟨bl, ol + k, none⟩ = some (.int .i64 x) ∧ w'.cell? ⟨bl, ol + j, none⟩ = some (.int .i64 y) ∧ w'.cell? ⟨b0, o0 + x.toNat, none⟩ = some (.slice (some ⟨rb0 x.toNat, ro0 x.toNat, none⟩) n0 (rc0 x.toNat)) ∧ w'.cell? ⟨rb0 x.toNat, ro0 x.toNat + y.toNat, none⟩ = some (.int .i64 (val2 A x y))) := Lib.hid (by
            intro w' hb
            have T0 := HT0.out.below hb
            have l1 := (HLr.out.below hb).at k hkL; have l2 := (HLr.out.below hb).at j hjL
            rw [← HXe.out] at l1; rw [← HYe.out] at l2
            exact ⟨(two_cells (f0.under hb)).1, l1, l2, T0.rowi _ d1 d2, T0.vali _ _ d1 d2 d3 d4⟩)
          have HSB : Hid (∀ w' : World, Below W0.heap.size W0 w' → w'.cell? ⟨w.heap.size, 1, none⟩ = some (.slice (some ⟨b0s, o0s, none⟩) n0 c0s) ∧ w'.cell? ⟨bl, ol + k, none⟩ = some (.int .i64 x) ∧ w'.cell? ⟨bl, ol + j, none⟩ = some (.int .i64 y) ∧ w'.cell? ⟨b0s, o0s + x.toNat, none⟩ = some (.slice (some ⟨rb0s x.toNat, ro0s x.toNat, none⟩) n0 (rc0s x.toNat)) ∧ w'.cell? ⟨rb0s x.toNat, ro0s x.toNat + y.toNat, none⟩ = some (.int .i64 (val2 B x y))) := Lib.hid (by
            intro w' hb
            have T0 := HT0s.out.below hb
            have l1 := (HLr.out.below hb).at k hkL; have l2 := (HLr.out.below hb).at j hjL
            rw [← HXe.out] at l1; rw [← HYe.out] at l2
            exact ⟨(two_cells (f0.under hb)).2.1, l1, l2, T0.rowi _ d1 d2, T0.vali _ _ d1 d2 d3 d4⟩)
          have hkN : (k : Int) < N := by omega
          have hjN : (j : Int) < N := by omega
          obtain ⟨q1, q2, q3, q4, q5⟩ := HSA.out wi hB2
          clear hx hy hB2 hkL hjL
          have HX1 := Lib.hid (HTw.out.under ((Below.refl wi.heap.size wi).drew))
          have HZ1 := Lib.hid (bb Hb.out ((Below.refl wi.heap.size wi).drew))
          have hl1 : ((rowOf N (gA k)).take j).length = j := by simp; omega
          have hl2 : ((rowOf N (gB k)).take j).length = j := by simp; omega
          have HL1a := Lib.hid hl1; have HL2a := Lib.hid hl2
          have HN1a : Hid (((rowOf N (gA k)).take j).length ≤ 1099511627776) := by show _ ≤ _; rw [hl1]; omega
          have HN2a : Hid (((rowOf N (gB k)).take j).length ≤ 1099511627776) := by show _ ≤ _; rw [hl2]; omega
          have HS1a : Hid (wo.heap.size ≤ (wi.drew).heap.size) := Lib.hid HZ1.out.size
          clear hl1 hl2
          go_wp2
          go_region_held3 (fun w' => w'.cell? ⟨w.heap.size, 0, none⟩ = some (.slice (some ⟨b0, o0, none⟩) n0 c0) ∧ w'.cell? ⟨bl, ol + k, none⟩ = some (.int .i64 x) ∧ w'.cell? ⟨bl, ol + j, none⟩ = some (.int .i64 y) ∧ w'.cell? ⟨b0, o0 + x.toNat, none⟩ = some (.slice (some ⟨rb0 x.toNat, ro0 x.toNat, none⟩) n0 (rc0 x.toNat)) ∧ w'.cell? ⟨rb0 x.toNat, ro0 x.toNat + y.toNat, none⟩ = some (.int .i64 (val2 A x y))) (first | go_keep | exact HSA.out _ (bb HB.out HZ1.out) | exact HSA.out _ (bb HB.out HZ2.out)) ((first | (go_at_call 83; refine (c_l01Index _ _ _ _ (HLr.out.below (bb HB.out HZ1.out))).mono ?_; rintro e w' ⟨rfl, rfl⟩) | (refine step_app_int wo.heap.size (wi.drew) _ ((rowOf N (gA k)).take j) _ _ _  rfl rfl rfl HX1.out.a rfl HN1a.out HS1a.out ?_; intro g c1 w1 hown1 hk1 hg1; rw [HL1a.out] at hown1; rw [HL1a.out]; have HT1 := Lib.hid (HX1.out.app1 hown1 hk1 hg1); have HZ2 := Lib.hid (HX1.out.a.frame HZ1.out (Nat.le_refl _) HS1a.out hk1); clear hown1 hk1 hg1)))
          go_wp2
          have hB3 := bb HB.out HZ2.out
          clear q1 q2 q3 q4 q5
          obtain ⟨q1, q2, q3, q4, q5⟩ := HSB.out w1 hB3
          have HX2 := Lib.hid (HT1.out.under ((Below.refl w1.heap.size w1).drew))
          have HZ3 := Lib.hid (bb HZ2.out ((Below.refl w1.heap.size w1).drew))
          have HS2a : Hid (wo.heap.size ≤ (w1.drew).heap.size) := Lib.hid HZ3.out.size
          clear hB3
          go_wp2
          go_region_held3 (fun w' => w'.cell? ⟨w.heap.size, 1, none⟩ = some (.slice (some ⟨b0s, o0s, none⟩) n0 c0s) ∧ w'.cell? ⟨bl, ol + k, none⟩ = some (.int .i64 x) ∧ w'.cell? ⟨bl, ol + j, none⟩ = some (.int .i64 y) ∧ w'.cell? ⟨b0s, o0s + x.toNat, none⟩ = some (.slice (some ⟨rb0s x.toNat, ro0s x.toNat, none⟩) n0 (rc0s x.toNat)) ∧ w'.cell? ⟨rb0s x.toNat, ro0s x.toNat + y.toNat, none⟩ = some (.int .i64 (val2 B x y))) (first | go_keep | exact HSB.out _ (bb HB.out HZ3.out) | exact HSB.out _ (bb HB.out HZ4.out)) ((first | (go_at_call 83; refine (c_l01Index _ _ _ _ (HLr.out.below (bb HB.out HZ3.out))).mono ?_; rintro e w' ⟨rfl, rfl⟩) | (refine step_app_int wo.heap.size (w1.drew) _ ((rowOf N (gB k)).take j) _ _ _  rfl rfl rfl HX2.out.b rfl HN2a.out HS2a.out ?_; intro g2 c2 w4 hown4 hk4 hg4; rw [HL2a.out] at hown4; rw [HL2a.out]; have HT2 := Lib.hid (HX2.out.app2 hown4 hk4 hg4); have HZ4 := Lib.hid (HX2.out.b.frame HZ3.out (Nat.le_refl _) HS2a.out hk4); clear hown4 hk4 hg4)))
          go_wp2
          go_roundw
          case rel =>
            refine ⟨j + 1, some ⟨g, 0, none⟩, c1, some ⟨g2, 0, none⟩, c2, by omega, by go_num, rfl, rfl, HZ4, ?_⟩
            rw [take_snoc (rowOf N (gA k)) _ (by simpa using hlj), take_snoc (rowOf N (gB k)) _ (by simpa using hlj), nth_rowOf _ _ _ hlj, nth_rowOf _ _ _ hlj, HEA.out, HEB.out]
            exact HT2
          case measure => simp [intOf]; omega
        · obtain rfl : N = j := by omega
          have hTw := HTw.out
          rw [List.take_of_length_le (by simp), List.take_of_length_le (by simp)] at hTw
          have HU := Lib.hid hTw; clear hTw
          have HO2 := Lib.hid (HO.out.under Hb.out)
          have HBi := Lib.hid (bb HB.out Hb.out)
          have hla : ((tabOf N gA).take k).length = k := by simp; omega
          have hlb : ((tabOf N gB).take k).length = k := by simp; omega
          have HNA : Hid (((tabOf N gA).take k).length ≤ 1099511627776) := by show _ ≤ _; rw [hla]; omega
          have HNB : Hid (((tabOf N gB).take k).length ≤ 1099511627776) := by show _ ≤ _; rw [hlb]; omega
          have HLA := Lib.hid hla; have HLB := Lib.hid hlb; clear hla hlb
          have HLO : Hid ((w.heap.size + 1 + 1 + 1) ≤ wi.heap.size) := Nat.le_trans HO2.out.lm HO2.out.mw
          obtain ⟨cA, cB, cF, cG⟩ := two_cells HO2.out.blk
          go_wp2_with (at_builtin; go_loud (first
            | (refine wpList_app_row2 (w.heap.size + 1 + 1 + 1) wo.heap.size wi va ((tabOf N gA).take k) _ (rowOf N (gA k)) _ _ rfl rfl rfl HO2.out.a HU.out.a rfl HNA.out HO2.out.lm HLO.out ?_; intro g c1 w1 hown1 hk1 hg1; rw [HLA.out] at hown1; rw [HLA.out]; have hq1 := HO2.out.blkq hk1; obtain ⟨dA, dB, dF, dG⟩ := two_cells hq1; have hh := HO2.out.app1 hown1 hk1 hg1; have hv := HO2.out.row1 HU.out.b hk1 (.slice (some ⟨g, 0, none⟩) (k + 1) c1); have hf := HO2.out.frame1 HBi.out HQLE.out hk1 (.slice (some ⟨g, 0, none⟩) (k + 1) c1); obtain ⟨eA, eB, eF, eG⟩ := two_cells hh.blk; have HH := Lib.hid hh; have HV := Lib.hid hv; have HF1 := Lib.hid hf; clear hown1 hk1 hg1 hq1 hh hv hf)
            | (refine wpList_app_row2s (w.heap.size + 1 + 1 + 1) wo.heap.size (w1.setCell ⟨(w.heap.size + 1 + 1), 0, none⟩ (.slice (some ⟨g, 0, none⟩) (k + 1) c1)) vb ((tabOf N gB).take k) _ (rowOf N (gB k)) _ _ w1.heap.size (by simp [World.setCell]) rfl rfl rfl HH.out.b HV.out rfl HNB.out HH.out.lm (Nat.le_trans HH.out.lm HH.out.mw) ?_; intro g2 c2 w4 hown4 hk4 hg4; rw [HLB.out] at hown4; rw [HLB.out]; have hq4 := HH.out.blkq hk4; clear dA dB dF dG eA eB eF eG cA cB cF cG; obtain ⟨dA, dB, dF, dG⟩ := two_cells hq4; have HH2 := Lib.hid (HH.out.app2 hown4 hk4 hg4); have HF2 := Lib.hid (HH.out.frame2 HF1.out HQLE.out hk4 (.slice (some ⟨g2, 0, none⟩) (k + 1) c2)); clear hown4 hk4 hg4 hq4)))
          go_roundw
          case rel =>
            refine ⟨k + 1, .slice (some ⟨g, 0, none⟩) (k + 1) c1, .slice (some ⟨g2, 0, none⟩) (k + 1) c2, by omega, by go_num, HF2, ?_⟩
            rw [take_snoc_row (tabOf N gA) _ (by simpa using hlt), take_snoc_row (tabOf N gB) _ (by simpa using hlt), row_tabOf _ _ _ hlt, row_tabOf _ _ _ hlt]
            exact HH2
          case measure => simp [intOf]; omega
    · obtain rfl : N = k := by omega
      have hO := HO.out
      rw [List.take_of_length_le (by simp), List.take_of_length_le (by simp)] at hO
      obtain ⟨ra1, rc1, hva, _⟩ := hO.a.out.rows.shape
      obtain ⟨ra2, rc2, hvb, _⟩ := hO.b.out.rows.shape
      rw [tabOf_length] at hva hvb
      subst hva hvb
      obtain ⟨y0, y1, y2, y3⟩ := two_cells hO.blk
      obtain ⟨z0, z1, z2, z3⟩ := two_cells (f1.under HB.out)
      have HO' := Lib.hid hO; clear hO
      have hlt1 := HF1lt.out
      go_wp2
      refine bodyPost_ret (v := .agg #[.slice ra1 N rc1, .slice ra2 N rc2]) (by simp [results, Try.results54, go_sem, z0, z1]) rfl ⟨_, _, rfl, ⟨?_, ?_⟩, ((bb HWW.out HB.out).setCell (p := ⟨w.heap.size + 1, 0, none⟩) (by show _ ≤ w.heap.size + 1; omega) _).setCell (p := ⟨w.heap.size + 1, 1, none⟩) (by show _ ≤ w.heap.size + 1; omega) _⟩
      · try rw [HRA.out]
        exact OwnRows.mono (B := (w.heap.size + 1 + 1 + 1)) ((HO'.out.a.out.keep (keep1 _ (w.heap.size + 1) 0 _) (fun b h1 h2 h3 => by have h3 : b = w.heap.size + 1 := h3; omega)).keep (keep1 _ (w.heap.size + 1) 1 _) (fun b h1 h2 h3 => by have h3 : b = w.heap.size + 1 := h3; omega)) (by have := HSV.out; omega)
      · try rw [HRB.out]
        exact OwnRows.mono (B := (w.heap.size + 1 + 1 + 1)) ((HO'.out.b.out.keep (keep1 _ (w.heap.size + 1) 0 _) (fun b h1 h2 h3 => by have h3 : b = w.heap.size + 1 := h3; omega)).keep (keep1 _ (w.heap.size + 1) 1 _) (fun b h1 h2 h3 => by have h3 : b = w.heap.size + 1 := h3; omega)) (by have := HSV.out; omega)

set_option maxRecDepth 100000 in
set_option maxHeartbeats 2000000 in
theorem c_specSubSolution (v0 u0 : Value) (A B : List (List Int)) (v1 : Value) (L : List Int) (w : World) (hA : Sol w v0 u0 A B) (hL : Ints w v1 L) :
    Calls Try.prog 10 #[.agg #[v0, u0], v1] w (RSolRC w (sbRA A B L) (sbRB A B L) (sbCode A B L)) := by
  obtain ⟨a0, c0, rfl, _, _⟩ := hA.1.shape
  obtain ⟨a0s, c0s, rfl, _, _⟩ := hA.2.shape
  obtain ⟨a1, c1, rfl, _, _⟩ := hL.shape
  obtain ⟨f0, f2, hW0, hsz⟩ := boxes2 w [.slice a0 A.length c0, .slice a0s B.length c0s] [.slice none 0 0, .slice none 0 0] 26 26
  obtain ⟨W0, hW⟩ : ∃ W, (w.alloc (.cells #[.slice a0 A.length c0, .slice a0s B.length c0s] 26)).alloc (.cells #[.slice none 0 0, .slice none 0 0] 26) = W := ⟨_, rfl⟩
  rw [hW] at f0 f2 hW0
  have hcase : (isPM A B = true ∧ setOk A.length L = true ∧ setCode A B L = 0) ∨ ((setCode A B L = 1 ∨ setCode A B L = 2) ∧ sbOk A B L = false ∧ sbCode A B L = setCode A B L) := by
    unfold setCode sbCode sbOk
    by_cases h1 : isPM A B = true
    · by_cases h2 : setOk A.length L = true
      · exact .inl ⟨h1, h2, by simp [h1, h2]⟩
      · simp [h1, h2]
    · simp [h1]
  have HC := Lib.hid hcase; have HW := Lib.hid hW; clear hcase hW hsz
  go_enter Try.func10, Try.ntmps10
  go_wp2_with fail
  rw [HW.out]
  refine (c_l02SetCode _ _ _ _ _ _ _ (hA.below hW0) (hL.below hW0)).mono ?_; rintro e w1 ⟨rfl, hb⟩
  have hB1 := bb hW0 hb
  replace f0 := f0.under hb; replace f2 := f2.under hb
  obtain ⟨cA, cB, -, -⟩ := two_cells f0; obtain ⟨z0, z1, z2, z3⟩ := two_cells f2
  clear hb
  rcases HC.out with ⟨h1, h2, h3⟩ | ⟨h1, h2, h3⟩
  · have H1 := Lib.hid h1; have H2 := Lib.hid h2
    rw [h3]
    clear h1 h2 h3
    go_wp2_with fail
    refine (c_l02Closed _ _ _ _ _ _ _ (hA.below hB1) (hL.below hB1) H1.out H2.out).mono ?_; rintro e w2 ⟨rfl, hb2⟩
    replace hB1 := bb hB1 hb2; replace f0 := f0.under hb2; replace f2 := f2.under hb2
    clear cA cB z0 z1 z2 z3 hb2
    obtain ⟨cA, cB, -, -⟩ := two_cells f0; obtain ⟨z0, z1, z2, z3⟩ := two_cells f2
    by_cases hc : closL A B L = true
    case neg =>
      have hc' : closL A B L = false := by simpa using hc
      have H3 := Lib.hid hc'; have HB := Lib.hid hB1
      rw [hc']
      clear hc hc' hA hL f0 f2 hW0 hB1
      go_wp2
      refine bodyPost_ret (v := .tuple #[.agg #[.slice none 0 0, .slice none 0 0], .int .i64 5]) (by simp [results, Try.results10, go_sem, z0, z1]) rfl ⟨.slice none 0 0, .slice none 0 0, by simp [sbCode, H1.out, H2.out, H3.out], ?_, ?_⟩
      · exact ⟨_, rfl, ⟨by simpa [sbRA, sbOk, H3.out] using (OwnRowsIn.nil0 0 0 _).rows, by simpa [sbRB, sbOk, H3.out] using (OwnRowsIn.nil0 0 0 _).rows⟩, Nat.le_refl _, Below.refl _ _⟩
      · first | exact HB.out | exact (HB.out.setCell (p := ⟨w.heap.size + 1, 0, none⟩) (by show _ ≤ w.heap.size + 1; omega) _).setCell (p := ⟨w.heap.size + 1, 1, none⟩) (by show _ ≤ w.heap.size + 1; omega) _
    have HOK := Lib.hid (sbOk_of H1.out H2.out hc); have H3 := Lib.hid hc
    rw [hc]
    clear hc
    go_wp2_with fail
    refine (c_l02Sub _ _ A B _ L _ (hA.below hB1) (hL.below hB1) H1.out H2.out).mono ?_; rintro e wz ⟨s1, s2, rfl, hs, hbz⟩
    obtain ⟨sa1, sl1, sc1, rfl⟩ := hs.1.any
    obtain ⟨sa2, sl2, sc2, rfl⟩ := hs.2.any
    clear z0 z1 z2 z3
    obtain ⟨z0, z1, z2, z3⟩ := two_cells (f2.under hbz)
    have HLo := Lib.hid f2.lt; have HSo := Lib.hid hs; have HBz := Lib.hid (bb hB1 hbz)
    clear hs hbz hB1 hW0 f0 f2 hA hL
    go_wp2
    obtain ⟨hA, hB⟩ := storedR (q := w.heap.size + 1) HBz.out HSo.out (by omega) HLo.out
    refine bodyPost_ret (v := .tuple #[.agg #[.slice sa1 sl1 sc1, .slice sa2 sl2 sc2], .int .i64 0]) (by simp [results, Try.results10, go_sem, z0, z1]) rfl ⟨_, _, by simp [sbCode, H1.out, H2.out, H3.out]; exact ⟨rfl, rfl⟩, by simpa [sbRA, sbRB, HOK.out] using hA, hB⟩
  · have H2 := Lib.hid h2; have H3 := Lib.hid h3; have HB := Lib.hid hB1
    rcases h1 with h1 | h1
    all_goals
      have H1 := Lib.hid h1
      rw [h1]
      clear h1 h2 h3 hA hL f0 f2 hW0 hB1
      go_wp2
      refine bodyPost_ret (v := .tuple #[.agg #[.slice none 0 0, .slice none 0 0], .int .i64 (setCode A B L)]) (by simp [results, Try.results10, go_sem, z0, z1, H1.out]) rfl ⟨.slice none 0 0, .slice none 0 0, by rw [H3.out], ?_, ?_⟩
      · exact ⟨_, rfl, ⟨by simpa [sbRA, H2.out] using (OwnRowsIn.nil0 0 0 _).rows, by simpa [sbRB, H2.out] using (OwnRowsIn.nil0 0 0 _).rows⟩, Nat.le_refl _, Below.refl _ _⟩
      · first | exact HB.out | exact (HB.out.setCell (p := ⟨w.heap.size + 1, 0, none⟩) (by show _ ≤ w.heap.size + 1; omega) _).setCell (p := ⟨w.heap.size + 1, 1, none⟩) (by show _ ≤ w.heap.size + 1; omega) _

theorem sb_total (A B : List (List Int)) (L : List Int) : total (sbRA A B L) ≤ 144 ∧ total (sbRB A B L) ≤ 144 := by
  unfold sbRA sbRB
  split
  · rename_i h
    have hl : L.length ≤ 12 := by
      simp only [sbOk, Bool.and_eq_true] at h
      have h1 := (setOk_len h.1.2).2
      have h2 := (isTab_len (isPM_parts h.1.1).1).2
      omega
    have hz : ∀ g : Int → Int → Int, total (tabOf L.length g) ≤ 144 := by
      intro g
      have h1 := total_le _ (tab_rows (g := g) hl)
      rw [tabOf_length] at h1
      omega
    exact ⟨hz _, hz _⟩
  · simp [total]
end Go.Proofs.Ytkghonhghbcdlaa

namespace Go.Proofs.Ytkghonhghbcdlaa
set_option linter.unusedVariables false
set_option linter.unusedSimpArgs false

/-- Nondegenerate, said of the values. -/
def Nd (n : Nat) (F G : Int → Int → Int) : Prop := ∀ x y z : Int, InR n x → InR n y → InR n z → (F x y = F x z → y = z) ∧ (G y x = G z x → y = z)
def Iv (n : Nat) (F G : Int → Int → Int) : Prop := ∀ x y : Int, InR n x → InR n y → F (F x y) (G x y) = x ∧ G (F x y) (G x y) = y
def Sqr (n : Nat) (F G : Int → Int → Int) : Prop := ∀ x : Int, InR n x → F x x = x ∧ G x x = x

theorem nodup_nth {xs : List Int} : xs.Nodup ↔ ∀ i j : Int, InR xs.length i → InR xs.length j → nth xs i = nth xs j → i = j := by
  constructor
  · intro h i j hi hj e
    obtain ⟨i, li, rfl⟩ := hi.nat
    obtain ⟨j, lj, rfl⟩ := hj.nat
    rw [nth_nat _ _ li, nth_nat _ _ lj] at e
    have hp := List.pairwise_iff_getElem.1 (List.nodup_iff_pairwise_ne.1 h)
    rcases Nat.lt_trichotomy i j with g | g | g
    · exact absurd e (hp i j li lj g)
    · rw [g]
    · exact absurd e.symm (hp j i lj li g)
  · intro h
    rw [List.nodup_iff_pairwise_ne, List.pairwise_iff_getElem]
    intro i j hi hj hij e
    have := h i j (InR.of hi) (InR.of hj) (by rw [nth_nat _ _ hi, nth_nat _ _ hj]; exact e)
    omega
theorem permRows_nd {t : List (List Int)} (ht : isTab t = true) : permRows t = true ↔ ∀ x y z : Int, InR t.length x → InR t.length y → InR t.length z → val2 t x y = val2 t x z → y = z := by
  rw [permRows_iff ht]
  constructor
  · intro h x y z hx hy hz e
    obtain ⟨x, lx, rfl⟩ := hx.nat
    have hl := isTab_row ht (x := (x : Int)) (by omega) (by omega)
    exact nodup_nth.1 (h x lx).1 y z (by rw [hl]; exact hy) (by rw [hl]; exact hz) e
  · intro h x hx
    have hl := isTab_row ht (x := (x : Int)) (by omega) (by omega)
    refine ⟨nodup_nth.2 fun i j hi hj e => ?_, fun v hv => ?_⟩
    · rw [hl] at hi hj
      exact h x i j (InR.of hx) hi hj e
    · obtain ⟨k, hk, rfl⟩ := List.getElem_of_mem hv
      rw [hl] at hk ⊢
      have := val2_lt ht (x := (x : Int)) (y := (k : Int)) (by omega) (by omega) (by omega) (by omega)
      unfold val2 at this
      rwa [nth_nat _ _ (by omega)] at this
theorem nd_iff {A B : List (List Int)} (hp : isPM A B = true) : nondegL A B = true ↔ Nd A.length (val2 A) (val2 B) := by
  obtain ⟨t1, t2, t3⟩ := isPM_parts hp
  have hl : (transL B).length = A.length := by simp [t3]
  have tb : ∀ {x y : Int}, InR A.length x → InR A.length y → val2 (transL B) x y = val2 B y x := fun hx hy => val2_transL (by rw [← t3]; exact hx) (by rw [← t3]; exact hy)
  unfold nondegL
  rw [Bool.and_eq_true, permRows_nd t1, permRows_nd (isTab_transL t2), hl]
  constructor
  · rintro ⟨h1, h2⟩ x y z hx hy hz
    refine ⟨h1 x y z hx hy hz, fun e => h2 x y z hx hy hz ?_⟩
    rw [tb hx hy, tb hx hz]; exact e
  · intro h
    refine ⟨fun x y z hx hy hz => (h x y z hx hy hz).1, fun x y z hx hy hz e => (h x y z hx hy hz).2 ?_⟩
    rw [tb hx hy, tb hx hz] at e; exact e
theorem iv_iff {A B : List (List Int)} : involL A B = true ↔ Iv A.length (val2 A) (val2 B) := invol_iff
theorem sq_iff {A B : List (List Int)} : all1 A.length (sqF A B) = true ↔ Sqr A.length (val2 A) (val2 B) := by
  rw [all1_iff]
  constructor
  · intro h x hx
    obtain ⟨x, lx, rfl⟩ := hx.nat
    simpa [sqF] using h x lx
  · intro h x hx
    have := h x (InR.of hx)
    simp [sqF, this.1, this.2]
theorem sol_iff {A B : List (List Int)} (hp : isPM A B = true) : isSol A B = true ↔ Inj A.length (val2 A) (val2 B) ∧ Yb A.length (val2 A) (val2 B) := by
  rw [isSol_iff]; exact ⟨fun h => h.2, fun h => ⟨hp, h⟩⟩

/-! A part of a pair map. -/
structure Part (k n : Nat) (e : Int → Int) (F G F' G' : Int → Int → Int) : Prop where
  rng : ∀ x, InR k x → InR n (e x)
  inj : ∀ x y, InR k x → InR k y → e x = e y → x = y
  rF : ∀ x y, InR k x → InR k y → InR k (F' x y) ∧ InR k (G' x y)
  vF : ∀ x y, InR k x → InR k y → e (F' x y) = F (e x) (e y)
  vG : ∀ x y, InR k x → InR k y → e (G' x y) = G (e x) (e y)
namespace Part
variable {k n : Nat} {e : Int → Int} {F G F' G' : Int → Int → Int} (h : Part k n e F G F' G')
include h
theorem inj' (hi : Inj n F G) : Inj k F' G' := by
  intro x y u v hx hy hu hv e1 e2
  have := hi _ _ _ _ (h.rng x hx) (h.rng y hy) (h.rng u hu) (h.rng v hv) (by rw [← h.vF x y hx hy, ← h.vF u v hu hv, e1]) (by rw [← h.vG x y hx hy, ← h.vG u v hu hv, e2])
  exact ⟨h.inj _ _ hx hu this.1, h.inj _ _ hy hv this.2⟩
theorem yb (hy : Yb n F G) : Yb k F' G' := by
  intro x y z hx hy' hz
  obtain ⟨a1, a2⟩ := h.rF x y hx hy'
  obtain ⟨a3, a4⟩ := h.rF _ z a2 hz
  obtain ⟨a5, a6⟩ := h.rF _ _ a1 a3
  obtain ⟨b1, b2⟩ := h.rF y z hy' hz
  obtain ⟨b3, b4⟩ := h.rF x _ hx b1
  obtain ⟨b5, b6⟩ := h.rF _ _ b4 b2
  obtain ⟨k1, k2, k3⟩ := hy _ _ _ (h.rng x hx) (h.rng y hy') (h.rng z hz)
  refine ⟨h.inj _ _ a5 b3 ?_, h.inj _ _ a6 b5 ?_, h.inj _ _ a4 b6 ?_⟩
  · rw [h.vF _ _ a1 a3, h.vF _ _ hx hy', h.vF _ _ a2 hz, h.vG _ _ hx hy', k1, h.vF _ _ hx b1, h.vF _ _ hy' hz]
  · rw [h.vG _ _ a1 a3, h.vF _ _ hx hy', h.vF _ _ a2 hz, h.vG _ _ hx hy', k2, h.vF _ _ b4 b2, h.vG _ _ hx b1, h.vF _ _ hy' hz, h.vG _ _ hy' hz]
  · rw [h.vG _ _ a2 hz, h.vG _ _ hx hy', k3, h.vG _ _ b4 b2, h.vG _ _ hx b1, h.vF _ _ hy' hz, h.vG _ _ hy' hz]
theorem nd (hn : Nd n F G) : Nd k F' G' := by
  intro x y z hx hy hz
  obtain ⟨k1, k2⟩ := hn _ _ _ (h.rng x hx) (h.rng y hy) (h.rng z hz)
  exact ⟨fun e1 => h.inj _ _ hy hz (k1 (by rw [← h.vF x y hx hy, ← h.vF x z hx hz, e1])), fun e1 => h.inj _ _ hy hz (k2 (by rw [← h.vG y x hy hx, ← h.vG z x hz hx, e1]))⟩
theorem iv (hn : Iv n F G) : Iv k F' G' := by
  intro x y hx hy
  obtain ⟨a1, a2⟩ := h.rF x y hx hy
  obtain ⟨a3, a4⟩ := h.rF _ _ a1 a2
  obtain ⟨k1, k2⟩ := hn _ _ (h.rng x hx) (h.rng y hy)
  exact ⟨h.inj _ _ a3 hx (by rw [h.vF _ _ a1 a2, h.vF _ _ hx hy, h.vG _ _ hx hy, k1]), h.inj _ _ a4 hy (by rw [h.vG _ _ a1 a2, h.vF _ _ hx hy, h.vG _ _ hx hy, k2])⟩
theorem sq (hn : Sqr n F G) : Sqr k F' G' := by
  intro x hx
  obtain ⟨a1, a2⟩ := h.rF x x hx hx
  obtain ⟨k1, k2⟩ := hn _ (h.rng x hx)
  exact ⟨h.inj _ _ a1 hx (by rw [h.vF _ _ hx hx, k1]), h.inj _ _ a2 hx (by rw [h.vG _ _ hx hx, k2])⟩
end Part

/-! The product. -/
section
variable {A B C D : List (List Int)} (hA : isPM A B = true) (hC : isPM C D = true) (hs : A.length * C.length ≤ 12)
include hA hC hs
theorem pr_isTab : ∀ {X Y : List (List Int)}, isTab X = true → isTab Y = true → X.length = A.length → Y.length = C.length → isTab (prT X Y) = true := by
  intro X Y hX hY e1 e2
  have l1 := (isTab_len (isPM_parts hA).1).1; have l2 := (isTab_len (isPM_parts hC).1).1
  unfold prT
  rw [e1, e2]
  refine isTab_tabOf (Nat.mul_pos l1 l2) hs fun x y hx hy => ?_
  obtain ⟨d1, d2, d3, d4⟩ := divI2 hx l2
  obtain ⟨d5, d6, d7, d8⟩ := divI2 hy l2
  have v1 := val2_lt hX d1 (by rw [e1]; exact d2) d5 (by rw [e1]; exact d6)
  have v2 := val2_lt hY d3 (by rw [e2]; exact d4) d7 (by rw [e2]; exact d8)
  rw [e1] at v1; rw [e2] at v2
  have := pairI v1.1 v1.2 v2.1 v2.2
  push_cast
  exact this
theorem pr_isPM : isPM (prT A C) (prT B D) = true := by
  obtain ⟨a1, a2, a3⟩ := isPM_parts hA
  obtain ⟨c1, c2, c3⟩ := isPM_parts hC
  have h1 := pr_isTab hA hC hs a1 c1 rfl rfl
  have h2 := pr_isTab hA hC hs a2 c2 a3.symm c3.symm
  simp only [isPM, h1, h2, Bool.true_and, decide_eq_true_eq]
  simp [prT, a3, c3]
end
theorem prT_len (A C : List (List Int)) : (prT A C).length = A.length * C.length := by simp [prT]
/-- A pair's number. -/
def pc (m : Nat) (a b : Int) : Int := a * m + b
theorem pc_rng {n m : Nat} {a b : Int} (ha : InR n a) (hb : InR m b) : InR (n * m) (pc m a b) := by
  have := pairI ha.1 ha.2 hb.1 hb.2
  unfold InR pc
  push_cast
  exact this
theorem pc_inj {m : Nat} {a b c d : Int} (hb : InR m b) (hd : InR m d) : pc m a b = pc m c d ↔ a = c ∧ b = d :=
  ⟨fun h => code_inj hb.1 hb.2 hd.1 hd.2 h, fun h => by rw [h.1, h.2]⟩
theorem pc_ex {n m : Nat} (hm : 1 ≤ m) {x : Int} (hx : InR (n * m) x) : ∃ a b, InR n a ∧ InR m b ∧ x = pc m a b := by
  obtain ⟨k, hk, rfl⟩ := hx.nat
  obtain ⟨d1, d2, d3, d4⟩ := divI2 hk hm
  refine ⟨(k : Int) / m, (k : Int) % m, ⟨d1, d2⟩, ⟨d3, d4⟩, ?_⟩
  have := Int.emod_add_mul_ediv (k : Int) (m : Int)
  unfold pc
  rw [Int.mul_comm] at this; omega
theorem pr_val {A C : List (List Int)} {a b c d : Int} (ha : InR A.length a) (hb : InR C.length b) (hc : InR A.length c) (hd : InR C.length d) : val2 (prT A C) (pc C.length a b) (pc C.length c d) = pc C.length (val2 A a c) (val2 C b d) := by
  have h1 := pc_rng ha hb; have h2 := pc_rng hc hd
  unfold prT
  rw [val2_tabOf' h1.1 h1.2 h2.1 h2.2]
  unfold pc
  obtain ⟨e1, e2⟩ := code_div (x := a) hb.1 hb.2
  obtain ⟨e3, e4⟩ := code_div (x := c) hd.1 hd.2
  rw [e1, e2, e3, e4]
/-- The product of two maps of pairs. -/
structure Prd (n m : Nat) (F G F1 G1 F2 G2 : Int → Int → Int) : Prop where
  n1 : 1 ≤ n
  m1 : 1 ≤ m
  r1 : Rng n F1 G1
  r2 : Rng m F2 G2
  vF : ∀ a b c d, InR n a → InR m b → InR n c → InR m d → F (pc m a b) (pc m c d) = pc m (F1 a c) (F2 b d)
  vG : ∀ a b c d, InR n a → InR m b → InR n c → InR m d → G (pc m a b) (pc m c d) = pc m (G1 a c) (G2 b d)
theorem InR.zero {n : Nat} (h : 1 ≤ n) : InR n 0 := ⟨by omega, by omega⟩
namespace Prd
variable {n m : Nat} {F G F1 G1 F2 G2 : Int → Int → Int} (h : Prd n m F G F1 G1 F2 G2)
include h
theorem inj_iff : Inj (n * m) F G ↔ Inj n F1 G1 ∧ Inj m F2 G2 := by
  constructor
  · intro hi
    constructor
    · intro x y u v hx hy hu hv e1 e2
      have z := InR.zero h.m1
      have := hi _ _ _ _ (pc_rng hx z) (pc_rng hy z) (pc_rng hu z) (pc_rng hv z) (by rw [h.vF _ _ _ _ hx z hy z, h.vF _ _ _ _ hu z hv z, e1]) (by rw [h.vG _ _ _ _ hx z hy z, h.vG _ _ _ _ hu z hv z, e2])
      exact ⟨((pc_inj z z).1 this.1).1, ((pc_inj z z).1 this.2).1⟩
    · intro x y u v hx hy hu hv e1 e2
      have z := InR.zero h.n1
      have := hi _ _ _ _ (pc_rng z hx) (pc_rng z hy) (pc_rng z hu) (pc_rng z hv) (by rw [h.vF _ _ _ _ z hx z hy, h.vF _ _ _ _ z hu z hv, e1]) (by rw [h.vG _ _ _ _ z hx z hy, h.vG _ _ _ _ z hu z hv, e2])
      exact ⟨((pc_inj hx hu).1 this.1).2, ((pc_inj hy hv).1 this.2).2⟩
  · rintro ⟨h1, h2⟩ x y u v hx hy hu hv e1 e2
    obtain ⟨a, b, ha, hb, rfl⟩ := pc_ex h.m1 hx
    obtain ⟨c, d, hc, hd, rfl⟩ := pc_ex h.m1 hy
    obtain ⟨a', b', ha', hb', rfl⟩ := pc_ex h.m1 hu
    obtain ⟨c', d', hc', hd', rfl⟩ := pc_ex h.m1 hv
    rw [h.vF _ _ _ _ ha hb hc hd, h.vF _ _ _ _ ha' hb' hc' hd', pc_inj (h.r2 _ _ hb hd).1 (h.r2 _ _ hb' hd').1] at e1
    rw [h.vG _ _ _ _ ha hb hc hd, h.vG _ _ _ _ ha' hb' hc' hd', pc_inj (h.r2 _ _ hb hd).2 (h.r2 _ _ hb' hd').2] at e2
    obtain ⟨k1, k2⟩ := h1 _ _ _ _ ha hc ha' hc' e1.1 e2.1
    obtain ⟨k3, k4⟩ := h2 _ _ _ _ hb hd hb' hd' e1.2 e2.2
    exact ⟨by rw [k1, k3], by rw [k2, k4]⟩
theorem yb_at {a b c d e f : Int} (ha : InR n a) (hb : InR m b) (hc : InR n c) (hd : InR m d) (he : InR n e) (hf : InR m f) :
    (F (F (pc m a b) (pc m c d)) (F (G (pc m a b) (pc m c d)) (pc m e f)) = F (pc m a b) (F (pc m c d) (pc m e f)) ∧ G (F (pc m a b) (pc m c d)) (F (G (pc m a b) (pc m c d)) (pc m e f)) = F (G (pc m a b) (F (pc m c d) (pc m e f))) (G (pc m c d) (pc m e f)) ∧ G (G (pc m a b) (pc m c d)) (pc m e f) = G (G (pc m a b) (F (pc m c d) (pc m e f))) (G (pc m c d) (pc m e f))) ↔
    (F1 (F1 a c) (F1 (G1 a c) e) = F1 a (F1 c e) ∧ G1 (F1 a c) (F1 (G1 a c) e) = F1 (G1 a (F1 c e)) (G1 c e) ∧ G1 (G1 a c) e = G1 (G1 a (F1 c e)) (G1 c e)) ∧
    (F2 (F2 b d) (F2 (G2 b d) f) = F2 b (F2 d f) ∧ G2 (F2 b d) (F2 (G2 b d) f) = F2 (G2 b (F2 d f)) (G2 d f) ∧ G2 (G2 b d) f = G2 (G2 b (F2 d f)) (G2 d f)) := by
  obtain ⟨p1, p2⟩ := h.r1 _ _ ha hc
  obtain ⟨p3, p4⟩ := h.r1 _ _ p2 he
  obtain ⟨p5, p6⟩ := h.r1 _ _ hc he
  obtain ⟨p7, p8⟩ := h.r1 _ _ ha p5
  obtain ⟨q1, q2⟩ := h.r2 _ _ hb hd
  obtain ⟨q3, q4⟩ := h.r2 _ _ q2 hf
  obtain ⟨q5, q6⟩ := h.r2 _ _ hd hf
  obtain ⟨q7, q8⟩ := h.r2 _ _ hb q5
  obtain ⟨q9, q10⟩ := h.r2 _ _ q1 q3
  obtain ⟨q11, q12⟩ := h.r2 _ _ q8 q6
  rw [h.vF _ _ _ _ ha hb hc hd, h.vG _ _ _ _ ha hb hc hd, h.vF _ _ _ _ p2 q2 he hf, h.vG _ _ _ _ p2 q2 he hf, h.vF _ _ _ _ p1 q1 p3 q3, h.vG _ _ _ _ p1 q1 p3 q3, h.vF _ _ _ _ hc hd he hf, h.vG _ _ _ _ hc hd he hf, h.vF _ _ _ _ ha hb p5 q5, h.vG _ _ _ _ ha hb p5 q5, h.vF _ _ _ _ p8 q8 p6 q6, h.vG _ _ _ _ p8 q8 p6 q6,
    pc_inj q9 q7, pc_inj q10 q11, pc_inj q4 q12]
  constructor
  · rintro ⟨⟨a1, a2⟩, ⟨a3, a4⟩, a5, a6⟩; exact ⟨⟨a1, a3, a5⟩, a2, a4, a6⟩
  · rintro ⟨⟨a1, a3, a5⟩, a2, a4, a6⟩; exact ⟨⟨a1, a2⟩, ⟨a3, a4⟩, a5, a6⟩
theorem yb_iff : Yb (n * m) F G ↔ Yb n F1 G1 ∧ Yb m F2 G2 := by
  constructor
  · intro hi
    constructor
    · intro x y z hx hy hz
      have o := InR.zero h.m1
      exact ((h.yb_at hx o hy o hz o).1 (hi _ _ _ (pc_rng hx o) (pc_rng hy o) (pc_rng hz o))).1
    · intro x y z hx hy hz
      have o := InR.zero h.n1
      exact ((h.yb_at o hx o hy o hz).1 (hi _ _ _ (pc_rng o hx) (pc_rng o hy) (pc_rng o hz))).2
  · rintro ⟨h1, h2⟩ x y z hx hy hz
    obtain ⟨a, b, ha, hb, rfl⟩ := pc_ex h.m1 hx
    obtain ⟨c, d, hc, hd, rfl⟩ := pc_ex h.m1 hy
    obtain ⟨e, f, he, hf, rfl⟩ := pc_ex h.m1 hz
    exact (h.yb_at ha hb hc hd he hf).2 ⟨h1 _ _ _ ha hc he, h2 _ _ _ hb hd hf⟩
theorem nd_iff : Nd (n * m) F G ↔ Nd n F1 G1 ∧ Nd m F2 G2 := by
  constructor
  · intro hi
    constructor
    · intro x y z hx hy hz
      have o := InR.zero h.m1
      obtain ⟨k1, k2⟩ := hi _ _ _ (pc_rng hx o) (pc_rng hy o) (pc_rng hz o)
      rw [h.vF _ _ _ _ hx o hy o, h.vF _ _ _ _ hx o hz o] at k1
      rw [h.vG _ _ _ _ hy o hx o, h.vG _ _ _ _ hz o hx o] at k2
      exact ⟨fun e => ((pc_inj o o).1 (k1 (by rw [e]))).1, fun e => ((pc_inj o o).1 (k2 (by rw [e]))).1⟩
    · intro x y z hx hy hz
      have o := InR.zero h.n1
      obtain ⟨k1, k2⟩ := hi _ _ _ (pc_rng o hx) (pc_rng o hy) (pc_rng o hz)
      rw [h.vF _ _ _ _ o hx o hy, h.vF _ _ _ _ o hx o hz] at k1
      rw [h.vG _ _ _ _ o hy o hx, h.vG _ _ _ _ o hz o hx] at k2
      exact ⟨fun e => ((pc_inj hy hz).1 (k1 (by rw [e]))).2, fun e => ((pc_inj hy hz).1 (k2 (by rw [e]))).2⟩
  · rintro ⟨h1, h2⟩ x y z hx hy hz
    obtain ⟨a, b, ha, hb, rfl⟩ := pc_ex h.m1 hx
    obtain ⟨c, d, hc, hd, rfl⟩ := pc_ex h.m1 hy
    obtain ⟨e, f, he, hf, rfl⟩ := pc_ex h.m1 hz
    obtain ⟨k1, k2⟩ := h1 _ _ _ ha hc he
    obtain ⟨k3, k4⟩ := h2 _ _ _ hb hd hf
    rw [h.vF _ _ _ _ ha hb hc hd, h.vF _ _ _ _ ha hb he hf, h.vG _ _ _ _ hc hd ha hb, h.vG _ _ _ _ he hf ha hb, pc_inj (h.r2 _ _ hb hd).1 (h.r2 _ _ hb hf).1, pc_inj (h.r2 _ _ hd hb).2 (h.r2 _ _ hf hb).2]
    exact ⟨fun g => by rw [k1 g.1, k3 g.2], fun g => by rw [k2 g.1, k4 g.2]⟩
theorem iv_iff : Iv (n * m) F G ↔ Iv n F1 G1 ∧ Iv m F2 G2 := by
  have key : ∀ {a b c d : Int}, InR n a → InR m b → InR n c → InR m d → ((F (F (pc m a b) (pc m c d)) (G (pc m a b) (pc m c d)) = pc m a b ∧ G (F (pc m a b) (pc m c d)) (G (pc m a b) (pc m c d)) = pc m c d) ↔ (F1 (F1 a c) (G1 a c) = a ∧ G1 (F1 a c) (G1 a c) = c) ∧ (F2 (F2 b d) (G2 b d) = b ∧ G2 (F2 b d) (G2 b d) = d)) := by
    intro a b c d ha hb hc hd
    obtain ⟨p1, p2⟩ := h.r1 _ _ ha hc
    obtain ⟨q1, q2⟩ := h.r2 _ _ hb hd
    obtain ⟨q3, q4⟩ := h.r2 _ _ q1 q2
    rw [h.vF _ _ _ _ ha hb hc hd, h.vG _ _ _ _ ha hb hc hd, h.vF _ _ _ _ p1 q1 p2 q2, h.vG _ _ _ _ p1 q1 p2 q2, pc_inj q3 hb, pc_inj q4 hd]
    constructor
    · rintro ⟨⟨a1, a2⟩, a3, a4⟩; exact ⟨⟨a1, a3⟩, a2, a4⟩
    · rintro ⟨⟨a1, a3⟩, a2, a4⟩; exact ⟨⟨a1, a2⟩, a3, a4⟩
  constructor
  · intro hi
    constructor
    · intro x y hx hy
      have o := InR.zero h.m1
      exact ((key hx o hy o).1 (hi _ _ (pc_rng hx o) (pc_rng hy o))).1
    · intro x y hx hy
      have o := InR.zero h.n1
      exact ((key o hx o hy).1 (hi _ _ (pc_rng o hx) (pc_rng o hy))).2
  · rintro ⟨h1, h2⟩ x y hx hy
    obtain ⟨a, b, ha, hb, rfl⟩ := pc_ex h.m1 hx
    obtain ⟨c, d, hc, hd, rfl⟩ := pc_ex h.m1 hy
    exact (key ha hb hc hd).2 ⟨h1 _ _ ha hc, h2 _ _ hb hd⟩
theorem sq_iff : Sqr (n * m) F G ↔ Sqr n F1 G1 ∧ Sqr m F2 G2 := by
  have key : ∀ {a b : Int}, InR n a → InR m b → ((F (pc m a b) (pc m a b) = pc m a b ∧ G (pc m a b) (pc m a b) = pc m a b) ↔ (F1 a a = a ∧ G1 a a = a) ∧ (F2 b b = b ∧ G2 b b = b)) := by
    intro a b ha hb
    obtain ⟨q1, q2⟩ := h.r2 _ _ hb hb
    rw [h.vF _ _ _ _ ha hb ha hb, h.vG _ _ _ _ ha hb ha hb, pc_inj q1 hb, pc_inj q2 hb]
    constructor
    · rintro ⟨⟨a1, a2⟩, a3, a4⟩; exact ⟨⟨a1, a3⟩, a2, a4⟩
    · rintro ⟨⟨a1, a3⟩, a2, a4⟩; exact ⟨⟨a1, a2⟩, a3, a4⟩
  constructor
  · intro hi
    constructor
    · intro x hx
      have o := InR.zero h.m1
      exact ((key hx o).1 (hi _ (pc_rng hx o))).1
    · intro x hx
      have o := InR.zero h.n1
      exact ((key o hx).1 (hi _ (pc_rng o hx))).2
  · rintro ⟨h1, h2⟩ x hx
    obtain ⟨a, b, ha, hb, rfl⟩ := pc_ex h.m1 hx
    exact (key ha hb).2 ⟨h1 _ ha, h2 _ hb⟩
end Prd
theorem pr_prd {A B C D : List (List Int)} (hA : isPM A B = true) (hC : isPM C D = true) : Prd A.length C.length (val2 (prT A C)) (val2 (prT B D)) (val2 A) (val2 B) (val2 C) (val2 D) := by
  obtain ⟨a1, a2, a3⟩ := isPM_parts hA
  obtain ⟨c1, c2, c3⟩ := isPM_parts hC
  refine ⟨(isTab_len a1).1, (isTab_len c1).1, pm_rng hA, pm_rng hC, fun a b c d ha hb hc hd => pr_val ha hb hc hd, fun a b c d ha hb hc hd => ?_⟩
  rw [a3] at ha hc
  rw [c3] at hb hd ⊢
  exact pr_val ha hb hc hd
theorem bool_iff {a b c : Bool} (h : a = true ↔ b = true ∧ c = true) : a = (b && c) := by
  cases a <;> cases b <;> cases c <;> simp_all
section
variable {A B C D : List (List Int)} (hA : isPM A B = true) (hC : isPM C D = true) (hs : A.length * C.length ≤ 12)
include hA hC hs
theorem pr_sol : isSol (prT A C) (prT B D) = (isSol A B && isSol C D) := by
  refine bool_iff ?_
  rw [sol_iff (pr_isPM hA hC hs), sol_iff hA, sol_iff hC, prT_len, (pr_prd hA hC).inj_iff, (pr_prd hA hC).yb_iff]
  constructor
  · rintro ⟨⟨a1, a2⟩, a3, a4⟩; exact ⟨⟨a1, a3⟩, a2, a4⟩
  · rintro ⟨⟨a1, a3⟩, a2, a4⟩; exact ⟨⟨a1, a2⟩, a3, a4⟩
theorem pr_nd : nondegL (prT A C) (prT B D) = (nondegL A B && nondegL C D) := by
  refine bool_iff ?_
  rw [nd_iff (pr_isPM hA hC hs), nd_iff hA, nd_iff hC, prT_len]
  exact (pr_prd hA hC).nd_iff
omit hs in
theorem pr_iv : involL (prT A C) (prT B D) = (involL A B && involL C D) := by
  refine bool_iff ?_
  rw [iv_iff, iv_iff, iv_iff, prT_len]
  exact (pr_prd hA hC).iv_iff
omit hs in
theorem pr_sq : all1 (prT A C).length (sqF (prT A C) (prT B D)) = (all1 A.length (sqF A B) && all1 C.length (sqF C D)) := by
  refine bool_iff ?_
  rw [sq_iff, sq_iff, sq_iff, prT_len]
  exact (pr_prd hA hC).sq_iff
end

/-! The union. -/
structure Un (n m : Nat) (F G F1 G1 F2 G2 : Int → Int → Int) : Prop where
  r1 : Rng n F1 G1
  r2 : Rng m F2 G2
  ll : ∀ x y, InR n x → InR n y → F x y = F1 x y ∧ G x y = G1 x y
  rr : ∀ x y, InR m x → InR m y → F (n + x) (n + y) = n + F2 x y ∧ G (n + x) (n + y) = n + G2 x y
  lr : ∀ x y, InR n x → InR m y → F x (n + y) = n + y ∧ G x (n + y) = x
  rl : ∀ x y, InR m x → InR n y → F (n + x) y = y ∧ G (n + x) y = n + x
theorem un_ex {n m : Nat} {x : Int} (hx : InR (n + m) x) : InR n x ∨ ∃ y, InR m y ∧ x = n + y := by
  unfold InR at *
  by_cases h : x < n
  · left; omega
  · right; exact ⟨x - n, by omega, by omega⟩
namespace Un
variable {n m : Nat} {F G F1 G1 F2 G2 : Int → Int → Int} (h : Un n m F G F1 G1 F2 G2)
include h
theorem left : Part n (n + m) (fun x => x) F G F1 G1 :=
  ⟨fun x hx => by unfold InR at *; omega, fun _ _ _ _ e => e, h.r1, fun x y hx hy => (h.ll x y hx hy).1.symm, fun x y hx hy => (h.ll x y hx hy).2.symm⟩
theorem right : Part m (n + m) (fun x => n + x) F G F2 G2 :=
  ⟨fun x hx => by unfold InR at *; omega, fun _ _ _ _ e => by omega, h.r2, fun x y hx hy => (h.rr x y hx hy).1.symm, fun x y hx hy => (h.rr x y hx hy).2.symm⟩
theorem sq_iff : Sqr (n + m) F G ↔ Sqr n F1 G1 ∧ Sqr m F2 G2 := by
  refine ⟨fun k => ⟨h.left.sq k, h.right.sq k⟩, fun ⟨k1, k2⟩ x hx0 => ?_⟩
  rcases un_ex hx0 with hx | ⟨y, hy, rfl⟩
  · obtain ⟨e1, e2⟩ := h.ll x x hx hx
    rw [e1, e2]; exact k1 x hx
  · obtain ⟨e1, e2⟩ := h.rr y y hy hy
    rw [e1, e2, (k2 y hy).1, (k2 y hy).2]; exact ⟨rfl, rfl⟩
theorem iv_iff : Iv (n + m) F G ↔ Iv n F1 G1 ∧ Iv m F2 G2 := by
  refine ⟨fun k => ⟨h.left.iv k, h.right.iv k⟩, fun ⟨k1, k2⟩ x y hx0 hy0 => ?_⟩
  rcases un_ex hx0 with hx | ⟨x, hx, rfl⟩ <;> rcases un_ex hy0 with hy | ⟨y, hy, rfl⟩
  · obtain ⟨e1, e2⟩ := h.ll x y hx hy
    obtain ⟨r1, r2⟩ := h.r1 x y hx hy
    obtain ⟨e3, e4⟩ := h.ll _ _ r1 r2
    rw [e1, e2, e3, e4]; exact k1 x y hx hy
  · obtain ⟨e1, e2⟩ := h.lr x y hx hy
    obtain ⟨e3, e4⟩ := h.rl y x hy hx
    rw [e1, e2, e3, e4]; exact ⟨rfl, rfl⟩
  · obtain ⟨e1, e2⟩ := h.rl x y hx hy
    obtain ⟨e3, e4⟩ := h.lr y x hy hx
    rw [e1, e2, e3, e4]; exact ⟨rfl, rfl⟩
  · obtain ⟨e1, e2⟩ := h.rr x y hx hy
    obtain ⟨r1, r2⟩ := h.r2 x y hx hy
    obtain ⟨e3, e4⟩ := h.rr _ _ r1 r2
    rw [e1, e2, e3, e4, (k2 x y hx hy).1, (k2 x y hx hy).2]; exact ⟨rfl, rfl⟩
theorem nd_iff : Nd (n + m) F G ↔ Nd n F1 G1 ∧ Nd m F2 G2 := by
  refine ⟨fun k => ⟨h.left.nd k, h.right.nd k⟩, fun ⟨k1, k2⟩ x y z hx0 hy0 hz0 => ?_⟩
  rcases un_ex hx0 with hx | ⟨x, hx, rfl⟩ <;> rcases un_ex hy0 with hy | ⟨y, hy, rfl⟩ <;> rcases un_ex hz0 with hz | ⟨z, hz, rfl⟩
  · rw [(h.ll x y hx hy).1, (h.ll x z hx hz).1, (h.ll y x hy hx).2, (h.ll z x hz hx).2]
    exact k1 x y z hx hy hz
  · have r := h.r1 x y hx hy
    have r2 := h.r1 y x hy hx
    rw [(h.ll x y hx hy).1, (h.lr x z hx hz).1, (h.ll y x hy hx).2, (h.rl z x hz hx).2]
    unfold InR at *
    exact ⟨fun e => by omega, fun e => by omega⟩
  · have r := h.r1 x z hx hz
    have r2 := h.r1 z x hz hx
    rw [(h.lr x y hx hy).1, (h.ll x z hx hz).1, (h.rl y x hy hx).2, (h.ll z x hz hx).2]
    unfold InR at *
    exact ⟨fun e => by omega, fun e => by omega⟩
  · rw [(h.lr x y hx hy).1, (h.lr x z hx hz).1, (h.rl y x hy hx).2, (h.rl z x hz hx).2]
    exact ⟨fun e => e, fun e => e⟩
  · rw [(h.rl x y hx hy).1, (h.rl x z hx hz).1, (h.lr y x hy hx).2, (h.lr z x hz hx).2]
    exact ⟨fun e => e, fun e => e⟩
  · have r := h.r2 x z hx hz
    have r2 := h.r2 z x hz hx
    rw [(h.rl x y hx hy).1, (h.rr x z hx hz).1, (h.lr y x hy hx).2, (h.rr z x hz hx).2]
    unfold InR at *
    exact ⟨fun e => by omega, fun e => by omega⟩
  · have r := h.r2 x y hx hy
    have r2 := h.r2 y x hy hx
    rw [(h.rr x y hx hy).1, (h.rl x z hx hz).1, (h.rr y x hy hx).2, (h.lr z x hz hx).2]
    unfold InR at *
    exact ⟨fun e => by omega, fun e => by omega⟩
  · obtain ⟨j1, j2⟩ := k2 x y z hx hy hz
    rw [(h.rr x y hx hy).1, (h.rr x z hx hz).1, (h.rr y x hy hx).2, (h.rr z x hz hx).2]
    exact ⟨fun e => by rw [j1 (by omega)], fun e => by rw [j2 (by omega)]⟩
theorem yb_iff : Yb (n + m) F G ↔ Yb n F1 G1 ∧ Yb m F2 G2 := by
  refine ⟨fun k => ⟨h.left.yb k, h.right.yb k⟩, fun ⟨k1, k2⟩ x y z hx0 hy0 hz0 => ?_⟩
  rcases un_ex hx0 with hx | ⟨x, hx, rfl⟩ <;> rcases un_ex hy0 with hy | ⟨y, hy, rfl⟩ <;> rcases un_ex hz0 with hz | ⟨z, hz, rfl⟩
  · obtain ⟨a1, a2⟩ := h.r1 x y hx hy
    obtain ⟨a3, a4⟩ := h.r1 _ z a2 hz
    obtain ⟨b1, b2⟩ := h.r1 y z hy hz
    obtain ⟨b3, b4⟩ := h.r1 x _ hx b1
    rw [(h.ll x y hx hy).1, (h.ll x y hx hy).2, (h.ll _ z a2 hz).1, (h.ll _ z a2 hz).2, (h.ll _ _ a1 a3).1, (h.ll _ _ a1 a3).2, (h.ll y z hy hz).1, (h.ll y z hy hz).2, (h.ll x _ hx b1).1, (h.ll x _ hx b1).2, (h.ll _ _ b4 b2).1, (h.ll _ _ b4 b2).2]
    exact k1 x y z hx hy hz
  · obtain ⟨a1, a2⟩ := h.r1 x y hx hy
    rw [(h.ll x y hx hy).1, (h.ll x y hx hy).2, (h.lr _ z a2 hz).1, (h.lr _ z a2 hz).2, (h.lr _ z a1 hz).1, (h.lr _ z a1 hz).2, (h.lr y z hy hz).1, (h.lr y z hy hz).2, (h.lr x z hx hz).1, (h.lr x z hx hz).2, (h.ll x y hx hy).1, (h.ll x y hx hy).2]
    exact ⟨rfl, rfl, rfl⟩
  · obtain ⟨a1, a2⟩ := h.r1 x z hx hz
    rw [(h.lr x y hx hy).1, (h.lr x y hx hy).2, (h.ll x z hx hz).1, (h.ll x z hx hz).2, (h.rl y _ hy a1).1, (h.rl y _ hy a1).2, (h.rl y z hy hz).1, (h.rl y z hy hz).2, (h.ll x z hx hz).1, (h.ll x z hx hz).2, (h.lr _ y a2 hy).1, (h.lr _ y a2 hy).2]
    exact ⟨rfl, rfl, rfl⟩
  · obtain ⟨b1, b2⟩ := h.r2 y z hy hz
    rw [(h.lr x y hx hy).1, (h.lr x y hx hy).2, (h.lr x z hx hz).1, (h.lr x z hx hz).2, (h.rr y z hy hz).1, (h.rr y z hy hz).2, (h.lr x _ hx b1).1, (h.lr x _ hx b1).2, (h.lr x _ hx b2).1, (h.lr x _ hx b2).2]
    exact ⟨rfl, rfl, rfl⟩
  · obtain ⟨b1, b2⟩ := h.r1 y z hy hz
    rw [(h.rl x y hx hy).1, (h.rl x y hx hy).2, (h.rl x z hx hz).1, (h.rl x z hx hz).2, (h.ll y z hy hz).1, (h.ll y z hy hz).2, (h.rl x _ hx b1).1, (h.rl x _ hx b1).2, (h.rl x _ hx b2).1, (h.rl x _ hx b2).2]
    exact ⟨rfl, rfl, rfl⟩
  · obtain ⟨a1, a2⟩ := h.r2 x z hx hz
    rw [(h.rl x y hx hy).1, (h.rl x y hx hy).2, (h.rr x z hx hz).1, (h.rr x z hx hz).2, (h.lr y _ hy a1).1, (h.lr y _ hy a1).2, (h.lr y z hy hz).1, (h.lr y z hy hz).2, (h.rr x z hx hz).1, (h.rr x z hx hz).2, (h.rl _ y a2 hy).1, (h.rl _ y a2 hy).2]
    exact ⟨rfl, rfl, rfl⟩
  · obtain ⟨a1, a2⟩ := h.r2 x y hx hy
    rw [(h.rr x y hx hy).1, (h.rr x y hx hy).2, (h.rl _ z a2 hz).1, (h.rl _ z a2 hz).2, (h.rl _ z a1 hz).1, (h.rl _ z a1 hz).2, (h.rl y z hy hz).1, (h.rl y z hy hz).2, (h.rl x z hx hz).1, (h.rl x z hx hz).2, (h.rr x y hx hy).1, (h.rr x y hx hy).2]
    exact ⟨rfl, rfl, rfl⟩
  · obtain ⟨a1, a2⟩ := h.r2 x y hx hy
    obtain ⟨a3, a4⟩ := h.r2 _ z a2 hz
    obtain ⟨b1, b2⟩ := h.r2 y z hy hz
    obtain ⟨b3, b4⟩ := h.r2 x _ hx b1
    rw [(h.rr x y hx hy).1, (h.rr x y hx hy).2, (h.rr _ z a2 hz).1, (h.rr _ z a2 hz).2, (h.rr _ _ a1 a3).1, (h.rr _ _ a1 a3).2, (h.rr y z hy hz).1, (h.rr y z hy hz).2, (h.rr x _ hx b1).1, (h.rr x _ hx b1).2, (h.rr _ _ b4 b2).1, (h.rr _ _ b4 b2).2]
    obtain ⟨j1, j2, j3⟩ := k2 x y z hx hy hz
    exact ⟨by rw [j1], by rw [j2], by rw [j3]⟩
theorem inj_iff : Inj (n + m) F G ↔ Inj n F1 G1 ∧ Inj m F2 G2 := by
  refine ⟨fun k => ⟨h.left.inj' k, h.right.inj' k⟩, fun ⟨k1, k2⟩ => ?_⟩
  -- where a pair is led tells which parts its elements are of
  intro x y u v hx0 hy0 hu0 hv0 e1 e2
  rcases un_ex hx0 with hx | ⟨x, hx, rfl⟩ <;> rcases un_ex hy0 with hy | ⟨y, hy, rfl⟩ <;> rcases un_ex hu0 with hu | ⟨u, hu, rfl⟩ <;> rcases un_ex hv0 with hv | ⟨v, hv, rfl⟩
  all_goals
    first
      | (have i1 := h.ll _ _ hx hy; have r1 := h.r1 _ _ hx hy)
      | (have i1 := h.rr _ _ hx hy; have r1 := h.r2 _ _ hx hy)
      | (have i1 := h.lr _ _ hx hy; have r1 := And.intro hx hy)
      | (have i1 := h.rl _ _ hx hy; have r1 := And.intro hx hy)
    first
      | (have i2 := h.ll _ _ hu hv; have r2 := h.r1 _ _ hu hv)
      | (have i2 := h.rr _ _ hu hv; have r2 := h.r2 _ _ hu hv)
      | (have i2 := h.lr _ _ hu hv; have r2 := And.intro hu hv)
      | (have i2 := h.rl _ _ hu hv; have r2 := And.intro hu hv)
    rw [i1.1, i2.1] at e1
    rw [i1.2, i2.2] at e2
    first
      | exact k1 _ _ _ _ hx hy hu hv e1 e2
      | (clear i1 i2 k1 k2 hx0 hy0 hu0 hv0; unfold InR at hx hy hu hv r1 r2; omega)
      | (obtain ⟨g1, g2⟩ := k2 _ _ _ _ hx hy hu hv (by omega) (by omega); exact ⟨by rw [g1], by rw [g2]⟩)
end Un
theorem unTA_len (A C : List (List Int)) : (unTA A C).length = A.length + C.length := by simp [unTA]
theorem un_tab {A C : List (List Int)} (z : Int → Int → Int) (hA : isTab A = true) (hC : isTab C = true) (hs : A.length + C.length ≤ 12) (hz : ∀ x y : Int, InR (A.length + C.length) x → InR (A.length + C.length) y → InR (A.length + C.length) (z x y)) : isTab (tabOf (A.length + C.length) (unG A C z)) = true := by
  have l1 := (isTab_len hA).1
  refine isTab_tabOf (by omega) hs fun x y hx hy => ?_
  unfold unG
  by_cases g1 : (x : Int) < A.length ∧ (y : Int) < A.length
  · rw [if_pos g1]
    have v1 := val2_lt hA (x := x) (y := y) (by omega) g1.1 (by omega) g1.2
    omega
  · rw [if_neg g1]
    by_cases g2 : (A.length : Int) ≤ x ∧ (A.length : Int) ≤ y
    · rw [if_pos g2]
      have v1 := val2_lt hC (x := (x : Int) - A.length) (y := (y : Int) - A.length) (by omega) (by omega) (by omega) (by omega)
      omega
    · rw [if_neg g2]
      exact hz x y (InR.of hx) (InR.of hy)
theorem un_val {A C : List (List Int)} (z : Int → Int → Int) {x y : Int} (hx : InR (A.length + C.length) x) (hy : InR (A.length + C.length) y) : val2 (tabOf (A.length + C.length) (unG A C z)) x y = unG A C z x y := val2_tabOf' hx.1 hx.2 hy.1 hy.2
theorem unG_ll {A C : List (List Int)} (z : Int → Int → Int) {x y : Int} (hx : InR A.length x) (hy : InR A.length y) : unG A C z x y = val2 A x y := by
  unfold unG; rw [if_pos ⟨hx.2, hy.2⟩]
theorem unG_rr {A C : List (List Int)} (z : Int → Int → Int) {x y : Int} (hx : InR C.length x) (hy : InR C.length y) : unG A C z (A.length + x) (A.length + y) = A.length + val2 C x y := by
  unfold InR at hx hy
  unfold unG; rw [if_neg (by omega), if_pos (by omega), show (A.length : Int) + x - A.length = x by omega, show (A.length : Int) + y - A.length = y by omega]
theorem unG_lr {A C : List (List Int)} (z : Int → Int → Int) {x y : Int} (hx : InR A.length x) (hy : InR C.length y) : unG A C z x (A.length + y) = z x (A.length + y) := by
  unfold InR at hx hy
  unfold unG; rw [if_neg (by omega), if_neg (by omega)]
theorem unG_rl {A C : List (List Int)} (z : Int → Int → Int) {x y : Int} (hx : InR C.length x) (hy : InR A.length y) : unG A C z (A.length + x) y = z (A.length + x) y := by
  unfold InR at hx hy
  unfold unG; rw [if_neg (by omega), if_neg (by omega)]
section
variable {A B C D : List (List Int)} (hA : isPM A B = true) (hC : isPM C D = true) (hs : A.length + C.length ≤ 12)
include hA hC
theorem un_un : Un A.length C.length (val2 (unTA A C)) (val2 (unTB B D)) (val2 A) (val2 B) (val2 C) (val2 D) := by
  obtain ⟨a1, a2, a3⟩ := isPM_parts hA
  obtain ⟨c1, c2, c3⟩ := isPM_parts hC
  have gl : ∀ {x : Int}, InR A.length x → InR (A.length + C.length) x := fun h => by unfold InR at *; omega
  have gr : ∀ {x : Int}, InR C.length x → InR (A.length + C.length) ((A.length : Int) + x) := fun h => by unfold InR at *; omega
  have eA : ∀ {x y : Int}, InR (A.length + C.length) x → InR (A.length + C.length) y → val2 (unTA A C) x y = unG A C (fun _ y => y) x y := fun hx hy => un_val _ hx hy
  have eB : ∀ {x y : Int}, InR (A.length + C.length) x → InR (A.length + C.length) y → val2 (unTB B D) x y = unG B D (fun x _ => x) x y := fun hx hy => by
    rw [a3, c3] at hx hy; exact un_val _ hx hy
  refine ⟨pm_rng hA, pm_rng hC, fun x y hx hy => ⟨?_, ?_⟩, fun x y hx hy => ⟨?_, ?_⟩, fun x y hx hy => ⟨?_, ?_⟩, fun x y hx hy => ⟨?_, ?_⟩⟩
  · rw [eA (gl hx) (gl hy), unG_ll _ hx hy]
  · rw [eB (gl hx) (gl hy)]; rw [a3] at hx hy; rw [unG_ll _ hx hy]
  · rw [eA (gr hx) (gr hy), unG_rr _ hx hy]
  · rw [eB (gr hx) (gr hy)]; rw [c3] at hx hy; rw [a3, unG_rr _ hx hy]
  · rw [eA (gl hx) (gr hy), unG_lr _ hx hy]
  · rw [eB (gl hx) (gr hy)]; rw [c3] at hy; rw [a3] at hx ⊢; rw [unG_lr _ hx hy]
  · rw [eA (gr hx) (gl hy), unG_rl _ hx hy]
  · rw [eB (gr hx) (gl hy)]; rw [c3] at hx; rw [a3] at hy ⊢; rw [unG_rl _ hx hy]
include hs
theorem un_isPM : isPM (unTA A C) (unTB B D) = true := by
  obtain ⟨a1, a2, a3⟩ := isPM_parts hA
  obtain ⟨c1, c2, c3⟩ := isPM_parts hC
  have h1 : isTab (unTA A C) = true := un_tab _ a1 c1 hs fun x y hx hy => hy
  have h2 : isTab (unTB B D) = true := un_tab _ a2 c2 (by rw [← a3, ← c3]; exact hs) fun x y hx hy => hx
  simp only [isPM, h1, h2, Bool.true_and, decide_eq_true_eq]
  simp [unTA, unTB, a3, c3]
theorem un_sol : isSol (unTA A C) (unTB B D) = (isSol A B && isSol C D) := by
  refine bool_iff ?_
  rw [sol_iff (un_isPM hA hC hs), sol_iff hA, sol_iff hC, unTA_len, (un_un hA hC).inj_iff, (un_un hA hC).yb_iff]
  constructor
  · rintro ⟨⟨a1, a2⟩, a3, a4⟩; exact ⟨⟨a1, a3⟩, a2, a4⟩
  · rintro ⟨⟨a1, a3⟩, a2, a4⟩; exact ⟨⟨a1, a2⟩, a3, a4⟩
theorem un_nd : nondegL (unTA A C) (unTB B D) = (nondegL A B && nondegL C D) := by
  refine bool_iff ?_
  rw [nd_iff (un_isPM hA hC hs), nd_iff hA, nd_iff hC, unTA_len]
  exact (un_un hA hC).nd_iff
omit hs in
theorem un_iv : involL (unTA A C) (unTB B D) = (involL A B && involL C D) := by
  refine bool_iff ?_
  rw [iv_iff, iv_iff, iv_iff, unTA_len]
  exact (un_un hA hC).iv_iff
omit hs in
theorem un_sq : all1 (unTA A C).length (sqF (unTA A C) (unTB B D)) = (all1 A.length (sqF A B) && all1 C.length (sqF C D)) := by
  refine bool_iff ?_
  rw [sq_iff, sq_iff, sq_iff, unTA_len]
  exact (un_un hA hC).sq_iff
end

/-! A closed set. -/
theorem incr_lt {L : List Int} (h : incr L = true) : ∀ {i j : Nat}, i < j → j < L.length → nth L i < nth L j := by
  intro i j
  induction j with
  | zero => intro h; omega
  | succ j ih =>
    intro hij hj
    have h1 := (incr_iff L).1 h j hj
    rcases Nat.lt_or_ge i j with g | g
    · have := ih g (by omega)
      push_cast; omega
    · obtain rfl : i = j := by omega
      push_cast; exact h1
theorem setOk_inj {n : Nat} {L : List Int} (h : setOk n L = true) {x y : Int} (hx : InR L.length x) (hy : InR L.length y) (e : nth L x = nth L y) : x = y := by
  have hi : incr L = true := by simp only [setOk, Bool.and_eq_true] at h; exact h.2
  obtain ⟨x, lx, rfl⟩ := hx.nat
  obtain ⟨y, ly, rfl⟩ := hy.nat
  rcases Nat.lt_trichotomy x y with g | g | g
  · have := incr_lt hi g ly; omega
  · rw [g]
  · have := incr_lt hi g lx; omega
theorem nth_idx {L : List Int} {v : Int} (h : v ∈ L) : nth L (idx L v) = v := by
  obtain ⟨h0, h1⟩ := idx_mem h
  unfold idx at *
  rw [if_pos h] at *
  rw [nth_nat _ _ (by omega)]
  exact List.getElem_idxOf (by omega)
theorem sb_part {A B : List (List Int)} {L : List Int} (h : sbOk A B L = true) : Part L.length A.length (nth L) (val2 A) (val2 B) (val2 (sbT A L)) (val2 (sbT B L)) := by
  simp only [sbOk, Bool.and_eq_true] at h
  obtain ⟨⟨hp, h1⟩, h2⟩ := h
  unfold closL at h2
  rw [all2_iff] at h2
  have hmem : ∀ x y : Int, InR L.length x → InR L.length y → val2 A (nth L x) (nth L y) ∈ L ∧ val2 B (nth L x) (nth L y) ∈ L := by
    intro x y hx hy
    obtain ⟨x, lx, rfl⟩ := hx.nat
    obtain ⟨y, ly, rfl⟩ := hy.nat
    simpa [closF] using h2 x lx y ly
  have eA : ∀ x y : Int, InR L.length x → InR L.length y → val2 (sbT A L) x y = idx L (val2 A (nth L x) (nth L y)) ∧ val2 (sbT B L) x y = idx L (val2 B (nth L x) (nth L y)) := by
    intro x y hx hy
    unfold sbT
    rw [val2_tabOf' hx.1 hx.2 hy.1 hy.2, val2_tabOf' hx.1 hx.2 hy.1 hy.2]
    exact ⟨rfl, rfl⟩
  refine ⟨fun x hx => ?_, fun x y hx hy e => setOk_inj h1 hx hy e, fun x y hx hy => ?_, fun x y hx hy => ?_, fun x y hx hy => ?_⟩
  · obtain ⟨x, lx, rfl⟩ := hx.nat
    exact setOk_in h1 lx
  · obtain ⟨m1, m2⟩ := hmem x y hx hy
    rw [(eA x y hx hy).1, (eA x y hx hy).2]
    exact ⟨idx_mem m1, idx_mem m2⟩
  · rw [(eA x y hx hy).1, nth_idx (hmem x y hx hy).1]
  · rw [(eA x y hx hy).2, nth_idx (hmem x y hx hy).2]
theorem sb_isPM {A B : List (List Int)} {L : List Int} (h : sbOk A B L = true) : isPM (sbT A L) (sbT B L) = true := by
  have hP := sb_part h
  simp only [sbOk, Bool.and_eq_true] at h
  obtain ⟨⟨hp, h1⟩, h2⟩ := h
  have hl := isTab_len (isPM_parts hp).1
  obtain ⟨g1, g2⟩ := setOk_len h1
  have h1 : isTab (sbT A L) = true := isTab_tabOf (by omega) (by omega) fun x y hx hy => by
    have := (hP.rF x y (InR.of hx) (InR.of hy)).1
    unfold sbT at this
    rw [val2_tabOf' (by omega) (by omega) (by omega) (by omega)] at this; exact this
  have h2 : isTab (sbT B L) = true := isTab_tabOf (by omega) (by omega) fun x y hx hy => by
    have := (hP.rF x y (InR.of hx) (InR.of hy)).2
    unfold sbT at this
    rw [val2_tabOf' (by omega) (by omega) (by omega) (by omega)] at this; exact this
  simp only [isPM, h1, h2, Bool.true_and, decide_eq_true_eq]
  simp [sbT]
theorem sbT_len (A : List (List Int)) (L : List Int) : (sbT A L).length = L.length := by simp [sbT]
theorem sb_sol {A B : List (List Int)} {L : List Int} (h : sbOk A B L = true) (hs : isSol A B = true) : isSol (sbT A L) (sbT B L) = true := by
  have hP := sb_part h
  obtain ⟨hp, h1, h2⟩ := isSol_iff.1 hs
  rw [sol_iff (sb_isPM h), sbT_len]
  exact ⟨hP.inj' h1, hP.yb h2⟩
/-- The numbers from lo on. -/
def from' (lo k : Nat) : List Int := (List.range k).map fun i => ((lo + i : Nat) : Int)
@[simp] theorem from'_len (lo k : Nat) : (from' lo k).length = k := by simp [from']
theorem nth_from {lo k : Nat} {x : Int} (hx : InR k x) : nth (from' lo k) x = lo + x := by
  obtain ⟨x, lx, rfl⟩ := hx.nat
  rw [nth_nat _ _ (by simpa using lx)]
  simp [from']
theorem mem_from {lo k : Nat} {v : Int} : v ∈ from' lo k ↔ (lo : Int) ≤ v ∧ v < lo + k := by
  unfold from'
  rw [List.mem_map]
  constructor
  · rintro ⟨i, hi, rfl⟩
    simp only [List.mem_range] at hi
    push_cast; omega
  · intro h
    refine ⟨(v - lo).toNat, by simp only [List.mem_range]; omega, by push_cast; omega⟩
theorem incr_from (lo k : Nat) : incr (from' lo k) = true := by
  rw [incr_iff]
  intro i hi
  rw [from'_len] at hi
  have h1 := nth_from (lo := lo) (k := k) (x := (i : Int)) ⟨by omega, by omega⟩
  have h2 := nth_from (lo := lo) (k := k) (x := (i : Int) + 1) ⟨by omega, by omega⟩
  rw [h1, h2]; omega
theorem setOk_from {n lo k : Nat} (hk : 1 ≤ k) (h : lo + k ≤ n) : setOk n (from' lo k) = true := by
  simp only [setOk, incr_from, Bool.and_true, from'_len, Bool.and_eq_true, decide_eq_true_eq]
  refine ⟨by omega, ?_⟩
  rw [List.all_eq_true]
  intro v hv
  have := mem_from.1 hv
  simp [inR]; omega
theorem idx_from {lo k : Nat} {v : Int} (h : v ∈ from' lo k) : idx (from' lo k) v = v - lo := by
  have h0 := idx_mem h
  have h1 := nth_idx h
  rw [from'_len] at h0
  rw [nth_from ⟨h0.1, h0.2⟩] at h1
  omega
/-- Both parts of a union are found again. -/
theorem un_left {A B C D : List (List Int)} (hA : isPM A B = true) (hC : isPM C D = true) (hs : A.length + C.length ≤ 12) :
    sbOk (unTA A C) (unTB B D) (from' 0 A.length) = true ∧ sbT (unTA A C) (from' 0 A.length) = A ∧ sbT (unTB B D) (from' 0 A.length) = B := by
  obtain ⟨a1, a2, a3⟩ := isPM_parts hA
  have hU := un_un hA hC
  have hpm := un_isPM hA hC hs
  have hl := isTab_len a1
  have hok : sbOk (unTA A C) (unTB B D) (from' 0 A.length) = true := by
    simp only [sbOk, hpm, unTA_len, Bool.true_and, Bool.and_eq_true]
    refine ⟨setOk_from hl.1 (by omega), ?_⟩
    unfold closL
    rw [all2_iff]
    intro x hx y hy
    rw [from'_len] at hx hy
    have := hU.r1 x y (InR.of hx) (InR.of hy)
    obtain ⟨e1, e2⟩ := hU.ll x y (InR.of hx) (InR.of hy)
    simp only [closF, Bool.and_eq_true, decide_eq_true_eq]
    rw [nth_from (InR.of hx), nth_from (InR.of hy)]
    simp only [Int.natCast_zero, Int.zero_add, e1, e2]
    rw [mem_from, mem_from]
    unfold InR at this
    exact ⟨by omega, by omega⟩
  have hP := sb_part hok
  have hpm2 := sb_isPM hok
  obtain ⟨s1, s2, s3⟩ := isPM_parts hpm2
  refine ⟨hok, ?_, ?_⟩
  · refine tab_ext s1 a1 (by simp [sbT_len]) fun x y hx hy => ?_
    rw [sbT_len, from'_len] at hx hy
    have h1 := hP.vF x y (by rw [from'_len]; exact hx) (by rw [from'_len]; exact hy)
    have h2 := (hP.rF x y (by rw [from'_len]; exact hx) (by rw [from'_len]; exact hy)).1
    rw [from'_len] at h2
    rw [nth_from h2, nth_from hx, nth_from hy] at h1
    simp only [Int.natCast_zero, Int.zero_add] at h1
    rw [h1, (hU.ll x y hx hy).1]
  · refine tab_ext s2 a2 (by simp [sbT_len, a3]) fun x y hx hy => ?_
    rw [sbT_len, from'_len] at hx hy
    have h1 := hP.vG x y (by rw [from'_len]; exact hx) (by rw [from'_len]; exact hy)
    have h2 := (hP.rF x y (by rw [from'_len]; exact hx) (by rw [from'_len]; exact hy)).2
    rw [from'_len] at h2
    rw [nth_from h2, nth_from hx, nth_from hy] at h1
    simp only [Int.natCast_zero, Int.zero_add] at h1
    rw [h1, (hU.ll x y hx hy).2]
theorem un_right {A B C D : List (List Int)} (hA : isPM A B = true) (hC : isPM C D = true) (hs : A.length + C.length ≤ 12) :
    sbOk (unTA A C) (unTB B D) (from' A.length C.length) = true ∧ sbT (unTA A C) (from' A.length C.length) = C ∧ sbT (unTB B D) (from' A.length C.length) = D := by
  obtain ⟨a1, a2, a3⟩ := isPM_parts hA
  obtain ⟨c1, c2, c3⟩ := isPM_parts hC
  have hU := un_un hA hC
  have hpm := un_isPM hA hC hs
  have hl := isTab_len c1
  have hok : sbOk (unTA A C) (unTB B D) (from' A.length C.length) = true := by
    simp only [sbOk, hpm, unTA_len, Bool.true_and, Bool.and_eq_true]
    refine ⟨setOk_from hl.1 (by omega), ?_⟩
    unfold closL
    rw [all2_iff]
    intro x hx y hy
    rw [from'_len] at hx hy
    have := hU.r2 x y (InR.of hx) (InR.of hy)
    obtain ⟨e1, e2⟩ := hU.rr x y (InR.of hx) (InR.of hy)
    simp only [closF, Bool.and_eq_true, decide_eq_true_eq]
    rw [nth_from (InR.of hx), nth_from (InR.of hy), e1, e2]
    rw [mem_from, mem_from]
    unfold InR at this
    exact ⟨by omega, by omega⟩
  have hP := sb_part hok
  have hpm2 := sb_isPM hok
  obtain ⟨s1, s2, s3⟩ := isPM_parts hpm2
  refine ⟨hok, ?_, ?_⟩
  · refine tab_ext s1 c1 (by simp [sbT_len]) fun x y hx hy => ?_
    rw [sbT_len, from'_len] at hx hy
    have h1 := hP.vF x y (by rw [from'_len]; exact hx) (by rw [from'_len]; exact hy)
    have h2 := (hP.rF x y (by rw [from'_len]; exact hx) (by rw [from'_len]; exact hy)).1
    rw [from'_len] at h2
    rw [nth_from h2, nth_from hx, nth_from hy, (hU.rr x y hx hy).1] at h1
    omega
  · refine tab_ext s2 c2 (by simp [sbT_len, c3]) fun x y hx hy => ?_
    rw [sbT_len, from'_len] at hx hy
    have h1 := hP.vG x y (by rw [from'_len]; exact hx) (by rw [from'_len]; exact hy)
    have h2 := (hP.rF x y (by rw [from'_len]; exact hx) (by rw [from'_len]; exact hy)).2
    rw [from'_len] at h2
    rw [nth_from h2, nth_from hx, nth_from hy, (hU.rr x y hx hy).2] at h1
    omega
end Go.Proofs.Ytkghonhghbcdlaa

namespace Go.Proofs.Ytkghonhghbcdlaa
set_option linter.unusedVariables false
set_option linter.unusedSimpArgs false
open Go Go.RowKit

theorem Own.keep1 {B : Nat} {w : World} {v : Value} {xs : List Int} (h : Own B w v xs) {p : Addr} (z : Value) (hp : v.ownBlock ≠ some p.block) : Own B (w.setCell p z) v xs := by
  obtain ⟨hl, hn | ⟨g, cap, cur, hv, hb, hg, r⟩⟩ := h
  · exact ⟨hl, .inl hn⟩
  · refine ⟨hl, .inr ⟨g, cap, cur, hv, hb, ?_, r⟩⟩
    rw [Below.heap_setCell _ _ _ _ (by intro e; apply hp; rw [hv, ← e]; rfl)]; exact hg
theorem drew_set {b : Nat} {w w' : World} (h : Drew b w w') {p : Addr} (hp : w.heap.size ≤ p.block) (hb : b < p.block) (z : Value) : Drew b w (w'.setCell p z) :=
  ⟨h.1.keep (S := fun x => x = p.block) ((Keep.refl (fun x => x = p.block) w').setCell (p := p) (.inl rfl) z) (fun q hq e => by omega), h.2.setCell (p := p) (.inr hp) z⟩
theorem drew_app {b B : Nat} {w w1 w2 : World} {v : Value} {xss : List (List Int)} (h : Drew b w w1) (ho : OwnRows B w1 v xss) (k : Keep (fun x => v.ownBlock = some x) w1 w2) (hb : b < w.heap.size) (hB : w.heap.size ≤ B := by exact Nat.le_refl _) : Drew b w w2 :=
  ⟨h.1.keep k (fun p hp e => by have := (OwnRows.lt ho e).1; omega), h.2.chain k (fun x hx e => by have := (OwnRows.lt ho e).1; omega)⟩

set_option maxRecDepth 100000 in
set_option maxHeartbeats 4000000 in
theorem c_l01Tables (b n : Nat) (w : World) (hs : Src w b) (h1 : 1 ≤ n) (h2 : n ≤ 1000) :
    Calls Try.prog 80 #[.pointer (some ⟨b, 0, none⟩), .int .i64 n] w (fun e w' => ∃ (r : Value) (X : List (List Int)), e = .returned r ∧ X.length = n ∧ (∀ row ∈ X, row.length = n) ∧ OwnRows w.heap.size w' r X ∧ Drew b w w') := by
  have hbl := hs.lt
  have hbel : Below w.heap.size w (w.alloc (.cells #[] 27)) := (Below.refl _ _).alloc (Nat.le_refl _) _
  have HD0 := Lib.hid ((Drew.refl hs).under hbel)
  have HO0 := Lib.hid (OwnRows.made0 w (Nat.le_refl w.heap.size))
  clear hs hbel
  go_enter Try.func80, Try.ntmps80
  go_wp2_with fail
  refine (c_l01Next b 3 _ HD0.out.1 (by omega) (by omega)).mono ?_; rintro e w1 ⟨kd, rfl, k0, k3, hd1⟩
  have HD1 := Lib.hid (HD0.out.trans hd1)
  have HO1 := Lib.hid (HO0.out.keep hd1.2 (fun x h1 h2 e => by have e : x = b := e; omega))
  clear hd1
  go_wp2_with fail
  refine (c_l01Draw b n _ HD1.out.1 h1 h2).mono ?_; rintro e w2 ⟨rf, fs, rfl, hfl, hof, hd2⟩
  have HD2 := Lib.hid (HD1.out.trans hd2)
  have HO2 := Lib.hid (HO1.out.keep hd2.2 (fun x h1 h2 e => by have e : x = b := e; omega))
  rcases hof.open with ⟨_, h0⟩ | ⟨gf, cf, hv, hgf, hblk, hmx⟩
  · rw [h0] at hfl; simp at hfl; omega
  rw [hfl] at hv hmx
  subst hv
  have HF2 := Lib.hid (And.intro (hof.mono HD1.out.2.size) hfl)
  clear hof hd2 hblk hmx hgf
  go_wp2
  go_loopw [5, 8] (fun t x wr => ∃ (k : Nat) (X : List (List Int)) (ta : Option Addr) (tc : Nat), k ≤ n ∧ x = .int .i64 k ∧ t = .slice ta k tc ∧ Hid (X.length = k ∧ ∀ row ∈ X, row.length = n) ∧ Hid (OwnRows w.heap.size wr (.slice ta k tc) X) ∧ Hid (Own w.heap.size wr (.slice (some ⟨gf, 0, none⟩) n (n + cf.length)) fs ∧ fs.length = n) ∧ Hid (Drew b w wr)) (fun _ x _ => n - (intOf x).toNat)
  case atStart => exact ⟨0, [], _, _, Nat.zero_le _, rfl, rfl, Lib.hid (by simp), HO2, HF2, HD2⟩
  case round =>
    clear HO2 HF2 HD2 HO1 HD1 HO0 HD0
    obtain ⟨k, X, ta, tc, hk, rfl, rfl, HX, HO, HF, HDr⟩ := hrel
    obtain ⟨wo, rfl⟩ : ∃ wo : World, wo = wr := ⟨_, rfl⟩
    have hwo : w.heap.size ≤ wo.heap.size := HDr.out.2.size
    by_cases hlt : k < n
    · go_wp2_with fail
      refine (c_l01Draw b n _ HDr.out.1 h1 h2).mono ?_; rintro e w3 ⟨rr, ys0, rfl, hyl, hor, hd3⟩
      rcases hor.open with ⟨_, h0⟩ | ⟨g, cs, hv, hgo, hblk, hmx⟩
      · rw [h0] at hyl; simp at hyl; omega
      rw [hyl] at hv hmx
      subst hv
      have HMX := Lib.hid hmx
      have HD2 := Lib.hid (HDr.out.trans hd3); have HB2 := Lib.hid hblk; have HY0 := Lib.hid hyl
      have HR2 := Lib.hid (HO.out.inn.keep hd3.2 (fun x h1 h2 e => by have e : x = b := e; omega))
      have HF2 := Lib.hid (And.intro (hd3.own HF.out.1 hbl) (And.intro HF.out.2 (HF.out.1.lt (k := gf) rfl).2))
      clear hor hd3 hblk hmx hyl HO HF HDr
      by_cases hk0 : kd = 0
      · subst hk0
        go_wp2
        go_loopw [10] (fun y wi => ∃ (j : Nat) (ys : List Int), j ≤ n ∧ y = .int .i64 j ∧ Hid (ys.length = n) ∧ Hid (Blk wi g 2 (ys.map (Value.int .i64) ++ cs)) ∧ Hid (OwnRowsIn w.heap.size wo.heap.size wi (.slice ta k tc) X) ∧ Hid (Own w.heap.size wi (.slice (some ⟨gf, 0, none⟩) n (n + cf.length)) fs ∧ fs.length = n ∧ gf < wo.heap.size) ∧ Hid (Drew b w wi)) (fun y _ => n - (intOf y).toNat)
        case atStart => exact ⟨0, ys0, Nat.zero_le _, rfl, HY0, HB2, HR2, HF2, HD2⟩
        case round =>
          clear HY0 HB2 HR2 HF2 HD2
          obtain ⟨j, ys, hj, rfl, HY, HBk, HR, HFs, HD⟩ := hrel
          obtain ⟨wi, rfl⟩ : ∃ wi : World, wi = wr := ⟨_, rfl⟩
          by_cases hlj : j < n
          · go_wp2_with fail
            refine (c_l01Next b n _ HD.out.1 (by omega) (by omega)).mono ?_; rintro e w4 ⟨z, rfl, z0, z1, hd⟩
            have hB4 := hd.blk HBk.out (by omega)
            have hl := HY.out
            have l1 := hB4.labN j (by omega)
            have f1 := hB4.frozen j
            have s1 := hB4.labSet (j : Int) (by omega) (by omega) z
            rw [Int.toNat_natCast] at s1
            have HS := Lib.hid s1
            have HRk := Lib.hid ((HR.out.keep hd.2 (fun x h1 h2 e => by have e : x = b := e; omega)).keep ((Keep.refl (fun x => x = g) w4).setCell (p := ⟨g, j, none⟩) (.inl rfl) (.int .i64 z)) (fun x h1 h2 e => by have e : x = g := e; have := hgo; omega))
            have HFk := Lib.hid (And.intro ((hd.own HFs.out.1 hbl).keep1 (p := ⟨g, j, none⟩) (.int .i64 z) (fun e => by simp [Value.ownBlock] at e; have := HFs.out.2.2; have := hgo; omega)) HFs.out.2)
            have HDk := Lib.hid (drew_set (HD.out.trans hd) (p := ⟨g, j, none⟩) (by show w.heap.size ≤ g; have := hgo; have := hwo; omega) (by show b < g; have := hgo; have := hwo; omega) (.int .i64 z))
            clear hB4 hl s1 hd
            go_wp2
            go_roundw
            case rel => exact ⟨j + 1, _, by omega, by go_num, Lib.hid (by simpa using HY.out), HS, HRk, HFk, HDk⟩
            case measure => simp [intOf]; omega
          · have HRI := Lib.hid HR.out
            have HFi := Lib.hid HFs.out
            have HDi := Lib.hid HD.out
            have HYs := Lib.hid HY.out
            have HOr := Lib.hid (Own.shut HBk.out (Nat.le_refl _) (by rw [HYs.out]; exact HMX.out) HYs.out.symm (by rw [HYs.out]) : Own g wi (.slice (some ⟨g, 0, none⟩) n (n + cs.length)) ys)
            have HSz : Hid (wo.heap.size ≤ wi.heap.size ∧ w.heap.size ≤ wi.heap.size) := Lib.hid ⟨by have := HOr.out.lt (k := g) rfl; have := hgo; omega, by have := HDi.out.2.size; omega⟩
            go_wp2_with (at_builtin; refine wpList_app_row2 w.heap.size wo.heap.size wi _ X _ ys _ _ rfl rfl rfl HRI.out (HOr.out.mono (by have := hgo; omega)) rfl (by have := HX.out.1; omega) (by have := hwo; omega) HSz.out.2 ?_; intro ga gc w9 hown hkeep hor; have HOwn := Lib.hid hown; have HKp := Lib.hid hkeep; clear hown hkeep hor)
            go_roundw
            case rel =>
              have hX := HX.out
              refine ⟨k + 1, X ++ [ys], some ⟨ga, 0, none⟩, gc, by omega, by go_num, by rw [hX.1], Lib.hid ⟨by simp [hX.1], fun r hr => ?_⟩, Lib.hid (by have h := HOwn.out; rw [hX.1] at h; exact h), Lib.hid ⟨HFi.out.1.keepR HRI.out.out HKp.out, HFi.out.2.1⟩, Lib.hid (drew_app HDi.out HRI.out.out HKp.out hbl)⟩
              rcases List.mem_append.1 hr with h | h
              · exact hX.2 r h
              · simp at h; subst h; exact HYs.out
            case measure => simp [intOf]; omega
      · by_cases hk1 : kd = 1
        · subst hk1
          go_wp2
          go_loopw [11] (fun y wi => ∃ (j : Nat) (ys : List Int), j ≤ n ∧ y = .int .i64 j ∧ Hid (ys.length = n) ∧ Hid (Blk wi g 2 (ys.map (Value.int .i64) ++ cs)) ∧ Hid (OwnRowsIn w.heap.size wo.heap.size wi (.slice ta k tc) X) ∧ Hid (Own w.heap.size wi (.slice (some ⟨gf, 0, none⟩) n (n + cf.length)) fs ∧ fs.length = n ∧ gf < wo.heap.size) ∧ Hid (Drew b w wi)) (fun y _ => n - (intOf y).toNat)
          case atStart => exact ⟨0, ys0, Nat.zero_le _, rfl, HY0, HB2, HR2, HF2, HD2⟩
          case round =>
            clear HY0 HB2 HR2 HF2 HD2
            obtain ⟨j, ys, hj, rfl, HY, HBk, HR, HFs, HD⟩ := hrel
            obtain ⟨wi, rfl⟩ : ∃ wi : World, wi = wr := ⟨_, rfl⟩
            by_cases hlj : j < n
            · have hmod0 := Int.emod_nonneg ((k : Int) + (j : Int)) (show (n : Int) ≠ 0 by omega)
              have hmod1 := Int.emod_lt_of_pos ((k : Int) + (j : Int)) (show (0 : Int) < n by omega)
              obtain ⟨u, hu⟩ : ∃ u : Nat, ((k : Int) + (j : Int)) % (n : Int) = u := ⟨(((k : Int) + (j : Int)) % (n : Int)).toNat, by omega⟩
              have hun : u < n := by omega
              obtain ⟨_, _, e1, hcf⟩ := HFs.out.1.ints.get u (by rw [HFs.out.2.1]; exact hun)
              injection e1 with e1; injection e1 with e1 e2; subst e1 e2
              rw [Nat.zero_add] at hcf
              have hl := HY.out
              have l1 := HBk.out.labN j (by omega)
              have f1 := HBk.out.frozen j
              obtain ⟨z, hz⟩ : ∃ z, nth fs u = z := ⟨_, rfl⟩
              rw [hz] at hcf
              have s1 := HBk.out.labSet (j : Int) (by omega) (by omega) z
              rw [Int.toNat_natCast] at s1
              have HS := Lib.hid s1
              have HRk := Lib.hid (HR.out.keep ((Keep.refl (fun x => x = g) wi).setCell (p := ⟨g, j, none⟩) (.inl rfl) (.int .i64 z)) (fun x h1 h2 e => by have e : x = g := e; have := hgo; omega))
              have HFk := Lib.hid (And.intro (HFs.out.1.keep1 (p := ⟨g, j, none⟩) (.int .i64 z) (fun e => by simp [Value.ownBlock] at e; have := HFs.out.2.2; have := hgo; omega)) HFs.out.2)
              have HDk := Lib.hid (drew_set HD.out (p := ⟨g, j, none⟩) (by show w.heap.size ≤ g; have := hgo; have := hwo; omega) (by show b < g; have := hgo; have := hwo; omega) (.int .i64 z))
              clear hl s1 hz hmod0 hmod1
              go_wp2
              go_roundw
              case rel => exact ⟨j + 1, _, by omega, by go_num, Lib.hid (by simpa using HY.out), HS, HRk, HFk, HDk⟩
              case measure => simp [intOf]; omega
            · have HRI := Lib.hid HR.out
              have HFi := Lib.hid HFs.out
              have HDi := Lib.hid HD.out
              have HYs := Lib.hid HY.out
              have HOr := Lib.hid (Own.shut HBk.out (Nat.le_refl _) (by rw [HYs.out]; exact HMX.out) HYs.out.symm (by rw [HYs.out]) : Own g wi (.slice (some ⟨g, 0, none⟩) n (n + cs.length)) ys)
              have HSz : Hid (wo.heap.size ≤ wi.heap.size ∧ w.heap.size ≤ wi.heap.size) := Lib.hid ⟨by have := HOr.out.lt (k := g) rfl; have := hgo; omega, by have := HDi.out.2.size; omega⟩
              go_wp2_with (at_builtin; refine wpList_app_row2 w.heap.size wo.heap.size wi _ X _ ys _ _ rfl rfl rfl HRI.out (HOr.out.mono (by have := hgo; omega)) rfl (by have := HX.out.1; omega) (by have := hwo; omega) HSz.out.2 ?_; intro ga gc w9 hown hkeep hor; have HOwn := Lib.hid hown; have HKp := Lib.hid hkeep; clear hown hkeep hor)
              go_roundw
              case rel =>
                have hX := HX.out
                refine ⟨k + 1, X ++ [ys], some ⟨ga, 0, none⟩, gc, by omega, by go_num, by rw [hX.1], Lib.hid ⟨by simp [hX.1], fun r hr => ?_⟩, Lib.hid (by have h := HOwn.out; rw [hX.1] at h; exact h), Lib.hid ⟨HFi.out.1.keepR HRI.out.out HKp.out, HFi.out.2.1⟩, Lib.hid (drew_app HDi.out HRI.out.out HKp.out hbl)⟩
                rcases List.mem_append.1 hr with h | h
                · exact hX.2 r h
                · simp at h; subst h; exact HYs.out
              case measure => simp [intOf]; omega
        · have hz0 : (kd == 0) = false := by simp [hk0]
          have hz1 : (kd == 1) = false := by simp [hk1]
          have HRI := Lib.hid HR2.out
          have HFi := Lib.hid HF2.out
          have HDi := Lib.hid HD2.out
          have HYs := Lib.hid HY0.out
          have HOr := Lib.hid (Own.shut HB2.out (Nat.le_refl _) (by rw [HYs.out]; exact HMX.out) HYs.out.symm (by rw [HYs.out]) : Own g w3 (.slice (some ⟨g, 0, none⟩) n (n + cs.length)) ys0)
          have HSz : Hid (wo.heap.size ≤ w3.heap.size ∧ w.heap.size ≤ w3.heap.size) := Lib.hid ⟨by have := HOr.out.lt (k := g) rfl; have := hgo; omega, by have := HDi.out.2.size; omega⟩
          go_wp2_with (at_builtin; refine wpList_app_row2 w.heap.size wo.heap.size w3 _ X _ ys0 _ _ rfl rfl rfl HRI.out (HOr.out.mono (by have := hgo; omega)) rfl (by have := HX.out.1; omega) (by have := hwo; omega) HSz.out.2 ?_; intro ga gc w9 hown hkeep hor; have HOwn := Lib.hid hown; have HKp := Lib.hid hkeep; clear hown hkeep hor)
          go_roundw
          case rel =>
            have hX := HX.out
            refine ⟨k + 1, X ++ [ys0], some ⟨ga, 0, none⟩, gc, by omega, by go_num, by rw [hX.1], Lib.hid ⟨by simp [hX.1], fun r hr => ?_⟩, Lib.hid (by have h := HOwn.out; rw [hX.1] at h; exact h), Lib.hid ⟨HFi.out.1.keepR HRI.out.out HKp.out, HFi.out.2.1⟩, Lib.hid (drew_app HDi.out HRI.out.out HKp.out hbl)⟩
            rcases List.mem_append.1 hr with h | h
            · exact hX.2 r h
            · simp at h; subst h; exact HYs.out
          case measure => simp [intOf]; omega
    · obtain rfl : n = k := by omega
      go_wp2
      go_ret
      exact ⟨_, X, rfl, HX.out.1, HX.out.2, HO.out, HDr.out⟩
end Go.Proofs.Ytkghonhghbcdlaa

namespace Go.Proofs.Ytkghonhghbcdlaa
set_option linter.unusedVariables false
set_option linter.unusedSimpArgs false
open Go Go.RowKit

/-- Integers that can be read, in a block from lo on. -/
def IntsAt (lo : Nat) (w : World) (v : Value) (xs : List Int) : Prop := Ints w v xs ∧ ∀ b o, (∃ n c, v = .slice (some ⟨b, o, none⟩) n c) → lo ≤ b
theorem Own.at' {lo : Nat} {w : World} {v : Value} {xs : List Int} (h : Own lo w v xs) : IntsAt lo w v xs := by
  refine ⟨h.ints, fun b o hv => ?_⟩
  obtain ⟨n, c, rfl⟩ := hv
  obtain ⟨hl, hn | ⟨g, cap, cur, hv, hb, hg, r⟩⟩ := h
  · cases hn.1
  · injection hv with e1; injection e1 with e1; injection e1 with e1; subst e1; exact hb
theorem IntsAt.keep {lo : Nat} {S : Nat → Prop} {w w' : World} {v : Value} {xs : List Int} (h : IntsAt lo w v xs) (k : Keep S w w') (hS : ∀ b, lo ≤ b → ¬ S b) : IntsAt lo w' v xs := by
  obtain ⟨⟨a, c, hv, h1, h2, hc⟩, hb⟩ := h
  refine ⟨⟨a, c, hv, h1, h2, fun i hi => ?_⟩, hb⟩
  obtain ⟨b, o, ha, hcell⟩ := hc i hi
  exact ⟨b, o, ha, cell_of_block (k.block b (cell_lt hcell) (hS b (hb b o ⟨_, _, by rw [hv, ha]⟩))) hcell⟩
/-- A table that can be read, all of it in blocks from lo on. -/
def RowsAt (lo : Nat) (w : World) (v : Value) (X : List (List Int)) : Prop :=
  ∃ (a : Option Addr) (c : Nat), v = .slice a X.length c ∧ X.length ≤ c ∧ c ≤ maxLen ∧ ∀ i (h : i < X.length), ∃ b o u, a = some ⟨b, o, none⟩ ∧ lo ≤ b ∧ w.cell? ⟨b, o + i, none⟩ = some u ∧ IntsAt lo w u X[i]
theorem RowsAt.rows {lo : Nat} {w : World} {v : Value} {X : List (List Int)} (h : RowsAt lo w v X) : Rows w v X := by
  obtain ⟨a, c, hv, h1, h2, hc⟩ := h
  exact ⟨a, c, hv, h1, h2, fun i hi => by obtain ⟨b, o, u, ha, _, hcell, hu⟩ := hc i hi; exact ⟨b, o, u, ha, hcell, hu.1⟩⟩
theorem RowsAt.keep {lo : Nat} {S : Nat → Prop} {w w' : World} {v : Value} {X : List (List Int)} (h : RowsAt lo w v X) (k : Keep S w w') (hS : ∀ b, lo ≤ b → ¬ S b) : RowsAt lo w' v X := by
  obtain ⟨a, c, hv, h1, h2, hc⟩ := h
  refine ⟨a, c, hv, h1, h2, fun i hi => ?_⟩
  obtain ⟨b, o, u, ha, hlo, hcell, hu⟩ := hc i hi
  exact ⟨b, o, u, ha, hlo, cell_of_block (k.block b (cell_lt hcell) (hS b hlo)) hcell, hu.keep k hS⟩
theorem OwnRows.at' {lo : Nat} {w : World} {v : Value} {X : List (List Int)} (h : OwnRows lo w v X) : RowsAt lo w v X := by
  obtain ⟨us, h1, h2⟩ := h
  have hlt := fun k (hk : v.ownBlock = some k) => World.ownsRow.lt h1 k hk
  obtain ⟨a, c, hv, hc, hm, hcell⟩ := ownsRow_cells h1
  rw [h2.len] at hv hc
  refine ⟨a, c, hv, hc, hm, fun i hi => ?_⟩
  have hi' : i < us.length := by rw [h2.len]; exact hi
  obtain ⟨g, ha, hg⟩ := hcell i hi'
  exact ⟨g, 0, us[i], ha, (hlt g (by rw [hv, ha]; rfl)).1, by rwa [Nat.zero_add], (h2.own i hi' hi).at'⟩
theorem RowVals.others {B : Nat} {w w' : World} {us : List Value} {xss : List (List Int)} (h : RowVals B w us xss) {k : Nat} (hk : k < us.length) (hkeep : Keep (fun b => us[k].ownBlock = some b) w w') (i : Nat) (hi : i < us.length) (hi' : i < xss.length) (e : k ≠ i) : Own B w' us[i] xss[i] := by
  have h0 := h.own i hi hi'
  obtain ⟨hl, hn | ⟨g, cap, cur, hv, hb, hg, r⟩⟩ := h0
  · exact ⟨hl, .inl hn⟩
  · refine ⟨hl, .inr ⟨g, cap, cur, hv, hb, ?_, r⟩⟩
    rw [hkeep.block g (Array.getElem?_eq_some_iff.1 hg).1 ?_]; exact hg
    intro e2
    have h1 : (us[i]).ownBlock = some g := by rw [hv]; rfl
    rcases Nat.lt_or_gt_of_ne e with hlt | hlt
    · have := List.pairwise_iff_getElem.1 h.apart k i hk hi hlt
      rcases this with h3 | h3
      · rw [h3] at e2; cases e2
      · exact h3 (e2.trans h1.symm)
    · have := List.pairwise_iff_getElem.1 h.apart i k hi hk hlt
      rcases this with h3 | h3
      · rw [h3] at h1; cases h1
      · exact h3 (h1.trans e2.symm)
/-- The first row appended to, and stored anew. -/
theorem first_row {lo : Nat} {w : World} {sa : Option Addr} {n c : Nat} {X : List (List Int)} (h : OwnRows lo w (.slice sa n c) X) (hX : 0 < X.length) :
    ∃ (b : Nat) (u : Value), sa = some ⟨b, 0, none⟩ ∧ lo ≤ b ∧ w.cell? ⟨b, 0, none⟩ = some u ∧ w.frozen? ⟨b, 0, none⟩ = false ∧ Own lo w u (row X 0) ∧
      ∀ (w' : World) (u' : Value) (ys : List Int), Keep (fun k => u.ownBlock = some k) w w' → Own lo w' u' ys → w'.cell? ⟨b, 0, none⟩ = some u ∧ w'.frozen? ⟨b, 0, none⟩ = false ∧ RowsAt lo (w'.setCell ⟨b, 0, none⟩ u') (.slice sa n c) (X.set 0 ys) := by
  obtain ⟨us, h1, h2⟩ := h
  have hlt := fun k (hk : (Value.slice sa n c).ownBlock = some k) => World.ownsRow.lt h1 k hk
  have h1' := h1
  obtain ⟨hl, hn | ⟨g, cap, cur, hv, hb, hg, hr1, hr2, hr3, hr4⟩⟩ := h1'
  · have := h2.len; have := hn.2; omega
  injection hv with e1 e2 e3
  subst e1
  have hul : 0 < us.length := by rw [h2.len]; exact hX
  obtain ⟨a, c', hv', hc', hm', hcell⟩ := ownsRow_cells h1
  injection hv' with e1 e4 e5
  subst e1
  have hblk : Blk w g 27 cur.toList := by unfold Blk; simpa using hg
  obtain ⟨g', hg', hcc⟩ := hcell 0 hul
  injection hg' with hg'; injection hg' with hg'; subst hg'
  have hrow : row X 0 = X[0] := row_nat X 0 hX
  have hown := h2.own 0 hul hX
  refine ⟨g, us[0], rfl, hb, hcc, hblk.frozen 0, by rw [hrow]; exact hown, fun w' u' ys hk ho => ?_⟩
  have hne : ∀ i (hi : i < us.length), us[i].ownBlock ≠ some g := fun i hi => (h2.own i hi (by rw [← h2.len]; exact hi)).ne hblk (by decide)
  have hblk' := hblk.of_block (hk.block g hblk.lt (hne 0 hul))
  have hcw : ∀ i (hi : i < us.length), w'.cell? ⟨g, i, none⟩ = some us[i] := fun i hi => by
    obtain ⟨g', hg', hcc⟩ := hcell i hi
    injection hg' with hg'; injection hg' with hg'; subst hg'
    exact cell_of_block (hk.block g hblk.lt (hne 0 hul)) hcc
  have hks : Keep (fun x => x = g) w' (w'.setCell ⟨g, 0, none⟩ u') := (Keep.refl (fun x => x = g) w').setCell (p := ⟨g, 0, none⟩) (.inl rfl) u'
  have hu'g : u'.ownBlock ≠ some g := ho.ne hblk' (by decide)
  have hfar : ∀ {v : Value} {xs : List Int}, Own lo w' v xs → v.ownBlock ≠ some g → IntsAt lo (w'.setCell ⟨g, 0, none⟩ u') v xs := fun h1 h2 => (h1.keep1 (p := ⟨g, 0, none⟩) u' h2).at'
  refine ⟨hcw 0 hul, hblk'.frozen 0, some ⟨g, 0, none⟩, c, ?_, ?_, ?_, fun i hi => ?_⟩
  · rw [List.length_set, ← h2.len]; rw [e4]
  · rw [List.length_set, ← h2.len, e5]; exact hc'
  · rw [e5]; exact hm'
  · rw [List.length_set] at hi
    have hi' : i < us.length := by rw [h2.len]; exact hi
    by_cases e : i = 0
    · subst e
      refine ⟨g, 0, u', rfl, hb, (by first | exact World.cell?_setCell_same _ _ _ (hcw 0 hul) | exact World.cell?_setCell_same _ _ (hcw 0 hul)), ?_⟩
      simp only [List.getElem_set_self]
      exact hfar ho hu'g
    · refine ⟨g, 0, us[i], rfl, hb, ?_, ?_⟩
      · have hs := hblk'.set 0 u'
        have h3 : i < cur.toList.length := by
          have := hcell i hi'
          rw [← hr4] at hi'
          simp at hi' ⊢; omega
        have := hs.cell (i := i) (by simpa using h3)
        rw [Nat.zero_add, this, List.getElem_set_ne (by omega)]
        have h4 := hblk'.cell (i := i) h3
        rw [hcw i hi'] at h4
        exact h4.symm
      · rw [List.getElem_set_ne (by omega)]
        exact hfar (h2.others hul hk i hi' hi (by omega)) (hne i hi')

theorem drew_at {b lo : Nat} {w1 w2 : World} {v : Value} {X : List (List Int)} (h : Drew b w1 w2) (hr : RowsAt lo w1 v X) (hb : b < lo) : RowsAt lo w2 v X := hr.keep h.2 (fun x hx e => by have e : x = b := e; omega)
theorem drew_int {b B : Nat} {w w1 w2 : World} {v : Value} {xs : List Int} (h : Drew b w w1) (ho : Own B w1 v xs) (k : Keep (fun x => v.ownBlock = some x) w1 w2) (hb : b < w.heap.size) (hB : w.heap.size ≤ B) : Drew b w w2 :=
  ⟨h.1.keep k (fun p hp e => by have := (ho.lt e).1; omega), h.2.chain k (fun x hx e => by have := (ho.lt e).1; omega)⟩
theorem keep_mono {S T : Nat → Prop} {w w' : World} (k : Keep S w w') (h : ∀ x, S x → T x) : Keep T w w' := ⟨k.os, k.tape, k.output, k.size, fun x hx hn => k.block x hx (fun e => hn (h x e))⟩
set_option maxRecDepth 100000 in
set_option maxHeartbeats 4000000 in
theorem c_l01Bad (b n : Nat) (w : World) (hs : Src w b) (h1 : 1 ≤ n) (h2 : n ≤ 100) :
    Calls Try.prog 81 #[.pointer (some ⟨b, 0, none⟩), .int .i64 n] w (fun e w' => ∃ (r : Value) (X : List (List Int)), e = .returned r ∧ X.length ≤ 101 ∧ (∀ row ∈ X, row.length ≤ 101) ∧ RowsAt w.heap.size w' r X ∧ Drew b w w') := by
  have hbl := hs.lt
  have HS := Lib.hid hs
  clear hs
  go_enter Try.func81, Try.ntmps81
  go_wp2_with fail
  refine (c_l01Tables b n _ HS.out h1 (by omega)).mono ?_; rintro e w1 ⟨r, X, rfl, hXl, hXr, hor, hd1⟩
  obtain ⟨ra, rc, hr, -⟩ := OwnRows.shape' hor
  rw [hXl] at hr
  subst hr
  have HO := Lib.hid hor; have HD1 := Lib.hid hd1; have HX := Lib.hid (And.intro hXl hXr)
  clear hor hd1 hXl hXr
  go_wp2_with fail
  refine (c_l01Next b 30 _ HD1.out.1 (by omega) (by omega)).mono ?_; rintro e w2 ⟨kd, rfl, k0, k30, hd2⟩
  have HD2 := Lib.hid (HD1.out.trans hd2)
  have HO2 := Lib.hid (HO.out.keep hd2.2 (fun x h1 h2 e => by have e : x = b := e; omega))
  clear hd2
  by_cases e0 : kd = 0
  · subst e0
    go_wp2_with fail
    refine (c_l01Unit n _ (by omega)).mono ?_; rintro e w3 ⟨ru, rfl, hou, hb3⟩
    have HO3 := Lib.hid (HO2.out.under hb3).inn; have HU := Lib.hid hou; have HD3 := Lib.hid (HD2.out.under hb3)
    have HB := Lib.hid hb3.size; have HW := Lib.hid HD2.out.2.size
    obtain ⟨ua, uc, hu, -, -⟩ := hou.ints.shape
    rw [iota_length] at hu
    subst hu
    clear hou
    have HI2 := Lib.hid (HO2.out.inn.under hb3)
    clear hb3
    go_wp2_with (at_builtin; refine wpList_app_row2 w.heap.size w2.heap.size w3 _ X _ (iota n) _ _ rfl rfl rfl HI2.out HU.out rfl (by have := HX.out.1; omega) HW.out (Nat.le_trans HW.out HB.out) ?_; intro ga gc w9 hown hkeep hor; have HOwn := Lib.hid hown; have HKp := Lib.hid hkeep; clear hown hkeep hor)
    go_ret
    refine ⟨_, X ++ [iota n], rfl, by have := HX.out.1; simp; omega, fun r hr => ?_, HOwn.out.at', drew_app HD3.out HI2.out.out HKp.out hbl⟩
    rcases List.mem_append.1 hr with h | h
    · have := HX.out.2 r h; omega
    · simp at h; subst h; simp; omega
  by_cases e1 : kd = 1
  · subst e1
    obtain ⟨tb, u, hra, htb, hc0, hf0, hou, hfin⟩ := first_row HO2.out (by have := HX.out.1; omega)
    subst hra
    have HFin := Lib.hid hfin; have HOu := Lib.hid hou; have HW := Lib.hid HD2.out.2.size
    have hrl : (row X 0).length = n := HX.out.2 _ (row_mem (by omega) (by have := HX.out.1; omega))
    have HRl := Lib.hid hrl
    obtain ⟨ua, uc, hu, -, -⟩ := hou.ints.shape
    rw [hrl] at hu
    subst hu
    clear hfin hou hrl
    go_wp2_with (at_builtin; refine wpList_app_int2 w.heap.size w2 _ (row X 0) 0 _ _ w2.heap.size rfl rfl rfl rfl HOu.out rfl (by rw [HRl.out]; omega) HW.out ?_; intro ga gc w9 hown hkeep hor; rw [HRl.out] at hown; rw [HRl.out]; obtain ⟨q1, q2, q3⟩ := HFin.out w9 _ _ hkeep hown; have HQ3 := Lib.hid q3; have HKp := Lib.hid hkeep; clear hown hkeep hor q3)
    go_ret
    refine ⟨_, X.set 0 (row X 0 ++ [0]), rfl, by have := HX.out.1; simp; omega, fun r hr => ?_, HQ3.out, ?_⟩
    · rcases List.mem_or_eq_of_mem_set hr with h | h
      · have := HX.out.2 r h; omega
      · subst h; have := HRl.out; simp; omega
    · exact drew_set (drew_int HD2.out HOu.out HKp.out hbl (Nat.le_refl _)) (p := ⟨tb, 0, none⟩) htb (by show b < tb; omega) _
  have z0 : (kd == 0) = false := by simp [e0]
  have z1 : (kd == 1) = false := by simp [e1]
  by_cases e2 : kd = 2
  · subst e2
    have hXl := HX.out.1
    have hrl : (row X ((0 : Nat) : Int)).length = n := HX.out.2 _ (row_mem (by omega) (by omega))
    have HRl := Lib.hid hrl
    obtain ⟨tb, g, cr, zz, hra, t1, t2, t3, t4, t5, hc, -, -, -⟩ := HO2.out.inn.put (u := 0) (y := 0) (m := n) (by omega) hrl (by omega)
    subst hra
    have HK : Hid (∀ w' : World, Keep (fun k => k = b ∨ k = g) w2 w' → w'.cell? ⟨tb, 0, none⟩ = some (.slice (some ⟨g, 0, none⟩) n cr)) := Lib.hid (fun w' k => cell_of_block (k.block tb (cell_lt hc) (by omega)) hc)
    have hbel : Below w2.heap.size w2 (w2.alloc (.cells #[.int .i64 (-1), .int .i64 n, .int .i64 1099511627776] 2)).drew := ((Below.refl _ _).alloc (Nat.le_refl _) _).drew
    have HD3 := Lib.hid (HD2.out.under hbel)
    have HOw : Hid (Own w2.heap.size (w2.alloc (.cells #[.int .i64 (-1), .int .i64 n, .int .i64 1099511627776] 2)).drew (.slice (some ⟨w2.heap.size, 0, none⟩) 3 3) [-1, (n : Int), 1099511627776]) := Lib.hid
      ((Own.shut (cs := []) (by simpa using Blk.new w2 [.int .i64 (-1), .int .i64 n, .int .i64 1099511627776] 2) (Nat.le_refl _) (by simp [maxLen]) (by simp) (by simp) : Own w2.heap.size (w2.alloc (.cells #[.int .i64 (-1), .int .i64 n, .int .i64 1099511627776] 2)) (.slice (some ⟨w2.heap.size, 0, none⟩) 3 3) [-1, (n : Int), 1099511627776]).under (Below.refl _ _).drew)
    have hlt2 := HD2.out.1.lt
    have HSrc := Lib.hid HD3.out.1
    have hn0 : 0 < n := by omega
    have hn00 : (0 : Int) < (n : Int) := by omega
    have K0 : Keep (fun k => k = b ∨ k = g) w2 w2.drew := (Keep.refl _ w2).drew
    have K1 : Keep (fun k => k = b ∨ k = g) w2 (w2.alloc (.cells #[.int .i64 (-1), .int .i64 n, .int .i64 1099511627776] 2)).drew := ((Keep.refl _ w2).alloc _).drew
    have zc := HK.out _ K0
    have HO3 := Lib.hid (HO2.out.inn.under hbel)
    clear hbel hc
    go_wp2
    go_region_held3 (fun w' => w'.cell? ⟨tb, 0, none⟩ = some (.slice (some ⟨g, 0, none⟩) n cr))
      (first | exact HK.out _ K0 | exact HK.out _ K1 | exact HK.out _ K5 | exact HK.out _ K6 | exact HK.out _ (K5.setCell (.inl (.inr rfl)) _))
      ((go_at_call 74; (with_reducible refine (c_l01Pick b w2.heap.size _ [-1, (n : Int), 1099511627776] _ HSrc.out HOw.out hlt2 (by simp) (by simp)).mono ?_); rintro e w5 ⟨x, rfl, hx, hd5⟩; have K5 := K1.trans (keep_mono hd5.2 (T := fun k => k = b ∨ k = g) (fun x hx => .inl hx)); have c5 := HK.out _ K5; obtain ⟨tb5, g5, cr5, zz5, f1, f2, f3, f4, f5, f6, f7, f8, f9, f10⟩ := (HO3.out.keep hd5.2 (fun x h1 h2 e => by have e : x = b := e; omega)).put (u := 0) (y := 0) (m := n) (by omega) HRl.out (by omega); injection f1 with f1; injection f1 with f1; subst f1; rw [c5] at f7; injection f7 with f7; injection f7 with f7; injection f7 with f7; injection f7 with f7; subst f7; have HF10 := Lib.hid f10; have HD5 := Lib.hid (HD3.out.trans hd5); clear f10 hd5 hx))
    all_goals
      have HD6 := Lib.hid (drew_set HD5.out (p := ⟨g, 0, none⟩) (by show w.heap.size ≤ g; omega) (by show b < g; omega) (.int .i64 x))
      have HT := Lib.hid (HF10.out x).out.at'
      rename_i hHz
      clear hHz
      go_wp2
      go_ret
      refine ⟨_, X.set 0 ((row X ((0 : Nat) : Int)).set 0 x), rfl, by have := HX.out.1; simp; omega, fun r hr => ?_, HT.out, HD6.out⟩
      rcases List.mem_or_eq_of_mem_set hr with h | h
      · have := HX.out.2 r h; omega
      · subst h; have := HRl.out; rw [List.length_set]; omega
  have z2 : (kd == 2) = false := by simp [e2]
  by_cases e3 : kd = 3
  · subst e3
    have HN := Lib.hid (OwnRows.made0 w2 (Nat.le_refl w2.heap.size))
    have HD3 := Lib.hid (HD2.out.under ((Below.refl w2.heap.size w2).alloc (Nat.le_refl _) (.cells #[] 27)))
    go_wp2
    go_ret
    exact ⟨_, [], rfl, by simp, by simp, (HN.out.mono HD2.out.2.size).at', HD3.out⟩
  have z3 : (kd == 3) = false := by simp [e3]
  by_cases e4 : kd = 4
  · subst e4
    go_wp2_with fail
    refine (c_l01Tables b 13 _ HD2.out.1 (by omega) (by omega)).mono ?_; rintro e w3 ⟨r3, Y, rfl, hYl, hYr, hor, hd3⟩
    have HO3 := Lib.hid hor; have HD3 := Lib.hid (HD2.out.trans hd3); have HY := Lib.hid (And.intro hYl hYr)
    clear hor hd3 hYl hYr
    go_wp2
    go_ret
    exact ⟨_, Y, rfl, by have := HY.out.1; omega, fun r hr => by have := HY.out.2 r hr; omega, (HO3.out.mono HD2.out.2.size).at', HD3.out⟩
  have z4 : (kd == 4) = false := by simp [e4]
  go_wp2
  go_ret
  exact ⟨_, X, rfl, by have := HX.out.1; omega, fun r hr => by have := HX.out.2 r hr; omega, HO2.out.at', HD2.out⟩
end Go.Proofs.Ytkghonhghbcdlaa

namespace Go.Proofs.Ytkghonhghbcdlaa
set_option linter.unusedVariables false
set_option linter.unusedSimpArgs false
open Go.RowKit


set_option maxRecDepth 100000 in
set_option maxHeartbeats 800000 in
theorem c_l02Rename (v0 u0 v1 : Value) (A B : List (List Int)) (p : List Int) (w : World) (hA : Sol w v0 u0 A B) (hp : Ints w v1 p) (hok1 : RenOk A p) (hok2 : RenOk B p) :
    Calls Try.prog 116 #[.agg #[v0, u0], v1] w (RSol w (renL A p) (renL B p)) := by
  obtain ⟨a0, c0, rfl, _, _⟩ := hA.1.shape
  obtain ⟨a0s, c0s, rfl, _, _⟩ := hA.2.shape
  obtain ⟨a1, c1, rfl, _, _⟩ := hp.shape
  have HK1 := Lib.hid hok1; have HK2 := Lib.hid hok2; clear hok1 hok2
  go_enter Try.func116, Try.ntmps116
  go_wp2_with fail
  obtain ⟨f0, f1, hW0, hsz⟩ := boxes2 w [.slice a0 A.length c0, .slice a0s B.length c0s] [.slice none 0 0, .slice none 0 0] 26 26
  obtain ⟨W0, hW⟩ : ∃ W, ((w.alloc (.cells #[.slice a0 A.length c0, .slice a0s B.length c0s] 26)).alloc (.cells #[.slice none 0 0, .slice none 0 0] 26)) = W := ⟨_, rfl⟩
  rw [hW] at f0 f1 hW0 hsz ⊢
  clear hW hsz
  have HRA := Lib.hid ((hA.1.below hW0).below (Below.refl _ _).drew); have HRB := Lib.hid ((hA.2.below hW0).below (Below.refl _ _).drew); have HPp := Lib.hid ((hp.below hW0).below (Below.refl _ _).drew)
  have HFc := Lib.hid f0.drew; have HGc := Lib.hid f1.drew; have HBc := Lib.hid hW0.drew; have HLt := Lib.hid f1.lt
  clear hA hp hW0 f0 f1
  have zz : W0.drew.cell? ⟨w.heap.size, 0, none⟩ = some (.slice a0 A.length c0) ∧ W0.drew.cell? ⟨w.heap.size, 1, none⟩ = some (.slice a0s B.length c0s) := ⟨(two_cells HFc.out).1, (two_cells HFc.out).2.1⟩
  go_region_held3 (fun w' => w'.cell? ⟨w.heap.size, 0, none⟩ = some (.slice a0 A.length c0) ∧ w'.cell? ⟨w.heap.size, 1, none⟩ = some (.slice a0s B.length c0s))
    (first | go_keep | exact ⟨(two_cells HFc.out).1, (two_cells HFc.out).2.1⟩)
    ((first | (go_at_call 134; (with_reducible refine (c_l01Rename _ _ A p _ HRA.out HPp.out HK1.out).mono ?_); rintro e w1 ⟨r1, rfl, ho1, hb1⟩; obtain ⟨ra1, rc1, hv1, _⟩ := ho1.rows.shape; rw [renL_length] at hv1; subst hv1; replace HFc := Lib.hid (HFc.out.under hb1); replace HGc := Lib.hid (HGc.out.under hb1); replace HBc := Lib.hid (bb HBc.out hb1); replace HRB := Lib.hid (HRB.out.below hb1); replace HPp := Lib.hid (HPp.out.below hb1); have HO1 := Lib.hid ho1; have HS1 := Lib.hid hb1.size; clear ho1 hb1) | (go_at_call 134; (with_reducible refine (c_l01Rename _ _ B p _ HRB.out HPp.out HK2.out).mono ?_); rintro e w2 ⟨r2, rfl, ho2, hb2⟩; obtain ⟨ra2, rc2, hv2, _⟩ := ho2.rows.shape; rw [renL_length] at hv2; subst hv2; replace HFc := Lib.hid (HFc.out.under hb2); replace HGc := Lib.hid (HGc.out.under hb2); have HB2 := Lib.hid (bb HBc.out hb2); have HO2 := Lib.hid ho2; have HBx := Lib.hid hb2; obtain ⟨z0, z1, z2, z3⟩ := two_cells HGc.out; clear ho2 hb2)))
  obtain ⟨hA, hB⟩ := stored (q := w.heap.size + 1) HB2.out (OwnSol.mk HO1.out HBx.out HO2.out HS1.out) (by omega) HLt.out
  have HA := Lib.hid hA; have HB := Lib.hid hB
  clear hA hB
  go_wp2
  exact bodyPost_ret (v := .agg #[.slice ra1 A.length rc1, .slice ra2 B.length rc2]) (by simp [results, Try.results116, go_sem, z0, z1]) rfl ⟨.slice ra1 A.length rc1, .slice ra2 B.length rc2, rfl, HA.out, HB.out⟩
end Go.Proofs.Ytkghonhghbcdlaa

namespace Go.Proofs.Ytkghonhghbcdlaa
set_option linter.unusedVariables false
set_option linter.unusedSimpArgs false
open Go Go.RowKit

theorem cs_same {w : World} {a : Addr} {v u : Value} (h : w.cell? a = some u) : (w.setCell a v).cell? a = some v := by
  first | exact World.cell?_setCell_same _ _ _ h | exact World.cell?_setCell_same _ _ h | exact World.cell?_setCell_same _ h
theorem cs_other {w : World} {a b : Addr} {v : Value} (h : a ≠ b) : (w.setCell a v).cell? b = w.cell? b := by
  first | exact World.cell?_setCell_other _ _ _ _ h | exact World.cell?_setCell_other _ _ _ h | exact World.cell?_setCell_other _ _ h
theorem fz_set {w : World} {a b : Addr} {v : Value} : (w.setCell a v).frozen? b = w.frozen? b := by simp
theorem fz_block {w w' : World} {b i : Nat} (e : w'.heap[b]? = w.heap[b]?) : w'.frozen? ⟨b, i, none⟩ = w.frozen? ⟨b, i, none⟩ := World.frozen?_of_block (w := w) (a := ⟨b, i, none⟩) e
/-- Integers that can be read and written, in a block from lo on. -/
def IntsW (lo : Nat) (w : World) (v : Value) (xs : List Int) : Prop :=
  ∃ (a : Option Addr) (c : Nat), v = .slice a xs.length c ∧ xs.length ≤ c ∧ c ≤ maxLen ∧ ∀ i (h : i < xs.length), ∃ b, a = some ⟨b, 0, none⟩ ∧ lo ≤ b ∧ w.cell? ⟨b, i, none⟩ = some (.int .i64 xs[i]) ∧ w.frozen? ⟨b, i, none⟩ = false
/-- A table that can be read and written, in blocks from lo on. -/
def RowsW (lo : Nat) (w : World) (v : Value) (X : List (List Int)) : Prop :=
  ∃ (a : Option Addr) (c : Nat), v = .slice a X.length c ∧ X.length ≤ c ∧ c ≤ maxLen ∧ ∀ i (h : i < X.length), ∃ b u, a = some ⟨b, 0, none⟩ ∧ lo ≤ b ∧ w.cell? ⟨b, i, none⟩ = some u ∧ w.frozen? ⟨b, i, none⟩ = false ∧ IntsW lo w u X[i]

theorem IntsW.ints {lo : Nat} {w : World} {v : Value} {xs : List Int} (h : IntsW lo w v xs) : Ints w v xs := by
  obtain ⟨a, c, hv, h1, h2, hc⟩ := h
  refine ⟨a, c, hv, h1, h2, fun i hi => ?_⟩
  obtain ⟨b, ha, _, hcell, _⟩ := hc i hi
  exact ⟨b, 0, ha, by rw [Nat.zero_add]; exact hcell⟩
theorem RowsW.rows {lo : Nat} {w : World} {v : Value} {X : List (List Int)} (h : RowsW lo w v X) : Rows w v X := by
  obtain ⟨a, c, hv, h1, h2, hc⟩ := h
  refine ⟨a, c, hv, h1, h2, fun i hi => ?_⟩
  obtain ⟨b, u, ha, _, hcell, _, hu⟩ := hc i hi
  exact ⟨b, 0, u, ha, by rw [Nat.zero_add]; exact hcell, hu.ints⟩
theorem IntsW.at' {lo : Nat} {w : World} {v : Value} {xs : List Int} (h : IntsW lo w v xs) (hx : 0 < xs.length) : IntsAt lo w v xs := by
  refine ⟨h.ints, fun b o hv => ?_⟩
  obtain ⟨n, c, rfl⟩ := hv
  obtain ⟨a, c, hv, h1, h2, hc⟩ := h
  obtain ⟨b', ha, hlo, _⟩ := hc 0 hx
  subst ha
  injection hv with e1; injection e1 with e1; injection e1 with e1; subst e1; exact hlo
theorem IntsW.keep {lo : Nat} {S : Nat → Prop} {w w' : World} {v : Value} {xs : List Int} (h : IntsW lo w v xs) (k : Keep S w w') (hS : ∀ b, lo ≤ b → b < w.heap.size → ¬ S b) : IntsW lo w' v xs := by
  obtain ⟨a, c, hv, h1, h2, hc⟩ := h
  refine ⟨a, c, hv, h1, h2, fun i hi => ?_⟩
  obtain ⟨b, ha, hlo, hcell, hf⟩ := hc i hi
  have e := k.block b (cell_lt hcell) (hS b hlo (cell_lt hcell))
  exact ⟨b, ha, hlo, cell_of_block e hcell, (fz_block e).trans hf⟩
theorem RowsW.keepB {lo : Nat} {S : Nat → Prop} {w w' : World} {v : Value} {X : List (List Int)} (h : RowsW lo w v X) (k : Keep S w w') (hS : ∀ b, lo ≤ b → b < w.heap.size → ¬ S b) : RowsW lo w' v X := by
  obtain ⟨a, c, hv, h1, h2, hc⟩ := h
  refine ⟨a, c, hv, h1, h2, fun i hi => ?_⟩
  obtain ⟨b, u, ha, hlo, hcell, hf, hu⟩ := hc i hi
  have e := k.block b (cell_lt hcell) (hS b hlo (cell_lt hcell))
  exact ⟨b, u, ha, hlo, cell_of_block e hcell, (fz_block e).trans hf, hu.keep k hS⟩
theorem RowsW.keep {lo : Nat} {S : Nat → Prop} {w w' : World} {v : Value} {X : List (List Int)} (h : RowsW lo w v X) (k : Keep S w w') (hS : ∀ b, lo ≤ b → ¬ S b) : RowsW lo w' v X := h.keepB k fun b hb _ => hS b hb
theorem RowsW.under {lo : Nat} {w w' : World} {v : Value} {X : List (List Int)} (h : RowsW lo w v X) (hb : Below w.heap.size w w') : RowsW lo w' v X :=
  h.keepB (S := fun b => w.heap.size ≤ b) (Keep.of_below hb) fun b _ h1 h2 => by have h2 : w.heap.size ≤ b := h2; omega
theorem IntsW.under {lo : Nat} {w w' : World} {v : Value} {xs : List Int} (h : IntsW lo w v xs) (hb : Below w.heap.size w w') : IntsW lo w' v xs :=
  h.keep (S := fun b => w.heap.size ≤ b) (Keep.of_below hb) fun b _ h1 h2 => by have h2 : w.heap.size ≤ b := h2; omega
theorem IntsW.mono {lo lo' : Nat} {w : World} {v : Value} {xs : List Int} (h : IntsW lo w v xs) (hl : lo' ≤ lo) : IntsW lo' w v xs := by
  obtain ⟨a, c, hv, h1, h2, hc⟩ := h
  exact ⟨a, c, hv, h1, h2, fun i hi => by obtain ⟨b, ha, hlo, r⟩ := hc i hi; exact ⟨b, ha, Nat.le_trans hl hlo, r⟩⟩
theorem RowsW.mono {lo lo' : Nat} {w : World} {v : Value} {X : List (List Int)} (h : RowsW lo w v X) (hl : lo' ≤ lo) : RowsW lo' w v X := by
  obtain ⟨a, c, hv, h1, h2, hc⟩ := h
  exact ⟨a, c, hv, h1, h2, fun i hi => by obtain ⟨b, u, ha, hlo, hcell, hf, hu⟩ := hc i hi; exact ⟨b, u, ha, Nat.le_trans hl hlo, hcell, hf, hu.mono hl⟩⟩
theorem Own.wr {lo : Nat} {w : World} {v : Value} {xs : List Int} (h : Own lo w v xs) : IntsW lo w v xs := by
  rcases h.open with ⟨rfl, rfl⟩ | ⟨g, cs, hv, hb, hblk, hm⟩
  · exact ⟨none, 0, rfl, Nat.le_refl _, by decide, fun i hi => absurd hi (Nat.not_lt_zero _)⟩
  · refine ⟨_, _, hv, by omega, hm, fun i hi => ⟨g, rfl, hb, ?_, hblk.frozen i⟩⟩
    have := hblk.cell (i := i) (by simp; omega)
    rw [this, List.getElem_append_left (by simpa using hi), List.getElem_map]
theorem OwnRows.wr {lo : Nat} {w : World} {v : Value} {X : List (List Int)} (h : OwnRows lo w v X) : RowsW lo w v X := by
  obtain ⟨us, h1, h2⟩ := h
  obtain ⟨a, c, hv, hc, hm, hcell⟩ := ownsRow_cells h1
  have h1' := h1
  obtain ⟨hl, hn | ⟨g, cap, cur, hv', hb, hg, hr⟩⟩ := h1'
  · have : X = [] := List.eq_nil_of_length_eq_zero (by rw [← h2.len]; exact hn.2)
    subst this
    exact ⟨none, 0, hn.1, Nat.le_refl _, by decide, fun i hi => absurd hi (Nat.not_lt_zero _)⟩
  · have hblk : Blk w g 27 cur.toList := by unfold Blk; simpa using hg
    rw [h2.len] at hv hc
    refine ⟨a, c, hv, hc, hm, fun i hi => ?_⟩
    have hi' : i < us.length := by rw [h2.len]; exact hi
    obtain ⟨g', ha, hgc⟩ := hcell i hi'
    rw [hv'] at hv
    injection hv with e1
    rw [ha] at e1
    injection e1 with e1
    injection e1 with e1
    subst e1
    exact ⟨g, us[i], ha, hb, hgc, hblk.frozen i, (h2.own i hi' hi).wr⟩
theorem drew_w {b lo : Nat} {w1 w2 : World} {v : Value} {X : List (List Int)} (h : Drew b w1 w2) (hr : RowsW lo w1 v X) (hb : b < lo) : RowsW lo w2 v X := hr.keep h.2 (fun x hx e => by have e : x = b := e; omega)

/-- A cell that holds an integer, after a store of an integer. -/
theorem int_after {w : World} {p q : Addr} {z x : Int} (hq : w.cell? q = some (.int .i64 x)) : ∃ y, (w.setCell p (.int .i64 z)).cell? q = some (.int .i64 y) := by
  by_cases e : p = q
  · subst e; exact ⟨z, cs_same hq⟩
  · exact ⟨x, (cs_other e).trans hq⟩
theorem slice_after {w : World} {p q : Addr} {z : Int} {y0 : Int} {a : Option Addr} {n c : Nat} (hp : w.cell? p = some (.int .i64 y0)) (hq : w.cell? q = some (.slice a n c)) : (w.setCell p (.int .i64 z)).cell? q = some (.slice a n c) := by
  have e : p ≠ q := by intro e; subst e; rw [hp] at hq; cases hq
  exact (cs_other e).trans hq
theorem int_stays {w : World} {p q : Addr} {u : Value} {x : Int} {a : Option Addr} {n c : Nat} (hp : w.cell? p = some (.slice a n c)) (hq : w.cell? q = some (.int .i64 x)) : (w.setCell p u).cell? q = some (.int .i64 x) := by
  have e : p ≠ q := by intro e; subst e; rw [hp] at hq; cases hq
  exact (cs_other e).trans hq

/-- A store of an integer into a cell that holds one. -/
theorem IntsW.putI {lo : Nat} {w : World} {v : Value} {xs : List Int} (h : IntsW lo w v xs) {p : Addr} {y0 : Int} (_hp : w.cell? p = some (.int .i64 y0)) (z : Int) : ∃ ys, ys.length = xs.length ∧ IntsW lo (w.setCell p (.int .i64 z)) v ys := by
  obtain ⟨a, c, hv, h1, h2, hc⟩ := h
  have key : ∀ i : Fin xs.length, ∃ y : Int, ∃ b, a = some ⟨b, 0, none⟩ ∧ lo ≤ b ∧ (w.setCell p (.int .i64 z)).cell? ⟨b, i, none⟩ = some (.int .i64 y) ∧ (w.setCell p (.int .i64 z)).frozen? ⟨b, i, none⟩ = false := by
    intro i
    obtain ⟨b, ha, hlo, hcell, hf⟩ := hc i i.2
    obtain ⟨y, hy⟩ := int_after (p := p) (z := z) hcell
    exact ⟨y, b, ha, hlo, hy, fz_set.trans hf⟩
  refine ⟨List.ofFn fun i => Classical.choose (key i), by simp, a, c, by simp [hv], by simpa using h1, h2, fun i hi => ?_⟩
  have hi' : i < xs.length := by simpa using hi
  have := Classical.choose_spec (key ⟨i, hi'⟩)
  simpa using this
theorem IntsW.putS {lo : Nat} {w : World} {v : Value} {xs : List Int} (h : IntsW lo w v xs) {p : Addr} {a0 : Option Addr} {n0 c0 : Nat} (hp : w.cell? p = some (.slice a0 n0 c0)) (u : Value) : IntsW lo (w.setCell p u) v xs := by
  obtain ⟨a, c, hv, h1, h2, hc⟩ := h
  refine ⟨a, c, hv, h1, h2, fun i hi => ?_⟩
  obtain ⟨b, ha, hlo, hcell, hf⟩ := hc i hi
  exact ⟨b, ha, hlo, int_stays hp hcell, fz_set.trans hf⟩
theorem IntsW.isSlice {lo : Nat} {w : World} {v : Value} {xs : List Int} (h : IntsW lo w v xs) : ∃ a c, v = .slice a xs.length c := by
  obtain ⟨a, c, hv, _⟩ := h
  exact ⟨a, c, hv⟩
/-- All rows of a list are of length at most m. -/
def Wide (m : Nat) (X : List (List Int)) : Prop := ∀ r ∈ X, r.length ≤ m
theorem RowsW.of {lo n m : Nat} {w : World} {a : Option Addr} {c : Nat} (h1 : n ≤ c) (h2 : c ≤ maxLen) (key : ∀ i : Fin n, ∃ r : List Int, r.length ≤ m ∧ ∃ b u, a = some ⟨b, 0, none⟩ ∧ lo ≤ b ∧ w.cell? ⟨b, i, none⟩ = some u ∧ w.frozen? ⟨b, i, none⟩ = false ∧ IntsW lo w u r) :
    ∃ X : List (List Int), X.length = n ∧ Wide m X ∧ RowsW lo w (.slice a n c) X := by
  refine ⟨List.ofFn fun i => Classical.choose (key i), by simp, fun r hr => ?_, a, c, by simp, by simpa using h1, h2, fun i hi => ?_⟩
  · rw [List.mem_ofFn] at hr
    obtain ⟨i, rfl⟩ := hr
    exact (Classical.choose_spec (key i)).1
  · have hi' : i < n := by simpa using hi
    have := (Classical.choose_spec (key ⟨i, hi'⟩)).2
    simpa using this
theorem RowsW.putI {lo m : Nat} {w : World} {a : Option Addr} {n c : Nat} {X : List (List Int)} (h : RowsW lo w (.slice a n c) X) (hm : Wide m X) {p : Addr} {y0 : Int} (hp : w.cell? p = some (.int .i64 y0)) (z : Int) :
    ∃ Y, Y.length = X.length ∧ Wide m Y ∧ RowsW lo (w.setCell p (.int .i64 z)) (.slice a n c) Y := by
  obtain ⟨a', c', hv, h1, h2, hc⟩ := h
  injection hv with e1 e2 e3
  subst e1 e2 e3
  refine RowsW.of h1 h2 fun i => ?_
  obtain ⟨b, u, ha, hlo, hcell, hf, hu⟩ := hc i i.2
  obtain ⟨ua, uc, rfl⟩ := hu.isSlice
  obtain ⟨ys, hl, hy⟩ := hu.putI hp z
  exact ⟨ys, by rw [hl]; exact hm _ (List.getElem_mem _), b, _, ha, hlo, slice_after hp hcell, fz_set.trans hf, hy⟩
theorem RowsW.putS {lo m : Nat} {w : World} {a : Option Addr} {n c : Nat} {X : List (List Int)} (h : RowsW lo w (.slice a n c) X) (hm : Wide m X) {p : Addr} {a0 : Option Addr} {n0 c0 : Nat} (hp : w.cell? p = some (.slice a0 n0 c0)) {u' : Value} {ys : List Int} (hu' : IntsW lo w u' ys) (hy : ys.length ≤ m) :
    ∃ Y, Y.length = X.length ∧ Wide m Y ∧ RowsW lo (w.setCell p u') (.slice a n c) Y := by
  obtain ⟨a', c', hv, h1, h2, hc⟩ := h
  injection hv with e1 e2 e3
  subst e1 e2 e3
  refine RowsW.of h1 h2 fun i => ?_
  obtain ⟨b, u, ha, hlo, hcell, hf, hu⟩ := hc i i.2
  by_cases e : p = ⟨b, i, none⟩
  · subst e
    exact ⟨ys, hy, b, u', ha, hlo, cs_same hcell, fz_set.trans hf, hu'.putS hp u'⟩
  · exact ⟨_, hm _ (List.getElem_mem i.2), b, u, ha, hlo, (cs_other e).trans hcell, fz_set.trans hf, hu.putS hp u'⟩
/-- The cell of row k, written out. -/
theorem RowsW.at {lo : Nat} {w : World} {a : Option Addr} {n c : Nat} {X : List (List Int)} (h : RowsW lo w (.slice a n c) X) (k : Nat) (hk : k < X.length) :
    ∃ b a' c', a = some ⟨b, 0, none⟩ ∧ lo ≤ b ∧ w.cell? ⟨b, k, none⟩ = some (.slice a' (row X k).length c') ∧ w.frozen? ⟨b, k, none⟩ = false ∧ IntsW lo w (.slice a' (row X k).length c') (row X k) := by
  obtain ⟨a', c', hv, h1, h2, hc⟩ := h
  injection hv with e1 e2 e3
  subst e1 e2 e3
  obtain ⟨b, u, ha, hlo, hcell, hf, hu⟩ := hc k hk
  obtain ⟨ua, uc, rfl⟩ := hu.isSlice
  rw [row_nat X k hk]
  exact ⟨b, ua, uc, ha, hlo, hcell, hf, hu⟩
theorem IntsW.at0 {lo : Nat} {w : World} {a : Option Addr} {n c : Nat} {xs : List Int} (h : IntsW lo w (.slice a n c) xs) (k : Nat) (hk : k < xs.length) :
    ∃ b, a = some ⟨b, 0, none⟩ ∧ lo ≤ b ∧ w.cell? ⟨b, k, none⟩ = some (.int .i64 (nth xs k)) ∧ w.frozen? ⟨b, k, none⟩ = false := by
  obtain ⟨a', c', hv, h1, h2, hc⟩ := h
  injection hv with e1 e2 e3
  subst e1 e2 e3
  rw [nth_nat _ _ hk]
  exact hc k hk
end Go.Proofs.Ytkghonhghbcdlaa
