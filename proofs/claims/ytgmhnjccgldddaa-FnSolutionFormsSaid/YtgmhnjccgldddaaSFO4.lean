/-
  What the law FnSolutionForms is proved of.
-/
import Derived.Test.YtgmhnjccgldddaaSFO3
import Derived.Test.YtgmhnjccgldddaaSFO1
import Derived.Test.YtgmhnjccgldddaaI2b
import Derived.Test.YtgmhnjccgldddaaLawC
import Derived.Test.YtgmhnjccgldddaaSFO2
import Derived.Test.YtgmhnjccgldddaaLThenPermutation
import Derived.Test.YtgmhnjccgldddaaA1
import Derived.Deep.RegionLaw
import Derived.Test.YtgmhnjccgldddaaS2a
import Derived.Test.YtgmhnjccgldddaaI3c
import Derived.Test.YtgmhnjccgldddaaS1c
import Derived.Test.YtgmhnjccgldddaaI24
namespace Go.Proofs.Ytgmhnjccgldddaa
set_option linter.unusedVariables false
set_option linter.unusedSimpArgs false
open Go Go.RowKit Go.Shelf
attribute [local go_sem] Oper.semAt_some

/-- All isomorphisms of two pair maps, in lexicographic order. -/
noncomputable def isoL (A B C D : List (List Int)) : List (List Int) := if A.length = C.length then isoAll A.length [A, B] [C, D] else []
noncomputable def isoRes (A B C D : List (List Int)) : List Int := if isPM A B && isPM C D then (isoL A B C D).headD [] else []
noncomputable def isoCode (A B C D : List (List Int)) : Int := if isPM A B && isPM C D then (if (isoL A B C D).isEmpty then 4 else 0) else 1

theorem boxes4 (w : World) (c0 c1 c2 c3 : List Value) (t0 t1 t2 t3 : TypeId) :
    Blk ((((w.alloc (.cells c0.toArray t0)).alloc (.cells c1.toArray t1)).alloc (.cells c2.toArray t2)).alloc (.cells c3.toArray t3)) w.heap.size t0 c0 ∧
    Blk ((((w.alloc (.cells c0.toArray t0)).alloc (.cells c1.toArray t1)).alloc (.cells c2.toArray t2)).alloc (.cells c3.toArray t3)) (w.heap.size + 1) t1 c1 ∧
    Blk ((((w.alloc (.cells c0.toArray t0)).alloc (.cells c1.toArray t1)).alloc (.cells c2.toArray t2)).alloc (.cells c3.toArray t3)) (w.heap.size + 1 + 1) t2 c2 ∧
    Blk ((((w.alloc (.cells c0.toArray t0)).alloc (.cells c1.toArray t1)).alloc (.cells c2.toArray t2)).alloc (.cells c3.toArray t3)) (w.heap.size + 1 + 1 + 1) t3 c3 ∧
    Below w.heap.size w ((((w.alloc (.cells c0.toArray t0)).alloc (.cells c1.toArray t1)).alloc (.cells c2.toArray t2)).alloc (.cells c3.toArray t3)) ∧
    ((((w.alloc (.cells c0.toArray t0)).alloc (.cells c1.toArray t1)).alloc (.cells c2.toArray t2)).alloc (.cells c3.toArray t3)).heap.size = w.heap.size + 4 := by
  obtain ⟨h0, h1, h2, h3, h4⟩ := boxes3 w c0 c1 c2 t0 t1 t2
  have h5 := Blk.new (((w.alloc (.cells c0.toArray t0)).alloc (.cells c1.toArray t1)).alloc (.cells c2.toArray t2)) c3 t3
  rw [h4] at h5
  exact ⟨h0.alloc _, h1.alloc _, h2.alloc _, h5, h3.alloc (by rw [h4]; omega) _, by simp⟩

/-- Two tables in a row of two. -/
theorem Tb3.two {w : World} {x n b1 o1 c1 b2 o2 c2 : Nat} {A B : List (List Int)} {rb1 ro1 rc1 rb2 ro2 rc2 : Nat → Nat} (hx : Blk w x 22 [.slice (some ⟨b1, o1, none⟩) n c1, .slice (some ⟨b2, o2, none⟩) n c2]) (t1 : TabAt w b1 o1 n A rb1 ro1 rc1) (t2 : TabAt w b2 o2 n B rb2 ro2 rc2) :
    Tb3 w x 0 n 2 [A, B] (fun k => if k = 0 then b1 else b2) (fun k => if k = 0 then o1 else o2) (fun k => if k = 0 then c1 else c2) (fun k => if k = 0 then rb1 else rb2) (fun k => if k = 0 then ro1 else ro2) (fun k => if k = 0 then rc1 else rc2) := by
  obtain ⟨z0, z1, -, -⟩ := two_cells hx
  refine ⟨fun k hk => ?_, fun k hk => ?_⟩
  · match k, hk with
    | 0, _ => simpa using z0
    | 1, _ => simpa using z1
  · match k, hk with
    | 0, _ => simpa using t1
    | 1, _ => simpa using t2

set_option maxRecDepth 100000 in
set_option maxHeartbeats 4000000 in
theorem c_SolutionIsomorphism_neg (v0 u0 v1 u1 : Value) (A B C D : List (List Int)) (w : World) (hA : Sol w v0 u0 A B) (hC : Sol w v1 u1 C D) (hp : ¬ (isPM A B && isPM C D) = true) :
    Calls Try.prog 9 #[.agg #[v0, u0], .agg #[v1, u1]] w (RIntsC w (isoRes A B C D) (isoCode A B C D)) := by
  have HRes := Lib.hid (show isoRes A B C D = [] ∧ isoCode A B C D = 1 by simp only [isoRes, isoCode, if_neg hp]; exact ⟨trivial, trivial⟩)
  obtain ⟨a0, c0, rfl, _, _⟩ := hA.1.shape
  obtain ⟨a0s, c0s, rfl, _, _⟩ := hA.2.shape
  obtain ⟨a1, c1, rfl, _, _⟩ := hC.1.shape
  obtain ⟨a1s, c1s, rfl, _, _⟩ := hC.2.shape
  obtain ⟨f0, f1, f2, f3, hB0, hsz⟩ := boxes4 w [.slice a0 A.length c0, .slice a0s B.length c0s] [.slice a1 C.length c1, .slice a1s D.length c1s] [.slice none 0 0] [.int .i64 0] 29 29 26 2
  obtain ⟨z0, z1, -, -⟩ := two_cells f0
  obtain ⟨z2, z3, -, -⟩ := two_cells f1
  have z4 := one_cell f2; have z5 := one_cell f3; have z6 := f2.frozen 0; have z7 := f3.frozen 0
  have HA := Lib.hid ((⟨hA.1.below hB0, hA.2.below hB0⟩ : Sol _ _ _ A B)); have HC := Lib.hid ((⟨hC.1.below hB0, hC.2.below hB0⟩ : Sol _ _ _ C D))
  have F0 := Lib.hid f0; have F1 := Lib.hid f1; have F2 := Lib.hid f2; have F3 := Lib.hid f3; have HB0 := Lib.hid hB0; have HSz := Lib.hid hsz
  clear f0 f1 f2 f3 hB0 hsz hA hC
  go_enter Try.func9, Try.ntmps9
  by_cases h1 : isPM A B = true
  · have h2 : isPM C D = false := by simpa [h1] using hp
    go_wp2_with fail
    refine (c_IsPairMap _ _ A B _ HA.out).mono ?_; rintro e w1 ⟨rfl, hb1⟩
    rw [h1]
    obtain ⟨x2, x3, -, -⟩ := two_cells (F1.out.under hb1)
    have HC1 := Lib.hid ((⟨HC.out.1.below hb1, HC.out.2.below hb1⟩ : Sol _ _ _ C D))
    have HBw := Lib.hid hb1
    clear hb1 z0 z1 z2 z3 z4 z5 z6 z7
    go_wp2_with fail
    refine (c_IsPairMap _ _ C D _ HC1.out).mono ?_; rintro e w2 ⟨rfl, hb2⟩
    rw [h2]
    have hb1 := HBw.out.trans (hb2.mono HBw.out.size)
    have q4 := one_cell (F2.out.under hb1); have q5 := one_cell (F3.out.under hb1); have q6 := (F2.out.under hb1).frozen 0; have q7 := (F3.out.under hb1).frozen 0
    have HB1 := Lib.hid (HB0.out.trans (hb1.mono (by rw [HSz.out]; omega)))
    clear hb1 hb2 x2 x3
    go_wp2
    refine bodyPost_ret (v := .tuple #[.slice none 0 0, .int .i64 1]) (by simp [results, Try.results9, go_sem, q4, q5]) rfl ⟨.slice none 0 0, by rw [HRes.out.2], by rw [HRes.out.1]; exact Own.nil _ _, ?_⟩
    exact (HB1.out.setCell (p := ⟨w.heap.size + 1 + 1, 0, none⟩) (by show w.heap.size ≤ w.heap.size + 1 + 1; omega) _).setCell (p := ⟨w.heap.size + 1 + 1 + 1, 0, none⟩) (by show w.heap.size ≤ w.heap.size + 1 + 1 + 1; omega) _
  · have h1' : isPM A B = false := by simpa using h1
    go_wp2_with fail
    refine (c_IsPairMap _ _ A B _ HA.out).mono ?_; rintro e w1 ⟨rfl, hb1⟩
    rw [h1']
    have q4 := one_cell (F2.out.under hb1); have q5 := one_cell (F3.out.under hb1); have q6 := (F2.out.under hb1).frozen 0; have q7 := (F3.out.under hb1).frozen 0
    have HB1 := Lib.hid (HB0.out.trans (hb1.mono (by rw [HSz.out]; omega)))
    clear hb1 z0 z1 z2 z3 z4 z5 z6 z7
    go_wp2
    refine bodyPost_ret (v := .tuple #[.slice none 0 0, .int .i64 1]) (by simp [results, Try.results9, go_sem, q4, q5]) rfl ⟨.slice none 0 0, by rw [HRes.out.2], by rw [HRes.out.1]; exact Own.nil _ _, ?_⟩
    exact (HB1.out.setCell (p := ⟨w.heap.size + 1 + 1, 0, none⟩) (by show w.heap.size ≤ w.heap.size + 1 + 1; omega) _).setCell (p := ⟨w.heap.size + 1 + 1 + 1, 0, none⟩) (by show w.heap.size ≤ w.heap.size + 1 + 1 + 1; omega) _
end Go.Proofs.Ytgmhnjccgldddaa

namespace Go.Proofs.Ytgmhnjccgldddaa
set_option linter.unusedVariables false
set_option linter.unusedSimpArgs false

theorem tab_extK {S T : List (List Int)} (hS : isTab S = true) (hT : isTab T = true) (hl : S.length = T.length) (h : ∀ x y : Int, InN S.length x → InN S.length y → val2 S x y = val2 T x y) : S = T := by
  rw [← tabOf_val2 hS, ← tabOf_val2 hT, ← hl]
  exact tabOf_congr fun x y hx hy => h x y ⟨by omega, by omega⟩ ⟨by omega, by omega⟩
theorem lexS_irrefl (A B : List (List Int)) : lexS A B A B = false := by simp [lexS, lexR_irrefl]
theorem lexS_asymm {A B C D : List (List Int)} (h : lexS A B C D = true) : lexS C D A B = false := by
  unfold lexS at h ⊢
  by_cases e : A = C
  · subst e; simp only [if_true] at h ⊢; exact lexR_asymm h
  · rw [if_neg e] at h; rw [if_neg (fun h => e h.symm)]; exact lexR_asymm h
theorem lexS_trans {A B C D E F : List (List Int)} (h : lexS A B C D = true) (k : lexS C D E F = true) : lexS A B E F = true := by
  unfold lexS at h k ⊢
  by_cases e1 : A = C
  · subst e1
    simp only [if_true] at h
    by_cases e2 : A = E
    · subst e2; simp only [if_true] at k ⊢; exact lexR_trans h k
    · rw [if_neg e2] at k ⊢; exact k
  · rw [if_neg e1] at h
    by_cases e2 : C = E
    · subst e2; rw [if_neg e1]; exact h
    · rw [if_neg e2] at k
      have h3 := lexR_trans h k
      by_cases e3 : A = E
      · subst e3; rw [lexR_irrefl] at h3; cases h3
      · rw [if_neg e3]; exact h3
theorem lexS_total {A B C D : List (List Int)} (hne : ¬ (A = C ∧ B = D)) (h : lexS A B C D = false) : lexS C D A B = true := by
  unfold lexS at h ⊢
  by_cases e : A = C
  · subst e
    simp only [if_true] at h ⊢
    exact lexR_total (fun e2 => hne ⟨rfl, e2⟩) h
  · rw [if_neg e] at h; rw [if_neg (fun h => e h.symm)]
    exact lexR_total e h
theorem lexS_le_trans {A B C D E F : List (List Int)} (h1 : lexS C D A B = false) (h2 : lexS E F C D = false) : lexS E F A B = false := by
  cases e : lexS E F A B with
  | false => rfl
  | true =>
    by_cases hab : C = A ∧ D = B
    · rw [hab.1, hab.2] at h2; rw [h2] at e; cases e
    · have h3 := lexS_total hab h1
      rw [lexS_trans e h3] at h2; cases h2
theorem bestS_le (A B : List (List Int)) : ∀ (X : TabsP) (ps : List (List Int)), lexS X.1 X.2 (bestS A B X ps).1 (bestS A B X ps).2 = false ∧ ∀ p ∈ ps, lexS (renL A p) (renL B p) (bestS A B X ps).1 (bestS A B X ps).2 = false
  | X, [] => ⟨lexS_irrefl _ _, by simp⟩
  | X, p :: ps => by
    have e : bestS A B X (p :: ps) = bestS A B (stepS A B X p) ps := rfl
    rw [e]
    obtain ⟨h1, h2⟩ := bestS_le A B (stepS A B X p) ps
    have hX : lexS X.1 X.2 (stepS A B X p).1 (stepS A B X p).2 = false := by
      unfold stepS
      split
      · rename_i h; exact lexS_asymm h
      · exact lexS_irrefl _ _
    have hp : lexS (renL A p) (renL B p) (stepS A B X p).1 (stepS A B X p).2 = false := by
      unfold stepS
      split
      · exact lexS_irrefl _ _
      · rename_i h; simpa using h
    refine ⟨lexS_le_trans h1 hX, fun q hq => ?_⟩
    rcases List.mem_cons.1 hq with rfl | hq
    · exact lexS_le_trans h1 hp
    · exact h2 q hq
/-- The least form is a renamed one, and none is less. -/
theorem lsS_is {A B : List (List Int)} (hp : isPM A B = true) : (∃ q, Permuted q ∧ q.length = A.length ∧ lsSA A B = renL A q ∧ lsSB A B = renL B q) ∧ ∀ q, Permuted q → q.length = A.length → lexS (renL A q) (renL B q) (lsSA A B) (lsSB A B) = false := by
  obtain ⟨h1, h2, h3⟩ := isPM_parts hp
  refine ⟨?_, fun q hq hl => (bestS_le A B (A, B) (allPerms A.length)).2 q (mem_allPerms.2 ⟨hq, hl⟩)⟩
  unfold lsSA lsSB
  rcases bestS_mem A B (A, B) (allPerms A.length) with h | ⟨q, hq, h⟩
  · refine ⟨iota A.length, permuted_iota _, by simp, by rw [h, ren_one h1], by rw [h, h3, ren_one h2]⟩
  · obtain ⟨a, b⟩ := mem_allPerms.1 hq
    exact ⟨q, a, b, by rw [h], by rw [h]⟩

/-- An isomorphism is a renaming. -/
theorem iso_ren {n : Nat} {A C p : List (List Int)} {q : List Int} (hA : isTab A = true) (hC : isTab C = true) (hlA : A.length = n) (hlC : C.length = n) (hq : Permuted q) (hl : q.length = n) :
    (∀ x y : Int, InN n x → InN n y → nth q (val2 A x y) = val2 C (nth q x) (nth q y)) ↔ renL A q = C := by
  have hr : RenOk A q := ⟨hA, hq, by rw [hlA, hl]⟩
  have hqi := perm_inv hq
  have hin : ∀ x, InN n x → InN n (nth (invL q) x) := fun x hx => by
    have := perm_lt hqi (x := x) hx.1 (by rw [invL_length, hl]; exact hx.2)
    rw [invL_length, hl] at this; exact this
  have hiq : ∀ x, InN n x → InN n (nth q x) := fun x hx => by
    have := perm_lt hq (x := x) hx.1 (by rw [hl]; exact hx.2)
    rw [hl] at this; exact this
  have hback : ∀ x, InN n x → nth q (nth (invL q) x) = x := fun x hx => by
    have h1 := hin x hx
    have h2 := hiq _ h1
    have e1 := nth_invL hqi (x := x) (by exact hx.1) (by rw [invL_length, hl]; exact hx.2)
    have e2 := nth_invL hq (x := nth (invL q) x) h1.1 (by rw [hl]; exact h1.2)
    -- both x and q (q⁻¹ x) are led to q⁻¹ x by q⁻¹
    have h3 : nth (invL q) (nth q (nth (invL q) x)) = nth (invL q) x := e2
    exact hqi.inj (x := nth q (nth (invL q) x)) (y := x) h2.1 (by rw [invL_length, hl]; exact h2.2) hx.1 (by rw [invL_length, hl]; exact hx.2) h3
  constructor
  · intro h
    refine tab_extK (isTab_renL hr) hC (by rw [renL_length, hlA, hlC]) fun x y hx hy => ?_
    rw [renL_length, hlA] at hx hy
    rw [ren_val hx.1 (by rw [hlA]; exact hx.2) hy.1 (by rw [hlA]; exact hy.2)]
    rw [h _ _ (hin x hx) (hin y hy), hback x hx, hback y hy]
  · intro h x y hx hy
    have h1 := hiq x hx; have h2 := hiq y hy
    rw [← h, ren_val h1.1 (by rw [hlA]; exact h1.2) h2.1 (by rw [hlA]; exact h2.2), nth_invL hq hx.1 (by rw [hl]; exact hx.2), nth_invL hq hy.1 (by rw [hl]; exact hy.2)]
theorem isoF_ren {A B C D : List (List Int)} {q : List Int} (hp : isPM A B = true) (hp2 : isPM C D = true) (hn : A.length = C.length) : IsoF A.length [A, B] [C, D] q ↔ (Permuted q ∧ q.length = A.length) ∧ renL A q = C ∧ renL B q = D := by
  obtain ⟨h1, h2, h3⟩ := isPM_parts hp
  obtain ⟨g1, g2, g3⟩ := isPM_parts hp2
  constructor
  · rintro ⟨⟨a, b⟩, h⟩
    refine ⟨⟨a, b⟩, (iso_ren (p := []) h1 g1 rfl hn.symm a b).1 fun x y hx hy => ?_, (iso_ren (p := []) h2 g2 h3.symm (by rw [← g3, hn]) a b).1 fun x y hx hy => ?_⟩
    · simpa using h 0 (by simp) x y hx hy
    · simpa using h 1 (by simp) x y hx hy
  · rintro ⟨⟨a, b⟩, e1, e2⟩
    refine ⟨⟨a, b⟩, fun k hk x y hx hy => ?_⟩
    match k, hk with
    | 0, _ => simpa using (iso_ren (p := []) h1 g1 rfl hn.symm a b).2 e1 x y hx hy
    | 1, _ => simpa using (iso_ren (p := []) h2 g2 h3.symm (by rw [← g3, hn]) a b).2 e2 x y hx hy
theorem lsS_len {A B : List (List Int)} (hp : isPM A B = true) : (lsSA A B).length = A.length := by
  obtain ⟨⟨q, a, b, e1, e2⟩, -⟩ := lsS_is hp
  rw [e1, renL_length]
theorem then_inv {p q : List Int} (hp : Permuted p) (hl : q.length = p.length) : thenL p (thenL (invL p) q) = q := by
  apply ext_nth (by simp; omega)
  intro k hk
  simp at hk
  rw [nth_thenL _ _ _ (by omega) (by omega), nth_thenL _ _ _ (perm_lt hp (by omega) (by omega)).1 (by rw [invL_length]; exact (perm_lt hp (by omega) (by omega)).2), nth_invL hp (by omega) (by omega)]
/-- Renamed pair maps have one least form. -/
theorem lsS_ren {A B p : List (List Int)} {q : List Int} (hp : isPM A B = true) (hq : Permuted q) (hl : q.length = A.length) : lsSA (renL A q) (renL B q) = lsSA A B ∧ lsSB (renL A q) (renL B q) = lsSB A B := by
  obtain ⟨h1, h2, h3⟩ := isPM_parts hp
  have rA : RenOk A q := ⟨h1, hq, hl⟩
  have rB : RenOk B q := ⟨h2, hq, by omega⟩
  have hpr := ren_pm hp hq hl
  obtain ⟨⟨q1, a1, b1, c1, d1⟩, m1⟩ := lsS_is hp
  obtain ⟨⟨q2, a2, b2, c2, d2⟩, m2⟩ := lsS_is hpr
  rw [renL_length] at b2 m2
  have hip := perm_inv hq
  have f2 : lsSA (renL A q) (renL B q) = renL A (thenL q q2) ∧ lsSB (renL A q) (renL B q) = renL B (thenL q q2) := ⟨by rw [c2, ren_then rA a2 b2], by rw [d2, ren_then rB a2 (by omega)]⟩
  have f1 : lsSA A B = renL (renL A q) (thenL (invL q) q1) ∧ lsSB A B = renL (renL B q) (thenL (invL q) q1) := by
    have hback := then_inv (q := q1) hq (by omega)
    have hperm := then_perm hip a1 (by simp; omega)
    exact ⟨by rw [ren_then rA hperm (by simp; omega), hback, c1], by rw [ren_then rB hperm (by simp; omega), hback, d1]⟩
  have g1 := m1 (thenL q q2) (then_perm hq a2 (by omega)) (by simp; omega)
  have g2 := m2 (thenL (invL q) q1) (then_perm hip a1 (by simp; omega)) (by simp; omega)
  rw [← f2.1, ← f2.2] at g1
  rw [← f1.1, ← f1.2] at g2
  apply Classical.byContradiction
  intro hne
  rw [lexS_total hne g1] at g2
  cases g2
/-- Two pair maps have one least form exactly if there is an isomorphism. -/
theorem least_iff {A B C D : List (List Int)} (hp : isPM A B = true) (hp2 : isPM C D = true) : (lsSA A B = lsSA C D ∧ lsSB A B = lsSB C D) ↔ isoL A B C D ≠ [] := by
  obtain ⟨h1, h2, h3⟩ := isPM_parts hp
  obtain ⟨g1, g2, g3⟩ := isPM_parts hp2
  constructor
  · rintro ⟨e1, e2⟩
    have hn : A.length = C.length := by rw [← lsS_len hp, ← lsS_len hp2, e1]
    obtain ⟨⟨q1, a1, b1, c1, d1⟩, -⟩ := lsS_is hp
    obtain ⟨⟨q2, a2, b2, c2, d2⟩, -⟩ := lsS_is hp2
    have hip := perm_inv a2
    have hperm := then_perm a1 hip (by simp; omega)
    have hm : thenL q1 (invL q2) ∈ isoL A B C D := by
      unfold isoL
      rw [if_pos hn]
      refine mem_isoQ.2 ⟨(isoF_ren hp hp2 hn).2 ⟨⟨hperm, by simp; omega⟩, ?_, ?_⟩, trivial⟩
      · rw [← ren_then ⟨h1, a1, b1⟩ hip (by simp; omega), ← c1, e1, c2, ren_back ⟨g1, a2, b2⟩]
      · rw [← ren_then ⟨h2, a1, by omega⟩ hip (by simp; omega), ← d1, e2, d2, ren_back ⟨g2, a2, by omega⟩]
    intro h
    rw [h] at hm
    simp at hm
  · intro h
    obtain ⟨q, hq⟩ := List.exists_mem_of_ne_nil _ h
    unfold isoL at hq
    by_cases hn : A.length = C.length
    · rw [if_pos hn] at hq
      obtain ⟨⟨a, b⟩, e1, e2⟩ := (isoF_ren hp hp2 hn).1 (mem_isoQ.1 hq).1
      have := lsS_ren (p := []) hp a b
      rw [e1, e2] at this
      exact ⟨this.1.symm, this.2.symm⟩
    · rw [if_neg hn] at hq; simp at hq
/-- The automorphisms: each renames the pair map to itself, one after the other is one, and there is one. -/
theorem aut_mem {A B : List (List Int)} {q : List Int} (hp : isPM A B = true) : q ∈ isoAll A.length [A, B] [A, B] ↔ (Permuted q ∧ q.length = A.length) ∧ renL A q = A ∧ renL B q = B := by
  unfold isoAll
  rw [mem_isoQ, isoF_ren hp hp rfl]
  simp
theorem aut_one {A B : List (List Int)} (hp : isPM A B = true) : isoAll A.length [A, B] [A, B] ≠ [] := by
  obtain ⟨h1, h2, h3⟩ := isPM_parts hp
  have : iota A.length ∈ isoAll A.length [A, B] [A, B] := (aut_mem hp).2 ⟨⟨permuted_iota _, by simp⟩, ren_one h1, by rw [h3, ren_one h2]⟩
  intro h
  rw [h] at this
  simp at this
theorem aut_then {A B : List (List Int)} {p q : List Int} (hp : isPM A B = true) (h : p ∈ isoAll A.length [A, B] [A, B]) (k : q ∈ isoAll A.length [A, B] [A, B]) : thenL p q ∈ isoAll A.length [A, B] [A, B] := by
  obtain ⟨h1, h2, h3⟩ := isPM_parts hp
  obtain ⟨⟨a, b⟩, e1, e2⟩ := (aut_mem hp).1 h
  obtain ⟨⟨c, d⟩, f1, f2⟩ := (aut_mem hp).1 k
  refine (aut_mem hp).2 ⟨⟨then_perm a c (by omega), by simp; omega⟩, ?_, ?_⟩
  · rw [← ren_then ⟨h1, a, b⟩ c d, e1, f1]
  · rw [← ren_then ⟨h2, a, by omega⟩ c (by omega), e2, f2]
end Go.Proofs.Ytgmhnjccgldddaa

namespace Go.Proofs.Ytgmhnjccgldddaa
set_option linter.unusedVariables false
set_option linter.unusedSimpArgs false
open Go Go.RowKit Go.Shelf
attribute [local go_sem] Oper.semAt_some

/-- All automorphisms of a pair map. -/
noncomputable def autL (A B : List (List Int)) : List (List Int) := isoAll A.length [A, B] [A, B]
noncomputable def autRes (A B : List (List Int)) : List (List Int) := if isPM A B then (if (autL A B).length ≤ 1000 then autL A B else []) else []
noncomputable def autCode (A B : List (List Int)) : Int := if isPM A B then (if (autL A B).length ≤ 1000 then 0 else 3) else 1

set_option maxRecDepth 100000 in
set_option maxHeartbeats 4000000 in
theorem c_SolutionAutomorphisms_neg (v0 u0 : Value) (A B : List (List Int)) (w : World) (hA : Sol w v0 u0 A B) (hp : isPM A B = false) :
    Calls Try.prog 16 #[.agg #[v0, u0]] w (RRowsC w (autRes A B) (autCode A B)) := by
  have HRes := Lib.hid (show autRes A B = [] ∧ autCode A B = 1 by simp [autRes, autCode, hp])
  obtain ⟨a0, c0, rfl, _, _⟩ := hA.1.shape
  obtain ⟨a0s, c0s, rfl, _, _⟩ := hA.2.shape
  obtain ⟨f0, f1, f2, hB0, hsz⟩ := boxes3 w [.slice a0 A.length c0, .slice a0s B.length c0s] [.slice none 0 0] [.int .i64 0] 29 22 2
  obtain ⟨z0, z1, -, -⟩ := two_cells f0
  have HA := Lib.hid ((⟨hA.1.below hB0, hA.2.below hB0⟩ : Sol _ _ _ A B))
  have F1 := Lib.hid f1; have F2 := Lib.hid f2; have HB0 := Lib.hid hB0; have HSz := Lib.hid hsz; have HP := Lib.hid hp
  clear f0 f1 f2 hB0 hsz hA hp
  go_enter Try.func16, Try.ntmps16
  go_wp2_with fail
  refine (c_IsPairMap _ _ A B _ HA.out).mono ?_; rintro e w1 ⟨rfl, hb1⟩
  rw [HP.out]
  have q4 := one_cell (F1.out.under hb1); have q5 := one_cell (F2.out.under hb1); have q6 := (F1.out.under hb1).frozen 0; have q7 := (F2.out.under hb1).frozen 0
  have HB1 := Lib.hid (HB0.out.trans (hb1.mono (by rw [HSz.out]; omega)))
  clear hb1 z0 z1
  go_wp2
  refine bodyPost_ret (v := .tuple #[.slice none 0 0, .int .i64 1]) (by simp [results, Try.results16, go_sem, q4, q5]) rfl ⟨.slice none 0 0, by rw [HRes.out.2], by rw [HRes.out.1]; exact OwnRows.nil _ _, ?_⟩
  exact (HB1.out.setCell (p := ⟨w.heap.size + 1, 0, none⟩) (by show w.heap.size ≤ w.heap.size + 1; omega) _).setCell (p := ⟨w.heap.size + 1 + 1, 0, none⟩) (by show w.heap.size ≤ w.heap.size + 1 + 1; omega) _

set_option maxRecDepth 100000 in
set_option maxHeartbeats 8000000 in
theorem c_SolutionAutomorphisms (v0 u0 : Value) (A B : List (List Int)) (w : World) (hA : Sol w v0 u0 A B) :
    Calls Try.prog 16 #[.agg #[v0, u0]] w (RRowsC w (autRes A B) (autCode A B)) := by
  by_cases hp : isPM A B = true
  case neg => exact c_SolutionAutomorphisms_neg v0 u0 A B w hA (by simpa using hp)
  have HRes := Lib.hid (show autRes A B = (if (autL A B).length ≤ 1000 then autL A B else []) ∧ autCode A B = (if (autL A B).length ≤ 1000 then 0 else 3) by simp only [autRes, autCode, if_pos hp]; exact ⟨trivial, trivial⟩)
  obtain ⟨n, b0, o0, c0, rb0, ro0, rc0, b0s, o0s, c0s, rb0s, ro0s, rc0s, rfl, rfl, hl0, hl0s, hn0, hx0, hc0, hm0, hc0s, hm0s, t0, t0s⟩ := hA.tabs hp
  obtain ⟨f0, f1, f2, hB0, hsz⟩ := boxes3 w [.slice (some ⟨b0, o0, none⟩) n c0, .slice (some ⟨b0s, o0s, none⟩) n c0s] [.slice none 0 0] [.int .i64 0] 29 22 2
  obtain ⟨z0, z1, -, -⟩ := two_cells f0
  have HA := Lib.hid ((⟨hA.1.below hB0, hA.2.below hB0⟩ : Sol _ _ _ A B))
  have F0 := Lib.hid f0; have F1 := Lib.hid f1; have F2 := Lib.hid f2; have HB0 := Lib.hid hB0; have HSz := Lib.hid hsz
  have HT := Lib.hid (And.intro t0 t0s)
  have HLn := Lib.hid hl0
  have HP := Lib.hid hp
  have hL : autL A B = isoAll n [A, B] [A, B] := by unfold autL; rw [hl0]
  obtain ⟨L, hLL⟩ : ∃ L, autL A B = L := ⟨_, rfl⟩
  rw [hLL] at HRes hL
  have HL := Lib.hid hL
  clear f0 f1 f2 hB0 hsz hA t0 t0s hl0 hl0s hp hL hLL
  refine (callsIn_wide (n := 4)).1 ?_
  refine callsIn_of_wp_marks Try.func16 rfl trivial ?_ rfl
  simp only [Try.ntmps16, List.size_toArray, List.length_cons, List.length_nil, Nat.reduceAdd, Nat.reduceSub, Array.replicate_succ, Array.replicate_zero, List.push_toArray, List.append_toArray, List.nil_append, List.cons_append]
  gi_wp2_with fail
  refine ⟨trivial, ?_⟩
  gi_at_call 35
  refine (callsIn_wide.2 (c_IsPairMap _ _ A B _ HA.out)).mono ?_
  rintro e w1 ⟨rfl, hb1⟩
  rw [HP.out]
  obtain ⟨x0, x1, -, -⟩ := two_cells (F0.out.under hb1)
  have hw2 := HB0.out.trans (hb1.mono (show w.heap.size ≤ _ by rw [HSz.out]; omega))
  have hsw : w.heap.size + 3 ≤ w1.heap.size := by rw [← HSz.out]; exact hb1.size
  have G1 := Lib.hid (F1.out.under hb1); have G2 := Lib.hid (F2.out.under hb1)
  have HW := Lib.hid hw2
  clear z0 z1 hb1 hw2 F0 F1 F2 HB0 HSz
  obtain ⟨wa, hwa⟩ : ∃ wa, w1.alloc (Obj.cells #[.slice (some ⟨b0, o0, none⟩) n c0, .slice (some ⟨b0s, o0s, none⟩) n c0s] 22) = wa := ⟨_, rfl⟩
  obtain ⟨wb, hwb⟩ : ∃ wb, wa.alloc (Obj.cells #[.slice none 0 0] 22) = wb := ⟨_, rfl⟩
  have hba : Below w1.heap.size w1 wa := by rw [← hwa]; exact (Below.refl _ w1).alloc (Nat.le_refl _) _
  have hbb : Below wa.heap.size wa wb := by rw [← hwb]; exact (Below.refl _ wa).alloc (Nat.le_refl _) _
  have hsa : wa.heap.size = w1.heap.size + 1 := by rw [← hwa]; simp
  have hsb : wb.heap.size = w1.heap.size + 1 + 1 := by rw [← hwb]; simp [hsa]
  have hxa : Blk wa w1.heap.size 22 [.slice (some ⟨b0, o0, none⟩) n c0, .slice (some ⟨b0s, o0s, none⟩) n c0s] := by rw [← hwa]; exact Blk.new w1 _ _
  have hxb : Blk wb (w1.heap.size + 1) 22 [.slice none 0 0] := by rw [← hwb, ← hsa]; exact Blk.new wa _ _
  have T0 := Lib.hid (show Tb3 wa w1.heap.size 0 n 2 [A, B] _ _ _ _ _ _ from Tb3.two hxa ((HT.out.1.below HW.out).below hba) ((HT.out.2.below HW.out).below hba))
  have HB2 := Lib.hid (bb HW.out (bb hba hbb))
  have HBab := Lib.hid hbb
  have G1' := Lib.hid (G1.out.under (bb hba hbb)); have G2' := Lib.hid (G2.out.under (bb hba hbb))
  have HXb := Lib.hid hxb
  have HWa := Lib.hid hwa; have HWb := Lib.hid hwb
  clear hba hbb hxa hxb hwa hwb G1 G2 HT HA
  gi_wp2_with fail
  refine ⟨trivial, ?_⟩
  gi_at_call 36
  rw [HWa.out, HWb.out]
  refine (callsIn_wide.2 (c_isomorphisms _ _ _ _ _ _ _ _ _)).mono ?_
  rintro e w2 ⟨g1, g2, rfl, hg1, hg2, hb3⟩
  have HSeq : Hid (SeqRowsK Fence.wide 3 Try.prog 53 #[.pointer (some ⟨g1, 0, none⟩), .pointer (some ⟨g2, 0, none⟩)] L (Below wa.heap.size wa) w2) := by
    rw [HL.out]
    exact Lib.hid (c_iso1 wa T0.out T0.out rfl rfl hx0 (by omega) (by omega) (by omega) (by omega) _ g1 g2 w2 (bb HBab.out hb3) hg1 hg2)
  have HB3 := Lib.hid (bb HB2.out hb3)
  have HBa := Lib.hid (bb HBab.out hb3)
  have R1' := Lib.hid (G1'.out.under hb3); have R2' := Lib.hid (G2'.out.under hb3); have RX := Lib.hid (HXb.out.under hb3)
  have hs3 : w1.heap.size + 1 + 1 ≤ w2.heap.size := by rw [← hsb]; exact hb3.size
  clear hg1 hg2 hb3 x0 x1 T0 HB2 HBab G1' G2' HXb
  gi_wp2_with fail
  have r1lt := R1'.out.lt
  have r2lt := R2'.out.lt
  have rxlt := RX.out.lt
  have HLen : Hid (∀ k : Nat, k < L.length → (row L k).length = n) := Lib.hid fun k hk => by
    have hm := row_mem (t := L) (x := (k : Int)) (by omega) (by omega)
    rw [HL.out] at hm ⊢
    exact (mem_isoQ.1 hm).1.1.2
  refine wpIn_rangeFunc_rowsK rfl (by omega) (gf := 53) (lb := #[.pointer (some ⟨g1, 0, none⟩), .pointer (some ⟨g2, 0, none⟩)]) rfl trivial eg_iso1
    (fun b => b = w.heap.size + 1 ∨ b = w.heap.size + 1 + 1 ∨ b = w1.heap.size + 1) (by rintro b (rfl | rfl | rfl) <;> assumption) HSeq.out rfl
    (fun hi k W => k ≤ 1000 ∧ Blk W (w.heap.size + 1) 22 [.slice none 0 0] ∧ Blk W (w.heap.size + 1 + 1) 2 [.int .i64 0] ∧ (∃ v, Blk W (w1.heap.size + 1) 22 [v] ∧ OwnRows hi W v (L.take k)) ∧ Below w.heap.size w W ∧ Below wa.heap.size wa W ∧ w2.heap.size ≤ W.heap.size)
    (fun c hi k W => c = .ret ∧ Blk W (w.heap.size + 1) 22 [.slice none 0 0] ∧ Blk W (w.heap.size + 1 + 1) 2 [.int .i64 3] ∧ 1000 < L.length ∧ Below w.heap.size w W)
    (fun hi k W h => h.2.2.2.2.2.1) ?hI ?hIx ?h0
    (fun u => { tmps := #[.agg #[.slice (some ⟨b0, o0, none⟩) n c0, .slice (some ⟨b0s, o0s, none⟩) n c0s], .pointer (some ⟨w.heap.size, 0, none⟩), .pointer (some ⟨w.heap.size + 1, 0, none⟩), .pointer (some ⟨w.heap.size + 1 + 1, 0, none⟩), .slice (some ⟨w1.heap.size, 0, none⟩) 2 2, .pointer (some ⟨w1.heap.size + 1, 0, none⟩), u, .agg #[.slice (some ⟨b0, o0, none⟩) n c0, .slice (some ⟨b0s, o0s, none⟩) n c0s], .bool true, .bool false, .pointer (some ⟨w.heap.size, 0, none⟩), .slice (some ⟨b0, o0, none⟩) n c0, .pointer (some ⟨w.heap.size, 1, none⟩), .slice (some ⟨b0s, o0s, none⟩) n c0s, .slice (some ⟨w1.heap.size, 0, none⟩) 2 2, .slice (some ⟨w1.heap.size, 0, none⟩) 2 2, .slice (some ⟨w1.heap.size, 0, none⟩) 2 2, .func (.func 53) #[] #[.pointer (some ⟨g1, 0, none⟩), .pointer (some ⟨g2, 0, none⟩)], u, undef, undef, undef, undef, undef, undef, undef, undef, undef], defers := [] })
    ?assign ?body ?done ?stop
  case hI =>
    rintro hi k W W' ⟨h1, h2, h3, ⟨v, h4, h4'⟩, h5, h6, h7⟩ hk
    exact ⟨h1, h2.of_block (hk.block _ h2.lt (by omega)), h3.of_block (hk.block _ h3.lt (by omega)), ⟨v, h4.of_block (hk.block _ h4.lt (by omega)), h4'.keep hk (fun b hb _ h => by omega)⟩, h5.trans (hk.below fun k hk' => ⟨by have := h5.size; omega, by omega⟩), h6.trans (hk.below fun k hk' => ⟨by have := h6.size; omega, by omega⟩), Nat.le_trans h7 hk.size⟩
  case hIx =>
    rintro c hi k W W' ⟨h1, h2, h3, h4, h5⟩ hk
    exact ⟨h1, h2.of_block (hk.block _ h2.lt (by omega)), h3.of_block (hk.block _ h3.lt (by omega)), h4, h5.trans (hk.below fun k hk' => ⟨by have := h5.size; omega, by omega⟩)⟩
  case h0 =>
    intro W' hb
    exact ⟨by omega, R1'.out.under hb, R2'.out.under hb, ⟨_, RX.out.under hb, by simpa using OwnRows.nil _ _⟩, bb HB3.out hb, bb HBa.out hb, hb.size⟩
  case assign =>
    intro l u W K hK
    gi_wp2
    exact hK
  case body =>
    rintro l hi k u W ⟨h1, h2, h3, ⟨v, h4, h4'⟩, h5, h6, h7⟩ hhi hW hk hu
    have hlk : (L.take k).length = k := by simp; omega
    obtain ⟨ra, rc, hv, _⟩ := h4'.rows.shape
    rw [hlk] at hv
    subst hv
    have H1 := Lib.hid h2; have H2 := Lib.hid h3; have HX := Lib.hid h4; have HR := Lib.hid h4'; have H3 := Lib.hid h5; have H6 := Lib.hid h6
    have hpl := HLen.out k hk
    have hmix : Try.prog.follows .mixedOrders = true := by kernel_rfl
    by_cases hk10 : k = 1000
    · subst hk10
      have q2 := h2.frozen 0; have q3 := h3.frozen 0; have q4 := one_cell h2; have q5 := one_cell h3
      have q8 := (h3.other (a := ⟨w.heap.size + 1, 0, none⟩) (by show w.heap.size + 1 + 1 ≠ w.heap.size + 1; omega) (.slice none 0 0)).frozen 0
      have hc := one_cell h4
      clear hu h2 h3 h4 h4' h5 h6 h1
      gi_wp2
      have hk1 : Keep (fun b => (b = w.heap.size + 1 ∨ b = w.heap.size + 1 + 1 ∨ b = w1.heap.size + 1) ∨ hi ≤ b) W ((W.setCell ⟨w.heap.size + 1, 0, none⟩ (.slice none 0 0)).setCell ⟨w.heap.size + 1 + 1, 0, none⟩ (.int .i64 3)) := ((Keep.refl _ W).setCell (p := ⟨w.heap.size + 1, 0, none⟩) (.inl (.inl (.inl rfl))) _).setCell (p := ⟨w.heap.size + 1 + 1, 0, none⟩) (.inl (.inl (.inr (.inl rfl)))) _
      refine ⟨hk1, rfl, ?_, ?_, by omega, ?_⟩
      · exact (H1.out.set 0 (.slice none 0 0)).other (a := ⟨w.heap.size + 1 + 1, 0, none⟩) (by show w.heap.size + 1 ≠ w.heap.size + 1 + 1; omega) _
      · exact (H2.out.other (a := ⟨w.heap.size + 1, 0, none⟩) (by show w.heap.size + 1 + 1 ≠ w.heap.size + 1; omega) _).set 0 (.int .i64 3)
      · exact H3.out.trans (hk1.below fun b hb => ⟨by have := H3.out.size; omega, by omega⟩)
    have hkn : ((k : Int) == 1000) = false := by simp; omega
    have hc := one_cell h4
    have HU := Lib.hid (hu.below (Below.refl _ _).drew)
    clear hu h2 h3 h4 h4' h5 h6
    have HHi : Hid (w.heap.size + 1 + 1 < hi ∧ w1.heap.size + 1 < hi ∧ w.heap.size + 1 + 1 < w1.heap.size ∧ w2.heap.size ≤ hi) := Lib.hid (by omega)
    have HHW := Lib.hid hW
    have HKL := Lib.hid hk
    have HK10 : Hid (k + 1 ≤ 1000) := Lib.hid (by omega)
    have HWs := Lib.hid h7
    have HHx := Lib.hid (hx0)
    have hc := one_cell HX.out.drew
    have HXd := Lib.hid HX.out.drew
    gi_wp2_with fail
    have HAp : Hid (∀ (w' : World) (r : Value), Below W.drew.heap.size W.drew w' → Own W.drew.heap.size w' r (row L k) → ∃ g c' w2, (Builtin.append_ #[22, 22] 22 #[.slice ra k rc, .slice (some ⟨w'.heap.size, 0, none⟩) 1 1]).run Try.prog (w'.alloc (.cells #[r] 26)) = .ok (.slice (some ⟨g, 0, none⟩) ((L.take k).length + 1) c') w2 ∧ OwnRows hi w2 (.slice (some ⟨g, 0, none⟩) ((L.take k).length + 1) c') (L.take k ++ [row L k]) ∧ Keep (fun b => (Value.slice ra k rc).ownBlock = some b) w' w2) := by
      intro w' r hb ho
      exact run_app_row2 hi W.drew.heap.size w' _ _ _ _ _ ((OwnRows.inn (HR.out.under (Below.refl _ _).drew)).under hb) ho (by rw [hlk]; omega) HHW.out (Nat.le_trans HHW.out hb.size)
    have HLo : Hid (∀ b, (Value.slice ra k rc).ownBlock = some b → w1.heap.size + 1 < b) := by
      intro b e
      have := (OwnRows.lt HR.out e).1
      have := HHi.out
      omega
    have Fin : Hid (∀ (w' w2' : World) (g2 c2 : Nat), Below W.drew.heap.size W.drew w' → OwnRows hi w2' (.slice (some ⟨g2, 0, none⟩) (k + 1) c2) (L.take k ++ [row L k]) → Keep (fun b => (Value.slice ra k rc).ownBlock = some b) w' w2' → Blk w2' (w1.heap.size + 1) 22 [.slice ra k rc] →
        Keep (fun b => (b = w.heap.size + 1 ∨ b = w.heap.size + 1 + 1 ∨ b = w1.heap.size + 1) ∨ hi ≤ b) W (w2'.setCell ⟨w1.heap.size + 1, 0, none⟩ (.slice (some ⟨g2, 0, none⟩) (k + 1) c2)) ∧ k + 1 ≤ 1000 ∧
        Blk (w2'.setCell ⟨w1.heap.size + 1, 0, none⟩ (.slice (some ⟨g2, 0, none⟩) (k + 1) c2)) (w.heap.size + 1) 22 [.slice none 0 0] ∧
        Blk (w2'.setCell ⟨w1.heap.size + 1, 0, none⟩ (.slice (some ⟨g2, 0, none⟩) (k + 1) c2)) (w.heap.size + 1 + 1) 2 [.int .i64 0] ∧
        (∃ v, Blk (w2'.setCell ⟨w1.heap.size + 1, 0, none⟩ (.slice (some ⟨g2, 0, none⟩) (k + 1) c2)) (w1.heap.size + 1) 22 [v] ∧ OwnRows hi (w2'.setCell ⟨w1.heap.size + 1, 0, none⟩ (.slice (some ⟨g2, 0, none⟩) (k + 1) c2)) v (L.take (k + 1))) ∧
        Below w.heap.size w (w2'.setCell ⟨w1.heap.size + 1, 0, none⟩ (.slice (some ⟨g2, 0, none⟩) (k + 1) c2)) ∧ Below wa.heap.size wa (w2'.setCell ⟨w1.heap.size + 1, 0, none⟩ (.slice (some ⟨g2, 0, none⟩) (k + 1) c2)) ∧ w2.heap.size ≤ (w2'.setCell ⟨w1.heap.size + 1, 0, none⟩ (.slice (some ⟨g2, 0, none⟩) (k + 1) c2)).heap.size) := by
      intro w' w2' g2 c2 hb ho hk2 hbx
      obtain ⟨i1, i2, i3, i4⟩ := HHi.out
      have hW' : W.drew.heap.size = W.heap.size := rfl
      have hkeep0 : Keep (fun b => hi ≤ b) W w2' := by
        have k1 : Keep (fun b => hi ≤ b) W w' := ((Keep.refl (fun _ => False) W).drew.under (by rw [hW']; exact hb)).mono fun _ _ h => h.elim
        have k2 : Keep (fun b => hi ≤ b) w' w2' := hk2.mono fun b _ e => (OwnRows.lt HR.out e).1
        exact k1.trans k2
      have hkeepx : Keep (fun b => b = w1.heap.size + 1 ∨ hi ≤ b) W (w2'.setCell ⟨w1.heap.size + 1, 0, none⟩ (.slice (some ⟨g2, 0, none⟩) (k + 1) c2)) := (hkeep0.mono fun b _ e => .inr e).setCell (p := ⟨w1.heap.size + 1, 0, none⟩) (.inl (.inl rfl)) _
      refine ⟨hkeepx.mono fun b _ e => ?_, HK10.out, ?_, ?_, ⟨_, hbx.set 0 _, ?_⟩, ?_, ?_, Nat.le_trans HWs.out hkeepx.size⟩
      · rcases e with e | e
        · exact .inl (.inr (.inr e))
        · exact .inr e
      · exact H1.out.of_block (hkeepx.block _ H1.out.lt (by omega))
      · exact H2.out.of_block (hkeepx.block _ H2.out.lt (by omega))
      · have e : L.take (k + 1) = L.take k ++ [row L k] := take_snoc_row _ _ HKL.out
        rw [e]
        exact ho.keep (keep1 w2' (w1.heap.size + 1) 0 _) (fun b h1 _ h3 => by have h3 : b = w1.heap.size + 1 := h3; omega)
      · exact H3.out.trans (hkeepx.below fun b hb => ⟨by have := H3.out.size; omega, by omega⟩)
      · exact H6.out.trans (hkeepx.below fun b hb => ⟨by have := H6.out.size; omega, by omega⟩)
    refine wpIn_region_any hmix ?_
    change wpAnyIn _ _ _ _ _ _ _ _ _ (World.drew _)
    refine wpAnyIn_ready (rs := [0, 1]) (by kernel_rfl) (by simp) ?_
    refine AllReadyIn.cons rfl (fun K hK => ?_) (AllReadyIn.cons rfl (fun K hK => ?_) AllReadyIn.nil)
    · go_simp
      refine hK _ _ ?_
      clear hK K
      refine wpAnyIn_ready (rs := [1]) (by kernel_rfl) (by simp) ?_
      refine AllReadyIn.cons rfl (fun K hK => ?_) AllReadyIn.nil
      go_simp
      refine hK _ _ ?_
      clear hK K
      refine wpAnyIn_ready (rs := [2]) (by kernel_rfl) (by simp) ?_
      refine AllReadyIn.cons rfl (fun K hK => ?_) AllReadyIn.nil
      go_simp
      gi_wp2_with (refine ⟨trivial, ?_⟩; gi_at_call 37; refine (CallsIn.inRound l (callsIn_wide.2 (c_Clone _ _ _ HU.out (by rw [hpl]; omega)))).mono ?_; rintro e w' ⟨r, rfl, ho, hb⟩; obtain ⟨qa, qc, hqv, _⟩ := ho.shape; rw [hpl] at hqv; subst hqv; have hc1 := one_cell (HXd.out.under hb); have hc1z := one_cell ((HXd.out.under hb).alloc (Obj.cells #[.slice qa n qc] 26)); have hbx := HXd.out.under hb; obtain ⟨g2, c2, w2', hrun, hown2, hk2⟩ := HAp.out w' _ hb ho; rw [hlk] at hrun hown2; have hbx2 := hbx.of_block (hk2.block _ hbx.lt (fun e => by have := (HLo.out _ e); omega)); have hc2 := one_cell hbx2; have hf2 := hbx2.frozen 0; have HRun := Lib.hid hrun; have HO2 := Lib.hid hown2; have HK2 := Lib.hid hk2; have HB := Lib.hid hb; have HBX := Lib.hid hbx2; clear ho hb hrun hown2 hk2 hbx hbx2)
      refine wpAnyIn_ready (rs := [3]) (by kernel_rfl) (by simp) ?_
      refine AllReadyIn.cons rfl (fun K hK => ?_) AllReadyIn.nil
      go_simp
      refine hK _ _ ?_
      clear hK K
      refine wpAnyIn_ready (rs := [4]) (by kernel_rfl) (by simp) ?_
      refine AllReadyIn.cons rfl (fun K hK => ?_) AllReadyIn.nil
      refine stepIn_append rfl (fun _ => trivial) (.tmp 22) (.tmp 25) 22 rfl HRun.out ?_
      refine hK _ _ ?_
      clear hK K
      refine wpAnyIn_ready (rs := [5]) (by kernel_rfl) (by simp) ?_
      refine AllReadyIn.cons rfl (fun K hK => ?_) AllReadyIn.nil
      go_simp
      refine hK _ _ ?_
      clear hK K
      refine wpAnyIn_done (by kernel_rfl) ?_ _
      exact Fin.out _ _ _ _ HB.out HO2.out HK2.out HBX.out
    · go_simp
      refine hK _ _ ?_
      clear hK K
      refine wpAnyIn_ready (rs := [0, 2]) (by kernel_rfl) (by simp) ?_
      refine AllReadyIn.cons rfl (fun K hK => ?_) (AllReadyIn.cons rfl (fun K hK => ?_) AllReadyIn.nil)
      · go_simp
        refine hK _ _ ?_
        clear hK K
        refine wpAnyIn_ready (rs := [2]) (by kernel_rfl) (by simp) ?_
        refine AllReadyIn.cons rfl (fun K hK => ?_) AllReadyIn.nil
        go_simp
        gi_wp2_with (refine ⟨trivial, ?_⟩; gi_at_call 37; refine (CallsIn.inRound l (callsIn_wide.2 (c_Clone _ _ _ HU.out (by rw [hpl]; omega)))).mono ?_; rintro e w' ⟨r, rfl, ho, hb⟩; obtain ⟨qa, qc, hqv, _⟩ := ho.shape; rw [hpl] at hqv; subst hqv; have hc1 := one_cell (HXd.out.under hb); have hc1z := one_cell ((HXd.out.under hb).alloc (Obj.cells #[.slice qa n qc] 26)); have hbx := HXd.out.under hb; obtain ⟨g2, c2, w2', hrun, hown2, hk2⟩ := HAp.out w' _ hb ho; rw [hlk] at hrun hown2; have hbx2 := hbx.of_block (hk2.block _ hbx.lt (fun e => by have := (HLo.out _ e); omega)); have hc2 := one_cell hbx2; have hf2 := hbx2.frozen 0; have HRun := Lib.hid hrun; have HO2 := Lib.hid hown2; have HK2 := Lib.hid hk2; have HB := Lib.hid hb; have HBX := Lib.hid hbx2; clear ho hb hrun hown2 hk2 hbx hbx2)
        refine wpAnyIn_ready (rs := [3]) (by kernel_rfl) (by simp) ?_
        refine AllReadyIn.cons rfl (fun K hK => ?_) AllReadyIn.nil
        go_simp
        refine hK _ _ ?_
        clear hK K
        refine wpAnyIn_ready (rs := [4]) (by kernel_rfl) (by simp) ?_
        refine AllReadyIn.cons rfl (fun K hK => ?_) AllReadyIn.nil
        refine stepIn_append rfl (fun _ => trivial) (.tmp 22) (.tmp 25) 22 rfl HRun.out ?_
        refine hK _ _ ?_
        clear hK K
        refine wpAnyIn_ready (rs := [5]) (by kernel_rfl) (by simp) ?_
        refine AllReadyIn.cons rfl (fun K hK => ?_) AllReadyIn.nil
        go_simp
        refine hK _ _ ?_
        clear hK K
        refine wpAnyIn_done (by kernel_rfl) ?_ _
        exact Fin.out _ _ _ _ HB.out HO2.out HK2.out HBX.out
      · go_simp
        gi_wp2_with (refine ⟨trivial, ?_⟩; gi_at_call 37; refine (CallsIn.inRound l (callsIn_wide.2 (c_Clone _ _ _ HU.out (by rw [hpl]; omega)))).mono ?_; rintro e w' ⟨r, rfl, ho, hb⟩; obtain ⟨qa, qc, hqv, _⟩ := ho.shape; rw [hpl] at hqv; subst hqv; have hc1 := one_cell (HXd.out.under hb); have hc1z := one_cell ((HXd.out.under hb).alloc (Obj.cells #[.slice qa n qc] 26)); have hbx := HXd.out.under hb; obtain ⟨g2, c2, w2', hrun, hown2, hk2⟩ := HAp.out w' _ hb ho; rw [hlk] at hrun hown2; have hbx2 := hbx.of_block (hk2.block _ hbx.lt (fun e => by have := (HLo.out _ e); omega)); have hc2 := one_cell hbx2; have hf2 := hbx2.frozen 0; have HRun := Lib.hid hrun; have HO2 := Lib.hid hown2; have HK2 := Lib.hid hk2; have HB := Lib.hid hb; have HBX := Lib.hid hbx2; clear ho hb hrun hown2 hk2 hbx hbx2)
        refine wpAnyIn_ready (rs := [0, 3]) (by kernel_rfl) (by simp) ?_
        refine AllReadyIn.cons rfl (fun K hK => ?_) (AllReadyIn.cons rfl (fun K hK => ?_) AllReadyIn.nil)
        · go_simp
          refine hK _ _ ?_
          clear hK K
          refine wpAnyIn_ready (rs := [3]) (by kernel_rfl) (by simp) ?_
          refine AllReadyIn.cons rfl (fun K hK => ?_) AllReadyIn.nil
          go_simp
          refine hK _ _ ?_
          clear hK K
          refine wpAnyIn_ready (rs := [4]) (by kernel_rfl) (by simp) ?_
          refine AllReadyIn.cons rfl (fun K hK => ?_) AllReadyIn.nil
          refine stepIn_append rfl (fun _ => trivial) (.tmp 22) (.tmp 25) 22 rfl HRun.out ?_
          refine hK _ _ ?_
          clear hK K
          refine wpAnyIn_ready (rs := [5]) (by kernel_rfl) (by simp) ?_
          refine AllReadyIn.cons rfl (fun K hK => ?_) AllReadyIn.nil
          go_simp
          refine hK _ _ ?_
          clear hK K
          refine wpAnyIn_done (by kernel_rfl) ?_ _
          exact Fin.out _ _ _ _ HB.out HO2.out HK2.out HBX.out
        · go_simp
          refine hK _ _ ?_
          clear hK K
          refine wpAnyIn_ready (rs := [0]) (by kernel_rfl) (by simp) ?_
          refine AllReadyIn.cons rfl (fun K hK => ?_) AllReadyIn.nil
          go_simp
          refine hK _ _ ?_
          clear hK K
          refine wpAnyIn_ready (rs := [4]) (by kernel_rfl) (by simp) ?_
          refine AllReadyIn.cons rfl (fun K hK => ?_) AllReadyIn.nil
          refine stepIn_append rfl (fun _ => trivial) (.tmp 22) (.tmp 25) 22 rfl HRun.out ?_
          refine hK _ _ ?_
          clear hK K
          refine wpAnyIn_ready (rs := [5]) (by kernel_rfl) (by simp) ?_
          refine AllReadyIn.cons rfl (fun K hK => ?_) AllReadyIn.nil
          go_simp
          refine hK _ _ ?_
          clear hK K
          refine wpAnyIn_done (by kernel_rfl) ?_ _
          exact Fin.out _ _ _ _ HB.out HO2.out HK2.out HBX.out
  case done =>
    rintro dd hi W hD hDh ⟨h1, h2, h3, ⟨v, h4, h4'⟩, h5, h6, h7⟩ hK
    rw [List.take_of_length_le (Nat.le_refl _)] at h4'
    obtain ⟨ra, rc, rfl, _⟩ := h4'.rows.shape
    have q4 := one_cell h2; have q5 := one_cell h3; have q6 := h2.frozen 0; have q7 := h3.frozen 0; have q8 := one_cell h4
    have r9 := (h3.other (a := ⟨w.heap.size + 1, 0, none⟩) (by show w.heap.size + 1 + 1 ≠ w.heap.size + 1; omega) (.slice ra L.length rc)).frozen 0
    have HK := Lib.hid (show ((W.setCell ⟨w.heap.size + 1, 0, none⟩ (.slice ra L.length rc)).setCell ⟨w.heap.size + 1 + 1, 0, none⟩ (.int .i64 0)).heap[dd]? = some (.deferred (some [])) by
      rw [Below.heap_setCell _ _ _ _ (by show dd ≠ w.heap.size + 1 + 1; omega), Below.heap_setCell _ _ _ _ (by show dd ≠ w.heap.size + 1; omega)]; exact hK)
    have p2 := (h2.set 0 (.slice ra L.length rc)).other (a := ⟨w.heap.size + 1 + 1, 0, none⟩) (by show w.heap.size + 1 ≠ w.heap.size + 1 + 1; omega) (.int .i64 0)
    have p3 := (h3.other (a := ⟨w.heap.size + 1, 0, none⟩) (by show w.heap.size + 1 + 1 ≠ w.heap.size + 1; omega) (.slice ra L.length rc)).set 0 (.int .i64 0)
    have H4 := Lib.hid ((h5.setCell (p := ⟨w.heap.size + 1, 0, none⟩) (by show w.heap.size ≤ w.heap.size + 1; omega) (.slice ra L.length rc)).setCell (p := ⟨w.heap.size + 1 + 1, 0, none⟩) (by show w.heap.size ≤ w.heap.size + 1 + 1; omega) (.int .i64 0))
    have HO := Lib.hid ((h4'.keep (keep1 W (w.heap.size + 1) 0 (.slice ra L.length rc)) (fun b h1 _ h3 => by have h3 : b = w.heap.size + 1 := h3; omega)).keep (keep1 _ (w.heap.size + 1 + 1) 0 (.int .i64 0)) (fun b h1 _ h3 => by have h3 : b = w.heap.size + 1 + 1 := h3; omega))
    have P2 := Lib.hid p2; have P3 := Lib.hid p3; have H1L := Lib.hid h1
    clear h1 h2 h3 h4 h4' h5 h6 hK p2 p3
    gi_wp2
    refine ⟨by simp, .inl ⟨_, _, rfl, run_takeDeferred HK.out, ?_⟩⟩
    have hk := keep_putObj ((W.setCell ⟨w.heap.size + 1, 0, none⟩ (.slice ra L.length rc)).setCell ⟨w.heap.size + 1 + 1, 0, none⟩ (.int .i64 0)) dd (.deferred none)
    have c4 := one_cell (P2.out.of_block (hk.block _ P2.out.lt (by show w.heap.size + 1 ≠ dd; omega)))
    have c5 := one_cell (P3.out.of_block (hk.block _ P3.out.lt (by show w.heap.size + 1 + 1 ≠ dd; omega)))
    refine ⟨.tuple #[.slice ra L.length rc, .int .i64 0], by simp [results, Try.results16, go_sem, c4, c5], .slice ra L.length rc, by rw [HRes.out.2, if_pos H1L.out], ?_, ?_⟩
    · rw [HRes.out.1, if_pos H1L.out]
      exact (HO.out.keep hk (fun b hb _ h => by have h : b = dd := h; omega)).mono (show w.heap.size ≤ hi by omega)
    · exact H4.out.trans (hk.below fun k hk' => ⟨by have := H4.out.size; omega, by omega⟩)
  case stop =>
    rintro dd hi k c W hD hDh ⟨rfl, h2, h3, h4, h5⟩ hK
    have hk := keep_putObj W dd (.deferred none)
    have c4 := one_cell (h2.of_block (hk.block _ h2.lt (by show w.heap.size + 1 ≠ dd; omega)))
    have c5 := one_cell (h3.of_block (hk.block _ h3.lt (by show w.heap.size + 1 + 1 ≠ dd; omega)))
    gi_wp2
    refine ⟨by simp, .inl ⟨_, _, rfl, run_takeDeferred hK, ?_⟩⟩
    refine ⟨.tuple #[.slice none 0 0, .int .i64 3], by simp [results, Try.results16, go_sem, c4, c5], .slice none 0 0, by rw [HRes.out.2, if_neg (by omega)], ?_, ?_⟩
    · rw [HRes.out.1, if_neg (by omega)]; exact OwnRows.nil _ _
    · exact h5.trans (hk.below fun k hk' => ⟨by have := h5.size; omega, by omega⟩)
end Go.Proofs.Ytgmhnjccgldddaa

namespace Go.Proofs.Ytgmhnjccgldddaa
set_option linter.unusedVariables false
set_option linter.unusedSimpArgs false
open Go Go.RowKit

theorem sf_ren {A B : List (List Int)} {q : List Int} (hp : isPM A B = true) (h1 : Permuted q) (h2 : q.length = A.length) : rnA A B q = renL A q ∧ rnB A B q = renL B q ∧ rnCode A B q = 0 := by
  obtain ⟨t1, t2, t3⟩ := isPM_parts hp
  obtain ⟨b1, b2⟩ := isTab_len t1
  have c1 : isPerm q = true := by simp [isPerm, inR, h1, h2]; omega
  have c2 : rnP A q = true := by simp [rnP, c1, h2]
  simp [rnA, rnB, rnCode, hp, c2]
structure SfI (A B C D : List (List Int)) (Q : List Int) (cd : Int) : Prop where
  res : isoRes A B C D = Q
  code : isoCode A B C D = cd
  way : (cd = 0 ∧ (rnA A B Q = C ∧ rnB A B Q = D ∧ rnCode A B Q = 0) ∧ (decide (lsSA A B = lsSA C D) && decide (lsSB A B = lsSB C D)) = true) ∨ (cd = 4 ∧ (decide (lsSA A B = lsSA C D) && decide (lsSB A B = lsSB C D)) = false)
theorem sf_iso {A B C D : List (List Int)} (hp : isPM A B = true) (hp2 : isPM C D = true) : ∃ Q cd, SfI A B C D Q cd := by
  have hl := least_iff hp hp2
  have hpp : (isPM A B && isPM C D) = true := by simp [hp, hp2]
  refine ⟨_, _, rfl, rfl, ?_⟩
  cases hL : isoL A B C D with
  | nil =>
    refine .inr ⟨by simp [isoCode, hpp, hL], ?_⟩
    rw [hL] at hl
    have : ¬ (lsSA A B = lsSA C D ∧ lsSB A B = lsSB C D) := fun e => (hl.1 e) rfl
    simpa using this
  | cons q r =>
    have hr : isoRes A B C D = q := by simp [isoRes, hpp, hL]
    have h2 := hl.2 (by rw [hL]; simp)
    have hm : q ∈ isoL A B C D := by rw [hL]; simp
    unfold isoL at hm
    by_cases hn : A.length = C.length
    · rw [if_pos hn] at hm
      obtain ⟨⟨a, b⟩, e1, e2⟩ := (isoF_ren hp hp2 hn).1 (mem_isoQ.1 hm).1
      obtain ⟨f1, f2, f3⟩ := sf_ren hp a b
      refine .inl ⟨by simp [isoCode, hpp, hL], ?_, by simp [h2.1, h2.2]⟩
      rw [hr, f1, f2, f3, e1, e2]
      exact ⟨rfl, rfl, rfl⟩
    · rw [if_neg hn] at hm; simp at hm
theorem sf_bad {A B C D : List (List Int)} (h : ¬ (isPM A B = true ∧ isPM C D = true)) : isoRes A B C D = [] ∧ isoCode A B C D = 1 := by
  have : ¬ (isPM A B && isPM C D) = true := by simpa using h
  simp only [isoRes, isoCode, if_neg this]; exact ⟨trivial, trivial⟩
theorem sf_ls {A B : List (List Int)} (hp : isPM A B = true) (h5 : A.length ≤ 5) : lnA A B = lsSA A B ∧ lnB A B = lsSB A B ∧ lnCode A B = 0 := by
  have h7 : A.length ≤ 7 := by omega
  simp [lnA, lnB, lnCode, lnOk, hp, h7]
structure SfA (A B L : List (List Int)) (cd : Int) : Prop where
  res : autRes A B = L
  code : autCode A B = cd
  way : cd = 3 ∨ (cd = 0 ∧ 1 ≤ L.length ∧ L.length ≤ 1000 ∧ (∀ x ∈ L, rnA A B x = A ∧ rnB A B x = B ∧ rnCode A B x = 0) ∧ ∀ x ∈ L, ∀ y ∈ L, decide (thenRes x y ∈ L) = true)
theorem sf_aut {A B : List (List Int)} (hp : isPM A B = true) : ∃ L cd, SfA A B L cd := by
  refine ⟨_, _, rfl, rfl, ?_⟩
  by_cases h : (autL A B).length ≤ 1000
  case neg => exact .inl (by simp [autCode, hp, h])
  have hr : autRes A B = autL A B := by simp [autRes, hp, h]
  rw [hr]
  refine .inr ⟨by simp [autCode, hp, h], ?_, h, ?_, ?_⟩
  · exact List.length_pos_iff.2 (aut_one hp)
  · intro x hx
    obtain ⟨⟨a, b⟩, e1, e2⟩ := (aut_mem hp).1 hx
    obtain ⟨f1, f2, f3⟩ := sf_ren hp a b
    exact ⟨f1.trans e1, f2.trans e2, f3⟩
  · intro x hx y hy
    obtain ⟨⟨a, b⟩, e1, e2⟩ := (aut_mem hp).1 hx
    obtain ⟨⟨c, d⟩, f1, f2⟩ := (aut_mem hp).1 hy
    obtain ⟨t1, t2, t3⟩ := isPM_parts hp
    obtain ⟨b1, b2⟩ := isTab_len t1
    have c1 : isPerm x = true := by simp [isPerm, inR, a, b]; omega
    have c2 : isPerm y = true := by simp [isPerm, inR, c, d]; omega
    have : thenRes x y = thenL x y := by simp [thenRes, okThen, c1, c2, b, d]
    rw [this]
    exact decide_eq_true (show thenL x y ∈ autL A B from aut_then hp hx hy)
end Go.Proofs.Ytgmhnjccgldddaa

namespace Go.Proofs.Ytgmhnjccgldddaa
set_option linter.unusedVariables false
set_option linter.unusedSimpArgs false
open Go Go.RowKit Go.Shelf
attribute [local go_sem] Oper.semAt_some

set_option maxRecDepth 100000 in
set_option maxHeartbeats 4000000 in
theorem c_SolutionIsomorphism (v0 u0 v1 u1 : Value) (A B C D : List (List Int)) (w : World) (hA : Sol w v0 u0 A B) (hC : Sol w v1 u1 C D) :
    Calls Try.prog 9 #[.agg #[v0, u0], .agg #[v1, u1]] w (RIntsC w (isoRes A B C D) (isoCode A B C D)) := by
  by_cases hp : (isPM A B && isPM C D) = true
  case neg => exact c_SolutionIsomorphism_neg v0 u0 v1 u1 A B C D w hA hC hp
  have hp1 : isPM A B = true := by simp at hp; exact hp.1
  have hp2 : isPM C D = true := by simp at hp; exact hp.2
  have HRes := Lib.hid (show isoRes A B C D = (isoL A B C D).headD [] ∧ isoCode A B C D = (if (isoL A B C D).isEmpty then 4 else 0) by simp only [isoRes, isoCode, if_pos hp]; exact ⟨trivial, trivial⟩)
  obtain ⟨n, b0, o0, c0, rb0, ro0, rc0, b0s, o0s, c0s, rb0s, ro0s, rc0s, rfl, rfl, hl0, hl0s, hn0, hx0, hc0, hm0, hc0s, hm0s, t0, t0s⟩ := hA.tabs hp1
  obtain ⟨m, b1, o1, c1, rb1, ro1, rc1, b1s, o1s, c1s, rb1s, ro1s, rc1s, rfl, rfl, hl1, hl1s, hn1, hx1, hc1, hm1, hc1s, hm1s, t1, t1s⟩ := hC.tabs hp2
  obtain ⟨f0, f1, f2, f3, hB0, hsz⟩ := boxes4 w [.slice (some ⟨b0, o0, none⟩) n c0, .slice (some ⟨b0s, o0s, none⟩) n c0s] [.slice (some ⟨b1, o1, none⟩) m c1, .slice (some ⟨b1s, o1s, none⟩) m c1s] [.slice none 0 0] [.int .i64 0] 29 29 26 2
  obtain ⟨z0, z1, -, -⟩ := two_cells f0
  obtain ⟨z2, z3, -, -⟩ := two_cells f1
  have z4 := one_cell f2; have z5 := one_cell f3; have z6 := f2.frozen 0; have z7 := f3.frozen 0
  have HA := Lib.hid ((⟨hA.1.below hB0, hA.2.below hB0⟩ : Sol _ _ _ A B)); have HC := Lib.hid ((⟨hC.1.below hB0, hC.2.below hB0⟩ : Sol _ _ _ C D))
  have F0 := Lib.hid f0; have F1 := Lib.hid f1; have F2 := Lib.hid f2; have F3 := Lib.hid f3; have HB0 := Lib.hid hB0; have HSz := Lib.hid hsz
  have HT := Lib.hid (And.intro (And.intro t0 t0s) (And.intro t1 t1s))
  have HLn := Lib.hid (And.intro (And.intro hl0 hl0s) (And.intro hl1 hl1s))
  have HP1 := Lib.hid hp1; have HP2 := Lib.hid hp2
  clear f0 f1 f2 f3 hB0 hsz hA hC t0 t0s t1 t1s hl0 hl0s hl1 hl1s hp hp1 hp2
  refine (callsIn_wide (n := 4)).1 ?_
  refine callsIn_of_wp_marks Try.func9 rfl trivial ?_ rfl
  simp only [Try.ntmps9, List.size_toArray, List.length_cons, List.length_nil, Nat.reduceAdd, Nat.reduceSub, Array.replicate_succ, Array.replicate_zero, List.push_toArray, List.append_toArray, List.nil_append, List.cons_append]
  gi_wp2_with fail
  refine ⟨trivial, ?_⟩
  gi_at_call 35
  refine (callsIn_wide.2 (c_IsPairMap _ _ A B _ HA.out)).mono ?_
  rintro e w1 ⟨rfl, hb1⟩
  rw [HP1.out]
  obtain ⟨x2, x3, -, -⟩ := two_cells (F1.out.under hb1)
  have HC1 := Lib.hid ((⟨HC.out.1.below hb1, HC.out.2.below hb1⟩ : Sol _ _ _ C D))
  have HBw := Lib.hid hb1
  clear hb1 z0 z1 z2 z3 z4 z5 z6 z7
  gi_wp2_with fail
  refine ⟨trivial, ?_⟩
  gi_at_call 35
  refine (callsIn_wide.2 (c_IsPairMap _ _ C D _ HC1.out)).mono ?_
  rintro e w2 ⟨rfl, hb2⟩
  rw [HP2.out]
  have hb1 := HBw.out.trans (hb2.mono HBw.out.size)
  obtain ⟨x0, x1, -, -⟩ := two_cells (F0.out.under hb1)
  clear x2 x3
  obtain ⟨x2, x3, -, -⟩ := two_cells (F1.out.under hb1)
  have HBx := Lib.hid hb1
  clear hb1 hb2
  obtain ⟨wa, hwa⟩ : ∃ wa, w2.alloc (Obj.cells #[.slice (some ⟨b0, o0, none⟩) n c0, .slice (some ⟨b0s, o0s, none⟩) n c0s] 22) = wa := ⟨_, rfl⟩
  obtain ⟨wb, hwb⟩ : ∃ wb, wa.alloc (Obj.cells #[.slice (some ⟨b1, o1, none⟩) m c1, .slice (some ⟨b1s, o1s, none⟩) m c1s] 22) = wb := ⟨_, rfl⟩
  have hba : Below w2.heap.size w2 wa := by rw [← hwa]; exact (Below.refl _ w2).alloc (Nat.le_refl _) _
  have hbb : Below wa.heap.size wa wb := by rw [← hwb]; exact (Below.refl _ wa).alloc (Nat.le_refl _) _
  have hsa : wa.heap.size = w2.heap.size + 1 := by rw [← hwa]; simp
  have hsb : wb.heap.size = w2.heap.size + 1 + 1 := by rw [← hwb]; simp [hsa]
  have hxa : Blk wa w2.heap.size 22 [.slice (some ⟨b0, o0, none⟩) n c0, .slice (some ⟨b0s, o0s, none⟩) n c0s] := by rw [← hwa]; exact Blk.new w2 _ _
  have hxb : Blk wb (w2.heap.size + 1) 22 [.slice (some ⟨b1, o1, none⟩) m c1, .slice (some ⟨b1s, o1s, none⟩) m c1s] := by rw [← hwb, ← hsa]; exact Blk.new wa _ _
  have y2 := cell_under hba x2; have y3 := cell_under hba x3
  rw [← hwa] at y2 y3
  have hw2 := HB0.out.trans (HBx.out.mono (show w.heap.size ≤ _ by rw [HSz.out]; omega))
  have HB2 := Lib.hid (bb hw2 (bb hba hbb))
  have hbab := bb hba hbb
  have T0 := Lib.hid (show Tb3 wb w2.heap.size 0 n 2 [A, B] _ _ _ _ _ _ from Tb3.two (hxa.under hbb) ((HT.out.1.1.below hw2).below hbab) ((HT.out.1.2.below hw2).below hbab))
  have T1 := Lib.hid (show Tb3 wb (w2.heap.size + 1) 0 m 2 [C, D] _ _ _ _ _ _ from Tb3.two hxb ((HT.out.2.1.below hw2).below hbab) ((HT.out.2.2.below hw2).below hbab))
  have G2 := Lib.hid ((F2.out.under HBx.out).under hbab)
  have G3 := Lib.hid ((F3.out.under HBx.out).under hbab)
  have HXa := Lib.hid (And.intro (hxa.under hbb) hxb)
  have HSa := Lib.hid hsa; have HSb := Lib.hid hsb; have HWa := Lib.hid hwa; have HWb := Lib.hid hwb
  have hsw : w.heap.size + 4 ≤ w2.heap.size := by rw [← HSz.out]; exact HBx.out.size
  clear hba hbb hsa hsb hxa hxb hbab HT HA HC HC1 HBw HBx F0 F1 F2 F3 HB0 hwa hwb hw2
  gi_wp2_with fail
  refine ⟨trivial, ?_⟩
  gi_at_call 36
  rw [HWa.out, HWb.out]
  refine (callsIn_wide.2 (c_isomorphisms _ _ _ _ _ _ _ _ _)).mono ?_
  rintro e w3 ⟨g1, g2, rfl, hg1, hg2, hb3⟩
  have Q1 := Lib.hid hg1; have Q2 := Lib.hid hg2
  have HB3 := Lib.hid (bb HB2.out hb3)
  have HBb := Lib.hid hb3
  have G2' := Lib.hid (G2.out.under hb3); have G3' := Lib.hid (G3.out.under hb3)
  have HSeq : Hid (SeqRowsK Fence.wide 3 Try.prog 53 #[.pointer (some ⟨g1, 0, none⟩), .pointer (some ⟨g2, 0, none⟩)] (isoL A B C D) (Below wb.heap.size wb) w3) := by
    by_cases hnm : n = m
    · subst hnm
      have e : isoL A B C D = isoAll n [A, B] [C, D] := by unfold isoL; rw [HLn.out.1.1, HLn.out.2.1, if_pos rfl]
      rw [e]
      exact Lib.hid (c_iso1 wb T0.out T1.out rfl rfl hx0 (by omega) (by omega) (by omega) (by omega) _ g1 g2 w3 hb3 hg1 hg2)
    · have e : isoL A B C D = [] := by unfold isoL; rw [HLn.out.1.1, HLn.out.2.1, if_neg hnm]
      rw [e]
      have q1 := (T0.out.below hb3).tab 0 (by omega)
      have q2 := (T1.out.below hb3).tab 0 (by omega)
      exact Lib.hid (c_iso1_none (m := 0) (v1 := undef) (v2 := undef) _ g1 g2 w3 hg1 hg2 (by omega) (by omega) q1 q2 hnm _)
  have hs3 := hb3.size
  clear hg1 hg2 hb3 HXa HWa HWb x0 x1 x2 x3 y2 y3 T0 T1 G2 G3
  gi_wp2_with fail
  have g2lt := G2'.out.lt
  have g3lt := G3'.out.lt
  have hlen : ∀ k, k < (isoL A B C D).length → (row (isoL A B C D) k).length = n := fun k hk => by
    have hm := row_mem (t := isoL A B C D) (x := (k : Int)) (by omega) (by omega)
    unfold isoL at hm ⊢
    rw [HLn.out.1.1] at hm ⊢
    split at hm
    · rename_i e1; rw [if_pos e1]; exact (mem_isoQ.1 hm).1.1.2
    · simp at hm
  have HLen := Lib.hid hlen
  clear hlen
  refine wpIn_rangeFunc_rowsK rfl (by omega) (gf := 53) (lb := #[.pointer (some ⟨g1, 0, none⟩), .pointer (some ⟨g2, 0, none⟩)]) rfl trivial eg_iso1
    (fun b => b = w.heap.size + 1 + 1 ∨ b = w.heap.size + 1 + 1 + 1) (by rintro b (rfl | rfl) <;> assumption) HSeq.out rfl
    (fun hi k W => k = 0 ∧ Blk W (w.heap.size + 1 + 1) 26 [.slice none 0 0] ∧ Blk W (w.heap.size + 1 + 1 + 1) 2 [.int .i64 0] ∧ Below w.heap.size w W ∧ Below wb.heap.size wb W ∧ w3.heap.size ≤ W.heap.size)
    (fun c hi k W => c = .ret ∧ ∃ v, Blk W (w.heap.size + 1 + 1) 26 [v] ∧ Blk W (w.heap.size + 1 + 1 + 1) 2 [.int .i64 0] ∧ Own hi W v (isoRes A B C D) ∧ isoCode A B C D = 0 ∧ Below w.heap.size w W ∧ w3.heap.size ≤ hi)
    (fun hi k W h => h.2.2.2.2.1) ?hI ?hIx ?h0
    (fun u => { tmps := #[.agg #[.slice (some ⟨b0, o0, none⟩) n c0, .slice (some ⟨b0s, o0s, none⟩) n c0s], .agg #[.slice (some ⟨b1, o1, none⟩) m c1, .slice (some ⟨b1s, o1s, none⟩) m c1s], .pointer (some ⟨w.heap.size, 0, none⟩), .pointer (some ⟨w.heap.size + 1, 0, none⟩), .pointer (some ⟨w.heap.size + 1 + 1, 0, none⟩), .pointer (some ⟨w.heap.size + 1 + 1 + 1, 0, none⟩), u, .agg #[.slice (some ⟨b0, o0, none⟩) n c0, .slice (some ⟨b0s, o0s, none⟩) n c0s], .bool true, .bool false, .bool false, .agg #[.slice (some ⟨b1, o1, none⟩) m c1, .slice (some ⟨b1s, o1s, none⟩) m c1s], .bool true, .bool false, .bool false, .pointer (some ⟨w.heap.size, 0, none⟩), .slice (some ⟨b0, o0, none⟩) n c0, .pointer (some ⟨w.heap.size, 1, none⟩), .slice (some ⟨b0s, o0s, none⟩) n c0s, .slice (some ⟨w2.heap.size, 0, none⟩) 2 2, .pointer (some ⟨w.heap.size + 1, 0, none⟩), .slice (some ⟨b1, o1, none⟩) m c1, .pointer (some ⟨w.heap.size + 1, 1, none⟩), .slice (some ⟨b1s, o1s, none⟩) m c1s, .slice (some ⟨w2.heap.size + 1, 0, none⟩) 2 2, .func (.func 53) #[] #[.pointer (some ⟨g1, 0, none⟩), .pointer (some ⟨g2, 0, none⟩)], u, undef, undef], defers := [] })
    ?assign ?body ?done ?stop
  case hI =>
    rintro hi k W W' ⟨h1, h2, h3, h4, h5, h6⟩ hk
    exact ⟨h1, h2.of_block (hk.block _ h2.lt (by omega)), h3.of_block (hk.block _ h3.lt (by omega)), h4.trans (hk.below fun k hk' => ⟨by have := h4.size; omega, by omega⟩), h5.trans (hk.below fun k hk' => ⟨by have := h5.size; omega, by omega⟩), Nat.le_trans h6 hk.size⟩
  case hIx =>
    rintro c hi k W W' ⟨h1, v, h2, h3, h4, h5, h6, h7⟩ hk
    exact ⟨h1, v, h2.of_block (hk.block _ h2.lt (by omega)), h3.of_block (hk.block _ h3.lt (by omega)), h4.keep hk (fun b hb _ h => by omega), h5, h6.trans (hk.below fun k hk' => ⟨by have := h6.size; omega, by omega⟩), h7⟩
  case h0 =>
    intro W' hb
    exact ⟨rfl, G2'.out.under hb, G3'.out.under hb, bb HB3.out hb, bb HBb.out hb, hb.size⟩
  case assign =>
    intro l u W K hK
    gi_wp2
    exact hK
  case body =>
    rintro l hi k u W ⟨h1, h2, h3, h4, h5, h6⟩ hhi hW hk hu
    subst h1
    have HU := Lib.hid hu; have H2 := Lib.hid h2; have H3 := Lib.hid h3; have H4 := Lib.hid h4
    have hl0 := HLen.out 0 hk
    have q4 := one_cell h2; have q5 := one_cell h3; have q6 := h2.frozen 0; have q7 := h3.frozen 0
    clear hu h2 h3 h4 h5 h6
    gi_wp2_with fail
    refine ⟨trivial, ?_⟩
    gi_at_call 37
    refine (CallsIn.inRound l (callsIn_wide.2 (c_Clone _ _ _ HU.out (by rw [hl0]; omega)))).mono ?_
    rintro e w' ⟨r, rfl, ho, hb⟩
    obtain ⟨qa, qc, hqv, _⟩ := ho.shape
    rw [hl0] at hqv
    subst hqv
    obtain ⟨r, hr⟩ : ∃ r, r = Value.slice qa n qc := ⟨_, rfl⟩
    have p2 := H2.out.under hb; have p3 := H3.out.under hb
    have r4 := one_cell p2; have r5 := one_cell p3; have r6 := p2.frozen 0; have r7 := p3.frozen 0
    have r8 := (p2.set 0 r).frozen 0
    have r9 := (p3.other (a := ⟨w.heap.size + 1 + 1, 0, none⟩) (by show w.heap.size + 1 + 1 + 1 ≠ w.heap.size + 1 + 1; omega) r).frozen 0
    have P2 := Lib.hid p2; have P3 := Lib.hid p3; have HO := Lib.hid ho; have HBw := Lib.hid hb
    clear q4 q5 q6 q7 p2 p3 ho hb
    subst hr
    gi_wp2
    have hk0 : Keep (fun b => (b = w.heap.size + 1 + 1 ∨ b = w.heap.size + 1 + 1 + 1) ∨ hi ≤ b) W w' := (Keep.of_below HBw.out).mono fun b hb h => by omega
    have hk1 := (hk0.setCell (p := ⟨w.heap.size + 1 + 1, 0, none⟩) (.inl (.inl (.inl rfl))) (.slice qa n qc)).setCell (p := ⟨w.heap.size + 1 + 1 + 1, 0, none⟩) (.inl (.inl (.inr rfl))) (.int .i64 0)
    refine ⟨hk1, rfl, .slice qa n qc, ?_, ?_, ?_, ?_, ?_, by omega⟩
    · have := (P2.out.set 0 (.slice qa n qc)).other (a := ⟨w.heap.size + 1 + 1 + 1, 0, none⟩) (by show w.heap.size + 1 + 1 ≠ w.heap.size + 1 + 1 + 1; omega) (.int .i64 0)
      simpa using this
    · have := (P3.out.other (a := ⟨w.heap.size + 1 + 1, 0, none⟩) (by show w.heap.size + 1 + 1 + 1 ≠ w.heap.size + 1 + 1; omega) (.slice qa n qc)).set 0 (.int .i64 0)
      simpa using this
    · have e : isoRes A B C D = row (isoL A B C D) (0 : Nat) := by
        rw [HRes.out.1]
        unfold row
        cases isoL A B C D <;> simp
      rw [e]
      have h1 : Own hi w' (.slice qa n qc) (row (isoL A B C D) (0 : Nat)) := HO.out.mono hW
      exact (h1.keep (keep1 w' (w.heap.size + 1 + 1) 0 (.slice qa n qc)) (fun b h1 _ h3 => by have h3 : b = w.heap.size + 1 + 1 := h3; omega)).keep (keep1 _ (w.heap.size + 1 + 1 + 1) 0 (.int .i64 0)) (fun b h1 _ h3 => by have h3 : b = w.heap.size + 1 + 1 + 1 := h3; omega)
    · rw [HRes.out.2, if_neg]
      intro h
      have : isoL A B C D = [] := by simpa using h
      rw [this] at hk
      simp at hk
    · exact H4.out.trans (hk1.below fun b hb => ⟨by have := H4.out.size; omega, by omega⟩)
  case done =>
    rintro dd hi W hD hDh ⟨h1, h2, h3, h4, h5, h6⟩ hK
    have he : isoL A B C D = [] := List.eq_nil_of_length_eq_zero h1.symm.symm
    have HE := Lib.hid he
    have q4 := one_cell h2; have q5 := one_cell h3; have q6 := h2.frozen 0; have q7 := h3.frozen 0
    have r9 := (h3.other (a := ⟨w.heap.size + 1 + 1, 0, none⟩) (by show w.heap.size + 1 + 1 + 1 ≠ w.heap.size + 1 + 1; omega) (.slice none 0 0)).frozen 0
    have HK := Lib.hid (show ((W.setCell ⟨w.heap.size + 1 + 1, 0, none⟩ (.slice none 0 0)).setCell ⟨w.heap.size + 1 + 1 + 1, 0, none⟩ (.int .i64 4)).heap[dd]? = some (.deferred (some [])) by
      rw [Below.heap_setCell _ _ _ _ (by show dd ≠ w.heap.size + 1 + 1 + 1; omega), Below.heap_setCell _ _ _ _ (by show dd ≠ w.heap.size + 1 + 1; omega)]; exact hK)
    have p2 := (h2.set 0 (.slice none 0 0)).other (a := ⟨w.heap.size + 1 + 1 + 1, 0, none⟩) (by show w.heap.size + 1 + 1 ≠ w.heap.size + 1 + 1 + 1; omega) (.int .i64 4)
    have p3 := (h3.other (a := ⟨w.heap.size + 1 + 1, 0, none⟩) (by show w.heap.size + 1 + 1 + 1 ≠ w.heap.size + 1 + 1; omega) (.slice none 0 0)).set 0 (.int .i64 4)
    have H4 := Lib.hid ((h4.setCell (p := ⟨w.heap.size + 1 + 1, 0, none⟩) (by show w.heap.size ≤ w.heap.size + 1 + 1; omega) (.slice none 0 0)).setCell (p := ⟨w.heap.size + 1 + 1 + 1, 0, none⟩) (by show w.heap.size ≤ w.heap.size + 1 + 1 + 1; omega) (.int .i64 4))
    have P2 := Lib.hid p2; have P3 := Lib.hid p3
    clear h1 h2 h3 h4 h5 h6 he hK p2 p3
    gi_wp2
    refine ⟨by simp, .inl ⟨_, _, rfl, run_takeDeferred HK.out, ?_⟩⟩
    have hk := keep_putObj ((W.setCell ⟨w.heap.size + 1 + 1, 0, none⟩ (.slice none 0 0)).setCell ⟨w.heap.size + 1 + 1 + 1, 0, none⟩ (.int .i64 4)) dd (.deferred none)
    have c4 := one_cell (P2.out.of_block (hk.block _ P2.out.lt (by show w.heap.size + 1 + 1 ≠ dd; omega)))
    have c5 := one_cell (P3.out.of_block (hk.block _ P3.out.lt (by show w.heap.size + 1 + 1 + 1 ≠ dd; omega)))
    refine ⟨.tuple #[.slice none 0 0, .int .i64 4], by simp [results, Try.results9, go_sem, c4, c5], .slice none 0 0, by rw [HRes.out.2, HE.out]; rfl, by rw [HRes.out.1, HE.out]; exact Own.nil _ _, ?_⟩
    exact H4.out.trans (hk.below fun k hk' => ⟨by have := H4.out.size; omega, by omega⟩)
  case stop =>
    rintro dd hi k c W hD hDh ⟨rfl, v, h2, h3, h4, h5, h6, h7⟩ hK
    obtain ⟨va, vc, rfl, _⟩ := h4.shape
    have hk := keep_putObj W dd (.deferred none)
    have c4 := one_cell (h2.of_block (hk.block _ h2.lt (by show w.heap.size + 1 + 1 ≠ dd; omega)))
    have c5 := one_cell (h3.of_block (hk.block _ h3.lt (by show w.heap.size + 1 + 1 + 1 ≠ dd; omega)))
    gi_wp2
    refine ⟨by simp, .inl ⟨_, _, rfl, run_takeDeferred hK, ?_⟩⟩
    refine ⟨.tuple #[.slice va (isoRes A B C D).length vc, .int .i64 0], by simp [results, Try.results9, go_sem, c4, c5], .slice va (isoRes A B C D).length vc, by rw [h5], ?_, ?_⟩
    · exact (h4.keep hk (fun b hb _ h => by have h : b = dd := h; omega)).mono (show w.heap.size ≤ hi by omega)
    · exact h6.trans (hk.below fun k hk' => ⟨by have := h6.size; omega, by omega⟩)
end Go.Proofs.Ytgmhnjccgldddaa

namespace Go.Proofs.Ytgmhnjccgldddaa
set_option linter.unusedVariables false
set_option linter.unusedSimpArgs false
open Go Go.RowKit

/-- 'append(s, src...)' at an operation, s of the call's own from m on. -/
theorem wp_app_intsM {o : Oper} {a : Act} {K : Act → World → Prop} {Q : Exit → Act → World → Prop} (m : Nat) (w : World) (v u : Value) (xs ys : List Int) (s x : Operand)
    (ho : o.op = .call { callee := .builtin .append, args := #[s, x], argTypes := #[26, 26] })
    (hs : a.eval s = v) (hown : Own m w v xs) (hx : a.eval x = u) (hu : Ints w u ys) (hn : xs.length + ys.length ≤ 1099511627776) (hm : m ≤ w.heap.size)
    (h : ∀ a' c' w', Own m w' (.slice a' (xs.length + ys.length) c') (xs ++ ys) → Keep (fun b => v.ownBlock = some b) w w' → K (a.put o.dst (.slice a' (xs.length + ys.length) c')) w') : o.wp Try.prog a w K Q := by
  obtain ⟨i0, hi, hz0, hz1, hz2⟩ := info_parts inf_int64
  obtain ⟨ad, c, rfl, hc, hmx, hcell⟩ := hu
  cases ad with
  | none =>
    have h0 : ys = [] := by
      cases ys with
      | nil => rfl
      | cons y ys => obtain ⟨b, o, e, _⟩ := hcell 0 (by simp); cases e
    subst h0
    obtain ⟨sa, sc, rfl, hsc⟩ := hown.shape
    have hr : (Builtin.append_ #[26, 26] o.type #[.slice sa xs.length sc, .slice none 0 c]).run Try.prog w = .ok (.slice sa xs.length sc) w := by
      rcases hown.2 with ⟨e, _⟩ | ⟨g, cap, cur, e, _, _, hnc, _⟩
      · simp [Builtin.append_, run_underlying Try.underlying26, sizeOf, typeInfo, hi, Builtin.lenOf, Builtin.firstCells, e]
      · simp [Builtin.append_, run_underlying Try.underlying26, sizeOf, typeInfo, hi, Builtin.lenOf, Builtin.firstCells, hnc, storeCells, e]
    unfold Oper.wp
    have hx' : a.eval x = .slice none 0 c := by simpa using hx
    simp [execOp, ho, resolve, invoke, builtin, hs, hx', hr, Result.andThen]
    show K (a.put o.dst (.slice sa xs.length sc)) w
    simpa using h sa sc w (by simpa using hown) (Keep.refl _ _)
  | some ad =>
    refine wp_append_own _ s x 26 ho m 2 i0 (.int .i64 0) 1 8 Try.underlying26 hi hz0 hz1 hz2 rfl (by decide) v xs.length (xs.map (Value.int .i64)) hs hown ad ys.length c (ys.map (Value.int .i64)) hx (by simp) ?_ (by intro u hu; simp at hu; obtain ⟨z, _, rfl⟩ := hu; rfl) (by unfold maxLen; omega) (by omega) hm ?_
    · intro j u hj
      have hjl : j < ys.length := by
        rcases Nat.lt_or_ge j ys.length with h | h
        · exact h
        · simp [List.getElem?_eq_none (show (ys.map (Value.int .i64)).length ≤ j by simpa using h)] at hj
      obtain ⟨b, o, e, hcl⟩ := hcell j hjl
      cases e
      rw [Go.WideShapes.add_plain, hcl]
      simp [List.getElem?_eq_getElem hjl] at hj
      rw [hj]
    · intro v' w' h1 h2 _
      have hO : Own m w' v' (xs ++ ys) := by simpa [Own] using h1
      obtain ⟨a', c', rfl, _⟩ := hO.shape
      rw [List.length_append] at hO ⊢
      exact h a' c' w' hO (Keep.of_grown h2)
theorem step_app_intsM {ops : Array Oper} {o : Oper} {a : Act} {K : Act → World → Prop} {Q : Exit → Act → World → Prop} {E : Prop} (m : Nat) (w : World) (v u : Value) (xs ys : List Int) (L : Nat) (hL : xs.length + ys.length = L) (s x : Operand) (hgd : o.guard = none)
    (ho : o.op = .call { callee := .builtin .append, args := #[s, x], argTypes := #[26, 26] })
    (hs : a.eval s = v) (hown : Own m w v xs) (hx : a.eval x = u) (hu : Ints w u ys) (hn : L ≤ 1099511627776) (hm : m ≤ w.heap.size)
    (h : ∀ a' c' w', Own m w' (.slice a' L c') (xs ++ ys) → Keep (fun b => v.ownBlock = some b) w w' → K (a.put o.dst (.slice a' L c')) w') :
    if Region.wanted o (yielded ops a.tmps) = true then Oper.wp Try.prog o a w K Q else E := by
  subst hL
  have hw : Region.wanted o (yielded ops a.tmps) = true := by simp [Region.wanted, hgd]
  rw [if_pos hw]
  exact wp_app_intsM m w v u xs ys s x ho hs hown hx hu hn hm h
theorem wpList_app_intsM {ops : Array Oper} {rest : List Oper} {o : Oper} {a : Act} {Q : Exit → Act → World → Prop} (m : Nat) (w : World) (v u : Value) (xs ys : List Int) (s x : Operand) (hgd : o.guard = none)
    (ho : o.op = .call { callee := .builtin .append, args := #[s, x], argTypes := #[26, 26] })
    (hs : a.eval s = v) (hown : Own m w v xs) (hx : a.eval x = u) (hu : Ints w u ys) (hn : xs.length + ys.length ≤ 1099511627776) (hm : m ≤ w.heap.size)
    (h : ∀ a' c' w', Own m w' (.slice a' (xs.length + ys.length) c') (xs ++ ys) → Keep (fun b => v.ownBlock = some b) w w' → wpList Try.prog ops Q rest (a.put o.dst (.slice a' (xs.length + ys.length) c')) w') :
    wpList Try.prog ops Q (o :: rest) a w :=
  wpList_plain hgd fun _ hK => wp_app_intsM m w v u xs ys s x ho hs hown hx hu hn hm fun a' c' w' h1 h2 => hK _ _ (h a' c' w' h1 h2)
end Go.Proofs.Ytgmhnjccgldddaa

namespace Go.Proofs.Ytgmhnjccgldddaa
set_option linter.unusedVariables false
set_option linter.unusedSimpArgs false
open Go Go.RowKit

/-- The place of p in an ascending list: what lies ahead of it is less, what lies behind is not. -/
structure PutAt (S : List (List Int)) (p : List Int) (lo hi : Nat) : Prop where
  le : lo ≤ hi
  len : hi ≤ S.length
  less : ∀ i : Nat, i < lo → lexB (row S i) p = true
  more : ∀ i : Nat, hi ≤ i → i < S.length → lexB (row S i) p = false
theorem ascR_lt {S : List (List Int)} (h : AscR S) {i j : Nat} (hij : i < j) (hj : j < S.length) : lexB (row S i) (row S j) = true := by
  rw [row_nat _ _ (by omega), row_nat _ _ hj]
  exact List.pairwise_iff_getElem.1 h i j (by omega) hj hij
theorem PutAt.start (S : List (List Int)) (p : List Int) : PutAt S p 0 S.length := ⟨Nat.zero_le _, Nat.le_refl _, fun i h => by omega, fun i h1 h2 => by omega⟩
theorem PutAt.up {S : List (List Int)} {p : List Int} {lo hi at' : Nat} (h : PutAt S p lo hi) (hs : AscR S) (h2 : at' < hi) (hl : lexB (row S at') p = true) : PutAt S p (at' + 1) hi := by
  refine ⟨h2, h.len, fun i hi' => ?_, h.more⟩
  rcases Nat.lt_or_ge i at' with e | e
  · exact lexB_trans (ascR_lt hs e (Nat.lt_of_lt_of_le h2 h.len)) hl
  · have : i = at' := by omega
    rw [this]; exact hl
theorem PutAt.down {S : List (List Int)} {p : List Int} {lo hi at' : Nat} (h : PutAt S p lo hi) (hs : AscR S) (h1 : lo ≤ at') (h2 : at' < hi) (hl : lexB (row S at') p = false) : PutAt S p lo at' := by
  refine ⟨h1, Nat.le_of_lt (Nat.lt_of_lt_of_le h2 h.len), h.less, fun i hi' hi2 => ?_⟩
  rcases Nat.lt_or_ge at' i with e | e
  · cases e3 : lexB (row S i) p
    · rfl
    · rw [lexB_trans (ascR_lt hs e hi2) e3] at hl; cases hl
  · have : i = at' := by omega
    rw [this]; exact hl
theorem put_in {S : List (List Int)} {p : List Int} {k : Nat} (hk : k < S.length) (e : row S k = p) : p ∈ S := by
  rw [← e]; exact row_mem (by omega) (by omega)
theorem put_new {S : List (List Int)} {p : List Int} {k : Nat} (h : PutAt S p k k) (hs : AscR S) (hne : ¬ (k < S.length ∧ row S k = p)) : p ∉ S ∧ AscR (S.take k ++ p :: S.drop k) ∧ (S.take k ++ p :: S.drop k).Perm (S ++ [p]) := by
  have hni : p ∉ S := by
    intro hp
    obtain ⟨i, hi, e⟩ := List.getElem_of_mem hp
    have e' : row S i = p := by rw [row_nat _ _ hi]; exact e
    rcases Nat.lt_trichotomy i k with g | g | g
    · have := h.less i g
      rw [e', lexB_irrefl] at this; cases this
    · subst g; exact hne ⟨hi, e'⟩
    · have h1 := h.more k (Nat.le_refl _) (by omega)
      have h2 := ascR_lt hs g hi
      rw [e'] at h2
      rw [h2] at h1; cases h1
  refine ⟨hni, ?_, ?_⟩
  · have hs' : (S.take k ++ S.drop k).Pairwise fun p q => lexB p q = true := by rw [List.take_append_drop]; exact hs
    obtain ⟨p1, p2, p3⟩ := List.pairwise_append.1 hs'
    refine List.pairwise_append.2 ⟨p1, List.pairwise_cons.2 ⟨fun b hb => ?_, p2⟩, fun a ha b hb => ?_⟩
    · obtain ⟨j, hj, e⟩ := List.getElem_of_mem hb
      rw [List.getElem_drop] at e
      simp only [List.length_drop] at hj
      have h1 := h.more (k + j) (by omega) (by omega)
      rw [row_nat _ _ (show k + j < S.length by omega), e] at h1
      exact lexB_total (fun e2 => hni (by rw [← e2]; exact List.mem_of_mem_drop hb)) h1
    · rcases List.mem_cons.1 hb with rfl | hb
      · obtain ⟨j, hj, e⟩ := List.getElem_of_mem ha
        rw [List.getElem_take] at e
        simp only [List.length_take] at hj
        have h1 := h.less j (by omega)
        rwa [row_nat _ _ (show j < S.length by omega), e] at h1
      · exact p3 a ha b hb
  · refine (List.perm_middle (a := p) (l₁ := S.take k) (l₂ := S.drop k)).trans ?_
    rw [List.take_append_drop]
    exact (List.perm_append_singleton p S).symm

/-! The cells: the new one at the end, then moved up to its place. -/
def shf (us : List Value) (u : Value) (k : Nat) : List Value := (us ++ [u]).take (k + 1) ++ us.drop k
theorem shf_end (us : List Value) (u : Value) : shf us u us.length = us ++ [u] := by simp [shf, List.take_of_length_le]
theorem shf_len (us : List Value) (u : Value) {k : Nat} (h : k ≤ us.length) : (shf us u k).length = us.length + 1 := by simp [shf]; omega
theorem shf_at (us : List Value) (u : Value) {k j : Nat} (h : j ≤ k) (hk : j < us.length) : (shf us u k)[j]? = us[j]? := by
  unfold shf
  rw [List.getElem?_append_left (by simp; omega), List.getElem?_take, if_pos (by omega), List.getElem?_append_left hk]
theorem shf_step (us : List Value) (u : Value) {k : Nat} (h1 : k < us.length) : (shf us u (k + 1)).set (k + 1) us[k] = shf us u k := by
  apply List.ext_getElem?
  intro j
  unfold shf
  rw [List.getElem?_set]
  by_cases e : k + 1 = j
  · subst e
    simp only [if_true]
    have h3 : k + 1 < ((us ++ [u]).take (k + 1 + 1) ++ us.drop (k + 1)).length := by simp; omega
    rw [if_pos h3, List.getElem?_append_right (by simp; omega)]
    have h4 : ((us ++ [u]).take (k + 1)).length = k + 1 := by simp; omega
    rw [h4, Nat.sub_self, List.getElem?_drop]
    simp [h1]
  · rw [if_neg e]
    rcases Nat.lt_or_ge j (k + 1) with h | h
    · rw [List.getElem?_append_left (by simp; omega), List.getElem?_append_left (by simp; omega), List.getElem?_take, List.getElem?_take, if_pos (by omega), if_pos (by omega)]
    · have h4 : ((us ++ [u]).take (k + 1)).length = k + 1 := by simp; omega
      have h5 : ((us ++ [u]).take (k + 1 + 1)).length = k + 2 := by simp; omega
      rw [List.getElem?_append_right (by rw [h5]; omega), List.getElem?_append_right (by rw [h4]; omega), h4, h5, List.getElem?_drop, List.getElem?_drop]
      congr 1; omega
theorem shf_done (us : List Value) (u : Value) {k : Nat} (h : k ≤ us.length) : (shf us u k).set k u = us.take k ++ u :: us.drop k := by
  apply List.ext_getElem?
  intro j
  unfold shf
  have h4 : ((us ++ [u]).take (k + 1)).length = k + 1 := by simp; omega
  have h5 : (us.take k).length = k := by simp; omega
  rw [List.getElem?_set]
  by_cases e : k = j
  · subst e
    rw [if_pos rfl, if_pos (by simp; omega), List.getElem?_append_right (by rw [h5]; exact Nat.le_refl _), h5, Nat.sub_self]
    rfl
  · rw [if_neg e]
    rcases Nat.lt_or_ge j k with h' | h'
    · rw [List.getElem?_append_left (by rw [h4]; omega), List.getElem?_append_left (by rw [h5]; omega), List.getElem?_take, List.getElem?_take, if_pos (by omega), if_pos (by omega), List.getElem?_append_left (by omega)]
    · rw [List.getElem?_append_right (by rw [h4]; omega), List.getElem?_append_right (by rw [h5]; omega), h4, h5]
      obtain ⟨i, rfl⟩ : ∃ i, j = k + 1 + i := ⟨j - (k + 1), by omega⟩
      rw [show k + 1 + i - k = i + 1 by omega, show k + 1 + i - (k + 1) = i by omega, List.getElem?_cons_succ]

/-- A row of one-cell values that nobody else holds, opened. -/
theorem ownsRow_open {B : Nat} {w : World} {t : TypeId} {v : Value} {us : List Value} (h : w.ownsRow B t 1 v us.length us) :
    (v = .slice none 0 0 ∧ us = []) ∨ ∃ g cs, v = .slice (some ⟨g, 0, none⟩) us.length (us.length + cs.length) ∧ B ≤ g ∧ Blk w g t (us ++ cs) ∧ us.length + cs.length ≤ maxLen := by
  obtain ⟨hl, h | ⟨g, cap, cur, rfl, hb, hg, hc, hm, hs, ht⟩⟩ := h
  · exact .inl ⟨h.1, List.eq_nil_of_length_eq_zero h.2⟩
  · have e : us ++ cur.toList.drop us.length = cur.toList := by
      rw [Nat.mul_one] at ht
      conv => lhs; lhs; rw [← ht]
      exact List.take_append_drop _ _
    refine .inr ⟨g, cur.toList.drop us.length, ?_, hb, ?_, ?_⟩
    · congr 1; simp; omega
    · unfold Blk
      rw [hg, e]
    · simp; omega
theorem ownsRow_shut {B : Nat} {w : World} {t : TypeId} {g : Nat} {us cs : List Value} (h : Blk w g t (us ++ cs)) (hB : B ≤ g) (hm : us.length + cs.length ≤ maxLen) {n m : Nat} (hn : n = us.length) (hm' : m = us.length + cs.length) :
    w.ownsRow B t 1 (.slice (some ⟨g, 0, none⟩) n m) us.length us := by
  subst hn; subst hm'
  refine ⟨by simp, .inr ⟨g, _, _, rfl, hB, h, by omega, hm, by simp, ?_⟩⟩
  simp only [Nat.mul_one]
  rw [List.take_append_of_le_length (by simp), List.take_of_length_le (by simp)]
/-- The rows in another order. -/
theorem RowVals.perm2 {B : Nat} {w : World} {us us2 : List Value} {X Y : List (List Int)} (h : RowVals B w us X) (hp : (us2.zip Y).Perm (us.zip X)) (hl : us2.length = Y.length) : RowVals B w us2 Y := by
  have hz : ∀ i (h1 : i < us2.length) (h2 : i < Y.length), ∃ j, ∃ (h3 : j < us.length) (h4 : j < X.length), us2[i] = us[j] ∧ Y[i] = X[j] := by
    intro i h1 h2
    have h3 : i < (us2.zip Y).length := by simp; omega
    have hm : (us2.zip Y)[i] ∈ us.zip X := hp.mem_iff.1 (List.getElem_mem h3)
    obtain ⟨j, hj, e⟩ := List.getElem_of_mem hm
    rw [List.getElem_zip, List.getElem_zip] at e
    simp only [List.length_zip] at hj
    exact ⟨j, by omega, by omega, (congrArg Prod.fst e).symm, (congrArg Prod.snd e).symm⟩
  refine ⟨hl, fun i h1 h2 => ?_, ?_⟩
  · obtain ⟨j, h3, h4, e1, e2⟩ := hz i h1 h2
    rw [e1, e2]; exact h.own j h3 h4
  · have hu : us2.Perm us := by
      have := hp.map Prod.fst
      rwa [List.map_fst_zip (by omega), List.map_fst_zip (by have := h.len; omega)] at this
    refine (List.Perm.pairwise_iff ?_ hu).2 h.apart
    intro a b hab
    rcases hab with e | e
    · by_cases hb : b.ownBlock = none
      · exact .inl hb
      · exact .inr (by rw [e]; exact fun e2 => hb e2)
    · exact .inr (Ne.symm e)
end Go.Proofs.Ytgmhnjccgldddaa

namespace Go.Proofs.Ytgmhnjccgldddaa
set_option linter.unusedVariables false
set_option linter.unusedSimpArgs false

/-- A list in ascending order. -/
def srt (l : List Int) : List Int := l.mergeSort fun a b => decide (a ≤ b)
theorem srt_perm (l : List Int) : (srt l).Perm l := List.mergeSort_perm _ _
theorem srt_asc (l : List Int) : (srt l).Pairwise (· ≤ ·) := by
  have := List.pairwise_mergeSort (le := fun a b : Int => decide (a ≤ b)) (by intro a b c; simp; omega) (by intro a b; simp; omega) l
  exact this.imp fun h => by simpa using h
theorem srt_is {l m : List Int} (hp : m.Perm l) (hs : m.Pairwise (· ≤ ·)) : m = srt l := sorted_eq (hp.trans (srt_perm l).symm) hs (srt_asc l)
theorem srt_congr {l m : List Int} (h : l.Perm m) : srt l = srt m := (srt_is ((srt_perm l).trans h) (srt_asc l))
theorem srt_len (l : List Int) : (srt l).length = l.length := (srt_perm l).length_eq

def ownM (t : List (List Int)) (x y : Int) : Int := (if val2 t x y = y then 1 else 0) + (if val2 t y x = y then 2 else 0) + (if val2 t x y = x then 4 else 0) + (if val2 t y x = x then 8 else 0)
/-- What t and the colours tell of x at y. -/
def tellM (t : List (List Int)) (c : List Int) (x y : Int) : Int := ((nth c y * 64 + nth c (val2 t x y)) * 64 + nth c (val2 t y x)) * 16 + ownM t x y
/-- How often x stands in row y. -/
def cntM (n : Nat) (t : List (List Int)) (x y : Int) : Int := ((iota n).countP fun z => decide (val2 t y z = x) : Nat)
def tellC (n : Nat) (t : List (List Int)) (c : List Int) (x y : Int) : Int := 1099511627776 + nth c y * 64 + cntM n t x y
def rawM (n : Nat) (t : List (List Int)) (c : List Int) (x : Int) : List Int := (iota n).map (tellM t c x) ++ (iota n).map (tellC n t c x)
def markM (n : Nat) (F : List (List (List Int))) (c : List Int) (x : Int) : List Int := nth c x :: F.flatMap fun t => srt (rawM n t c x)

/-- p leads the colours c to the colours d. -/
def Keeps (n : Nat) (c d p : List Int) : Prop := ∀ x, InN n x → nth d (nth p x) = nth c x
theorem iso_rng {n : Nat} {F G : List (List (List Int))} {p : List Int} (h : IsoF n F G p) {x : Int} (hx : InN n x) : InN n (nth p x) := by
  have := h.1.1.lt (x := x) hx.1 (by rw [h.1.2]; exact hx.2)
  rw [h.1.2] at this; exact this
theorem iso_inj {n : Nat} {F G : List (List (List Int))} {p : List Int} (h : IsoF n F G p) {x y : Int} (hx : InN n x) (hy : InN n y) : nth p x = nth p y ↔ x = y :=
  ⟨fun e => h.1.1.inj hx.1 (by rw [h.1.2]; exact hx.2) hy.1 (by rw [h.1.2]; exact hy.2) e, fun e => by rw [e]⟩
theorem iso_perm {n : Nat} {F G : List (List (List Int))} {p : List Int} (h : IsoF n F G p) : ((iota n).map (nth p)).Perm (iota n) := by
  have e : (iota n).map (nth p) = p := by
    refine ext_nth (by simp [h.1.2]) fun k hk => ?_
    have hk' : k < n := by simpa using hk
    rw [nth_map _ _ _ (by omega) (by simp; omega), nth_iota n k (by omega) (by omega)]
  rw [e]
  have := h.1.1.perm
  rwa [h.1.2] at this
theorem tell_iso {n : Nat} {F G : List (List (List Int))} {c d p : List Int} (h : IsoF n F G p) (ht : Tabs n F) (hc : Keeps n c d p) {k : Nat} (hk : k < F.length) {x y : Int} (hx : InN n x) (hy : InN n y) :
    tellM (G.getD k []) d (nth p x) (nth p y) = tellM (F.getD k []) c x y := by
  have h1 := h.2 k hk x y hx hy
  have h2 := h.2 k hk y x hy hx
  have r1 := ht k hk x y hx hy
  have r2 := ht k hk y x hy hx
  unfold tellM ownM
  rw [← h1, ← h2, hc y hy, hc _ r1, hc _ r2]
  simp only [iso_inj h r1 hy, iso_inj h r2 hy, iso_inj h r1 hx, iso_inj h r2 hx]
theorem cnt_iso {n : Nat} {F G : List (List (List Int))} {p : List Int} (h : IsoF n F G p) (ht : Tabs n F) {k : Nat} (hk : k < F.length) {x y : Int} (hx : InN n x) (hy : InN n y) :
    cntM n (G.getD k []) (nth p x) (nth p y) = cntM n (F.getD k []) x y := by
  unfold cntM
  rw [← (iso_perm h).countP_eq, List.countP_map]
  congr 1
  refine List.countP_congr fun z hz => ?_
  have hz' : InN n z := (mem_iota n z).1 hz
  simp only [Function.comp, decide_eq_true_eq]
  rw [← h.2 k hk y z hy hz', iso_inj h (ht k hk y z hy hz') hx]
theorem raw_iso {n : Nat} {F G : List (List (List Int))} {c d p : List Int} (h : IsoF n F G p) (ht : Tabs n F) (hc : Keeps n c d p) {k : Nat} (hk : k < F.length) {x : Int} (hx : InN n x) :
    (rawM n (G.getD k []) d (nth p x)).Perm (rawM n (F.getD k []) c x) := by
  unfold rawM
  refine List.Perm.append ?_ ?_
  · refine ((iso_perm h).symm.map _).trans ?_
    rw [List.map_map]
    refine List.Perm.of_eq (List.map_congr_left fun y hy => ?_)
    exact tell_iso h ht hc hk hx ((mem_iota n y).1 hy)
  · refine ((iso_perm h).symm.map _).trans ?_
    rw [List.map_map]
    refine List.Perm.of_eq (List.map_congr_left fun y hy => ?_)
    have hy' := (mem_iota n y).1 hy
    simp only [Function.comp, tellC]
    rw [cnt_iso h ht hk hx hy', hc y hy']
theorem flat_congr {α β γ : Type} : ∀ (F : List α) (G : List β) (f : α → List γ) (g : β → List γ) (da : α) (db : β), F.length = G.length → (∀ k : Nat, k < F.length → f (F.getD k da) = g (G.getD k db)) → F.flatMap f = G.flatMap g
  | [], [], _, _, _, _, _, _ => rfl
  | [], _ :: _, _, _, _, _, h, _ => by simp at h
  | _ :: _, [], _, _, _, _, h, _ => by simp at h
  | a :: F, b :: G, f, g, da, db, h, hk => by
    have h0 := hk 0 (by simp)
    simp only [List.getD_cons_zero] at h0
    rw [List.flatMap_cons, List.flatMap_cons, h0, flat_congr F G f g da db (by simpa using h) fun k hlt => by simpa using hk (k + 1) (by simp; omega)]
/-- A map that keeps the colours leads each element to one of which as much is told. -/
theorem mark_iso {n : Nat} {F G : List (List (List Int))} {c d p : List Int} (h : IsoF n F G p) (ht : Tabs n F) (hl : F.length = G.length) (hc : Keeps n c d p) {x : Int} (hx : InN n x) : markM n G d (nth p x) = markM n F c x := by
  unfold markM
  rw [hc x hx]
  congr 1
  refine (flat_congr F G _ _ [] [] hl fun k hk => ?_).symm
  exact srt_congr (raw_iso h ht hc hk hx).symm

/-! Finer colours: the number of a mark among all marks. -/
/-- The marks of all elements of both sides. -/
def marksM (n : Nat) (F G : List (List (List Int))) (c d : List Int) : List (List Int) := (iota n).map (markM n F c) ++ (iota n).map (markM n G d)
theorem marksM_len (n : Nat) (F G : List (List (List Int))) (c d : List Int) : (marksM n F G c d).length = n + n := by simp [marksM]
theorem marksM_l {n : Nat} {F G : List (List (List Int))} {c d : List Int} {x : Nat} (hx : x < n) : row (marksM n F G c d) x = markM n F c x := by
  unfold marksM
  rw [row_nat _ _ (by simp; omega), List.getElem_append_left (by simpa using hx), List.getElem_map]
  congr 1
  have := nth_iota n x (by omega) (by omega)
  rwa [nth_nat _ _ (by simpa using hx)] at this
theorem marksM_r {n : Nat} {F G : List (List (List Int))} {c d : List Int} {x : Nat} (hx : x < n) : row (marksM n F G c d) (n + x : Nat) = markM n G d x := by
  unfold marksM
  rw [row_nat _ _ (by simp; omega), List.getElem_append_right (by simp), List.getElem_map]
  congr 1
  have := nth_iota n x (by omega) (by omega)
  rw [nth_nat _ _ (by simpa using hx)] at this
  simpa using this
/-- cs are the numbers of the marks ms in the list ks of kinds, which has no doubles. -/
structure Kinds (ms ks : List (List Int)) (cs : List Int) : Prop where
  asc : AscR ks
  mem : ∀ m, m ∈ ks ↔ m ∈ ms
  len : cs.length = ms.length
  num : ∀ i : Nat, i < ms.length → InN ks.length (nth cs i) ∧ row ks (nth cs i) = row ms i
theorem Kinds.eq {ms ks : List (List Int)} {cs : List Int} (h : Kinds ms ks cs) {i j : Nat} (hi : i < ms.length) (hj : j < ms.length) (e : row ms i = row ms j) : nth cs i = nth cs j := by
  obtain ⟨⟨a0, a1⟩, a2⟩ := h.num i hi
  obtain ⟨⟨b0, b1⟩, b2⟩ := h.num j hj
  rw [← a2, ← b2] at e
  have hn := asc_nodup h.asc
  rcases Int.lt_trichotomy (nth cs i) (nth cs j) with g | g | g
  · exfalso
    have h1 := List.pairwise_iff_getElem.1 h.asc (nth cs i).toNat (nth cs j).toNat (by omega) (by omega) (by omega)
    rw [← row_nat _ _ (show (nth cs i).toNat < ks.length by omega), ← row_nat _ _ (show (nth cs j).toNat < ks.length by omega), show (((nth cs i).toNat : Nat) : Int) = nth cs i by omega, show (((nth cs j).toNat : Nat) : Int) = nth cs j by omega, e, lexB_irrefl] at h1
    cases h1
  · exact g
  · exfalso
    have h1 := List.pairwise_iff_getElem.1 h.asc (nth cs j).toNat (nth cs i).toNat (by omega) (by omega) (by omega)
    rw [← row_nat _ _ (show (nth cs i).toNat < ks.length by omega), ← row_nat _ _ (show (nth cs j).toNat < ks.length by omega), show (((nth cs i).toNat : Nat) : Int) = nth cs i by omega, show (((nth cs j).toNat : Nat) : Int) = nth cs j by omega, e, lexB_irrefl] at h1
    cases h1
/-- The finer colours are kept too. -/
theorem Kinds.keeps {n : Nat} {F G : List (List (List Int))} {c d p : List Int} {ks : List (List Int)} {cs : List Int} (h : Kinds (marksM n F G c d) ks cs) (hp : IsoF n F G p) (ht : Tabs n F) (hl : F.length = G.length) (hc : Keeps n c d p) : Keeps n (cs.take n) (cs.drop n) p := by
  intro x hx
  have hy := iso_rng hp hx
  have hcl : cs.length = n + n := by rw [h.len, marksM_len]
  obtain ⟨X, rfl⟩ : ∃ X : Nat, x = X := ⟨x.toNat, by have := hx.1; omega⟩
  obtain ⟨Y, hY⟩ : ∃ Y : Nat, nth p X = Y := ⟨(nth p X).toNat, by have := hy.1; omega⟩
  have hX : X < n := by have := hx.2; omega
  have hYn : Y < n := by have := hy.2; omega
  rw [hY]
  have t1 : nth (cs.take n) X = nth cs X := by
    rw [nth_nat _ _ (by simp; omega), nth_nat _ _ (by omega), List.getElem_take]
  have t2 : nth (cs.drop n) Y = nth cs (n + Y : Nat) := by
    rw [nth_nat _ _ (by simp; omega), nth_nat _ _ (by omega), List.getElem_drop]
  rw [t1, t2]
  refine h.eq (by rw [marksM_len]; omega) (by rw [marksM_len]; omega) ?_
  rw [marksM_l hX, marksM_r hYn, ← hY]
  exact mark_iso hp ht hl hc hx
/-- .. so each stands equally often on both sides. -/
theorem keeps_count {n : Nat} {F G : List (List (List Int))} {c d p : List Int} (hp : IsoF n F G p) (hc : Keeps n c d p) (h1 : c.length = n) (h2 : d.length = n) (v : Int) : c.count v = d.count v := by
  have e : c = (iota n).map fun x => nth d (nth p x) := by
    refine ext_nth (by simp [h1]) fun k hk => ?_
    have hk' : k < n := by omega
    rw [nth_map _ _ _ (by omega) (by simp; omega), nth_iota n k (by omega) (by omega)]
    exact (hc k ⟨by omega, by omega⟩).symm
  have e2 : d = (iota n).map (nth d) := by
    refine ext_nth (by simp [h2]) fun k hk => ?_
    have hk' : k < n := by omega
    rw [nth_map _ _ _ (by omega) (by simp; omega), nth_iota n k (by omega) (by omega)]
  have e3 : ((iota n).map fun x => nth d (nth p x)).Perm ((iota n).map (nth d)) := by
    have := (iso_perm hp).map (nth d)
    rwa [List.map_map] at this
  rw [e, e3.count_eq, ← e2]
/-- All colours less than k stand among the colours. -/
def Used (k : Nat) (cs : List Int) : Prop := ∀ i : Nat, i < k → (i : Int) ∈ cs
theorem Kinds.used {ms ks : List (List Int)} {cs : List Int} (h : Kinds ms ks cs) : Used ks.length cs := by
  intro i hi
  have hm : row ks i ∈ ms := (h.mem _).1 (row_mem (by omega) (by omega))
  obtain ⟨j, hj, e⟩ := List.getElem_of_mem hm
  obtain ⟨⟨a0, a1⟩, a2⟩ := h.num j hj
  rw [row_nat ms j hj, e] at a2
  have hn := List.nodup_iff_pairwise_ne.1 (asc_nodup h.asc)
  have : nth cs j = i := by
    rw [row_nat ks i hi] at a2
    have b : (nth cs j).toNat < ks.length := by omega
    rw [show nth cs j = (((nth cs j).toNat : Nat) : Int) by omega, row_nat ks _ b] at a2
    rcases Nat.lt_trichotomy (nth cs j).toNat i with g | g | g
    · exact absurd a2 (List.pairwise_iff_getElem.1 hn _ _ b hi g)
    · omega
    · exact absurd a2.symm (List.pairwise_iff_getElem.1 hn _ _ hi b g)
  rw [← this]
  exact nth_mem (by omega) (by rw [h.len]; omega)
/-- There are no fewer kinds than colours. -/
theorem Kinds.more {n k : Nat} {F G : List (List (List Int))} {c d : List Int} {ks : List (List Int)} {cs : List Int} (h : Kinds (marksM n F G c d) ks cs) (h1 : c.length = n) (h2 : d.length = n) (hu : Used k (c ++ d)) : k ≤ ks.length := by
  rcases Nat.lt_or_ge ks.length k with hlt | hge
  · exfalso
    have hsub : ∀ x ∈ iota k, x ∈ ks.map fun m => nth m 0 := by
      intro x hx
      obtain ⟨x0, x1⟩ := (mem_iota k x).1 hx
      obtain ⟨X, rfl⟩ : ∃ X : Nat, x = X := ⟨x.toNat, by omega⟩
      rw [List.mem_map]
      rcases List.mem_append.1 (hu X (by omega)) with hc | hc
      · obtain ⟨j, hj, e⟩ := List.getElem_of_mem hc
        refine ⟨markM n F c j, (h.mem _).2 ?_, ?_⟩
        · rw [← marksM_l (G := G) (d := d) (show j < n by omega)]; exact row_mem (by omega) (by rw [marksM_len]; omega)
        · show nth c j = X
          rw [nth_nat _ _ hj, e]
      · obtain ⟨j, hj, e⟩ := List.getElem_of_mem hc
        refine ⟨markM n G d j, (h.mem _).2 ?_, ?_⟩
        · rw [← marksM_r (F := F) (c := c) (show j < n by omega)]; exact row_mem (by omega) (by rw [marksM_len]; omega)
        · show nth d j = X
          rw [nth_nat _ _ hj, e]
    have := (perm_of_sub (iota_nodup k) hsub (by simp; omega)).length_eq
    simp at this; omega
  · exact hge
theorem Kinds.few {ms ks : List (List Int)} {cs : List Int} (h : Kinds ms ks cs) : ks.length ≤ ms.length := by
  rcases Nat.lt_or_ge ms.length ks.length with hlt | hge
  · have := (perm_of_sub (asc_nodup h.asc) (fun x hx => (h.mem x).1 hx) (by omega)).length_eq
    omega
  · exact hge
end Go.Proofs.Ytgmhnjccgldddaa

namespace Go.Proofs.Ytgmhnjccgldddaa
set_option linter.unusedVariables false
set_option linter.unusedSimpArgs false
open Go Go.RowKit

/-- 'append(s, src...)' of slices at an operation, s of the call's own from m on. -/
theorem wp_app_vals {o : Oper} {a : Act} {K : Act → World → Prop} {Q : Exit → Act → World → Prop} (m : Nat) (w : World) (v : Value) (us ys : List Value) (sb so c : Nat) (s x : Operand)
    (ho : o.op = .call { callee := .builtin .append, args := #[s, x], argTypes := #[22, 22] })
    (hs : a.eval s = v) (hown : w.ownsRow m 26 1 v us.length us) (L : Nat) (hL : ys.length = L) (hx : a.eval x = .slice (some ⟨sb, so, none⟩) L c) (hu : ∀ j (h : j < ys.length), w.cell? ⟨sb, so + j, none⟩ = some ys[j]) (hone : ∀ y ∈ ys, y.oneCell' = true) (hn : us.length + ys.length ≤ 1099511627776) (hm : m ≤ w.heap.size)
    (h : ∀ v' w', w'.ownsRow m 26 1 v' (us ++ ys).length (us ++ ys) → Keep (fun b => v.ownBlock = some b) w w' → K (a.put o.dst v') w') : o.wp Try.prog a w K Q := by
  obtain ⟨i0, hi, hz0, hz1, hz2⟩ := info_parts inf_ints
  subst hL
  refine wp_append_own _ s x 22 ho m 26 i0 (.slice none 0 0) 1 24 Try.underlying22 hi hz0 hz1 hz2 rfl (by decide) v us.length us hs hown ⟨sb, so, none⟩ ys.length c ys hx (by simp) ?_ hone (by unfold maxLen; omega) (by omega) hm ?_
  · intro j u hj
    have hjl : j < ys.length := by
      rcases Nat.lt_or_ge j ys.length with h | h
      · exact h
      · simp [List.getElem?_eq_none h] at hj
    rw [Go.WideShapes.add_plain, hu j hjl]
    simp [List.getElem?_eq_getElem hjl] at hj
    rw [hj]
  · intro v' w' h1 h2 _
    exact h v' w' (by simpa using h1) (Keep.of_grown h2)
theorem wpList_app_vals {ops : Array Oper} {rest : List Oper} {o : Oper} {a : Act} {Q : Exit → Act → World → Prop} (m : Nat) (w : World) (v : Value) (us ys : List Value) (sb so c : Nat) (s x : Operand) (hgd : o.guard = none)
    (ho : o.op = .call { callee := .builtin .append, args := #[s, x], argTypes := #[22, 22] })
    (hs : a.eval s = v) (hown : w.ownsRow m 26 1 v us.length us) (L : Nat) (hL : ys.length = L) (hx : a.eval x = .slice (some ⟨sb, so, none⟩) L c) (hu : ∀ j (h : j < ys.length), w.cell? ⟨sb, so + j, none⟩ = some ys[j]) (hone : ∀ y ∈ ys, y.oneCell' = true) (hn : us.length + ys.length ≤ 1099511627776) (hm : m ≤ w.heap.size)
    (h : ∀ v' w', w'.ownsRow m 26 1 v' (us ++ ys).length (us ++ ys) → Keep (fun b => v.ownBlock = some b) w w' → wpList Try.prog ops Q rest (a.put o.dst v') w') :
    wpList Try.prog ops Q (o :: rest) a w :=
  wpList_plain hgd fun _ hK => wp_app_vals m w v us ys sb so c s x ho hs hown L hL hx hu hone hn hm fun v' w' h1 h2 => hK _ _ (h v' w' h1 h2)
theorem step_app_vals {ops : Array Oper} {o : Oper} {a : Act} {K : Act → World → Prop} {Q : Exit → Act → World → Prop} {E : Prop} (m : Nat) (w : World) (v : Value) (us ys : List Value) (sb so c : Nat) (s x : Operand) (hgd : o.guard = none)
    (ho : o.op = .call { callee := .builtin .append, args := #[s, x], argTypes := #[22, 22] })
    (hs : a.eval s = v) (hown : w.ownsRow m 26 1 v us.length us) (L : Nat) (hL : ys.length = L) (hx : a.eval x = .slice (some ⟨sb, so, none⟩) L c) (hu : ∀ j (h : j < ys.length), w.cell? ⟨sb, so + j, none⟩ = some ys[j]) (hone : ∀ y ∈ ys, y.oneCell' = true) (hn : us.length + ys.length ≤ 1099511627776) (hm : m ≤ w.heap.size)
    (h : ∀ v' w', w'.ownsRow m 26 1 v' (us ++ ys).length (us ++ ys) → Keep (fun b => v.ownBlock = some b) w w' → K (a.put o.dst v') w') :
    if Region.wanted o (yielded ops a.tmps) = true then Oper.wp Try.prog o a w K Q else E := by
  have hw : Region.wanted o (yielded ops a.tmps) = true := by simp [Region.wanted, hgd]
  rw [if_pos hw]
  exact wp_app_vals m w v us ys sb so c s x ho hs hown L hL hx hu hone hn hm h

/-- Values that read as lists of integers in a world. -/
structure VK (w : World) (us : List Value) (ks : List (List Int)) : Prop where
  len : us.length = ks.length
  ints : ∀ j (h : j < us.length), Ints w us[j] (row ks j)
namespace VK
variable {w w' : World} {us um : List Value} {ks ms : List (List Int)}
theorem nil (w : World) : VK w [] [] := ⟨rfl, fun j h => absurd h (Nat.not_lt_zero _)⟩
theorem below (h : VK w us ks) (hb : Below w.heap.size w w') : VK w' us ks := ⟨h.len, fun j hj => (h.ints j hj).below hb⟩
theorem one (h : VK w us ks) : ∀ y ∈ us, y.oneCell' = true := fun y hy => by
  obtain ⟨j, hj, rfl⟩ := List.getElem_of_mem hy
  obtain ⟨a, c, e, _⟩ := (h.ints j hj).shape
  rw [e]; rfl
/-- A value with what it reads as. -/
theorem pairs (h : VK w us ks) : ∀ j (hj : j < us.length) (hk : j < ks.length), Ints w us[j] ks[j] := fun j hj hk => by
  have := h.ints j hj
  rwa [row_nat _ _ hk] at this
theorem of_pairs (hl : us.length = ks.length) (h : ∀ j (hj : j < us.length) (hk : j < ks.length), Ints w us[j] ks[j]) : VK w us ks :=
  ⟨hl, fun j hj => by rw [row_nat _ _ (by omega)]; exact h j hj (by omega)⟩
theorem append {vs : List Value} {ls : List (List Int)} (h : VK w us ks) (k : VK w vs ls) : VK w (us ++ vs) (ks ++ ls) := by
  refine of_pairs (by simp [h.len, k.len]) fun j hj hk => ?_
  by_cases e : j < us.length
  · rw [List.getElem_append_left e, List.getElem_append_left (by rw [← h.len]; exact e)]
    exact h.pairs j e _
  · rw [List.getElem_append_right (by omega), List.getElem_append_right (by rw [← h.len]; omega)]
    simp only [← h.len]
    exact k.pairs _ _ _
theorem single {u : Value} {xs : List Int} (h : Ints w u xs) : VK w [u] [xs] := of_pairs rfl fun j hj hk => by
  have : j = 0 := by simpa using hj
  subst this
  exact h
theorem take (h : VK w us ks) (k : Nat) : VK w (us.take k) (ks.take k) := of_pairs (by simp [h.len]) fun j hj hk => by
  rw [List.getElem_take, List.getElem_take]
  exact h.pairs _ _ _
theorem drop (h : VK w us ks) (k : Nat) : VK w (us.drop k) (ks.drop k) := of_pairs (by simp [h.len]) fun j hj hk => by
  rw [List.getElem_drop, List.getElem_drop]
  exact h.pairs _ _ _
theorem at' (h : VK w us ks) (j : Nat) (hj : j < us.length) : ∃ a c, us[j] = .slice a (row ks j).length c ∧ Ints w (.slice a (row ks j).length c) (row ks j) := by
  have h1 := h.ints j hj
  obtain ⟨a, c, e, _⟩ := h1.shape
  exact ⟨a, c, e, by rw [← e]; exact h1⟩
end VK
/-- Rows of the call's own as values. -/
theorem OwnRows.vk {B : Nat} {w : World} {v : Value} {xss : List (List Int)} (h : OwnRows B w v xss) : ∃ us, w.ownsRow B 26 1 v us.length us ∧ VK w us xss := by
  obtain ⟨us, h1, h2⟩ := h
  exact ⟨us, h1, VK.of_pairs h2.len fun j hj hk => (h2.own j hj hk).ints⟩
theorem Blk.vcell {w : World} {b : Nat} {us cs : List Value} {t : TypeId} (h : Blk w b t (us ++ cs)) (k : Nat) (hk : k < us.length) : w.cell? ⟨b, k, none⟩ = some us[k] := by
  rw [h.cell (by simp; omega), List.getElem_append_left hk]

/-- The number of the place at which the walk stands: all ahead of it are less. -/
theorem kinds_put {ks : List (List Int)} {ms : List (List Int)} {m : List Int} {at' : Nat} (ha : AscR ks) (hm : ∀ x, x ∈ ks ↔ x ∈ ms) (hat : at' ≤ ks.length) (h1 : ∀ j : Nat, j < at' → lexB (row ks j) m = true) (h2 : at' < ks.length → lexB (row ks at') m = false) (h3 : at' < ks.length → row ks at' ≠ m) :
    AscR (ks.take at' ++ ([m] ++ ks.drop at')) ∧ ∀ x, x ∈ ks.take at' ++ ([m] ++ ks.drop at') ↔ x ∈ ms ++ [m] := by
  have hp : PutAt ks m at' at' := ⟨Nat.le_refl _, hat, h1, fun i hi hl => by
    rcases Nat.eq_or_lt_of_le hi with e | e
    · subst e; exact h2 hl
    · cases e3 : lexB (row ks i) m
      · rfl
      · have := lexB_trans (ascR_lt ha e hl) e3
        rw [h2 (by omega)] at this; cases this⟩
  obtain ⟨g1, g2, g3⟩ := put_new hp ha (fun h => h3 h.1 h.2)
  refine ⟨by simpa using g2, fun x => ?_⟩
  have h5 : x ∈ ks.take at' ++ ([m] ++ ks.drop at') ↔ x ∈ ks.take at' ++ m :: ks.drop at' := by simp
  rw [h5, g3.mem_iff, List.mem_append, List.mem_append, hm]
theorem kinds_same {ks ms : List (List Int)} {m : List Int} (hm : ∀ x, x ∈ ks ↔ x ∈ ms) (h : m ∈ ks) : ∀ x, x ∈ ks ↔ x ∈ ms ++ [m] := fun x => by
  rw [List.mem_append, ← hm, List.mem_singleton]
  exact ⟨.inl, fun e => e.elim id fun e => by rw [e]; exact h⟩
end Go.Proofs.Ytgmhnjccgldddaa

namespace Go.Proofs.Ytgmhnjccgldddaa
set_option linter.unusedVariables false
set_option linter.unusedSimpArgs false
open Go Go.RowKit

/-- What is asked of a beginning of M + 1 images at one place of one table. -/
def FitAt (F G : List (List (List Int))) (f : List Int) (M : Nat) (k x y : Nat) : Prop :=
  (M : Int) < val2 (F.getD k []) x y ∨ (x < M ∧ y < M ∧ val2 (F.getD k []) x y < M) ∨ nth f (val2 (F.getD k []) x y) = val2 (G.getD k []) (nth f x) (nth f y)
def FitAll (F G : List (List (List Int))) (f : List Int) (M : Nat) : Prop := ∀ k, k < F.length → ∀ x, x < M + 1 → ∀ y, y < M + 1 → FitAt F G f M k x y

open Classical in
noncomputable def fitsB (F G : List (List (List Int))) (f : List Int) (M : Nat) : Bool := decide (FitAll F G f M)
set_option maxRecDepth 100000 in
set_option maxHeartbeats 4000000 in
theorem c_l03Fits {n K : Nat} {F G : List (List (List Int))} {fb fo fc gb go' gc : Nat} {tb to tc tb' to' tc' : Nat → Nat} {rb ro rc rb' ro' rc' : Nat → Nat → Nat} (M : Nat) (f : List Int) (u : Value) (w : World) (hF : Tb3 w fb fo n K F tb to tc rb ro rc) (hG : Tb3 w gb go' n K G tb' to' tc' rb' ro' rc')
    (hKF : K = F.length) (hn : n ≤ 12) (hK : K ≤ 12) (hfc : K ≤ fc) (hgc : K ≤ gc) (hu : Ints w u f) (hf : f.length = M + 1) (hM : M < n) (hr : ∀ x ∈ f, InN n x) :
    Calls Try.prog 70 #[.slice (some ⟨fb, fo, none⟩) K fc, .slice (some ⟨gb, go', none⟩) K gc, u] w (QVal w (.bool (fitsB F G f M))) := by
  obtain ⟨a, c, rfl, hc, hm⟩ := hu.shape
  rw [hf] at hc ⊢
  have hu0 : Ints w (.slice a (M + 1) c) f := by rw [← hf]; rw [← hf] at hc; exact hu
  obtain ⟨ub, uo, rfl, _⟩ := hu0.get 0 (by omega)
  have HFG := Lib.hid (And.intro hF (And.intro hG hu0)); have HKF := Lib.hid hKF; have HFl := Lib.hid hf
  have HR : Hid (∀ x : Nat, x < M + 1 → ∃ X : Nat, nth f x = X ∧ X < n) := Lib.hid fun x hx => by
    have := hr _ (nth_mem (p := f) (x := (x : Int)) (by omega) (by omega))
    have h1 := this.1; have h2 := this.2; exact ⟨(nth f x).toNat, by omega, by omega⟩
  have HV : Hid (∀ k x y : Nat, k < K → x < n → y < n → ∃ U : Nat, val2 (F.getD k []) x y = U ∧ U < n) := Lib.hid fun k x y hk hx hy => by
    have := (hF.at' k hk).rng x y (by omega) (by omega) (by omega) (by omega)
    exact ⟨(val2 (F.getD k []) x y).toNat, by omega, by omega⟩
  have hM1 : ((M + 1 : Nat) : Int) - 1 = M := by omega
  have hM2 : (M : Int) + 1 - 1 = M := by omega
  clear hF hG hu0 hKF hf hr hu
  go_enter Try.func70, Try.ntmps70
  go_wp2
  go_loopw [8, 9, 10, 11] (fun a _ _ _ wr => ∃ k : Nat, k ≤ K ∧ a = .int .i64 k ∧ Hid (∃ m, wr = w.drewN m) ∧ Hid (∀ k', k' < k → ∀ x, x < M + 1 → ∀ y, y < M + 1 → FitAt F G f M k' x y)) (fun a _ _ _ _ => K - (intOf a).toNat)
  case atStart => exact ⟨0, Nat.zero_le _, rfl, Lib.hid ⟨0, rfl⟩, Lib.hid (by intro x hx; omega)⟩
  case round =>
    obtain ⟨k, hk, rfl, HB1, HA1⟩ := hrel
    obtain ⟨wo, rfl⟩ : ∃ wo : World, wo = wr := ⟨_, rfl⟩
    by_cases hlt : k < K
    · go_wp2
      go_loopw [9, 10, 11] (fun a _ _ wr => ∃ x : Nat, x ≤ M + 1 ∧ a = .int .i64 x ∧ Hid (∃ m, wr = w.drewN m) ∧ Hid (∀ x', x' < x → ∀ y, y < M + 1 → FitAt F G f M k x' y)) (fun a _ _ _ => M + 1 - (intOf a).toNat)
      case atStart => exact ⟨0, Nat.zero_le _, rfl, HB1, Lib.hid (by intro x hx; omega)⟩
      case round =>
        obtain ⟨x, hx, rfl, HB2, HA2⟩ := hrel
        obtain ⟨wp, rfl⟩ : ∃ wp : World, wp = wr := ⟨_, rfl⟩
        by_cases hlx : x < M + 1
        · have hlx2 : (x : Int) ≤ M := by omega
          go_wp2
          go_loopw [10, 11] (fun a _ wr => ∃ y : Nat, y ≤ M + 1 ∧ a = .int .i64 y ∧ Hid (∃ m, wr = w.drewN m) ∧ Hid (∀ y', y' < y → FitAt F G f M k x y')) (fun a _ _ => M + 1 - (intOf a).toNat)
          case atStart => exact ⟨0, Nat.zero_le _, rfl, HB2, Lib.hid (by intro x hx; omega)⟩
          case round =>
            obtain ⟨y, hy, rfl, HB3, HA3⟩ := hrel
            obtain ⟨wq, rfl⟩ : ∃ wq : World, wq = wr := ⟨_, rfl⟩
            by_cases hly : y < M + 1
            · have hly2 : (y : Int) ≤ M := by omega
              obtain ⟨U, hU, hUn⟩ := HV.out k x y hlt (by omega) (by omega)
              obtain ⟨X, hX, hXn⟩ := HR.out x hlx
              obtain ⟨Y, hY, hYn⟩ := HR.out y hly
              have hbw : Below w.heap.size w wq := by obtain ⟨m, rfl⟩ := HB3.out; exact below_drewN (Below.refl _ _) m
              have tF := HFG.out.1.below hbw
              have tG := HFG.out.2.1.below hbw
              have tU := HFG.out.2.2.below hbw
              have q1 := tF.tab k hlt
              have q2 := (tF.at' k hlt).row x (by omega)
              have q3 := (tF.at' k hlt).val x y (by omega) (by omega)
              rw [hU] at q3
              have HU := Lib.hid hU
              have HNext : Hid (FitAt F G f M k x y → ∀ y', y' < y + 1 → FitAt F G f M k x y') := Lib.hid (lt_snoc HA3.out)
              by_cases c1 : (M : Int) < U
              · have HN := Lib.hid (HNext.out (by unfold FitAt; rw [HU.out]; exact .inl c1))
                clear HU HNext hU hX hY tF tG tU
                go_wp2
                go_roundw
                case rel => exact ⟨y + 1, by omega, by go_num, HB3, HN⟩
                case measure => simp [intOf]; omega
              · by_cases c2 : x < M ∧ y < M ∧ (U : Int) < M
                · have HN := Lib.hid (HNext.out (by unfold FitAt; rw [HU.out]; exact .inr (.inl c2)))
                  obtain ⟨c3, c4, c5⟩ := c2
                  clear HU HNext hU hX hY tF tG tU
                  go_wp2
                  go_roundw
                  case rel => exact ⟨y + 1, by omega, by go_num, HB3, HN⟩
                  case measure => simp [intOf]; omega
                · have hUM : U < M + 1 := by omega
                  obtain ⟨Z, hZ, hZn⟩ := HR.out U hUM
                  have q4 := tU.at U (by rw [HFl.out]; omega)
                  have q5 := tU.at x (by rw [HFl.out]; omega)
                  have q6 := tU.at y (by rw [HFl.out]; omega)
                  have q7 := tG.tab k hlt
                  have q8 := (tG.at' k hlt).row X hXn
                  have q9 := (tG.at' k hlt).val X Y hXn hYn
                  rw [hZ] at q4; rw [hX] at q5; rw [hY] at q6
                  have HIff : Hid (FitAt F G f M k x y ↔ (Z : Int) = val2 (G.getD k []) X Y) := Lib.hid (by
                    unfold FitAt
                    rw [HU.out, hZ, hX, hY]
                    constructor
                    · rintro (h | h | h)
                      · exact absurd h c1
                      · exact absurd h c2
                      · exact h
                    · intro h; exact .inr (.inr h))
                  have hcase : (¬ x < M) ∨ (x < M ∧ ¬ y < M) ∨ (x < M ∧ y < M ∧ ¬ (U : Int) < M) := by omega
                  obtain ⟨V, hV⟩ : ∃ V, val2 (G.getD k []) X Y = V := ⟨_, rfl⟩
                  rw [hV] at q9 HIff
                  have HHit : Hid (¬ (Z : Int) = V → ¬ FitAll F G f M) := Lib.hid fun h hall => h (HIff.out.1 (hall k (by rw [← HKF.out]; exact hlt) x hlx y hly))
                  clear HU hU hX hY hZ tF tG tU c2 hV
                  rcases hcase with c3 | ⟨c3, c4⟩ | ⟨c3, c4, c5⟩
                  all_goals
                    by_cases he : (Z : Int) = V
                    · have HN := Lib.hid (HNext.out (HIff.out.2 he))
                      have hb : ((Z : Int) != V) = false := by simp [he]
                      clear HNext HIff HHit
                      go_wp2
                      go_quiet (fail)
                      rename_i nq
                      have HB4 : Hid (∃ m, wq.drewN nq = w.drewN m) := by
                        obtain ⟨m, hm⟩ := HB3.out
                        exact Lib.hid ⟨m + nq, by rw [hm, World.drewN_drewN]⟩
                      go_wp2
                      go_roundw
                      case rel => exact ⟨y + 1, by omega, by go_num, HB4, HN⟩
                      case measure => simp [intOf]; omega
                    · have HN := Lib.hid (HHit.out he)
                      have hb : ((Z : Int) != V) = true := by simpa using he
                      clear HNext HIff HHit
                      go_wp2
                      go_quiet (fail)
                      rename_i nq
                      have HB4 : Hid (∃ m, wq.drewN nq = w.drewN m) := by
                        obtain ⟨m, hm⟩ := HB3.out
                        exact Lib.hid ⟨m + nq, by rw [hm, World.drewN_drewN]⟩
                      go_wp2
                      go_ret
                      exact ⟨ret_bool (by symm; unfold fitsB; simpa using HN.out), HB4.out⟩
            · obtain rfl : y = M + 1 := by omega
              go_wp2
              go_roundw
              case rel => exact ⟨x + 1, by omega, by go_num, HB3, Lib.hid (lt_snoc HA2.out HA3.out)⟩
              case measure => simp [intOf]; omega
        · obtain rfl : x = M + 1 := by omega
          go_wp2
          go_roundw
          case rel => exact ⟨k + 1, by omega, by go_num, HB2, Lib.hid (lt_snoc HA1.out HA2.out)⟩
          case measure => simp [intOf]; omega
    · obtain rfl : K = k := by omega
      go_wp2
      go_ret
      exact ⟨ret_bool (by symm; unfold fitsB; simp only [decide_eq_true_eq]; intro k hk; exact HA1.out k (by rw [HKF.out]; exact hk)), HB1.out⟩
end Go.Proofs.Ytgmhnjccgldddaa

namespace Go.Proofs.Ytgmhnjccgldddaa
set_option linter.unusedVariables false
set_option linter.unusedSimpArgs false
open Go Go.RowKit

/-- All that is known of a beginning fits. -/
def FitUp (F G : List (List (List Int))) (f : List Int) : Prop := ∀ k : Nat, k < F.length → ∀ x y : Nat, x < f.length → y < f.length → val2 (F.getD k []) x y < f.length → nth f (val2 (F.getD k []) x y) = val2 (G.getD k []) (nth f x) (nth f y)
theorem nth_left (f : List Int) (y : Int) {z : Int} (h0 : 0 ≤ z) (h : z < f.length) : nth (f ++ [y]) z = nth f z := nth_append_left _ _ _ h h0
theorem FitUp.snoc {n : Nat} {F G : List (List (List Int))} {f : List Int} {y : Int} (ht : Tabs n F) (hf : f.length < n) (h : FitUp F G f) (ha : FitAll F G (f ++ [y]) f.length) : FitUp F G (f ++ [y]) := by
  intro k hk x z hx hz hv
  simp only [List.length_append, List.length_singleton] at hx hz hv
  have hr := ht k hk x z ⟨by omega, by omega⟩ ⟨by omega, by omega⟩
  rcases ha k hk x hx z hz with h1 | ⟨h1, h2, h3⟩ | h1
  · omega
  · rw [nth_left _ _ hr.1 h3, nth_left _ _ (by omega) (by omega), nth_left _ _ (by omega) (by omega)]
    exact h k hk x z h1 h2 h3
  · exact h1
theorem fitAll_iso {n : Nat} {F G : List (List (List Int))} {g p : List Int} {M : Nat} (ht : Tabs n F) (hp : IsoF n F G p) (hg : p.take g.length = g) (hl : g.length = M + 1) (hM : M < n) : FitAll F G g M := by
  have hn : ∀ z : Int, 0 ≤ z → z < M + 1 → nth g z = nth p z := fun z h0 h1 => by
    have hpl := hp.1.2
    have hz : z.toNat < g.length := by omega
    have e1 := nth_nat g z.toNat hz
    have e2 := nth_nat p z.toNat (by omega)
    rw [show ((z.toNat : Nat) : Int) = z by omega] at e1 e2
    rw [e1, e2]
    have h3 : (p.take g.length)[z.toNat]? = p[z.toNat]? := by rw [List.getElem?_take, if_pos (by omega)]
    rw [hg] at h3
    rw [List.getElem?_eq_getElem hz, List.getElem?_eq_getElem (by omega)] at h3
    exact Option.some.inj h3
  intro k hk x hx y hy
  have hr := ht k hk x y ⟨by omega, by omega⟩ ⟨by omega, by omega⟩
  by_cases h : (M : Int) < val2 (F.getD k []) x y
  · exact .inl h
  · refine .inr (.inr ?_)
    rw [hn _ hr.1 (by omega), hn x (by omega) (by omega), hn y (by omega) (by omega)]
    exact hp.2 k hk x y ⟨by omega, by omega⟩ ⟨by omega, by omega⟩
theorem FitUp.full {n : Nat} {F G : List (List (List Int))} {f : List Int} (ht : Tabs n F) (h : FitUp F G f) (hl : f.length = n) (hnd : f.Nodup) (hr : ∀ x ∈ f, InN n x) : IsoF n F G f := by
  refine ⟨⟨⟨hnd, fun x hx => by rw [hl]; exact hr x hx⟩, hl⟩, fun k hk x y hx hy => ?_⟩
  obtain ⟨X, rfl⟩ : ∃ X : Nat, x = X := ⟨x.toNat, by have := hx.1; omega⟩
  obtain ⟨Y, rfl⟩ : ∃ Y : Nat, y = Y := ⟨y.toNat, by have := hy.1; omega⟩
  have h1 := hx.2; have h2 := hy.2
  exact h k hk X Y (by omega) (by omega) (by have := (ht k hk X Y hx hy).2; omega)
theorem mem_isoP {n : Nat} {F G : List (List (List Int))} {f p : List Int} : p ∈ isoP n F G f ↔ IsoF n F G p ∧ p.take f.length = f := mem_isoQ
theorem isoP_at {n : Nat} {F G : List (List (List Int))} {f p : List Int} {y : Int} (h : p ∈ isoP n F G (f ++ [y])) : p ∈ isoP n F G f ∧ nth p f.length = y ∧ f.length < n := by
  obtain ⟨h1, h2⟩ := mem_isoP.1 h
  have hpl := h1.1.2
  rw [List.length_append, List.length_singleton] at h2
  have hlt : f.length < p.length := by
    have := congrArg List.length h2
    simp at this; omega
  rw [take_snoc p f.length hlt] at h2
  have hll : (p.take f.length).length = f.length := by simp; omega
  have h3 := List.append_inj h2 hll
  exact ⟨mem_isoP.2 ⟨h1, h3.1⟩, by simpa using h3.2, by omega⟩
theorem isoP_has {n : Nat} {F G : List (List (List Int))} {f : List Int} {y : Int} (h : y ∈ f) : isoP n F G (f ++ [y]) = [] := by
  rw [List.eq_nil_iff_forall_not_mem]
  intro p hp
  obtain ⟨h1, h2⟩ := mem_isoP.1 hp
  have : (p.take (f ++ [y]).length).Nodup := List.Nodup.sublist (List.take_sublist _ _) h1.1.1.1
  rw [h2, List.nodup_append] at this
  exact this.2.2 y h y (by simp) rfl
theorem isoP_cols {n : Nat} {F G : List (List (List Int))} {f C D : List Int} {y : Int} (hk : ∀ p ∈ isoP n F G f, Keeps n C D p) (h : nth C f.length ≠ nth D y) : isoP n F G (f ++ [y]) = [] := by
  rw [List.eq_nil_iff_forall_not_mem]
  intro p hp
  obtain ⟨h1, h2, h3⟩ := isoP_at hp
  have := hk p h1 f.length ⟨by omega, by omega⟩
  rw [h2] at this
  exact h this.symm
theorem isoP_fits {n : Nat} {F G : List (List (List Int))} {f : List Int} {y : Int} (ht : Tabs n F) (hf : f.length < n) (h : ¬ FitAll F G (f ++ [y]) f.length) : isoP n F G (f ++ [y]) = [] := by
  rw [List.eq_nil_iff_forall_not_mem]
  intro p hp
  obtain ⟨h1, h2⟩ := mem_isoP.1 hp
  exact h (fitAll_iso ht h1 h2 (by simp) hf)
theorem isoP_none {n : Nat} {F G : List (List (List Int))} {f : List Int} {y : Int} {C D : List Int} (hk : ∀ p ∈ isoP n F G (f ++ [y]), Keeps n C D p) (h : ∀ p, IsoF n F G p → ¬ Keeps n C D p) : isoP n F G (f ++ [y]) = [] := by
  rw [List.eq_nil_iff_forall_not_mem]
  intro p hp
  exact h p (mem_isoP.1 hp).1 (hk p hp)
/-- A colour of its own for one element and its image. -/
theorem keeps_set {n : Nat} {F G : List (List (List Int))} {f C D : List Int} {y : Nat} (hC : C.length = n) (hD : D.length = n) (hy : y < n) (hk : ∀ p ∈ isoP n F G f, Keeps n C D p) : ∀ p ∈ isoP n F G (f ++ [(y : Int)]), Keeps n (C.set f.length 60) (D.set y 60) p := fun p hp x hx => by
  obtain ⟨h1, h2, h3⟩ := isoP_at hp
  have hi := (mem_isoP.1 h1).1
  have hpx := iso_rng hi hx
  have e1 := nth_set C (f.length : Int) x 60 (by omega) (by omega) hx.1
  have e2 := nth_set D (y : Int) (nth p x) 60 (by omega) (by omega) hpx.1
  rw [Int.toNat_natCast] at e1 e2
  rw [e1, e2]
  by_cases e : x = (f.length : Int)
  · rw [if_pos e, if_pos (by rw [e, h2])]
  · rw [if_neg e, if_neg (fun h => e ((iso_inj hi hx ⟨by omega, by omega⟩).1 (by rw [h, h2])))]
    exact hk p h1 x hx
theorem colsOk_set {n : Nat} {C : List Int} (h : C.length = n ∧ ∀ x ∈ C, 0 ≤ x ∧ x ≤ 60) (k : Nat) : (C.set k 60).length = n ∧ ∀ x ∈ C.set k 60, 0 ≤ x ∧ x ≤ 60 := by
  refine ⟨by simpa using h.1, fun x hx => ?_⟩
  rcases List.mem_or_eq_of_mem_set hx with h1 | h1
  · exact h.2 x h1
  · subst h1; omega
/-- The part with next image less than k. -/
noncomputable def partP (n : Nat) (F G : List (List (List Int))) (f : List Int) (k : Nat) : List (List Int) := isoLt n F G (fun p => p.take f.length = f) f.length k
theorem partP_zero {n : Nat} {F G : List (List (List Int))} {f : List Int} (hf : f.length < n) : partP n F G f 0 = [] := isoLt_zero ⟨by omega, by omega⟩
theorem partP_all {n : Nat} {F G : List (List (List Int))} {f : List Int} (hf : f.length < n) : partP n F G f n = isoP n F G f := isoLt_all ⟨by omega, by omega⟩
theorem partP_succ {n : Nat} {F G : List (List (List Int))} {f : List Int} (k : Nat) (hf : f.length < n) : partP n F G f (k + 1) = partP n F G f k ++ isoP n F G (f ++ [(k : Int)]) := isoP_part hf
theorem partP_more {n : Nat} {F G : List (List (List Int))} {f : List Int} (k : Nat) (hf : f.length < n) : ∀ r : Nat, ∃ R, partP n F G f (k + r) = partP n F G f k ++ R
  | 0 => ⟨[], by simp⟩
  | r + 1 => by
    obtain ⟨R, hR⟩ := partP_more k hf r
    exact ⟨R ++ isoP n F G (f ++ [((k + r : Nat) : Int)]), by rw [← Nat.add_assoc, partP_succ _ hf, hR, List.append_assoc]⟩
/-- What is full stays so. -/
theorem take_full {α : Type} {L R : List α} {m : Nat} (h : m ≤ (L.take m).length) : (L ++ R).take m = L.take m := by
  have : m ≤ L.length := by rw [List.length_take] at h; omega
  rw [List.take_append_of_le_length this]
theorem take_room {α : Type} {L : List α} {m : Nat} (h : (L.take m).length < m) : L.take m = L := by
  rw [List.length_take] at h
  exact List.take_of_length_le (by omega)
theorem isoP_len {n : Nat} {F G : List (List (List Int))} {f : List Int} (h : n ≤ f.length) : (isoP n F G f).length ≤ 1 := by
  rcases Nat.lt_or_ge 1 (isoP n F G f).length with hlt | hge
  · exfalso
    have hn := List.nodup_iff_pairwise_ne.1 (asc_nodup (isoQ_asc n F G fun p => p.take f.length = f))
    have h1 := List.pairwise_iff_getElem.1 hn 0 1 (by exact Nat.lt_trans Nat.zero_lt_one hlt) hlt (by omega)
    have e : ∀ p ∈ isoP n F G f, p = f := fun p hp => by
      obtain ⟨h2, h3⟩ := mem_isoP.1 hp
      rw [List.take_of_length_le (by rw [h2.1.2]; exact h)] at h3
      exact h3
    exact h1 ((e _ (List.getElem_mem _)).trans (e _ (List.getElem_mem _)).symm)
  · exact hge
end Go.Proofs.Ytgmhnjccgldddaa

namespace Go.Proofs.Ytgmhnjccgldddaa
set_option linter.unusedVariables false
set_option linter.unusedSimpArgs false
open Go Go.RowKit

theorem swap_permA : ∀ (l : List Int) (k : Nat) (h : k + 1 < l.length), ((l.set (k + 1) l[k]).set k l[k + 1]).Perm l
  | a :: c :: l, 0, _ => by simpa using List.Perm.swap a c l
  | a :: l, k + 1, h => by
    have := swap_permA l k (by simp at h; omega)
    simpa using this
  | [a], 0, h => by simp at h
/-- The first i numbers stand in order, but for the one at place j, which may be too small. -/
def InsP (i j : Nat) (S : List Int) : Prop := ∀ a b : Nat, a < b → b ≤ i → b ≠ j → nth S a ≤ nth S b
def SorP (i : Nat) (S : List Int) : Prop := ∀ a b : Nat, a < b → b < i → nth S a ≤ nth S b
theorem InsP.start {i : Nat} {S : List Int} (h : SorP i S) : InsP i i S := fun a b h1 h2 h3 => h a b h1 (by omega)
theorem InsP.done {i j : Nat} {S : List Int} (h : InsP i j S) (hj : 0 < j → nth S ((j : Int) - 1) ≤ nth S j) : SorP (i + 1) S := by
  intro a b h1 h2
  by_cases e : b = j
  · subst e
    have h3 := hj (by omega)
    by_cases e2 : a + 1 = b
    · have : ((b : Int) - 1) = a := by omega
      rw [this] at h3; exact h3
    · have h4 := h a (b - 1) (by omega) (by omega) (by omega)
      rw [show (((b - 1 : Nat)) : Int) = (b : Int) - 1 from by omega] at h4
      omega
  · exact h a b h1 (by omega) e
def swp (S : List Int) (j : Nat) : List Int := (S.set j (nth S ((j : Int) - 1))).set (j - 1) (nth S j)
theorem swp_nth {S : List Int} {j : Nat} (hj : 0 < j) (hl : j < S.length) (y : Nat) : nth (swp S j) y = if y + 1 = j then nth S j else if y = j then nth S ((j : Int) - 1) else nth S y := by
  unfold swp
  have h1 := nth_set (S.set j (nth S ((j : Int) - 1))) ((j : Int) - 1) y (nth S j) (by omega) (by rw [List.length_set]; omega) (by omega)
  rw [show ((j : Int) - 1).toNat = j - 1 from by omega] at h1
  rw [h1]
  have h2 := nth_set S (j : Int) y (nth S ((j : Int) - 1)) (by omega) (by omega) (by omega)
  rw [Int.toNat_natCast] at h2
  rw [h2]
  by_cases e : y + 1 = j
  · rw [if_pos (by omega), if_pos e]
  · rw [if_neg (by omega), if_neg e]
    by_cases e2 : y = j
    · rw [if_pos (by omega), if_pos e2]
    · rw [if_neg (by omega), if_neg e2]
theorem swp_perm {S : List Int} {j : Nat} (hj : 0 < j) (hl : j < S.length) : (swp S j).Perm S := by
  obtain ⟨k, rfl⟩ : ∃ k, j = k + 1 := ⟨j - 1, by omega⟩
  have := swap_permA S k hl
  unfold swp
  rw [show (((k + 1 : Nat) : Int) - 1) = (k : Int) from by omega, nth_nat _ _ (by omega), nth_nat _ _ hl]
  exact this
theorem InsP.step {i j : Nat} {S : List Int} (h : InsP i j S) (hj : 0 < j) (hl : j < S.length) (hi : j ≤ i) (hlt : nth S j < nth S ((j : Int) - 1)) : InsP i (j - 1) (swp S j) := by
  intro a b h1 h2 h3
  rw [swp_nth hj hl, swp_nth hj hl]
  have e0 : ((j : Int) - 1) = ((j - 1 : Nat) : Int) := by omega
  rw [e0] at hlt ⊢
  rw [if_neg (show ¬ (b + 1 = j) by omega)]
  by_cases e1 : b = j
  · rw [if_pos e1]
    by_cases e2 : a + 1 = j
    · rw [if_pos e2]; omega
    · rw [if_neg e2, if_neg (by omega)]
      exact h a (j - 1) (by omega) (by omega) (by omega)
  · rw [if_neg e1]
    by_cases e2 : a + 1 = j
    · rw [if_pos e2]
      exact h j b (by omega) h2 e1
    · rw [if_neg e2]
      by_cases e3 : a = j
      · rw [if_pos e3]
        exact h (j - 1) b (by omega) h2 e1
      · rw [if_neg e3]
        exact h a b h1 h2 e1
theorem SorP.pairwise {S : List Int} (h : SorP S.length S) : S.Pairwise (· ≤ ·) := by
  rw [List.pairwise_iff_getElem]
  intro a b ha hb hab
  have := h a b hab hb
  rwa [nth_nat _ _ ha, nth_nat _ _ hb] at this
end Go.Proofs.Ytgmhnjccgldddaa

namespace Go.Proofs.Ytgmhnjccgldddaa
set_option linter.unusedVariables false
set_option linter.unusedSimpArgs false
open Go Go.RowKit

theorem iota_succ (k : Nat) : iota (k + 1) = iota k ++ [(k : Int)] := by simp [iota, List.range_succ]

theorem Blk.at' {w : World} {b : Nat} {xs : List Int} {cs : List Value} (h : Blk w b 2 (xs.map (Value.int .i64) ++ cs)) (k : Nat) (hk : k < xs.length) : w.cell? ⟨b, k, none⟩ = some (.int .i64 (nth xs k)) := by
  rw [h.cell (by simp; omega), List.getElem_append_left (by simpa using hk), List.getElem_map, nth_nat _ _ hk]
theorem Blk.put' {w : World} {b : Nat} {xs : List Int} {cs : List Value} (h : Blk w b 2 (xs.map (Value.int .i64) ++ cs)) (k : Nat) (hk : k < xs.length) (u : Int) : Blk (w.setCell ⟨b, k, none⟩ (.int .i64 u)) b 2 ((xs.set k u).map (Value.int .i64) ++ cs) := by
  have := h.set k (.int .i64 u)
  rwa [List.set_append_left _ _ (by simpa using hk), ← List.map_set] at this
theorem cut_waysZ {p G : Prop} (k : Hid p → G) (h : p) : G := k (Lib.hid h)
theorem forget18 {Pd : Array Value → Prop} (l : List Value) (i j : Nat) (hj : j = i + 18) (hl : i + 18 ≤ l.length) (h : ∀ a0 a1 a2 a3 a4 a5 a6 a7 a8 a9 a10 a11 a12 a13 a14 a15 a16 a17 : Value, Pd (l.take i ++ (a0 :: a1 :: a2 :: a3 :: a4 :: a5 :: a6 :: a7 :: a8 :: a9 :: a10 :: a11 :: a12 :: a13 :: a14 :: a15 :: a16 :: a17 :: l.drop j)).toArray) : Pd l.toArray := by
  subst hj
  have key : ∀ (n : Nat) (m : List Value), n ≤ m.length → ∃ vs : List Value, vs.length = n ∧ m = vs ++ m.drop n := fun n m hn => ⟨m.take n, by simp; omega, (List.take_append_drop n m).symm⟩
  obtain ⟨vs, h1, h2⟩ := key 18 (l.drop i) (by simp; omega)
  rw [List.drop_drop] at h2
  match vs, h1 with
  | [a0, a1, a2, a3, a4, a5, a6, a7, a8, a9, a10, a11, a12, a13, a14, a15, a16, a17], _ =>
    have e : l.take i ++ (a0 :: a1 :: a2 :: a3 :: a4 :: a5 :: a6 :: a7 :: a8 :: a9 :: a10 :: a11 :: a12 :: a13 :: a14 :: a15 :: a16 :: a17 :: l.drop (i + 18)) = l := by
      rw [← List.take_append_drop i l]
      conv => rhs; rw [h2]
      simp
    rw [← e]
    exact h a0 a1 a2 a3 a4 a5 a6 a7 a8 a9 a10 a11 a12 a13 a14 a15 a16 a17
def TellV (v T own : Int) : Prop := v = T + own ∧ 0 ≤ own ∧ own ≤ 15
set_option maxRecDepth 100000 in
set_option maxHeartbeats 8000000 in
theorem c_l03Mark {n K : Nat} {F : List (List (List Int))} {fb fo fc : Nat} {tb to tc : Nat → Nat} {rb ro rc : Nat → Nat → Nat} (C : List Int) (u : Value) (X : Nat) (w : World) (hF : Tb3 w fb fo n K F tb to tc rb ro rc)
    (hKF : K = F.length) (hn0 : 1 ≤ n) (hn : n ≤ 12) (hK : K ≤ 12) (hfc : K ≤ fc) (hu : Ints w u C) (hC : C.length = n) (hX : X < n) (hr : ∀ x ∈ C, 0 ≤ x ∧ x ≤ 60) :
    Calls Try.prog 92 #[.slice (some ⟨fb, fo, none⟩) K fc, u, .int .i64 X] w (RInts w (markM n F C X)) := by
  obtain ⟨a, c, rfl, hc, hm⟩ := hu.shape
  rw [hC] at hc ⊢
  have hu0 : Ints w (.slice a n c) C := by rw [← hC]; rw [← hC] at hc; exact hu
  obtain ⟨ub, uo, rfl, _⟩ := hu0.get 0 (by omega)
  have HF := Lib.hid (And.intro hF hu0); have HKF := Lib.hid hKF; have HCl := Lib.hid hC
  have HR : Hid (∀ x : Nat, x < n → ∃ Y : Nat, nth C x = Y ∧ Y ≤ 60) := Lib.hid fun x hx => by
    have := hr _ (nth_mem (p := C) (x := (x : Int)) (by omega) (by omega))
    have h1 := this.1; have h2 := this.2
    exact ⟨(nth C x).toNat, by omega, by omega⟩
  have HV : Hid (∀ k x y : Nat, k < K → x < n → y < n → ∃ U : Nat, val2 (F.getD k []) x y = U ∧ U < n) := Lib.hid fun k x y hk hx hy => by
    have := (hF.at' k hk).rng x y (by omega) (by omega) (by omega) (by omega)
    exact ⟨(val2 (F.getD k []) x y).toNat, by omega, by omega⟩
  have hcx := hu0.at X (by omega)
  have hmk := run_make_row' (P := Try.prog) 26 2 (.int .i64 0) 8 Try.underlying26 inf_int64 rfl .i64 .i64 n (by omega) (by omega)
  clear hF hu0 hKF hC hr hu
  go_enter Try.func92, Try.ntmps92
  go_wp2
  go_region
  go_wp2
  have hB1 : Below w.heap.size w (w.alloc (.cells #[.int .i64 (nth C X)] 2)).drew := ((Below.refl _ w).alloc (Nat.le_refl _) _).drew
  have hO1 : Own w.heap.size (w.alloc (.cells #[.int .i64 (nth C X)] 2)).drew (.slice (some ⟨w.heap.size, 0, none⟩) 1 1) [nth C X] :=
    Own.of_blk (xs := [nth C X]) (heap_alloc_new w _) (Nat.le_refl _) (by simp [maxLen]) rfl rfl
  have HB1 := Lib.hid hB1; have HO1 := Lib.hid hO1
  clear hB1 hO1 hcx
  go_loopw [8, 9, 10, 11, 12, 13, 14, 15, 16, 17, 18, 19, 20, 21] (fun out kk _ _ _ _ _ _ _ _ _ _ _ _ wr => ∃ (k : Nat) (xs : List Int) (oa : Option Addr) (oc : Nat), k ≤ K ∧ kk = .int .i64 k ∧ out = .slice oa xs.length oc ∧ xs.length ≤ 1 + 24 * k ∧ Hid (xs = nth C X :: (F.take k).flatMap fun t => srt (rawM n t C X)) ∧ Hid (Below w.heap.size w wr) ∧ Hid (Own w.heap.size wr (.slice oa xs.length oc) xs)) (fun _ kk _ _ _ _ _ _ _ _ _ _ _ _ _ => K - (intOf kk).toNat)
  case atStart => exact ⟨0, [nth C X], _, _, Nat.zero_le _, rfl, rfl, by simp, Lib.hid (by simp), HB1, HO1⟩
  case round =>
    clear HB1 HO1
    obtain ⟨k, xs, oa, oc, hk, rfl, rfl, hxl, HX, HB, HO⟩ := hrel
    obtain ⟨wo, rfl⟩ : ∃ wo : World, wo = wr := ⟨_, rfl⟩
    by_cases hlt : k < K
    · obtain ⟨t, ht⟩ : ∃ t, F.getD k [] = t := ⟨_, rfl⟩
      have HT := Lib.hid ht
      go_wp2
      go_loopw [10, 11, 12, 13, 14] (fun l yy _ _ _ wi => ∃ (y : Nat) (ls : List Int) (la : Option Addr) (lc : Nat), y ≤ n ∧ yy = .int .i64 y ∧ l = .slice la ls.length lc ∧ Hid (ls.length = y) ∧ Hid (ls = (iota y).map (tellM t C X)) ∧ Hid (Below wo.heap.size wo wi) ∧ Hid (Own wo.heap.size wi (.slice la ls.length lc) ls)) (fun _ yy _ _ _ _ => n - (intOf yy).toNat)
      case atStart => exact ⟨0, [], _, _, Nat.zero_le _, rfl, rfl, Lib.hid rfl, Lib.hid (by simp [iota]), Lib.hid ((Below.refl _ _).alloc (Nat.le_refl _) _), Lib.hid (Own.made0 wo (Nat.le_refl _))⟩
      case round =>
        obtain ⟨y, ls, la, lc, hy, rfl, rfl, HLl, HL, Hb, Ho⟩ := hrel
        obtain ⟨wi, rfl⟩ : ∃ wi : World, wi = wr := ⟨_, rfl⟩
        by_cases hly : y < n
        · obtain ⟨U, hU, hUn⟩ := HV.out k X y hlt hX hly
          obtain ⟨V, hV, hVn⟩ := HV.out k y X hlt hly hX
          obtain ⟨CY, hCY, hCY6⟩ := HR.out y hly
          obtain ⟨CU, hCU, hCU6⟩ := HR.out U hUn
          obtain ⟨CV, hCV, hCV6⟩ := HR.out V hVn
          have tF := HF.out.1.below (bb HB.out Hb.out)
          have tU := HF.out.2.below (bb HB.out Hb.out)
          have q1 := tF.tab k hlt
          have q2 := (tF.at' k hlt).row X hX
          have q3 := (tF.at' k hlt).val X y hX hly
          have q4 := (tF.at' k hlt).row y hly
          have q5 := (tF.at' k hlt).val y X hly hX
          have c1 := tU.at y (by rw [HCl.out]; exact hly)
          have c2 := tU.at U (by rw [HCl.out]; exact hUn)
          have c3 := tU.at V (by rw [HCl.out]; exact hVn)
          rw [hU] at q3; rw [hV] at q5; rw [hCY] at c1; rw [hCU] at c2; rw [hCV] at c3
          have HTell : Hid (tellM t C X y = ((CY * 64 + CU) * 64 + CV) * 16 + ((if ((U : Int) == (y : Int)) = true then 1 else 0) + (if ((V : Int) == (y : Int)) = true then 2 else 0) + (if ((U : Int) == (X : Int)) = true then 4 else 0) + (if ((V : Int) == (X : Int)) = true then 8 else 0))) := Lib.hid (by
            unfold tellM ownM
            rw [← HT.out, hU, hV, hCY, hCU, hCV]
            simp only [beq_iff_eq])
          have HSn : Hid ((iota (y + 1)).map (tellM t C X) = (iota y).map (tellM t C X) ++ [tellM t C X y]) := Lib.hid (by rw [iota_succ]; simp)
          clear tF tU hU hV hCY hCU hCV
          go_wp2
          go_quiet (fail)
          rename_i nq
          have hbq : Below wi.heap.size wi (wi.drewN nq) := below_drewN (Below.refl _ _) nq
          generalize wi.drewN nq = wq at hbq ⊢
          have Hbd := Lib.hid (bb Hb.out hbq.drew)
          have Hod := Lib.hid (Ho.out.under hbq.drew)
          have HSd := Lib.hid (bb Hb.out hbq.drew).size
          have c1' := cell_under hbq.drew c1; have c2' := cell_under hbq.drew c2; have c3' := cell_under hbq.drew c3
          have HSA : Hid (∀ w', Below wq.heap.size wq w' → (fun w' => w'.cell? ⟨ub, uo + y, none⟩ = some (.int .i64 CY) ∧ w'.cell? ⟨ub, uo + U, none⟩ = some (.int .i64 CU) ∧ w'.cell? ⟨ub, uo + V, none⟩ = some (.int .i64 CV)) w') := by
            have c1q := cell_under hbq c1; have c2q := cell_under hbq c2; have c3q := cell_under hbq c3
            exact Lib.hid fun w' hb => ⟨cell_under hb c1q, cell_under hb c2q, cell_under hb c3q⟩
          clear q1 q2 q3 q4 q5 c1 c2 c3 hbq
          have w1 : IntKind.i64.wrap ((CY : Int) * 64) = (CY : Int) * 64 := IntWalk.i64_in _ (by omega)
          have w2 : IntKind.i64.wrap ((CY : Int) * 64 + CU) = (CY : Int) * 64 + CU := IntWalk.i64_in _ (by omega)
          have w3 : IntKind.i64.wrap (((CY : Int) * 64 + CU) * 64) = ((CY : Int) * 64 + CU) * 64 := IntWalk.i64_in _ (by omega)
          have w4 : IntKind.i64.wrap (((CY : Int) * 64 + CU) * 64 + CV) = ((CY : Int) * 64 + CU) * 64 + CV := IntWalk.i64_in _ (by omega)
          obtain ⟨TT, hTT⟩ : ∃ TT : Int, (((CY : Int) * 64 + CU) * 64 + CV) * 16 = TT := ⟨_, rfl⟩
          have w5 : IntKind.i64.wrap ((((CY : Int) * 64 + CU) * 64 + CV) * 16) = TT := by rw [hTT]; exact IntWalk.i64_in _ (by omega)
          have htl : 0 ≤ TT := by omega
          have hth : TT ≤ 1000000000 := by omega
          have HTell2 := Lib.hid (show tellM t C X y = TT + ((if ((U : Int) == (y : Int)) = true then 1 else 0) + (if ((V : Int) == (y : Int)) = true then 2 else 0) + (if ((U : Int) == (X : Int)) = true then 4 else 0) + (if ((V : Int) == (X : Int)) = true then 8 else 0)) by rw [HTell.out, hTT])
          clear HTell hTT
          have S0 := HSA.out _ (Below.refl _ wq).drew
          clear c1' c2' c3'
          have HLn : Hid (ls.length ≤ 1099511627776) := Lib.hid (by have := HLl.out; omega)
          have HubW : ub < wo.heap.size := by
            have h1 := cell_lt (HF.out.2.at 0 (by rw [HCl.out]; omega))
            exact Nat.lt_of_lt_of_le h1 HB.out.size
          have HSq : Hid (∀ (w' : World), Keep (fun b => (Value.slice la ls.length lc).ownBlock = some b) wq.drew w' → (fun w' => w'.cell? ⟨ub, uo + y, none⟩ = some (.int .i64 CY) ∧ w'.cell? ⟨ub, uo + U, none⟩ = some (.int .i64 CU) ∧ w'.cell? ⟨ub, uo + V, none⟩ = some (.int .i64 CV)) w') := Lib.hid fun w' hk => by
            have hs := HSA.out _ (Below.refl _ wq).drew
            have hlt := cell_lt hs.1
            have h2 := hk.block ub hlt (fun e => by have := (Hod.out.lt e).1; omega)
            have h3 : ∀ o u, wq.drew.cell? ⟨ub, o, none⟩ = some u → w'.cell? ⟨ub, o, none⟩ = some u := fun o u h => by
              simp only [World.cell?] at h ⊢
              rw [h2]; exact h
            exact ⟨h3 _ _ hs.1, h3 _ _ hs.2.1, h3 _ _ hs.2.2⟩
          apply cut_waysZ
          · intro key
            have hTell3 := HTell2.out
            obtain ⟨e1, d1⟩ : ∃ b, ((U : Int) == (y : Int)) = b := ⟨_, rfl⟩
            obtain ⟨e2, d2⟩ : ∃ b, ((V : Int) == (y : Int)) = b := ⟨_, rfl⟩
            obtain ⟨e3, d3⟩ : ∃ b, ((U : Int) == (X : Int)) = b := ⟨_, rfl⟩
            obtain ⟨e4, d4⟩ : ∃ b, ((V : Int) == (X : Int)) = b := ⟨_, rfl⟩
            rw [d1, d2, d3, d4] at hTell3
            have HTell4 := Lib.hid hTell3
            clear hTell3
            cases e1 <;> cases e2 <;> cases e3 <;> cases e4
            case false.false.false.false =>
              have HT3 : Hid (TellV (tellM t C X y) TT 0) := Lib.hid (by simpa [TellV] using HTell4.out)
              clear HTell4
              go_wp2
              refine forget18 (Pd := fun T => Code.wp _ _ _ ⟨T, _⟩ _) _ 61 79 rfl (by simp) ?_
              intro a0 a1 a2 a3 a4 a5 a6 a7 a8 a9 a10 a11 a12 a13 a14 a15 a16 a17
              simp only [List.take_succ_cons, List.take_zero, List.drop_succ_cons, List.drop_zero, List.cons_append, List.nil_append]
              revert HT3
              generalize (0 : Int) = own
              revert own a0 a1 a2 a3 a4 a5 a6 a7 a8 a9 a10 a11 a12 a13 a14 a15 a16 a17
              exact key.out
            case true.false.false.false =>
              have HT3 : Hid (TellV (tellM t C X y) TT 1) := Lib.hid (by simpa [TellV] using HTell4.out)
              clear HTell4
              go_wp2
              refine forget18 (Pd := fun T => Code.wp _ _ _ ⟨T, _⟩ _) _ 61 79 rfl (by simp) ?_
              intro a0 a1 a2 a3 a4 a5 a6 a7 a8 a9 a10 a11 a12 a13 a14 a15 a16 a17
              simp only [List.take_succ_cons, List.take_zero, List.drop_succ_cons, List.drop_zero, List.cons_append, List.nil_append]
              revert HT3
              generalize (1 : Int) = own
              revert own a0 a1 a2 a3 a4 a5 a6 a7 a8 a9 a10 a11 a12 a13 a14 a15 a16 a17
              exact key.out
            case false.true.false.false =>
              have HT3 : Hid (TellV (tellM t C X y) TT 2) := Lib.hid (by simpa [TellV] using HTell4.out)
              clear HTell4
              go_wp2
              refine forget18 (Pd := fun T => Code.wp _ _ _ ⟨T, _⟩ _) _ 61 79 rfl (by simp) ?_
              intro a0 a1 a2 a3 a4 a5 a6 a7 a8 a9 a10 a11 a12 a13 a14 a15 a16 a17
              simp only [List.take_succ_cons, List.take_zero, List.drop_succ_cons, List.drop_zero, List.cons_append, List.nil_append]
              revert HT3
              generalize (2 : Int) = own
              revert own a0 a1 a2 a3 a4 a5 a6 a7 a8 a9 a10 a11 a12 a13 a14 a15 a16 a17
              exact key.out
            case true.true.false.false =>
              have HT3 : Hid (TellV (tellM t C X y) TT 3) := Lib.hid (by simpa [TellV] using HTell4.out)
              clear HTell4
              go_wp2
              refine forget18 (Pd := fun T => Code.wp _ _ _ ⟨T, _⟩ _) _ 61 79 rfl (by simp) ?_
              intro a0 a1 a2 a3 a4 a5 a6 a7 a8 a9 a10 a11 a12 a13 a14 a15 a16 a17
              simp only [List.take_succ_cons, List.take_zero, List.drop_succ_cons, List.drop_zero, List.cons_append, List.nil_append]
              revert HT3
              generalize (3 : Int) = own
              revert own a0 a1 a2 a3 a4 a5 a6 a7 a8 a9 a10 a11 a12 a13 a14 a15 a16 a17
              exact key.out
            case false.false.true.false =>
              have HT3 : Hid (TellV (tellM t C X y) TT 4) := Lib.hid (by simpa [TellV] using HTell4.out)
              clear HTell4
              go_wp2
              refine forget18 (Pd := fun T => Code.wp _ _ _ ⟨T, _⟩ _) _ 61 79 rfl (by simp) ?_
              intro a0 a1 a2 a3 a4 a5 a6 a7 a8 a9 a10 a11 a12 a13 a14 a15 a16 a17
              simp only [List.take_succ_cons, List.take_zero, List.drop_succ_cons, List.drop_zero, List.cons_append, List.nil_append]
              revert HT3
              generalize (4 : Int) = own
              revert own a0 a1 a2 a3 a4 a5 a6 a7 a8 a9 a10 a11 a12 a13 a14 a15 a16 a17
              exact key.out
            case true.false.true.false =>
              have HT3 : Hid (TellV (tellM t C X y) TT 5) := Lib.hid (by simpa [TellV] using HTell4.out)
              clear HTell4
              go_wp2
              refine forget18 (Pd := fun T => Code.wp _ _ _ ⟨T, _⟩ _) _ 61 79 rfl (by simp) ?_
              intro a0 a1 a2 a3 a4 a5 a6 a7 a8 a9 a10 a11 a12 a13 a14 a15 a16 a17
              simp only [List.take_succ_cons, List.take_zero, List.drop_succ_cons, List.drop_zero, List.cons_append, List.nil_append]
              revert HT3
              generalize (5 : Int) = own
              revert own a0 a1 a2 a3 a4 a5 a6 a7 a8 a9 a10 a11 a12 a13 a14 a15 a16 a17
              exact key.out
            case false.true.true.false =>
              have HT3 : Hid (TellV (tellM t C X y) TT 6) := Lib.hid (by simpa [TellV] using HTell4.out)
              clear HTell4
              go_wp2
              refine forget18 (Pd := fun T => Code.wp _ _ _ ⟨T, _⟩ _) _ 61 79 rfl (by simp) ?_
              intro a0 a1 a2 a3 a4 a5 a6 a7 a8 a9 a10 a11 a12 a13 a14 a15 a16 a17
              simp only [List.take_succ_cons, List.take_zero, List.drop_succ_cons, List.drop_zero, List.cons_append, List.nil_append]
              revert HT3
              generalize (6 : Int) = own
              revert own a0 a1 a2 a3 a4 a5 a6 a7 a8 a9 a10 a11 a12 a13 a14 a15 a16 a17
              exact key.out
            case true.true.true.false =>
              have HT3 : Hid (TellV (tellM t C X y) TT 7) := Lib.hid (by simpa [TellV] using HTell4.out)
              clear HTell4
              go_wp2
              refine forget18 (Pd := fun T => Code.wp _ _ _ ⟨T, _⟩ _) _ 61 79 rfl (by simp) ?_
              intro a0 a1 a2 a3 a4 a5 a6 a7 a8 a9 a10 a11 a12 a13 a14 a15 a16 a17
              simp only [List.take_succ_cons, List.take_zero, List.drop_succ_cons, List.drop_zero, List.cons_append, List.nil_append]
              revert HT3
              generalize (7 : Int) = own
              revert own a0 a1 a2 a3 a4 a5 a6 a7 a8 a9 a10 a11 a12 a13 a14 a15 a16 a17
              exact key.out
            case false.false.false.true =>
              have HT3 : Hid (TellV (tellM t C X y) TT 8) := Lib.hid (by simpa [TellV] using HTell4.out)
              clear HTell4
              go_wp2
              refine forget18 (Pd := fun T => Code.wp _ _ _ ⟨T, _⟩ _) _ 61 79 rfl (by simp) ?_
              intro a0 a1 a2 a3 a4 a5 a6 a7 a8 a9 a10 a11 a12 a13 a14 a15 a16 a17
              simp only [List.take_succ_cons, List.take_zero, List.drop_succ_cons, List.drop_zero, List.cons_append, List.nil_append]
              revert HT3
              generalize (8 : Int) = own
              revert own a0 a1 a2 a3 a4 a5 a6 a7 a8 a9 a10 a11 a12 a13 a14 a15 a16 a17
              exact key.out
            case true.false.false.true =>
              have HT3 : Hid (TellV (tellM t C X y) TT 9) := Lib.hid (by simpa [TellV] using HTell4.out)
              clear HTell4
              go_wp2
              refine forget18 (Pd := fun T => Code.wp _ _ _ ⟨T, _⟩ _) _ 61 79 rfl (by simp) ?_
              intro a0 a1 a2 a3 a4 a5 a6 a7 a8 a9 a10 a11 a12 a13 a14 a15 a16 a17
              simp only [List.take_succ_cons, List.take_zero, List.drop_succ_cons, List.drop_zero, List.cons_append, List.nil_append]
              revert HT3
              generalize (9 : Int) = own
              revert own a0 a1 a2 a3 a4 a5 a6 a7 a8 a9 a10 a11 a12 a13 a14 a15 a16 a17
              exact key.out
            case false.true.false.true =>
              have HT3 : Hid (TellV (tellM t C X y) TT 10) := Lib.hid (by simpa [TellV] using HTell4.out)
              clear HTell4
              go_wp2
              refine forget18 (Pd := fun T => Code.wp _ _ _ ⟨T, _⟩ _) _ 61 79 rfl (by simp) ?_
              intro a0 a1 a2 a3 a4 a5 a6 a7 a8 a9 a10 a11 a12 a13 a14 a15 a16 a17
              simp only [List.take_succ_cons, List.take_zero, List.drop_succ_cons, List.drop_zero, List.cons_append, List.nil_append]
              revert HT3
              generalize (10 : Int) = own
              revert own a0 a1 a2 a3 a4 a5 a6 a7 a8 a9 a10 a11 a12 a13 a14 a15 a16 a17
              exact key.out
            case true.true.false.true =>
              have HT3 : Hid (TellV (tellM t C X y) TT 11) := Lib.hid (by simpa [TellV] using HTell4.out)
              clear HTell4
              go_wp2
              refine forget18 (Pd := fun T => Code.wp _ _ _ ⟨T, _⟩ _) _ 61 79 rfl (by simp) ?_
              intro a0 a1 a2 a3 a4 a5 a6 a7 a8 a9 a10 a11 a12 a13 a14 a15 a16 a17
              simp only [List.take_succ_cons, List.take_zero, List.drop_succ_cons, List.drop_zero, List.cons_append, List.nil_append]
              revert HT3
              generalize (11 : Int) = own
              revert own a0 a1 a2 a3 a4 a5 a6 a7 a8 a9 a10 a11 a12 a13 a14 a15 a16 a17
              exact key.out
            case false.false.true.true =>
              have HT3 : Hid (TellV (tellM t C X y) TT 12) := Lib.hid (by simpa [TellV] using HTell4.out)
              clear HTell4
              go_wp2
              refine forget18 (Pd := fun T => Code.wp _ _ _ ⟨T, _⟩ _) _ 61 79 rfl (by simp) ?_
              intro a0 a1 a2 a3 a4 a5 a6 a7 a8 a9 a10 a11 a12 a13 a14 a15 a16 a17
              simp only [List.take_succ_cons, List.take_zero, List.drop_succ_cons, List.drop_zero, List.cons_append, List.nil_append]
              revert HT3
              generalize (12 : Int) = own
              revert own a0 a1 a2 a3 a4 a5 a6 a7 a8 a9 a10 a11 a12 a13 a14 a15 a16 a17
              exact key.out
            case true.false.true.true =>
              have HT3 : Hid (TellV (tellM t C X y) TT 13) := Lib.hid (by simpa [TellV] using HTell4.out)
              clear HTell4
              go_wp2
              refine forget18 (Pd := fun T => Code.wp _ _ _ ⟨T, _⟩ _) _ 61 79 rfl (by simp) ?_
              intro a0 a1 a2 a3 a4 a5 a6 a7 a8 a9 a10 a11 a12 a13 a14 a15 a16 a17
              simp only [List.take_succ_cons, List.take_zero, List.drop_succ_cons, List.drop_zero, List.cons_append, List.nil_append]
              revert HT3
              generalize (13 : Int) = own
              revert own a0 a1 a2 a3 a4 a5 a6 a7 a8 a9 a10 a11 a12 a13 a14 a15 a16 a17
              exact key.out
            case false.true.true.true =>
              have HT3 : Hid (TellV (tellM t C X y) TT 14) := Lib.hid (by simpa [TellV] using HTell4.out)
              clear HTell4
              go_wp2
              refine forget18 (Pd := fun T => Code.wp _ _ _ ⟨T, _⟩ _) _ 61 79 rfl (by simp) ?_
              intro a0 a1 a2 a3 a4 a5 a6 a7 a8 a9 a10 a11 a12 a13 a14 a15 a16 a17
              simp only [List.take_succ_cons, List.take_zero, List.drop_succ_cons, List.drop_zero, List.cons_append, List.nil_append]
              revert HT3
              generalize (14 : Int) = own
              revert own a0 a1 a2 a3 a4 a5 a6 a7 a8 a9 a10 a11 a12 a13 a14 a15 a16 a17
              exact key.out
            case true.true.true.true =>
              have HT3 : Hid (TellV (tellM t C X y) TT 15) := Lib.hid (by simpa [TellV] using HTell4.out)
              clear HTell4
              go_wp2
              refine forget18 (Pd := fun T => Code.wp _ _ _ ⟨T, _⟩ _) _ 61 79 rfl (by simp) ?_
              intro a0 a1 a2 a3 a4 a5 a6 a7 a8 a9 a10 a11 a12 a13 a14 a15 a16 a17
              simp only [List.take_succ_cons, List.take_zero, List.drop_succ_cons, List.drop_zero, List.cons_append, List.nil_append]
              revert HT3
              generalize (15 : Int) = own
              revert own a0 a1 a2 a3 a4 a5 a6 a7 a8 a9 a10 a11 a12 a13 a14 a15 a16 a17
              exact key.out
          intro a0 a1 a2 a3 a4 a5 a6 a7 a8 a9 a10 a11 a12 a13 a14 a15 a16 a17 own HT3
          have how1 := HT3.out.2.1
          have how2 := HT3.out.2.2
          have w6 : IntKind.i64.wrap (TT + own) = TT + own := IntWalk.i64_in _ (by omega)
          have S1 := HSA.out (wq.alloc (.cells #[.int .i64 (TT + own)] 2)).drew ((Below.refl _ wq).alloc (Nat.le_refl _) _).drew
          clear HTell2
          go_region_held3 (fun w' => w'.cell? ⟨ub, uo + y, none⟩ = some (.int .i64 CY) ∧ w'.cell? ⟨ub, uo + U, none⟩ = some (.int .i64 CU) ∧ w'.cell? ⟨ub, uo + V, none⟩ = some (.int .i64 CV)) (first | go_keep | exact HSA.out _ ((Below.refl _ wq).alloc (Nat.le_refl _) _).drew | exact Hq) (first
            | (refine step_app_int wo.heap.size wq.drew _ ls (TT + own) (.tmp 79) (.tmp 99) rfl rfl rfl Hod.out rfl HLn.out HSd.out ?_; intro a' c' w' hown' hkeep hg'; have Hq := HSq.out _ hkeep; have Hk := Lib.hid hkeep; have Ho' := Lib.hid hown'; clear hkeep hown' hg'))
          all_goals
            go_wp2
            go_roundw
            case rel => exact ⟨y + 1, ls ++ [TT + own], some ⟨a', 0, none⟩, c', by omega, by go_num, by simp, Lib.hid (by simp [HLl.out]), Lib.hid (by rw [HSn.out, HT3.out.1, HL.out]), Lib.hid (Hod.out.frame Hbd.out (Nat.le_refl _) HSd.out Hk.out), Lib.hid (by simpa using Ho'.out)⟩
            case measure => simp [intOf]; omega
        · obtain rfl : n = y := by omega
          have hcb : wo.heap.size ≤ wi.heap.size := Hb.out.size
          have hBc : Below wi.heap.size wi (wi.alloc (.cells (madeCells #[.int .i64 0] n) 2)) := (Below.refl _ _).alloc (Nat.le_refl _) _
          have hKc : Blk (wi.alloc (.cells (madeCells #[.int .i64 0] n) 2)) wi.heap.size 2 ((List.replicate n (0 : Int)).map (Value.int .i64) ++ []) := by
            have := Blk.made wi (.int .i64 0) n 2
            simpa using this
          have HBc := Lib.hid hBc; have HKc := Lib.hid hKc
          clear hBc hKc
          go_wp2
          go_loopw [16, 17] (fun yy _ wr => ∃ (y : Nat) (Cn : List Int), y ≤ n ∧ yy = .int .i64 y ∧ Hid (Blk wr wi.heap.size 2 (Cn.map (Value.int .i64) ++ [])) ∧ Hid (Cn.length = n) ∧ Hid (∀ j : Nat, j < n → nth Cn j = if j < y then cntM n t X j else 0) ∧ Hid (Below wi.heap.size wi wr)) (fun yy _ _ => n - (intOf yy).toNat)
          case atStart => exact ⟨0, List.replicate n 0, Nat.zero_le _, rfl, HKc, Lib.hid (by simp), Lib.hid (fun j hj => by rw [if_neg (by omega), nth_nat _ _ (by simpa using hj)]; simp), HBc⟩
          case round =>
            clear HBc HKc
            obtain ⟨y, Cn, hy, rfl, HKc, HCn, HCv, HBc⟩ := hrel
            obtain ⟨wp, rfl⟩ : ∃ wp : World, wp = wr := ⟨_, rfl⟩
            by_cases hly : y < n
            · go_wp2
              go_loopw [17] (fun zz wr => ∃ (z : Nat) (Cn : List Int), z ≤ n ∧ zz = .int .i64 z ∧ Hid (Blk wr wi.heap.size 2 (Cn.map (Value.int .i64) ++ [])) ∧ Hid (Cn.length = n) ∧ Hid (∀ j : Nat, j < n → nth Cn j = if j < y then cntM n t X j else if j = y then ((iota z).countP (fun q => decide (val2 t y q = X)) : Nat) else 0) ∧ Hid (Below wi.heap.size wi wr)) (fun zz _ => n - (intOf zz).toNat)
              case atStart => exact ⟨0, Cn, Nat.zero_le _, rfl, HKc, HCn, Lib.hid (fun j hj => by rw [HCv.out j hj]; by_cases e : j < y <;> simp [e, iota]), HBc⟩
              case round =>
                clear HKc HCn HCv HBc
                obtain ⟨z, Cn, hz, rfl, HKc, HCn, HCv, HBc⟩ := hrel
                obtain ⟨wq, rfl⟩ : ∃ wq : World, wq = wr := ⟨_, rfl⟩
                by_cases hlz : z < n
                · obtain ⟨U, hU, hUn⟩ := HV.out k y z hlt hly hlz
                  have tF := HF.out.1.below (bb HB.out (bb Hb.out HBc.out))
                  have q1 := tF.tab k hlt
                  have q2 := (tF.at' k hlt).row y hly
                  have q3 := (tF.at' k hlt).val y z hly hlz
                  have g1 := HKc.out.at' y (by rw [HCn.out]; exact hly)
                  have g2 := HKc.out.frozen y
                  have hcy := HCv.out y hly
                  rw [if_neg (by omega), if_pos rfl] at hcy
                  have hQle : (iota z).countP (fun q => decide (val2 t y q = X)) ≤ 12 := by
                    have := List.countP_le_length (p := fun q => decide (val2 t y q = X)) (l := iota z)
                    simp at this; omega
                  obtain ⟨Q, hQ⟩ : ∃ Q, (iota z).countP (fun q => decide (val2 t y q = X)) = Q := ⟨_, rfl⟩
                  have HCQ := Lib.hid hQ
                  rw [hQ] at hcy hQle
                  rw [hcy] at g1
                  rw [hU] at q3
                  have HCnt : Hid ((iota (z + 1)).countP (fun q => decide (val2 t y q = X)) = Q + if (U : Int) = X then 1 else 0) := Lib.hid (by
                    rw [iota_succ, List.countP_append, hQ, List.countP_cons, List.countP_nil, ← HT.out, hU]
                    simp)
                  have wQ : IntKind.i64.wrap ((Q : Int) + 1) = (Q : Int) + 1 := IntWalk.i64_in _ (by omega)
                  clear tF hU hQ hcy
                  obtain ⟨e1, d1⟩ : ∃ b, ((U : Int) == (X : Int)) = b := ⟨_, rfl⟩
                  cases e1
                  case true =>
                    have hUX : (U : Int) = X := by simpa using d1
                    have HCnt2 := HCnt.out
                    rw [if_pos hUX] at HCnt2
                    have HCnt3 := Lib.hid HCnt2
                    have HKp := Lib.hid (HKc.out.put' y (by rw [HCn.out]; exact hly) ((Q : Int) + 1))
                    have HBp := Lib.hid (HBc.out.setCell (p := ⟨wi.heap.size, y, none⟩) (Nat.le_refl _) (.int .i64 ((Q : Int) + 1)))
                    have HVp : Hid (∀ j : Nat, j < n → nth (Cn.set y ((Q : Int) + 1)) j = if j < y then cntM n t X j else if j = y then ((iota (z + 1)).countP (fun q => decide (val2 t y q = X)) : Nat) else 0) := Lib.hid (fun j hj => by
                      have h1 := nth_set Cn (y : Int) (j : Int) ((Q : Int) + 1) (by omega) (by rw [HCn.out]; omega) (by omega)
                      rw [Int.toNat_natCast] at h1
                      rw [h1, HCnt3.out]
                      by_cases e : j = y
                      · subst e; rw [if_pos rfl, if_neg (by omega), if_pos rfl]; omega
                      · rw [if_neg (by omega), HCv.out j hj, if_neg e, if_neg e])
                    clear hUX HCnt2 HCnt HCv
                    go_wp2
                    go_roundw
                    case rel => exact ⟨z + 1, Cn.set y ((Q : Int) + 1), by omega, by go_num, HKp, Lib.hid (by simpa using HCn.out), HVp, HBp⟩
                    case measure => simp [intOf]; omega
                  case false =>
                    have hUX : ¬ (U : Int) = X := by simpa using d1
                    have HCnt2 := HCnt.out
                    rw [if_neg hUX, Nat.add_zero] at HCnt2
                    have HCnt3 := Lib.hid HCnt2
                    have HVp : Hid (∀ j : Nat, j < n → nth Cn j = if j < y then cntM n t X j else if j = y then ((iota (z + 1)).countP (fun q => decide (val2 t y q = X)) : Nat) else 0) := Lib.hid (fun j hj => by
                      rw [HCv.out j hj, HCnt3.out]
                      by_cases e : j = y
                      · subst e; rw [if_neg (by omega), if_pos rfl, if_neg (by omega), if_pos rfl]; rw [← HCQ.out]; simp
                      · rw [if_neg e, if_neg e])
                    clear hUX HCnt2 HCnt HCv
                    go_wp2
                    go_roundw
                    case rel => exact ⟨z + 1, Cn, by omega, by go_num, HKc, HCn, HVp, HBc⟩
                    case measure => simp [intOf]; omega
                · obtain rfl : n = z := by omega
                  go_wp2
                  go_roundw
                  case rel =>
                    refine ⟨y + 1, Cn, by omega, by go_num, HKc, HCn, Lib.hid (fun j hj => ?_), HBc⟩
                    rw [HCv.out j hj]
                    by_cases e : j < y
                    · rw [if_pos e, if_pos (by omega)]
                    · rw [if_neg e]
                      by_cases e2 : j = y
                      · subst e2; rw [if_pos rfl, if_pos (by omega)]; rfl
                      · rw [if_neg e2, if_neg (by omega)]
                  case measure => simp [intOf]; omega
            · obtain rfl : n = y := by omega
              have HCv2 : Hid (∀ j : Nat, j < n → ∃ Q : Nat, nth Cn j = Q ∧ Q ≤ 12 ∧ cntM n t X j = Q) := Lib.hid (fun j hj => by
                have h1 := HCv.out j hj
                rw [if_pos hj] at h1
                refine ⟨(iota n).countP fun z => decide (val2 t j z = X), h1, ?_, rfl⟩
                have := List.countP_le_length (p := fun z => decide (val2 t j z = X)) (l := iota n)
                simp at this; omega)
              have HNe : Hid (wi.heap.size < wp.heap.size ∧ (Value.slice la ls.length lc).ownBlock ≠ some wi.heap.size) := Lib.hid ⟨HKc.out.lt, fun e => by have := (Ho.out.lt e).2; omega⟩
              have Ho2 := Lib.hid (Ho.out.under HBc.out)
              have Hb2 := Lib.hid (bb Hb.out HBc.out)
              have HL2 : Hid (ls = (iota n).map (tellM t C X) ++ (iota 0).map (tellC n t C X)) := Lib.hid (by rw [HL.out]; simp [iota])
              have HLl2 : Hid (ls.length = n + 0) := Lib.hid (by rw [HLl.out]; rfl)
              clear HCv Ho Hb HL HLl
              go_wp2
              go_loopw [10, 18] (fun l yy wr => ∃ (y : Nat) (ls : List Int) (la : Option Addr) (lc : Nat), y ≤ n ∧ yy = .int .i64 y ∧ l = .slice la ls.length lc ∧ Hid (ls.length = n + y) ∧ Hid (ls = (iota n).map (tellM t C X) ++ (iota y).map (tellC n t C X)) ∧ Hid (Below wo.heap.size wo wr) ∧ Hid (Own wo.heap.size wr (.slice la ls.length lc) ls) ∧ Hid (Blk wr wi.heap.size 2 (Cn.map (Value.int .i64) ++ [])) ∧ Hid (wi.heap.size < wr.heap.size ∧ (Value.slice la ls.length lc).ownBlock ≠ some wi.heap.size)) (fun _ yy _ => n - (intOf yy).toNat)
              case atStart => exact ⟨0, ls, la, lc, Nat.zero_le _, rfl, rfl, HLl2, HL2, Hb2, Ho2, HKc, HNe⟩
              case round =>
                clear HKc HNe Ho2 Hb2 HL2 HLl2 HBc
                obtain ⟨y, ls, la, lc, hy, rfl, rfl, HLl, HL, Hb, Ho, HKc, HNe⟩ := hrel
                obtain ⟨wq, rfl⟩ : ∃ wq : World, wq = wr := ⟨_, rfl⟩
                by_cases hly : y < n
                · obtain ⟨CY, hCY, hCY6⟩ := HR.out y hly
                  obtain ⟨Q, hQ, hQ12, hQc⟩ := HCv2.out y hly
                  have HTell : Hid (tellC n t C X y = 1099511627776 + (CY : Int) * 64 + Q) := Lib.hid (by unfold tellC; rw [hCY, hQc])
                  have HSn : Hid ((iota (y + 1)).map (tellC n t C X) = (iota y).map (tellC n t C X) ++ [tellC n t C X y]) := Lib.hid (by rw [iota_succ]; simp)
                  have tU := HF.out.2.below (bb HB.out Hb.out)
                  have c1 := tU.at y (by rw [HCl.out]; exact hly)
                  rw [hCY] at c1
                  have c2 := HKc.out.at' y (by rw [HCn.out]; exact hly)
                  rw [hQ] at c2
                  have HubW : ub < wo.heap.size := by
                    have h1 := cell_lt (HF.out.2.at 0 (by rw [HCl.out]; omega))
                    exact Nat.lt_of_lt_of_le h1 HB.out.size
                  have HSA : Hid (∀ w', Below wq.heap.size wq w' → (fun w' => w'.cell? ⟨ub, uo + y, none⟩ = some (.int .i64 CY) ∧ w'.cell? ⟨wi.heap.size, y, none⟩ = some (.int .i64 Q)) w') := Lib.hid fun w' hb => ⟨cell_under hb c1, cell_under hb c2⟩
                  have HSq : Hid (∀ (w' : World), Keep (fun b => (Value.slice la ls.length lc).ownBlock = some b) wq.drew w' → (fun w' => w'.cell? ⟨ub, uo + y, none⟩ = some (.int .i64 CY) ∧ w'.cell? ⟨wi.heap.size, y, none⟩ = some (.int .i64 Q)) w') := Lib.hid fun w' hk => by
                    have hs := HSA.out _ (Below.refl _ wq).drew
                    have h2 := hk.block ub (cell_lt hs.1) (fun e => by have := (Ho.out.lt e).1; omega)
                    have h2' := hk.block wi.heap.size (cell_lt hs.2) HNe.out.2
                    refine ⟨?_, ?_⟩
                    · have h := hs.1; simp only [World.cell?] at h ⊢; rw [h2]; exact h
                    · have h := hs.2; simp only [World.cell?] at h ⊢; rw [h2']; exact h
                  have HKq : Hid (∀ (w' : World), Keep (fun b => (Value.slice la ls.length lc).ownBlock = some b) wq.drew w' → Blk w' wi.heap.size 2 (Cn.map (Value.int .i64) ++ [])) := Lib.hid fun w' hk => HKc.out.drew.of_block (hk.block _ HKc.out.lt HNe.out.2)
                  have Hod := Lib.hid (Ho.out.under (Below.refl _ wq).drew)
                  have Hbd := Lib.hid (bb Hb.out (Below.refl _ wq).drew)
                  have HSd := Lib.hid (bb Hb.out (Below.refl _ wq).drew).size
                  have HLn : Hid (ls.length ≤ 1099511627776) := Lib.hid (by have := HLl.out; omega)
                  have w1 : IntKind.i64.wrap ((CY : Int) * 64) = (CY : Int) * 64 := IntWalk.i64_in _ (by omega)
                  have w2 : IntKind.i64.wrap (1099511627776 + (CY : Int) * 64) = 1099511627776 + (CY : Int) * 64 := IntWalk.i64_in _ (by omega)
                  have w3 : IntKind.i64.wrap (1099511627776 + (CY : Int) * 64 + Q) = 1099511627776 + (CY : Int) * 64 + Q := IntWalk.i64_in _ (by omega)
                  have S0 := HSA.out _ (Below.refl _ wq).drew
                  have S1 := HSA.out (wq.alloc (.cells #[.int .i64 (1099511627776 + (CY : Int) * 64 + Q)] 2)).drew ((Below.refl _ wq).alloc (Nat.le_refl _) _).drew
                  clear tU hCY hQ hQc c1 c2
                  go_wp2
                  go_region_held3 (fun w' => w'.cell? ⟨ub, uo + y, none⟩ = some (.int .i64 CY) ∧ w'.cell? ⟨wi.heap.size, y, none⟩ = some (.int .i64 Q)) (first | go_keep | exact HSA.out _ ((Below.refl _ wq).alloc (Nat.le_refl _) _).drew | exact Hq) (first
                    | (refine step_app_int wo.heap.size wq.drew _ ls (1099511627776 + (CY : Int) * 64 + Q) (.tmp 136) (.tmp 148) rfl rfl rfl Hod.out rfl HLn.out HSd.out ?_; intro a' c' w' hown' hkeep hg'; have Hq := HSq.out _ hkeep; have Hk := Lib.hid hkeep; have Ho' := Lib.hid hown'; have Hg := Lib.hid (show (Value.slice la ls.length lc).ownBlock = some a' ∨ wq.drew.heap.size ≤ a' from hg'); clear hkeep hown' hg'))
                  all_goals
                    go_wp2
                    go_roundw
                    case rel => exact ⟨y + 1, ls ++ [1099511627776 + (CY : Int) * 64 + Q], some ⟨a', 0, none⟩, c', by omega, by go_num, by simp, Lib.hid (by simp [HLl.out]; omega), Lib.hid (by rw [HSn.out, HTell.out, HL.out, List.append_assoc]), Lib.hid (Hod.out.frame Hbd.out (Nat.le_refl _) HSd.out Hk.out), Lib.hid (by simpa using Ho'.out), Lib.hid (HKq.out _ Hk.out), Lib.hid ⟨Nat.lt_of_lt_of_le HNe.out.1 Hk.out.size, fun e => by
                      have e2 : a' = wi.heap.size := by simpa [Value.ownBlock] using e
                      rcases Hg.out with h | h
                      · exact HNe.out.2 (by rw [h, e2])
                      · have h3 := HNe.out.1
                        have h4 : wq.heap.size ≤ a' := h
                        omega⟩⟩
                    case measure => simp [intOf]; omega
                · obtain rfl : n = y := by omega
                  rcases Ho.out.open with ⟨_, h0⟩ | ⟨g, cs, hv, hgB, hgb, hgm⟩
                  · exfalso; have := HLl.out; rw [h0] at this; simp at this; omega
                  injection hv with f1 f2 f3
                  subst f1 f3
                  clear f2
                  obtain ⟨L, hL⟩ : ∃ L, ls.length = L := ⟨_, rfl⟩
                  have hLn : L = n + n := by rw [← hL, HLl.out]
                  have HLL := Lib.hid hL
                  have HSrt : Hid (∀ S : List Int, S.Perm ls → S.Pairwise (· ≤ ·) → S = srt (rawM n t C X)) := Lib.hid fun S hp hs => by
                    refine srt_is ?_ hs
                    rw [HL.out] at hp
                    exact hp
                  have hlcap : L + cs.length ≤ 9223372036854775807 := by rw [hL] at hgm; unfold maxLen at hgm; omega
                  have hL24 : L ≤ 24 := by omega
                  have hL2 : 2 ≤ L := by omega
                  have HGB := Lib.hid hgB; have HGb := Lib.hid hgb; have HGm := Lib.hid hgm
                  have HBq := Hb
                  rw [hL]
                  clear Ho HKc HNe hgB hgb hgm HLl HL hL HCv2 HCn hLn Hb
                  go_wp2
                  go_loopw [19, 20, 21] (fun ii _ _ wr => ∃ (i : Nat) (S : List Int), 1 ≤ i ∧ i ≤ L ∧ ii = .int .i64 i ∧ Hid (S.Perm ls) ∧ Hid (SorP i S) ∧ Hid (Blk wr g 2 (S.map (Value.int .i64) ++ cs)) ∧ Hid (Keep (fun b => b = g) wq wr)) (fun ii _ _ _ => L - (intOf ii).toNat)
                  case atStart => exact ⟨1, ls, Nat.le_refl _, by omega, rfl, Lib.hid (List.Perm.refl _), Lib.hid (fun a b h1 h2 => by omega), HGb, Lib.hid (Keep.refl _ _)⟩
                  case round =>
                    clear HGb
                    obtain ⟨i, S, hi1, hi2, rfl, HP, HS, HGb, HGk⟩ := hrel
                    obtain ⟨wx, rfl⟩ : ∃ wx : World, wx = wr := ⟨_, rfl⟩
                    by_cases hlti : i < L
                    · go_wp2
                      go_loopw [20, 21] (fun jj _ wr => ∃ (j : Nat) (T : List Int), j ≤ i ∧ jj = .int .i64 j ∧ Hid (T.Perm ls) ∧ Hid (InsP i j T) ∧ Hid (Blk wr g 2 (T.map (Value.int .i64) ++ cs)) ∧ Hid (Keep (fun b => b = g) wq wr)) (fun jj _ _ => (intOf jj).toNat)
                      case atStart => exact ⟨i, S, Nat.le_refl _, rfl, HP, Lib.hid (InsP.start HS.out), HGb, HGk⟩
                      case round =>
                        clear HP HS HGb HGk
                        obtain ⟨j, T, hj, rfl, HP, HS, HGb, HGk⟩ := hrel
                        obtain ⟨wz, rfl⟩ : ∃ wz : World, wz = wr := ⟨_, rfl⟩
                        have HTl : Hid (T.length = L) := Lib.hid (by rw [← HLL.out]; exact HP.out.length_eq)
                        by_cases hj0 : 0 < j
                        · obtain ⟨m, rfl⟩ : ∃ m, j = m + 1 := ⟨j - 1, by omega⟩
                          have h1 := HGb.out.at' (m + 1) (by rw [HTl.out]; omega)
                          have h2 := HGb.out.at' m (by rw [HTl.out]; omega)
                          have f1 := HGb.out.frozen (m + 1)
                          have f2 := HGb.out.frozen m
                          have em : (((m + 1 : Nat) : Int) - 1) = (m : Int) := by omega
                          have em2 : (m : Int) + 1 - 1 = (m : Int) := by omega
                          obtain ⟨P, hP⟩ : ∃ P, nth T ((m + 1 : Nat) : Int) = P := ⟨_, rfl⟩
                          obtain ⟨R, hR⟩ : ∃ R, nth T (m : Int) = R := ⟨_, rfl⟩
                          rw [hP] at h1; rw [hR] at h2
                          have HPR := Lib.hid (And.intro hP hR)
                          clear hP hR
                          by_cases hle : P < R
                          · have HLE := Lib.hid hle
                            have hd : decide (P < R) = true := by simpa using hle
                            clear hle
                            go_wp2
                            go_quiet (fail)
                            rename_i nq
                            have hbq : Below wz.heap.size wz (wz.drewN nq) := below_drewN (Below.refl _ _) nq
                            generalize wz.drewN nq = wv at hbq ⊢
                            have HBv := Lib.hid (HGb.out.under hbq)
                            have HKv := Lib.hid (HGk.out.under hbq)
                            clear h1 h2 f1 f2 hbq
                            have h1 := HBv.out.at' (m + 1) (by rw [HTl.out]; omega)
                            have h2 := HBv.out.at' m (by rw [HTl.out]; omega)
                            have f1 := HBv.out.frozen (m + 1)
                            have f2 := (HBv.out.put' (m + 1) (by rw [HTl.out]; omega) R).frozen m
                            rw [HPR.out.1] at h1; rw [HPR.out.2] at h2
                            have HB2 := Lib.hid ((HBv.out.put' (m + 1) (by rw [HTl.out]; omega) R).put' m (by simp; rw [HTl.out]; omega) P)
                            have HK2 := Lib.hid ((HKv.out.setCell (p := ⟨g, m + 1, none⟩) (.inl rfl) (.int .i64 R)).setCell (p := ⟨g, m, none⟩) (.inl rfl) (.int .i64 P))
                            have HSw : Hid ((T.set (m + 1) R).set m P = swp T (m + 1)) := Lib.hid (by
                              unfold swp
                              rw [em, HPR.out.1, HPR.out.2]; try simp)
                            go_wp2
                            go_roundw
                            case rel => exact ⟨m, (T.set (m + 1) R).set m P, by omega, by go_num, Lib.hid (by rw [HSw.out]; exact (swp_perm (by omega) (by rw [HTl.out]; omega)).trans HP.out), Lib.hid (by
                              rw [HSw.out]
                              have := HS.out.step (by omega) (by rw [HTl.out]; omega) (by omega) (by rw [em, HPR.out.1, HPR.out.2]; exact HLE.out)
                              exact this), HB2, HK2⟩
                            case measure => simp [intOf]
                          · have HLE := Lib.hid hle
                            have hd : decide (P < R) = false := by simpa using hle
                            clear hle
                            go_wp2
                            go_quiet (fail)
                            rename_i nq
                            have hbq : Below wz.heap.size wz (wz.drewN nq) := below_drewN (Below.refl _ _) nq
                            generalize wz.drewN nq = wv at hbq ⊢
                            have HBv := Lib.hid (HGb.out.under hbq)
                            have HKv := Lib.hid (HGk.out.under hbq)
                            clear h1 h2 f1 f2 hbq
                            go_wp2
                            go_roundw
                            case rel => exact ⟨i + 1, T, by omega, by omega, by go_num, HP, Lib.hid (HS.out.done (fun _ => by rw [em, HPR.out.1, HPR.out.2]; have := HLE.out; omega)), HBv, HKv⟩
                            case measure => simp [intOf]; omega
                        · obtain rfl : j = 0 := by omega
                          go_wp2
                          go_quiet (fail)
                          rename_i nq
                          have hbq : Below wz.heap.size wz (wz.drewN nq) := below_drewN (Below.refl _ _) nq
                          generalize wz.drewN nq = wv at hbq ⊢
                          have HBv := Lib.hid (HGb.out.under hbq)
                          have HKv := Lib.hid (HGk.out.under hbq)
                          clear hbq
                          go_wp2
                          go_roundw
                          case rel => exact ⟨i + 1, T, by omega, by omega, by go_num, HP, Lib.hid (HS.out.done (fun h => by omega)), HBv, HKv⟩
                          case measure => simp [intOf]; omega
                    · obtain rfl : L = i := by omega
                      have hSl : S.length = L := by rw [← HLL.out]; exact HP.out.length_eq
                      have hSs := HSrt.out S HP.out (SorP.pairwise (by rw [hSl]; exact HS.out))
                      have hown : Own wo.heap.size wx (.slice (some ⟨g, 0, none⟩) L (L + cs.length)) S := Own.shut HGb.out HGB.out (by rw [hSl, ← HLL.out]; exact HGm.out) hSl.symm (by rw [hSl])
                      have HSl := Lib.hid hSl; have HSs := Lib.hid hSs; have HOw := Lib.hid hown
                      have HBx := Lib.hid (show Below wo.heap.size wo wx from HBq.out.trans (HGk.out.below fun b hb => ⟨by have := HBq.out.size; omega, fun e => by have := HGB.out; omega⟩))
                      have HOx := Lib.hid (HO.out.under HBx.out)
                      have HBw := Lib.hid (bb HB.out HBx.out)
                      have HIx := Lib.hid hown.ints
                      clear hSl hSs hown
                      go_wp2_with (at_builtin; refine wpList_app_intsM w.heap.size wx _ _ xs S _ _ rfl rfl rfl HOx.out rfl HIx.out (by rw [HSl.out]; omega) HBw.out.size ?_; intro a' c' w' h1 h2; have Hn := Lib.hid h1; have Hk := Lib.hid h2; rw [HSl.out]; rw [HSl.out] at h1; have Hn2 := Lib.hid h1; clear h1 h2)
                      go_roundw
                      case rel =>
                        refine ⟨k + 1, xs ++ S, a', c', by omega, by go_num, by simp [HSl.out], by simp [HSl.out]; omega, Lib.hid ?_, Lib.hid (HOx.out.frame HBw.out (Nat.le_refl _) HBw.out.size Hk.out), Lib.hid (by simpa [HSl.out] using Hn2.out)⟩
                        rw [List.take_succ_eq_append_getElem (by rw [← HKF.out]; exact hlt), List.flatMap_append, HX.out, HSs.out]
                        have e : F[k]'(by rw [← HKF.out]; exact hlt) = t := by rw [← HT.out]; simp [List.getD, show k < F.length by rw [← HKF.out]; exact hlt]
                        rw [e]; simp
                      case measure => simp [intOf]; omega
    · obtain rfl : K = k := by omega
      have hfin : xs = markM n F C X := by
        rw [HX.out]
        unfold markM
        rw [List.take_of_length_le (by rw [← HKF.out]; exact Nat.le_refl _)]
      have HFin := Lib.hid hfin; clear hfin
      go_wp2
      go_ret
      exact ⟨_, rfl, by rw [← HFin.out]; exact HO.out, HB.out⟩
end Go.Proofs.Ytgmhnjccgldddaa

namespace Go.Proofs.Ytgmhnjccgldddaa
set_option linter.unusedVariables false
set_option linter.unusedSimpArgs false
open Go Go.RowKit

theorem quiet_q {P : Program} {f : FuncId} {args : Array Value} {w : World} {n : Nat} {v : Value} (h : Calls P f args (w.drewN n) (QVal (w.drewN n) v)) : Calls P f args (w.drewN n) fun e w'' => e = .returned v ∧ ∃ m, w'' = w.drewN m :=
  h.mono fun _ _ ⟨he, k, hk⟩ => ⟨he, n + k, by rw [hk, World.drewN_drewN]⟩
/-- Colours of n elements. -/
def ColsOk (n : Nat) (C : List Int) : Prop := C.length = n ∧ ∀ x ∈ C, 0 ≤ x ∧ x ≤ 60
/-- A slice of integers whose block holds integers alone. -/
def IntsB (w : World) (v : Value) (xs : List Int) : Prop := Ints w v xs ∧ ∃ b o c cs, v = .slice (some ⟨b, o, none⟩) xs.length c ∧ Blk w b 2 cs
/-- The post of 'l03Refine'. -/
def RRef (w : World) (n : Nat) (F G : List (List (List Int))) (C D : List Int) (e : Ending) (w' : World) : Prop :=
  ∃ r1 r2 b, e = .returned (.tuple #[r1, r2, .bool b]) ∧ Below w.heap.size w w' ∧ ((b = false ∧ r1 = .slice none 0 0 ∧ r2 = .slice none 0 0 ∧ ∀ p, IsoF n F G p → ¬ Keeps n C D p) ∨
    (b = true ∧ ∃ C' D', IntsB w' r1 C' ∧ IntsB w' r2 D' ∧ ColsOk n C' ∧ ColsOk n D' ∧ ∀ p, IsoF n F G p → Keeps n C D p → Keeps n C' D' p))
theorem madeRows (w : World) : OwnRows w.heap.size (w.alloc (.cells #[] 26)) (.slice (some ⟨w.heap.size, 0, none⟩) 0 0) [] :=
  ⟨[], ⟨rfl, .inr ⟨w.heap.size, 0, #[], rfl, Nat.le_refl _, heap_alloc_new w _, Nat.le_refl _, by decide, rfl, rfl⟩⟩, RowVals.nil _ _⟩

set_option maxRecDepth 100000 in
set_option maxHeartbeats 16000000 in
theorem c_l03Refine {n K : Nat} {F G : List (List (List Int))} {fb fo fc gb go' gc : Nat} {tb to tc tb' to' tc' : Nat → Nat} {rb ro rc rb' ro' rc' : Nat → Nat → Nat} (C D : List Int) (u v : Value) (w : World) (hF : Tb3 w fb fo n K F tb to tc rb ro rc) (hG : Tb3 w gb go' n K G tb' to' tc' rb' ro' rc')
    (hKF : K = F.length) (hKG : K = G.length) (hn0 : 1 ≤ n) (hn : n ≤ 12) (hK : K ≤ 12) (hfc : K ≤ fc) (hgc : K ≤ gc) (hu : Ints w u C) (hv : Ints w v D) (hC : ColsOk n C) (hD : ColsOk n D) :
    Calls Try.prog 71 #[.slice (some ⟨fb, fo, none⟩) K fc, .slice (some ⟨gb, go', none⟩) K gc, u, v] w (RRef w n F G C D) := by
  obtain ⟨a1, c1, rfl, hc1, hm1⟩ := hu.shape
  obtain ⟨a2, c2, rfl, hc2, hm2⟩ := hv.shape
  rw [hC.1] at hc1 ⊢
  rw [hD.1] at hc2 ⊢
  have hu0 : Ints w (.slice a1 n c1) C := by rw [← hC.1]; rw [← hC.1] at hc1; exact hu
  have hv0 : Ints w (.slice a2 n c2) D := by rw [← hD.1]; rw [← hD.1] at hc2; exact hv
  have HFG := Lib.hid (And.intro hF hG); have HTab := Lib.hid (And.intro (hF.tabs hKF) (hG.tabs hKG))
  have HKF := Lib.hid (And.intro hKF hKG)
  have HMk := Lib.hid (fun (W : World) (hb : Below w.heap.size w W) (C' : List Int) (u : Value) (hu : Ints W u C') (hC : ColsOk n C') (X : Nat) (hX : X < n) (W' : World) (hb' : Below W.heap.size W W') => c_l03Mark C' u X W' ((hF.below hb).below hb') hKF hn0 hn hK hfc (hu.below hb') hC.1 hX hC.2)
  have HMk2 := Lib.hid (fun (W : World) (hb : Below w.heap.size w W) (C' : List Int) (u : Value) (hu : Ints W u C') (hC : ColsOk n C') (X : Nat) (hX : X < n) (W' : World) (hb' : Below W.heap.size W W') => c_l03Mark C' u X W' ((hG.below hb).below hb') hKG hn0 hn hK hgc (hu.below hb') hC.1 hX hC.2)
  have HU0 := Lib.hid hu0; have HV0 := Lib.hid hv0; have HC0 := Lib.hid hC; have HD0 := Lib.hid hD
  clear hF hG hKF hKG hu hv hu0 hv0 hC hD
  go_enter Try.func71, Try.ntmps71
  go_wp2
  go_loopw [2, 3, 12, 13, 14, 15, 16, 17, 18, 19, 20, 21, 22, 23, 24] (fun f s num _ _ _ _ _ _ _ _ _ _ _ _ wr => ∃ (N : Nat) (C' D' : List Int) (a1 a2 : Option Addr) (c1 c2 : Nat), f = .slice a1 n c1 ∧ s = .slice a2 n c2 ∧ num = .int .i64 N ∧ N ≤ n + n ∧ Hid (Ints wr (.slice a1 n c1) C') ∧ Hid (Ints wr (.slice a2 n c2) D') ∧ Hid (ColsOk n C') ∧ Hid (ColsOk n D') ∧ Hid (Below w.heap.size w wr) ∧ Hid (∀ p, IsoF n F G p → Keeps n C D p → Keeps n C' D' p) ∧ Hid (Used N (C' ++ D'))) (fun _ _ num _ _ _ _ _ _ _ _ _ _ _ _ _ => n + n + 1 - (intOf num).toNat)
  case atStart => exact ⟨0, C, D, a1, a2, c1, c2, rfl, rfl, rfl, by omega, HU0, HV0, HC0, HD0, Lib.hid (Below.refl _ _), Lib.hid (fun p _ h => h), Lib.hid (fun i hi => by omega)⟩
  case round =>
    clear HU0 HV0 HC0 HD0 hc1 hm1 hc2 hm2
    obtain ⟨N, C', D', a1, a2, c1, c2, rfl, rfl, rfl, hN, HU, HV, HC, HD, HB, HKp, HUs⟩ := hrel
    obtain ⟨wo, rfl⟩ : ∃ wo : World, wo = wr := ⟨_, rfl⟩
    have HM1 := Lib.hid (HMk.out wo HB.out C' _ HU.out HC.out)
    have HM2 := Lib.hid (HMk2.out wo HB.out D' _ HV.out HD.out)
    go_wp2
    go_loopw [13, 14] (fun mv xx wr => ∃ (x : Nat) (ms : List (List Int)) (ma : Option Addr) (mc : Nat), x ≤ n ∧ xx = .int .i64 x ∧ mv = .slice ma x mc ∧ Hid (ms = (iota x).map (markM n F C')) ∧ Hid (OwnRows wo.heap.size wr (.slice ma x mc) ms) ∧ Hid (Below wo.heap.size wo wr)) (fun _ xx _ => n - (intOf xx).toNat)
    case atStart => exact ⟨0, [], _, _, Nat.zero_le _, rfl, rfl, Lib.hid rfl, Lib.hid (madeRows wo), Lib.hid ((Below.refl _ _).alloc (Nat.le_refl _) _)⟩
    case round =>
      obtain ⟨x, ms, ma, mc, hx, rfl, rfl, HMs, HO, Hb⟩ := hrel
      obtain ⟨wi, rfl⟩ : ∃ wi : World, wi = wr := ⟨_, rfl⟩
      by_cases hlx : x < n
      · go_wp2_with fail
        refine (HM1.out x hlx _ Hb.out).mono ?_; rintro e w1 ⟨r, rfl, ho, hb⟩
        obtain ⟨qa, qc, rfl, _⟩ := ho.shape
        have hml : ms.length = x := by rw [HMs.out]; simp [iota]
        have hO : OwnRows wo.heap.size wi (.slice ma ms.length mc) ms := by rw [hml]; exact HO.out
        have HO1 := Lib.hid ho; have HB1 := Lib.hid hb; have HO2 := Lib.hid hO
        have HLn : Hid (ms.length ≤ 1099511627776) := Lib.hid (by rw [hml]; omega)
        have HSz := Lib.hid Hb.out.size
        have HMl := Lib.hid hml
        have HSn : Hid ((iota (x + 1)).map (markM n F C') = (iota x).map (markM n F C') ++ [markM n F C' x]) := Lib.hid (by rw [iota_succ]; simp)
        clear ho hb hO hml
        go_wp2_with (at_builtin; refine wpList_app_row wo.heap.size wi w1 (.slice ma x mc) ms _ (markM n F C' x) _ _ rfl rfl rfl (by have := HO2.out; rw [HMl.out] at this; exact this) HB1.out HO1.out rfl HLn.out HSz.out ?_; intro a' c' w' h1 h2; rw [HMl.out]; rw [HMl.out] at h1; have Ho' := Lib.hid h1; have Hk := Lib.hid h2; clear h1 h2)
        go_roundw
        case rel => exact ⟨x + 1, ms ++ [markM n F C' x], a', c', by omega, by go_num, by simp, Lib.hid (by rw [HSn.out, HMs.out]), Lib.hid (by have := Ho'.out; simpa using this), Lib.hid ((HO.out.inn.under HB1.out).out.frame (bb Hb.out HB1.out) (Nat.le_refl _) (bb Hb.out HB1.out).size Hk.out)⟩
        case measure => simp [intOf]; omega
      · obtain rfl : n = x := by omega
        have HMs0 : Hid (ms = (iota n).map (markM n F C') ++ (iota 0).map (markM n G D')) := Lib.hid (by rw [HMs.out]; simp [iota])
        have HO0 : Hid (OwnRows wo.heap.size wi (.slice ma (n + 0) mc) ms) := HO
        clear HMs HO
        go_wp2
        go_loopw [13, 15] (fun mv xx wr => ∃ (x : Nat) (ms : List (List Int)) (ma : Option Addr) (mc : Nat), x ≤ n ∧ xx = .int .i64 x ∧ mv = .slice ma (n + x) mc ∧ Hid (ms = (iota n).map (markM n F C') ++ (iota x).map (markM n G D')) ∧ Hid (OwnRows wo.heap.size wr (.slice ma (n + x) mc) ms) ∧ Hid (Below wo.heap.size wo wr)) (fun _ xx _ => n - (intOf xx).toNat)
        case atStart => exact ⟨0, ms, ma, mc, Nat.zero_le _, rfl, rfl, HMs0, HO0, Hb⟩
        case round =>
          clear HMs0 HO0 Hb
          obtain ⟨x, ms, ma, mc, hx, rfl, rfl, HMs, HO, Hb⟩ := hrel
          obtain ⟨wi, rfl⟩ : ∃ wi : World, wi = wr := ⟨_, rfl⟩
          by_cases hlx : x < n
          · go_wp2_with fail
            refine (HM2.out x hlx _ Hb.out).mono ?_; rintro e w1 ⟨r, rfl, ho, hb⟩
            obtain ⟨qa, qc, rfl, _⟩ := ho.shape
            have hml : ms.length = n + x := by rw [HMs.out]; simp [iota]
            have hO : OwnRows wo.heap.size wi (.slice ma ms.length mc) ms := by rw [hml]; exact HO.out
            have HO1 := Lib.hid ho; have HB1 := Lib.hid hb; have HO2 := Lib.hid hO
            have HLn : Hid (ms.length ≤ 1099511627776) := Lib.hid (by rw [hml]; omega)
            have HSz := Lib.hid Hb.out.size
            have HMl := Lib.hid hml
            have HSn : Hid ((iota (x + 1)).map (markM n G D') = (iota x).map (markM n G D') ++ [markM n G D' x]) := Lib.hid (by rw [iota_succ]; simp)
            clear ho hb hO hml
            go_wp2_with (at_builtin; refine wpList_app_row wo.heap.size wi w1 (.slice ma (n + x) mc) ms _ (markM n G D' x) _ _ rfl rfl rfl (by have := HO2.out; rw [HMl.out] at this; exact this) HB1.out HO1.out rfl HLn.out HSz.out ?_; intro a' c' w' h1 h2; rw [HMl.out]; rw [HMl.out] at h1; have Ho' := Lib.hid h1; have Hk := Lib.hid h2; clear h1 h2)
            go_roundw
            case rel => exact ⟨x + 1, ms ++ [markM n G D' x], a', c', by omega, by go_num, by simp [Nat.add_assoc], Lib.hid (by rw [HSn.out, HMs.out, List.append_assoc]), Lib.hid (by have := Ho'.out; simpa [Nat.add_assoc] using this), Lib.hid ((HO.out.inn.under HB1.out).out.frame (bb Hb.out HB1.out) (Nat.le_refl _) (bb Hb.out HB1.out).size Hk.out)⟩
            case measure => simp [intOf]; omega
          · obtain rfl : n = x := by omega
            have hms : ms = marksM n F G C' D' := HMs.out
            have hml : ms.length = n + n := by rw [hms, marksM_len]
            obtain ⟨um, hum, hvm⟩ := HO.out.vk
            have hul : um.length = n + n := by rw [hvm.len, hml]
            rcases ownsRow_open hum with ⟨_, h0⟩ | ⟨mg, mcs, hmv, hmgB, hmg, hmm⟩
            · exfalso; rw [h0] at hul; simp at hul; omega
            injection hmv with f1 f2 f3
            subst f1 f3
            rw [hul] at hmm ⊢
            clear f2
            have HMg := Lib.hid hmg; have HMsE := Lib.hid hms; have HMl := Lib.hid hml; have HVm := Lib.hid hvm; have HUl := Lib.hid hul
            have hcap : n + n + mcs.length ≤ 9223372036854775807 := by unfold maxLen at hmm; omega
            have HBk := Lib.hid (bb HB.out Hb.out)
            have HUk := Lib.hid (HU.out.below Hb.out)
            obtain ⟨wk, rfl⟩ : ∃ wk : World, wk = wi := ⟨_, rfl⟩
            clear hum hmg hmgB hms hml hvm hul hmm HMs HO Hb HM1 HM2 HB HU HV
            have hb0 : Below wk.heap.size wk (wk.alloc (.cells #[] 26)) := (Below.refl _ _).alloc (Nat.le_refl _) _
            have HBz := Lib.hid hb0
            have HG0 := Lib.hid (Blk.new wk [] 26)
            clear hb0
            go_wp2
            go_loopw [16, 17, 18, 19] (fun kv ii _ _ wr => ∃ (i l q g : Nat) (ks : List (List Int)) (us cs : List Value), i ≤ n + n ∧ ii = .int .i64 i ∧ kv = .slice (some ⟨g, 0, none⟩) l (l + q) ∧ l ≤ i ∧ l + q ≤ 9223372036854775807 ∧ Hid (us.length = l ∧ cs.length = q) ∧ Hid (wk.heap.size ≤ g) ∧ Hid (Blk wr g 26 (us ++ cs)) ∧ Hid (VK wk us ks) ∧ Hid (AscR ks) ∧ Hid (∀ x, x ∈ ks ↔ x ∈ ms.take i) ∧ Hid (Below wk.heap.size wk wr)) (fun _ ii _ _ _ => n + n - (intOf ii).toNat)
            case atStart => exact ⟨0, 0, 0, wk.heap.size, [], [], [], by omega, rfl, rfl, by omega, by omega, Lib.hid ⟨rfl, rfl⟩, Lib.hid (Nat.le_refl _), HG0, Lib.hid (VK.nil _), Lib.hid List.Pairwise.nil, Lib.hid (by simp), HBz⟩
            case round =>
              clear HBz HG0
              obtain ⟨i, l, q, g, ks, us, cs, hi, rfl, rfl, hli, hlq, HLn, HGB, HG, HVK, HAs, HMe, HBz⟩ := hrel
              obtain ⟨wz, rfl⟩ : ∃ wz : World, wz = wr := ⟨_, rfl⟩
              by_cases hlti : i < n + n
              · obtain ⟨ia, ic, hie, hin⟩ := HVm.out.at' i (by rw [HUl.out]; exact hlti)
                have HMc : Hid (wk.cell? ⟨mg, i, none⟩ = some (.slice ia (row ms i).length ic)) := Lib.hid (by rw [← hie]; exact HMg.out.vcell i (by rw [HUl.out]; exact hlti))
                have HMi := Lib.hid hin
                have HTk : Hid (ms.take (i + 1) = ms.take i ++ [row ms i]) := Lib.hid (take_snoc_row ms i (by rw [HMl.out]; exact hlti))
                clear hie hin
                go_wp2
                go_loopw [18] (fun aa wr => ∃ at' : Nat, at' ≤ l ∧ aa = .int .i64 at' ∧ Hid (Below wz.heap.size wz wr) ∧ Hid (∀ j : Nat, j < at' → lexB (row ks j) (row ms i) = true)) (fun aa _ => l - (intOf aa).toNat)
                case atStart => exact ⟨0, Nat.zero_le _, rfl, Lib.hid (Below.refl _ _), Lib.hid (fun j hj => by omega)⟩
                case round =>
                  obtain ⟨at', hat, rfl, HBa, HLs⟩ := hrel
                  obtain ⟨wy, rfl⟩ : ∃ wy : World, wy = wr := ⟨_, rfl⟩
                  have q0 := cell_under (bb HBz.out HBa.out) HMc.out
                  by_cases hla : at' < l
                  · obtain ⟨ka, kc, hke, hkn⟩ := HVK.out.at' at' (by rw [HLn.out.1]; exact hla)
                    have q1 := (HG.out.under HBa.out).vcell at' (by rw [HLn.out.1]; exact hla)
                    rw [hke] at q1
                    have HKi := Lib.hid hkn
                    have HKc : Hid (∀ W, Below wz.heap.size wz W → W.cell? ⟨g, at', none⟩ = some (.slice ka (row ks at').length kc)) := Lib.hid fun W hb => by
                      have := (HG.out.under hb).vcell at' (by rw [HLn.out.1]; exact hla)
                      rwa [hke] at this
                    have HBy := Lib.hid (bb HBz.out HBa.out)
                    clear hke hkn
                    have HLess : Hid (∀ nq, Calls Try.prog 93 #[.slice ka (row ks at').length kc, .slice ia (row ms i).length ic] (wy.drewN nq) (QVal (wy.drewN nq) (.bool (lexB (row ks at') (row ms i))))) := Lib.hid fun nq => c_l01Less _ _ _ _ _ ((HKi.out.below HBy.out).below (below_drewN (Below.refl _ _) nq)) ((HMi.out.below HBy.out).below (below_drewN (Below.refl _ _) nq))
                    have HSame : Hid (∀ W nq, Below wk.heap.size wk W → Calls Try.prog 94 #[.slice ka (row ks at').length kc, .slice ia (row ms i).length ic] (W.drewN nq) (QVal (W.drewN nq) (.bool (decide (row ks at' = row ms i))))) := Lib.hid fun W nq hb => c_l01Same _ _ _ _ _ ((HKi.out.below hb).below (below_drewN (Below.refl _ _) nq)) ((HMi.out.below hb).below (below_drewN (Below.refl _ _) nq))
                    by_cases hd : lexB (row ks at') (row ms i) = true
                    · have HLs2 := Lib.hid (lt_snoc HLs.out hd)
                      rw [hd] at HLess
                      clear hd HSame
                      go_wp2
                      go_quiet ((go_at_call 93; exact quiet_q (HLess.out _)))
                      rename_i nq
                      have HBq := Lib.hid (below_drewN HBa.out nq)
                      go_wp2
                      go_roundw
                      case rel => exact ⟨at' + 1, by omega, by go_num, HBq, HLs2⟩
                      case measure => simp [intOf]; omega
                    · have hd' : lexB (row ks at') (row ms i) = false := by simpa using hd
                      rw [hd'] at HLess
                      have HD := Lib.hid hd'
                      clear hd hd'
                      go_wp2
                      go_quiet ((go_at_call 93; exact quiet_q (HLess.out _)))
                      rename_i nq
                      have hbq := below_drewN HBa.out nq
                      generalize wy.drewN nq = wv at hbq ⊢
                      have HBv := Lib.hid hbq
                      have HBkv := Lib.hid (bb HBz.out hbq)
                      clear q0 q1 HLess hbq
                      have q0 := cell_under HBkv.out HMc.out
                      have q1 := HKc.out wv HBv.out
                      by_cases he : row ks at' = row ms i
                      · have hs := HSame.out wv
                        simp only [he, decide_true] at hs
                        have HSm : Hid (∀ nq, Calls Try.prog 94 #[.slice ka (row ks at').length kc, .slice ia (row ms i).length ic] (wv.drewN nq) (QVal (wv.drewN nq) (.bool true))) := Lib.hid fun nq => by have := HSame.out wv nq HBkv.out; simpa [he] using this
                        have HIn : Hid (row ms i ∈ ks) := Lib.hid (by rw [← he]; exact row_mem (by omega) (by rw [← HVK.out.len, HLn.out.1]; omega))
                        clear hs he HSame HD
                        go_wp2
                        go_quiet ((go_at_call 94; exact quiet_q (HSm.out _)))
                        rename_i nq
                        have HBw := Lib.hid (below_drewN HBv.out nq)
                        go_wp2
                        go_roundw
                        case rel => exact ⟨i + 1, l, q, g, ks, us, cs, by omega, by go_num, rfl, by omega, hlq, HLn, HGB, Lib.hid (HG.out.under HBw.out), HVK, HAs, Lib.hid (by rw [HTk.out]; exact kinds_same HMe.out HIn.out), Lib.hid (bb HBz.out HBw.out)⟩
                        case measure => simp [intOf]; omega
                      · have HSm : Hid (∀ nq, Calls Try.prog 94 #[.slice ka (row ks at').length kc, .slice ia (row ms i).length ic] (wv.drewN nq) (QVal (wv.drewN nq) (.bool false))) := Lib.hid fun nq => by have := HSame.out wv nq HBkv.out; simpa [he] using this
                        have HNe := Lib.hid he
                        clear he HSame
                        go_wp2
                        go_quiet ((go_at_call 94; exact quiet_q (HSm.out _)))
                        rename_i nq
                        have hbq := below_drewN HBv.out nq
                        generalize wv.drewN nq = wq at hbq ⊢
                        have HBq := Lib.hid hbq
                        have HBkq := Lib.hid (bb HBz.out hbq)
                        clear hbq
                        have HSA : Hid (∀ w', Below wq.heap.size wq w' → w'.cell? ⟨mg, i, none⟩ = some (Value.slice ia (row ms i).length ic)) := Lib.hid fun w' hb => cell_under (bb HBkq.out hb) HMc.out
                        have HGq := Lib.hid (HG.out.under HBq.out)
                        have HAl := Lib.hid (show Below wq.heap.size wq (wq.alloc (.cells #[Value.slice ia (row ms i).length ic] 26)).drew from ((Below.refl _ wq).alloc (Nat.le_refl _) _).drew)
                        have S0 := HSA.out _ (Below.refl _ wq).drew
                        have S1 := HSA.out _ HAl.out
                        have HO1 : Hid ((wq.alloc (.cells #[Value.slice ia (row ms i).length ic] 26)).drew.ownsRow wq.heap.size 26 1 (.slice (some ⟨wq.heap.size, 0, none⟩) 1 1) [Value.slice ia (row ms i).length ic].length [Value.slice ia (row ms i).length ic]) := Lib.hid (ownsRow_shut (cs := []) (by simpa using (Blk.new wq [Value.slice ia (row ms i).length ic] 26).drew) (Nat.le_refl _) (by simp [maxLen]) rfl rfl)
                        have hdl : (us.drop at').length = (l - at') := by rw [List.length_drop, HLn.out.1]
                        have HDl := Lib.hid hdl
                        have HDc : Hid (∀  j (h : j < (us.drop at').length), (wq.alloc (.cells #[Value.slice ia (row ms i).length ic] 26)).drew.cell? ⟨g, at' + j, none⟩ = some (us.drop at')[j]) := Lib.hid fun  j h => by
                          rw [List.getElem_drop]; exact (HGq.out.under HAl.out).vcell (at' + j) (by rw [hdl] at h; rw [HLn.out.1]; omega)
                        have HOne := Lib.hid ((HVK.out.drop at').one)
                        have HLe : Hid ([Value.slice ia (row ms i).length ic].length + (us.drop at').length ≤ 1099511627776) := Lib.hid (by rw [hdl]; simp <;> omega)
                        have HSz1 := Lib.hid HAl.out.size
                        have HRl : Hid (([Value.slice ia (row ms i).length ic] ++ us.drop at').length = 1 + (l - at')) := Lib.hid (by (rw [List.length_append, hdl]) <;> rfl)
                        have HSq : Hid (∀ w5, Keep (fun b => (Value.slice (some ⟨wq.heap.size, 0, none⟩) 1 1).ownBlock = some b) (wq.alloc (.cells #[Value.slice ia (row ms i).length ic] 26)).drew w5 → Below wq.heap.size wq w5) := Lib.hid fun w5 hk => HAl.out.trans (hk.below fun k hk' => ⟨by have := HAl.out.size; omega, fun e => by simp [Value.ownBlock] at e; omega⟩)
                        clear hdl q0 q1
                        have hcp : ¬ (l + q = at') := by omega
                        go_wp2
                        go_region_held3 (fun w' => w'.cell? ⟨mg, i, none⟩ = some (Value.slice ia (row ms i).length ic)) (first | go_keep | exact HSA.out _ HAl.out) (first
                          | (refine step_app_vals wq.heap.size (wq.alloc (.cells #[Value.slice ia (row ms i).length ic] 26)).drew (.slice (some ⟨wq.heap.size, 0, none⟩) 1 1) [Value.slice ia (row ms i).length ic] (us.drop at') _ _ _ (.tmp 95) (.tmp 98) rfl rfl rfl HO1.out _ HDl.out rfl HDc.out HOne.out HLe.out HSz1.out ?_; intro rv w5 h1 h2; have hB5 := HSq.out w5 h2; have Hq := HSA.out w5 hB5; rcases ownsRow_open h1 with ⟨_, h0⟩ | ⟨r, rcs, hrv, hrB, hrb, hrm⟩
                             · exact absurd h0 (by simp)
                             rw [HRl.out] at hrv hrm; subst hrv; have HRb := Lib.hid hrb; have HRB := Lib.hid hrB; have HRm := Lib.hid hrm; have HB5 := Lib.hid hB5; clear h1 h2 hrb hrB hrm hB5))
                        all_goals
                          clear S0 S1 Hq HO1 HDc HSq HAl HSz1 HLe
                          have hrm2 : 1 + (l - at') + rcs.length ≤ 9223372036854775807 := by have := HRm.out; unfold maxLen at this; omega
                          have HA5 := Lib.hid (show Below w5.heap.size w5 (w5.alloc (.cells #[] 26)) from (Below.refl _ w5).alloc (Nat.le_refl _) _)
                          have HO2 : Hid ((w5.alloc (.cells #[] 26)).ownsRow w5.heap.size 26 1 (.slice (some ⟨w5.heap.size, 0, none⟩) 0 0) ([] : List Value).length []) := Lib.hid (ownsRow_shut (cs := []) (by simpa using Blk.new w5 [] 26) (Nat.le_refl _) (by simp [maxLen]) rfl rfl)
                          have htl : (us.take at').length = at' := by rw [List.length_take, HLn.out.1]; omega
                          have HTl := Lib.hid htl
                          have HTc : Hid (∀ j (h : j < (us.take at').length), (w5.alloc (.cells #[] 26)).cell? ⟨g, 0 + j, none⟩ = some (us.take at')[j]) := Lib.hid fun j h => by
                            rw [List.getElem_take, Nat.zero_add]; exact (HGq.out.under (bb HB5.out HA5.out)).vcell j (by rw [htl] at h; rw [HLn.out.1]; omega)
                          have HTone := Lib.hid ((HVK.out.take at').one)
                          have HTle : Hid (([] : List Value).length + (us.take at').length ≤ 1099511627776) := Lib.hid (by rw [htl]; simp; omega)
                          have HSz2 := Lib.hid HA5.out.size
                          have HVi := Lib.hid (VK.single HMi.out)
                          have HRone := Lib.hid ((HVi.out.append (HVK.out.drop at')).one)
                          have HRle : Hid ((us.take at').length + ([Value.slice ia (row ms i).length ic] ++ us.drop at').length ≤ 1099511627776) := Lib.hid (by rw [htl, HRl.out]; omega)
                          have HRc : Hid (∀ w6, Below w5.heap.size w5 w6 → ∀ j (h : j < ([Value.slice ia (row ms i).length ic] ++ us.drop at').length), w6.cell? ⟨r, 0 + j, none⟩ = some ([Value.slice ia (row ms i).length ic] ++ us.drop at')[j]) := Lib.hid fun w6 hb j h => by
                            rw [Nat.zero_add]; exact (HRb.out.under hb).vcell j h
                          have HS6 : Hid (∀ w6, Keep (fun b => (Value.slice (some ⟨w5.heap.size, 0, none⟩) 0 0).ownBlock = some b) (w5.alloc (.cells #[] 26)) w6 → Below w5.heap.size w5 w6) := Lib.hid fun w6 hk => HA5.out.trans (hk.below fun k hk' => ⟨by have := HA5.out.size; omega, fun e => by simp [Value.ownBlock] at e; omega⟩)
                          clear htl
                          go_wp2_with (at_builtin; go_loud (first
                            | (refine wpList_app_vals w5.heap.size (w5.alloc (.cells #[] 26)) (.slice (some ⟨w5.heap.size, 0, none⟩) 0 0) [] (us.take at') _ _ _ (.tmp 100) (.tmp 103) rfl rfl rfl HO2.out _ HTl.out rfl HTc.out HTone.out HTle.out HSz2.out ?_; intro v6 w6 h1 h2; have HB6 := Lib.hid (HS6.out w6 h2); have HO6 := Lib.hid h1; have HSz6 := Lib.hid (HS6.out w6 h2).size; clear h1 h2)
                            | (refine wpList_app_vals w5.heap.size w6 v6 (us.take at') ([Value.slice ia (row ms i).length ic] ++ us.drop at') _ _ _ (.tmp 104) (.tmp 105) rfl rfl rfl HO6.out _ HRl.out rfl (HRc.out w6 HB6.out) HRone.out HRle.out HSz6.out ?_; intro v7 w7 h1 h2; have hB7 : Below w5.heap.size w5 w7 := HB6.out.trans (h2.below fun k hk' => ⟨by have := HB6.out.size; omega, fun e => by have := (World.ownsRow.lt HO6.out k e).1; omega⟩); rcases ownsRow_open h1 with ⟨_, h0⟩ | ⟨g7, cs7, hv7, hB7', hb7, hm7⟩
                               · exact absurd h0 (by simp)
                               have hl7 : (us.take at' ++ ([Value.slice ia (row ms i).length ic] ++ us.drop at')).length = l + 1 := by (rw [List.length_append, HTl.out, HRl.out]) <;> omega
                               rw [hl7] at hv7 hm7; subst hv7; have HB7 := Lib.hid hB7; have HG7 := Lib.hid hb7; have HGB7 := Lib.hid hB7'; have HM7 := Lib.hid hm7; have HL7 := Lib.hid hl7; clear h1 h2 hB7 hB7' hb7 hm7 hl7)))
                          go_roundw
                          case rel =>
                            have hput := kinds_put HAs.out HMe.out (by rw [← HVK.out.len, HLn.out.1]; omega) HLs.out (by rw [← HVK.out.len, HLn.out.1]; intro h; exact HD.out) (by rw [← HVK.out.len, HLn.out.1]; intro h; exact HNe.out)
                            exact ⟨i + 1, l + 1, cs7.length, g7, ks.take at' ++ ([row ms i] ++ ks.drop at'), us.take at' ++ ([Value.slice ia (row ms i).length ic] ++ us.drop at'), cs7, by omega, by go_num, rfl, by omega, by have := HM7.out; unfold maxLen at this; omega, Lib.hid ⟨HL7.out, rfl⟩, Lib.hid (Nat.le_trans (bb HBkq.out HB5.out).size HGB7.out), HG7, Lib.hid ((HVK.out.take at').append (HVi.out.append (HVK.out.drop at'))), Lib.hid hput.1, Lib.hid (by rw [HTk.out]; exact hput.2), Lib.hid (bb (bb HBkq.out HB5.out) HB7.out)⟩
                          case measure => simp [intOf]; omega
                  · obtain rfl : l = at' := by omega
                    go_wp2
                    go_quiet (fail)
                    rename_i nq
                    have hbq := below_drewN HBa.out nq
                    generalize wy.drewN nq = wv at hbq ⊢
                    have HBv := Lib.hid hbq
                    clear hbq q0
                    go_wp2
                    go_quiet (fail)
                    have hbq := below_drewN HBv.out nq
                    generalize wv.drewN nq = wq at hbq ⊢
                    have HBq := Lib.hid hbq
                    have HBkq := Lib.hid (bb HBz.out hbq)
                    clear hbq
                    have q0 := HMc.out
                    have q1 := HMc.out
                    rcases Nat.eq_zero_or_pos q with hq0 | hq0
                    · subst hq0
                      have HSA : Hid (∀ w', Below wq.heap.size wq w' → w'.cell? ⟨mg, i, none⟩ = some (Value.slice ia (row ms i).length ic)) := Lib.hid fun w' hb => cell_under (bb HBkq.out hb) HMc.out
                      have HGq := Lib.hid (HG.out.under HBq.out)
                      have HAl := Lib.hid (show Below wq.heap.size wq (wq.alloc (.cells #[Value.slice ia (row ms i).length ic] 26)).drew from ((Below.refl _ wq).alloc (Nat.le_refl _) _).drew)
                      have S0 := HSA.out _ (Below.refl _ wq).drew
                      have S1 := HSA.out _ HAl.out
                      have HO1 : Hid ((wq.alloc (.cells #[Value.slice ia (row ms i).length ic] 26)).drew.ownsRow wq.heap.size 26 1 (.slice (some ⟨wq.heap.size, 0, none⟩) 1 1) [Value.slice ia (row ms i).length ic].length [Value.slice ia (row ms i).length ic]) := Lib.hid (ownsRow_shut (cs := []) (by simpa using (Blk.new wq [Value.slice ia (row ms i).length ic] 26).drew) (Nat.le_refl _) (by simp [maxLen]) rfl rfl)
                      have hdl : (us.drop l).length = 0 := by rw [List.length_drop, HLn.out.1]; omega
                      have HDl := Lib.hid hdl
                      have HDc : Hid (∀ sb so j (h : j < (us.drop l).length), (wq.alloc (.cells #[Value.slice ia (row ms i).length ic] 26)).drew.cell? ⟨sb, so + j, none⟩ = some (us.drop l)[j]) := Lib.hid fun _ _ j h => by
                        exfalso; rw [hdl] at h; omega
                      have HOne := Lib.hid ((HVK.out.drop l).one)
                      have HLe : Hid ([Value.slice ia (row ms i).length ic].length + (us.drop l).length ≤ 1099511627776) := Lib.hid (by rw [hdl]; simp <;> omega)
                      have HSz1 := Lib.hid HAl.out.size
                      have HRl : Hid (([Value.slice ia (row ms i).length ic] ++ us.drop l).length = 1) := Lib.hid (by (rw [List.length_append, hdl]) <;> rfl)
                      have HSq : Hid (∀ w5, Keep (fun b => (Value.slice (some ⟨wq.heap.size, 0, none⟩) 1 1).ownBlock = some b) (wq.alloc (.cells #[Value.slice ia (row ms i).length ic] 26)).drew w5 → Below wq.heap.size wq w5) := Lib.hid fun w5 hk => HAl.out.trans (hk.below fun k hk' => ⟨by have := HAl.out.size; omega, fun e => by simp [Value.ownBlock] at e; omega⟩)
                      clear hdl q0 q1
                      skip
                      go_wp2
                      go_region_held3 (fun w' => w'.cell? ⟨mg, i, none⟩ = some (Value.slice ia (row ms i).length ic)) (first | go_keep | exact HSA.out _ HAl.out) (first
                        | (refine step_app_vals wq.heap.size (wq.alloc (.cells #[Value.slice ia (row ms i).length ic] 26)).drew (.slice (some ⟨wq.heap.size, 0, none⟩) 1 1) [Value.slice ia (row ms i).length ic] (us.drop l) _ _ _ (.tmp 95) (.tmp 98) rfl rfl rfl HO1.out _ HDl.out rfl (HDc.out _ _) HOne.out HLe.out HSz1.out ?_; intro rv w5 h1 h2; have hB5 := HSq.out w5 h2; have Hq := HSA.out w5 hB5; rcases ownsRow_open h1 with ⟨_, h0⟩ | ⟨r, rcs, hrv, hrB, hrb, hrm⟩
                           · exact absurd h0 (by simp)
                           rw [HRl.out] at hrv hrm; subst hrv; have HRb := Lib.hid hrb; have HRB := Lib.hid hrB; have HRm := Lib.hid hrm; have HB5 := Lib.hid hB5; clear h1 h2 hrb hrB hrm hB5))
                      all_goals
                        clear S0 S1 Hq HO1 HDc HSq HAl HSz1 HLe
                        have hrm2 : 1 + rcs.length ≤ 9223372036854775807 := by have := HRm.out; unfold maxLen at this; omega
                        have HA5 := Lib.hid (show Below w5.heap.size w5 (w5.alloc (.cells #[] 26)) from (Below.refl _ w5).alloc (Nat.le_refl _) _)
                        have HO2 : Hid ((w5.alloc (.cells #[] 26)).ownsRow w5.heap.size 26 1 (.slice (some ⟨w5.heap.size, 0, none⟩) 0 0) ([] : List Value).length []) := Lib.hid (ownsRow_shut (cs := []) (by simpa using Blk.new w5 [] 26) (Nat.le_refl _) (by simp [maxLen]) rfl rfl)
                        have htl : (us.take l).length = l := by rw [List.length_take, HLn.out.1]; omega
                        have HTl := Lib.hid htl
                        have HTc : Hid (∀ j (h : j < (us.take l).length), (w5.alloc (.cells #[] 26)).cell? ⟨g, 0 + j, none⟩ = some (us.take l)[j]) := Lib.hid fun j h => by
                          rw [List.getElem_take, Nat.zero_add]; exact (HGq.out.under (bb HB5.out HA5.out)).vcell j (by rw [htl] at h; rw [HLn.out.1]; omega)
                        have HTone := Lib.hid ((HVK.out.take l).one)
                        have HTle : Hid (([] : List Value).length + (us.take l).length ≤ 1099511627776) := Lib.hid (by rw [htl]; simp; omega)
                        have HSz2 := Lib.hid HA5.out.size
                        have HVi := Lib.hid (VK.single HMi.out)
                        have HRone := Lib.hid ((HVi.out.append (HVK.out.drop l)).one)
                        have HRle : Hid ((us.take l).length + ([Value.slice ia (row ms i).length ic] ++ us.drop l).length ≤ 1099511627776) := Lib.hid (by rw [htl, HRl.out]; omega)
                        have HRc : Hid (∀ w6, Below w5.heap.size w5 w6 → ∀ j (h : j < ([Value.slice ia (row ms i).length ic] ++ us.drop l).length), w6.cell? ⟨r, 0 + j, none⟩ = some ([Value.slice ia (row ms i).length ic] ++ us.drop l)[j]) := Lib.hid fun w6 hb j h => by
                          rw [Nat.zero_add]; exact (HRb.out.under hb).vcell j h
                        have HS6 : Hid (∀ w6, Keep (fun b => (Value.slice (some ⟨w5.heap.size, 0, none⟩) 0 0).ownBlock = some b) (w5.alloc (.cells #[] 26)) w6 → Below w5.heap.size w5 w6) := Lib.hid fun w6 hk => HA5.out.trans (hk.below fun k hk' => ⟨by have := HA5.out.size; omega, fun e => by simp [Value.ownBlock] at e; omega⟩)
                        clear htl
                        go_wp2_with (at_builtin; go_loud (first
                          | (refine wpList_app_vals w5.heap.size (w5.alloc (.cells #[] 26)) (.slice (some ⟨w5.heap.size, 0, none⟩) 0 0) [] (us.take l) _ _ _ (.tmp 100) (.tmp 103) rfl rfl rfl HO2.out _ HTl.out rfl HTc.out HTone.out HTle.out HSz2.out ?_; intro v6 w6 h1 h2; have HB6 := Lib.hid (HS6.out w6 h2); have HO6 := Lib.hid h1; have HSz6 := Lib.hid (HS6.out w6 h2).size; clear h1 h2)
                          | (refine wpList_app_vals w5.heap.size w6 v6 (us.take l) ([Value.slice ia (row ms i).length ic] ++ us.drop l) _ _ _ (.tmp 104) (.tmp 105) rfl rfl rfl HO6.out _ HRl.out rfl (HRc.out w6 HB6.out) HRone.out HRle.out HSz6.out ?_; intro v7 w7 h1 h2; have hB7 : Below w5.heap.size w5 w7 := HB6.out.trans (h2.below fun k hk' => ⟨by have := HB6.out.size; omega, fun e => by have := (World.ownsRow.lt HO6.out k e).1; omega⟩); rcases ownsRow_open h1 with ⟨_, h0⟩ | ⟨g7, cs7, hv7, hB7', hb7, hm7⟩
                             · exact absurd h0 (by simp)
                             have hl7 : (us.take l ++ ([Value.slice ia (row ms i).length ic] ++ us.drop l)).length = l + 1 := by (rw [List.length_append, HTl.out, HRl.out]) <;> omega
                             rw [hl7] at hv7 hm7; subst hv7; have HB7 := Lib.hid hB7; have HG7 := Lib.hid hb7; have HGB7 := Lib.hid hB7'; have HM7 := Lib.hid hm7; have HL7 := Lib.hid hl7; clear h1 h2 hB7 hB7' hb7 hm7 hl7)))
                        go_roundw
                        case rel =>
                          have hput := kinds_put HAs.out HMe.out (by rw [← HVK.out.len, HLn.out.1]; omega) HLs.out (by rw [← HVK.out.len, HLn.out.1]; intro h; omega) (by rw [← HVK.out.len, HLn.out.1]; intro h; omega)
                          exact ⟨i + 1, l + 1, cs7.length, g7, ks.take l ++ ([row ms i] ++ ks.drop l), us.take l ++ ([Value.slice ia (row ms i).length ic] ++ us.drop l), cs7, by omega, by go_num, rfl, by omega, by have := HM7.out; unfold maxLen at this; omega, Lib.hid ⟨HL7.out, rfl⟩, Lib.hid (Nat.le_trans (bb HBkq.out HB5.out).size HGB7.out), HG7, Lib.hid ((HVK.out.take l).append (HVi.out.append (HVK.out.drop l))), Lib.hid hput.1, Lib.hid (by rw [HTk.out]; exact hput.2), Lib.hid (bb (bb HBkq.out HB5.out) HB7.out)⟩
                        case measure => simp [intOf]; omega
                    · have hq1 : ¬ q = 0 := by omega
                      have HSA : Hid (∀ w', Below wq.heap.size wq w' → w'.cell? ⟨mg, i, none⟩ = some (Value.slice ia (row ms i).length ic)) := Lib.hid fun w' hb => cell_under (bb HBkq.out hb) HMc.out
                      have HGq := Lib.hid (HG.out.under HBq.out)
                      have HAl := Lib.hid (show Below wq.heap.size wq (wq.alloc (.cells #[Value.slice ia (row ms i).length ic] 26)).drew from ((Below.refl _ wq).alloc (Nat.le_refl _) _).drew)
                      have S0 := HSA.out _ (Below.refl _ wq).drew
                      have S1 := HSA.out _ HAl.out
                      have HO1 : Hid ((wq.alloc (.cells #[Value.slice ia (row ms i).length ic] 26)).drew.ownsRow wq.heap.size 26 1 (.slice (some ⟨wq.heap.size, 0, none⟩) 1 1) [Value.slice ia (row ms i).length ic].length [Value.slice ia (row ms i).length ic]) := Lib.hid (ownsRow_shut (cs := []) (by simpa using (Blk.new wq [Value.slice ia (row ms i).length ic] 26).drew) (Nat.le_refl _) (by simp [maxLen]) rfl rfl)
                      have hdl : (us.drop l).length = 0 := by rw [List.length_drop, HLn.out.1]; omega
                      have HDl := Lib.hid hdl
                      have HDc : Hid (∀ sb so j (h : j < (us.drop l).length), (wq.alloc (.cells #[Value.slice ia (row ms i).length ic] 26)).drew.cell? ⟨sb, so + j, none⟩ = some (us.drop l)[j]) := Lib.hid fun _ _ j h => by
                        exfalso; rw [hdl] at h; omega
                      have HOne := Lib.hid ((HVK.out.drop l).one)
                      have HLe : Hid ([Value.slice ia (row ms i).length ic].length + (us.drop l).length ≤ 1099511627776) := Lib.hid (by rw [hdl]; simp <;> omega)
                      have HSz1 := Lib.hid HAl.out.size
                      have HRl : Hid (([Value.slice ia (row ms i).length ic] ++ us.drop l).length = 1) := Lib.hid (by (rw [List.length_append, hdl]) <;> rfl)
                      have HSq : Hid (∀ w5, Keep (fun b => (Value.slice (some ⟨wq.heap.size, 0, none⟩) 1 1).ownBlock = some b) (wq.alloc (.cells #[Value.slice ia (row ms i).length ic] 26)).drew w5 → Below wq.heap.size wq w5) := Lib.hid fun w5 hk => HAl.out.trans (hk.below fun k hk' => ⟨by have := HAl.out.size; omega, fun e => by simp [Value.ownBlock] at e; omega⟩)
                      clear hdl q0 q1
                      skip
                      go_wp2
                      go_region_held3 (fun w' => w'.cell? ⟨mg, i, none⟩ = some (Value.slice ia (row ms i).length ic)) (first | go_keep | exact HSA.out _ HAl.out) (first
                        | (refine step_app_vals wq.heap.size (wq.alloc (.cells #[Value.slice ia (row ms i).length ic] 26)).drew (.slice (some ⟨wq.heap.size, 0, none⟩) 1 1) [Value.slice ia (row ms i).length ic] (us.drop l) _ _ _ (.tmp 95) (.tmp 98) rfl rfl rfl HO1.out _ HDl.out rfl (HDc.out _ _) HOne.out HLe.out HSz1.out ?_; intro rv w5 h1 h2; have hB5 := HSq.out w5 h2; have Hq := HSA.out w5 hB5; rcases ownsRow_open h1 with ⟨_, h0⟩ | ⟨r, rcs, hrv, hrB, hrb, hrm⟩
                           · exact absurd h0 (by simp)
                           rw [HRl.out] at hrv hrm; subst hrv; have HRb := Lib.hid hrb; have HRB := Lib.hid hrB; have HRm := Lib.hid hrm; have HB5 := Lib.hid hB5; clear h1 h2 hrb hrB hrm hB5))
                      all_goals
                        clear S0 S1 Hq HO1 HDc HSq HAl HSz1 HLe
                        have hrm2 : 1 + rcs.length ≤ 9223372036854775807 := by have := HRm.out; unfold maxLen at this; omega
                        have HA5 := Lib.hid (show Below w5.heap.size w5 (w5.alloc (.cells #[] 26)) from (Below.refl _ w5).alloc (Nat.le_refl _) _)
                        have HO2 : Hid ((w5.alloc (.cells #[] 26)).ownsRow w5.heap.size 26 1 (.slice (some ⟨w5.heap.size, 0, none⟩) 0 0) ([] : List Value).length []) := Lib.hid (ownsRow_shut (cs := []) (by simpa using Blk.new w5 [] 26) (Nat.le_refl _) (by simp [maxLen]) rfl rfl)
                        have htl : (us.take l).length = l := by rw [List.length_take, HLn.out.1]; omega
                        have HTl := Lib.hid htl
                        have HTc : Hid (∀ j (h : j < (us.take l).length), (w5.alloc (.cells #[] 26)).cell? ⟨g, 0 + j, none⟩ = some (us.take l)[j]) := Lib.hid fun j h => by
                          rw [List.getElem_take, Nat.zero_add]; exact (HGq.out.under (bb HB5.out HA5.out)).vcell j (by rw [htl] at h; rw [HLn.out.1]; omega)
                        have HTone := Lib.hid ((HVK.out.take l).one)
                        have HTle : Hid (([] : List Value).length + (us.take l).length ≤ 1099511627776) := Lib.hid (by rw [htl]; simp; omega)
                        have HSz2 := Lib.hid HA5.out.size
                        have HVi := Lib.hid (VK.single HMi.out)
                        have HRone := Lib.hid ((HVi.out.append (HVK.out.drop l)).one)
                        have HRle : Hid ((us.take l).length + ([Value.slice ia (row ms i).length ic] ++ us.drop l).length ≤ 1099511627776) := Lib.hid (by rw [htl, HRl.out]; omega)
                        have HRc : Hid (∀ w6, Below w5.heap.size w5 w6 → ∀ j (h : j < ([Value.slice ia (row ms i).length ic] ++ us.drop l).length), w6.cell? ⟨r, 0 + j, none⟩ = some ([Value.slice ia (row ms i).length ic] ++ us.drop l)[j]) := Lib.hid fun w6 hb j h => by
                          rw [Nat.zero_add]; exact (HRb.out.under hb).vcell j h
                        have HS6 : Hid (∀ w6, Keep (fun b => (Value.slice (some ⟨w5.heap.size, 0, none⟩) 0 0).ownBlock = some b) (w5.alloc (.cells #[] 26)) w6 → Below w5.heap.size w5 w6) := Lib.hid fun w6 hk => HA5.out.trans (hk.below fun k hk' => ⟨by have := HA5.out.size; omega, fun e => by simp [Value.ownBlock] at e; omega⟩)
                        clear htl
                        go_wp2_with (at_builtin; go_loud (first
                          | (refine wpList_app_vals w5.heap.size (w5.alloc (.cells #[] 26)) (.slice (some ⟨w5.heap.size, 0, none⟩) 0 0) [] (us.take l) _ _ _ (.tmp 100) (.tmp 103) rfl rfl rfl HO2.out _ HTl.out rfl HTc.out HTone.out HTle.out HSz2.out ?_; intro v6 w6 h1 h2; have HB6 := Lib.hid (HS6.out w6 h2); have HO6 := Lib.hid h1; have HSz6 := Lib.hid (HS6.out w6 h2).size; clear h1 h2)
                          | (refine wpList_app_vals w5.heap.size w6 v6 (us.take l) ([Value.slice ia (row ms i).length ic] ++ us.drop l) _ _ _ (.tmp 104) (.tmp 105) rfl rfl rfl HO6.out _ HRl.out rfl (HRc.out w6 HB6.out) HRone.out HRle.out HSz6.out ?_; intro v7 w7 h1 h2; have hB7 : Below w5.heap.size w5 w7 := HB6.out.trans (h2.below fun k hk' => ⟨by have := HB6.out.size; omega, fun e => by have := (World.ownsRow.lt HO6.out k e).1; omega⟩); rcases ownsRow_open h1 with ⟨_, h0⟩ | ⟨g7, cs7, hv7, hB7', hb7, hm7⟩
                             · exact absurd h0 (by simp)
                             have hl7 : (us.take l ++ ([Value.slice ia (row ms i).length ic] ++ us.drop l)).length = l + 1 := by (rw [List.length_append, HTl.out, HRl.out]) <;> omega
                             rw [hl7] at hv7 hm7; subst hv7; have HB7 := Lib.hid hB7; have HG7 := Lib.hid hb7; have HGB7 := Lib.hid hB7'; have HM7 := Lib.hid hm7; have HL7 := Lib.hid hl7; clear h1 h2 hB7 hB7' hb7 hm7 hl7)))
                        go_roundw
                        case rel =>
                          have hput := kinds_put HAs.out HMe.out (by rw [← HVK.out.len, HLn.out.1]; omega) HLs.out (by rw [← HVK.out.len, HLn.out.1]; intro h; omega) (by rw [← HVK.out.len, HLn.out.1]; intro h; omega)
                          exact ⟨i + 1, l + 1, cs7.length, g7, ks.take l ++ ([row ms i] ++ ks.drop l), us.take l ++ ([Value.slice ia (row ms i).length ic] ++ us.drop l), cs7, by omega, by go_num, rfl, by omega, by have := HM7.out; unfold maxLen at this; omega, Lib.hid ⟨HL7.out, rfl⟩, Lib.hid (Nat.le_trans (bb HBkq.out HB5.out).size HGB7.out), HG7, Lib.hid ((HVK.out.take l).append (HVi.out.append (HVK.out.drop l))), Lib.hid hput.1, Lib.hid (by rw [HTk.out]; exact hput.2), Lib.hid (bb (bb HBkq.out HB5.out) HB7.out)⟩
                        case measure => simp [intOf]; omega
              · have HMem : Hid (∀ x, x ∈ ks ↔ x ∈ ms) := Lib.hid (by have := HMe.out; rwa [List.take_of_length_le (by rw [HMl.out]; omega)] at this)
                have hl24 : l ≤ n + n := by omega
                have hkl : ks.length = l := by rw [← HVK.out.len, HLn.out.1]
                have HKl := Lib.hid hkl
                have hmk := run_make_row' (P := Try.prog) 26 2 (.int .i64 0) 8 Try.underlying26 inf_int64 rfl .i64 .i64 l (by omega) (by omega)
                obtain ⟨W0, hW0⟩ : ∃ W0, (wz.alloc (.cells (madeCells #[.int .i64 0] l) 2)).alloc (.cells #[] 2) = W0 := ⟨_, rfl⟩
                have hB0 : Below wz.heap.size wz W0 := by rw [← hW0]; exact ((Below.refl _ _).alloc (Nat.le_refl _) _).alloc (by simp) _
                have hC0 : Blk W0 wz.heap.size 2 ((List.replicate l (0 : Int)).map (Value.int .i64) ++ []) := by
                  rw [← hW0]
                  have := (Blk.made wz (.int .i64 0) l 2).alloc (.cells #[] 2)
                  simpa using this
                have hO0 : Own wz.heap.size W0 (.slice (some ⟨wz.heap.size + 1, 0, none⟩) 0 0) [] := by
                  rw [← hW0]
                  have := Own.made0 (B := wz.heap.size) (wz.alloc (.cells (madeCells #[.int .i64 0] l) 2)) (by simp)
                  simpa using this
                have hS0 : W0.heap.size = wz.heap.size + 2 := by rw [← hW0]; simp
                have HB0 := Lib.hid hB0; have HC0 := Lib.hid hC0; have HO0 := Lib.hid hO0; have HS0 := Lib.hid hS0; have HW0 := Lib.hid hW0
                clear hB0 hC0 hO0 hS0 hW0 hkl HMe
                go_wp2
                rw [HW0.out]
                go_loopw [21, 22, 23] (fun cv ii _ wr => ∃ (i : Nat) (xs : List Int) (ca : Option Addr) (cc : Nat) (Cn : List Int), i ≤ n + n ∧ ii = .int .i64 i ∧ cv = .slice ca i cc ∧ Hid (xs.length = i) ∧ Hid (Own wz.heap.size wr (.slice ca i cc) xs) ∧ Hid (∀ j : Nat, j < i → InN l (nth xs j) ∧ row ks (nth xs j) = row ms j) ∧ Hid (Blk wr wz.heap.size 2 (Cn.map (Value.int .i64) ++ [])) ∧ Hid (Cn.length = l) ∧ Hid (∀ c : Nat, c < l → nth Cn c = ((xs.take n).count (c : Int) : Int) - ((xs.drop n).count (c : Int) : Int)) ∧ Hid (Below wz.heap.size wz wr) ∧ Hid (wz.heap.size < wr.heap.size ∧ (Value.slice ca i cc).ownBlock ≠ some wz.heap.size)) (fun _ ii _ _ => n + n - (intOf ii).toNat)
                case atStart => exact ⟨0, [], _, _, List.replicate l 0, by omega, rfl, rfl, Lib.hid rfl, HO0, Lib.hid (fun j hj => by omega), HC0, Lib.hid (by simp), Lib.hid (fun c hc => by rw [nth_nat _ _ (by simpa using hc)]; simp), HB0, Lib.hid ⟨by rw [HS0.out]; omega, fun e => by simp [Value.ownBlock] at e⟩⟩
                case round =>
                  clear HO0 HC0 HB0 HS0 HW0 hmk
                  obtain ⟨i, xs, ca, cc, Cn, hi, rfl, rfl, HXl, HO, HNum, HCb, HCl, HCv, HBy, HNe⟩ := hrel
                  obtain ⟨wy, rfl⟩ : ∃ wy : World, wy = wr := ⟨_, rfl⟩
                  by_cases hlti : i < n + n
                  · obtain ⟨ia, ic, hie, hin⟩ := HVm.out.at' i (by rw [HUl.out]; exact hlti)
                    have HMc : Hid (wk.cell? ⟨mg, i, none⟩ = some (.slice ia (row ms i).length ic)) := Lib.hid (by rw [← hie]; exact HMg.out.vcell i (by rw [HUl.out]; exact hlti))
                    have HMi := Lib.hid hin
                    obtain ⟨j0, hj0, hj0e⟩ : ∃ j0 : Nat, j0 < l ∧ row ks j0 = row ms i := by
                      have h1 : row ms i ∈ ks := (HMem.out _).2 (row_mem (by omega) (by rw [HMl.out]; omega))
                      obtain ⟨j, hj, e⟩ := List.getElem_of_mem h1
                      exact ⟨j, by rw [← HKl.out]; exact hj, by rw [row_nat _ _ hj]; exact e⟩
                    have HJ0 := Lib.hid hj0e
                    clear hie hin hj0e
                    go_wp2
                    go_loopw [23] (fun aa wr => ∃ at' : Nat, at' ≤ j0 ∧ aa = .int .i64 at' ∧ Hid (Below wy.heap.size wy wr)) (fun aa _ => l - (intOf aa).toNat)
                    case atStart => exact ⟨0, Nat.zero_le _, rfl, Lib.hid (Below.refl _ _)⟩
                    case round =>
                      obtain ⟨at', hat, rfl, HBa⟩ := hrel
                      obtain ⟨wx, rfl⟩ : ∃ wx : World, wx = wr := ⟨_, rfl⟩
                      have hla : at' < l := by omega
                      obtain ⟨ka, kc, hke, hkn⟩ := HVK.out.at' at' (by rw [HLn.out.1]; exact hla)
                      have q0 := cell_under (bb HBz.out (bb HBy.out HBa.out)) HMc.out
                      have q1 := (HG.out.under (bb HBy.out HBa.out)).vcell at' (by rw [HLn.out.1]; exact hla)
                      rw [hke] at q1
                      have HKi := Lib.hid hkn
                      have HBy2 := Lib.hid (bb HBz.out (bb HBy.out HBa.out))
                      clear hke hkn
                      have HSame : Hid (∀ nq, Calls Try.prog 94 #[.slice ka (row ks at').length kc, .slice ia (row ms i).length ic] (wx.drewN nq) (QVal (wx.drewN nq) (.bool (decide (row ks at' = row ms i))))) := Lib.hid fun nq => c_l01Same _ _ _ _ _ ((HKi.out.below HBy2.out).below (below_drewN (Below.refl _ _) nq)) ((HMi.out.below HBy2.out).below (below_drewN (Below.refl _ _) nq))
                      by_cases he : row ks at' = row ms i
                      case neg =>
                        have HSm : Hid (∀ nq, Calls Try.prog 94 #[.slice ka (row ks at').length kc, .slice ia (row ms i).length ic] (wx.drewN nq) (QVal (wx.drewN nq) (.bool false))) := Lib.hid fun nq => by have := HSame.out nq; simpa [he] using this
                        have hne : at' ≠ j0 := fun e => he (by rw [e]; exact HJ0.out)
                        clear he HSame
                        go_wp2
                        go_quiet ((go_at_call 94; exact quiet_q (HSm.out _)))
                        rename_i nq
                        have HBq := Lib.hid (below_drewN HBa.out nq)
                        go_wp2
                        go_roundw
                        case rel => exact ⟨at' + 1, by omega, by go_num, HBq⟩
                        case measure => simp [intOf]; omega
                      case pos =>
                        have HSm : Hid (∀ nq, Calls Try.prog 94 #[.slice ka (row ks at').length kc, .slice ia (row ms i).length ic] (wx.drewN nq) (QVal (wx.drewN nq) (.bool true))) := Lib.hid fun nq => by have := HSame.out nq; simpa [he] using this
                        have HE := Lib.hid he
                        clear he HSame
                        go_wp2
                        go_quiet ((go_at_call 94; exact quiet_q (HSm.out _)))
                        rename_i nq
                        have hbq := below_drewN HBa.out nq
                        generalize wx.drewN nq = wq at hbq ⊢
                        have HBq := Lib.hid hbq
                        clear q0 q1 hbq
                        have hO : Own wz.heap.size wq (.slice ca xs.length cc) xs := by rw [HXl.out]; exact HO.out.under HBq.out
                        have HOq := Lib.hid hO
                        have HSz := Lib.hid (bb HBy.out HBq.out).size
                        have HLn2 : Hid (xs.length ≤ 1099511627776) := Lib.hid (by rw [HXl.out]; omega)
                        have HCq := Lib.hid (HCb.out.under HBq.out)
                        obtain ⟨Q, hQ⟩ : ∃ Q, nth Cn at' = Q := ⟨_, rfl⟩
                        have hQv := HCv.out at' hla
                        rw [hQ] at hQv
                        have t1 : (xs.take n).count (at' : Int) ≤ 24 := by
                          have := List.count_le_length (a := (at' : Int)) (l := xs.take n)
                          rw [List.length_take] at this; have := HXl.out; omega
                        have t2 : (xs.drop n).count (at' : Int) ≤ 24 := by
                          have := List.count_le_length (a := (at' : Int)) (l := xs.drop n)
                          rw [List.length_drop] at this; have := HXl.out; omega
                        have hQ1 : -24 ≤ Q := by omega
                        have hQ2 : Q ≤ 24 := by omega
                        have HQ := Lib.hid hQ
                        have HCk : Hid (∀ W6, Keep (fun b => (Value.slice ca i cc).ownBlock = some b) wq W6 → Blk W6 wz.heap.size 2 (Cn.map (Value.int .i64) ++ [])) := Lib.hid fun W6 hk => HCq.out.of_block (hk.block _ HCq.out.lt HNe.out.2)
                        have HXs := Lib.hid (show ∀ j : Nat, j < i + 1 → InN l (nth (xs ++ [(at' : Int)]) j) ∧ row ks (nth (xs ++ [(at' : Int)]) j) = row ms j from fun j hj => by
                          have hxl := HXl.out
                          rcases Nat.lt_or_ge j i with h | h
                          · rw [nth_nat _ _ (by simp; omega), List.getElem_append_left (by omega), ← nth_nat _ _ (by omega)]
                            exact HNum.out j h
                          · have e : j = i := by omega
                            subst e
                            rw [nth_nat _ _ (by simp; omega), List.getElem_append_right (by omega)]
                            simp only [hxl, Nat.sub_self, List.getElem_cons_zero]
                            exact ⟨⟨by omega, by omega⟩, HE.out⟩)
                        have wQ1 : IntKind.i64.wrap (Q + 1) = Q + 1 := IntWalk.i64_in _ (by omega)
                        have wQ2 : IntKind.i64.wrap (Q - 1) = Q - 1 := IntWalk.i64_in _ (by omega)
                        have HNx : Hid (∀ (w6 : World) (a' : Option Addr) (c' : Nat), (∀ b, (Value.slice a' (i + 1) c').ownBlock = some b → (Value.slice ca i cc).ownBlock = some b ∨ wq.heap.size ≤ b) → (Value.slice a' (i + 1) c').ownBlock ≠ some wz.heap.size) := Lib.hid fun w6 a' c' h e => by
                          rcases h _ e with h1 | h1
                          · exact HNe.out.2 h1
                          · have := HNe.out.1; have := HBq.out.size; omega
                        have HBw6s : Hid (∀ w6, Keep (fun b => (Value.slice ca i cc).ownBlock = some b) wq w6 → wq.heap.size ≤ w6.heap.size) := Lib.hid fun w6 hk => hk.size
                        clear hO hQv t1 t2 hQ
                        by_cases hin : i < n
                        · have HVp : Hid (∀ c : Nat, c < l → nth (Cn.set at' (Q + 1)) c = (((xs ++ [(at' : Int)]).take n).count (c : Int) : Int) - (((xs ++ [(at' : Int)]).drop n).count (c : Int) : Int)) := Lib.hid fun c hc => by
                            have h1 := nth_set Cn (at' : Int) (c : Int) (Q + 1) (by omega) (by rw [HCl.out]; omega) (by omega)
                            rw [Int.toNat_natCast] at h1
                            have h2 := HCv.out c hc
                            have hxl := HXl.out
                            rw [List.take_of_length_le (by omega), List.drop_eq_nil_of_le (by omega)] at h2
                            rw [h1, List.take_of_length_le (by simp; omega), List.drop_eq_nil_of_le (by simp; omega), List.count_append, List.count_singleton]
                            by_cases e : c = at'
                            · subst e
                              rw [if_pos rfl]
                              rw [HQ.out] at h2
                              simp; simp at h2; omega
                            · rw [if_neg (by omega), h2, if_neg (by simp; omega)]; simp
                          go_wp2_with (at_builtin; refine wpList_app_intP wz.heap.size wq ca cc xs (at' : Int) _ _ rfl rfl (by rw [HXl.out]; rfl) HOq.out rfl HLn2.out HSz.out ?_; intro a' c' w6 h1 h2 _ h4; rw [HXl.out]; rw [HXl.out] at h1 h2 h4; have Ho6 := Lib.hid h1; have Hk6 := Lib.hid h2; have Hg6 := Lib.hid h4; have HC6 := Lib.hid (HCk.out w6 h2); have g1 := HC6.out.at' at' (by rw [HCl.out]; exact hla); have g2 := HC6.out.frozen at'; rw [HQ.out] at g1; have HC7 := Lib.hid (HC6.out.put' at' (by rw [HCl.out]; exact hla) (Q + 1)); clear h1 h2 h4)
                          go_roundw
                          case rel =>
                            have hkk := Hk6.out
                            have hBw6 : Below wz.heap.size wz w6 := HOq.out.frame (bb HBy.out HBq.out) (Nat.le_refl _) HSz.out (by rw [HXl.out]; exact hkk)
                            exact ⟨i + 1, xs ++ [(at' : Int)], a', c', Cn.set at' (Q + 1), by omega, by go_num, rfl, Lib.hid (by simp [HXl.out]), Lib.hid (Ho6.out.keepB (S := fun b => b = wz.heap.size) ((Keep.refl (fun b => b = wz.heap.size) w6).setCell (p := ⟨wz.heap.size, at', none⟩) (.inl rfl) _) (fun b hb e => by
                              have e : b = wz.heap.size := e
                              exact HNx.out w6 a' c' Hg6.out (by rw [← e]; exact hb))), HXs, HC7, Lib.hid (by simpa using HCl.out), HVp, Lib.hid (hBw6.setCell (p := ⟨wz.heap.size, at', none⟩) (Nat.le_refl _) _), Lib.hid ⟨Nat.lt_of_lt_of_le HNe.out.1 (Nat.le_trans HBq.out.size (by simpa [World.setCell] using HBw6s.out w6 hkk)), fun e => HNx.out w6 a' c' Hg6.out e⟩⟩
                          case measure => simp [intOf]; omega
                        · have HVp : Hid (∀ c : Nat, c < l → nth (Cn.set at' (Q - 1)) c = (((xs ++ [(at' : Int)]).take n).count (c : Int) : Int) - (((xs ++ [(at' : Int)]).drop n).count (c : Int) : Int)) := Lib.hid fun c hc => by
                            have h1 := nth_set Cn (at' : Int) (c : Int) (Q - 1) (by omega) (by rw [HCl.out]; omega) (by omega)
                            rw [Int.toNat_natCast] at h1
                            have h2 := HCv.out c hc
                            have hxl := HXl.out
                            rw [List.take_append_of_le_length (by omega), List.drop_append_of_le_length (by omega)]
                            rw [h1, List.count_append, List.count_singleton]
                            by_cases e : c = at'
                            · subst e
                              rw [if_pos rfl]
                              rw [HQ.out] at h2
                              simp; omega
                            · rw [if_neg (by omega), h2, if_neg (by simp; omega)]; simp
                          go_wp2_with (at_builtin; refine wpList_app_intP wz.heap.size wq ca cc xs (at' : Int) _ _ rfl rfl (by rw [HXl.out]; rfl) HOq.out rfl HLn2.out HSz.out ?_; intro a' c' w6 h1 h2 _ h4; rw [HXl.out]; rw [HXl.out] at h1 h2 h4; have Ho6 := Lib.hid h1; have Hk6 := Lib.hid h2; have Hg6 := Lib.hid h4; have HC6 := Lib.hid (HCk.out w6 h2); have g1 := HC6.out.at' at' (by rw [HCl.out]; exact hla); have g2 := HC6.out.frozen at'; rw [HQ.out] at g1; have HC7 := Lib.hid (HC6.out.put' at' (by rw [HCl.out]; exact hla) (Q - 1)); clear h1 h2 h4)
                          go_roundw
                          case rel =>
                            have hkk := Hk6.out
                            have hBw6 : Below wz.heap.size wz w6 := HOq.out.frame (bb HBy.out HBq.out) (Nat.le_refl _) HSz.out (by rw [HXl.out]; exact hkk)
                            exact ⟨i + 1, xs ++ [(at' : Int)], a', c', Cn.set at' (Q - 1), by omega, by go_num, rfl, Lib.hid (by simp [HXl.out]), Lib.hid (Ho6.out.keepB (S := fun b => b = wz.heap.size) ((Keep.refl (fun b => b = wz.heap.size) w6).setCell (p := ⟨wz.heap.size, at', none⟩) (.inl rfl) _) (fun b hb e => by
                              have e : b = wz.heap.size := e
                              exact HNx.out w6 a' c' Hg6.out (by rw [← e]; exact hb))), HXs, HC7, Lib.hid (by simpa using HCl.out), HVp, Lib.hid (hBw6.setCell (p := ⟨wz.heap.size, at', none⟩) (Nat.le_refl _) _), Lib.hid ⟨Nat.lt_of_lt_of_le HNe.out.1 (Nat.le_trans HBq.out.size (by simpa [World.setCell] using HBw6s.out w6 hkk)), fun e => HNx.out w6 a' c' Hg6.out e⟩⟩
                          case measure => simp [intOf]; omega
                  · have hie : i = n + n := by omega
                    have hxl : xs.length = n + n := by rw [HXl.out, hie]
                    have HKd : Hid (Kinds (marksM n F G C' D') ks xs) := Lib.hid ⟨HAs.out, fun m => by rw [HMem.out m, HMsE.out], by rw [hxl, marksM_len], fun j hj => by
                      rw [marksM_len] at hj
                      have := HNum.out j (by omega)
                      rw [HKl.out, ← HMsE.out]; exact this⟩
                    have hO : Own wz.heap.size wy (.slice ca xs.length cc) xs := by rw [HXl.out]; exact HO.out
                    rcases hO.open with ⟨_, h0⟩ | ⟨g2, cs2, hv, hgB, hgb, hgm⟩
                    · exfalso; rw [h0] at hxl; simp at hxl; omega
                    injection hv with f1 f2 f3
                    subst f1
                    have hcc : n + n ≤ cc := by omega
                    have hcm : cc ≤ maxLen := by omega
                    have hcm2 : cc ≤ 9223372036854775807 := by unfold maxLen at hcm; omega
                    have hccn : ¬ (cc = n) := by omega
                    have hin1 : i - n = n := by omega
                    have hin2 : n ≤ i := by omega
                    have HIn1 := Lib.hid hin1
                    have HI1 : Hid (∀ W, Below wy.heap.size wy W → Ints W (.slice (some ⟨g2, 0, none⟩) n cc) (xs.take n)) := Lib.hid fun W hb => by
                      have h1 : (xs.take n).length = n := by simp; omega
                      refine ⟨_, cc, by rw [h1], by rw [h1]; omega, hcm, fun j hj => ⟨g2, 0, rfl, ?_⟩⟩
                      have := (hgb.under hb).at' j (by omega)
                      rw [Nat.zero_add, this, List.getElem_take, nth_nat _ _ (by omega)]
                    have HI2 : Hid (∀ W, Below wy.heap.size wy W → Ints W (.slice (some ⟨g2, n, none⟩) n (cc - n)) (xs.drop n)) := Lib.hid fun W hb => by
                      have h1 : (xs.drop n).length = n := by simp; omega
                      refine ⟨_, cc - n, by rw [h1], by rw [h1]; omega, by omega, fun j hj => ⟨g2, n, rfl, ?_⟩⟩
                      have := (hgb.under hb).at' (n + j) (by omega)
                      rw [this, List.getElem_drop, nth_nat _ _ (by omega)]
                    have HGb2 := Lib.hid hgb
                    have HL1 : Hid (ColsOk n (xs.take n) ∧ ColsOk n (xs.drop n)) := Lib.hid (by
                      have h2 : ∀ x ∈ xs, 0 ≤ x ∧ x ≤ 60 := fun x hx => by
                        obtain ⟨j, hj, rfl⟩ := List.getElem_of_mem hx
                        have := (HNum.out j (by omega)).1
                        rw [nth_nat _ _ hj] at this
                        have h3 := this.1; have h4 := this.2
                        exact ⟨h3, by omega⟩
                      exact ⟨⟨by simp; omega, fun x hx => h2 x (List.mem_of_mem_take hx)⟩, ⟨by simp; omega, fun x hx => h2 x (List.mem_of_mem_drop hx)⟩⟩)
                    have HKps : Hid (∀ p, IsoF n F G p → Keeps n C D p → Keeps n (xs.take n) (xs.drop n) p) := Lib.hid fun p hp hk => HKd.out.keeps hp HTab.out.1 (by rw [← HKF.out.1, ← HKF.out.2]) (HKp.out p hp hk)
                    have HUs2 : Hid (Used l (xs.take n ++ xs.drop n)) := Lib.hid (by
                      rw [List.take_append_drop, ← HKl.out]
                      exact HKd.out.used)
                    have hNl : N ≤ l := by
                      rw [← HKl.out]
                      exact HKd.out.more HC.out.1 HD.out.1 HUs.out
                    have HXl2 := Lib.hid hxl
                    have HBall := Lib.hid (bb HBk.out (bb HBz.out HBy.out))
                    clear hie hxl hO hgB hgb hgm f2 f3 hcm hin1
                    go_wp2
                    go_loopw [24] (fun cv wr => ∃ c : Nat, c ≤ l ∧ cv = .int .i64 c ∧ wr = wy ∧ Hid (∀ j : Nat, j < c → nth Cn j = 0)) (fun cv _ => l - (intOf cv).toNat)
                    case atStart => exact ⟨0, Nat.zero_le _, rfl, rfl, Lib.hid (fun j hj => by omega)⟩
                    case round =>
                      obtain ⟨c, hc, rfl, hw, HZ⟩ := hrel
                      subst hw
                      by_cases hlc : c < l
                      · have g1 := HCb.out.at' c (by rw [HCl.out]; exact hlc)
                        obtain ⟨Q, hQ⟩ : ∃ Q, nth Cn c = Q := ⟨_, rfl⟩
                        rw [hQ] at g1
                        have HQ := Lib.hid hQ
                        by_cases h0 : Q = 0
                        · have HZ2 := Lib.hid (lt_snoc HZ.out (hQ.trans h0))
                          subst h0
                          clear hQ
                          go_wp2
                          go_roundw
                          case rel => exact ⟨c + 1, by omega, by go_num, by first | rfl | trivial, HZ2⟩
                          case measure => simp [intOf]; omega
                        · have hb : (Q != 0) = true := by simpa using h0
                          have HNo : Hid (∀ p, IsoF n F G p → ¬ Keeps n C D p) := Lib.hid fun p hp hk => by
                            have h1 := HKps.out p hp hk
                            have h2 := keeps_count hp h1 HL1.out.1.1 HL1.out.2.1 (c : Int)
                            have h3 := HCv.out c hlc
                            rw [hQ, h2] at h3
                            exact h0 (by omega)
                          clear hQ h0
                          go_wp2
                          refine bodyPost_ret (v := .tuple #[.slice none 0 0, .slice none 0 0, .bool false]) (by simp [results, Try.results71, go_sem]) rfl ?_
                          exact ⟨_, _, false, rfl, HBall.out, .inl ⟨rfl, rfl, rfl, HNo.out⟩⟩
                      · by_cases hNe : l = N
                        · have hb : ((l : Int) == (N : Int)) = true := by simp; omega
                          clear hNe
                          go_wp2
                          refine bodyPost_ret (v := .tuple #[.slice (some ⟨g2, 0, none⟩) n cc, .slice (some ⟨g2, n, none⟩) (i - n) (cc - n), .bool true]) (by simp [results, Try.results71, go_sem]) rfl ?_
                          exact ⟨_, _, true, rfl, HBall.out, .inr ⟨rfl, xs.take n, xs.drop n, ⟨HI1.out _ (Below.refl _ _), g2, 0, cc, _, by rw [HL1.out.1.1], HGb2.out⟩, by rw [HIn1.out]; exact ⟨HI2.out _ (Below.refl _ _), g2, n, cc - n, _, by rw [HL1.out.2.1], HGb2.out⟩, HL1.out.1, HL1.out.2, HKps.out⟩⟩
                        · have hb : ((l : Int) == (N : Int)) = false := by simp; omega
                          have hNlt : N < l := by omega
                          clear hNe
                          go_wp2
                          go_roundw
                          case rel =>
                            have e := HIn1.out
                            exact ⟨l, xs.take n, xs.drop n, some ⟨g2, 0, none⟩, some ⟨g2, n, none⟩, cc, cc - n, rfl, by rw [e], rfl, by omega, Lib.hid (HI1.out _ (Below.refl _ _)), Lib.hid (HI2.out _ (Below.refl _ _)), Lib.hid HL1.out.1, Lib.hid HL1.out.2, HBall, HKps, HUs2⟩
                          case measure => simp [intOf]; omega
end Go.Proofs.Ytgmhnjccgldddaa
