/-
  What the law FnSolutionForms is proved of.
-/
import Derived.Test.YtgmhnjccgldddaaSFO1
import Derived.Test.YtgmhnjccgldddaaI3d
import Derived.Test.YtgmhnjccgldddaaI3b
import Derived.Test.YtgmhnjccgldddaaLTables
import Derived.ControlIn
import Derived.Test.YtgmhnjccgldddaaP5
import Derived.Test.YtgmhnjccgldddaaI20
import Derived.Test.YtgmhnjccgldddaaP7
import Derived.Test.YtgmhnjccgldddaaI13
import Derived.Test.YtgmhnjccgldddaaT2
import Derived.BigQuiet
import Derived.Deep.RegionHeld3
namespace Go.Proofs.Ytgmhnjccgldddaa
set_option linter.unusedVariables false
set_option linter.unusedSimpArgs false
open Go Go.RowKit Go.Shelf
attribute [local go_sem] Oper.semAt_some

abbrev TabsP := List (List Int) × List (List Int)
def stepS (A B : List (List Int)) (X : TabsP) (p : List Int) : TabsP := if lexS (renL A p) (renL B p) X.1 X.2 then (renL A p, renL B p) else X
def bestS (A B : List (List Int)) (X : TabsP) (ps : List (List Int)) : TabsP := ps.foldl (stepS A B) X
theorem bestS_snoc (A B : List (List Int)) (X : TabsP) (ps : List (List Int)) (k : Nat) (h : k < ps.length) : bestS A B X (ps.take (k + 1)) = stepS A B (bestS A B X (ps.take k)) (row ps k) := by
  unfold bestS; rw [take_snoc_row _ _ h, List.foldl_append]; rfl
theorem bestS_len {A B : List (List Int)} (hl : B.length = A.length) : ∀ (X : TabsP) (ps : List (List Int)), X.1.length = A.length → X.2.length = A.length → (bestS A B X ps).1.length = A.length ∧ (bestS A B X ps).2.length = A.length
  | X, [], h1, h2 => ⟨h1, h2⟩
  | X, p :: ps, h1, h2 => by
    unfold bestS; rw [List.foldl_cons]
    refine bestS_len hl _ ps ?_ ?_
    · unfold stepS; split
      · simp
      · exact h1
    · unfold stepS; split
      · simpa using hl
      · exact h2
theorem lexS_pos {X P Y Q : List (List Int)} (h : 0 < cmpR X Y) : lexS X P Y Q = false := by
  unfold lexS
  have h1 : X ≠ Y := fun e => by rw [cmpR_zero.2 e] at h; omega
  rw [if_neg h1]
  cases e : lexR X Y with
  | false => rfl
  | true => have := cmpR_neg.2 e; omega
theorem lexS_neg {X P Y Q : List (List Int)} (h : cmpR X Y < 0) : lexS X P Y Q = true := by
  unfold lexS
  have h1 : X ≠ Y := fun e => by rw [cmpR_zero.2 e] at h; omega
  rw [if_neg h1, cmpR_neg.1 h]
def lsSA (A B : List (List Int)) : List (List Int) := (bestS A B (A, B) (allPerms A.length)).1
def lsSB (A B : List (List Int)) : List (List Int) := (bestS A B (A, B) (allPerms A.length)).2

/-- The best pair so far: made ahead of the loop (below m), or behind hi. -/
def BestP (lo m hi : Nat) (W : World) (va vb : Value) (X Y : List (List Int)) : Prop :=
  ∃ l1 h1 l2 h2, lo ≤ l1 ∧ lo ≤ l2 ∧ (h1 ≤ l2 ∨ h2 ≤ l1) ∧ ((h1 ≤ m ∧ h2 ≤ m) ∨ (hi ≤ l1 ∧ hi ≤ l2)) ∧ h1 ≤ W.heap.size ∧ h2 ≤ W.heap.size ∧ OwnRowsIn l1 h1 W va X ∧ OwnRowsIn l2 h2 W vb Y
theorem BestP.keep {lo m hi : Nat} {S : Nat → Prop} {W W' : World} {va vb : Value} {X Y : List (List Int)} (h : BestP lo m hi W va vb X Y) (k : Keep S W W') (h1 : ∀ b, b < m → ¬ S b) (h2 : ∀ b, hi ≤ b → ¬ S b) : BestP lo m hi W' va vb X Y := by
  obtain ⟨l1, g1, l2, g2, a, b, c, d, e, f, o1, o2⟩ := h
  have hs := k.size
  refine ⟨l1, g1, l2, g2, a, b, c, d, by omega, by omega, o1.keep k ?_, o2.keep k ?_⟩
  · intro x x1 x2
    rcases d with d | d
    · exact h1 x (by omega)
    · exact h2 x (by omega)
  · intro x x1 x2
    rcases d with d | d
    · exact h1 x (by omega)
    · exact h2 x (by omega)
theorem BestP.under {lo m hi : Nat} {W W' : World} {va vb : Value} {X Y : List (List Int)} (h : BestP lo m hi W va vb X Y) (hb : Below W.heap.size W W') : BestP lo m hi W' va vb X Y := by
  obtain ⟨l1, g1, l2, g2, a, b, c, d, e, f, o1, o2⟩ := h
  have hs := hb.size
  exact ⟨l1, g1, l2, g2, a, b, c, d, by omega, by omega, o1.under hb, o2.under hb⟩
theorem BestP.own {lo m hi : Nat} {W : World} {va vb : Value} {X Y : List (List Int)} (h : BestP lo m hi W va vb X Y) : OwnSol lo W.heap.size W va vb X Y := by
  obtain ⟨l1, g1, l2, g2, a, b, c, d, e, f, o1, o2⟩ := h
  exact ⟨l1, g1, l2, g2, a, e, b, f, c, o1, o2⟩

theorem BestP.keepL {lo m hi : Nat} {S : Nat → Prop} {W W' : World} {va vb : Value} {X Y : List (List Int)} (h : BestP lo m hi W va vb X Y) (k : Keep S W W') (h1 : ∀ b, lo ≤ b → b < m → ¬ S b) (h2 : ∀ b, lo ≤ b → hi ≤ b → ¬ S b) : BestP lo m hi W' va vb X Y := by
  obtain ⟨l1, g1, l2, g2, a, b, c, d, e, f, o1, o2⟩ := h
  have hs := k.size
  refine ⟨l1, g1, l2, g2, a, b, c, d, by omega, by omega, o1.keep k ?_, o2.keep k ?_⟩
  · intro x x1 x2
    rcases d with d | d
    · exact h1 x (by omega) (by omega)
    · exact h2 x (by omega) (by omega)
  · intro x x1 x2
    rcases d with d | d
    · exact h1 x (by omega) (by omega)
    · exact h2 x (by omega) (by omega)
theorem BestP.ownL {lo' lo m hi : Nat} {W : World} {va vb : Value} {X Y : List (List Int)} (h : BestP lo m hi W va vb X Y) (hl : lo' ≤ lo) : OwnSol lo' W.heap.size W va vb X Y := by
  obtain ⟨l1, g1, l2, g2, a, b, c, d, e, f, o1, o2⟩ := h
  exact ⟨l1, g1, l2, g2, by omega, e, by omega, f, c, o1, o2⟩
theorem BestP.mk0 {lo q s1 s2 hi : Nat} {w1 w2 V : World} {a b : Value} {A B : List (List Int)} (ho1 : OwnRows s1 w1 a A) (hb : Below w1.heap.size w1 w2) (ho2 : OwnRows s2 w2 b B) (hs1 : lo ≤ s1) (hs2 : w1.heap.size ≤ s2) (hlo : lo ≤ w1.heap.size)
    (hk : Keep (fun k => k = q) w2 V) (hq1 : q < s1 ∨ w1.heap.size ≤ q) (hq2 : q < s2 ∨ w2.heap.size ≤ q) : BestP lo V.heap.size hi V a b A B := by
  have h1 := hb.size; have h2 := hk.size
  exact ⟨s1, w1.heap.size, s2, w2.heap.size, hs1, by omega, .inl hs2, .inl ⟨by omega, h2⟩, by omega, h2, (ho1.inn.under hb).keep hk (fun x _ _ e => by omega), ho2.inn.keep hk (fun x _ _ e => by omega)⟩
theorem fin_up {lo m hi q : Nat} {W w1 w9 w5 wz : World} {a b : Value} {XA XB : List (List Int)} (ho1 : OwnRows W.heap.size w1 a XA) (b0 : W.heap.size ≤ w1.heap.size) (b1 : Below w1.heap.size w1 w9) (ho2 : OwnRows w9.heap.size w5 b XB) (b95 : Below w9.heap.size w9 w5) (b2 : Below w5.heap.size w5 wz)
    (hW : hi ≤ W.heap.size) (hlo : lo ≤ W.heap.size) (hq : q < W.heap.size) : BestP lo m hi ((wz.setCell ⟨q, 0, none⟩ a).setCell ⟨q, 1, none⟩ b) a b XA XB := by
  have s1 := b1.size; have s2 := b95.size; have s3 := b2.size
  have hz : ((wz.setCell ⟨q, 0, none⟩ a).setCell ⟨q, 1, none⟩ b).heap.size = wz.heap.size := by simp [World.setCell]
  exact ⟨W.heap.size, w1.heap.size, w9.heap.size, w5.heap.size, hlo, by omega, .inl s1, .inr ⟨hW, by omega⟩, by omega, by omega, (((ho1.inn.under b1).under b95).under b2).keep (keep_early _ _ _ _) (fun x _ _ e => by omega), (ho2.inn.under b2).keep (keep_early _ _ _ _) (fun x _ _ e => by omega)⟩

set_option maxRecDepth 100000 in
set_option maxHeartbeats 8000000 in
theorem c_leastSolution (v0 u0 : Value) (A B : List (List Int)) (w : World) (hA : Sol w v0 u0 A B) (hp : isPM A B = true) (h7 : A.length ≤ 7) :
    Calls Try.prog 46 #[.agg #[v0, u0]] w (RSol w (lsSA A B) (lsSB A B)) := by
  obtain ⟨a0, c0, rfl, _, _⟩ := hA.1.shape
  obtain ⟨a0s, c0s, rfl, _, _⟩ := hA.2.shape
  obtain ⟨q1, q2, q3⟩ := isPM_parts hp
  obtain ⟨hl1, hl2⟩ := isTab_len q1
  have hap := allPerms_le h7
  have hrl : ∀ {t : List (List Int)}, isTab t = true → ∀ r ∈ t, r.length ≤ 1048576 := by
    intro t ht r hr
    obtain ⟨j, hj, rfl⟩ := List.getElem_of_mem hr
    have := isTab_row ht (x := j) (by omega) (by omega)
    have := isTab_len ht
    rw [row_nat _ _ hj] at *; omega
  have HRl := Lib.hid (And.intro (hrl q1) (hrl q2)); have HQ1 := Lib.hid q1; have HQ2 := Lib.hid q2; have HQ3 := Lib.hid q3.symm
  have hBl : B.length ≤ 1048576 := by omega
  clear hrl q1 q2 q3
  refine (callsIn_wide (n := 4)).1 ?_
  refine callsIn_of_wp_marks Try.func46 rfl trivial ?_ rfl
  simp only [Try.ntmps46, List.size_toArray, List.length_cons, List.length_nil, Nat.reduceAdd, Nat.reduceSub, Array.replicate_succ, Array.replicate_zero, List.push_toArray, List.append_toArray, List.nil_append, List.cons_append]
  refine wpIn_wide.2 ?_
  go_wp2_with fail
  obtain ⟨f0, f1, hW0, hsz⟩ := boxes2 w [.slice a0 A.length c0, .slice a0s B.length c0s] [.slice none 0 0, .slice none 0 0] 29 29
  obtain ⟨W0, hW⟩ : ∃ W, ((w.alloc (.cells #[.slice a0 A.length c0, .slice a0s B.length c0s] 29)).alloc (.cells #[.slice none 0 0, .slice none 0 0] 29)) = W := ⟨_, rfl⟩
  rw [hW] at f0 f1 hW0 hsz ⊢
  clear hW
  have HSZ := Lib.hid hsz
  have HRA := Lib.hid ((hA.1.below hW0).below (Below.refl _ _).drew); have HRB := Lib.hid ((hA.2.below hW0).below (Below.refl _ _).drew)
  have HF0 := Lib.hid f0; have HF1 := Lib.hid f1; have HB0 := Lib.hid hW0
  have HSk : Hid (∀ w' : World, Below W0.drew.heap.size W0.drew w' → w'.cell? ⟨w.heap.size, 0, none⟩ = some (.slice a0 A.length c0) ∧ w'.cell? ⟨w.heap.size, 1, none⟩ = some (.slice a0s B.length c0s)) := Lib.hid (fun w' hb => ⟨(two_cells (f0.drew.under hb)).1, (two_cells (f0.drew.under hb)).2.1⟩)
  have BC0 : Below W0.drew.heap.size W0.drew W0.drew := Below.refl _ _
  clear f0 f1 hW0 hsz
  have BCd : Below W0.drew.heap.size W0.drew (W0.alloc (.cells #[.slice none 0 0, .slice none 0 0] 29)).drew := (Below.refl W0.drew.heap.size W0.drew).alloc (Nat.le_refl _) (.cells #[.slice none 0 0, .slice none 0 0] 29)
  have zz := HSk.out _ BC0
  have zd := HSk.out _ BCd
  go_region_held3 (fun w' => w'.cell? ⟨w.heap.size, 0, none⟩ = some (.slice a0 A.length c0) ∧ w'.cell? ⟨w.heap.size, 1, none⟩ = some (.slice a0s B.length c0s))
    (first | go_keep | exact HSk.out _ BC0 | exact HSk.out _ BC1 | exact HSk.out _ BC2 | exact HSk.out _ BCd | exact HSk.out _ (BC1.alloc BC1.size _) | exact HSk.out _ (BC2.alloc BC2.size _) | exact HSk.out _ ((BC2.setCell (p := ⟨w1.heap.size, 0, none⟩) BC1.size _).setCell (p := ⟨w1.heap.size, 1, none⟩) BC1.size _) | exact HSk.out _ ((BC2.setCell (p := ⟨W0.heap.size, 0, none⟩) (Nat.le_refl _) _).setCell (p := ⟨W0.heap.size, 1, none⟩) (Nat.le_refl _) _))
    ((first
      | (go_at_call 63; (with_reducible refine (c_cloneTable _ A _ (HRA.out.below (by first | exact Below.refl _ _ | exact BCd)) (by omega) HRl.out.1).mono ?_); rintro e w1 ⟨r1, rfl, ho1, hb1⟩; obtain ⟨ra1, rc1, hv1, _⟩ := ho1.rows.shape; subst hv1; have BC1 : Below W0.drew.heap.size W0.drew w1 := bb (by first | exact BC0 | exact BCd) hb1; try (have HQ : Blk w1 W0.heap.size 29 [.slice none 0 0, .slice none 0 0] := ((Blk.new W0 [.slice none 0 0, .slice none 0 0] 29).drew).under hb1))
      | (go_at_call 63; (with_reducible refine (c_cloneTable _ B _ (HRB.out.below (bb BC1 (by first | exact Below.refl _ _ | exact (Below.refl _ _).alloc (Nat.le_refl _) _))) hBl HRl.out.2).mono ?_); rintro e w2 ⟨r2, rfl, ho2, hb2⟩; obtain ⟨ra2, rc2, hv2, _⟩ := ho2.rows.shape; subst hv2; have BC12 : Below w1.heap.size w1 w2 := bb (by first | exact Below.refl _ _ | exact (Below.refl _ _).alloc (Nat.le_refl _) _) hb2; have BC2 := bb BC1 BC12; first | (have HQz : Blk w2 W0.heap.size 29 [.slice none 0 0, .slice none 0 0] := HQ.under BC12; have hzz := two_cells HQz; obtain ⟨z1, z2, z3, z4⟩ := hzz) | (have HQz : Blk w2 w1.heap.size 29 [.slice none 0 0, .slice none 0 0] := (Blk.new w1 [.slice none 0 0, .slice none 0 0] 29).under hb2; have hzz := two_cells HQz; obtain ⟨z1, z2, z3, z4⟩ := hzz) | skip)))
  all_goals
    have hsz1 : W0.heap.size ≤ w1.heap.size := BC1.size
    have hsz2 : w1.heap.size ≤ w2.heap.size := BC12.size
    first
      | (obtain ⟨V, hV⟩ : ∃ V, w2.alloc (.cells #[.slice ra1 A.length rc1, .slice ra2 B.length rc2] 29) = V := ⟨_, rfl⟩
         rw [hV]
         have hkk : Keep (fun k => k = w2.heap.size) w2 V := by rw [← hV]; exact keep_late _ _
         have FQ : Blk V (w2.heap.size) 29 [.slice ra1 A.length rc1, .slice ra2 B.length rc2] := by rw [← hV]; exact Blk.new w2 [.slice ra1 A.length rc1, .slice ra2 B.length rc2] 29
         have hb0 : ∀ hi, BestP W0.heap.size V.heap.size hi V (.slice ra1 A.length rc1) (.slice ra2 B.length rc2) A B := fun hi => BestP.mk0 ho1 BC12 ho2 (by first | exact Nat.le_refl _ | (simp; done) | (simp; omega)) (by first | exact Nat.le_refl _ | (simp; done) | (simp; omega)) hsz1 hkk (by first | exact .inr (Nat.le_refl _) | (left; simp; done) | (right; exact hsz2) | (left; simp; omega)) (by first | exact .inr (Nat.le_refl _) | (left; have := HQ.lt; omega) | (left; simp; done) | (left; simp; omega))
         obtain ⟨q, hq⟩ : ∃ q, w2.heap.size = q := ⟨_, rfl⟩
         rw [hq] at hkk FQ ⊢
         have hq0 : W0.heap.size ≤ q := by omega
         clear hV hq)
      | (obtain ⟨V, hV⟩ : ∃ V, (w2.setCell ⟨w1.heap.size, 0, none⟩ (.slice ra1 A.length rc1)).setCell ⟨w1.heap.size, 1, none⟩ (.slice ra2 B.length rc2) = V := ⟨_, rfl⟩
         rw [hV]
         have hkk : Keep (fun k => k = w1.heap.size) w2 V := by rw [← hV]; exact keep_early _ _ _ _
         have FQ : Blk V (w1.heap.size) 29 [.slice ra1 A.length rc1, .slice ra2 B.length rc2] := by rw [← hV]; exact box_early HQz
         have hb0 : ∀ hi, BestP W0.heap.size V.heap.size hi V (.slice ra1 A.length rc1) (.slice ra2 B.length rc2) A B := fun hi => BestP.mk0 ho1 BC12 ho2 (by first | exact Nat.le_refl _ | (simp; done) | (simp; omega)) (by first | exact Nat.le_refl _ | (simp; done) | (simp; omega)) hsz1 hkk (by first | exact .inr (Nat.le_refl _) | (left; simp; done) | (right; exact hsz2) | (left; simp; omega)) (by first | exact .inr (Nat.le_refl _) | (left; have := HQ.lt; omega) | (left; simp; done) | (left; simp; omega))
         obtain ⟨q, hq⟩ : ∃ q, w1.heap.size = q := ⟨_, rfl⟩
         rw [hq] at hkk FQ ⊢
         have hq0 : W0.heap.size ≤ q := by omega
         clear hV hq)
      | (obtain ⟨V, hV⟩ : ∃ V, (w2.setCell ⟨W0.heap.size, 0, none⟩ (.slice ra1 A.length rc1)).setCell ⟨W0.heap.size, 1, none⟩ (.slice ra2 B.length rc2) = V := ⟨_, rfl⟩
         rw [hV]
         have hkk : Keep (fun k => k = W0.heap.size) w2 V := by rw [← hV]; exact keep_early _ _ _ _
         have FQ : Blk V (W0.heap.size) 29 [.slice ra1 A.length rc1, .slice ra2 B.length rc2] := by rw [← hV]; exact box_early HQz
         have hb0 : ∀ hi, BestP W0.heap.size V.heap.size hi V (.slice ra1 A.length rc1) (.slice ra2 B.length rc2) A B := fun hi => BestP.mk0 ho1 BC12 ho2 (by first | exact Nat.le_refl _ | (simp; done) | (simp; omega)) (by first | exact Nat.le_refl _ | (simp; done) | (simp; omega)) hsz1 hkk (by first | exact .inr (Nat.le_refl _) | (left; simp; done) | (right; exact hsz2) | (left; simp; omega)) (by first | exact .inr (Nat.le_refl _) | (left; have := HQ.lt; omega) | (left; simp; done) | (left; simp; omega))
         obtain ⟨q, hq⟩ : ∃ q, W0.heap.size = q := ⟨_, rfl⟩
         rw [hq] at hkk FQ ⊢
         have hq0 : W0.heap.size ≤ q := by omega
         clear hV hq)
    have BV : Below W0.heap.size W0 V := (show Below W0.heap.size W0 w2 from bb (Below.refl W0.heap.size W0).drew BC2).trans (hkk.below fun k hk => ⟨by omega, by omega⟩)
    have HBest := Lib.hid hb0; have HFQ := Lib.hid FQ; have HBV := Lib.hid BV
    have hqV := FQ.lt
    obtain ⟨y1, y2, y3, y4⟩ := two_cells (HF0.out.under BV)
    clear hb0 FQ BV hkk BC0 BC1 BC2 BC12 BCd ho1 ho2 hb1 hb2 HSk HRA HRB
    go_wp2_with fail
    refine (c_permutations _ _).mono ?_; rintro e w3 ⟨g, rfl, hg, hcell, hb3⟩
    have hgg : Below W0.heap.size W0 w3 := bb HBV.out hb3
    have hB3 : Below w.heap.size w w3 := bb HB0.out hgg
    have hbox := HFQ.out.under hb3
    have hs2 : Blk w3 w.heap.size 29 [.slice a0 A.length c0, .slice a0s B.length c0s] := HF0.out.under hgg
    have hr2 : Blk w3 (w.heap.size + 1) 29 [.slice none 0 0, .slice none 0 0] := HF1.out.under hgg
    have hVs : V.heap.size ≤ w3.heap.size := hb3.size
    have hW0s : W0.heap.size = w.heap.size + 1 + 1 := HSZ.out
    have hb0 : ∀ hi W, Below w3.heap.size w3 W → BestP W0.heap.size V.heap.size hi W (.slice ra1 A.length rc1) (.slice ra2 B.length rc2) A B := fun hi W hb =>
      (HBest.out hi).under (bb hb3 hb)
    clear hb3 y1 y2 y3 y4
    go_wp2_with fail
    refine (wpIn_wide (n := 4)).1 ?_
    obtain ⟨N, hN⟩ : ∃ N, N = A.length := ⟨_, rfl⟩
    have hcellN : w3.cell? ⟨g, 0, none⟩ = some (.int .i64 N) := by rw [hN]; exact hcell
    have HN := Lib.hid hN
    have hN1 : 1 ≤ N ∧ N ≤ 7 := by omega
    have HRnA : Hid (∀ k : Nat, k < (allPerms N).length → RenOk A (row (allPerms N) k)) := Lib.hid (by rw [hN]; intro k hk; exact ⟨HQ1.out, (allPerms_row hk).1, (allPerms_row hk).2⟩)
    have HRnB : Hid (∀ k : Nat, k < (allPerms N).length → RenOk B (row (allPerms N) k)) := Lib.hid (by rw [hN]; intro k hk; exact ⟨HQ2.out, (allPerms_row hk).1, (allPerms_row hk).2.trans HQ3.out.symm⟩)
    clear hN hcell
    refine wpIn_rangeFunc_rows rfl (by omega) (gf := 85) (lb := #[.pointer (some ⟨g, 0, none⟩)]) rfl trivial eg_permutations1
      (fun b => b = q) (by rintro b rfl; exact hbox.lt) (c_perms1 N hN1.1 (by omega) _ g w3 hcellN) rfl
      (fun hi k W => ∃ va vb, Blk W q 29 [va, vb] ∧ BestP W0.heap.size V.heap.size hi W va vb (bestS A B (A, B) ((allPerms N).take k)).1 (bestS A B (A, B) ((allPerms N).take k)).2 ∧ Blk W w.heap.size 29 [.slice a0 A.length c0, .slice a0s B.length c0s] ∧ Blk W (w.heap.size + 1) 29 [.slice none 0 0, .slice none 0 0] ∧ Below w.heap.size w W ∧ w3.heap.size ≤ W.heap.size)
      (fun _ _ _ _ => False)
      ?hI (fun _ _ _ _ _ h _ => h) ?h0
      (fun u => { tmps := #[.agg #[.slice a0 A.length c0, .slice a0s B.length c0s], .pointer (some ⟨w.heap.size, 0, none⟩), .pointer (some ⟨w.heap.size + 1, 0, none⟩), .pointer (some ⟨q, 0, none⟩), u, undef, undef, undef, .pointer (some ⟨w.heap.size, 0, none⟩), .slice a0 A.length c0, .slice ra1 A.length rc1, .pointer (some ⟨w.heap.size, 1, none⟩), .slice a0s B.length c0s, .slice ra2 B.length rc2, .agg #[.slice ra1 A.length rc1, .slice ra2 B.length rc2], .pointer (some ⟨w.heap.size, 0, none⟩), .slice a0 A.length c0, .int .i64 A.length, .func (.func 85) #[] #[.pointer (some ⟨g, 0, none⟩)], u, undef, undef, undef, undef, undef, undef, undef, undef, undef, undef, undef, undef, undef, undef, undef, undef, undef, undef, undef, undef, undef, undef, undef, undef, undef, undef], defers := [] })
      ?assign ?body ?done ?stop
    case hI =>
      rintro hi k W W' ⟨va, vb, h1, h2, h3, h4, h5, h6⟩ hk
      exact ⟨va, vb, h1.of_block (hk.block _ h1.lt (by omega)), h2.keep hk (fun b hb h => by omega) (fun b hb h => by omega), h3.of_block (hk.block _ h3.lt (by omega)), h4.of_block (hk.block _ h4.lt (by omega)), h5.trans (hk.below fun k hk' => ⟨by have := h5.size; omega, by omega⟩), Nat.le_trans h6 hk.size⟩
    case h0 =>
      intro W' hb
      exact ⟨_, _, hbox.under hb, by simpa [bestS] using hb0 W'.heap.size W' hb, hs2.under hb, hr2.under hb, bb hB3 hb, hb.size⟩
    case assign =>
      intro l u W K hK
      gi_wp2
      exact hK
    case body =>
      rintro l hi k u W ⟨va, vb, h1, h2, h3, h4, h5, h6⟩ hhi hW hk hu
      have hX := bestS_len HQ3.out (A, B) ((allPerms N).take k) rfl HQ3.out
      obtain ⟨X, hXe⟩ : ∃ X, X = bestS A B (A, B) ((allPerms N).take k) := ⟨_, rfl⟩
      have hsnoc := bestS_snoc A B (A, B) (allPerms N) k hk
      rw [← hXe] at h2 hX hsnoc
      have hbr := h2.own.sol
      obtain ⟨xa, xc, hv1, _, _⟩ := hbr.1.shape
      obtain ⟨ya, yc, hv2, _, _⟩ := hbr.2.shape
      rw [hX.1] at hv1; rw [hX.2] at hv2
      subst hv1 hv2
      have hrnA := HRnA.out k hk; have hrnB := HRnB.out k hk
      have HU := Lib.hid hu; have HR := Lib.hid h2; have H1 := Lib.hid h1; have H3 := Lib.hid h3; have H4 := Lib.hid h4; have H5 := Lib.hid h5; have HBrA := Lib.hid hbr.1; have HBrB := Lib.hid hbr.2; have HSn := Lib.hid hsnoc; have HrA := Lib.hid hrnA; have HrB := Lib.hid hrnB
      have HAr := Lib.hid (hA.1.below h5); have HBrr := Lib.hid (hA.2.below h5)
      obtain ⟨c31, c32, -, -⟩ := two_cells h3
      have hqw3 : q < w3.heap.size := hbox.lt
      clear hu h2 h1 h3 h4 h5 hbr hbox hs2 hr2 hB3 hgg hb0 hcellN hX hXe hsnoc hrnA hrnB
      gi_wp2_with (refine ⟨trivial, ?_⟩; gi_at_call 62; refine (CallsIn.inRound l (callsIn_wide.2 (c_renamed _ _ A _ _ HAr.out HU.out HrA.out))).mono ?_; rintro e w1 ⟨r1, rfl, ho1, hb1⟩; obtain ⟨qa, qc, hqv, _⟩ := ho1.rows.shape; rw [renL_length] at hqv; subst hqv; obtain ⟨c41, c42, -, -⟩ := two_cells (H1.out.under hb1); obtain ⟨c43, c44, -, -⟩ := two_cells (H3.out.under hb1); have HO1 := Lib.hid ho1; have HB1 := Lib.hid hb1; clear ho1 hb1)
      rcases Int.lt_trichotomy (cmpR (renL A (row (allPerms N) k)) X.1) 0 with hc | hc | hc
      · have HLx := Lib.hid (lexS_neg (P := renL B (row (allPerms N) k)) (Q := X.2) hc)
        have hc0 : ¬ (0 < cmpR (renL A (row (allPerms N) k)) X.1) := by omega
        gi_wp2_with (refine ⟨trivial, ?_⟩; gi_at_call 65; refine (CallsIn.inRound l (callsIn_wide.2 (c_compareTables _ _ _ _ _ HO1.out.rows (HBrA.out.below HB1.out)))).mono ?_; rintro e w9 ⟨rfl, nq, hw9⟩; have HX9 := Lib.hid (show Below w1.heap.size w1 w9 by rw [hw9]; exact below_drewN (Below.refl _ _) nq); clear hw9; obtain ⟨d41, d42, d4f, d4g⟩ := two_cells ((H1.out.under HB1.out).under HX9.out); obtain ⟨d43, d44, -, -⟩ := two_cells ((H3.out.under HB1.out).under HX9.out))
        gi_wp2_with (refine ⟨trivial, ?_⟩; gi_at_call 62; refine (CallsIn.inRound l (callsIn_wide.2 (c_renamed _ _ B _ _ (HBrr.out.below (bb HB1.out HX9.out)) (HU.out.below (bb HB1.out HX9.out)) HrB.out))).mono ?_; rintro e w5 ⟨r5, rfl, ho5, hb5⟩; obtain ⟨qb, qd, hqv5, _⟩ := ho5.rows.shape; rw [renL_length, HQ3.out] at hqv5; subst hqv5; have HO5 := Lib.hid ho5; have HB5 := Lib.hid hb5; have hq5 := (((H1.out.under HB1.out).under HX9.out).under hb5); obtain ⟨e41, e42, e4f, e4g⟩ := two_cells hq5; obtain ⟨g41, g42, g4f, g4g⟩ := two_cells (hq5.alloc (.cells #[.slice qa A.length qc, .slice qb A.length qd] 29)); clear ho5 hb5 hq5)
        gi_wp2_with (refine ⟨trivial, ?_⟩)
        have hz : Below w5.heap.size w5 (w5.alloc (.cells #[.slice qa A.length qc, .slice qb A.length qd] 29)) := (Below.refl _ _).alloc (Nat.le_refl _) _
        refine ⟨(((Keep.refl (fun b => b = q ∨ hi ≤ b) W).under (bb (bb (bb HB1.out HX9.out) HB5.out) hz)).setCell (p := ⟨q, 0, none⟩) (.inl (.inl rfl)) _).setCell (p := ⟨q, 1, none⟩) (.inl (.inl rfl)) _, _, _, box_early (H1.out.under (bb (bb (bb HB1.out HX9.out) HB5.out) hz)), ?_, ?_, ?_, ?_, ?_⟩
        · rw [HSn.out]
          unfold stepS
          rw [if_pos HLx.out]
          exact fin_up HO1.out HB1.out.size HX9.out HO5.out HB5.out hz hW (by omega) (by omega)
        · exact (((H3.out.under (bb (bb (bb HB1.out HX9.out) HB5.out) hz)).other (a := ⟨q, 0, none⟩) (by show w.heap.size ≠ q; omega) _).other (a := ⟨q, 1, none⟩) (by show w.heap.size ≠ q; omega) _)
        · exact (((H4.out.under (bb (bb (bb HB1.out HX9.out) HB5.out) hz)).other (a := ⟨q, 0, none⟩) (by show w.heap.size + 1 ≠ q; omega) _).other (a := ⟨q, 1, none⟩) (by show w.heap.size + 1 ≠ q; omega) _)
        · exact ((bb H5.out (bb (bb (bb HB1.out HX9.out) HB5.out) hz)).setCell (p := ⟨q, 0, none⟩) (by show w.heap.size ≤ q; omega) _).setCell (p := ⟨q, 1, none⟩) (by show w.heap.size ≤ q; omega) _
        · have hs := (bb (bb (bb HB1.out HX9.out) HB5.out) hz).size
          exact Nat.le_trans (Nat.le_trans h6 hs) (by simp [World.setCell])
      · have hc0 : ¬ (0 < cmpR (renL A (row (allPerms N) k)) X.1) := by omega
        have hc1 : ¬ (cmpR (renL A (row (allPerms N) k)) X.1 < 0) := by omega
        gi_wp2_with (refine ⟨trivial, ?_⟩; gi_at_call 65; refine (CallsIn.inRound l (callsIn_wide.2 (c_compareTables _ _ _ _ _ HO1.out.rows (HBrA.out.below HB1.out)))).mono ?_; rintro e w9 ⟨rfl, nq, hw9⟩; have HX9 := Lib.hid (show Below w1.heap.size w1 w9 by rw [hw9]; exact below_drewN (Below.refl _ _) nq); clear hw9; obtain ⟨d41, d42, d4f, d4g⟩ := two_cells ((H1.out.under HB1.out).under HX9.out); obtain ⟨d43, d44, -, -⟩ := two_cells ((H3.out.under HB1.out).under HX9.out))
        gi_wp2_with (refine ⟨trivial, ?_⟩; gi_at_call 62; refine (CallsIn.inRound l (callsIn_wide.2 (c_renamed _ _ B _ _ (HBrr.out.below (bb HB1.out HX9.out)) (HU.out.below (bb HB1.out HX9.out)) HrB.out))).mono ?_; rintro e w5 ⟨r5, rfl, ho5, hb5⟩; obtain ⟨qb, qd, hqv5, _⟩ := ho5.rows.shape; rw [renL_length, HQ3.out] at hqv5; subst hqv5; have HO5 := Lib.hid ho5; have HB5 := Lib.hid hb5; have hq5 := (((H1.out.under HB1.out).under HX9.out).under hb5); obtain ⟨e41, e42, e4f, e4g⟩ := two_cells hq5; obtain ⟨g41, g42, g4f, g4g⟩ := two_cells (hq5.alloc (.cells #[.slice qa A.length qc, .slice qb A.length qd] 29)); clear ho5 hb5 hq5)
        have hrdO : Sol (w5.alloc (.cells #[.slice qa A.length qc, .slice qb A.length qd] 29)) (.slice qa A.length qc) (.slice qb A.length qd) (renL A (row (allPerms N) k)) (renL B (row (allPerms N) k)) := ⟨((HO1.out.rows.below HX9.out).below HB5.out).below ((Below.refl _ _).alloc (Nat.le_refl _) _), HO5.out.rows.below ((Below.refl _ _).alloc (Nat.le_refl _) _)⟩
        have hrdB : Sol (w5.alloc (.cells #[.slice qa A.length qc, .slice qb A.length qd] 29)) (.slice xa A.length xc) (.slice ya A.length yc) X.1 X.2 := ⟨(HBrA.out.below (bb (bb HB1.out HX9.out) HB5.out)).below ((Below.refl _ _).alloc (Nat.le_refl _) _), (HBrB.out.below (bb (bb HB1.out HX9.out) HB5.out)).below ((Below.refl _ _).alloc (Nat.le_refl _) _)⟩
        have HrdO := Lib.hid hrdO; have HrdB := Lib.hid hrdB
        clear hrdO hrdB
        by_cases hx : lexS (renL A (row (allPerms N) k)) (renL B (row (allPerms N) k)) X.1 X.2 = true
        · have HLx := Lib.hid hx
          have hcs : orI 0 (cmpR (renL B (row (allPerms N) k)) X.2) < 0 := by have h := orI_neg.2 hx; rwa [hc] at h
          clear hx
          gi_wp2_with (refine ⟨trivial, ?_⟩; gi_at_call 66; refine (CallsIn.inRound l (callsIn_wide.2 (c_compareSolutions _ _ _ _ _ _ _ _ _ HrdO.out HrdB.out))).mono ?_; rintro e w7 ⟨rfl, hb7⟩; obtain ⟨h41, h42, h4f, h4g⟩ := two_cells (((((H1.out.under HB1.out).under HX9.out).under HB5.out).alloc (.cells #[.slice qa A.length qc, .slice qb A.length qd] 29)).under hb7); obtain ⟨i41, i42, -, -⟩ := two_cells ((Blk.new w5 [.slice qa A.length qc, .slice qb A.length qd] 29).under hb7); have HB7 := Lib.hid hb7; clear hb7)
          have hz : Below w5.heap.size w5 w7 := bb ((Below.refl _ _).alloc (Nat.le_refl _) _) HB7.out
          refine ⟨(((Keep.refl (fun b => b = q ∨ hi ≤ b) W).under (bb (bb (bb HB1.out HX9.out) HB5.out) hz)).setCell (p := ⟨q, 0, none⟩) (.inl (.inl rfl)) _).setCell (p := ⟨q, 1, none⟩) (.inl (.inl rfl)) _, _, _, box_early (H1.out.under (bb (bb (bb HB1.out HX9.out) HB5.out) hz)), ?_, ?_, ?_, ?_, ?_⟩
          · rw [HSn.out]
            unfold stepS
            rw [if_pos HLx.out]
            exact fin_up HO1.out HB1.out.size HX9.out HO5.out HB5.out hz hW (by omega) (by omega)
          · exact (((H3.out.under (bb (bb (bb HB1.out HX9.out) HB5.out) hz)).other (a := ⟨q, 0, none⟩) (by show w.heap.size ≠ q; omega) _).other (a := ⟨q, 1, none⟩) (by show w.heap.size ≠ q; omega) _)
          · exact (((H4.out.under (bb (bb (bb HB1.out HX9.out) HB5.out) hz)).other (a := ⟨q, 0, none⟩) (by show w.heap.size + 1 ≠ q; omega) _).other (a := ⟨q, 1, none⟩) (by show w.heap.size + 1 ≠ q; omega) _)
          · exact ((bb H5.out (bb (bb (bb HB1.out HX9.out) HB5.out) hz)).setCell (p := ⟨q, 0, none⟩) (by show w.heap.size ≤ q; omega) _).setCell (p := ⟨q, 1, none⟩) (by show w.heap.size ≤ q; omega) _
          · have hs := (bb (bb (bb HB1.out HX9.out) HB5.out) hz).size
            exact Nat.le_trans (Nat.le_trans h6 hs) (by simp [World.setCell])
        · have hx0 : lexS (renL A (row (allPerms N) k)) (renL B (row (allPerms N) k)) X.1 X.2 = false := by simpa using hx
          have HLx := Lib.hid hx0
          have hcs : ¬ (orI 0 (cmpR (renL B (row (allPerms N) k)) X.2) < 0) := fun h => hx (orI_neg.1 (by rw [hc]; exact h))
          clear hx hx0
          gi_wp2_with (refine ⟨trivial, ?_⟩; gi_at_call 66; refine (CallsIn.inRound l (callsIn_wide.2 (c_compareSolutions _ _ _ _ _ _ _ _ _ HrdO.out HrdB.out))).mono ?_; rintro e w7 ⟨rfl, hb7⟩; have HB7 := Lib.hid hb7; clear hb7)
          have hz : Below W.heap.size W w7 := bb (bb (bb (bb HB1.out HX9.out) HB5.out) ((Below.refl _ _).alloc (Nat.le_refl _) _)) HB7.out
          refine ⟨(Keep.refl (fun b => b = q ∨ hi ≤ b) W).under hz, _, _, H1.out.under hz, ?_, H3.out.under hz, H4.out.under hz, bb H5.out hz, Nat.le_trans h6 hz.size⟩
          rw [HSn.out]
          unfold stepS
          rw [if_neg (by rw [HLx.out]; simp)]
          exact HR.out.under hz
      · have HLx := Lib.hid (lexS_pos (P := renL B (row (allPerms N) k)) (Q := X.2) hc)
        gi_wp2_with (refine ⟨trivial, ?_⟩; gi_at_call 65; refine (CallsIn.inRound l (callsIn_wide.2 (c_compareTables _ _ _ _ _ HO1.out.rows (HBrA.out.below HB1.out)))).mono ?_; rintro e w9 ⟨rfl, nq, hw9⟩; have HX9 := Lib.hid (show Below w1.heap.size w1 w9 by rw [hw9]; exact below_drewN (Below.refl _ _) nq); clear hw9; obtain ⟨d41, d42, d4f, d4g⟩ := two_cells ((H1.out.under HB1.out).under HX9.out); obtain ⟨d43, d44, -, -⟩ := two_cells ((H3.out.under HB1.out).under HX9.out))
        have hz : Below W.heap.size W w9 := bb HB1.out HX9.out
        refine ⟨(Keep.refl (fun b => b = q ∨ hi ≤ b) W).under hz, _, _, H1.out.under hz, ?_, H3.out.under hz, H4.out.under hz, bb H5.out hz, Nat.le_trans h6 hz.size⟩
        rw [HSn.out]
        unfold stepS
        rw [if_neg (by rw [HLx.out]; simp)]
        exact HR.out.under hz
    case done =>
      rintro D hi W hD hDh ⟨va, vb, h1, h2, h3, h4, h5, h6⟩ hK
      rw [List.take_of_length_le (Nat.le_refl _)] at h2
      obtain ⟨X, hXe⟩ : ∃ X, X = bestS A B (A, B) (allPerms N) := ⟨_, rfl⟩
      have hX := bestS_len HQ3.out (A, B) (allPerms N) rfl HQ3.out
      rw [← hXe] at h2 hX
      have hbr := h2.own.sol
      obtain ⟨xa, xc, hv1, _, _⟩ := hbr.1.shape
      obtain ⟨ya, yc, hv2, _, _⟩ := hbr.2.shape
      rw [hX.1] at hv1; rw [hX.2] at hv2
      subst hv1 hv2
      have hqw3 : q < w3.heap.size := hbox.lt
      obtain ⟨c51, c52, -, -⟩ := two_cells h1
      obtain ⟨c61, c62, c63, c64⟩ := two_cells h4
      have H2 := Lib.hid h2; have H5 := Lib.hid h5; have HK := Lib.hid hK; have HXe := Lib.hid hXe; have H4 := Lib.hid h4
      clear h1 h2 h3 h4 h5 hK hbr hbox hs2 hr2 hB3 hgg hb0 hcellN hX hXe
      go_wp2_with fail
      obtain ⟨W1, hW1⟩ : ∃ W1, (W.setCell ⟨w.heap.size + 1, 0, none⟩ (.slice xa A.length xc)).setCell ⟨w.heap.size + 1, 1, none⟩ (.slice ya A.length yc) = W1 := ⟨_, rfl⟩
      have hk1 : Keep (fun b => b = w.heap.size + 1) W W1 := by rw [← hW1]; exact keep_early _ _ _ _
      have hbx : Blk W1 (w.heap.size + 1) 29 [.slice xa A.length xc, .slice ya A.length yc] := by rw [← hW1]; exact box_early H4.out
      have hDW : D < W.heap.size := by
        rcases Nat.lt_or_ge D W.heap.size with h | h
        · exact h
        · have := HK.out; rw [Array.getElem?_eq_none h] at this; cases this
      have hK1 : W1.heap[D]? = some (.deferred (some [])) := by rw [hk1.block D hDW (by omega)]; exact HK.out
      rw [hW1]
      clear hW1
      refine ⟨by simp, .inl ⟨_, _, rfl, run_takeDeferred hK1, ?_⟩⟩
      have hk := keep_putObj W1 D (.deferred none)
      have hbx2 := hbx.of_block (hk.block _ hbx.lt (by omega))
      obtain ⟨x1, x2, -, -⟩ := two_cells hbx2
      refine ⟨.agg #[.slice xa A.length xc, .slice ya A.length yc], by simp [results, Try.results46, go_sem, x1, x2], _, _, rfl, ?_, ?_⟩
      · have g1 := (H2.out.keepL hk1 (fun b hb _ h => by omega) (fun b hb _ h => by omega)).keepL hk (fun b hb hb2 h => by omega) (fun b hb hb2 h => by omega)
        have e : X = bestS A B (A, B) (allPerms A.length) := by rw [HXe.out, HN.out]
        have g2 := g1.ownL (lo' := w.heap.size) (by omega)
        rw [e] at g2; exact g2
      · have hs5 := H5.out.size
        have hs6 := hk1.size
        exact (H5.out.trans (hk1.below fun k hk' => ⟨by omega, by omega⟩)).trans (hk.below fun k hk' => ⟨by omega, by omega⟩)
    case stop =>
      rintro D hi k c W hD _ h _
      exact h.elim
end Go.Proofs.Ytgmhnjccgldddaa

namespace Go.Proofs.Ytgmhnjccgldddaa
set_option linter.unusedVariables false
set_option linter.unusedSimpArgs false
open Go Go.RowKit

theorem cs_same {w : World} {a : Addr} {v u : Value} (h : w.cell? a = some u) : (w.setCell a v).cell? a = some v := by
  first | exact World.cell?_setCell_same _ _ _ h | exact World.cell?_setCell_same _ _ h | exact World.cell?_setCell_same _ h
theorem cs_other {w : World} {a b : Addr} {v : Value} (h : a ≠ b) : (w.setCell a v).cell? b = w.cell? b := by
  first | exact World.cell?_setCell_other _ _ _ _ h | exact World.cell?_setCell_other _ _ _ h | exact World.cell?_setCell_other _ _ h
theorem fz_set {w : World} {a b : Addr} {v : Value} : (w.setCell a v).frozen? b = w.frozen? b := by simp
theorem fz_block {w w' : World} {b i : Nat} (e : w'.heap[b]? = w.heap[b]?) : w'.frozen? ⟨b, i, none⟩ = w.frozen? ⟨b, i, none⟩ := World.frozen?_of_block (w := w) (a := ⟨b, i, none⟩) e
/-- Integers that can be read and written, in a block from lo on. -/
def IntsW (lo : Nat) (w : World) (v : Value) (xs : List Int) : Prop :=
  ∃ (a : Option Addr) (c : Nat), v = .slice a xs.length c ∧ xs.length ≤ c ∧ c ≤ maxLen ∧ ∀ i (h : i < xs.length), ∃ b, a = some ⟨b, 0, none⟩ ∧ lo ≤ b ∧ w.cell? ⟨b, i, none⟩ = some (.int .i64 xs[i]) ∧ w.frozen? ⟨b, i, none⟩ = false
/-- A table that can be read and written, in blocks from lo on. -/
def RowsW (lo : Nat) (w : World) (v : Value) (X : List (List Int)) : Prop :=
  ∃ (a : Option Addr) (c : Nat), v = .slice a X.length c ∧ X.length ≤ c ∧ c ≤ maxLen ∧ ∀ i (h : i < X.length), ∃ b u, a = some ⟨b, 0, none⟩ ∧ lo ≤ b ∧ w.cell? ⟨b, i, none⟩ = some u ∧ w.frozen? ⟨b, i, none⟩ = false ∧ IntsW lo w u X[i]

theorem IntsW.ints {lo : Nat} {w : World} {v : Value} {xs : List Int} (h : IntsW lo w v xs) : Ints w v xs := by
  obtain ⟨a, c, hv, h1, h2, hc⟩ := h
  refine ⟨a, c, hv, h1, h2, fun i hi => ?_⟩
  obtain ⟨b, ha, _, hcell, _⟩ := hc i hi
  exact ⟨b, 0, ha, by rw [Nat.zero_add]; exact hcell⟩
theorem RowsW.rows {lo : Nat} {w : World} {v : Value} {X : List (List Int)} (h : RowsW lo w v X) : Rows w v X := by
  obtain ⟨a, c, hv, h1, h2, hc⟩ := h
  refine ⟨a, c, hv, h1, h2, fun i hi => ?_⟩
  obtain ⟨b, u, ha, _, hcell, _, hu⟩ := hc i hi
  exact ⟨b, 0, u, ha, by rw [Nat.zero_add]; exact hcell, hu.ints⟩
theorem IntsW.at' {lo : Nat} {w : World} {v : Value} {xs : List Int} (h : IntsW lo w v xs) (hx : 0 < xs.length) : IntsAt lo w v xs := by
  refine ⟨h.ints, fun b o hv => ?_⟩
  obtain ⟨n, c, rfl⟩ := hv
  obtain ⟨a, c, hv, h1, h2, hc⟩ := h
  obtain ⟨b', ha, hlo, _⟩ := hc 0 hx
  subst ha
  injection hv with e1; injection e1 with e1; injection e1 with e1; subst e1; exact hlo
theorem IntsW.keep {lo : Nat} {S : Nat → Prop} {w w' : World} {v : Value} {xs : List Int} (h : IntsW lo w v xs) (k : Keep S w w') (hS : ∀ b, lo ≤ b → b < w.heap.size → ¬ S b) : IntsW lo w' v xs := by
  obtain ⟨a, c, hv, h1, h2, hc⟩ := h
  refine ⟨a, c, hv, h1, h2, fun i hi => ?_⟩
  obtain ⟨b, ha, hlo, hcell, hf⟩ := hc i hi
  have e := k.block b (cell_lt hcell) (hS b hlo (cell_lt hcell))
  exact ⟨b, ha, hlo, cell_of_block e hcell, (fz_block e).trans hf⟩
theorem RowsW.keepB {lo : Nat} {S : Nat → Prop} {w w' : World} {v : Value} {X : List (List Int)} (h : RowsW lo w v X) (k : Keep S w w') (hS : ∀ b, lo ≤ b → b < w.heap.size → ¬ S b) : RowsW lo w' v X := by
  obtain ⟨a, c, hv, h1, h2, hc⟩ := h
  refine ⟨a, c, hv, h1, h2, fun i hi => ?_⟩
  obtain ⟨b, u, ha, hlo, hcell, hf, hu⟩ := hc i hi
  have e := k.block b (cell_lt hcell) (hS b hlo (cell_lt hcell))
  exact ⟨b, u, ha, hlo, cell_of_block e hcell, (fz_block e).trans hf, hu.keep k hS⟩
theorem RowsW.keep {lo : Nat} {S : Nat → Prop} {w w' : World} {v : Value} {X : List (List Int)} (h : RowsW lo w v X) (k : Keep S w w') (hS : ∀ b, lo ≤ b → ¬ S b) : RowsW lo w' v X := h.keepB k fun b hb _ => hS b hb
theorem RowsW.under {lo : Nat} {w w' : World} {v : Value} {X : List (List Int)} (h : RowsW lo w v X) (hb : Below w.heap.size w w') : RowsW lo w' v X :=
  h.keepB (S := fun b => w.heap.size ≤ b) (Keep.of_below hb) fun b _ h1 h2 => by have h2 : w.heap.size ≤ b := h2; omega
theorem IntsW.under {lo : Nat} {w w' : World} {v : Value} {xs : List Int} (h : IntsW lo w v xs) (hb : Below w.heap.size w w') : IntsW lo w' v xs :=
  h.keep (S := fun b => w.heap.size ≤ b) (Keep.of_below hb) fun b _ h1 h2 => by have h2 : w.heap.size ≤ b := h2; omega
theorem IntsW.mono {lo lo' : Nat} {w : World} {v : Value} {xs : List Int} (h : IntsW lo w v xs) (hl : lo' ≤ lo) : IntsW lo' w v xs := by
  obtain ⟨a, c, hv, h1, h2, hc⟩ := h
  exact ⟨a, c, hv, h1, h2, fun i hi => by obtain ⟨b, ha, hlo, r⟩ := hc i hi; exact ⟨b, ha, Nat.le_trans hl hlo, r⟩⟩
theorem RowsW.mono {lo lo' : Nat} {w : World} {v : Value} {X : List (List Int)} (h : RowsW lo w v X) (hl : lo' ≤ lo) : RowsW lo' w v X := by
  obtain ⟨a, c, hv, h1, h2, hc⟩ := h
  exact ⟨a, c, hv, h1, h2, fun i hi => by obtain ⟨b, u, ha, hlo, hcell, hf, hu⟩ := hc i hi; exact ⟨b, u, ha, Nat.le_trans hl hlo, hcell, hf, hu.mono hl⟩⟩
theorem Own.wr {lo : Nat} {w : World} {v : Value} {xs : List Int} (h : Own lo w v xs) : IntsW lo w v xs := by
  rcases h.open with ⟨rfl, rfl⟩ | ⟨g, cs, hv, hb, hblk, hm⟩
  · exact ⟨none, 0, rfl, Nat.le_refl _, by decide, fun i hi => absurd hi (Nat.not_lt_zero _)⟩
  · refine ⟨_, _, hv, by omega, hm, fun i hi => ⟨g, rfl, hb, ?_, hblk.frozen i⟩⟩
    have := hblk.cell (i := i) (by simp; omega)
    rw [this, List.getElem_append_left (by simpa using hi), List.getElem_map]
theorem OwnRows.wr {lo : Nat} {w : World} {v : Value} {X : List (List Int)} (h : OwnRows lo w v X) : RowsW lo w v X := by
  obtain ⟨us, h1, h2⟩ := h
  obtain ⟨a, c, hv, hc, hm, hcell⟩ := ownsRow_cells h1
  have h1' := h1
  obtain ⟨hl, hn | ⟨g, cap, cur, hv', hb, hg, hr⟩⟩ := h1'
  · have : X = [] := List.eq_nil_of_length_eq_zero (by rw [← h2.len]; exact hn.2)
    subst this
    exact ⟨none, 0, hn.1, Nat.le_refl _, by decide, fun i hi => absurd hi (Nat.not_lt_zero _)⟩
  · have hblk : Blk w g 26 cur.toList := by unfold Blk; simpa using hg
    rw [h2.len] at hv hc
    refine ⟨a, c, hv, hc, hm, fun i hi => ?_⟩
    have hi' : i < us.length := by rw [h2.len]; exact hi
    obtain ⟨g', ha, hgc⟩ := hcell i hi'
    rw [hv'] at hv
    injection hv with e1
    rw [ha] at e1
    injection e1 with e1
    injection e1 with e1
    subst e1
    exact ⟨g, us[i], ha, hb, hgc, hblk.frozen i, (h2.own i hi' hi).wr⟩
theorem drew_w {b lo : Nat} {w1 w2 : World} {v : Value} {X : List (List Int)} (h : Drew b w1 w2) (hr : RowsW lo w1 v X) (hb : b < lo) : RowsW lo w2 v X := hr.keep h.2 (fun x hx e => by have e : x = b := e; omega)

/-- A cell that holds an integer, after a store of an integer. -/
theorem int_after {w : World} {p q : Addr} {z x : Int} (hq : w.cell? q = some (.int .i64 x)) : ∃ y, (w.setCell p (.int .i64 z)).cell? q = some (.int .i64 y) := by
  by_cases e : p = q
  · subst e; exact ⟨z, cs_same hq⟩
  · exact ⟨x, (cs_other e).trans hq⟩
theorem slice_after {w : World} {p q : Addr} {z : Int} {y0 : Int} {a : Option Addr} {n c : Nat} (hp : w.cell? p = some (.int .i64 y0)) (hq : w.cell? q = some (.slice a n c)) : (w.setCell p (.int .i64 z)).cell? q = some (.slice a n c) := by
  have e : p ≠ q := by intro e; subst e; rw [hp] at hq; cases hq
  exact (cs_other e).trans hq
theorem int_stays {w : World} {p q : Addr} {u : Value} {x : Int} {a : Option Addr} {n c : Nat} (hp : w.cell? p = some (.slice a n c)) (hq : w.cell? q = some (.int .i64 x)) : (w.setCell p u).cell? q = some (.int .i64 x) := by
  have e : p ≠ q := by intro e; subst e; rw [hp] at hq; cases hq
  exact (cs_other e).trans hq

/-- A store of an integer into a cell that holds one. -/
theorem IntsW.putI {lo : Nat} {w : World} {v : Value} {xs : List Int} (h : IntsW lo w v xs) {p : Addr} {y0 : Int} (_hp : w.cell? p = some (.int .i64 y0)) (z : Int) : ∃ ys, ys.length = xs.length ∧ IntsW lo (w.setCell p (.int .i64 z)) v ys := by
  obtain ⟨a, c, hv, h1, h2, hc⟩ := h
  have key : ∀ i : Fin xs.length, ∃ y : Int, ∃ b, a = some ⟨b, 0, none⟩ ∧ lo ≤ b ∧ (w.setCell p (.int .i64 z)).cell? ⟨b, i, none⟩ = some (.int .i64 y) ∧ (w.setCell p (.int .i64 z)).frozen? ⟨b, i, none⟩ = false := by
    intro i
    obtain ⟨b, ha, hlo, hcell, hf⟩ := hc i i.2
    obtain ⟨y, hy⟩ := int_after (p := p) (z := z) hcell
    exact ⟨y, b, ha, hlo, hy, fz_set.trans hf⟩
  refine ⟨List.ofFn fun i => Classical.choose (key i), by simp, a, c, by simp [hv], by simpa using h1, h2, fun i hi => ?_⟩
  have hi' : i < xs.length := by simpa using hi
  have := Classical.choose_spec (key ⟨i, hi'⟩)
  simpa using this
theorem IntsW.putS {lo : Nat} {w : World} {v : Value} {xs : List Int} (h : IntsW lo w v xs) {p : Addr} {a0 : Option Addr} {n0 c0 : Nat} (hp : w.cell? p = some (.slice a0 n0 c0)) (u : Value) : IntsW lo (w.setCell p u) v xs := by
  obtain ⟨a, c, hv, h1, h2, hc⟩ := h
  refine ⟨a, c, hv, h1, h2, fun i hi => ?_⟩
  obtain ⟨b, ha, hlo, hcell, hf⟩ := hc i hi
  exact ⟨b, ha, hlo, int_stays hp hcell, fz_set.trans hf⟩
theorem IntsW.isSlice {lo : Nat} {w : World} {v : Value} {xs : List Int} (h : IntsW lo w v xs) : ∃ a c, v = .slice a xs.length c := by
  obtain ⟨a, c, hv, _⟩ := h
  exact ⟨a, c, hv⟩
/-- All rows of a list are of length at most m. -/
def Wide (m : Nat) (X : List (List Int)) : Prop := ∀ r ∈ X, r.length ≤ m
theorem RowsW.of {lo n m : Nat} {w : World} {a : Option Addr} {c : Nat} (h1 : n ≤ c) (h2 : c ≤ maxLen) (key : ∀ i : Fin n, ∃ r : List Int, r.length ≤ m ∧ ∃ b u, a = some ⟨b, 0, none⟩ ∧ lo ≤ b ∧ w.cell? ⟨b, i, none⟩ = some u ∧ w.frozen? ⟨b, i, none⟩ = false ∧ IntsW lo w u r) :
    ∃ X : List (List Int), X.length = n ∧ Wide m X ∧ RowsW lo w (.slice a n c) X := by
  refine ⟨List.ofFn fun i => Classical.choose (key i), by simp, fun r hr => ?_, a, c, by simp, by simpa using h1, h2, fun i hi => ?_⟩
  · rw [List.mem_ofFn] at hr
    obtain ⟨i, rfl⟩ := hr
    exact (Classical.choose_spec (key i)).1
  · have hi' : i < n := by simpa using hi
    have := (Classical.choose_spec (key ⟨i, hi'⟩)).2
    simpa using this
theorem RowsW.putI {lo m : Nat} {w : World} {a : Option Addr} {n c : Nat} {X : List (List Int)} (h : RowsW lo w (.slice a n c) X) (hm : Wide m X) {p : Addr} {y0 : Int} (hp : w.cell? p = some (.int .i64 y0)) (z : Int) :
    ∃ Y, Y.length = X.length ∧ Wide m Y ∧ RowsW lo (w.setCell p (.int .i64 z)) (.slice a n c) Y := by
  obtain ⟨a', c', hv, h1, h2, hc⟩ := h
  injection hv with e1 e2 e3
  subst e1 e2 e3
  refine RowsW.of h1 h2 fun i => ?_
  obtain ⟨b, u, ha, hlo, hcell, hf, hu⟩ := hc i i.2
  obtain ⟨ua, uc, rfl⟩ := hu.isSlice
  obtain ⟨ys, hl, hy⟩ := hu.putI hp z
  exact ⟨ys, by rw [hl]; exact hm _ (List.getElem_mem _), b, _, ha, hlo, slice_after hp hcell, fz_set.trans hf, hy⟩
theorem RowsW.putS {lo m : Nat} {w : World} {a : Option Addr} {n c : Nat} {X : List (List Int)} (h : RowsW lo w (.slice a n c) X) (hm : Wide m X) {p : Addr} {a0 : Option Addr} {n0 c0 : Nat} (hp : w.cell? p = some (.slice a0 n0 c0)) {u' : Value} {ys : List Int} (hu' : IntsW lo w u' ys) (hy : ys.length ≤ m) :
    ∃ Y, Y.length = X.length ∧ Wide m Y ∧ RowsW lo (w.setCell p u') (.slice a n c) Y := by
  obtain ⟨a', c', hv, h1, h2, hc⟩ := h
  injection hv with e1 e2 e3
  subst e1 e2 e3
  refine RowsW.of h1 h2 fun i => ?_
  obtain ⟨b, u, ha, hlo, hcell, hf, hu⟩ := hc i i.2
  by_cases e : p = ⟨b, i, none⟩
  · subst e
    exact ⟨ys, hy, b, u', ha, hlo, cs_same hcell, fz_set.trans hf, hu'.putS hp u'⟩
  · exact ⟨_, hm _ (List.getElem_mem i.2), b, u, ha, hlo, (cs_other e).trans hcell, fz_set.trans hf, hu.putS hp u'⟩
/-- The cell of row k, written out. -/
theorem RowsW.at {lo : Nat} {w : World} {a : Option Addr} {n c : Nat} {X : List (List Int)} (h : RowsW lo w (.slice a n c) X) (k : Nat) (hk : k < X.length) :
    ∃ b a' c', a = some ⟨b, 0, none⟩ ∧ lo ≤ b ∧ w.cell? ⟨b, k, none⟩ = some (.slice a' (row X k).length c') ∧ w.frozen? ⟨b, k, none⟩ = false ∧ IntsW lo w (.slice a' (row X k).length c') (row X k) := by
  obtain ⟨a', c', hv, h1, h2, hc⟩ := h
  injection hv with e1 e2 e3
  subst e1 e2 e3
  obtain ⟨b, u, ha, hlo, hcell, hf, hu⟩ := hc k hk
  obtain ⟨ua, uc, rfl⟩ := hu.isSlice
  rw [row_nat X k hk]
  exact ⟨b, ua, uc, ha, hlo, hcell, hf, hu⟩
theorem IntsW.at0 {lo : Nat} {w : World} {a : Option Addr} {n c : Nat} {xs : List Int} (h : IntsW lo w (.slice a n c) xs) (k : Nat) (hk : k < xs.length) :
    ∃ b, a = some ⟨b, 0, none⟩ ∧ lo ≤ b ∧ w.cell? ⟨b, k, none⟩ = some (.int .i64 (nth xs k)) ∧ w.frozen? ⟨b, k, none⟩ = false := by
  obtain ⟨a', c', hv, h1, h2, hc⟩ := h
  injection hv with e1 e2 e3
  subst e1 e2 e3
  rw [nth_nat _ _ hk]
  exact hc k hk
end Go.Proofs.Ytgmhnjccgldddaa

namespace Go.Proofs.Ytgmhnjccgldddaa
set_option linter.unusedVariables false
set_option linter.unusedSimpArgs false
open Go Go.RowKit

theorem swap_perm2 {xs : List Int} (h : Permuted xs) {k u : Nat} (hk : k < xs.length) (hu : u < xs.length) : Permuted ((xs.set k (nth xs u)).set u (nth xs k)) := by
  have key : ∀ y : Int, 0 ≤ y → nth ((xs.set k (nth xs u)).set u (nth xs k)) y = if y = u then nth xs k else if y = k then nth xs u else nth xs y := by
    intro y y0
    have h1 := nth_set (xs.set k (nth xs u)) (u : Int) y (nth xs k) (by omega) (by rw [List.length_set]; omega) y0
    rw [Int.toNat_natCast] at h1
    rw [h1]
    have h2 := nth_set xs (k : Int) y (nth xs u) (by omega) (by omega) y0
    rw [Int.toNat_natCast] at h2
    rw [h2]
  rw [permuted_iff]
  intro x x0 x1
  simp only [List.length_set] at x1
  obtain ⟨y, y0, y1, e⟩ := ex_pre h x0 x1
  have hm : ∀ y : Int, 0 ≤ y → y < xs.length → nth ((xs.set k (nth xs u)).set u (nth xs k)) y ∈ (xs.set k (nth xs u)).set u (nth xs k) := fun y a b => nth_mem a (by rw [List.length_set, List.length_set]; exact b)
  subst e
  by_cases e1 : y = u
  · subst e1
    have h3 := hm k (by omega) (by omega)
    rw [key k (by omega)] at h3
    by_cases e2 : (k : Int) = u
    · obtain rfl : k = u := by omega
      rw [if_pos rfl] at h3; exact h3
    · rw [if_neg e2, if_pos rfl] at h3; exact h3
  · by_cases e2 : y = k
    · subst e2
      have h3 := hm u (by omega) (by omega)
      rw [key u (by omega), if_pos rfl] at h3
      exact h3
    · have h3 := hm y y0 y1
      rw [key y y0, if_neg e1, if_neg e2] at h3
      exact h3

set_option maxRecDepth 100000 in
set_option maxHeartbeats 1600000 in
theorem c_l01DrawP (b n : Nat) (w : World) (hs : Src w b) (h1 : 1 ≤ n) (h2 : n ≤ 1000) :
    Calls Try.prog 42 #[.pointer (some ⟨b, 0, none⟩), .int .i64 n] w (fun e w' => ∃ (r : Value) (xs : List Int), e = .returned r ∧ xs.length = n ∧ Permuted xs ∧ Own w.heap.size w' r xs ∧ Drew b w w') := by
  have HS := Lib.hid hs; have hbl := hs.lt; clear hs
  go_enter Try.func42, Try.ntmps42
  go_wp2_with fail
  refine (c_l01Unit n _ (by omega)).mono ?_; rintro e w1 ⟨r, rfl, ho, hb1⟩
  rcases ho.open with ⟨_, h0⟩ | ⟨g, cs, hv, hg, hblk, hmx⟩
  · have := congrArg List.length h0; simp at this; omega
  rw [iota_length] at hv hmx
  subst hv
  have HB0 := Lib.hid hblk; have HD0 := Lib.hid ((Drew.refl HS.out).under hb1)
  have HMX := Lib.hid hmx
  clear ho hblk hmx hb1
  go_wp2
  go_loopw [6, 7, 8] (fun i _ _ wr => ∃ (k : Nat) (xs : List Int), k < n ∧ i = .int .i64 k ∧ Hid (xs.length = n ∧ Permuted xs) ∧ Hid (Blk wr g 2 (xs.map (Value.int .i64) ++ cs)) ∧ Hid (Drew b w wr)) (fun i _ _ _ => (intOf i).toNat)
  case atStart => exact ⟨n - 1, iota n, by omega, by go_num, Lib.hid ⟨by simp, permuted_iota n⟩, HB0, HD0⟩
  case round =>
    clear HB0 HD0
    obtain ⟨k, xs, hk, rfl, HL, HB, HD⟩ := hrel
    obtain ⟨wo, rfl⟩ : ∃ wo : World, wo = wr := ⟨_, rfl⟩
    by_cases hk0 : 0 < k
    · go_wp2_with fail
      refine (c_l01Next b ((k : Int) + 1) _ HD.out.1 (by omega) (by omega)).mono ?_; rintro e w2 ⟨r, rfl, r0, r1, hd⟩
      obtain ⟨u, rfl⟩ : ∃ u : Nat, r = u := ⟨r.toNat, by omega⟩
      have hun : u < n := by omega
      have hB2 := hd.blk HB.out (by omega)
      have HD2 := Lib.hid (HD.out.trans hd)
      have hl := HL.out.1
      have l1 := hB2.labN k (by omega)
      have l2 := hB2.labN u (by omega)
      have f1 := hB2.frozen k
      have f2 := hB2.frozen u
      have s1 := hB2.labSet (k : Int) (by omega) (by omega) (nth xs (u : Int))
      rw [Int.toNat_natCast] at s1
      have s2 := s1.labSet (u : Int) (by omega) (by rw [List.length_set]; omega) (nth xs (k : Int))
      rw [Int.toNat_natCast] at s2
      have hg2 := s1.frozen u
      obtain ⟨z, hz⟩ : ∃ z, (w2.setCell ⟨g, k, none⟩ (.int .i64 (nth xs (u : Int)))).cell? ⟨g, u, none⟩ = some z := ⟨_, s1.labN u (by rw [List.length_set]; omega)⟩
      have HS2 := Lib.hid s2
      have hgb : b < g := by omega
      clear s1 s2 hd hl
      go_wp2
      go_roundw
      case rel =>
        refine ⟨k - 1, _, by omega, by go_num, Lib.hid ?_, HS2, Lib.hid ?_⟩
        · exact ⟨by simpa using HL.out.1, swap_perm2 HL.out.2 (by rw [HL.out.1]; exact hk) (by rw [HL.out.1]; exact hun)⟩
        · have kk := (HD2.out.2.setCell (p := ⟨g, k, none⟩) (.inr ?_) (.int .i64 (nth xs (u : Int)))).setCell (p := ⟨g, u, none⟩) (.inr ?_) (.int .i64 (nth xs (k : Int)))
          · refine ⟨?_, kk⟩
            exact HD2.out.1.keep (S := fun x => x = g) (((Keep.refl (fun x => x = g) w2).setCell (p := ⟨g, k, none⟩) (.inl rfl) _).setCell (p := ⟨g, u, none⟩) (.inl rfl) _) (fun p hp e => by have e : p = g := e; omega)
          · show w.heap.size ≤ g; omega
          · show w.heap.size ≤ g; omega
      case measure => simp [intOf]; omega
    · obtain rfl : k = 0 := by omega
      go_wp2
      go_ret
      exact ⟨_, xs, rfl, HL.out.1, HL.out.2, Own.shut HB.out (by omega) (by rw [HL.out.1]; exact HMX.out) HL.out.1.symm (by rw [HL.out.1]), HD.out⟩


/-- A pair of tables that can be read, all of it from lo on. -/
def SolAt (lo : Nat) (w : World) (v1 v2 : Value) (A B : List (List Int)) : Prop := RowsW lo w v1 A ∧ RowsW lo w v2 B
theorem SolAt.sol {lo : Nat} {w : World} {v1 v2 : Value} {A B : List (List Int)} (h : SolAt lo w v1 v2 A B) : Sol w v1 v2 A B := ⟨h.1.rows, h.2.rows⟩
theorem SolAt.drew {b lo : Nat} {w1 w2 : World} {v1 v2 : Value} {A B : List (List Int)} (h : SolAt lo w1 v1 v2 A B) (hd : Drew b w1 w2) (hb : b < lo) : SolAt lo w2 v1 v2 A B := ⟨drew_w hd h.1 hb, drew_w hd h.2 hb⟩
theorem rsolR_at {w w' : World} {A B : List (List Int)} {e : Ending} (h : RSolR w A B e w') : ∃ r1 r2, e = .returned (.agg #[r1, r2]) ∧ SolAt w.heap.size w' r1 r2 A B ∧ Below w.heap.size w w' := by
  obtain ⟨r1, r2, he, ⟨h1, h2⟩, hb⟩ := h
  exact ⟨r1, r2, he, ⟨h1.wr, h2.wr⟩, hb⟩
theorem RowsAt.mono {lo lo' : Nat} {w : World} {v : Value} {X : List (List Int)} (h : RowsAt lo w v X) (hl : lo' ≤ lo) : RowsAt lo' w v X := by
  obtain ⟨a, c, hv, h1, h2, hc⟩ := h
  exact ⟨a, c, hv, h1, h2, fun i hi => by obtain ⟨b, o, u, ha, hlo, hcell, hu⟩ := hc i hi; exact ⟨b, o, u, ha, by omega, hcell, hu.1, fun b o e => Nat.le_trans hl (hu.2 b o e)⟩⟩
theorem SolAt.mono {lo lo' : Nat} {w : World} {v1 v2 : Value} {A B : List (List Int)} (h : SolAt lo w v1 v2 A B) (hl : lo' ≤ lo) : SolAt lo' w v1 v2 A B := ⟨h.1.mono hl, h.2.mono hl⟩

set_option maxRecDepth 100000 in
set_option maxHeartbeats 1600000 in
theorem c_l02Twisted (b n : Nat) (w : World) (hs : Src w b) (h1 : 1 ≤ n) (h2 : n ≤ 12) :
    Calls Try.prog 101 #[.pointer (some ⟨b, 0, none⟩), .int .i64 n] w (fun e w' => ∃ (r1 r2 : Value) (A B : List (List Int)), e = .returned (.agg #[r1, r2]) ∧ SolAt w.heap.size w' r1 r2 A B ∧ isPM A B = true ∧ A.length = n ∧ Drew b w w') := by
  have HS := Lib.hid hs; have hbl := hs.lt; clear hs
  have HF0 : Hid (Blk (w.alloc (.cells #[.slice none 0 0, .slice none 0 0] 29)) w.heap.size 29 [.slice none 0 0, .slice none 0 0]) := Lib.hid (Blk.new w [.slice none 0 0, .slice none 0 0] 29)
  have HB0 : Hid (Below w.heap.size w (w.alloc (.cells #[.slice none 0 0, .slice none 0 0] 29))) := Lib.hid ((Below.refl _ _).alloc (Nat.le_refl _) _)
  go_enter Try.func101, Try.ntmps101
  have HS0 := Lib.hid (HS.out.under HB0.out)
  have HD0 := Lib.hid ((Drew.refl HS.out).under HB0.out)
  go_wp2_with fail
  refine (c_l01DrawP b n _ HS0.out h1 (by omega)).mono ?_; rintro e w1 ⟨r, p, rfl, hpl, hpp, hop, hd1⟩
  have HF1 := Lib.hid (hd1.blk HF0.out (by omega)); have HD1 := Lib.hid (HD0.out.trans hd1)
  have HP := Lib.hid (hop.mono (show w.heap.size ≤ _ by simp)); have HPP := Lib.hid (And.intro hpl hpp)
  clear hop hd1 hpl hpp
  go_wp2_with fail
  refine (c_l01Unit n _ (by omega)).mono ?_; rintro e w2 ⟨ru, rfl, hou, hb2⟩
  have HF2 := Lib.hid (HF1.out.under hb2); have HD2 := Lib.hid (HD1.out.under hb2); have HP2 := Lib.hid (HP.out.under hb2)
  have HQ2 := Lib.hid (hou.mono HD1.out.2.size)
  clear hou hb2
  go_wp2_with fail
  refine (c_l01Next b 4 _ HD2.out.1 (by omega) (by omega)).mono ?_; rintro e w3 ⟨t, rfl, t0, t1, hd3⟩
  obtain ⟨k0, rfl⟩ : ∃ k0 : Nat, t = k0 := ⟨t.toNat, by omega⟩
  have HF3 := Lib.hid (hd3.blk HF2.out (by omega)); have HD3 := Lib.hid (HD2.out.trans hd3)
  have HP3 := Lib.hid (hd3.own HP2.out hbl); have HQ3 := Lib.hid (hd3.own HQ2.out hbl)
  clear hd3
  go_wp2
  go_loopw [6, 7] (fun q k wr => ∃ (s : Nat) (qs : List Int), s ≤ 4 ∧ k = .int .i64 s ∧ Hid (Own w.heap.size wr q qs) ∧ Hid (qs.length = n ∧ Permuted qs) ∧ Hid (Own w.heap.size wr r p) ∧ Hid (Blk wr w.heap.size 29 [.slice none 0 0, .slice none 0 0]) ∧ Hid (Drew b w wr)) (fun _ k _ => (intOf k).toNat)
  case atStart => exact ⟨k0, iota n, by omega, rfl, HQ3, Lib.hid ⟨by simp, permuted_iota n⟩, HP3, HF3, HD3⟩
  case round =>
    clear HQ3 HP3 HF3 HD3
    obtain ⟨s, qs, hs4, rfl, HQ, HR, HP7, HF7, HD7⟩ := hrel
    by_cases hs0 : 0 < s
    · go_wp2_with fail
      refine (c_l01Then _ _ qs p _ HQ.out.ints HP7.out.ints (fun x hx => by have := HR.out.2.2 x hx; have := HR.out.1; have := HPP.out.1; omega) (by rw [HR.out.1]; omega)).mono ?_; rintro e w8 ⟨r8, rfl, ho8, hb8⟩
      have HQ8 := Lib.hid (ho8.mono HD7.out.2.size); have HP8 := Lib.hid (HP7.out.under hb8); have HF8 := Lib.hid (HF7.out.under hb8); have HD8 := Lib.hid (HD7.out.under hb8)
      have HR8 : Hid ((thenL qs p).length = n ∧ Permuted (thenL qs p)) := Lib.hid ⟨by rw [thenL_length]; exact HR.out.1, then_perm HR.out.2 HPP.out.2 (by rw [HPP.out.1, HR.out.1])⟩
      clear ho8 hb8
      go_wp2
      go_roundw
      case rel => exact ⟨s - 1, thenL qs p, by omega, by go_num, HQ8, HR8, HP8, HF8, HD8⟩
      case measure => simp [intOf]; omega
    · obtain rfl : s = 0 := by omega
      go_wp2_with fail
      refine (c_l01Next b 2 _ HD7.out.1 (by omega) (by omega)).mono ?_; rintro e w6 ⟨t, rfl, t0, t1, hd6⟩
      have HF6 := Lib.hid (hd6.blk HF7.out (by omega)); have HD6 := Lib.hid (HD7.out.trans hd6)
      have HP6 := Lib.hid (hd6.own HP7.out hbl); have HQ6 := Lib.hid (hd6.own HQ.out hbl)
      clear hd6
      have hnp : p.length = n := HPP.out.1
      have hnq : qs.length = n := HR.out.1
      have HNP := Lib.hid hnp; have HNQ := Lib.hid hnq
      clear hnp hnq
      by_cases ht : t = 0
      · subst ht
        go_wp2_with fail
        refine (c_l02Twist _ _ p qs _ HP6.out.ints HQ6.out.ints (by rw [HNP.out, HNQ.out]) (by rw [HNP.out]; omega)).mono ?_; rintro e w9 hz
        have PMX : isPM (twA p) (twB p qs) = true := tw_pm HPP.out.2 HR.out.2 (by rw [HNP.out, HNQ.out]) (by rw [HNP.out]; exact h1) (by rw [HNP.out]; exact h2)
        have LENX : (twA p).length = n := by simp [twA]; exact HNP.out
        obtain ⟨r8, r9, he, hsa, hb9⟩ := rsolR_at hz
        subst he
        obtain ⟨sa1, sl1, sc1, hv1⟩ := hsa.sol.1.any
        obtain ⟨sa2, sl2, sc2, hv2⟩ := hsa.sol.2.any
        subst hv1 hv2
        have hf := HF6.out.under hb9
        obtain ⟨z0, z1, z2, z3⟩ := two_cells hf
        have HSA := Lib.hid hsa; have HB9 := Lib.hid hb9
        clear hz hsa hb9 hf
        go_wp2
        have kz : Keep (fun x => x = w.heap.size) w9 ((w9.setCell ⟨w.heap.size, 0, none⟩ (.slice sa1 sl1 sc1)).setCell ⟨w.heap.size, 1, none⟩ (.slice sa2 sl2 sc2)) := keep_early _ _ _ _
        have hlt6 := HF6.out.lt
        refine bodyPost_ret (v := .agg #[.slice sa1 sl1 sc1, .slice sa2 sl2 sc2]) (by simp [results, Try.results101, go_sem, z0, z1]) rfl ⟨_, _, _, _, rfl, ⟨(HSA.out.1.keep kz (fun x hx e => by have e : x = w.heap.size := e; omega)).mono (by omega), (HSA.out.2.keep kz (fun x hx e => by have e : x = w.heap.size := e; omega)).mono (by omega)⟩, PMX, LENX, ?_⟩
        exact drew_set (drew_set (HD6.out.under HB9.out) (p := ⟨w.heap.size, 0, none⟩) (Nat.le_refl _) hbl _) (p := ⟨w.heap.size, 1, none⟩) (Nat.le_refl _) hbl _
      · go_wp2_with fail
        refine (c_l02Twist _ _ qs p _ HQ6.out.ints HP6.out.ints (by rw [HNP.out, HNQ.out]) (by rw [HNQ.out]; omega)).mono ?_; rintro e w9 hz
        have PMX : isPM (twA qs) (twB qs p) = true := tw_pm HR.out.2 HPP.out.2 (by rw [HNP.out, HNQ.out]) (by rw [HNQ.out]; exact h1) (by rw [HNQ.out]; exact h2)
        have LENX : (twA qs).length = n := by simp [twA]; exact HNQ.out
        obtain ⟨r8, r9, he, hsa, hb9⟩ := rsolR_at hz
        subst he
        obtain ⟨sa1, sl1, sc1, hv1⟩ := hsa.sol.1.any
        obtain ⟨sa2, sl2, sc2, hv2⟩ := hsa.sol.2.any
        subst hv1 hv2
        have hf := HF6.out.under hb9
        obtain ⟨z0, z1, z2, z3⟩ := two_cells hf
        have HSA := Lib.hid hsa; have HB9 := Lib.hid hb9
        clear hz hsa hb9 hf
        go_wp2
        have kz : Keep (fun x => x = w.heap.size) w9 ((w9.setCell ⟨w.heap.size, 0, none⟩ (.slice sa1 sl1 sc1)).setCell ⟨w.heap.size, 1, none⟩ (.slice sa2 sl2 sc2)) := keep_early _ _ _ _
        have hlt6 := HF6.out.lt
        refine bodyPost_ret (v := .agg #[.slice sa1 sl1 sc1, .slice sa2 sl2 sc2]) (by simp [results, Try.results101, go_sem, z0, z1]) rfl ⟨_, _, _, _, rfl, ⟨(HSA.out.1.keep kz (fun x hx e => by have e : x = w.heap.size := e; omega)).mono (by omega), (HSA.out.2.keep kz (fun x hx e => by have e : x = w.heap.size := e; omega)).mono (by omega)⟩, PMX, LENX, ?_⟩
        exact drew_set (drew_set (HD6.out.under HB9.out) (p := ⟨w.heap.size, 0, none⟩) (Nat.le_refl _) hbl _) (p := ⟨w.heap.size, 1, none⟩) (Nat.le_refl _) hbl _
end Go.Proofs.Ytgmhnjccgldddaa

namespace Go.Proofs.Ytgmhnjccgldddaa
set_option linter.unusedVariables false
set_option linter.unusedSimpArgs false
open Go Go.RowKit

/-- A table of the call's own, all its blocks in P. -/
def OwnP (lo : Nat) (P : Nat → Prop) (w : World) (v : Value) (t : List (List Int)) : Prop :=
  ∃ us, w.ownsRow lo 26 1 v us.length us ∧ RowVals lo w us t ∧ (∀ k, v.ownBlock = some k → P k) ∧ ∀ i (h : i < us.length) k, us[i].ownBlock = some k → P k
theorem OwnP.out {lo : Nat} {P : Nat → Prop} {w : World} {v : Value} {t : List (List Int)} (h : OwnP lo P w v t) : OwnRows lo w v t := by
  obtain ⟨us, h1, h2, _⟩ := h
  exact ⟨us, h1, h2⟩
theorem OwnP.imp {lo : Nat} {P Q : Nat → Prop} {w : World} {v : Value} {t : List (List Int)} (h : OwnP lo P w v t) (hpq : ∀ b, P b → Q b) : OwnP lo Q w v t := by
  obtain ⟨us, h1, h2, h3, h4⟩ := h
  exact ⟨us, h1, h2, fun k hk => hpq k (h3 k hk), fun i hi k hk => hpq k (h4 i hi k hk)⟩
theorem OwnP.nil (lo : Nat) (P : Nat → Prop) (w : World) : OwnP lo P w (.slice none 0 0) [] :=
  ⟨[], ⟨by simp, .inl ⟨rfl, rfl⟩⟩, RowVals.nil _ _, (by intro k hk; cases hk), (by intro i hi; simp at hi)⟩
theorem OwnP.keep {lo : Nat} {P S : Nat → Prop} {w w' : World} {v : Value} {t : List (List Int)} (h : OwnP lo P w v t) (k : Keep S w w') (hs : ∀ b, P b → ¬ S b) : OwnP lo P w' v t := by
  obtain ⟨us, h1, h2, h3, h4⟩ := h
  refine ⟨us, ?_, ⟨h2.len, fun i hi hi' => ?_, h2.apart⟩, h3, h4⟩
  · obtain ⟨hl, hn | ⟨g, cap, cur, hv, hb, hg, r⟩⟩ := h1
    · exact ⟨hl, .inl hn⟩
    · exact ⟨hl, .inr ⟨g, cap, cur, hv, hb, by rw [k.block g (Array.getElem?_eq_some_iff.1 hg).1 (hs g (h3 g (by rw [hv]; rfl)))]; exact hg, r⟩⟩
  · have h6 := h4 i hi
    obtain ⟨hl, hn | ⟨g, cap, cur, hv, hb, hg, r⟩⟩ := h2.own i hi hi'
    · exact ⟨hl, .inl hn⟩
    · exact ⟨hl, .inr ⟨g, cap, cur, hv, hb, by rw [k.block g (Array.getElem?_eq_some_iff.1 hg).1 (hs g (h6 g (by rw [hv]; rfl)))]; exact hg, r⟩⟩
theorem OwnP.under {lo : Nat} {P : Nat → Prop} {w w' : World} {v : Value} {t : List (List Int)} (h : OwnP lo P w v t) (hb : Below w.heap.size w w') : OwnP lo P w' v t := by
  obtain ⟨us, h1, h2, h3, h4⟩ := h
  exact ⟨us, ownsRow_keep h1 (Keep.of_below hb) (fun b _ hlt => by omega), h2.under hb, h3, h4⟩

/-- 'append(s, u)' at an operation: the new array is the old one or a new block; the blocks are told. -/
theorem wp_app_rowP {o : Oper} {a : Act} {K : Act → World → Prop} {Q : Exit → Act → World → Prop} (P : Nat → Prop) (B m : Nat) (w : World) (v : Value) (xss : List (List Int)) (u : Value) (xs : List Int) (s x : Operand)
    (ho : o.op = .call { callee := .builtin .append, args := #[s, x], argTypes := #[22, 22] })
    (hs : a.eval s = v) (hown : OwnP B P w v xss) (hP : ∀ b, P b → b < m) (hu : Own m w u xs) (hx : a.eval x = .slice (some ⟨w.heap.size, 0, none⟩) 1 1) (hn : xss.length ≤ 1099511627776) (hB : B ≤ m) (hB2 : B ≤ w.heap.size)
    (h : ∀ g c' w', OwnP B (fun b => P b ∨ u.ownBlock = some b ∨ b = g) w' (.slice (some ⟨g, 0, none⟩) (xss.length + 1) c') (xss ++ [xs]) → Keep (fun b => v.ownBlock = some b) w w' → (v.ownBlock = some g ∨ w.heap.size ≤ g) → K (a.put o.dst (.slice (some ⟨g, 0, none⟩) (xss.length + 1) c')) w') :
    o.wp Try.prog a (w.alloc (.cells #[u] 26)) K Q := by
  obtain ⟨us, h1, h2, hv3, hlt⟩ := hown
  have h2' := rowvals_snoc h2 (fun i hi k hk => hP k (hlt i hi k hk)) hu hB
  have hlen := h2.len
  obtain ⟨ua, uc, hu1, _⟩ := hu.shape
  obtain ⟨i0, hi, hz0, hz1, hz2⟩ := info_parts inf_ints
  refine wp_append_lies _ s x 22 ho B 26 i0 (.slice none 0 0) 1 24 Try.underlying22 hi hz0 hz1 hz2 rfl (by decide) v us.length us hs (h1.alloc _) ⟨w.heap.size, 0, none⟩ 1 1 [u] hx rfl ?_ ?_ (by decide) (by unfold maxLen; omega) (by omega) (by simp; omega) (w.heap.size + 1) (by simp) ?_
  · intro j u' hj
    match j, hj with
    | 0, hj => simp at hj; subst hj; simp [Addr.add]
  · intro u' hu'; simp at hu'; subst hu'; subst hu1; rfl
  · intro g cap w' h3 h4 h5 _
    have hk := Keep.of_grown h4
    have hk2 : Keep (fun b => v.ownBlock = some b) w w' := ((Keep.refl _ w).alloc _).trans hk
    rw [hlen] at h3 ⊢
    refine h g cap w' ⟨us ++ [u], by simpa [hlen] using h3, rowvals_keepT h2' h1 hk2, ?_, ?_⟩ hk2 (by rcases h5 with h5 | h5; exact .inl h5; exact .inr (by omega))
    · intro k hk
      simp [Value.ownBlock] at hk
      exact .inr (.inr hk.symm)
    · intro i hi k hk
      by_cases e : i < us.length
      · rw [List.getElem_append_left e] at hk
        exact .inl (hlt i e k hk)
      · have e2 : i = us.length := by simp at hi; omega
        subst e2
        rw [List.getElem_append_right (Nat.le_refl _)] at hk
        simp only [Nat.sub_self, List.getElem_cons_zero] at hk
        exact .inr (.inl hk)
theorem wpList_app_rowP {ops : Array Oper} {rest : List Oper} {o : Oper} {a : Act} {Q : Exit → Act → World → Prop} (P : Nat → Prop) (B m : Nat) (w : World) (v : Value) (xss : List (List Int)) (u : Value) (xs : List Int) (s x : Operand) (hgd : o.guard = none)
    (ho : o.op = .call { callee := .builtin .append, args := #[s, x], argTypes := #[22, 22] })
    (hs : a.eval s = v) (hown : OwnP B P w v xss) (hP : ∀ b, P b → b < m) (hu : Own m w u xs) (hx : a.eval x = .slice (some ⟨w.heap.size, 0, none⟩) 1 1) (hn : xss.length ≤ 1099511627776) (hB : B ≤ m) (hB2 : B ≤ w.heap.size)
    (h : ∀ g c' w', OwnP B (fun b => P b ∨ u.ownBlock = some b ∨ b = g) w' (.slice (some ⟨g, 0, none⟩) (xss.length + 1) c') (xss ++ [xs]) → Keep (fun b => v.ownBlock = some b) w w' → (v.ownBlock = some g ∨ w.heap.size ≤ g) → wpList Try.prog ops Q rest (a.put o.dst (.slice (some ⟨g, 0, none⟩) (xss.length + 1) c')) w') :
    wpList Try.prog ops Q (o :: rest) a (w.alloc (.cells #[u] 26)) :=
  wpList_plain hgd fun _ hK => wp_app_rowP P B m w v xss u xs s x ho hs hown hP hu hx hn hB hB2 fun g c' w' h2 h3 h4 => hK _ _ (h g c' w' h2 h3 h4)
theorem step_app_rowP {ops : Array Oper} {o : Oper} {a : Act} {K : Act → World → Prop} {Q : Exit → Act → World → Prop} {E : Prop} (P : Nat → Prop) (B m : Nat) (w : World) (v : Value) (xss : List (List Int)) (u : Value) (xs : List Int) (s x : Operand) (hgd : o.guard = none)
    (ho : o.op = .call { callee := .builtin .append, args := #[s, x], argTypes := #[22, 22] })
    (hs : a.eval s = v) (hown : OwnP B P w v xss) (hP : ∀ b, P b → b < m) (hu : Own m w u xs) (hx : a.eval x = .slice (some ⟨w.heap.size, 0, none⟩) 1 1) (hn : xss.length ≤ 1099511627776) (hB : B ≤ m) (hB2 : B ≤ w.heap.size)
    (h : ∀ g c' w', OwnP B (fun b => P b ∨ u.ownBlock = some b ∨ b = g) w' (.slice (some ⟨g, 0, none⟩) (xss.length + 1) c') (xss ++ [xs]) → Keep (fun b => v.ownBlock = some b) w w' → (v.ownBlock = some g ∨ w.heap.size ≤ g) → K (a.put o.dst (.slice (some ⟨g, 0, none⟩) (xss.length + 1) c')) w') :
    if Region.wanted o (yielded ops a.tmps) = true then Oper.wp Try.prog o a (w.alloc (.cells #[u] 26)) K Q else E := by
  have hw : Region.wanted o (yielded ops a.tmps) = true := by simp [Region.wanted, hgd]
  rw [if_pos hw]
  exact wp_app_rowP P B m w v xss u xs s x ho hs hown hP hu hx hn hB hB2 h

/-- A store into an entry. -/
theorem OwnP.put {lo : Nat} {P : Nat → Prop} {w : World} {sa : Option Addr} {n c : Nat} {t : List (List Int)} (h : OwnP lo P w (.slice sa n c) t) {u y m : Nat} (hu : u < t.length) (hm : (row t u).length = m) (hy : y < m) :
    ∃ b g cr z0, sa = some ⟨b, 0, none⟩ ∧ P b ∧ P g ∧ b ≠ g ∧ w.cell? ⟨b, u, none⟩ = some (.slice (some ⟨g, 0, none⟩) m cr) ∧ w.cell? ⟨g, y, none⟩ = some z0 ∧ w.frozen? ⟨g, y, none⟩ = false ∧
      ∀ z : Int, OwnP lo P (w.setCell ⟨g, y, none⟩ (.int .i64 z)) (.slice sa n c) (t.set u ((row t u).set y z)) := by
  obtain ⟨us, h1, h2, h3, h4⟩ := h
  have hul : u < us.length := by rw [h2.len]; exact hu
  obtain ⟨a, c', hv, _, _, hc⟩ := ownsRow_cells h1
  obtain ⟨b, hab, hcell⟩ := hc u hul
  injection hv with e1 e2 e3
  subst e1 hab
  have hrow : t[u] = row t u := (row_nat t u hu).symm
  have hown := h2.own u hul hu
  rcases hown.open with ⟨_, k2⟩ | ⟨g, cs, k1, k2, k3, k4⟩
  · rw [hrow] at k2; rw [k2] at hm; simp at hm; omega
  · have hy' : y < (t[u]).length := by rw [hrow]; omega
    have hv1 : us[u] = .slice (some ⟨g, 0, none⟩) m ((t[u]).length + cs.length) := by rw [k1, hrow, hm]
    have hput := fun z => h2.put hul hu hv1 hy' z
    obtain ⟨p1, p2⟩ := h2.cellAt hul hu hv1 hy'
    have hg := h4 u hul g (by rw [hv1]; rfl)
    have hbg : b ≠ g := by
      obtain ⟨hl, hn | ⟨g', cap, cur, hv', hb', hg', r⟩⟩ := h1
      · simp at hn
      · injection hv' with e1 e2 e3
        injection e1 with e1
        injection e1 with e1
        subst e1
        have := hown.ne (g := b) (t := 26) (cs := cur.toList) (by unfold Blk; simpa using hg') (by decide)
        intro e
        apply this
        rw [hv1, e]; rfl
    refine ⟨b, g, _, _, rfl, h3 b rfl, hg, hbg, by rw [hcell, hv1], p1, p2, fun z => ⟨us, ?_, ?_, h3, h4⟩⟩
    · refine ownsRow_ne h1 hown ?_
      rw [hv1]
      exact keepB _ _ _ _ _ _
    · have := hput z
      rw [hrow] at this; exact this

/-- Two tables apart from each other and from a box q. -/
def TwoP (lo q : Nat) (W : World) (va vb : Value) (X Y : List (List Int)) : Prop :=
  ∃ P1 P2 : Nat → Prop, (∀ b, P1 b → lo ≤ b ∧ b < W.heap.size ∧ b ≠ q ∧ ¬ P2 b) ∧ (∀ b, P2 b → lo ≤ b ∧ b < W.heap.size ∧ b ≠ q) ∧ OwnP lo P1 W va X ∧ OwnP lo P2 W vb Y
theorem TwoP.keep {lo q : Nat} {S : Nat → Prop} {W W' : World} {va vb : Value} {X Y : List (List Int)} (h : TwoP lo q W va vb X Y) (k : Keep S W W') (hS : ∀ b, lo ≤ b → b ≠ q → b < W.heap.size → ¬ S b) : TwoP lo q W' va vb X Y := by
  obtain ⟨P1, P2, h1, h2, o1, o2⟩ := h
  have hs := k.size
  exact ⟨P1, P2, fun b hb => ⟨(h1 b hb).1, by have := (h1 b hb).2.1; omega, (h1 b hb).2.2⟩, fun b hb => ⟨(h2 b hb).1, by have := (h2 b hb).2.1; omega, (h2 b hb).2.2⟩,
    o1.keep k (fun x hx => hS x (h1 x hx).1 (h1 x hx).2.2.1 (h1 x hx).2.1), o2.keep k (fun x hx => hS x (h2 x hx).1 (h2 x hx).2.2 (h2 x hx).2.1)⟩
theorem TwoP.under {lo q : Nat} {W W' : World} {va vb : Value} {X Y : List (List Int)} (h : TwoP lo q W va vb X Y) (hb : Below W.heap.size W W') : TwoP lo q W' va vb X Y :=
  h.keep (S := fun b => W.heap.size ≤ b) (Keep.of_below hb) fun x _ _ x1 x2 => by omega
/-- An entry of each written, first in the first table. -/
theorem TwoP.put {lo q : Nat} {W : World} {sa sb : Option Addr} {n c n' c' : Nat} {X Y : List (List Int)} (h : TwoP lo q W (.slice sa n c) (.slice sb n' c') X Y) {u y m m' : Nat}
    (hu : u < X.length) (hu' : u < Y.length) (hm : (row X u).length = m) (hm' : (row Y u).length = m') (hy : y < m) (hy' : y < m') :
    ∃ b1 g1 r1 b2 g2 r2 z1 z2, sa = some ⟨b1, 0, none⟩ ∧ sb = some ⟨b2, 0, none⟩ ∧ (lo ≤ b1 ∧ lo ≤ g1 ∧ lo ≤ b2 ∧ lo ≤ g2) ∧ (q ≠ b1 ∧ q ≠ g1 ∧ q ≠ b2 ∧ q ≠ g2) ∧ (b1 ≠ g1 ∧ b1 ≠ g2 ∧ b2 ≠ g1 ∧ b2 ≠ g2 ∧ g1 ≠ g2) ∧
      W.cell? ⟨b1, u, none⟩ = some (.slice (some ⟨g1, 0, none⟩) m r1) ∧ W.cell? ⟨b2, u, none⟩ = some (.slice (some ⟨g2, 0, none⟩) m' r2) ∧ W.cell? ⟨g1, y, none⟩ = some z1 ∧ W.frozen? ⟨g1, y, none⟩ = false ∧ 
      (∀ s : Int, (W.setCell ⟨g1, y, none⟩ (.int .i64 s)).cell? ⟨g2, y, none⟩ = some z2 ∧ (W.setCell ⟨g1, y, none⟩ (.int .i64 s)).frozen? ⟨g2, y, none⟩ = false) ∧
      ∀ s t : Int, TwoP lo q ((W.setCell ⟨g1, y, none⟩ (.int .i64 s)).setCell ⟨g2, y, none⟩ (.int .i64 t)) (.slice sa n c) (.slice sb n' c') (X.set u ((row X u).set y s)) (Y.set u ((row Y u).set y t)) := by
  obtain ⟨P1, P2, h1, h2, o1, o2⟩ := h
  obtain ⟨b1, g1, r1, z1, rfl, p1, p3, p5, p6, p7, p8, p9⟩ := o1.put hu hm hy
  obtain ⟨b2, g2, r2, z2, rfl, k1, k3, k5, k6, k7, k8, k9⟩ := o2.put hu' hm' hy'
  have a1 := h1 b1 p1; have a2 := h1 g1 p3; have a3 := h2 b2 k1; have a4 := h2 g2 k3
  have e1 : b1 ≠ g2 := fun e => a1.2.2.2 (e ▸ k3)
  have e2 : b2 ≠ g1 := fun e => a2.2.2.2 (e ▸ k1)
  have e3 : g1 ≠ g2 := fun e => a2.2.2.2 (e ▸ k3)
  have hmid : ∀ s : Int, OwnP lo P2 (W.setCell ⟨g1, y, none⟩ (.int .i64 s)) (.slice (some ⟨b2, 0, none⟩) n' c') Y := fun s => by
    have kk := (Keep.refl (fun x => x = g1) W).setCell (p := ⟨g1, y, none⟩) (.inl rfl) (.int .i64 s)
    exact o2.keep kk (fun x hx e => a2.2.2.2 (e ▸ hx))
  have hmid2 : ∀ s : Int, (W.setCell ⟨g1, y, none⟩ (.int .i64 s)).cell? ⟨g2, y, none⟩ = some z2 ∧ (W.setCell ⟨g1, y, none⟩ (.int .i64 s)).frozen? ⟨g2, y, none⟩ = false ∧ ∀ t : Int, OwnP lo P2 ((W.setCell ⟨g1, y, none⟩ (.int .i64 s)).setCell ⟨g2, y, none⟩ (.int .i64 t)) (.slice (some ⟨b2, 0, none⟩) n' c') (Y.set u ((row Y u).set y t)) := fun s => by
    have kk := (Keep.refl (fun x => x = g1) W).setCell (p := ⟨g1, y, none⟩) (.inl rfl) (.int .i64 s)
    obtain ⟨b2', g2', r2', z2', hb', _, _, _, j6, j7, j8, j9⟩ := (hmid s).put hu' hm' hy'
    have k6' : (W.setCell ⟨g1, y, none⟩ (.int .i64 s)).cell? ⟨b2, u, none⟩ = some (.slice (some ⟨g2, 0, none⟩) m' r2) := (World.cell?_of_block (w := W) (kk.block b2 (cell_lt k6) (by omega))).trans k6
    have k7' : (W.setCell ⟨g1, y, none⟩ (.int .i64 s)).cell? ⟨g2, y, none⟩ = some z2 := (World.cell?_of_block (w := W) (kk.block g2 (cell_lt k7) (by omega))).trans k7
    injection hb' with hb'; injection hb' with hb'; subst hb'
    rw [k6'] at j6
    injection j6 with j6; injection j6 with j6; injection j6 with j6; injection j6 with j6; subst j6
    exact ⟨k7', j8, j9⟩
  refine ⟨b1, g1, r1, b2, g2, r2, z1, z2, rfl, rfl, ⟨a1.1, a2.1, a3.1, a4.1⟩, ⟨a1.2.2.1.symm, a2.2.2.1.symm, a3.2.2.symm, a4.2.2.symm⟩, ⟨p5, e1, e2, k5, e3⟩, p6, k6, p7, p8, fun s => ⟨(hmid2 s).1, (hmid2 s).2.1⟩, ?_⟩
  intro s t
  have kk2 := (Keep.refl (fun x => x = g2) (W.setCell ⟨g1, y, none⟩ (.int .i64 s))).setCell (p := ⟨g2, y, none⟩) (.inl rfl) (.int .i64 t)
  refine ⟨P1, P2, fun b hb => ⟨(h1 b hb).1, by rw [size_set, size_set]; exact (h1 b hb).2.1, (h1 b hb).2.2⟩, fun b hb => ⟨(h2 b hb).1, by rw [size_set, size_set]; exact (h2 b hb).2.1, (h2 b hb).2.2⟩, (p9 s).keep kk2 (fun x hx e => (h1 x hx).2.2.2 (e ▸ k3)), (hmid2 s).2.2 t⟩
end Go.Proofs.Ytgmhnjccgldddaa

namespace Go.Proofs.Ytgmhnjccgldddaa
set_option linter.unusedVariables false
set_option linter.unusedSimpArgs false

/-- A table of n rows with one entry changed. -/
theorem tabOf_put (n : Nat) (g : Int → Int → Int) (u v z : Int) (hu0 : 0 ≤ u) (hu : u < n) (hv0 : 0 ≤ v) (hv : v < n) :
    (tabOf n g).set u.toNat ((row (tabOf n g) u).set v.toNat z) = tabOf n fun a b => if a = u ∧ b = v then z else g a b := by
  apply ext_row (by simp)
  intro a ha
  simp at ha
  have hR := row_tabOf n (fun a b => if a = u ∧ b = v then z else g a b) a ha
  rw [row_set _ _ _ _ hu0 (by simpa using hu) (by omega), hR]
  by_cases e : (a : Int) = u
  · rw [if_pos e, row_tabOfi _ _ _ hu0 hu]
    apply ext_nth (by simp)
    intro b hb
    simp at hb
    have hQ := nth_rowOf n (fun b => if (a : Int) = u ∧ b = v then z else g a b) b hb
    rw [nth_set _ _ _ _ hv0 (by simpa using hv) (by omega), nth_rowOf _ _ _ hb]
    refine Eq.trans ?_ hQ.symm
    show _ = if (a : Int) = u ∧ (b : Int) = v then z else g a b
    by_cases e2 : (b : Int) = v
    · rw [if_pos e2, if_pos ⟨e, e2⟩]
    · rw [if_neg e2, if_neg (fun h => e2 h.2), e]
  · rw [if_neg e, row_tabOf _ _ _ ha]
    exact rowOf_congr fun b _ => by rw [if_neg (fun h => e h.1)]

/-- The entry (u, v) after k pairs: what z says of the pair that leads there, where that pair is among the first k. -/
def ivG (A B : List (List Int)) (n : Nat) (z : Int → Int) (ini : Int → Int → Int) (k : Nat) (u v : Int) : Int :=
  if nth (invL (pmL A B n)) (u * n + v) < k then z (nth (invL (pmL A B n)) (u * n + v)) else ini u v
def ivT (A B : List (List Int)) (n : Nat) (z : Int → Int) (ini : Int → Int → Int) (k : Nat) : List (List Int) := tabOf n (ivG A B n z ini k)
@[simp] theorem ivT_length (A B : List (List Int)) (n : Nat) (z : Int → Int) (ini : Int → Int → Int) (k : Nat) : (ivT A B n z ini k).length = n := by simp [ivT]
/-- The inverse's two tables. -/
def ivA (A B : List (List Int)) (n : Nat) : List (List Int) := tabOf n fun u v => nth (invL (pmL A B n)) (u * n + v) / n
def ivB (A B : List (List Int)) (n : Nat) : List (List Int) := tabOf n fun u v => nth (invL (pmL A B n)) (u * n + v) % n

/-- Where a pair's code leads back to. -/
theorem iv_range {A B : List (List Int)} {n : Nat} (hP : Permuted (pmL A B n)) {u v : Int} (hu0 : 0 ≤ u) (hu : u < n) (hv0 : 0 ≤ v) (hv : v < n) :
    0 ≤ nth (invL (pmL A B n)) (u * n + v) ∧ nth (invL (pmL A B n)) (u * n + v) < ((n * n : Nat) : Int) ∧ nth (pmL A B n) (nth (invL (pmL A B n)) (u * n + v)) = u * n + v := by
  obtain ⟨h0, h1⟩ := code_lt hu0 hu hv0 hv
  obtain ⟨x, x0, x1, e⟩ := ex_pre hP (y := u * n + v) h0 (by simpa using h1)
  rw [← e, nth_invL hP x0 x1]
  exact ⟨x0, by simpa using x1, rfl⟩
theorem ivT_zero {A B : List (List Int)} {n : Nat} (hP : Permuted (pmL A B n)) (z : Int → Int) (ini : Int → Int → Int) : ivT A B n z ini 0 = tabOf n ini := by
  refine tabOf_congr fun u v hu hv => ?_
  obtain ⟨h0, _, _⟩ := iv_range hP (u := u) (v := v) (by omega) (by omega) (by omega) (by omega)
  unfold ivG
  rw [if_neg (by omega)]
theorem ivT_done {A B : List (List Int)} {n : Nat} (hP : Permuted (pmL A B n)) (z : Int → Int) (ini : Int → Int → Int) : ivT A B n z ini (n * n) = tabOf n fun u v => z (nth (invL (pmL A B n)) (u * n + v)) := by
  refine tabOf_congr fun u v hu hv => ?_
  obtain ⟨_, h1, _⟩ := iv_range hP (u := u) (v := v) (by omega) (by omega) (by omega) (by omega)
  unfold ivG
  rw [if_pos h1]
/-- One pair more. -/
theorem ivT_step {A B : List (List Int)} {n : Nat} (hP : Permuted (pmL A B n)) (z : Int → Int) (ini : Int → Int → Int) {x y : Nat} (hx : x < n) (hy : y < n)
    (hA0 : 0 ≤ val2 A x y) (hA1 : val2 A x y < n) (hB0 : 0 ≤ val2 B x y) (hB1 : val2 B x y < n) :
    (ivT A B n z ini (x * n + y)).set (val2 A x y).toNat ((row (ivT A B n z ini (x * n + y)) (val2 A x y)).set (val2 B x y).toNat (z ((x : Int) * n + y))) = ivT A B n z ini (x * n + y + 1) := by
  unfold ivT
  rw [tabOf_put _ _ _ _ _ hA0 hA1 hB0 hB1]
  refine tabOf_congr fun u v hu hv => ?_
  obtain ⟨h0, h1, h2⟩ := iv_range hP (u := u) (v := v) (by omega) (by omega) (by omega) (by omega)
  have hc : nth (pmL A B n) ((x : Int) * n + y) = val2 A x y * n + val2 B x y := nth_pmL (by omega) (by omega) (by omega) (by omega)
  obtain ⟨c0, c1⟩ := code_lt (n := n) (x := x) (y := y) (by omega) (by omega) (by omega) (by omega)
  have hcast : ((x * n + y : Nat) : Int) = (x : Int) * n + y := by push_cast; rfl
  unfold ivG
  by_cases e : (u : Int) = val2 A x y ∧ (v : Int) = val2 B x y
  · rw [if_pos e]
    have e3 : nth (invL (pmL A B n)) ((u : Int) * n + v) = (x : Int) * n + y := by
      rw [e.1, e.2, ← hc, nth_invL hP c0 (by simpa using c1)]
    rw [e3, if_pos (by omega)]
  · rw [if_neg e]
    have hne : nth (invL (pmL A B n)) ((u : Int) * n + v) ≠ (x : Int) * n + y := by
      intro h
      rw [h, hc] at h2
      obtain ⟨g1, g2⟩ := code_inj hB0 hB1 (by omega) (by omega) h2
      exact e ⟨g1.symm, g2.symm⟩
    by_cases hl : nth (invL (pmL A B n)) ((u : Int) * n + v) < ((x * n + y : Nat) : Int)
    · rw [if_pos hl, if_pos (by omega)]
    · rw [if_neg hl, if_neg (by omega)]
theorem tabOf_val2 {t : List (List Int)} (h : isTab t = true) : tabOf t.length (val2 t) = t := by
  apply ext_row (by simp)
  intro k hk
  simp at hk
  have hr := isTab_row h (x := k) (by omega) (by omega)
  rw [row_tabOf _ _ _ hk]
  apply ext_nth (by simp; omega)
  intro j hj
  simp at hj
  rw [nth_rowOf _ _ _ hj]; rfl
theorem ivA_eq {A B : List (List Int)} {n : Nat} (hP : Permuted (pmL A B n)) (ini : Int → Int → Int) : ivT A B n (fun c => c / n) ini (n * n) = ivA A B n := ivT_done hP _ _
theorem ivB_eq {A B : List (List Int)} {n : Nat} (hP : Permuted (pmL A B n)) (ini : Int → Int → Int) : ivT A B n (fun c => c % n) ini (n * n) = ivB A B n := ivT_done hP _ _
end Go.Proofs.Ytgmhnjccgldddaa

namespace Go.Proofs.Ytgmhnjccgldddaa
set_option linter.unusedVariables false
set_option linter.unusedSimpArgs false
open Go Go.RowKit

theorem OwnP.blk {lo : Nat} {P : Nat → Prop} {w : World} {v : Value} {t : List (List Int)} (h : OwnP lo P w v t) {k : Nat} (hk : v.ownBlock = some k) : P k := by
  obtain ⟨us, _, _, h3, _⟩ := h
  exact h3 k hk
/-- Two tables apart from each other, all behind the box q. -/
structure Emp (B q : Nat) (W0 W : World) (va vb : Value) (X Y : List (List Int)) (P1 P2 : Nat → Prop) : Prop where
  p1 : ∀ b, P1 b → q < b ∧ b < W.heap.size ∧ ¬ P2 b
  p2 : ∀ b, P2 b → q < b ∧ b < W.heap.size ∧ ¬ P1 b
  o1 : OwnP B P1 W va X
  o2 : OwnP B P2 W vb Y
  hb : Below B W0 W
theorem Emp.swap {B q : Nat} {W0 W : World} {va vb : Value} {X Y : List (List Int)} {P1 P2 : Nat → Prop} (h : Emp B q W0 W va vb X Y P1 P2) : Emp B q W0 W vb va Y X P2 P1 := ⟨h.p2, h.p1, h.o2, h.o1, h.hb⟩
theorem Emp.drew {B q : Nat} {W0 W : World} {va vb : Value} {X Y : List (List Int)} {P1 P2 : Nat → Prop} (h : Emp B q W0 W va vb X Y P1 P2) : Emp B q W0 W.drew va vb X Y P1 P2 :=
  ⟨h.p1, h.p2, h.o1.under (Below.refl _ _).drew, h.o2.under (Below.refl _ _).drew, h.hb.drew⟩
theorem Emp.app {B q : Nat} {W0 W w2 : World} {va vb va' u : Value} {X Y X' : List (List Int)} {P1 P2 : Nat → Prop} {o : Obj} {g : Nat} (h : Emp B q W0 W va vb X Y P1 P2) (hq : q < W.heap.size) (hB : B ≤ q) (hu : u.ownBlock = some W.heap.size) (hv' : va'.ownBlock = some g)
    (ho : OwnP B (fun b => P1 b ∨ u.ownBlock = some b ∨ b = g) w2 va' X') (k : Keep (fun b => va.ownBlock = some b) (W.alloc o) w2) (hg : va.ownBlock = some g ∨ (W.alloc o).heap.size ≤ g) (i : Nat) (z : Value) :
    Emp B q W0 (w2.setCell ⟨q, i, none⟩ z) va' vb X' Y (fun b => P1 b ∨ u.ownBlock = some b ∨ b = g) P2 := by
  have hs := k.size
  have hs1 : (W.alloc o).heap.size = W.heap.size + 1 := by simp
  have hgl := (OwnRows.lt ho.out hv').2
  have hz := size_set w2 ⟨q, i, none⟩ z
  have hgq : q < g ∧ ¬ P2 g := by
    rcases hg with hg | hg
    · have := h.p1 g (h.o1.blk hg); exact ⟨this.1, this.2.2⟩
    · exact ⟨by omega, fun e => by have := (h.p2 g e).2.1; omega⟩
  have kk : Keep (fun b => va.ownBlock = some b ∨ b = q) W (w2.setCell ⟨q, i, none⟩ z) := by
    have k1 : Keep (fun b => va.ownBlock = some b ∨ b = q) W (W.alloc o) := (Keep.refl _ W).alloc o
    have k2 : Keep (fun b => va.ownBlock = some b ∨ b = q) (W.alloc o) w2 := ⟨k.os, k.tape, k.output, k.size, fun x hx hn => k.block x hx (fun e => hn (.inl e))⟩
    exact (k1.trans k2).setCell (p := ⟨q, i, none⟩) (.inl (.inr rfl)) z
  refine ⟨fun b hb => ?_, fun b hb => ?_, ?_, ?_, ?_⟩
  · rcases hb with hb | hb | hb
    · have := h.p1 b hb; exact ⟨this.1, by omega, this.2.2⟩
    · rw [hu] at hb; injection hb with hb; subst hb
      exact ⟨hq, by omega, fun e => by have := (h.p2 _ e).2.1; omega⟩
    · subst hb; exact ⟨hgq.1, by omega, hgq.2⟩
  · have h2 := h.p2 b hb
    refine ⟨h2.1, by omega, fun e => ?_⟩
    rcases e with e | e | e
    · exact h2.2.2 e
    · rw [hu] at e; injection e with e; omega
    · subst e; exact hgq.2 hb
  · refine ho.keep (keep1 w2 q i z) fun b hb e => ?_
    have e : b = q := e
    subst e
    rcases hb with hb | hb | hb
    · have := (h.p1 _ hb).1; omega
    · rw [hu] at hb; injection hb with hb; omega
    · subst hb; omega
  · refine h.o2.keep kk fun b hb e => ?_
    rcases e with e | e
    · exact (h.p2 b hb).2.2 (h.o1.blk e)
    · subst e; have := (h.p2 _ hb).1; omega
  · refine h.hb.trans (kk.below fun b hb => ⟨by omega, fun e => ?_⟩)
    rcases e with e | e
    · have := (h.p1 _ (h.o1.blk e)).1; omega
    · omega

theorem Emp.old {B q : Nat} {W0 W w2 : World} {va vb : Value} {X Y : List (List Int)} {P1 P2 : Nat → Prop} {o : Obj} (h : Emp B q W0 W va vb X Y P1 P2) (k : Keep (fun b => va.ownBlock = some b) (W.alloc o) w2) (i : Nat) (z : Value) {b : Nat} (hb : b < q) (hl : b < W.heap.size) :
    (w2.setCell ⟨q, i, none⟩ z).heap[b]? = W.heap[b]? := by
  have kk : Keep (fun b => va.ownBlock = some b ∨ b = q) W (w2.setCell ⟨q, i, none⟩ z) := by
    have k1 : Keep (fun b => va.ownBlock = some b ∨ b = q) W (W.alloc o) := (Keep.refl _ W).alloc o
    have k2 : Keep (fun b => va.ownBlock = some b ∨ b = q) (W.alloc o) w2 := ⟨k.os, k.tape, k.output, k.size, fun x hx hn => k.block x hx (fun e => hn (.inl e))⟩
    exact (k1.trans k2).setCell (p := ⟨q, i, none⟩) (.inl (.inr rfl)) z
  refine kk.block b hl fun e => ?_
  rcases e with e | e
  · have := (h.p1 _ (h.o1.blk e)).1; omega
  · omega

/-- Two tables apart from each other. -/
def RTwo (w0 : World) (X Y : List (List Int)) (e : Ending) (w' : World) : Prop :=
  ∃ r1 r2 P1 P2, e = .returned (.agg #[r1, r2]) ∧ Emp w0.heap.size (w0.heap.size + 1) w0 w' r1 r2 X Y P1 P2
theorem own_made (n : Nat) (W : World) (h : n ≤ maxLen) : Own W.heap.size (W.alloc (.cells (madeCells #[.int .i64 0] n) 2)) (.slice (some ⟨W.heap.size, 0, none⟩) n n) (List.replicate n 0) := by
  have := Blk.made W (.int .i64 0) n 2
  exact Own.shut (cs := []) (by simpa using this) (Nat.le_refl _) (by simpa using h) (by simp) (by simp)

set_option maxHeartbeats 1000000 in
theorem c_l02Empty (n : Nat) (w : World) (hn : n ≤ 12) :
    Calls Try.prog 111 #[.int .i64 n] w (RTwo w (tabOf n fun _ _ => 0) (tabOf n fun _ _ => 0)) := by
  obtain ⟨f0, f1, hW0, hsz⟩ := boxes2 w [.slice none 0 0, .slice none 0 0] [.slice none 0 0, .slice none 0 0] 29 29
  have hmk := run_make_row' (P := Try.prog) 26 2 (.int .i64 0) 8 Try.underlying26 inf_int64 rfl .i64 .i64 n (by omega) (by omega)
  go_enter Try.func111, Try.ntmps111
  go_wp2
  have hB0 : Below w.heap.size w ((w.alloc (.cells #[.slice none 0 0, .slice none 0 0] 29)).alloc (.cells #[.slice none 0 0, .slice none 0 0] 29)) := hW0
  have hE0 := Emp.mk (B := w.heap.size) (q := w.heap.size + 1) (W0 := w) (W := ((w.alloc (.cells #[.slice none 0 0, .slice none 0 0] 29)).alloc (.cells #[.slice none 0 0, .slice none 0 0] 29))) (P1 := fun _ => False) (P2 := fun _ => False) (fun b hb => hb.elim) (fun b hb => hb.elim) (OwnP.nil _ _ _) (OwnP.nil _ _ _) hB0
  go_loopw [4] (fun i wr => ∃ (k : Nat) (va vb : Value) (P1 P2 : Nat → Prop), k ≤ n ∧ i = .int .i64 k ∧ Hid (w.heap.size + 2 ≤ wr.heap.size) ∧ Hid (Blk wr w.heap.size 29 [.slice none 0 0, .slice none 0 0]) ∧ Hid (Blk wr (w.heap.size + 1) 29 [va, vb]) ∧
    Hid (Emp w.heap.size (w.heap.size + 1) w wr va vb (List.replicate k (List.replicate n 0)) (List.replicate k (List.replicate n 0)) P1 P2)) (fun i _ => n - (intOf i).toNat)
  case atStart => exact ⟨0, _, _, _, _, Nat.zero_le _, rfl, Lib.hid (by simp), Lib.hid f0, Lib.hid f1, Lib.hid hE0⟩
  case round =>
    clear hB0 f0 f1 hW0 hsz hE0
    obtain ⟨k, va, vb, P1, P2, hk, rfl, HS, HQ0, HQ1, HE⟩ := hrel
    obtain ⟨wo, rfl⟩ : ∃ wo : World, wo = wr := ⟨_, rfl⟩
    by_cases hlt : k < n
    · have HQd := Lib.hid HQ1.out.drew
      have HEd := Lib.hid HE.out.drew
      obtain ⟨cA, cB, cF, cG⟩ := two_cells HQd.out
      have hcm := (two_cells (HQ1.out.alloc (.cells (madeCells #[.int .i64 0] n) 2))).1
      have hcm2 := (two_cells ((HQ1.out.alloc (.cells (madeCells #[.int .i64 0] n) 2)).alloc (.cells #[.slice (some ⟨wo.heap.size, 0, none⟩) n n] 26))).1
      go_wp2
      go_region_law (first
        | (refine step_app_rowP P1 w.heap.size wo.heap.size (wo.drew.alloc (.cells (madeCells #[.int .i64 0] n) 2)) va (List.replicate k (List.replicate n 0)) (.slice (some ⟨wo.heap.size, 0, none⟩) n n) (List.replicate n 0) (.tmp 12) (.tmp 15) rfl rfl rfl (HEd.out.o1.under ((Below.refl _ _).alloc (Nat.le_refl _) _)) (fun b hb => (HE.out.p1 b hb).2.1) (own_made n wo.drew (by unfold maxLen; omega)) (show Value.slice (some ⟨wo.heap.size + 1, 0, none⟩) 1 1 = _ from by simp) (by simp; omega) (by have := HS.out; omega) (by have := HS.out; simp; omega) ?_; intro g c2 w2 hown2 hk2 hg2; rw [List.length_replicate] at hown2; rw [List.length_replicate]
           have hQ2 := (HQd.out.alloc (.cells (madeCells #[.int .i64 0] n) 2)).of_block (hk2.block _ (HQd.out.alloc (.cells (madeCells #[.int .i64 0] n) 2)).lt (fun e => by have := (HE.out.p1 _ (HE.out.o1.blk e)).1; omega))
           obtain ⟨dA, dB, dF, dG⟩ := two_cells hQ2
           have HQ2 := Lib.hid hQ2; have HO := Lib.hid hown2; have HK := Lib.hid hk2; have HG := Lib.hid hg2; clear hown2 hk2 hg2 hQ2))
      all_goals
        have hs2 := HS.out
        have hE3 := HEd.out.app (va' := .slice (some ⟨g, 0, none⟩) (k + 1) c2) (u := .slice (some ⟨wo.heap.size, 0, none⟩) n n) (by show _ < wo.heap.size; omega) (by omega) rfl rfl HO.out HK.out HG.out 0 (.slice (some ⟨g, 0, none⟩) (k + 1) c2)
        have hQ3 := HQ2.out.set 0 (.slice (some ⟨g, 0, none⟩) (k + 1) c2)
        have hZ3 := (HQ0.out.drew).of_block (HEd.out.old HK.out 0 (.slice (some ⟨g, 0, none⟩) (k + 1) c2) (b := w.heap.size) (by omega) HQ0.out.lt)
        obtain ⟨w3, hw3⟩ : ∃ w3, w2.setCell ⟨w.heap.size + 1, 0, none⟩ (.slice (some ⟨g, 0, none⟩) (k + 1) c2) = w3 := ⟨_, rfl⟩
        rw [hw3] at hE3 hQ3 hZ3 ⊢
        have hs3 : w.heap.size + 2 ≤ w3.heap.size := hQ3.lt
        have HE3 := Lib.hid hE3.swap
        have HEd3 := Lib.hid hE3.swap.drew
        have HQ3 := Lib.hid hQ3; have HZ3 := Lib.hid hZ3; have HS3 := Lib.hid hs3
        clear hE3 hQ3 hZ3 hw3 dA dB dF dG cA cB cF cG hcm hcm2 hs2 hs3
        have HQd3 := Lib.hid HQ3.out.drew
        obtain ⟨cA, cB, cF, cG⟩ := two_cells HQd3.out
        have hcm := (two_cells (HQ3.out.alloc (.cells (madeCells #[.int .i64 0] n) 2))).2.1
        have hcm2 := (two_cells ((HQ3.out.alloc (.cells (madeCells #[.int .i64 0] n) 2)).alloc (.cells #[.slice (some ⟨w3.heap.size, 0, none⟩) n n] 26))).2.1
        go_wp2
        go_region_law (first
          | (refine step_app_rowP P2 w.heap.size w3.heap.size (w3.drew.alloc (.cells (madeCells #[.int .i64 0] n) 2)) vb (List.replicate k (List.replicate n 0)) (.slice (some ⟨w3.heap.size, 0, none⟩) n n) (List.replicate n 0) (.tmp 19) (.tmp 22) rfl rfl rfl (HEd3.out.o1.under ((Below.refl _ _).alloc (Nat.le_refl _) _)) (fun b hb => (HE3.out.p1 b hb).2.1) (own_made n w3.drew (by unfold maxLen; omega)) (show Value.slice (some ⟨w3.heap.size + 1, 0, none⟩) 1 1 = _ from by simp) (by simp; omega) (by have := HS3.out; omega) (by have := HS3.out; simp; omega) ?_; intro g4 c4 w4 hown2 hk2 hg2; rw [List.length_replicate] at hown2; rw [List.length_replicate]
             have hQ2 := (HQd3.out.alloc (.cells (madeCells #[.int .i64 0] n) 2)).of_block (hk2.block _ (HQd3.out.alloc (.cells (madeCells #[.int .i64 0] n) 2)).lt (fun e => by have := (HE3.out.p1 _ (HE3.out.o1.blk e)).1; omega))
             obtain ⟨dA, dB, dF, dG⟩ := two_cells hQ2
             have HQ4 := Lib.hid hQ2; have HO4 := Lib.hid hown2; have HK4 := Lib.hid hk2; have HG4 := Lib.hid hg2; clear hown2 hk2 hg2 hQ2))
        all_goals
          have hs2 := HS3.out
          have hE5 := HEd3.out.app (va' := .slice (some ⟨g4, 0, none⟩) (k + 1) c4) (u := .slice (some ⟨w3.heap.size, 0, none⟩) n n) (by show _ < w3.heap.size; omega) (by omega) rfl rfl HO4.out HK4.out HG4.out 1 (.slice (some ⟨g4, 0, none⟩) (k + 1) c4)
          have hQ5 := HQ4.out.set 1 (.slice (some ⟨g4, 0, none⟩) (k + 1) c4)
          have hZ5 := (HZ3.out.drew).of_block (HEd3.out.old HK4.out 1 (.slice (some ⟨g4, 0, none⟩) (k + 1) c4) (b := w.heap.size) (by omega) HZ3.out.lt)
          obtain ⟨w5, hw5⟩ : ∃ w5, w4.setCell ⟨w.heap.size + 1, 1, none⟩ (.slice (some ⟨g4, 0, none⟩) (k + 1) c4) = w5 := ⟨_, rfl⟩
          rw [hw5] at hE5 hQ5 hZ5 ⊢
          have HE5 := Lib.hid hE5.swap; have HQ5 := Lib.hid hQ5; have HZ5 := Lib.hid hZ5
          clear hE5 hQ5 hZ5 hw5 dA dB dF dG cA cB cF cG hcm hcm2 hs2 hmk
          go_wp2
          go_roundw
          case rel =>
            have hE := HE5.out
            rw [← List.replicate_succ'] at hE
            exact ⟨k + 1, _, _, _, _, by omega, by go_num, Lib.hid HQ5.out.lt, HZ5, HQ5, Lib.hid hE⟩
          case measure => simp [intOf]; omega
    · obtain rfl : k = n := by omega
      have hE := HE.out
      have hrep : List.replicate k (List.replicate k (0 : Int)) = tabOf k fun _ _ => 0 := by
        apply ext_row (by simp)
        intro x hx
        simp at hx
        rw [row_tabOf _ _ _ hx, rowOf_const, row_nat _ _ (by simpa using hx)]
        simp
      rw [hrep] at hE
      obtain ⟨ra1, rc1, rfl, hca⟩ := OwnRows.shape' hE.o1.out
      obtain ⟨ra2, rc2, rfl, hcb⟩ := OwnRows.shape' hE.o2.out
      rw [show (tabOf k fun _ _ => (0 : Int)).length = k from by simp] at hE
      obtain ⟨z0, z1, z2, z3⟩ := two_cells HQ0.out
      have HQ1' := HQ1.out
      rw [show (tabOf k fun _ _ => (0 : Int)).length = k from by simp] at HQ1'
      obtain ⟨y0, y1, y2, y3⟩ := two_cells HQ1'
      have HE' := Lib.hid hE; clear hE hca hcb HE
      go_wp2
      refine bodyPost_ret (v := .agg #[.slice ra1 k rc1, .slice ra2 k rc2]) (by simp [results, Try.results111, go_sem, z0, z1]) rfl ⟨_, _, P1, P2, rfl, ?_⟩
      have kz : Keep (fun b => b = w.heap.size) wo ((wo.setCell ⟨w.heap.size, 0, none⟩ (.slice ra1 k rc1)).setCell ⟨w.heap.size, 1, none⟩ (.slice ra2 k rc2)) := keep_early _ _ _ _
      have hks := kz.size
      have hE := HE'.out
      exact ⟨fun b hb => ⟨(hE.p1 b hb).1, by have := (hE.p1 b hb).2.1; omega, (hE.p1 b hb).2.2⟩, fun b hb => ⟨(hE.p2 b hb).1, by have := (hE.p2 b hb).2.1; omega, (hE.p2 b hb).2.2⟩, hE.o1.keep kz (fun b hb e => by have := (hE.p1 b hb).1; omega), hE.o2.keep kz (fun b hb e => by have := (hE.p2 b hb).1; omega), hE.hb.trans (kz.below fun b hb => ⟨by have : w.heap.size + 2 ≤ wo.heap.size := HS.out; omega, fun e => by have e : b = w.heap.size := e; omega⟩)⟩
end Go.Proofs.Ytgmhnjccgldddaa

namespace Go.Proofs.Ytgmhnjccgldddaa
set_option linter.unusedVariables false
set_option linter.unusedSimpArgs false
open Go Go.RowKit

def pgA (n : Nat) : List (List Int) := tabOf n fun x y => (2 * x - y + n) % n
def pgB (n : Nat) : List (List Int) := tabOf n fun x _ => x

set_option maxRecDepth 100000 in
set_option maxHeartbeats 4000000 in
theorem c_l02Polygon (n : Nat) (w : World) (hn1 : 1 ≤ n) (hn : n ≤ 12) :
    Calls Try.prog 99 #[.int .i64 n] w (RSolR w (pgA n) (pgB n)) := by
  go_enter Try.func99, Try.ntmps99
  go_wp2
  have f2 := Blk.new w [.slice none 0 0, .slice none 0 0] 29
  have hV : Below w.heap.size w (w.alloc (.cells #[.slice none 0 0, .slice none 0 0] 29)) := (Below.refl _ _).alloc (Nat.le_refl _) _
  have hsv : (w.alloc (.cells #[.slice none 0 0, .slice none 0 0] 29)).heap.size = w.heap.size + 1 := by simp
  have HSV := Lib.hid hsv
  change Blk (w.alloc (.cells #[.slice none 0 0, .slice none 0 0] 29)) _ _ _ at f2
  obtain ⟨V, hVV⟩ : ∃ V, w.alloc (.cells #[.slice none 0 0, .slice none 0 0] 29) = V := ⟨_, rfl⟩
  rw [hVV] at f2 hV HSV hsv ⊢
  rw [← hsv]
  clear hVV
  have HF2lt := Lib.hid f2.lt
  have HF2 := Lib.hid f2
  have hB1 : Below V.heap.size V (V.alloc (.cells #[.slice none 0 0, .slice none 0 0] 29)) := (Below.refl _ _).alloc (Nat.le_refl _) _
  have hout := Blk.new V [.slice none 0 0, .slice none 0 0] 29
  have hs1 : (V.alloc (.cells #[.slice none 0 0, .slice none 0 0] 29)).heap.size = V.heap.size + 1 := by simp
  have hqq : V.heap.size = V.heap.size := rfl
  change Blk (V.alloc (.cells #[.slice none 0 0, .slice none 0 0] 29)) _ _ _ at hout
  obtain ⟨W1, hW1⟩ : ∃ W, V.alloc (.cells #[.slice none 0 0, .slice none 0 0] 29) = W := ⟨_, rfl⟩
  rw [hW1] at hB1 hout hs1 ⊢
  clear hW1
  have hout' : Blk W1 (V.heap.size) 29 [.slice none 0 0, .slice none 0 0] := by rw [← hqq]; exact hout
  have HOut := Lib.hid (Out2.start (lo := V.heap.size + 1) (q := V.heap.size) (w := W1) (by omega) (by omega) hout')
  have HB1 := Lib.hid hB1; have HWW := Lib.hid hV; have HS1 := Lib.hid hs1
  have HQLE : Hid (V.heap.size ≤ V.heap.size) := Lib.hid (by omega)
  obtain ⟨gA, hgA⟩ : ∃ g : Int → Int → Int, g = fun x y : Int => (2 * x - y + (n : Int)) % (n : Int) := ⟨_, rfl⟩
  obtain ⟨gB, hgB⟩ : ∃ g : Int → Int → Int, g = fun x _ : Int => x := ⟨_, rfl⟩
  have hRA : pgA n = tabOf n gA := by unfold pgA; rw [hgA]
  have hRB : pgB n = tabOf n gB := by unfold pgB; rw [hgB]
  have HRA := Lib.hid hRA; have HRB := Lib.hid hRB
  have HGA : Hid (∀ x y : Int, gA x y = (2 * x - y + n) % n) := Lib.hid (by rw [hgA]; intro x y; rfl)
  have HGB : Hid (∀ x y : Int, gB x y = x) := Lib.hid (by rw [hgB]; intro x y; rfl)
  clear hgA hgB hRA hRB hB1 hout hout' hs1 hV hqq f2 hsv
  go_loopw [4] (fun a wr => ∃ (k : Nat) (va vb : Value), k ≤ n ∧ a = .int .i64 k ∧ Hid (Below V.heap.size V wr) ∧ Hid (Out2 (V.heap.size + 1) wr.heap.size (V.heap.size) wr va vb ((tabOf n gA).take k) ((tabOf n gB).take k))) (fun a _ => n - (intOf a).toNat)
  case atStart => exact ⟨0, _, _, Nat.zero_le _, rfl, HB1, HOut⟩
  case round =>
    clear HB1 HOut
    obtain ⟨k, va, vb, hk, rfl, HB, HO⟩ := hrel
    obtain ⟨wo, rfl⟩ : ∃ wo : World, wo = wr := ⟨_, rfl⟩
    by_cases hlt : k < n
    · go_wp2
      go_loopw [5, 6, 7] (fun s t y wi => ∃ (j : Nat) (sa : Option Addr) (sc : Nat) (ta : Option Addr) (tc : Nat), j ≤ n ∧ y = .int .i64 j ∧ s = .slice sa j sc ∧ t = .slice ta j tc ∧ Hid (Below wo.heap.size wo wi) ∧ Hid (Two wo.heap.size wi (.slice sa j sc) (.slice ta j tc) ((rowOf n (gA k)).take j) ((rowOf n (gB k)).take j))) (fun _ _ y _ => n - (intOf y).toNat)
      case atStart => exact ⟨0, _, _, _, _, Nat.zero_le _, rfl, rfl, rfl, Lib.hid (((Below.refl wo.heap.size wo).alloc (Nat.le_refl _) _).alloc (by simp) _), Lib.hid (Two.made0 wo)⟩
      case round =>
        obtain ⟨j, sa, sc, ta, tc, hj, rfl, rfl, rfl, Hb, HTw⟩ := hrel
        obtain ⟨wi, rfl⟩ : ∃ wi : World, wi = wr := ⟨_, rfl⟩
        by_cases hlj : j < n
        · have HEA : Hid (gA k j = (2 * (k : Int) - j) % n) := Lib.hid (by rw [HGA.out]; simp); have HEB := Lib.hid (HGB.out k j)
          have hn0 : (0 : Int) < n := by omega
          have hp0 : 0 ≤ 2 * (k : Int) - j + n := by omega
          have hp1 : 2 * (k : Int) - j + n ≤ 100 := by omega
          have w2 : Int.tmod (2 * (k : Int) - j + n) (n : Int) = (2 * (k : Int) - j + n) % (n : Int) := Int.tmod_eq_emod_of_nonneg (by omega)
          have hl1 : ((rowOf n (gA k)).take j).length = j := by simp; omega
          have hl2 : ((rowOf n (gB k)).take j).length = j := by simp; omega
          have HL1a := Lib.hid hl1; have HL2a := Lib.hid hl2
          have HN1a : Hid (((rowOf n (gA k)).take j).length ≤ 1099511627776) := by show _ ≤ _; rw [hl1]; omega
          have HN2a : Hid (((rowOf n (gB k)).take j).length ≤ 1099511627776) := by show _ ≤ _; rw [hl2]; omega
          have HS1a : Hid (wo.heap.size ≤ wi.heap.size) := Lib.hid Hb.out.size
          clear hl1 hl2
          go_wp2_with (at_builtin; go_loud (first
            | (refine wpList_app_int2 wo.heap.size wi _ ((rowOf n (gA k)).take j) _ _ _ wi.heap.size rfl rfl rfl rfl HTw.out.a rfl HN1a.out HS1a.out ?_; intro g c1 w1 hown1 hk1 hg1; rw [HL1a.out] at hown1; rw [HL1a.out]; have HT1 := Lib.hid (HTw.out.app1 hown1 hk1 hg1); have HZ2 := Lib.hid (HTw.out.a.frame Hb.out (Nat.le_refl _) HS1a.out hk1); have HS2a : Hid (wo.heap.size ≤ w1.heap.size) := Lib.hid HZ2.out.size; clear hown1 hk1 hg1)
            | (refine wpList_app_int2 wo.heap.size w1 _ ((rowOf n (gB k)).take j) _ _ _ w1.heap.size rfl rfl rfl rfl HT1.out.b rfl HN2a.out HS2a.out ?_; intro g2 c2 w4 hown4 hk4 hg4; rw [HL2a.out] at hown4; rw [HL2a.out]; have HT2 := Lib.hid (HT1.out.app2 hown4 hk4 hg4); have HZ4 := Lib.hid (HT1.out.b.frame HZ2.out (Nat.le_refl _) HS2a.out hk4); clear hown4 hk4 hg4)))
          go_roundw
          case rel =>
            refine ⟨j + 1, some ⟨g, 0, none⟩, c1, some ⟨g2, 0, none⟩, c2, by omega, by go_num, rfl, rfl, HZ4, ?_⟩
            rw [take_snoc (rowOf n (gA k)) _ (by simpa using hlj), take_snoc (rowOf n (gB k)) _ (by simpa using hlj), nth_rowOf _ _ _ hlj, nth_rowOf _ _ _ hlj, HEA.out, HEB.out]
            exact HT2
          case measure => simp [intOf]; omega
        · obtain rfl : n = j := by omega
          have hTw := HTw.out
          rw [List.take_of_length_le (by simp), List.take_of_length_le (by simp)] at hTw
          have HU := Lib.hid hTw; clear hTw
          have HO2 := Lib.hid (HO.out.under Hb.out)
          have HBi := Lib.hid (bb HB.out Hb.out)
          have hla : ((tabOf n gA).take k).length = k := by simp; omega
          have hlb : ((tabOf n gB).take k).length = k := by simp; omega
          have HNA : Hid (((tabOf n gA).take k).length ≤ 1099511627776) := by show _ ≤ _; rw [hla]; omega
          have HNB : Hid (((tabOf n gB).take k).length ≤ 1099511627776) := by show _ ≤ _; rw [hlb]; omega
          have HLA := Lib.hid hla; have HLB := Lib.hid hlb; clear hla hlb
          have HLO : Hid ((V.heap.size + 1) ≤ wi.heap.size) := Nat.le_trans HO2.out.lm HO2.out.mw
          obtain ⟨cA, cB, cF, cG⟩ := two_cells HO2.out.blk
          go_wp2_with (at_builtin; go_loud (first
            | (refine wpList_app_row2 (V.heap.size + 1) wo.heap.size wi va ((tabOf n gA).take k) _ (rowOf n (gA k)) _ _ rfl rfl rfl HO2.out.a HU.out.a rfl HNA.out HO2.out.lm HLO.out ?_; intro g c1 w1 hown1 hk1 hg1; rw [HLA.out] at hown1; rw [HLA.out]; have hq1 := HO2.out.blkq hk1; obtain ⟨dA, dB, dF, dG⟩ := two_cells hq1; have hh := HO2.out.app1 hown1 hk1 hg1; have hv := HO2.out.row1 HU.out.b hk1 (.slice (some ⟨g, 0, none⟩) (k + 1) c1); have hf := HO2.out.frame1 HBi.out HQLE.out hk1 (.slice (some ⟨g, 0, none⟩) (k + 1) c1); obtain ⟨eA, eB, eF, eG⟩ := two_cells hh.blk; have HH := Lib.hid hh; have HV := Lib.hid hv; have HF1 := Lib.hid hf; clear hown1 hk1 hg1 hq1 hh hv hf)
            | (refine wpList_app_row2s (V.heap.size + 1) wo.heap.size (w1.setCell ⟨(V.heap.size), 0, none⟩ (.slice (some ⟨g, 0, none⟩) (k + 1) c1)) vb ((tabOf n gB).take k) _ (rowOf n (gB k)) _ _ w1.heap.size (by simp [World.setCell]) rfl rfl rfl HH.out.b HV.out rfl HNB.out HH.out.lm (Nat.le_trans HH.out.lm HH.out.mw) ?_; intro g2 c2 w4 hown4 hk4 hg4; rw [HLB.out] at hown4; rw [HLB.out]; have hq4 := HH.out.blkq hk4; clear dA dB dF dG eA eB eF eG cA cB cF cG; obtain ⟨dA, dB, dF, dG⟩ := two_cells hq4; have HH2 := Lib.hid (HH.out.app2 hown4 hk4 hg4); have HF2b := Lib.hid (HH.out.frame2 HF1.out HQLE.out hk4 (.slice (some ⟨g2, 0, none⟩) (k + 1) c2)); clear hown4 hk4 hg4 hq4)))
          go_roundw
          case rel =>
            refine ⟨k + 1, .slice (some ⟨g, 0, none⟩) (k + 1) c1, .slice (some ⟨g2, 0, none⟩) (k + 1) c2, by omega, by go_num, HF2b, ?_⟩
            rw [take_snoc_row (tabOf n gA) _ (by simpa using hlt), take_snoc_row (tabOf n gB) _ (by simpa using hlt), row_tabOf _ _ _ hlt, row_tabOf _ _ _ hlt]
            exact HH2
          case measure => simp [intOf]; omega
    · obtain rfl : n = k := by omega
      have hO := HO.out
      rw [List.take_of_length_le (by simp), List.take_of_length_le (by simp)] at hO
      obtain ⟨ra1, rc1, hva, _⟩ := hO.a.out.rows.shape
      obtain ⟨ra2, rc2, hvb, _⟩ := hO.b.out.rows.shape
      rw [tabOf_length] at hva hvb
      subst hva hvb
      obtain ⟨y0, y1, y2, y3⟩ := two_cells hO.blk
      obtain ⟨z0, z1, z2, z3⟩ := two_cells (HF2.out.under HB.out)
      have HO' := Lib.hid hO; clear hO
      have hlt2 := HF2lt.out
      go_wp2
      refine bodyPost_ret (v := .agg #[.slice ra1 n rc1, .slice ra2 n rc2]) (by simp [results, Try.results99, go_sem, z0, z1]) rfl ⟨_, _, rfl, ⟨?_, ?_⟩, ((bb HWW.out HB.out).setCell (p := ⟨w.heap.size, 0, none⟩) (Nat.le_refl _) _).setCell (p := ⟨w.heap.size, 1, none⟩) (Nat.le_refl _) _⟩
      · try rw [HRA.out]
        exact OwnRows.mono (B := (V.heap.size + 1)) ((HO'.out.a.out.keep (keep1 _ w.heap.size 0 _) (fun b h1 h2 h3 => by have h3 : b = w.heap.size := h3; omega)).keep (keep1 _ w.heap.size 1 _) (fun b h1 h2 h3 => by have h3 : b = w.heap.size := h3; omega)) (by have := HSV.out; omega)
      · try rw [HRB.out]
        exact OwnRows.mono (B := (V.heap.size + 1)) ((HO'.out.b.out.keep (keep1 _ w.heap.size 0 _) (fun b h1 h2 h3 => by have h3 : b = w.heap.size := h3; omega)).keep (keep1 _ w.heap.size 1 _) (fun b h1 h2 h3 => by have h3 : b = w.heap.size := h3; omega)) (by have := HSV.out; omega)
end Go.Proofs.Ytgmhnjccgldddaa

namespace Go.Proofs.Ytgmhnjccgldddaa
set_option linter.unusedVariables false
set_option linter.unusedSimpArgs false
open Go Go.RowKit

def nvG (T : List (List Int)) (x y : Int) : Int := (idx (row T (val2 T x y)) x : Int)
def nvB (T : List (List Int)) : List (List Int) := tabOf T.length (nvG T)

set_option maxRecDepth 100000 in
set_option maxHeartbeats 4000000 in
theorem c_l02Involutive (v0 : Value) (T : List (List Int)) (w : World) (hT : Rows w v0 T) (hp : isTab T = true) :
    Calls Try.prog 103 #[v0] w (RSolR w T (nvB T)) := by
  have HR := Lib.hid hT
  obtain ⟨n, b0, o0, c0, rb0, ro0, rc0, rfl, hl0, hn0, hx0, hc0, hm0, t0⟩ := hT.tab hp
  have HL0 := Lib.hid hl0
  have HRW : Hid (∀ r ∈ T, r.length ≤ 1048576) := Lib.hid (fun r hr => by
    obtain ⟨i, hi, rfl⟩ := List.getElem_of_mem hr
    have := isTab_row hp (x := (i : Int)) (by omega) (by omega)
    rw [row_nat _ _ hi] at this
    omega)
  have HRL : Hid (∀ x : Int, 0 ≤ x → x < n → (row T x).length = n) := Lib.hid (fun x h0 h1 => by have := isTab_row hp h0 (by omega); omega)
  clear hl0 hT hp
  have HT0 := Lib.hid t0; clear t0
  go_enter Try.func103, Try.ntmps103
  go_wp2_with fail
  have hB0 : Below w.heap.size w (w.alloc (.cells #[.slice none 0 0, .slice none 0 0] 29)) := (Below.refl _ _).alloc (Nat.le_refl _) _
  have f0 := Blk.new w [.slice none 0 0, .slice none 0 0] 29
  have hs0 : (w.alloc (.cells #[.slice none 0 0, .slice none 0 0] 29)).heap.size = w.heap.size + 1 := by simp
  change Blk (w.alloc (.cells #[.slice none 0 0, .slice none 0 0] 29)) _ _ _ at f0
  obtain ⟨W0, hW⟩ : ∃ W, w.alloc (.cells #[.slice none 0 0, .slice none 0 0] 29) = W := ⟨_, rfl⟩
  rw [hW] at hB0 f0 hs0 ⊢
  clear hW
  refine (c_l01Own2 _ T _ (HR.out.below hB0) (by have := HL0.out; omega) HRW.out).mono ?_; rintro e V ⟨r1, rfl, ho, hb1⟩
  obtain ⟨ra1, rc1, hv1, -⟩ := OwnRows.shape' ho
  rw [HL0.out] at hv1
  subst hv1
  have HF := Lib.hid (f0.under hb1); have HO := Lib.hid ho; have HWV := Lib.hid (bb hB0 hb1); have HS0 := Lib.hid (show w.heap.size + 1 ≤ V.heap.size by have := hb1.size; omega); have HS00 := Lib.hid hs0
  clear f0 ho hb1 hB0 hs0
  go_wp2
  have hB1 : Below V.heap.size V (V.alloc (.cells #[.slice ra1 n rc1, .slice none 0 0] 29)) := (Below.refl _ _).alloc (Nat.le_refl _) _
  have hout := Blk.new V [.slice ra1 n rc1, .slice none 0 0] 29
  have hs1 : (V.alloc (.cells #[.slice ra1 n rc1, .slice none 0 0] 29)).heap.size = V.heap.size + 1 := by simp
  change Blk (V.alloc (.cells #[.slice ra1 n rc1, .slice none 0 0] 29)) _ _ _ at hout
  obtain ⟨W1, hW1⟩ : ∃ W, V.alloc (.cells #[.slice ra1 n rc1, .slice none 0 0] 29) = W := ⟨_, rfl⟩
  rw [hW1] at hB1 hout hs1 ⊢
  clear hW1
  have HB1 := Lib.hid hB1; have HOut := Lib.hid hout; have HS1 := Lib.hid (show V.heap.size + 1 ≤ W1.heap.size by omega)
  clear hB1 hout hs1
  obtain ⟨gB, hgB⟩ : ∃ g : Int → Int → Int, g = nvG T := ⟨_, rfl⟩
  have HRB : Hid (nvB T = tabOf n gB) := Lib.hid (by unfold nvB; rw [HL0.out, hgB])
  have HGB : Hid (∀ x y : Int, gB x y = (idx (row T (val2 T x y)) x : Int)) := Lib.hid (by rw [hgB]; intro x y; rfl)
  clear hgB
  go_loopw [4] (fun a wr => ∃ (k : Nat) (vb : Value), k ≤ n ∧ a = .int .i64 k ∧ Hid (Below V.heap.size V wr ∧ V.heap.size + 1 ≤ wr.heap.size) ∧ Hid (Blk wr V.heap.size 29 [.slice ra1 n rc1, vb]) ∧ Hid (OwnRows (V.heap.size + 1) wr vb ((tabOf n gB).take k))) (fun a _ => n - (intOf a).toNat)
  case atStart => exact ⟨0, _, Nat.zero_le _, rfl, Lib.hid ⟨HB1.out, HS1.out⟩, HOut, Lib.hid ⟨[], ⟨by simp, .inl ⟨rfl, rfl⟩⟩, RowVals.nil _ _⟩⟩
  case round =>
    clear HB1 HOut HS1
    obtain ⟨k, vb, hk, rfl, HB, HQ, HO2⟩ := hrel
    obtain ⟨wo, rfl⟩ : ∃ wo : World, wo = wr := ⟨_, rfl⟩
    by_cases hlt : k < n
    · go_wp2
      go_loopw [5, 6] (fun s y wi => ∃ (j : Nat) (sa : Option Addr) (sc : Nat), j ≤ n ∧ y = .int .i64 j ∧ s = .slice sa j sc ∧ Hid (Below wo.heap.size wo wi) ∧ Hid (Own wo.heap.size wi (.slice sa j sc) ((rowOf n (gB k)).take j))) (fun _ y _ => n - (intOf y).toNat)
      case atStart => exact ⟨0, _, _, Nat.zero_le _, rfl, rfl, Lib.hid ((Below.refl _ _).alloc (Nat.le_refl _) _), Lib.hid (by simpa using Own.made0 wo (Nat.le_refl _))⟩
      case round =>
        obtain ⟨j, sa, sc, hj, rfl, rfl, Hb, Ho⟩ := hrel
        obtain ⟨wi, rfl⟩ : ∃ wi : World, wi = wr := ⟨_, rfl⟩
        by_cases hlj : j < n
        · have hB2 := bb HWV.out (bb HB.out.1 Hb.out)
          have T' := HT0.out.below hB2
          have r1 := T'.row k hlt
          have x1 := T'.val k j hlt hlj
          obtain ⟨d1, d2⟩ := T'.rng k j (by omega) (by omega) (by omega) (by omega)
          have r2 := T'.rowi (val2 T k j) d1 d2
          have HI0 := (HR.out.below hB2).getS (val2 T k j).toNat (by have := HL0.out; omega)
          obtain ⟨b', o', a', c', e', h1', h2'⟩ := HI0
          have e'' := e'
          injection e'' with e''
          injection e'' with e1 e2 e3
          subst e1 e2
          rw [h1'] at r2
          have hrl := HRL.out (val2 T k j) d1 d2
          rw [show (((val2 T k j).toNat : Nat) : Int) = val2 T k j from by omega] at r2 h2' h1'
          injection r2 with r2
          rw [r2] at h2'
          have HI := Lib.hid h2'
          have r3 := T'.rowi (val2 T k j) d1 d2
          have HEB := Lib.hid (HGB.out k j)
          have hl1 : ((rowOf n (gB k)).take j).length = j := by simp; omega
          have HL1a := Lib.hid hl1
          have HN1a : Hid (((rowOf n (gB k)).take j).length ≤ 1099511627776) := by show _ ≤ _; rw [hl1]; omega
          have HS1a : Hid (wo.heap.size ≤ wi.heap.size) := Lib.hid Hb.out.size
          clear hl1 h2' h1' r2 e' T' hB2
          go_wp2_with fail
          refine (c_l01Index _ _ _ _ HI.out).mono ?_; rintro e we ⟨rfl, rfl⟩
          go_wp2_with (at_builtin; refine wpList_app_int2 wo.heap.size wi _ ((rowOf n (gB k)).take j) _ _ _ wi.heap.size rfl rfl rfl rfl Ho.out rfl HN1a.out HS1a.out ?_; intro g c1 w1 hown1 hk1 hg1; rw [HL1a.out] at hown1; rw [HL1a.out]; have HO1 := Lib.hid hown1; have HZ2 := Lib.hid (Ho.out.frame Hb.out (Nat.le_refl _) HS1a.out hk1); clear hown1 hk1 hg1)
          go_roundw
          case rel =>
            refine ⟨j + 1, some ⟨g, 0, none⟩, c1, by omega, by go_num, rfl, HZ2, ?_⟩
            rw [take_snoc (rowOf n (gB k)) _ (by simpa using hlj), nth_rowOf _ _ _ hlj, HEB.out]
            exact HO1
          case measure => simp [intOf]; omega
        · obtain rfl : n = j := by omega
          have hTw := Ho.out
          rw [List.take_of_length_le (by simp)] at hTw
          have HU := Lib.hid hTw; clear hTw
          have HOi := Lib.hid (HO2.out.inn.under Hb.out)
          have HQi := Lib.hid (HQ.out.under Hb.out)
          have HBi := Lib.hid (bb HB.out.1 Hb.out)
          have hlb : ((tabOf n gB).take k).length = k := by simp; omega
          have HNB : Hid (((tabOf n gB).take k).length ≤ 1099511627776) := by show _ ≤ _; rw [hlb]; omega
          have HLB := Lib.hid hlb; clear hlb
          have HLM := Lib.hid HB.out.2
          have HLO : Hid ((V.heap.size + 1) ≤ wi.heap.size) := Nat.le_trans HB.out.2 Hb.out.size
          obtain ⟨cA, cB, cF, cG⟩ := two_cells HQi.out
          go_wp2_with (at_builtin; refine wpList_app_row2 (V.heap.size + 1) wo.heap.size wi vb ((tabOf n gB).take k) _ (rowOf n (gB k)) _ _ rfl rfl rfl HOi.out HU.out rfl HNB.out HLM.out HLO.out ?_; intro g c1 w1 hown1 hk1 hg1; rw [HLB.out] at hown1; rw [HLB.out]; have hq1 := HQi.out.of_block (hk1.block _ HQi.out.lt (fun e => by have := (OwnRows.lt HO2.out e).1; omega)); obtain ⟨dA, dB, dF, dG⟩ := two_cells hq1; have HQ1 := Lib.hid (hq1.set 1 (.slice (some ⟨g, 0, none⟩) (k + 1) c1)); have HO1 := Lib.hid (hown1.keep (keep1 w1 V.heap.size 1 (.slice (some ⟨g, 0, none⟩) (k + 1) c1)) (fun b h1 _ h3 => by have h3 : b = V.heap.size := h3; omega)); have HF1 := Lib.hid (((OwnRows.frame HOi.out.out HBi.out (Nat.le_succ _) (Nat.le_trans (Nat.le_succ _) HLO.out) hk1).setCell (p := ⟨V.heap.size, 1, none⟩) (Nat.le_refl _) (.slice (some ⟨g, 0, none⟩) (k + 1) c1))); have HS1 := Lib.hid (show V.heap.size + 1 ≤ (w1.setCell ⟨V.heap.size, 1, none⟩ (.slice (some ⟨g, 0, none⟩) (k + 1) c1)).heap.size from HQ1.out.lt); clear hown1 hk1 hg1 hq1)
          go_roundw
          case rel =>
            refine ⟨k + 1, .slice (some ⟨g, 0, none⟩) (k + 1) c1, by omega, by go_num, Lib.hid ⟨HF1.out, HS1.out⟩, HQ1, ?_⟩
            rw [take_snoc_row (tabOf n gB) _ (by simpa using hlt), row_tabOf _ _ _ hlt]
            exact HO1
          case measure => simp [intOf]; omega
    · obtain rfl : n = k := by omega
      have hO := HO2.out
      rw [List.take_of_length_le (by simp)] at hO
      obtain ⟨ra2, rc2, hvb, _⟩ := hO.rows.shape
      rw [tabOf_length] at hvb
      subst hvb
      obtain ⟨y0, y1, y2, y3⟩ := two_cells HQ.out
      obtain ⟨z0, z1, z2, z3⟩ := two_cells (HF.out.under HB.out.1)
      have HO' := Lib.hid hO; clear hO
      have hlt2 := HS0.out
      go_wp2
      refine bodyPost_ret (v := .agg #[.slice ra1 n rc1, .slice ra2 n rc2]) (by simp [results, Try.results103, go_sem, z0, z1]) rfl ⟨_, _, rfl, ⟨?_, ?_⟩, ((bb HWV.out HB.out.1).setCell (p := ⟨w.heap.size, 0, none⟩) (Nat.le_refl _) _).setCell (p := ⟨w.heap.size, 1, none⟩) (Nat.le_refl _) _⟩
      · have hs00 := HS00.out
        exact OwnRows.mono (B := W0.heap.size) (((HO.out.under HB.out.1).keep (keep1 _ w.heap.size 0 _) (fun b h1 h2 h3 => by have h3 : b = w.heap.size := h3; omega)).keep (keep1 _ w.heap.size 1 _) (fun b h1 h2 h3 => by have h3 : b = w.heap.size := h3; omega)) (by omega)
      · rw [HRB.out]
        exact OwnRows.mono (B := (V.heap.size + 1)) ((HO'.out.keep (keep1 _ w.heap.size 0 _) (fun b h1 h2 h3 => by have h3 : b = w.heap.size := h3; omega)).keep (keep1 _ w.heap.size 1 _) (fun b h1 h2 h3 => by have h3 : b = w.heap.size := h3; omega)) (by omega)
end Go.Proofs.Ytgmhnjccgldddaa

namespace Go.Proofs.Ytgmhnjccgldddaa
set_option linter.unusedVariables false
set_option linter.unusedSimpArgs false
open Go.RowKit

theorem ren_val {t : List (List Int)} {p : List Int} {x y : Int} (hx0 : 0 ≤ x) (hx : x < t.length) (hy0 : 0 ≤ y) (hy : y < t.length) : val2 (renL t p) x y = nth p (val2 t (nth (invL p) x) (nth (invL p) y)) := val2_tabOf' hx0 hx hy0 hy
theorem ren_then {t : List (List Int)} {p q : List Int} (h : RenOk t p) (hq : Permuted q) (hl : q.length = t.length) : renL (renL t p) q = renL t (thenL p q) := by
  obtain ⟨ht, hp, hpl⟩ := h
  have hpq := then_perm hp hq (by omega)
  unfold renL
  rw [tabOf_length]
  refine tabOf_congr fun x y hx hy => ?_
  have a := invL_lt hq (y := x) (by omega) (by omega)
  have b := invL_lt hq (y := y) (by omega) (by omega)
  have c := invL_lt hp (y := nth (invL q) x) a.1 (by omega)
  have d := invL_lt hp (y := nth (invL q) y) b.1 (by omega)
  have e := val2_lt ht (x := nth (invL p) (nth (invL q) x)) (y := nth (invL p) (nth (invL q) y)) c.1 (by omega) d.1 (by omega)
  have hA : nth (thenL (invL q) (invL p)) x = nth (invL p) (nth (invL q) x) := nth_thenL _ _ _ (by omega) (by rw [invL_length]; omega)
  have hB : nth (thenL (invL q) (invL p)) y = nth (invL p) (nth (invL q) y) := nth_thenL _ _ _ (by omega) (by rw [invL_length]; omega)
  rw [val2_tabOf' a.1 (by omega) b.1 (by omega), inv_then hp hq (by omega) hpq, hA, hB]
  exact (nth_thenL p q _ e.1 (by omega)).symm
theorem ren_one {t : List (List Int)} (ht : isTab t = true) : renL t (iota t.length) = t := by
  have hi : ∀ x : Int, 0 ≤ x → x < t.length → nth (invL (iota t.length)) x = x := fun x h0 h1 => by
    have h := nth_invL (permuted_iota t.length) (x := x) h0 (by simpa using h1)
    rwa [nth_iota _ _ h0 h1] at h
  conv => rhs; rw [← tabOf_val2 ht]
  unfold renL
  refine tabOf_congr fun x y hx hy => ?_
  rw [hi _ (by omega) (by omega), hi _ (by omega) (by omega)]
  have e := val2_lt ht (x := (x : Int)) (y := (y : Int)) (by omega) (by omega) (by omega) (by omega)
  rw [nth_iota _ _ e.1 e.2]
theorem renOk_ren {t : List (List Int)} {p : List Int} (h : RenOk t p) {q : List Int} (hq : Permuted q) (hl : q.length = t.length) : RenOk (renL t p) q := ⟨isTab_renL h, hq, by rw [renL_length]; exact hl⟩

theorem lexR_le_trans {a b c : List (List Int)} (h1 : lexR b a = false) (h2 : lexR c b = false) : lexR c a = false := by
  cases e : lexR c a with
  | false => rfl
  | true =>
    by_cases hab : a = b
    · subst hab; rw [e] at h2; cases h2
    · have h3 := lexR_total (a := b) (b := a) (fun h => hab h.symm) h1
      rw [lexR_trans e h3] at h2; cases h2
theorem bestR_le (f : List Int → List (List Int)) : ∀ (X : List (List Int)) (ps : List (List Int)), lexR X (bestR f X ps) = false ∧ ∀ p ∈ ps, lexR (f p) (bestR f X ps) = false
  | X, [] => ⟨lexR_irrefl X, by simp⟩
  | X, p :: ps => by
    unfold bestR
    obtain ⟨h1, h2⟩ := bestR_le f (if lexR (f p) X then f p else X) ps
    have hX : lexR X (if lexR (f p) X then f p else X) = false := by
      split
      · rename_i h; exact lexR_asymm h
      · exact lexR_irrefl X
    have hp : lexR (f p) (if lexR (f p) X then f p else X) = false := by
      split
      · exact lexR_irrefl _
      · rename_i h; simpa using h
    refine ⟨lexR_le_trans h1 hX, fun q hq => ?_⟩
    rcases List.mem_cons.1 hq with rfl | hq
    · exact lexR_le_trans h1 hp
    · exact h2 q hq
def lsT' (t : List (List Int)) : List (List Int) := bestR (renL t) t (allPerms t.length)
theorem lsT_is {t : List (List Int)} (ht : isTab t = true) : (∃ q, Permuted q ∧ q.length = t.length ∧ lsT' t = renL t q) ∧ ∀ q, Permuted q → q.length = t.length → lexR (renL t q) (lsT' t) = false := by
  refine ⟨?_, fun q hq hl => (bestR_le (renL t) t (allPerms t.length)).2 q (mem_allPerms.2 ⟨hq, hl⟩)⟩
  rcases bestR_mem (renL t) t (allPerms t.length) with h | ⟨q, hq, h⟩
  · exact ⟨iota t.length, permuted_iota _, by simp, by rw [ren_one ht]; exact h⟩
  · obtain ⟨a, b⟩ := mem_allPerms.1 hq
    exact ⟨q, a, b, h⟩
theorem perm_inv {p : List Int} (hp : Permuted p) : Permuted (invL p) := by
  rw [permuted_iff]
  intro x x0 x1
  rw [invL_length] at x1
  have := perm_lt hp x0 x1
  rw [← nth_invL hp x0 x1]
  exact nth_mem this.1 (by rw [invL_length]; exact this.2)
/-- Renamed tables have the same least form. -/
theorem lsT_ren {t : List (List Int)} {p : List Int} (h : RenOk t p) : lsT' (renL t p) = lsT' t := by
  obtain ⟨ht, hp, hpl⟩ := h
  have h : RenOk t p := ⟨ht, hp, hpl⟩
  obtain ⟨⟨q1, a1, b1, e1⟩, m1⟩ := lsT_is ht
  obtain ⟨⟨q2, a2, b2, e2⟩, m2⟩ := lsT_is (isTab_renL h)
  rw [renL_length] at b2 m2
  -- each is among the other's
  have f2 : lsT' (renL t p) = renL t (thenL p q2) := by rw [e2, ren_then h a2 b2]
  have hip := perm_inv hp
  have hback : thenL p (thenL (invL p) q1) = q1 := by
    apply ext_nth (by simp; omega)
    intro k hk
    simp at hk
    rw [nth_thenL _ _ _ (by omega) (by omega), nth_thenL _ _ _ (perm_lt hp (by omega) (by omega)).1 (by rw [invL_length]; exact (perm_lt hp (by omega) (by omega)).2), nth_invL hp (by omega) (by omega)]
  have f1 : lsT' t = renL (renL t p) (thenL (invL p) q1) := by
    rw [ren_then h (then_perm hip a1 (by simp; omega)) (by simp; omega), hback, e1]
  have g1 := m1 (thenL p q2) (then_perm hp a2 (by omega)) (by simp; omega)
  have g2 := m2 (thenL (invL p) q1) (then_perm hip a1 (by simp; omega)) (by simp; omega)
  rw [← f2] at g1
  rw [← f1] at g2
  apply Classical.byContradiction
  intro hne
  rw [lexR_total hne g1] at g2
  cases g2

theorem row_renL {t : List (List Int)} {p : List Int} (h : RenOk t p) {x : Nat} (hx : x < t.length) : row (renL t p) x = thenL (thenL (invL p) (row t (nth (invL p) x))) p := by
  obtain ⟨ht, hp, hpl⟩ := h
  have hix := invL_lt hp (y := (x : Int)) (by omega) (by omega)
  have hrl := isTab_row ht hix.1 (by omega)
  have hrr := isTab_row (isTab_renL (t := t) (p := p) ⟨ht, hp, hpl⟩) (x := (x : Int)) (by omega) (by simp; omega)
  rw [renL_length] at hrr
  apply ext_nth (by simp; omega)
  intro y hy
  have hy' : y < t.length := by omega
  have hiy := invL_lt hp (y := (y : Int)) (by omega) (by omega)
  have hv := val2_lt ht (x := nth (invL p) x) (y := nth (invL p) y) hix.1 (by omega) hiy.1 (by omega)
  have e1 : nth (row (renL t p) x) y = nth p (val2 t (nth (invL p) x) (nth (invL p) y)) := ren_val (by omega) (by omega) (by omega) (by omega)
  rw [e1, nth_thenL _ _ _ (by omega) (by simp; omega), nth_thenL _ _ _ (by omega) (by simp; omega)]
  rfl
theorem permRows_iff {t : List (List Int)} (ht : isTab t = true) : permRows t = true ↔ ∀ x : Nat, x < t.length → Permuted (row t x) := by
  obtain ⟨h1, h2⟩ := isTab_len ht
  unfold permRows
  rw [List.all_eq_true]
  constructor
  · intro h x hx
    have := h _ (row_mem (t := t) (x := (x : Int)) (by omega) (by omega))
    exact (isPerm_parts this).2.2
  · intro h r hr
    obtain ⟨x, hx, rfl⟩ := List.getElem_of_mem hr
    have hp := h x hx
    have hl := isTab_row ht (x := (x : Int)) (by omega) (by omega)
    rw [row_nat _ _ hx] at hp hl
    simp [isPerm, inR, hp]
    omega
/-- Renaming keeps 'all rows are permutations'. -/
theorem permRows_ren {t : List (List Int)} {p : List Int} (h : RenOk t p) (hr : permRows t = true) : permRows (renL t p) = true := by
  obtain ⟨ht, hp, hpl⟩ := h
  have h : RenOk t p := ⟨ht, hp, hpl⟩
  rw [permRows_iff (isTab_renL h)]
  rw [permRows_iff ht] at hr
  intro x hx
  rw [renL_length] at hx
  have hix := invL_lt hp (y := (x : Int)) (by omega) (by omega)
  have hrow := hr (nth (invL p) x).toNat (by omega)
  rw [show (((nth (invL p) x).toNat : Nat) : Int) = nth (invL p) x by omega] at hrow
  have hrl := isTab_row ht hix.1 (by omega)
  rw [row_renL h hx]
  have h1 := then_perm (perm_inv hp) hrow (by simp; omega)
  exact then_perm h1 hp (by first | (simp; omega) | simp [hpl] | omega)
theorem trans_ren {t : List (List Int)} {p : List Int} (h : RenOk t p) : transL (renL t p) = renL (transL t) p := by
  obtain ⟨ht, hp, hpl⟩ := h
  unfold transL
  rw [renL_length]
  unfold renL
  rw [tabOf_length]
  refine tabOf_congr fun x y hx hy => ?_
  have a := invL_lt hp (y := (x : Int)) (by omega) (by omega)
  have b := invL_lt hp (y := (y : Int)) (by omega) (by omega)
  rw [val2_tabOf' (by omega) (by omega) (by omega) (by omega), val2_tabOf' a.1 (by omega) b.1 (by omega)]
theorem ren_back {t : List (List Int)} {p : List Int} (h : RenOk t p) : renL (renL t p) (invL p) = t := by
  obtain ⟨ht, hp, hpl⟩ := h
  have h : RenOk t p := ⟨ht, hp, hpl⟩
  rw [ren_then h (perm_inv hp) (by simp; omega), then_back hp, hpl, ren_one ht]
theorem permRows_ren_iff {t : List (List Int)} {p : List Int} (h : RenOk t p) : permRows (renL t p) = permRows t := by
  rw [Bool.eq_iff_iff]
  constructor
  · intro hr
    have h2 := permRows_ren (renOk_ren h (perm_inv h.2.1) (by have := h.2.2; simp; omega)) hr
    rwa [ren_back h] at h2
  · exact permRows_ren h
/-- Renaming keeps latin tables and tables with permutations as rows. -/
theorem lat_ren {t : List (List Int)} {p : List Int} (h : RenOk t p) : latRes (renL t p) = latRes t := by
  have h2 : RenOk (transL t) p := ⟨isTab_transL h.1, h.2.1, by simp; exact h.2.2⟩
  unfold latRes
  rw [if_pos (isTab_renL h), if_pos h.1, permRows_ren_iff h, trans_ren h, permRows_ren_iff h2]
theorem trans_trans {t : List (List Int)} (ht : isTab t = true) : transL (transL t) = t := by
  conv => rhs; rw [← tabOf_val2 ht]
  unfold transL
  rw [tabOf_length]
  refine tabOf_congr fun x y hx hy => ?_
  exact val2_tabOf' (by omega) (by omega) (by omega) (by omega)
end Go.Proofs.Ytgmhnjccgldddaa

namespace Go.Proofs.Ytgmhnjccgldddaa
set_option linter.unusedVariables false
set_option linter.unusedSimpArgs false
open Go Go.RowKit Go.Shelf

theorem ivT_row {A B : List (List Int)} {n : Nat} {z : Int → Int} {ini : Int → Int → Int} {k u : Nat} (hu : u < n) : (row (ivT A B n z ini k) u).length = n := by
  unfold ivT; rw [row_tabOf _ _ _ hu]; simp

theorem two_start {w1 : World} {B q0 : Nat} {W0 : World} {va vb : Value} {X Y : List (List Int)} {P1 P2 : Nat → Prop} (h : Emp B q0 W0 w1 va vb X Y P1 P2) (hB : B ≤ q0) (o : Obj) :
    TwoP B w1.heap.size (w1.alloc o) va vb X Y := by
  have hs : (w1.alloc o).heap.size = w1.heap.size + 1 := by simp
  have hb : Below w1.heap.size w1 (w1.alloc o) := (Below.refl _ _).alloc (Nat.le_refl _) _
  refine ⟨P1, P2, fun b hb => ?_, fun b hb => ?_, h.o1.under hb, h.o2.under hb⟩
  · have := h.p1 b hb; exact ⟨by omega, by omega, by omega, this.2.2⟩
  · have := h.p2 b hb; exact ⟨by omega, by omega, by omega⟩
theorem row_zeros {n u : Nat} (hu : u < n) : (row (tabOf n fun _ _ => (0 : Int)) u).length = n := by rw [row_tabOf _ _ _ hu]; simp

set_option maxRecDepth 100000 in
set_option maxHeartbeats 4000000 in
theorem c_l02InverseC (v0 u0 : Value) (A B : List (List Int)) (w : World) (hA : Sol w v0 u0 A B) (hs : collL A B = []) (hp : isPM A B = true) :
    Calls Try.prog 104 #[.agg #[v0, u0]] w (RSolR w (ivA A B A.length) (ivB A B A.length)) := by
  have hPm := pmL_perm hp hs
  clear hs
  obtain ⟨n0, b0, o0, c0, rb0, ro0, rc0, b0s, o0s, c0s, rb0s, ro0s, rc0s, rfl, rfl, hl0, hl0s, hn0, hx0, hc0, hm0, hc0s, hm0s, t0, t0s⟩ := hA.tabs hp
  rw [hl0] at hPm ⊢
  have HPm := Lib.hid hPm; clear hPm
  have HL0 := Lib.hid hl0; clear hl0
  have HL0s := Lib.hid hl0s; clear hl0s
  go_enter Try.func104, Try.ntmps104
  obtain ⟨f0, f2, hW0, hsz⟩ := boxes2 w [.slice (some ⟨b0, o0, none⟩) n0 c0, .slice (some ⟨b0s, o0s, none⟩) n0 c0s] [.slice none 0 0, .slice none 0 0] 29 29
  obtain ⟨W0, hW⟩ : ∃ W0, ((w.alloc (.cells #[.slice (some ⟨b0, o0, none⟩) n0 c0, .slice (some ⟨b0s, o0s, none⟩) n0 c0s] 29)).alloc (.cells #[.slice none 0 0, .slice none 0 0] 29)) = W0 := ⟨_, rfl⟩
  rw [hW] at f0 f2 hW0 hsz
  have HSZ := Lib.hid hsz
  obtain ⟨cA0, cB0, -, -⟩ := two_cells f0
  replace t0 := t0.below hW0; replace t0s := t0s.below hW0
  have HT0 := Lib.hid t0; have HT0s := Lib.hid t0s
  have HF0 := Lib.hid f0; have HF2 := Lib.hid f2; have HW0 := Lib.hid hW0
  have hsz := HSZ.out
  have hW' := hW
  subst hW'
  clear hA hp f0 f2 t0 t0s hW0
  go_wp2_with fail
  obtain ⟨W0, hW⟩ : ∃ W0, ((w.alloc (.cells #[.slice (some ⟨b0, o0, none⟩) n0 c0, .slice (some ⟨b0s, o0s, none⟩) n0 c0s] 29)).alloc (.cells #[.slice none 0 0, .slice none 0 0] 29)) = W0 := ⟨_, rfl⟩
  rw [hW] at HF0 HF2 HW0 HSZ HT0 HT0s hsz cA0 cB0 ⊢
  clear hW
  refine (c_l02Empty n0 _ hx0).mono ?_; rintro e w1 ⟨r1, r2, P1, P2, rfl, hE⟩
  obtain ⟨ra1, rc1, hv1, -⟩ := OwnRows.shape' hE.o1.out
  obtain ⟨ra2, rc2, hv2, -⟩ := OwnRows.shape' hE.o2.out
  rw [show (tabOf n0 fun _ _ => (0 : Int)).length = n0 from by simp] at hv1 hv2
  subst hv1 hv2
  have hT := two_start hE (by omega) (.cells #[.slice ra1 n0 rc1, .slice ra2 n0 rc2] 29)
  have hQ : Blk (w1.alloc (.cells #[.slice ra1 n0 rc1, .slice ra2 n0 rc2] 29)) w1.heap.size 29 [.slice ra1 n0 rc1, .slice ra2 n0 rc2] := Blk.new w1 [.slice ra1 n0 rc1, .slice ra2 n0 rc2] 29
  have hB1 : Below W0.heap.size W0 (w1.alloc (.cells #[.slice ra1 n0 rc1, .slice ra2 n0 rc2] 29)) := hE.hb.alloc hE.hb.size _
  have hqs : W0.heap.size ≤ w1.heap.size := hE.hb.size
  obtain ⟨tb1, _, _, tb2, _, _, _, _, rfl, rfl, -⟩ := hT.put (u := 0) (y := 0) (m := n0) (m' := n0) (by simp; omega) (by simp; omega) (row_zeros (by omega)) (row_zeros (by omega)) (by omega) (by omega)
  have hZ : TwoP W0.heap.size w1.heap.size (w1.alloc (.cells #[.slice (some ⟨tb1, 0, none⟩) n0 rc1, .slice (some ⟨tb2, 0, none⟩) n0 rc2] 29)) (.slice (some ⟨tb1, 0, none⟩) n0 rc1) (.slice (some ⟨tb2, 0, none⟩) n0 rc2) (ivT A B n0 (fun c => c / n0) (fun _ _ => 0) (0 * n0)) (ivT A B n0 (fun c => c % n0) (fun _ _ => 0) (0 * n0)) := by
    rw [Nat.zero_mul, ivT_zero HPm.out, ivT_zero HPm.out]; exact hT
  have HT := Lib.hid hZ; have HQ := Lib.hid hQ; have HB1 := Lib.hid hB1
  have hqV : w1.heap.size < (w1.alloc (.cells #[.slice (some ⟨tb1, 0, none⟩) n0 rc1, .slice (some ⟨tb2, 0, none⟩) n0 rc2] 29)).heap.size := by simp
  clear hT hZ hQ hB1 hE cA0 cB0
  go_wp2
  obtain ⟨V, hV⟩ : ∃ V, (w1.alloc (.cells #[.slice (some ⟨tb1, 0, none⟩) n0 rc1, .slice (some ⟨tb2, 0, none⟩) n0 rc2] 29)) = V := ⟨_, rfl⟩
  rw [hV] at HT HQ HB1 hqV ⊢
  clear hV
  generalize w1.heap.size = q at HT HQ hqs hqV ⊢
  have HFV := Lib.hid (HF0.out.under HB1.out); have HGV := Lib.hid (HF2.out.under HB1.out)
  go_loopw [5, 6, 7, 8] (fun i _ _ _ wr => ∃ x : Nat, x ≤ n0 ∧ i = .int .i64 x ∧ Hid (Below W0.heap.size W0 wr) ∧ Hid (Blk wr w.heap.size 29 [.slice (some ⟨b0, o0, none⟩) n0 c0, .slice (some ⟨b0s, o0s, none⟩) n0 c0s]) ∧ Hid (Blk wr (w.heap.size + 1) 29 [.slice none 0 0, .slice none 0 0]) ∧ Hid (Blk wr q 29 [.slice (some ⟨tb1, 0, none⟩) n0 rc1, .slice (some ⟨tb2, 0, none⟩) n0 rc2]) ∧
    Hid (TwoP W0.heap.size q wr (.slice (some ⟨tb1, 0, none⟩) n0 rc1) (.slice (some ⟨tb2, 0, none⟩) n0 rc2) (ivT A B n0 (fun c => c / n0) (fun _ _ => 0) (x * n0)) (ivT A B n0 (fun c => c % n0) (fun _ _ => 0) (x * n0)))) (fun i _ _ _ _ => n0 - (intOf i).toNat)
  case atStart => exact ⟨0, Nat.zero_le _, rfl, HB1, HFV, HGV, HQ, HT⟩
  case round =>
    clear HFV HGV HQ HB1 HT hqV
    obtain ⟨x, hx, rfl, HB, HG, HR, HF, HT⟩ := hrel
    obtain ⟨wo, rfl⟩ : ∃ wo : World, wo = wr := ⟨_, rfl⟩
    by_cases hlt : x < n0
    · go_wp2
      go_loopw [6, 7, 8] (fun j _ _ wi => ∃ y : Nat, y ≤ n0 ∧ j = .int .i64 y ∧ Hid (Below W0.heap.size W0 wi) ∧ Hid (Blk wi w.heap.size 29 [.slice (some ⟨b0, o0, none⟩) n0 c0, .slice (some ⟨b0s, o0s, none⟩) n0 c0s]) ∧ Hid (Blk wi (w.heap.size + 1) 29 [.slice none 0 0, .slice none 0 0]) ∧ Hid (Blk wi q 29 [.slice (some ⟨tb1, 0, none⟩) n0 rc1, .slice (some ⟨tb2, 0, none⟩) n0 rc2]) ∧
        Hid (TwoP W0.heap.size q wi (.slice (some ⟨tb1, 0, none⟩) n0 rc1) (.slice (some ⟨tb2, 0, none⟩) n0 rc2) (ivT A B n0 (fun c => c / n0) (fun _ _ => 0) (x * n0 + y)) (ivT A B n0 (fun c => c % n0) (fun _ _ => 0) (x * n0 + y)))) (fun j _ _ _ => n0 - (intOf j).toNat)
      case atStart => exact ⟨0, Nat.zero_le _, rfl, HB, HG, HR, HF, HT⟩
      case round =>
        clear HB HG HR HF HT
        obtain ⟨y, hy, rfl, HB, HG, HR, HF, HT⟩ := hrel
        obtain ⟨wi, rfl⟩ : ∃ wi : World, wi = wr := ⟨_, rfl⟩
        by_cases hlty : y < n0
        · have T := HT0.out.below HB.out
          have T' := HT0s.out.below HB.out
          have va := T.rng x y (by omega) (by omega) (by omega) (by omega)
          have vb := T'.rng x y (by omega) (by omega) (by omega) (by omega)
          have HVa := Lib.hid va; have HVb := Lib.hid vb
          obtain ⟨u, hu⟩ : ∃ u : Nat, val2 A x y = u := ⟨(val2 A x y).toNat, by omega⟩
          obtain ⟨v, hv⟩ : ∃ v : Nat, val2 B x y = v := ⟨(val2 B x y).toNat, by omega⟩
          have e1 := T.row x hlt; have e2 := T'.row x hlt
          have e3 := T.val x y hlt hlty; have e4 := T'.val x y hlt hlty
          rw [hu] at e3; rw [hv] at e4
          have hun : u < n0 := by omega
          have hvn : v < n0 := by omega
          have HU0 := Lib.hid hu; have HV0 := Lib.hid hv
          have HE := Lib.hid (And.intro e2 e4)
          clear hu hv va vb T T' e2 e4
          obtain ⟨c1, c2, -, -⟩ := two_cells HG.out
          obtain ⟨q1, q2, q3, q4⟩ := two_cells HF.out
          obtain ⟨_, g1, r1, _, g2, r2, _, _, E1, E2, -, -, -, p1, p2, -⟩ := HT.out.put (u := u) (y := v) (m := n0) (m' := n0) (by simpa using hun) (by simpa using hun) (ivT_row hun) (ivT_row hun) hvn hvn
          injection E1 with E1; injection E1 with E1; injection E2 with E2; injection E2 with E2; subst E1 E2
          have HP := Lib.hid (And.intro p1 p2)
          go_wp2
          go_quiet (fail)
          rename_i nq
          have hbq : Below wi.heap.size wi (wi.drewN nq) := below_drewN (Below.refl _ _) nq
          generalize wi.drewN nq = wq at hbq ⊢
          clear p1 p2 q1 q2 q3 q4 c1 c2 e1 e3
          have P1 := cell_under hbq HP.out.1; have P2 := cell_under hbq HP.out.2
          obtain ⟨_, g1', r1', _, g2', r2', z1, z2, E1, E2, ⟨m1, m2, m3, m4⟩, ⟨n1, n2, n3, n4⟩, ⟨o1, o2, o3, o4, o5⟩, p1, p2, p3, p4, p5, p6⟩ := (HT.out.under hbq).put (u := u) (y := v) (m := n0) (m' := n0) (by simpa using hun) (by simpa using hun) (ivT_row hun) (ivT_row hun) hvn hvn
          injection E1 with E1; injection E1 with E1; injection E2 with E2; injection E2 with E2; subst E1 E2
          rw [P1] at p1; rw [P2] at p2
          injection p1 with p1; injection p1 with p1; injection p1 with p1; injection p1 with p1
          injection p2 with p2; injection p2 with p2; injection p2 with p2; injection p2 with p2
          subst p1 p2
          have hBq : Below W0.heap.size W0 wq := HB.out.trans (hbq.mono HB.out.size)
          have hB9 : Below W0.heap.size W0 (wq.setCell ⟨g1, v, none⟩ (.int .i64 (x : Int))) := hBq.setCell (p := ⟨g1, v, none⟩) m2 _
          have H6 := Lib.hid p6; have HB9 := Lib.hid hB9
          have hBX := (HT0s.out.below hBq); have hBY := (HT0s.out.below hB9)
          have a1 := hBX.row x hlt; have a2 := hBX.val x y hlt hlty
          have a3 := hBY.row x hlt; have a4 := hBY.val x y hlt hlty
          rw [HV0.out] at a2 a4
          obtain ⟨b1, b2, -, -⟩ := two_cells (HF0.out.under hBq)
          obtain ⟨b3, b4, -, -⟩ := two_cells (HF0.out.under hB9)
          obtain ⟨s1, s2⟩ := p5 x
          have HPk := Lib.hid hbq
          clear hBX hBY P1 P2 hBq hB9 p5 p6 hbq
          go_wp2
          have kz : Keep (fun b => b = g1 ∨ b = g2) wi ((wq.setCell ⟨g1, v, none⟩ (.int .i64 (x : Int))).setCell ⟨g2, v, none⟩ (.int .i64 (y : Int))) := by
            have k0 : Keep (fun b => b = g1 ∨ b = g2) wi wq := (Keep.refl _ wi).under HPk.out
            exact (k0.setCell (p := ⟨g1, v, none⟩) (.inl (.inl rfl)) (.int .i64 (x : Int))).setCell (p := ⟨g2, v, none⟩) (.inl (.inr rfl)) (.int .i64 (y : Int))
          have hT9 : TwoP W0.heap.size q ((wq.setCell ⟨g1, v, none⟩ (.int .i64 (x : Int))).setCell ⟨g2, v, none⟩ (.int .i64 (y : Int))) (.slice (some ⟨tb1, 0, none⟩) n0 rc1) (.slice (some ⟨tb2, 0, none⟩) n0 rc2) (ivT A B n0 (fun c => c / n0) (fun _ _ => 0) (x * n0 + y + 1)) (ivT A B n0 (fun c => c % n0) (fun _ _ => 0) (x * n0 + y + 1)) := by
            have h9 := H6.out x y
            have hcd := code_div (n := n0) (x := (x : Int)) (y := (y : Int)) (by omega) (by omega)
            have va := HVa.out
            have vb := HVb.out
            have e1 := ivT_step HPm.out (fun c => c / n0) (fun _ _ => 0) hlt hlty va.1 va.2 vb.1 vb.2
            have e2 := ivT_step HPm.out (fun c => c % n0) (fun _ _ => 0) hlt hlty va.1 va.2 vb.1 vb.2
            rw [HU0.out, HV0.out] at e1 e2
            simp only [Int.toNat_natCast] at e1 e2
            rw [hcd.1] at e1
            rw [hcd.2] at e2
            rw [← e1, ← e2]
            exact h9
          have hz := HSZ.out
          go_roundw
          case rel =>
            exact ⟨y + 1, by omega, by go_num, Lib.hid (HB9.out.setCell (p := ⟨g2, v, none⟩) m4 _), Lib.hid (HG.out.of_block (kz.block _ HG.out.lt (by omega))), Lib.hid (HR.out.of_block (kz.block _ HR.out.lt (by omega))), Lib.hid (HF.out.of_block (kz.block _ HF.out.lt (by omega))), Lib.hid hT9⟩
          case measure => simp [intOf]; omega
        · obtain rfl : y = n0 := by omega
          go_wp2
          go_roundw
          case rel => exact ⟨x + 1, by omega, by go_num, HB, HG, HR, HF, Lib.hid (by have h := HT.out; rw [show x * y + y = (x + 1) * y from by rw [Nat.succ_mul]] at h; exact h)⟩
          case measure => simp [intOf]; omega
    · obtain rfl : x = n0 := by omega
      obtain ⟨q1, q2, -, -⟩ := two_cells HF.out
      obtain ⟨d1, d2, d3, d4⟩ := two_cells HR.out
      have hz := HSZ.out
      have HPd := HPm
      go_wp2
      have hT := HT.out
      rw [ivA_eq HPd.out, ivB_eq HPd.out] at hT
      obtain ⟨Q1, Q2, k1, k2, o1, o2⟩ := hT
      have kz : Keep (fun b => b = w.heap.size + 1) wo ((wo.setCell ⟨w.heap.size + 1, 0, none⟩ (.slice (some ⟨tb1, 0, none⟩) x rc1)).setCell ⟨w.heap.size + 1, 1, none⟩ (.slice (some ⟨tb2, 0, none⟩) x rc2)) := keep_early _ _ _ _
      have hBz : Below w.heap.size w wo := HW0.out.trans (HB.out.mono HW0.out.size)
      refine bodyPost_ret (v := .agg #[.slice (some ⟨tb1, 0, none⟩) x rc1, .slice (some ⟨tb2, 0, none⟩) x rc2]) (by simp [results, Try.results104, go_sem, d1, d2]) rfl ⟨_, _, rfl, ⟨?_, ?_⟩, hBz.trans (kz.below fun b hb => ⟨by have := hBz.size; omega, fun e => by have e : b = w.heap.size + 1 := e; omega⟩)⟩
      · exact ((o1.keep kz (fun b hb e => by have := (k1 b hb).1; have e : b = w.heap.size + 1 := e; omega)).out).mono (by omega)
      · exact ((o2.keep kz (fun b hb e => by have := (k2 b hb).1; have e : b = w.heap.size + 1 := e; omega)).out).mono (by omega)
theorem c_l02Inverse (v0 u0 : Value) (A B : List (List Int)) (w : World) (hA : Sol w v0 u0 A B) (hs : isSol A B = true) (hp : isPM A B = true) :
    Calls Try.prog 104 #[.agg #[v0, u0]] w (RSolR w (ivA A B A.length) (ivB A B A.length)) := c_l02InverseC v0 u0 A B w hA (isSol_coll hs) hp
end Go.Proofs.Ytgmhnjccgldddaa

namespace Go.Proofs.Ytgmhnjccgldddaa
set_option linter.unusedVariables false
set_option linter.unusedSimpArgs false

theorem isPM_mk {A B : List (List Int)} (h1 : isTab A = true) (h2 : isTab B = true) (h3 : A.length = B.length) : isPM A B = true := by simp [isPM, h1, h2, h3]
theorem isPM_tabOf {n : Nat} {g h : Int → Int → Int} (h1 : 1 ≤ n) (h2 : n ≤ 12) (hg : ∀ x y : Int, 0 ≤ x → x < n → 0 ≤ y → y < n → 0 ≤ g x y ∧ g x y < n) (hh : ∀ x y : Int, 0 ≤ x → x < n → 0 ≤ y → y < n → 0 ≤ h x y ∧ h x y < n) : isPM (tabOf n g) (tabOf n h) = true :=
  isPM_mk (isTab_tabOf h1 h2 fun x y hx hy => hg x y (by omega) (by omega) (by omega) (by omega)) (isTab_tabOf h1 h2 fun x y hx hy => hh x y (by omega) (by omega) (by omega) (by omega)) (by simp)

theorem pg_pm {n : Nat} (h1 : 1 ≤ n) (h2 : n ≤ 12) : isPM (pgA n) (pgB n) = true := by
  unfold pgA pgB
  refine isPM_tabOf h1 h2 (fun x y _ _ _ _ => ⟨Int.emod_nonneg _ (by omega), Int.emod_lt_of_pos _ (by omega)⟩) (fun x y a b _ _ => ⟨a, b⟩)
@[simp] theorem pgA_length (n : Nat) : (pgA n).length = n := by simp [pgA]
theorem pg_coll {n : Nat} (h1 : 1 ≤ n) (h2 : n ≤ 12) : collL (pgA n) (pgB n) = [] := by
  unfold collL
  refine quad_none (find2_none fun a ha b hb => ?_)
  rw [pgA_length] at ha hb ⊢
  unfold colP
  have a1 := div_lt_sq ha; have a2 := Nat.mod_lt a (show 0 < n by omega)
  have b1 := div_lt_sq hb; have b2 := Nat.mod_lt b (show 0 < n by omega)
  have g1 := Nat.div_add_mod a n
  have g2 := Nat.div_add_mod b n
  generalize a / n = x1 at a1 g1 ⊢
  generalize a % n = y1 at a2 g1 ⊢
  generalize b / n = x2 at b1 g2 ⊢
  generalize b % n = y2 at b2 g2 ⊢
  unfold pgA pgB
  rw [val2_tabOf' (by omega) (by omega) (by omega) (by omega), val2_tabOf' (by omega) (by omega) (by omega) (by omega), val2_tabOf' (by omega) (by omega) (by omega) (by omega), val2_tabOf' (by omega) (by omega) (by omega) (by omega)]
  by_cases e2 : (x1 : Int) = x2
  · by_cases e1 : (2 * (x1 : Int) - y1 + n) % n = (2 * (x2 : Int) - y2 + n) % n
    · have hx : x1 = x2 := by omega
      subst hx
      have hd := Int.emod_emod_of_dvd (2 * (x1 : Int) - y1 + n) (Int.dvd_refl (n : Int))
      have h3 : ((2 * (x1 : Int) - y1 + n) - (2 * (x1 : Int) - y2 + n)) % n = 0 := by rw [Int.sub_emod, e1]; simp
      have h4 : (n : Int) ∣ ((y2 : Int) - y1) := by
        have := Int.dvd_of_emod_eq_zero h3
        rwa [show (2 * (x1 : Int) - y1 + n) - (2 * (x1 : Int) - y2 + n) = y2 - y1 by omega] at this
      obtain ⟨c, hc⟩ := h4
      have hy : y1 = y2 := by
        rcases Int.lt_trichotomy c 0 with h | h | h
        · have : (n : Int) * c ≤ n * (-1) := Int.mul_le_mul_of_nonneg_left (by omega) (by omega)
          omega
        · subst h; omega
        · have : (n : Int) * 1 ≤ n * c := Int.mul_le_mul_of_nonneg_left (by omega) (by omega)
          omega
      have : a = b := by rw [← g1, ← g2, hy]
      simp [this]
    · have e3 : ¬ (2 * (x1 : Int) - y1) % n = (2 * (x2 : Int) - y2) % n := by simpa using e1
      simp [e3]
  · simp [e2]

theorem pr_pm {A B C D : List (List Int)} (h1 : isPM A B = true) (h2 : isPM C D = true) (hs : A.length * C.length ≤ 12) : isPM (prT A C) (prT B D) = true := by
  obtain ⟨a1, a2, a3⟩ := isPM_parts h1
  obtain ⟨c1, c2, c3⟩ := isPM_parts h2
  have l1 := (isTab_len a1).1; have l2 := (isTab_len c1).1
  have hmul : 1 ≤ A.length * C.length := Nat.mul_pos l1 l2
  have key : ∀ (X Y : List (List Int)), isTab X = true → isTab Y = true → X.length = A.length → Y.length = C.length → isTab (prT X Y) = true := by
    intro X Y hX hY e1 e2
    unfold prT
    rw [e1, e2]
    refine isTab_tabOf hmul hs fun x y hx hy => ?_
    obtain ⟨d1, d2, d3, d4⟩ := divI2 hx l2
    obtain ⟨d5, d6, d7, d8⟩ := divI2 hy l2
    have v1 := val2_lt hX d1 (by rw [e1]; exact d2) d5 (by rw [e1]; exact d6)
    have v2 := val2_lt hY d3 (by rw [e2]; exact d4) d7 (by rw [e2]; exact d8)
    rw [e1] at v1; rw [e2] at v2
    have := pairI v1.1 v1.2 v2.1 v2.2
    push_cast
    exact this
  exact isPM_mk (key A C a1 c1 rfl rfl) (key B D a2 c2 a3.symm c3.symm) (by simp [prT, a3, c3])
@[simp] theorem prT_length (A C : List (List Int)) : (prT A C).length = A.length * C.length := by simp [prT]

theorem un_pm {A B C D : List (List Int)} (h1 : isPM A B = true) (h2 : isPM C D = true) (hs : A.length + C.length ≤ 12) : isPM (unTA A C) (unTB B D) = true := by
  obtain ⟨a1, a2, a3⟩ := isPM_parts h1
  obtain ⟨c1, c2, c3⟩ := isPM_parts h2
  have l1 := (isTab_len a1).1; have l2 := (isTab_len c1).1
  have key : ∀ (X Y : List (List Int)) (z : Int → Int → Int), isTab X = true → isTab Y = true → X.length = A.length → Y.length = C.length → (∀ x y : Int, 0 ≤ x → x < ((A.length + C.length : Nat) : Int) → 0 ≤ y → y < ((A.length + C.length : Nat) : Int) → 0 ≤ z x y ∧ z x y < ((A.length + C.length : Nat) : Int)) → isTab (tabOf (A.length + C.length) (unG X Y z)) = true := by
    intro X Y z hX hY e1 e2 hz
    refine isTab_tabOf (by omega) hs fun x y hx hy => ?_
    unfold unG
    rw [e1]
    by_cases g1 : (x : Int) < A.length ∧ (y : Int) < A.length
    · rw [if_pos g1]
      have v1 := val2_lt hX (x := x) (y := y) (by omega) (by rw [e1]; exact g1.1) (by omega) (by rw [e1]; exact g1.2)
      rw [e1] at v1; omega
    · rw [if_neg g1]
      by_cases g2 : (A.length : Int) ≤ x ∧ (A.length : Int) ≤ y
      · rw [if_pos g2]
        have v1 := val2_lt hY (x := (x : Int) - A.length) (y := (y : Int) - A.length) (by omega) (by omega) (by omega) (by omega)
        omega
      · rw [if_neg g2]
        exact hz x y (by omega) (by omega) (by omega) (by omega)
  refine isPM_mk (key A C _ a1 c1 rfl rfl fun x y _ _ h1 h2 => ⟨h1, h2⟩) ?_ (by simp [unTA, unTB, a3, c3])
  unfold unTB
  rw [← a3, ← c3]
  exact key B D _ a2 c2 a3.symm c3.symm fun x y h1 h2 _ _ => ⟨h1, h2⟩
@[simp] theorem unTA_length (A C : List (List Int)) : (unTA A C).length = A.length + C.length := by simp [unTA]

theorem iv_pm {A B : List (List Int)} (hp : isPM A B = true) (hc : collL A B = []) : isPM (ivA A B A.length) (ivB A B A.length) = true := by
  have hP := pmL_perm hp hc
  have hl := isTab_len (isPM_parts hp).1
  unfold ivA ivB
  refine isPM_tabOf hl.1 hl.2 (fun x y a b c d => ?_) (fun x y a b c d => ?_)
  · obtain ⟨h0, h1, -⟩ := iv_range hP a b c d
    have := divI (k := (nth (invL (pmL A B A.length)) (x * A.length + y)).toNat) (n := A.length) (by omega) hl.1
    rw [show (((nth (invL (pmL A B A.length)) (x * A.length + y)).toNat : Nat) : Int) = nth (invL (pmL A B A.length)) (x * A.length + y) by omega] at this
    exact ⟨this.1, this.2.1⟩
  · obtain ⟨h0, h1, -⟩ := iv_range hP a b c d
    have := divI (k := (nth (invL (pmL A B A.length)) (x * A.length + y)).toNat) (n := A.length) (by omega) hl.1
    rw [show (((nth (invL (pmL A B A.length)) (x * A.length + y)).toNat : Nat) : Int) = nth (invL (pmL A B A.length)) (x * A.length + y) by omega] at this
    exact ⟨this.2.2.1, this.2.2.2⟩
@[simp] theorem ivA_length (A B : List (List Int)) (n : Nat) : (ivA A B n).length = n := by simp [ivA]

theorem ren_pm {A B : List (List Int)} {p : List Int} (hp : isPM A B = true) (hq : Permuted p) (hl : p.length = A.length) : isPM (renL A p) (renL B p) = true := by
  obtain ⟨a1, a2, a3⟩ := isPM_parts hp
  exact isPM_mk (isTab_renL ⟨a1, hq, hl⟩) (isTab_renL ⟨a2, hq, hl.trans a3⟩) (by rw [renL_length, renL_length]; exact a3)

def nv4 : List (List Int) := [[0, 1, 3, 2], [0, 1, 3, 2], [1, 0, 2, 3], [1, 0, 2, 3]]
def nv3 : List (List Int) := [[0, 1, 2], [0, 1, 2], [1, 0, 2]]
theorem nv4_pm : isTab nv4 = true ∧ isPM nv4 (nvB nv4) = true := by decide +kernel
theorem nv3_pm : isTab nv3 = true ∧ isPM nv3 (nvB nv3) = true := by decide +kernel
end Go.Proofs.Ytgmhnjccgldddaa

namespace Go.Proofs.Ytgmhnjccgldddaa
set_option linter.unusedVariables false
set_option linter.unusedSimpArgs false
open Go Go.RowKit

/-- What a draw of a pair map leaves. -/
def RDraw (b most : Nat) (w : World) (e : Ending) (w' : World) : Prop :=
  ∃ (r1 r2 : Value) (A B : List (List Int)), e = .returned (.agg #[r1, r2]) ∧ SolAt w.heap.size w' r1 r2 A B ∧ isPM A B = true ∧ A.length ≤ most ∧ Drew b w w'
theorem any_end {b most lo : Nat} {w w9 : World} {r1 r2 : Value} {A B : List (List Int)} (hsa : SolAt lo w9 r1 r2 A B) (hlo : w.heap.size < lo) (hbl : b < w.heap.size) (hp : isPM A B = true) (hl : A.length ≤ most) (hd : Drew b w w9) :
    RDraw b most w (.returned (.agg #[r1, r2])) ((w9.setCell ⟨w.heap.size, 0, none⟩ r1).setCell ⟨w.heap.size, 1, none⟩ r2) := by
  have kz : Keep (fun x => x = w.heap.size) w9 ((w9.setCell ⟨w.heap.size, 0, none⟩ r1).setCell ⟨w.heap.size, 1, none⟩ r2) := keep_early _ _ _ _
  exact ⟨_, _, A, B, rfl, ⟨(hsa.1.keep kz (fun x hx e => by have e : x = w.heap.size := e; omega)).mono (by omega), (hsa.2.keep kz (fun x hx e => by have e : x = w.heap.size := e; omega)).mono (by omega)⟩, hp, hl,
    drew_set (drew_set hd (p := ⟨w.heap.size, 0, none⟩) (Nat.le_refl _) hbl _) (p := ⟨w.heap.size, 1, none⟩) (Nat.le_refl _) hbl _⟩
theorem SolAt.any {lo : Nat} {w : World} {v1 v2 : Value} {A B : List (List Int)} (h : SolAt lo w v1 v2 A B) : ∃ a1 l1 c1 a2 l2 c2, v1 = .slice a1 l1 c1 ∧ v2 = .slice a2 l2 c2 := by
  obtain ⟨a1, l1, c1, e1⟩ := h.sol.1.any
  obtain ⟨a2, l2, c2, e2⟩ := h.sol.2.any
  exact ⟨a1, l1, c1, a2, l2, c2, e1, e2⟩
theorem SolAt.under {lo : Nat} {w1 w2 : World} {v1 v2 : Value} {A B : List (List Int)} (h : SolAt lo w1 v1 v2 A B) (hb : Below w1.heap.size w1 w2) : SolAt lo w2 v1 v2 A B := by
  exact ⟨h.1.under hb, h.2.under hb⟩

theorem hsz_alloc (w : World) (o : Obj) : (w.alloc o).heap.size = w.heap.size + 1 := by simp
theorem ints_blk {w : World} {g : Nat} (xs : List Int) (hg : Blk w g 2 (xs.map (Value.int .i64))) (hm : xs.length ≤ maxLen) : Ints w (.slice (some ⟨g, 0, none⟩) xs.length xs.length) xs :=
  ⟨_, _, rfl, Nat.le_refl _, hm, fun i hi => ⟨g, 0, rfl, by
    have := hg.cell (i := i) (by simpa using hi)
    rw [Nat.zero_add, this]; simp⟩⟩
theorem rows_blk {w : World} {g : Nat} (vs : List Value) (X : List (List Int)) (hg : Blk w g 26 vs) (hl : vs.length = X.length) (hm : X.length ≤ maxLen) (h : ∀ i (h1 : i < vs.length) (h2 : i < X.length), Ints w vs[i] X[i]) : Rows w (.slice (some ⟨g, 0, none⟩) X.length X.length) X :=
  ⟨_, _, rfl, Nat.le_refl _, hm, fun i hi => ⟨g, 0, vs[i], rfl, by
    have := hg.cell (i := i) (by omega)
    rw [Nat.zero_add, this], h i (by omega) hi⟩⟩
theorem nv4_rows (w : World) (W : World) (hW : W = (((((w.alloc (.cells #[.int .i64 0, .int .i64 1, .int .i64 3, .int .i64 2] 2)).alloc (.cells #[.int .i64 0, .int .i64 1, .int .i64 3, .int .i64 2] 2)).alloc (.cells #[.int .i64 1, .int .i64 0, .int .i64 2, .int .i64 3] 2)).alloc (.cells #[.int .i64 1, .int .i64 0, .int .i64 2, .int .i64 3] 2)).alloc (.cells #[.slice (some ⟨w.heap.size, 0, none⟩) 4 4, .slice (some ⟨w.heap.size + 1, 0, none⟩) 4 4, .slice (some ⟨w.heap.size + 1 + 1, 0, none⟩) 4 4, .slice (some ⟨w.heap.size + 1 + 1 + 1, 0, none⟩) 4 4] 26))) :
    Rows W (.slice (some ⟨w.heap.size + 1 + 1 + 1 + 1, 0, none⟩) 4 4) nv4 ∧ Below w.heap.size w W := by
  subst hW
  have hb1 := (Blk.new w [.int .i64 0, .int .i64 1, .int .i64 3, .int .i64 2] 2)
  have hb2 := (Blk.new (w.alloc (.cells [.int .i64 0, .int .i64 1, .int .i64 3, .int .i64 2].toArray 2)) [.int .i64 0, .int .i64 1, .int .i64 3, .int .i64 2] 2)
  have hb3 := (Blk.new ((w.alloc (.cells [.int .i64 0, .int .i64 1, .int .i64 3, .int .i64 2].toArray 2)).alloc (.cells [.int .i64 0, .int .i64 1, .int .i64 3, .int .i64 2].toArray 2)) [.int .i64 1, .int .i64 0, .int .i64 2, .int .i64 3] 2)
  have hb4 := (Blk.new (((w.alloc (.cells [.int .i64 0, .int .i64 1, .int .i64 3, .int .i64 2].toArray 2)).alloc (.cells [.int .i64 0, .int .i64 1, .int .i64 3, .int .i64 2].toArray 2)).alloc (.cells [.int .i64 1, .int .i64 0, .int .i64 2, .int .i64 3].toArray 2)) [.int .i64 1, .int .i64 0, .int .i64 2, .int .i64 3] 2)
  have hb5 := (Blk.new ((((w.alloc (.cells [.int .i64 0, .int .i64 1, .int .i64 3, .int .i64 2].toArray 2)).alloc (.cells [.int .i64 0, .int .i64 1, .int .i64 3, .int .i64 2].toArray 2)).alloc (.cells [.int .i64 1, .int .i64 0, .int .i64 2, .int .i64 3].toArray 2)).alloc (.cells [.int .i64 1, .int .i64 0, .int .i64 2, .int .i64 3].toArray 2)) [.slice (some ⟨w.heap.size, 0, none⟩) 4 4, .slice (some ⟨w.heap.size + 1, 0, none⟩) 4 4, .slice (some ⟨w.heap.size + 1 + 1, 0, none⟩) 4 4, .slice (some ⟨w.heap.size + 1 + 1 + 1, 0, none⟩) 4 4] 26)
  simp only [hsz_alloc] at hb2 hb3 hb4 hb5
  refine ⟨rows_blk _ nv4 hb5 rfl (by decide) fun i h1 h2 => ?_, (((((Below.refl w.heap.size w).alloc (Nat.le_refl _) _).alloc (by simp) _).alloc (by simp; omega) _).alloc (by simp; omega) _).alloc (by simp; omega) _⟩
  match i, h1, h2 with
  | 0, _, _ => exact ints_blk [0, 1, 3, 2] ((((hb1.alloc _).alloc _).alloc _).alloc _) (by decide)
  | 1, _, _ => exact ints_blk [0, 1, 3, 2] (((hb2.alloc _).alloc _).alloc _) (by decide)
  | 2, _, _ => exact ints_blk [1, 0, 2, 3] ((hb3.alloc _).alloc _) (by decide)
  | 3, _, _ => exact ints_blk [1, 0, 2, 3] (hb4.alloc _) (by decide)
theorem nv3_rows (w : World) (W : World) (hW : W = ((((w.alloc (.cells #[.int .i64 0, .int .i64 1, .int .i64 2] 2)).alloc (.cells #[.int .i64 0, .int .i64 1, .int .i64 2] 2)).alloc (.cells #[.int .i64 1, .int .i64 0, .int .i64 2] 2)).alloc (.cells #[.slice (some ⟨w.heap.size, 0, none⟩) 3 3, .slice (some ⟨w.heap.size + 1, 0, none⟩) 3 3, .slice (some ⟨w.heap.size + 1 + 1, 0, none⟩) 3 3] 26))) :
    Rows W (.slice (some ⟨w.heap.size + 1 + 1 + 1, 0, none⟩) 3 3) nv3 ∧ Below w.heap.size w W := by
  subst hW
  have hb1 := (Blk.new w [.int .i64 0, .int .i64 1, .int .i64 2] 2)
  have hb2 := (Blk.new (w.alloc (.cells [.int .i64 0, .int .i64 1, .int .i64 2].toArray 2)) [.int .i64 0, .int .i64 1, .int .i64 2] 2)
  have hb3 := (Blk.new ((w.alloc (.cells [.int .i64 0, .int .i64 1, .int .i64 2].toArray 2)).alloc (.cells [.int .i64 0, .int .i64 1, .int .i64 2].toArray 2)) [.int .i64 1, .int .i64 0, .int .i64 2] 2)
  have hb5 := (Blk.new (((w.alloc (.cells [.int .i64 0, .int .i64 1, .int .i64 2].toArray 2)).alloc (.cells [.int .i64 0, .int .i64 1, .int .i64 2].toArray 2)).alloc (.cells [.int .i64 1, .int .i64 0, .int .i64 2].toArray 2)) [.slice (some ⟨w.heap.size, 0, none⟩) 3 3, .slice (some ⟨w.heap.size + 1, 0, none⟩) 3 3, .slice (some ⟨w.heap.size + 1 + 1, 0, none⟩) 3 3] 26)
  simp only [hsz_alloc] at hb2 hb3 hb5
  refine ⟨rows_blk _ nv3 hb5 rfl (by decide) fun i h1 h2 => ?_, ((((Below.refl w.heap.size w).alloc (Nat.le_refl _) _).alloc (by simp) _).alloc (by simp; omega) _).alloc (by simp; omega) _⟩
  match i, h1, h2 with
  | 0, _, _ => exact ints_blk [0, 1, 2] (((hb1.alloc _).alloc _).alloc _) (by decide)
  | 1, _, _ => exact ints_blk [0, 1, 2] ((hb2.alloc _).alloc _) (by decide)
  | 2, _, _ => exact ints_blk [1, 0, 2] (hb3.alloc _) (by decide)

set_option maxRecDepth 100000 in
set_option maxHeartbeats 4000000 in
theorem c_l02Any (b : Nat) : ∀ (most : Nat) (w : World), Src w b → 1 ≤ most → most ≤ 12 → Calls Try.prog 79 #[.pointer (some ⟨b, 0, none⟩), .int .i64 most] w (RDraw b most w) := by
  intro most
  induction most using Nat.strongRecOn with
  | _ most ih =>
  intro w hs h1 h2
  have HIH := Lib.hid ih
  have HS := Lib.hid hs; have hbl := hs.lt; clear hs ih
  have HF0 : Hid (Blk (w.alloc (.cells #[.slice none 0 0, .slice none 0 0] 29)) w.heap.size 29 [.slice none 0 0, .slice none 0 0]) := Lib.hid (Blk.new w [.slice none 0 0, .slice none 0 0] 29)
  have HB0 : Hid (Below w.heap.size w (w.alloc (.cells #[.slice none 0 0, .slice none 0 0] 29))) := Lib.hid ((Below.refl _ _).alloc (Nat.le_refl _) _)
  go_enter Try.func79, Try.ntmps79
  have HS0 := Lib.hid (HS.out.under HB0.out)
  have HD0 := Lib.hid ((Drew.refl HS.out).under HB0.out)
  go_wp2_with fail
  refine (c_l01Next b most _ HS0.out (by omega) (by omega)).mono ?_; rintro e w1 ⟨t, rfl, t0, t1, hd1⟩
  obtain ⟨m, rfl⟩ : ∃ m : Nat, t = m := ⟨t.toNat, by omega⟩
  have hm : m < most := by omega
  have HF1 := Lib.hid (hd1.blk HF0.out (by omega)); have HD1 := Lib.hid (HD0.out.trans hd1)
  clear hd1 HF0 HD0 t0 t1
  go_wp2_with fail
  refine (c_l01Next b 8 _ HD1.out.1 (by omega) (by omega)).mono ?_; rintro e w2 ⟨kd, rfl, k0, k8, hd2⟩
  have HF2 := Lib.hid (hd2.blk HF1.out (by omega)); have HD2 := Lib.hid (HD1.out.trans hd2)
  clear hd2 HF1 HD1
  have HS2 := Lib.hid (show w.heap.size < w2.heap.size from HF2.out.lt)
  obtain ⟨n, hn⟩ : ∃ n : Nat, n = m + 1 := ⟨_, rfl⟩
  have hnI : 1 + (m : Int) = n := by omega
  have hn1 : 1 ≤ n := by omega
  have hnm : n ≤ most := by omega
  clear hn hm

  by_cases e0 : kd = 0
  · subst e0
    go_wp2_with fail
    refine (c_l02Flip n _ (by omega)).mono ?_; rintro e w9 hz
    obtain ⟨r8, r9, he, hsa, hb9⟩ := rsolR_at hz
    subst he
    obtain ⟨sa1, sl1, sc1, sa2, sl2, sc2, hv1, hv2⟩ := hsa.any
    subst hv1 hv2
    have hf := HF2.out.under hb9
    obtain ⟨z0, z1, z2, z3⟩ := two_cells hf
    have HSA := Lib.hid hsa; have HD9 := Lib.hid (HD2.out.under hb9); have HLT := HF2.out.lt
    have HPM := Lib.hid (tw_pm (permuted_iota n) (permuted_iota n) rfl (by simpa using hn1) (by simp; omega)); have HLN := Lib.hid (show (twA (iota n)).length ≤ most by simp [twA]; omega)
    clear hsa hf
    go_wp2
    exact bodyPost_ret (v := .agg #[.slice sa1 sl1 sc1, .slice sa2 sl2 sc2]) (by simp [results, Try.results79, go_sem, z0, z1]) rfl (any_end HSA.out HLT hbl HPM.out HLN.out HD9.out)
  have y0 : (kd == 0) = false := by simp [e0]
  by_cases e1 : kd = 1
  · subst e1
    go_wp2_with fail
    refine (c_l02Polygon n _ hn1 (by omega)).mono ?_; rintro e w9 hz
    obtain ⟨r8, r9, he, hsa, hb9⟩ := rsolR_at hz
    subst he
    obtain ⟨sa1, sl1, sc1, sa2, sl2, sc2, hv1, hv2⟩ := hsa.any
    subst hv1 hv2
    have hf := HF2.out.under hb9
    obtain ⟨z0, z1, z2, z3⟩ := two_cells hf
    have HSA := Lib.hid hsa; have HD9 := Lib.hid (HD2.out.under hb9); have HLT := HF2.out.lt
    have HPM := Lib.hid (pg_pm hn1 (by omega)); have HLN := Lib.hid (show (pgA n).length ≤ most by simp; omega)
    clear hsa hf
    go_wp2
    exact bodyPost_ret (v := .agg #[.slice sa1 sl1 sc1, .slice sa2 sl2 sc2]) (by simp [results, Try.results79, go_sem, z0, z1]) rfl (any_end HSA.out HLT hbl HPM.out HLN.out HD9.out)
  have y1 : (kd == 1) = false := by simp [e1]
  by_cases e2 : kd = 2
  · subst e2
    by_cases h4 : 4 ≤ n
    · have h4I : (4 : Int) ≤ n := by omega
      by_cases hev : n % 2 = 0
      · obtain ⟨k, hk⟩ : ∃ k : Nat, k = n / 2 := ⟨_, rfl⟩
        have u1 : Int.tmod (n : Int) 2 = 0 := by rw [Int.tmod_eq_emod_of_nonneg (by omega)]; omega
        have u2 : IntKind.i64.wrap ((n : Int) / 2) = k := by rw [IntKind.wrap_i64]; omega
        have hk2 : 2 ≤ k ∧ k ≤ 6 ∧ k * 2 ≤ most := by omega
        clear hk hev
        go_wp2_with fail
        refine (c_l02Twisted b k _ HD2.out.1 (by omega) (by omega)).mono ?_; rintro e w3 ⟨r3, r4, XA, XB, rfl, hsa3, hpm3, hln3, hd3⟩
        have HF3 := Lib.hid (hd3.blk HF2.out (by omega)); have HD3 := Lib.hid (HD2.out.trans hd3); have HSA3 := Lib.hid hsa3; have HP3 := Lib.hid (And.intro hpm3 hln3)
        have hbw2 := HD2.out.2.size
        clear hd3 hsa3 hpm3 hln3
        go_wp2_with fail
        refine (c_l02Twisted b 2 _ HD3.out.1 (by omega) (by omega)).mono ?_; rintro e w4 ⟨r5, r6, YA, YB, rfl, hsa4, hpm4, hln4, hd4⟩
        have HF4 := Lib.hid (hd4.blk HF3.out (by omega)); have HD4 := Lib.hid (HD3.out.trans hd4); have HSA4 := Lib.hid hsa4; have HP4 := Lib.hid (And.intro hpm4 hln4)
        have HSA3' := Lib.hid (HSA3.out.drew hd4 (by omega))
        clear hd4 hsa4 hpm4 hln4
        go_wp2_with fail
        refine (c_l02Product _ _ XA XB _ _ YA YB _ HSA3'.out.sol HSA4.out.sol HP3.out.1 HP4.out.1 (by rw [HP3.out.2, HP4.out.2]; omega)).mono ?_; rintro e w9 hz
        obtain ⟨r8, r9, he, hsa, hb9⟩ := rsolR_at hz
        subst he
        obtain ⟨sa1, sl1, sc1, sa2, sl2, sc2, hv1, hv2⟩ := hsa.any
        subst hv1 hv2
        have hf := HF4.out.under hb9
        obtain ⟨z0, z1, z2, z3⟩ := two_cells hf
        have HSA := Lib.hid hsa; have HD9 := Lib.hid (HD4.out.under hb9); have HLT := HF4.out.lt
        have HPM := Lib.hid (pr_pm HP3.out.1 HP4.out.1 (by rw [HP3.out.2, HP4.out.2]; omega)); have HLN := Lib.hid (show (prT XA YA).length ≤ most by rw [prT_length, HP3.out.2, HP4.out.2]; omega)
        clear hsa hf
        go_wp2
        exact bodyPost_ret (v := .agg #[.slice sa1 sl1 sc1, .slice sa2 sl2 sc2]) (by simp [results, Try.results79, go_sem, z0, z1]) rfl (any_end HSA.out HLT hbl HPM.out HLN.out HD9.out)
      · have u1 : ¬ Int.tmod (n : Int) 2 = 0 := by rw [Int.tmod_eq_emod_of_nonneg (by omega)]; omega
        go_wp2_with fail
        refine (c_l02Twisted b n _ HD2.out.1 hn1 (by omega)).mono ?_; rintro e w9 ⟨r8, r9, XA, XB, rfl, hsa, hpm, hln, hd9⟩
        obtain ⟨sa1, sl1, sc1, sa2, sl2, sc2, hv1, hv2⟩ := hsa.any
        subst hv1 hv2
        have hf := hd9.blk HF2.out (by omega)
        obtain ⟨z0, z1, z2, z3⟩ := two_cells hf
        have HSA := Lib.hid hsa; have HD9 := Lib.hid (HD2.out.trans hd9); have HLT := HF2.out.lt
        have HPM := Lib.hid (hpm); have HLN := Lib.hid (show XA.length ≤ most by omega)
        clear hsa hf
        go_wp2
        exact bodyPost_ret (v := .agg #[.slice sa1 sl1 sc1, .slice sa2 sl2 sc2]) (by simp [results, Try.results79, go_sem, z0, z1]) rfl (any_end HSA.out HLT hbl HPM.out HLN.out HD9.out)
    · have h4I : ¬ ((4 : Int) ≤ n) := by omega
      go_wp2_with fail
      refine (c_l02Twisted b n _ HD2.out.1 hn1 (by omega)).mono ?_; rintro e w9 ⟨r8, r9, XA, XB, rfl, hsa, hpm, hln, hd9⟩
      obtain ⟨sa1, sl1, sc1, sa2, sl2, sc2, hv1, hv2⟩ := hsa.any
      subst hv1 hv2
      have hf := hd9.blk HF2.out (by omega)
      obtain ⟨z0, z1, z2, z3⟩ := two_cells hf
      have HSA := Lib.hid hsa; have HD9 := Lib.hid (HD2.out.trans hd9); have HLT := HF2.out.lt
      have HPM := Lib.hid (hpm); have HLN := Lib.hid (show XA.length ≤ most by omega)
      clear hsa hf
      go_wp2
      exact bodyPost_ret (v := .agg #[.slice sa1 sl1 sc1, .slice sa2 sl2 sc2]) (by simp [results, Try.results79, go_sem, z0, z1]) rfl (any_end HSA.out HLT hbl HPM.out HLN.out HD9.out)
  have y2 : (kd == 2) = false := by simp [e2]
  by_cases e3 : kd = 3
  · subst e3
    by_cases hn2 : 2 ≤ n
    · have hn2I : (2 : Int) ≤ n := by omega
      go_wp2_with fail
      refine (c_l01Next b ((n : Int) - 1) _ HD2.out.1 (by omega) (by omega)).mono ?_; rintro e w3 ⟨t, rfl, t0, t1, hd3⟩
      obtain ⟨q, hq⟩ : ∃ q : Nat, q = t.toNat + 1 := ⟨_, rfl⟩
      have hqI : 1 + t = q := by omega
      have hq1 : 1 ≤ q ∧ q < n := by omega
      have hqr : (n : Int) - q = (n - q : Nat) := by omega
      have HF3 := Lib.hid (hd3.blk HF2.out (by omega)); have HD3 := Lib.hid (HD2.out.trans hd3)
      have hbw2 := HD3.out.2.size
      clear hd3 hq
      go_wp2_with fail
      refine (HIH.out q (by omega) _ HD3.out.1 (by omega) (by omega)).mono ?_; rintro e w4 ⟨r3, r4, XA, XB, rfl, hsa3, hpm3, hln3, hd4⟩
      have HF4 := Lib.hid (hd4.blk HF3.out (by omega)); have HD4 := Lib.hid (HD3.out.trans hd4); have HSA3 := Lib.hid hsa3; have HP3 := Lib.hid (And.intro hpm3 hln3)
      clear hd4 hsa3 hpm3 hln3
      go_wp2_with fail
      refine (c_l02Twisted b (n - q) _ HD4.out.1 (by omega) (by omega)).mono ?_; rintro e w5 ⟨r5, r6, YA, YB, rfl, hsa4, hpm4, hln4, hd5⟩
      have HF5 := Lib.hid (hd5.blk HF4.out (by omega)); have HD5 := Lib.hid (HD4.out.trans hd5); have HSA4 := Lib.hid hsa4; have HP4 := Lib.hid (And.intro hpm4 hln4)
      have HSA3' := Lib.hid (HSA3.out.drew hd5 (by omega))
      clear hd5 hsa4 hpm4 hln4
      have hsz : XA.length + YA.length ≤ most := by have := HP3.out.2; have := HP4.out.2; omega
      go_wp2_with fail
      refine (c_l02Union _ _ XA XB _ _ YA YB _ HSA3'.out.sol HSA4.out.sol HP3.out.1 HP4.out.1 (by omega)).mono ?_; rintro e w9 hz
      obtain ⟨r8, r9, he, hsa, hb9⟩ := rsolR_at hz
      subst he
      obtain ⟨sa1, sl1, sc1, sa2, sl2, sc2, hv1, hv2⟩ := hsa.any
      subst hv1 hv2
      have hf := HF5.out.under hb9
      obtain ⟨z0, z1, z2, z3⟩ := two_cells hf
      have HSA := Lib.hid hsa; have HD9 := Lib.hid (HD5.out.under hb9); have HLT := HF5.out.lt
      have HPM := Lib.hid (un_pm HP3.out.1 HP4.out.1 (by omega)); have HLN := Lib.hid (show (unTA XA YA).length ≤ most by rw [unTA_length]; omega)
      clear hsa hf
      go_wp2
      exact bodyPost_ret (v := .agg #[.slice sa1 sl1 sc1, .slice sa2 sl2 sc2]) (by simp [results, Try.results79, go_sem, z0, z1]) rfl (any_end HSA.out HLT hbl HPM.out HLN.out HD9.out)
    · have hn2I : ¬ ((2 : Int) ≤ n) := by omega
      go_wp2_with fail
      refine (c_l02Twisted b n _ HD2.out.1 hn1 (by omega)).mono ?_; rintro e w9 ⟨r8, r9, XA, XB, rfl, hsa, hpm, hln, hd9⟩
      obtain ⟨sa1, sl1, sc1, sa2, sl2, sc2, hv1, hv2⟩ := hsa.any
      subst hv1 hv2
      have hf := hd9.blk HF2.out (by omega)
      obtain ⟨z0, z1, z2, z3⟩ := two_cells hf
      have HSA := Lib.hid hsa; have HD9 := Lib.hid (HD2.out.trans hd9); have HLT := HF2.out.lt
      have HPM := Lib.hid (hpm); have HLN := Lib.hid (show XA.length ≤ most by omega)
      clear hsa hf
      go_wp2
      exact bodyPost_ret (v := .agg #[.slice sa1 sl1 sc1, .slice sa2 sl2 sc2]) (by simp [results, Try.results79, go_sem, z0, z1]) rfl (any_end HSA.out HLT hbl HPM.out HLN.out HD9.out)
  have y3 : (kd == 3) = false := by simp [e3]
  by_cases e4 : kd = 4
  · subst e4
    by_cases hm4 : 4 ≤ most
    · have hmI : (4 : Int) ≤ most := by omega
      go_wp2_with fail
      obtain ⟨W8, hW8⟩ : ∃ W, W = (((((w2.alloc (.cells #[.int .i64 0, .int .i64 1, .int .i64 3, .int .i64 2] 2)).alloc (.cells #[.int .i64 0, .int .i64 1, .int .i64 3, .int .i64 2] 2)).alloc (.cells #[.int .i64 1, .int .i64 0, .int .i64 2, .int .i64 3] 2)).alloc (.cells #[.int .i64 1, .int .i64 0, .int .i64 2, .int .i64 3] 2)).alloc (.cells #[.slice (some ⟨w2.heap.size, 0, none⟩) 4 4, .slice (some ⟨w2.heap.size + 1, 0, none⟩) 4 4, .slice (some ⟨w2.heap.size + 1 + 1, 0, none⟩) 4 4, .slice (some ⟨w2.heap.size + 1 + 1 + 1, 0, none⟩) 4 4] 26)) := ⟨_, rfl⟩
      obtain ⟨hr8, hb8⟩ := nv4_rows w2 W8 hW8
      rw [← hW8]
      have HF8 := Lib.hid (HF2.out.under hb8); have HD8 := Lib.hid (HD2.out.under hb8); have HR8 := Lib.hid hr8
      clear hr8 hb8 hW8
      refine (c_l02Involutive _ nv4 _ HR8.out nv4_pm.1).mono ?_; rintro e w9 hz
      obtain ⟨r8, r9, he, hsa, hb9⟩ := rsolR_at hz
      subst he
      obtain ⟨sa1, sl1, sc1, sa2, sl2, sc2, hv1, hv2⟩ := hsa.any
      subst hv1 hv2
      have hf := HF8.out.under hb9
      obtain ⟨z0, z1, z2, z3⟩ := two_cells hf
      have HSA := Lib.hid hsa; have HD9 := Lib.hid (HD8.out.under hb9); have HLT := HF8.out.lt
      have HPM := Lib.hid (nv4_pm.2); have HLN := Lib.hid (show nv4.length ≤ most by simp [nv4]; omega)
      clear hsa hf
      go_wp2
      exact bodyPost_ret (v := .agg #[.slice sa1 sl1 sc1, .slice sa2 sl2 sc2]) (by simp [results, Try.results79, go_sem, z0, z1]) rfl (any_end HSA.out HLT hbl HPM.out HLN.out HD9.out)
    · have hmI : ¬ ((4 : Int) ≤ most) := by omega
      go_wp2_with fail
      refine (c_l02Twisted b n _ HD2.out.1 hn1 (by omega)).mono ?_; rintro e w9 ⟨r8, r9, XA, XB, rfl, hsa, hpm, hln, hd9⟩
      obtain ⟨sa1, sl1, sc1, sa2, sl2, sc2, hv1, hv2⟩ := hsa.any
      subst hv1 hv2
      have hf := hd9.blk HF2.out (by omega)
      obtain ⟨z0, z1, z2, z3⟩ := two_cells hf
      have HSA := Lib.hid hsa; have HD9 := Lib.hid (HD2.out.trans hd9); have HLT := HF2.out.lt
      have HPM := Lib.hid (hpm); have HLN := Lib.hid (show XA.length ≤ most by omega)
      clear hsa hf
      go_wp2
      exact bodyPost_ret (v := .agg #[.slice sa1 sl1 sc1, .slice sa2 sl2 sc2]) (by simp [results, Try.results79, go_sem, z0, z1]) rfl (any_end HSA.out HLT hbl HPM.out HLN.out HD9.out)
  have y4 : (kd == 4) = false := by simp [e4]
  by_cases e5 : kd = 5
  · subst e5
    by_cases hn2 : 2 ≤ n
    · have hn2I : (2 : Int) ≤ n := by omega
      go_wp2_with fail
      refine (c_l02Polygon n _ hn1 (by omega)).mono ?_; rintro e w3 hz
      obtain ⟨r3, r4, he, hsa3, hb3⟩ := rsolR_at hz
      subst he
      have HF3 := Lib.hid (HF2.out.under hb3); have HD3 := Lib.hid (HD2.out.under hb3); have HSA3 := Lib.hid hsa3
      clear hz hsa3 hb3
      go_wp2_with fail
      refine (c_l02InverseC _ _ (pgA n) (pgB n) _ HSA3.out.sol (pg_coll hn1 (by omega)) (pg_pm hn1 (by omega))).mono ?_; rintro e w9 hz
      obtain ⟨r8, r9, he, hsa, hb9⟩ := rsolR_at hz
      subst he
      obtain ⟨sa1, sl1, sc1, sa2, sl2, sc2, hv1, hv2⟩ := hsa.any
      subst hv1 hv2
      have hf := HF3.out.under hb9
      obtain ⟨z0, z1, z2, z3⟩ := two_cells hf
      have HSA := Lib.hid hsa; have HD9 := Lib.hid (HD3.out.under hb9); have HLT := HF3.out.lt
      have HPM := Lib.hid (iv_pm (pg_pm hn1 (by omega)) (pg_coll hn1 (by omega))); have HLN := Lib.hid (show (ivA (pgA n) (pgB n) (pgA n).length).length ≤ most by simp; omega)
      clear hsa hf
      go_wp2
      exact bodyPost_ret (v := .agg #[.slice sa1 sl1 sc1, .slice sa2 sl2 sc2]) (by simp [results, Try.results79, go_sem, z0, z1]) rfl (any_end HSA.out HLT hbl HPM.out HLN.out HD9.out)
    · have hn2I : ¬ ((2 : Int) ≤ n) := by omega
      go_wp2_with fail
      refine (c_l02Twisted b n _ HD2.out.1 hn1 (by omega)).mono ?_; rintro e w9 ⟨r8, r9, XA, XB, rfl, hsa, hpm, hln, hd9⟩
      obtain ⟨sa1, sl1, sc1, sa2, sl2, sc2, hv1, hv2⟩ := hsa.any
      subst hv1 hv2
      have hf := hd9.blk HF2.out (by omega)
      obtain ⟨z0, z1, z2, z3⟩ := two_cells hf
      have HSA := Lib.hid hsa; have HD9 := Lib.hid (HD2.out.trans hd9); have HLT := HF2.out.lt
      have HPM := Lib.hid (hpm); have HLN := Lib.hid (show XA.length ≤ most by omega)
      clear hsa hf
      go_wp2
      exact bodyPost_ret (v := .agg #[.slice sa1 sl1 sc1, .slice sa2 sl2 sc2]) (by simp [results, Try.results79, go_sem, z0, z1]) rfl (any_end HSA.out HLT hbl HPM.out HLN.out HD9.out)
  have y5 : (kd == 5) = false := by simp [e5]
  by_cases e6 : kd = 6
  · subst e6
    by_cases hm3 : 3 ≤ most
    · have hmI : (3 : Int) ≤ most := by omega
      go_wp2_with fail
      obtain ⟨W8, hW8⟩ : ∃ W, W = ((((w2.alloc (.cells #[.int .i64 0, .int .i64 1, .int .i64 2] 2)).alloc (.cells #[.int .i64 0, .int .i64 1, .int .i64 2] 2)).alloc (.cells #[.int .i64 1, .int .i64 0, .int .i64 2] 2)).alloc (.cells #[.slice (some ⟨w2.heap.size, 0, none⟩) 3 3, .slice (some ⟨w2.heap.size + 1, 0, none⟩) 3 3, .slice (some ⟨w2.heap.size + 1 + 1, 0, none⟩) 3 3] 26)) := ⟨_, rfl⟩
      obtain ⟨hr8, hb8⟩ := nv3_rows w2 W8 hW8
      rw [← hW8]
      have HF8 := Lib.hid (HF2.out.under hb8); have HD8 := Lib.hid (HD2.out.under hb8); have HR8 := Lib.hid hr8
      clear hr8 hb8 hW8
      refine (c_l02Involutive _ nv3 _ HR8.out nv3_pm.1).mono ?_; rintro e w9 hz
      obtain ⟨r8, r9, he, hsa, hb9⟩ := rsolR_at hz
      subst he
      obtain ⟨sa1, sl1, sc1, sa2, sl2, sc2, hv1, hv2⟩ := hsa.any
      subst hv1 hv2
      have hf := HF8.out.under hb9
      obtain ⟨z0, z1, z2, z3⟩ := two_cells hf
      have HSA := Lib.hid hsa; have HD9 := Lib.hid (HD8.out.under hb9); have HLT := HF8.out.lt
      have HPM := Lib.hid (nv3_pm.2); have HLN := Lib.hid (show nv3.length ≤ most by simp [nv3]; omega)
      clear hsa hf
      go_wp2
      exact bodyPost_ret (v := .agg #[.slice sa1 sl1 sc1, .slice sa2 sl2 sc2]) (by simp [results, Try.results79, go_sem, z0, z1]) rfl (any_end HSA.out HLT hbl HPM.out HLN.out HD9.out)
    · have hmI : ¬ ((3 : Int) ≤ most) := by omega
      go_wp2_with fail
      refine (c_l02Twisted b n _ HD2.out.1 hn1 (by omega)).mono ?_; rintro e w9 ⟨r8, r9, XA, XB, rfl, hsa, hpm, hln, hd9⟩
      obtain ⟨sa1, sl1, sc1, sa2, sl2, sc2, hv1, hv2⟩ := hsa.any
      subst hv1 hv2
      have hf := hd9.blk HF2.out (by omega)
      obtain ⟨z0, z1, z2, z3⟩ := two_cells hf
      have HSA := Lib.hid hsa; have HD9 := Lib.hid (HD2.out.trans hd9); have HLT := HF2.out.lt
      have HPM := Lib.hid (hpm); have HLN := Lib.hid (show XA.length ≤ most by omega)
      clear hsa hf
      go_wp2
      exact bodyPost_ret (v := .agg #[.slice sa1 sl1 sc1, .slice sa2 sl2 sc2]) (by simp [results, Try.results79, go_sem, z0, z1]) rfl (any_end HSA.out HLT hbl HPM.out HLN.out HD9.out)
  have y6 : (kd == 6) = false := by simp [e6]
  go_wp2_with fail
  refine (c_l02Twisted b n _ HD2.out.1 hn1 (by omega)).mono ?_; rintro e w9 ⟨r8, r9, XA, XB, rfl, hsa, hpm, hln, hd9⟩
  obtain ⟨sa1, sl1, sc1, sa2, sl2, sc2, hv1, hv2⟩ := hsa.any
  subst hv1 hv2
  have hf := hd9.blk HF2.out (by omega)
  obtain ⟨z0, z1, z2, z3⟩ := two_cells hf
  have HSA := Lib.hid hsa; have HD9 := Lib.hid (HD2.out.trans hd9); have HLT := HF2.out.lt
  have HPM := Lib.hid (hpm); have HLN := Lib.hid (show XA.length ≤ most by omega)
  clear hsa hf
  go_wp2
  exact bodyPost_ret (v := .agg #[.slice sa1 sl1 sc1, .slice sa2 sl2 sc2]) (by simp [results, Try.results79, go_sem, z0, z1]) rfl (any_end HSA.out HLT hbl HPM.out HLN.out HD9.out)
end Go.Proofs.Ytgmhnjccgldddaa

namespace Go.Proofs.Ytgmhnjccgldddaa
set_option linter.unusedVariables false
set_option linter.unusedSimpArgs false
open Go Go.RowKit

theorem OwnSol.atW {lo hi : Nat} {w : World} {v1 v2 : Value} {A B : List (List Int)} (h : OwnSol lo hi w v1 v2 A B) : SolAt lo w v1 v2 A B := by
  obtain ⟨l1, h1, l2, h2, a, b, c, d, e, f, g⟩ := h
  exact ⟨f.out.wr.mono a, g.out.wr.mono c⟩
theorem SolAt.shape {lo : Nat} {w : World} {v1 v2 : Value} {A B : List (List Int)} (h : SolAt lo w v1 v2 A B) : ∃ a1 c1 a2 c2, v1 = .slice a1 A.length c1 ∧ v2 = .slice a2 B.length c2 := by
  obtain ⟨a1, c1, e1, _⟩ := h.1
  obtain ⟨a2, c2, e2, _⟩ := h.2
  exact ⟨a1, c1, a2, c2, e1, e2⟩
theorem SolAt.keep {lo : Nat} {S : Nat → Prop} {w w' : World} {v1 v2 : Value} {A B : List (List Int)} (h : SolAt lo w v1 v2 A B) (k : Keep S w w') (hS : ∀ b, lo ≤ b → ¬ S b) : SolAt lo w' v1 v2 A B := ⟨h.1.keep k hS, h.2.keep k hS⟩

set_option maxRecDepth 100000 in
set_option maxHeartbeats 4000000 in
theorem c_l02Draw (b most : Nat) (w : World) (hs : Src w b) (h1 : 1 ≤ most) (h2 : most ≤ 12) : Calls Try.prog 55 #[.pointer (some ⟨b, 0, none⟩), .int .i64 most] w (RDraw b most w) := by
  have HS := Lib.hid hs; have hbl := hs.lt; clear hs
  have HF0 : Hid (Blk (w.alloc (.cells #[.slice none 0 0, .slice none 0 0] 29)) w.heap.size 29 [.slice none 0 0, .slice none 0 0]) := Lib.hid (Blk.new w [.slice none 0 0, .slice none 0 0] 29)
  have HB0 : Hid (Below w.heap.size w (w.alloc (.cells #[.slice none 0 0, .slice none 0 0] 29))) := Lib.hid ((Below.refl _ _).alloc (Nat.le_refl _) _)
  go_enter Try.func55, Try.ntmps55
  have HS0 := Lib.hid (HS.out.under HB0.out)
  have HD0 := Lib.hid ((Drew.refl HS.out).under HB0.out)
  go_wp2_with fail
  refine (c_l02Any b most _ HS0.out h1 h2).mono ?_; rintro e w1 ⟨r1, r2, A, B, rfl, hsa, hpm, hln, hd1⟩
  obtain ⟨sa1, sc1, sa2, sc2, hv1, hv2⟩ := hsa.shape
  subst hv1 hv2
  have hba : Below w1.heap.size w1 (w1.alloc (.cells #[.slice sa1 A.length sc1, .slice sa2 B.length sc2] 29)) := (Below.refl _ _).alloc (Nat.le_refl _) _
  have hq : w.heap.size < w1.heap.size := by have := hd1.2.size; simp at this; omega
  have HBX := Lib.hid (show Blk (w1.alloc (.cells #[.slice sa1 A.length sc1, .slice sa2 B.length sc2] 29)) w1.heap.size 29 [.slice sa1 A.length sc1, .slice sa2 B.length sc2] from Blk.new w1 [.slice sa1 A.length sc1, .slice sa2 B.length sc2] 29)
  have HF1 := Lib.hid ((hd1.blk HF0.out (by omega)).under hba); have HD1 := Lib.hid ((HD0.out.trans hd1).under hba)
  have HSA1 := Lib.hid ((hsa.under hba).mono (show w.heap.size + 1 ≤ _ by simp)); have HPM := Lib.hid hpm; have HLN := Lib.hid hln
  have hl1 := (isTab_len (isPM_parts hpm).1).1
  clear hd1 hsa hpm hln hba HD0 HF0 HS0 HB0
  go_wp2_with fail
  refine (c_l01Next b 4 _ HD1.out.1 (by omega) (by omega)).mono ?_; rintro e w2 ⟨t, rfl, t0, t1, hd2⟩
  have HF2 := Lib.hid (hd2.blk HF1.out (by omega)); have HD2 := Lib.hid (HD1.out.trans hd2)
  have HSA2 := Lib.hid (HSA1.out.drew hd2 (by omega)); have HBX2 := Lib.hid (hd2.blk HBX.out (by omega))
  have hw2 : w1.heap.size < w2.heap.size := HBX2.out.lt
  clear hd2 HF1 HD1 HSA1 HBX
  by_cases ht : 0 < t
  · have HK : Hid (∀ w' : World, Keep (fun k => k = b ∨ k = w.heap.size ∨ w2.heap.size ≤ k) w2 w' → w'.cell? ⟨w1.heap.size, 0, none⟩ = some (.slice sa1 A.length sc1) ∧ w'.cell? ⟨w1.heap.size, 1, none⟩ = some (.slice sa2 B.length sc2)) := Lib.hid (fun w' k => by
      have := HBX2.out.of_block (k.block w1.heap.size hw2 (by omega))
      obtain ⟨x0, x1, -, -⟩ := two_cells this
      exact ⟨x0, x1⟩)
    have K0 : Keep (fun k => k = b ∨ k = w.heap.size ∨ w2.heap.size ≤ k) w2 w2.drew := (Keep.refl _ w2).drew
    have HDw := Lib.hid (HD2.out.under ((Below.refl w2.heap.size w2).drew))
    have HSrc := Lib.hid HDw.out.1
    have HFw := Lib.hid (HF2.out.under ((Below.refl w2.heap.size w2).drew))
    have HSAw := Lib.hid (HSA2.out.under ((Below.refl w2.heap.size w2).drew))
    have HRW := Lib.hid (show ∀ p : List Int, p.length = A.length → Permuted p → RenOk A p ∧ RenOk B p from fun p e1 e2 => ⟨⟨(isPM_parts HPM.out).1, e2, e1⟩, (isPM_parts HPM.out).2.1, e2, e1.trans (isPM_parts HPM.out).2.2⟩)
    have hl2 : A.length ≤ 1000 := by have := HLN.out; omega
    have hws : w2.drew.heap.size = w2.heap.size := rfl
    obtain ⟨zc0, zc1⟩ := HK.out _ K0
    go_wp2
    go_region_held3 (fun w' => w'.cell? ⟨w1.heap.size, 0, none⟩ = some (.slice sa1 A.length sc1) ∧ w'.cell? ⟨w1.heap.size, 1, none⟩ = some (.slice sa2 B.length sc2))
      (first | exact HK.out _ K0 | exact HK.out _ K3 | exact HK.out _ K4 | exact HK.out _ K5)
      (first
        | (go_at_call 42; (with_reducible refine (c_l01DrawP b A.length _ HSrc.out hl1 hl2).mono ?_); rintro e w3 ⟨r, p, rfl, hpl, hpp, hop, hd3⟩; have K3 := K0.trans (keep_mono hd3.2 (T := fun k => k = b ∨ k = w.heap.size ∨ w2.heap.size ≤ k) (fun x hx => .inl hx)); have HD3 := Lib.hid (HDw.out.trans hd3); have HF3 := Lib.hid (hd3.blk HFw.out (by omega)); have HS3 := Lib.hid (HSAw.out.drew hd3 (by omega)).sol; have HRA := Lib.hid (HRW.out p hpl hpp).1; have HRB := Lib.hid (HRW.out p hpl hpp).2; have HP3 := Lib.hid hop.ints; have HPP := Lib.hid (And.intro hpl hpp); obtain ⟨zd0, zd1⟩ := HK.out _ K3; clear hd3 hop hpl hpp)
        | (go_at_call 41; (with_reducible refine (c_l02Rename _ _ _ A B p _ HS3.out HP3.out HRA.out HRB.out).mono ?_); rintro e w4 ⟨u1, u2, rfl, hos, hb4⟩; obtain ⟨ua1, uc1, ua2, uc2, hu1, hu2⟩ := hos.atW.shape; rw [renL_length] at hu1 hu2; subst hu1 hu2; have K4 := K3.trans (keep_mono (Keep.of_below hb4) (T := fun k => k = b ∨ k = w.heap.size ∨ w2.heap.size ≤ k) (fun x hx => .inr (.inr (Nat.le_trans K3.size hx)))); obtain ⟨ze0, ze1⟩ := HK.out _ K4; have K5 := (K4.setCell (p := ⟨w.heap.size, 0, none⟩) (.inl (.inr (.inl rfl))) (.slice ua1 A.length uc1)).setCell (p := ⟨w.heap.size, 1, none⟩) (.inl (.inr (.inl rfl))) (.slice ua2 B.length uc2); have HD4 := Lib.hid (HD3.out.under hb4); have hf4 := HF3.out.under hb4; obtain ⟨y0, y1, y2, y3⟩ := two_cells hf4; have HSO := Lib.hid hos.atW; have HSZ := Lib.hid (show w.heap.size < w3.heap.size from HF3.out.lt); clear hos hb4))
    all_goals
      have HPM4 := Lib.hid (ren_pm HPM.out HPP.out.2 HPP.out.1)
      have HLN4 : Hid ((renL A p).length ≤ most) := Lib.hid (by rw [renL_length]; exact HLN.out)
      rename_i hHz
      clear hHz
      go_wp2
      exact bodyPost_ret (v := .agg #[.slice ua1 A.length uc1, .slice ua2 B.length uc2]) (by simp [results, Try.results55, go_sem, y0, y1]) rfl (any_end HSO.out HSZ.out hbl HPM4.out HLN4.out HD4.out)
  · have HFin := Lib.hid HD2.out
    obtain ⟨x0, x1, -, -⟩ := two_cells HBX2.out
    obtain ⟨z0, z1, z2, z3⟩ := two_cells HF2.out
    go_wp2
    exact bodyPost_ret (v := .agg #[.slice sa1 A.length sc1, .slice sa2 B.length sc2]) (by simp [results, Try.results55, go_sem, z0, z1]) rfl (any_end HSA2.out (Nat.lt_succ_self _) hbl HPM.out HLN.out HFin.out)
end Go.Proofs.Ytgmhnjccgldddaa

namespace Go.Proofs.Ytgmhnjccgldddaa
set_option linter.unusedVariables false
set_option linter.unusedSimpArgs false
open Go Go.RowKit

/-- The table can be read now, and after all changes that leave the blocks from lo on as they are. -/
def RdR (lo : Nat) (w : World) (v : Value) (X : List (List Int)) : Prop :=
  ∀ (S : Nat → Prop) (w' : World), Keep S w w' → (∀ b, lo ≤ b → b < w.heap.size → ¬ S b) → Rows w' v X
theorem keep_low {S : Nat → Prop} {w w' : World} (k : Keep S w w') : Keep (fun b => S b ∧ b < w.heap.size) w w' := ⟨k.os, k.tape, k.output, k.size, fun x hx hn => k.block x hx (fun e => hn ⟨e, hx⟩)⟩
theorem RowsW.rd {lo : Nat} {w : World} {v : Value} {X : List (List Int)} (h : RowsW lo w v X) : RdR lo w v X := fun _ _ k hS => (h.keepB k hS).rows
theorem RowsAt.rd {lo : Nat} {w : World} {v : Value} {X : List (List Int)} (h : RowsAt lo w v X) : RdR lo w v X := fun _ _ k hS => (h.keep (keep_low k) (fun b hb e => hS b hb e.2 e.1)).rows
namespace RdR
variable {lo : Nat} {w w' : World} {v : Value} {X : List (List Int)}
theorem rows (h : RdR lo w v X) : Rows w v X := h (fun _ => False) w (Keep.refl _ _) (fun _ _ _ e => e)
theorem keep (h : RdR lo w v X) {S : Nat → Prop} (k : Keep S w w') (hS : ∀ b, lo ≤ b → b < w.heap.size → ¬ S b) : RdR lo w' v X := by
  intro S2 w2 k2 h2
  refine h (fun b => S b ∨ S2 b) w2 ?_ ?_
  · refine ⟨k2.os.trans k.os, k2.tape.trans k.tape, k2.output.trans k.output, Nat.le_trans k.size k2.size, fun x hx hn => ?_⟩
    have e1 := k.block x hx (fun e => hn (.inl e))
    have e2 := k2.block x (Nat.lt_of_lt_of_le hx k.size) (fun e => hn (.inr e))
    exact e2.trans e1
  · intro b h3 h4 h5
    rcases h5 with h5 | h5
    · exact hS b h3 h4 h5
    · exact h2 b h3 (Nat.lt_of_lt_of_le h4 k.size) h5
theorem drew {b : Nat} (h : RdR lo w v X) (hd : Drew b w w') (hb : b < lo) : RdR lo w' v X := h.keep hd.2 (fun x hx _ e => by have e : x = b := e; omega)
theorem under (h : RdR lo w v X) (hb : Below w.heap.size w w') : RdR lo w' v X :=
  h.keep (S := fun b => w.heap.size ≤ b) (Keep.of_below hb) fun b _ h1 h2 => by have h2 : w.heap.size ≤ b := h2; omega
theorem mono {lo' : Nat} (h : RdR lo w v X) (hl : lo' ≤ lo) : RdR lo' w v X := fun S w' k hS => h S w' k (fun b hb h2 => hS b (Nat.le_trans hl hb) h2)
end RdR
/-- A pair of tables that can be read, in blocks from lo on. -/
def RdS (lo : Nat) (w : World) (v1 v2 : Value) (A B : List (List Int)) : Prop := RdR lo w v1 A ∧ RdR lo w v2 B
namespace RdS
variable {lo : Nat} {w w' : World} {v1 v2 : Value} {A B : List (List Int)}
theorem sol (h : RdS lo w v1 v2 A B) : Sol w v1 v2 A B := ⟨h.1.rows, h.2.rows⟩
theorem keep (h : RdS lo w v1 v2 A B) {S : Nat → Prop} (k : Keep S w w') (hS : ∀ b, lo ≤ b → b < w.heap.size → ¬ S b) : RdS lo w' v1 v2 A B := ⟨h.1.keep k hS, h.2.keep k hS⟩
theorem drew {b : Nat} (h : RdS lo w v1 v2 A B) (hd : Drew b w w') (hb : b < lo) : RdS lo w' v1 v2 A B := ⟨h.1.drew hd hb, h.2.drew hd hb⟩
theorem under (h : RdS lo w v1 v2 A B) (hb : Below w.heap.size w w') : RdS lo w' v1 v2 A B := ⟨h.1.under hb, h.2.under hb⟩
theorem mono {lo' : Nat} (h : RdS lo w v1 v2 A B) (hl : lo' ≤ lo) : RdS lo' w v1 v2 A B := ⟨h.1.mono hl, h.2.mono hl⟩
end RdS
/-- What a draw of a pair of tables leaves, which need be no pair map. -/
def RSpoil (b : Nat) (w : World) (e : Ending) (w' : World) : Prop :=
  ∃ (r1 r2 : Value) (A B : List (List Int)), e = .returned (.agg #[r1, r2]) ∧ RdS w.heap.size w' r1 r2 A B ∧ A.length ≤ 101 ∧ Drew b w w'
theorem spoil_end {b lo : Nat} {w w9 : World} {r1 r2 : Value} {A B : List (List Int)} (hsa : RdS lo w9 r1 r2 A B) (hlo : w.heap.size < lo) (hbl : b < w.heap.size) (hl : A.length ≤ 101) (hd : Drew b w w9) :
    RSpoil b w (.returned (.agg #[r1, r2])) ((w9.setCell ⟨w.heap.size, 0, none⟩ r1).setCell ⟨w.heap.size, 1, none⟩ r2) := by
  have kz : Keep (fun x => x = w.heap.size) w9 ((w9.setCell ⟨w.heap.size, 0, none⟩ r1).setCell ⟨w.heap.size, 1, none⟩ r2) := keep_early _ _ _ _
  exact ⟨_, _, A, B, rfl, (hsa.keep kz (fun x hx _ e => by have e : x = w.heap.size := e; omega)).mono (by omega), hl,
    drew_set (drew_set hd (p := ⟨w.heap.size, 0, none⟩) (Nat.le_refl _) hbl _) (p := ⟨w.heap.size, 1, none⟩) (Nat.le_refl _) hbl _⟩
end Go.Proofs.Ytgmhnjccgldddaa

namespace Go.Proofs.Ytgmhnjccgldddaa
set_option linter.unusedVariables false
set_option linter.unusedSimpArgs false
open Go Go.RowKit

theorem wide_tab {A : List (List Int)} (h : isTab A = true) : Wide A.length A := fun r hr => by
  obtain ⟨i, hi, rfl⟩ := List.getElem_of_mem hr
  have := isTab_row h (x := (i : Int)) (by omega) (by omega)
  rw [row_nat _ _ hi] at this; omega
theorem SolAt.rd {lo : Nat} {w : World} {v1 v2 : Value} {A B : List (List Int)} (h : SolAt lo w v1 v2 A B) : RdS lo w v1 v2 A B := ⟨h.1.rd, h.2.rd⟩
theorem RowsAt.monoB {lo lo' : Nat} {w : World} {v : Value} {X : List (List Int)} (h : RowsAt lo w v X) (hl : lo' ≤ lo) : RowsAt lo' w v X := h.mono hl
/-- A store of a slice into a table of a pair. -/
theorem SolAt.putS {lo m n1 c1 n2 c2 : Nat} {w : World} {a1 a2 : Option Addr} {A B : List (List Int)} (h : SolAt lo w (.slice a1 n1 c1) (.slice a2 n2 c2) A B) (hA : Wide m A) (hB : Wide m B) {p : Addr} {a0 : Option Addr} {n0 c0 : Nat} (hp : w.cell? p = some (.slice a0 n0 c0)) {u : Value} {ys : List Int} (hu : IntsW lo w u ys) (hy : ys.length ≤ m) :
    ∃ Y Z, Y.length = A.length ∧ SolAt lo (w.setCell p u) (.slice a1 n1 c1) (.slice a2 n2 c2) Y Z := by
  obtain ⟨Y, h1, _, h2⟩ := h.1.putS hA hp hu hy
  obtain ⟨Z, _, _, h4⟩ := h.2.putS hB hp hu hy
  exact ⟨Y, Z, h1, h2, h4⟩
theorem SolAt.putI {lo m n1 c1 n2 c2 : Nat} {w : World} {a1 a2 : Option Addr} {A B : List (List Int)} (h : SolAt lo w (.slice a1 n1 c1) (.slice a2 n2 c2) A B) (hA : Wide m A) (hB : Wide m B) {p : Addr} {y0 : Int} (hp : w.cell? p = some (.int .i64 y0)) (z : Int) :
    ∃ Y Z, Y.length = A.length ∧ SolAt lo (w.setCell p (.int .i64 z)) (.slice a1 n1 c1) (.slice a2 n2 c2) Y Z := by
  obtain ⟨Y, h1, _, h2⟩ := h.1.putI hA hp z
  obtain ⟨Z, _, _, h4⟩ := h.2.putI hB hp z
  exact ⟨Y, Z, h1, h2, h4⟩
/-- Where a table's cells lie. -/
theorem RowsW.home {lo : Nat} {w : World} {a : Option Addr} {n c : Nat} {X : List (List Int)} (h : RowsW lo w (.slice a n c) X) (hX : 0 < X.length) : ∃ tb, a = some ⟨tb, 0, none⟩ ∧ lo ≤ tb ∧ tb < w.heap.size := by
  obtain ⟨b, a', c', ha, hlo, hc, _⟩ := h.at 0 hX
  exact ⟨b, ha, hlo, cell_lt hc⟩
theorem RowsW.cellAt {lo : Nat} {w : World} {tb n c : Nat} {X : List (List Int)} (h : RowsW lo w (.slice (some ⟨tb, 0, none⟩) n c) X) (k : Nat) (hk : k < X.length) :
    ∃ a' c', w.cell? ⟨tb, k, none⟩ = some (.slice a' (row X k).length c') ∧ w.frozen? ⟨tb, k, none⟩ = false ∧ IntsW lo w (.slice a' (row X k).length c') (row X k) := by
  obtain ⟨b, a', c', ha, hlo, hc, hf, hi⟩ := h.at k hk
  injection ha with ha; injection ha with ha; subst ha
  exact ⟨a', c', hc, hf, hi⟩
theorem RowsW.rowAt {lo m : Nat} {w : World} {tb n c : Nat} {X : List (List Int)} (h : RowsW lo w (.slice (some ⟨tb, 0, none⟩) n c) X) (k : Nat) (hk : k < X.length) (hl : (row X k).length = m) (hm : 0 < m) :
    ∃ rb c', w.cell? ⟨tb, k, none⟩ = some (.slice (some ⟨rb, 0, none⟩) m c') ∧ lo ≤ rb ∧ rb < w.heap.size ∧ IntsW lo w (.slice (some ⟨rb, 0, none⟩) m c') (row X k) := by
  obtain ⟨a', c', hc, _, hi⟩ := h.cellAt k hk
  obtain ⟨rb, ha, hlo, h0, _⟩ := hi.at0 0 (by omega)
  subst ha
  rw [hl] at hc hi
  exact ⟨rb, c', hc, hlo, cell_lt h0, hi⟩
theorem IntsW.cellAt {lo : Nat} {w : World} {rb n c : Nat} {xs : List Int} (h : IntsW lo w (.slice (some ⟨rb, 0, none⟩) n c) xs) (k : Nat) (hk : k < xs.length) : w.cell? ⟨rb, k, none⟩ = some (.int .i64 (nth xs k)) ∧ w.frozen? ⟨rb, k, none⟩ = false := by
  obtain ⟨b, ha, hlo, hc, hf⟩ := h.at0 k hk
  injection ha with ha; injection ha with ha; subst ha
  exact ⟨hc, hf⟩
theorem RowsAt.isSlice {lo : Nat} {w : World} {v : Value} {X : List (List Int)} (h : RowsAt lo w v X) : ∃ a c, v = .slice a X.length c := by
  obtain ⟨a, c, hv, _⟩ := h
  exact ⟨a, c, hv⟩

set_option maxRecDepth 100000 in
set_option maxHeartbeats 8000000 in
theorem c_l02Spoil (b most : Nat) (w : World) (hs : Src w b) (h1 : 1 ≤ most) (h2 : most ≤ 12) : Calls Try.prog 39 #[.pointer (some ⟨b, 0, none⟩), .int .i64 most] w (RSpoil b w) := by
  have HS := Lib.hid hs; have hbl := hs.lt; clear hs
  have HF0 : Hid (Blk (w.alloc (.cells #[.slice none 0 0, .slice none 0 0] 29)) w.heap.size 29 [.slice none 0 0, .slice none 0 0]) := Lib.hid (Blk.new w [.slice none 0 0, .slice none 0 0] 29)
  have HB0 : Hid (Below w.heap.size w (w.alloc (.cells #[.slice none 0 0, .slice none 0 0] 29))) := Lib.hid ((Below.refl _ _).alloc (Nat.le_refl _) _)
  go_enter Try.func39, Try.ntmps39
  have HS0 := Lib.hid (HS.out.under HB0.out)
  have HD0 := Lib.hid ((Drew.refl HS.out).under HB0.out)
  go_wp2_with fail
  refine (c_l02Draw b most _ HS0.out h1 h2).mono ?_; rintro e w1 ⟨r1, r2, A, B, rfl, hsa, hpm, hln, hd1⟩
  obtain ⟨sa1, sc1, sa2, sc2, hv1, hv2⟩ := hsa.shape
  subst hv1 hv2
  obtain ⟨n, hnA⟩ : ∃ n, A.length = n := ⟨_, rfl⟩
  have hnB : B.length = n := by rw [← hnA]; exact (isPM_parts hpm).2.2.symm
  have hn1 : 1 ≤ n := by have := (isTab_len (isPM_parts hpm).1).1; omega
  have hn12 : n ≤ 12 := by omega
  rw [hnA, hnB] at hsa ⊢
  obtain ⟨tb, hsa1, tb0, tb1⟩ := hsa.1.home (by omega)
  obtain ⟨tc, hsa2, tc0, tc1⟩ := hsa.2.home (by omega)
  subst hsa1 hsa2
  have hwA : Wide n A := by rw [← hnA]; exact wide_tab (isPM_parts hpm).1
  have hwB : Wide n B := by rw [← hnB]; exact wide_tab (isPM_parts hpm).2.1
  have hrB : ∀ k : Nat, k < n → (row B k).length = n := fun k hk => by rw [← hnB]; exact isTab_row (isPM_parts hpm).2.1 (by omega) (by omega)
  have HRow : Hid (∀ k : Nat, k < n → ∃ rb c', w1.cell? ⟨tc, k, none⟩ = some (.slice (some ⟨rb, 0, none⟩) n c') ∧ w.heap.size < rb ∧ rb < w1.heap.size ∧ IntsW (w.heap.size + 1) w1 (.slice (some ⟨rb, 0, none⟩) n c') (row B k)) := Lib.hid fun k hk => by
    obtain ⟨rb, c', q1, q2, q3, q4⟩ := hsa.2.rowAt k (by omega) (hrB k hk) hn1
    simp at q2
    exact ⟨rb, c', q1, by omega, q3, q4.mono (by simp)⟩
  have HN := Lib.hid (And.intro hnA hnB); have HW := Lib.hid (And.intro hwA hwB); have HRB := Lib.hid hrB
  have hba : Below w1.heap.size w1 (w1.alloc (.cells #[.slice (some ⟨tb, 0, none⟩) n sc1, .slice (some ⟨tc, 0, none⟩) n sc2] 29)) := (Below.refl _ _).alloc (Nat.le_refl _) _
  have hq : w.heap.size < w1.heap.size := by have := hd1.2.size; simp at this; omega
  have HBX := Lib.hid (show Blk (w1.alloc (.cells #[.slice (some ⟨tb, 0, none⟩) n sc1, .slice (some ⟨tc, 0, none⟩) n sc2] 29)) w1.heap.size 29 [.slice (some ⟨tb, 0, none⟩) n sc1, .slice (some ⟨tc, 0, none⟩) n sc2] from Blk.new w1 [.slice (some ⟨tb, 0, none⟩) n sc1, .slice (some ⟨tc, 0, none⟩) n sc2] 29)
  have HF1 := Lib.hid ((hd1.blk HF0.out (by omega)).under hba); have HD1 := Lib.hid ((HD0.out.trans hd1).under hba)
  have HSA1 := Lib.hid ((hsa.under hba).mono (show w.heap.size + 1 ≤ _ by simp))
  have HKA : Hid (Keep (fun k => w1.heap.size ≤ k) w1 (w1.alloc (.cells #[.slice (some ⟨tb, 0, none⟩) n sc1, .slice (some ⟨tc, 0, none⟩) n sc2] 29))) := Lib.hid (Keep.of_below hba)
  have HRd1 := Lib.hid ((hsa.mono (show w.heap.size + 1 ≤ _ by simp)).rd)
  simp at tb0 tc0
  have htb : w.heap.size < tb := by omega
  have htc : w.heap.size < tc := by omega
  clear hd1 hsa hpm hln hba HD0 HF0 HS0 HB0 hnA hnB hwA hwB hrB tb0 tc0
  go_wp2_with fail
  refine (c_l01Next b 24 _ HD1.out.1 (by omega) (by omega)).mono ?_; rintro e w2 ⟨kd, rfl, kd0, kd1, hd2⟩
  have HF2 := Lib.hid (hd2.blk HF1.out (by omega)); have HD2 := Lib.hid (HD1.out.trans hd2)
  have HSA2 := Lib.hid (HSA1.out.drew hd2 (by omega)); have HBX2 := Lib.hid (hd2.blk HBX.out (by omega))
  have hw2 : w1.heap.size < w2.heap.size := HBX2.out.lt
  have HKW2 : Hid (Keep (fun k => k = b ∨ w1.heap.size ≤ k) w1 w2) := Lib.hid ((keep_mono HKA.out (fun x h => .inr h)).trans (keep_mono hd2.2 (fun x h => .inl h)))
  -- the cells of the second table's rows, at w2 and later
  have HRow2 : Hid (∀ k : Nat, k < n → ∃ rb c', rb < w1.heap.size ∧ w.heap.size < rb ∧ ∀ w' : World, Keep (fun j => j = b ∨ w2.heap.size ≤ j) w2 w' → w'.cell? ⟨tc, k, none⟩ = some (.slice (some ⟨rb, 0, none⟩) n c') ∧ IntsW (w.heap.size + 1) w' (.slice (some ⟨rb, 0, none⟩) n c') (row B k)) := Lib.hid fun k hk => by
    obtain ⟨rb, c', q1, q2, q3, q4⟩ := HRow.out k hk
    have q5 := cell_of_block (HKA.out.block tc tc1 (by omega)) q1
    have q6 := cell_of_block (hd2.2.block tc (cell_lt q5) (by omega)) q5
    have q7 : IntsW (w.heap.size + 1) _ _ _ := (q4.keep HKA.out (fun x _ h e => by omega)).keep hd2.2 (fun x h _ e => by have e : x = b := e; omega)
    refine ⟨rb, c', q3, q2, fun w' k' => ⟨cell_of_block (k'.block tc (cell_lt q6) (by omega)) q6, q7.keep k' (fun x h h2 e => by rcases e with e | e <;> omega)⟩⟩
  obtain ⟨rbF, rcF, hrF⟩ : ∃ (rbF rcF : Nat → Nat), ∀ k : Nat, k < n → rbF k < w1.heap.size ∧ w.heap.size < rbF k ∧ ∀ w' : World, Keep (fun j => j = b ∨ w2.heap.size ≤ j) w2 w' → w'.cell? ⟨tc, k, none⟩ = some (.slice (some ⟨rbF k, 0, none⟩) n (rcF k)) ∧ IntsW (w.heap.size + 1) w' (.slice (some ⟨rbF k, 0, none⟩) n (rcF k)) (row B k) := by
    refine ⟨fun k => if h : k < n then Classical.choose (HRow2.out k h) else 0, fun k => if h : k < n then Classical.choose (Classical.choose_spec (HRow2.out k h)) else 0, fun k hk => ?_⟩
    simp only [hk, dite_true]
    exact Classical.choose_spec (Classical.choose_spec (HRow2.out k hk))
  have HRF := Lib.hid hrF
  clear hd2 HF1 HD1 HSA1 HBX HRow HKA HRow2 hrF
  have HK : Hid (∀ w' : World, Keep (fun k => k = b ∨ w2.heap.size ≤ k ∨ (k < w1.heap.size ∧ w.heap.size < k)) w2 w' → w'.cell? ⟨w1.heap.size, 0, none⟩ = some (.slice (some ⟨tb, 0, none⟩) n sc1) ∧ w'.cell? ⟨w1.heap.size, 1, none⟩ = some (.slice (some ⟨tc, 0, none⟩) n sc2)) := Lib.hid (fun w' k => by
      have := HBX2.out.of_block (k.block w1.heap.size hw2 (by omega))
      obtain ⟨x0, x1, -, -⟩ := two_cells this
      exact ⟨x0, x1⟩)
  have K0 : Keep (fun j => j = b ∨ w2.heap.size ≤ j) w2 w2.drew := (Keep.refl _ w2).drew
  have HUP : Hid (∀ w' : World, Keep (fun j => j = b ∨ w2.heap.size ≤ j) w2 w' → Keep (fun k => k = b ∨ w2.heap.size ≤ k ∨ (k < w1.heap.size ∧ w.heap.size < k)) w2 w') := Lib.hid fun w' k => keep_mono k (fun x hx => by rcases hx with h | h; exact .inl h; exact .inr (.inl h))
  have HDw := Lib.hid (HD2.out.under ((Below.refl w2.heap.size w2).drew))
  have HSrc := Lib.hid HDw.out.1
  have HFw := Lib.hid (HF2.out.under ((Below.refl w2.heap.size w2).drew))
  have HSAw := Lib.hid (HSA2.out.under ((Below.refl w2.heap.size w2).drew))
  have hnI : (1 : Int) ≤ n := by omega
  have hbI : (n : Int) ≤ 9223372036854775807 := by omega
  by_cases e0 : kd = 0
  · subst e0
    obtain ⟨zc0, zc1⟩ := HK.out _ (HUP.out _ K0)
    go_wp2
    go_region_held3 (fun w' => w'.cell? ⟨w1.heap.size, 0, none⟩ = some (.slice (some ⟨tb, 0, none⟩) n sc1) ∧ w'.cell? ⟨w1.heap.size, 1, none⟩ = some (.slice (some ⟨tc, 0, none⟩) n sc2))
      (first | exact HK.out _ (HUP.out _ K0) | exact HK.out _ (HUP.out _ K3) | exact HK.out _ (HUP.out _ K4) | exact HK.out _ K5)
      (first
        | (go_at_call 40; (with_reducible refine (c_l01Next b n _ HSrc.out hnI hbI).mono ?_); rintro e w3 ⟨x, rfl, x0, x1, hd3⟩; obtain ⟨X, rfl⟩ : ∃ X : Nat, x = X := ⟨x.toNat, by omega⟩; have K3 := K0.trans (keep_mono hd3.2 (T := fun j => j = b ∨ w2.heap.size ≤ j) (fun x hx => .inl hx)); have HD3 := Lib.hid (HDw.out.trans hd3); have HSrc3 := Lib.hid hd3.1; have HF3 := Lib.hid (hd3.blk HFw.out (by omega)); have HSA3 := Lib.hid (HSAw.out.drew hd3 (by omega)); obtain ⟨zd0, zd1⟩ := HK.out _ (HUP.out _ K3); have hXn : X < n := (by omega); clear hd3)
        | (go_at_call 42; (with_reducible refine (c_l01DrawP b n _ HSrc3.out hn1 (by omega)).mono ?_); rintro e w4 ⟨r, p, rfl, hpl, hpp, hop, hd4⟩; obtain ⟨ra, rc, hr, -⟩ := hop.shape; rw [hpl] at hr; subst hr; have hsz3 := K3.size; have K4 := K3.trans (keep_mono hd4.2 (T := fun j => j = b ∨ w2.heap.size ≤ j) (fun x hx => .inl hx)); have HD4 := Lib.hid (HD3.out.trans hd4); have HF4 := Lib.hid (hd4.blk HF3.out (by omega)); have HSA4 := Lib.hid (HSA3.out.drew hd4 (by omega)); obtain ⟨ze0, ze1⟩ := HK.out _ (HUP.out _ K4); obtain ⟨xa, xc, hcell, hfrz, -⟩ := HSA4.out.1.cellAt X (by rw [HN.out.1]; exact hXn); have HPut := Lib.hid (HSA4.out.putS HW.out.1 HW.out.2 hcell (hop.wr.mono (show w.heap.size + 1 ≤ _ by have := HSA3.out; have := HF3.out.lt; omega)) (by rw [hpl]; exact Nat.le_refl _)); have K5 := (HUP.out _ K4).setCell (p := ⟨tb, X, none⟩) (.inl (.inr (.inr ⟨tb1, htb⟩))) (.slice ra n rc); clear hd4 hpp hop))
    all_goals
      rename_i hHz
      clear hHz
      obtain ⟨Y, Z, hYl, hput⟩ := HPut.out
      have HP := Lib.hid hput; have HYl := Lib.hid (show Y.length ≤ 101 by rw [hYl, HN.out.1]; omega)
      have HD6 := Lib.hid (drew_set HD4.out (p := ⟨tb, X, none⟩) (show w.heap.size ≤ tb by omega) (show b < tb by omega) (.slice ra n rc))
      obtain ⟨y0, y1⟩ := HK.out _ K5
      obtain ⟨z0, z1, -, -⟩ := two_cells (HF4.out.other (a := ⟨tb, X, none⟩) (show w.heap.size ≠ tb by omega) (.slice ra n rc))
      obtain ⟨-, -, x4, x5⟩ := two_cells HF4.out
      clear hput hYl
      go_wp2
      exact bodyPost_ret (v := .agg #[.slice (some ⟨tb, 0, none⟩) n sc1, .slice (some ⟨tc, 0, none⟩) n sc2]) (by simp [results, Try.results39, go_sem, z0, z1]) rfl (spoil_end HP.out.rd (Nat.lt_succ_self _) hbl HYl.out HD6.out)
  have s0 : (kd == 0) = false := by simp [e0]
  by_cases e1 : kd = 1
  · subst e1
    obtain ⟨zc0, zc1⟩ := HK.out _ (HUP.out _ K0)
    go_wp2
    have HRc : Hid (∀ w' : World, Keep (fun j => j = b ∨ w2.heap.size ≤ j) w2 w' → ∀ k : Nat, k < n → w'.cell? ⟨tc, k, none⟩ = some (.slice (some ⟨rbF k, 0, none⟩) n (rcF k))) := Lib.hid fun w' k' k hk => ((HRF.out k hk).2.2 w' k').1
    go_region_held3 (fun w' => (w'.cell? ⟨w1.heap.size, 0, none⟩ = some (.slice (some ⟨tb, 0, none⟩) n sc1) ∧ w'.cell? ⟨w1.heap.size, 1, none⟩ = some (.slice (some ⟨tc, 0, none⟩) n sc2)) ∧ ∀ k : Nat, k < n → w'.cell? ⟨tc, k, none⟩ = some (.slice (some ⟨rbF k, 0, none⟩) n (rcF k)))
      (first | exact ⟨HK.out _ (HUP.out _ K0), HRc.out _ K0⟩ | exact ⟨HK.out _ (HUP.out _ K3), HRc.out _ K3⟩)
      ((go_at_call 40; (with_reducible refine (c_l01Next b n _ HSrc.out hnI hbI).mono ?_); rintro e w3 ⟨x, rfl, x0, x1, hd3⟩; obtain ⟨X, rfl⟩ : ∃ X : Nat, x = X := ⟨x.toNat, by omega⟩; have K3 := K0.trans (keep_mono hd3.2 (T := fun j => j = b ∨ w2.heap.size ≤ j) (fun x hx => .inl hx)); have HD3 := Lib.hid (HDw.out.trans hd3); have HSrc3 := Lib.hid hd3.1; have HF3 := Lib.hid (hd3.blk HFw.out (by omega)); have HSA3 := Lib.hid (HSAw.out.drew hd3 (by omega)); obtain ⟨zd0, zd1⟩ := HK.out _ (HUP.out _ K3); have hXn : X < n := (by omega); have zx := HRc.out _ K3 X hXn; clear hd3))
    all_goals
      rename_i hHz
      clear hHz
      obtain ⟨rb1, rb0, hrow⟩ := HRF.out X hXn
      have HRw := Lib.hid hrow
      clear hrow
      obtain ⟨rb, hrb⟩ : ∃ rb, rbF X = rb := ⟨_, rfl⟩
      obtain ⟨rc, hrc⟩ : ∃ rc, rcF X = rc := ⟨_, rfl⟩
      rw [hrb] at rb1 rb0
      rw [hrb, hrc] at HRw
      go_wp2_with fail
      refine (c_l01Next b n _ HSrc3.out hnI hbI).mono ?_; rintro e w4 ⟨y, rfl, y0, y1, hd4⟩
      obtain ⟨Y, rfl⟩ : ∃ Y : Nat, y = Y := ⟨y.toNat, by omega⟩
      have K4 := K3.trans (keep_mono hd4.2 (T := fun j => j = b ∨ w2.heap.size ≤ j) (fun x hx => .inl hx))
      have HD4 := Lib.hid (HD3.out.trans hd4); have HF4 := Lib.hid (hd4.blk HF3.out (by omega)); have HSA4 := Lib.hid (HSA3.out.drew hd4 (by omega))
      clear hd4 zx zd0 zd1
      go_wp2_with fail
      refine (c_l01Next b n _ HD4.out.1 hnI hbI).mono ?_; rintro e w5 ⟨t, rfl, t0, t1, hd5⟩
      have K5 := K4.trans (keep_mono hd5.2 (T := fun j => j = b ∨ w2.heap.size ≤ j) (fun x hx => .inl hx))
      have HD5 := Lib.hid (HD4.out.trans hd5); have HF5 := Lib.hid (hd5.blk HF4.out (by omega)); have HSA5 := Lib.hid (HSA4.out.drew hd5 (by omega))
      have hYn : Y < n := by omega
      obtain ⟨hcell, hfrz⟩ := (HRw.out _ K5).2.cellAt Y (by rw [HRB.out X hXn]; exact hYn)
      obtain ⟨Y', Z', hYl, hput⟩ := HSA5.out.putI HW.out.1 HW.out.2 hcell t
      have HP := Lib.hid hput; have HYl := Lib.hid (show Y'.length ≤ 101 by rw [hYl, HN.out.1]; omega)
      have HD6 := Lib.hid (drew_set HD5.out (p := ⟨rb, Y, none⟩) (show w.heap.size ≤ rb by omega) (show b < rb by omega) (.int .i64 t))
      have K6 := (HUP.out _ K5).setCell (p := ⟨rb, Y, none⟩) (.inl (.inr (.inr ⟨rb1, rb0⟩))) (.int .i64 t)
      obtain ⟨y0, y1⟩ := HK.out _ K6
      obtain ⟨z0, z1, -, -⟩ := two_cells (HF5.out.other (a := ⟨rb, Y, none⟩) (show w.heap.size ≠ rb by omega) (.int .i64 t))
      obtain ⟨-, -, x4, x5⟩ := two_cells HF5.out
      clear hput hYl hd5
      go_wp2
      exact bodyPost_ret (v := .agg #[.slice (some ⟨tb, 0, none⟩) n sc1, .slice (some ⟨tc, 0, none⟩) n sc2]) (by simp [results, Try.results39, go_sem, z0, z1]) rfl (spoil_end HP.out.rd (Nat.lt_succ_self _) hbl HYl.out HD6.out)
  have s1 : (kd == 1) = false := by simp [e1]
  by_cases e2 : kd = 2
  · subst e2
    go_wp2_with fail
    refine (c_l01Tables b n _ HD2.out.1 hn1 (by omega)).mono ?_; rintro e w3 ⟨r3, X, rfl, hXl, hXr, hor, hd3⟩
    obtain ⟨ra, rc, hr, -⟩ := OwnRows.shape' hor
    rw [hXl] at hr
    subst hr
    have HO3 := Lib.hid hor.wr; have HD3 := Lib.hid (HD2.out.trans hd3); have HX := Lib.hid (show X.length ≤ 101 by omega)
    have HF3 := Lib.hid (hd3.blk HF2.out (by omega)); have HBX3 := Lib.hid (hd3.blk HBX2.out (by omega))
    have hw3 : w2.heap.size ≤ w3.heap.size := hd3.2.size
    clear hor hd3 hXl hXr
    go_wp2_with fail
    refine (c_l01Tables b n _ HD3.out.1 hn1 (by omega)).mono ?_; rintro e w4 ⟨r4, X2, rfl, hXl, hXr, hor, hd4⟩
    obtain ⟨ra4, rc4, hr, -⟩ := OwnRows.shape' hor
    rw [hXl] at hr
    subst hr
    have HO4 := Lib.hid (hor.wr.mono hw3); have HD4 := Lib.hid (HD3.out.trans hd4)
    have HO34 := Lib.hid (drew_w hd4 HO3.out (by omega))
    have HF4 := Lib.hid (hd4.blk HF3.out (by omega)); have HBX4 := Lib.hid (hd4.blk HBX3.out (by omega))
    clear hor hd4 hXl hXr
    obtain ⟨x0, x1, x2, x3⟩ := two_cells HBX4.out
    obtain ⟨-, -, x4, x5⟩ := two_cells HF4.out
    have HBX5 := Lib.hid ((HBX4.out.set 0 (.slice ra n rc)).set 1 (.slice ra4 n rc4))
    have kz : Keep (fun x => x = w1.heap.size) w4 ((w4.setCell ⟨w1.heap.size, 0, none⟩ (.slice ra n rc)).setCell ⟨w1.heap.size, 1, none⟩ (.slice ra4 n rc4)) := keep_early _ _ _ _
    obtain ⟨z0, z1, -, -⟩ := two_cells (HF4.out.of_block (kz.block w.heap.size HF4.out.lt (by omega)))
    obtain ⟨y0, y1, -, -⟩ := two_cells HBX5.out
    have HD6 := Lib.hid (drew_set (drew_set HD4.out (p := ⟨w1.heap.size, 0, none⟩) (show w.heap.size ≤ w1.heap.size by omega) (show b < w1.heap.size by omega) (.slice ra n rc)) (p := ⟨w1.heap.size, 1, none⟩) (show w.heap.size ≤ w1.heap.size by omega) (show b < w1.heap.size by omega) (.slice ra4 n rc4))
    have HRd := Lib.hid (RdS.keep (v1 := .slice ra n rc) (v2 := .slice ra4 n rc4) ⟨HO34.out.rd, HO4.out.rd⟩ kz (fun x hx _ e => by have e : x = w1.heap.size := e; omega))
    have hwq : w.heap.size < w2.heap.size := by omega
    clear kz HBX5 HBX4 HBX3 HBX2 HF2 HF3
    go_wp2
    exact bodyPost_ret (v := .agg #[.slice ra n rc, .slice ra4 n rc4]) (by simp [results, Try.results39, go_sem, z0, z1]) rfl (spoil_end HRd.out hwq hbl HX.out HD6.out)
  have s2 : (kd == 2) = false := by simp [e2]
  by_cases e3 : kd = 3
  · subst e3
    go_wp2_with fail
    refine (c_l01Bad b n _ HD2.out.1 hn1 (by omega)).mono ?_; rintro e w3 ⟨r3, X, rfl, hXl, hXr, hor, hd3⟩
    obtain ⟨ra, rc, hr⟩ := hor.isSlice
    subst hr
    have HO3 := Lib.hid hor; have HD3 := Lib.hid (HD2.out.trans hd3); have HX := Lib.hid hXl
    have HF3 := Lib.hid (hd3.blk HF2.out (by omega)); have HBX3 := Lib.hid (hd3.blk HBX2.out (by omega))
    have K3 := HKW2.out.trans (keep_mono hd3.2 (T := fun k => k = b ∨ w1.heap.size ≤ k) (fun x h => .inl h))
    have K9 := K3.setCell (p := ⟨w1.heap.size, 1, none⟩) (.inl (.inr (Nat.le_refl _))) (.slice ra X.length rc)
    have HO9 := Lib.hid ((HO3.out.rd.keep ((Keep.refl (fun x => x = w1.heap.size) w3).setCell (p := ⟨w1.heap.size, 1, none⟩) (.inl rfl) (.slice ra X.length rc)) (fun x hx _ e => by have e : x = w1.heap.size := e; omega)).mono (show w.heap.size + 1 ≤ w2.heap.size by omega))
    have HRd : Hid (RdS (w.heap.size + 1) (w3.setCell ⟨w1.heap.size, 1, none⟩ (.slice ra X.length rc)) (.slice (some ⟨tb, 0, none⟩) n sc1) (.slice ra X.length rc) _ _) := Lib.hid ⟨HRd1.out.1.keep K9 (fun x hx h2 e => by rcases e with e | e <;> omega), HO9.out⟩
    have HD6 := Lib.hid (drew_set HD3.out (p := ⟨w1.heap.size, 1, none⟩) (show w.heap.size ≤ w1.heap.size by omega) (show b < w1.heap.size by omega) (.slice ra X.length rc))
    have HLn := Lib.hid (show A.length ≤ 101 by rw [HN.out.1]; omega)
    obtain ⟨x0, x1, x2, x3⟩ := two_cells HBX3.out
    obtain ⟨-, -, x4, x5⟩ := two_cells HF3.out
    obtain ⟨y0, y1, -, -⟩ := two_cells (HBX3.out.set 1 (.slice ra X.length rc))
    obtain ⟨z0, z1, -, -⟩ := two_cells (HF3.out.other (a := ⟨w1.heap.size, 1, none⟩) (show w.heap.size ≠ w1.heap.size by omega) (.slice ra X.length rc))
    clear hor hd3 hXl hXr K3 K9
    go_wp2
    exact bodyPost_ret (v := .agg #[.slice (some ⟨tb, 0, none⟩) n sc1, .slice ra X.length rc]) (by simp [results, Try.results39, go_sem, z0, z1]) rfl (spoil_end HRd.out (Nat.lt_succ_self _) hbl HLn.out HD6.out)
  have s3 : (kd == 3) = false := by simp [e3]
  by_cases e4 : kd = 4
  · subst e4
    go_wp2_with fail
    refine (c_l01Bad b n _ HD2.out.1 hn1 (by omega)).mono ?_; rintro e w3 ⟨r3, X, rfl, hXl, hXr, hor, hd3⟩
    obtain ⟨ra, rc, hr⟩ := hor.isSlice
    subst hr
    have HO3 := Lib.hid hor; have HD3 := Lib.hid (HD2.out.trans hd3); have HX := Lib.hid hXl
    have HF3 := Lib.hid (hd3.blk HF2.out (by omega)); have HBX3 := Lib.hid (hd3.blk HBX2.out (by omega))
    have K3 := HKW2.out.trans (keep_mono hd3.2 (T := fun k => k = b ∨ w1.heap.size ≤ k) (fun x h => .inl h))
    have K9 := K3.setCell (p := ⟨w1.heap.size, 0, none⟩) (.inl (.inr (Nat.le_refl _))) (.slice ra X.length rc)
    have HO9 := Lib.hid ((HO3.out.rd.keep ((Keep.refl (fun x => x = w1.heap.size) w3).setCell (p := ⟨w1.heap.size, 0, none⟩) (.inl rfl) (.slice ra X.length rc)) (fun x hx _ e => by have e : x = w1.heap.size := e; omega)).mono (show w.heap.size + 1 ≤ w2.heap.size by omega))
    have HRd : Hid (RdS (w.heap.size + 1) (w3.setCell ⟨w1.heap.size, 0, none⟩ (.slice ra X.length rc)) (.slice ra X.length rc) (.slice (some ⟨tc, 0, none⟩) n sc2) _ _) := Lib.hid ⟨HO9.out, HRd1.out.2.keep K9 (fun x hx h2 e => by rcases e with e | e <;> omega)⟩
    have HD6 := Lib.hid (drew_set HD3.out (p := ⟨w1.heap.size, 0, none⟩) (show w.heap.size ≤ w1.heap.size by omega) (show b < w1.heap.size by omega) (.slice ra X.length rc))
    have HLn := Lib.hid HX.out
    obtain ⟨x0, x1, x2, x3⟩ := two_cells HBX3.out
    obtain ⟨-, -, x4, x5⟩ := two_cells HF3.out
    obtain ⟨y0, y1, -, -⟩ := two_cells (HBX3.out.set 0 (.slice ra X.length rc))
    obtain ⟨z0, z1, -, -⟩ := two_cells (HF3.out.other (a := ⟨w1.heap.size, 0, none⟩) (show w.heap.size ≠ w1.heap.size by omega) (.slice ra X.length rc))
    clear hor hd3 hXl hXr K3 K9
    go_wp2
    exact bodyPost_ret (v := .agg #[.slice ra X.length rc, .slice (some ⟨tc, 0, none⟩) n sc2]) (by simp [results, Try.results39, go_sem, z0, z1]) rfl (spoil_end HRd.out (Nat.lt_succ_self _) hbl HLn.out HD6.out)
  have s4 : (kd == 4) = false := by simp [e4]
  obtain ⟨x0, x1, -, -⟩ := two_cells HBX2.out
  obtain ⟨z0, z1, x4, x5⟩ := two_cells HF2.out
  have HYl := Lib.hid (show A.length ≤ 101 by rw [HN.out.1]; omega)
  go_wp2
  exact bodyPost_ret (v := .agg #[.slice (some ⟨tb, 0, none⟩) n sc1, .slice (some ⟨tc, 0, none⟩) n sc2]) (by simp [results, Try.results39, go_sem, z0, z1]) rfl (spoil_end HSA2.out.rd (Nat.lt_succ_self _) hbl HYl.out HD2.out)


end Go.Proofs.Ytgmhnjccgldddaa

namespace Go.Proofs.Ytgmhnjccgldddaa
set_option linter.unusedVariables false
set_option linter.unusedSimpArgs false
open Go.RowKit

def miA (A B : List (List Int)) : List (List Int) := if isPM A B then transL B else []
def miB (A B : List (List Int)) : List (List Int) := if isPM A B then transL A else []
def pmCodeM (A B : List (List Int)) : Int := if isPM A B then 0 else 1



set_option maxRecDepth 100000 in
set_option maxHeartbeats 800000 in
theorem c_specMirrorSolution (v0 u0 : Value) (A B : List (List Int)) (w : World) (hA : Sol w v0 u0 A B)  :
    Calls Try.prog 43 #[.agg #[v0, u0]] w (RSolRC w (miA A B) (miB A B) (pmCodeM A B)) := by
  by_cases hp0 : isPM A B = true
  case neg =>
    have hq0 : isPM A B = false := by simpa using hp0
    have HQ := Lib.hid hq0; clear hp0
    obtain ⟨a0, c0, rfl, _, _⟩ := hA.1.shape
    obtain ⟨a0s, c0s, rfl, _, _⟩ := hA.2.shape
    go_enter Try.func43, Try.ntmps43
    go_wp2_with fail
    obtain ⟨f0, f1, hW0, hsz⟩ := boxes2 w [.slice a0 A.length c0, .slice a0s B.length c0s] [.slice none 0 0, .slice none 0 0] 29 29
    obtain ⟨W0, hW⟩ : ∃ W, ((w.alloc (.cells #[.slice a0 A.length c0, .slice a0s B.length c0s] 29)).alloc (.cells #[.slice none 0 0, .slice none 0 0] 29)) = W := ⟨_, rfl⟩
    rw [hW] at f0 f1 hW0 hsz ⊢
    clear hW hsz
    refine (c_l02Map _ _ _ _ _ (hA.below hW0)).mono ?_; rintro e g0 ⟨rfl, hbg0⟩
    have hB0 := bb hW0 hbg0
    replace f0 := f0.under hbg0
    obtain ⟨cA0, cB0, -, -⟩ := two_cells f0
    replace f1 := f1.under hbg0
    obtain ⟨cA1, cB1, fA1, fB1⟩ := two_cells f1
    clear hbg0
    have HB := Lib.hid hB0
    clear hB0 hW0
    go_wp2
    refine bodyPost_ret (v := .tuple #[.agg #[.slice none 0 0, .slice none 0 0], .int .i64 1]) (by simp [results, Try.results43, go_sem, cA1, cB1]) rfl ⟨.slice none 0 0, .slice none 0 0, by simp [miA, miB, pmCodeM, HQ.out], ?_, ?_⟩
    · exact ⟨_, rfl, ⟨by simpa [miA, miB, pmCodeM, HQ.out] using (OwnRowsIn.nil0 0 0 _).rows, by simpa [miA, miB, pmCodeM, HQ.out] using (OwnRowsIn.nil0 0 0 _).rows⟩, Nat.le_refl _, Below.refl _ _⟩
    · first | exact HB.out | exact (HB.out.setCell (p := ⟨w.heap.size + 1, 0, none⟩) (by show _ ≤ w.heap.size + 1; omega) _).setCell (p := ⟨w.heap.size + 1, 1, none⟩) (by show _ ≤ w.heap.size + 1; omega) _
  have HP0 := Lib.hid hp0
  obtain ⟨a0, c0, rfl, _, _⟩ := hA.1.shape
  obtain ⟨a0s, c0s, rfl, _, _⟩ := hA.2.shape
  go_enter Try.func43, Try.ntmps43
  go_wp2_with fail
  obtain ⟨f0, f1, hW0, hsz⟩ := boxes2 w [.slice a0 A.length c0, .slice a0s B.length c0s] [.slice none 0 0, .slice none 0 0] 29 29
  obtain ⟨W0, hW⟩ : ∃ W, ((w.alloc (.cells #[.slice a0 A.length c0, .slice a0s B.length c0s] 29)).alloc (.cells #[.slice none 0 0, .slice none 0 0] 29)) = W := ⟨_, rfl⟩
  rw [hW] at f0 f1 hW0 hsz ⊢
  clear hW hsz
  refine (c_l02Map _ _ _ _ _ (hA.below hW0)).mono ?_; rintro e g0 ⟨rfl, hbg0⟩
  have hB0 := bb hW0 hbg0
  replace f0 := f0.under hbg0
  obtain ⟨cA0, cB0, -, -⟩ := two_cells f0
  replace f1 := f1.under hbg0
  obtain ⟨cA1, cB1, fA1, fB1⟩ := two_cells f1
  clear hbg0
  obtain ⟨q1, q2, -⟩ := isPM_parts HP0.out
  have HRA := Lib.hid ((hA.1.below hB0).below (Below.refl _ _).drew); have HRB := Lib.hid ((hA.2.below hB0).below (Below.refl _ _).drew)
  have HFc := Lib.hid f0.drew; have HGc := Lib.hid f1.drew; have HBc := Lib.hid hB0.drew; have HLt := Lib.hid f1.lt
  clear hA hB0 hW0 f0 f1 cA1 cB1 fA1 fB1
  go_wp2
  go_region_held3 (fun w' => w'.cell? ⟨w.heap.size, 0, none⟩ = some (.slice a0 A.length c0) ∧ w'.cell? ⟨w.heap.size, 1, none⟩ = some (.slice a0s B.length c0s))
    (first | go_keep | exact ⟨(two_cells HFc.out).1, (two_cells HFc.out).2.1⟩)
    ((first | (go_at_call 60; (with_reducible refine (c_l01Turn _ B _ HRB.out (isTab_sq q2)).mono ?_); rintro e w1 ⟨r1, rfl, ho1, hb1⟩; obtain ⟨ra1, rc1, hv1, _⟩ := ho1.rows.shape; rw [transL_length] at hv1; subst hv1; replace HFc := Lib.hid (HFc.out.under hb1); replace HGc := Lib.hid (HGc.out.under hb1); replace HBc := Lib.hid (bb HBc.out hb1); replace HRA := Lib.hid (HRA.out.below hb1); have HO1 := Lib.hid ho1; have HS1 := Lib.hid hb1.size; clear ho1 hb1) | (go_at_call 60; (with_reducible refine (c_l01Turn _ A _ HRA.out (isTab_sq q1)).mono ?_); rintro e w2 ⟨r2, rfl, ho2, hb2⟩; obtain ⟨ra2, rc2, hv2, _⟩ := ho2.rows.shape; rw [transL_length] at hv2; subst hv2; replace HFc := Lib.hid (HFc.out.under hb2); replace HGc := Lib.hid (HGc.out.under hb2); have HB2 := Lib.hid (bb HBc.out hb2); have HO2 := Lib.hid ho2; have HBx := Lib.hid hb2; obtain ⟨z0, z1, z2, z3⟩ := two_cells HGc.out; clear ho2 hb2)))
  obtain ⟨hA, hB⟩ := storedR (q := w.heap.size + 1) HB2.out ⟨HO1.out.under HBx.out, HO2.out.mono HS1.out⟩ (by omega) HLt.out
  have HA := Lib.hid hA; have HB := Lib.hid hB
  clear hA hB
  go_wp2
  exact bodyPost_ret (v := .tuple #[.agg #[.slice ra1 B.length rc1, .slice ra2 A.length rc2], .int .i64 0]) (by simp [results, Try.results43, go_sem, z0, z1]) rfl ⟨.slice ra1 B.length rc1, .slice ra2 A.length rc2, by simp [pmCodeM, HP0.out], by simpa [miA, miB, HP0.out] using HA.out, HB.out⟩

theorem mi_total (A B : List (List Int)) : total (miA A B) ≤ 144 ∧ total (miB A B) ≤ 144 := by
  unfold miA miB
  split
  · rename_i h
    obtain ⟨q1, q2, _⟩ := isPM_parts h
    have l1 := isTab_len q1; have l2 := isTab_len q2
    have h1 := total_le _ (tab_rows (g := fun x y => val2 B y x) l2.2)
    have h2 := total_le _ (tab_rows (g := fun x y => val2 A y x) l1.2)
    rw [tabOf_length] at h1 h2
    unfold transL
    omega
  · simp [total]
end Go.Proofs.Ytgmhnjccgldddaa
