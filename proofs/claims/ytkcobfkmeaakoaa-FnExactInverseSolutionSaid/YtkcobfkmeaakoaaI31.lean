/-
  The least form of a pair map: the program's function. Conditions: a pair map of at most seven elements.
-/
import Derived.Test.YtkcobfkmeaakoaaI30
import Derived.Test.YtkcobfkmeaakoaaR3
import Derived.Test.YtkcobfkmeaakoaaI3d
import Derived.Test.YtkcobfkmeaakoaaI3b
import Derived.Test.YtkcobfkmeaakoaaLTables
import Derived.ControlIn
namespace Go.Proofs.Ytkcobfkmeaakoaa
open Go Go.RowKit Go.Shelf
attribute [local go_sem] Oper.semAt_some

abbrev Tabs := List (List Int) × List (List Int)
def stepS (A B : List (List Int)) (X : Tabs) (p : List Int) : Tabs := if lexS (renL A p) (renL B p) X.1 X.2 then (renL A p, renL B p) else X
def bestS (A B : List (List Int)) (X : Tabs) (ps : List (List Int)) : Tabs := ps.foldl (stepS A B) X
theorem bestS_snoc (A B : List (List Int)) (X : Tabs) (ps : List (List Int)) (k : Nat) (h : k < ps.length) : bestS A B X (ps.take (k + 1)) = stepS A B (bestS A B X (ps.take k)) (row ps k) := by
  unfold bestS; rw [take_snoc_row _ _ h, List.foldl_append]; rfl
theorem bestS_len {A B : List (List Int)} (hl : B.length = A.length) : ∀ (X : Tabs) (ps : List (List Int)), X.1.length = A.length → X.2.length = A.length → (bestS A B X ps).1.length = A.length ∧ (bestS A B X ps).2.length = A.length
  | X, [], h1, h2 => ⟨h1, h2⟩
  | X, p :: ps, h1, h2 => by
    unfold bestS; rw [List.foldl_cons]
    refine bestS_len hl _ ps ?_ ?_
    · unfold stepS; split
      · simp
      · exact h1
    · unfold stepS; split
      · simpa using hl
      · exact h2
theorem lexS_pos {X P Y Q : List (List Int)} (h : 0 < cmpR X Y) : lexS X P Y Q = false := by
  unfold lexS
  have h1 : X ≠ Y := fun e => by rw [cmpR_zero.2 e] at h; omega
  rw [if_neg h1]
  cases e : lexR X Y with
  | false => rfl
  | true => have := cmpR_neg.2 e; omega
theorem lexS_neg {X P Y Q : List (List Int)} (h : cmpR X Y < 0) : lexS X P Y Q = true := by
  unfold lexS
  have h1 : X ≠ Y := fun e => by rw [cmpR_zero.2 e] at h; omega
  rw [if_neg h1, cmpR_neg.1 h]
def lsSA (A B : List (List Int)) : List (List Int) := (bestS A B (A, B) (allPerms A.length)).1
def lsSB (A B : List (List Int)) : List (List Int) := (bestS A B (A, B) (allPerms A.length)).2

/-- The best pair so far: made ahead of the loop (below m), or behind hi. -/
def BestP (lo m hi : Nat) (W : World) (va vb : Value) (X Y : List (List Int)) : Prop :=
  ∃ l1 h1 l2 h2, lo ≤ l1 ∧ lo ≤ l2 ∧ (h1 ≤ l2 ∨ h2 ≤ l1) ∧ ((h1 ≤ m ∧ h2 ≤ m) ∨ (hi ≤ l1 ∧ hi ≤ l2)) ∧ h1 ≤ W.heap.size ∧ h2 ≤ W.heap.size ∧ OwnRowsIn l1 h1 W va X ∧ OwnRowsIn l2 h2 W vb Y
theorem BestP.keep {lo m hi : Nat} {S : Nat → Prop} {W W' : World} {va vb : Value} {X Y : List (List Int)} (h : BestP lo m hi W va vb X Y) (k : Keep S W W') (h1 : ∀ b, b < m → ¬ S b) (h2 : ∀ b, hi ≤ b → ¬ S b) : BestP lo m hi W' va vb X Y := by
  obtain ⟨l1, g1, l2, g2, a, b, c, d, e, f, o1, o2⟩ := h
  have hs := k.size
  refine ⟨l1, g1, l2, g2, a, b, c, d, by omega, by omega, o1.keep k ?_, o2.keep k ?_⟩
  · intro x x1 x2
    rcases d with d | d
    · exact h1 x (by omega)
    · exact h2 x (by omega)
  · intro x x1 x2
    rcases d with d | d
    · exact h1 x (by omega)
    · exact h2 x (by omega)
theorem BestP.under {lo m hi : Nat} {W W' : World} {va vb : Value} {X Y : List (List Int)} (h : BestP lo m hi W va vb X Y) (hb : Below W.heap.size W W') : BestP lo m hi W' va vb X Y := by
  obtain ⟨l1, g1, l2, g2, a, b, c, d, e, f, o1, o2⟩ := h
  have hs := hb.size
  exact ⟨l1, g1, l2, g2, a, b, c, d, by omega, by omega, o1.under hb, o2.under hb⟩
theorem BestP.own {lo m hi : Nat} {W : World} {va vb : Value} {X Y : List (List Int)} (h : BestP lo m hi W va vb X Y) : OwnSol lo W.heap.size W va vb X Y := by
  obtain ⟨l1, g1, l2, g2, a, b, c, d, e, f, o1, o2⟩ := h
  exact ⟨l1, g1, l2, g2, a, e, b, f, c, o1, o2⟩

theorem BestP.keepL {lo m hi : Nat} {S : Nat → Prop} {W W' : World} {va vb : Value} {X Y : List (List Int)} (h : BestP lo m hi W va vb X Y) (k : Keep S W W') (h1 : ∀ b, lo ≤ b → b < m → ¬ S b) (h2 : ∀ b, lo ≤ b → hi ≤ b → ¬ S b) : BestP lo m hi W' va vb X Y := by
  obtain ⟨l1, g1, l2, g2, a, b, c, d, e, f, o1, o2⟩ := h
  have hs := k.size
  refine ⟨l1, g1, l2, g2, a, b, c, d, by omega, by omega, o1.keep k ?_, o2.keep k ?_⟩
  · intro x x1 x2
    rcases d with d | d
    · exact h1 x (by omega) (by omega)
    · exact h2 x (by omega) (by omega)
  · intro x x1 x2
    rcases d with d | d
    · exact h1 x (by omega) (by omega)
    · exact h2 x (by omega) (by omega)
theorem BestP.ownL {lo' lo m hi : Nat} {W : World} {va vb : Value} {X Y : List (List Int)} (h : BestP lo m hi W va vb X Y) (hl : lo' ≤ lo) : OwnSol lo' W.heap.size W va vb X Y := by
  obtain ⟨l1, g1, l2, g2, a, b, c, d, e, f, o1, o2⟩ := h
  exact ⟨l1, g1, l2, g2, by omega, e, by omega, f, c, o1, o2⟩
theorem BestP.mk0 {lo q s1 s2 hi : Nat} {w1 w2 V : World} {a b : Value} {A B : List (List Int)} (ho1 : OwnRows s1 w1 a A) (hb : Below w1.heap.size w1 w2) (ho2 : OwnRows s2 w2 b B) (hs1 : lo ≤ s1) (hs2 : w1.heap.size ≤ s2) (hlo : lo ≤ w1.heap.size)
    (hk : Keep (fun k => k = q) w2 V) (hq1 : q < s1 ∨ w1.heap.size ≤ q) (hq2 : q < s2 ∨ w2.heap.size ≤ q) : BestP lo V.heap.size hi V a b A B := by
  have h1 := hb.size; have h2 := hk.size
  exact ⟨s1, w1.heap.size, s2, w2.heap.size, hs1, by omega, .inl hs2, .inl ⟨by omega, h2⟩, by omega, h2, (ho1.inn.under hb).keep hk (fun x _ _ e => by omega), ho2.inn.keep hk (fun x _ _ e => by omega)⟩
theorem box_early {w3 : World} {q : Nat} {u v a b : Value} {t : TypeId} (h : Blk w3 q t [u, v]) : Blk ((w3.setCell ⟨q, 0, none⟩ a).setCell ⟨q, 1, none⟩ b) q t [a, b] := (h.set 0 a).set 1 b
theorem keep_early (w3 : World) (q : Nat) (a b : Value) : Keep (fun k => k = q) w3 ((w3.setCell ⟨q, 0, none⟩ a).setCell ⟨q, 1, none⟩ b) :=
  ((Keep.refl (fun k => k = q) w3).setCell (p := ⟨q, 0, none⟩) (.inl rfl) _).setCell (p := ⟨q, 1, none⟩) (.inl rfl) _
theorem keep_late (w3 : World) (o : Obj) : Keep (fun k => k = w3.heap.size) w3 (w3.alloc o) := (Keep.refl _ w3).alloc o

theorem fin_up {lo m hi q : Nat} {W w1 w9 w5 wz : World} {a b : Value} {XA XB : List (List Int)} (ho1 : OwnRows W.heap.size w1 a XA) (b0 : W.heap.size ≤ w1.heap.size) (b1 : Below w1.heap.size w1 w9) (ho2 : OwnRows w9.heap.size w5 b XB) (b95 : Below w9.heap.size w9 w5) (b2 : Below w5.heap.size w5 wz)
    (hW : hi ≤ W.heap.size) (hlo : lo ≤ W.heap.size) (hq : q < W.heap.size) : BestP lo m hi ((wz.setCell ⟨q, 0, none⟩ a).setCell ⟨q, 1, none⟩ b) a b XA XB := by
  have s1 := b1.size; have s2 := b95.size; have s3 := b2.size
  have hz : ((wz.setCell ⟨q, 0, none⟩ a).setCell ⟨q, 1, none⟩ b).heap.size = wz.heap.size := by simp [World.setCell]
  exact ⟨W.heap.size, w1.heap.size, w9.heap.size, w5.heap.size, hlo, by omega, .inl s1, .inr ⟨hW, by omega⟩, by omega, by omega, (((ho1.inn.under b1).under b95).under b2).keep (keep_early _ _ _ _) (fun x _ _ e => by omega), (ho2.inn.under b2).keep (keep_early _ _ _ _) (fun x _ _ e => by omega)⟩

set_option maxRecDepth 100000 in
set_option maxHeartbeats 8000000 in
theorem c_leastSolution (v0 u0 : Value) (A B : List (List Int)) (w : World) (hA : Sol w v0 u0 A B) (hp : isPM A B = true) (h7 : A.length ≤ 7) :
    Calls Try.prog 128 #[.agg #[v0, u0]] w (RSol w (lsSA A B) (lsSB A B)) := by
  obtain ⟨a0, c0, rfl, _, _⟩ := hA.1.shape
  obtain ⟨a0s, c0s, rfl, _, _⟩ := hA.2.shape
  obtain ⟨q1, q2, q3⟩ := isPM_parts hp
  obtain ⟨hl1, hl2⟩ := isTab_len q1
  have hap := allPerms_le h7
  have hrl : ∀ {t : List (List Int)}, isTab t = true → ∀ r ∈ t, r.length ≤ 1048576 := by
    intro t ht r hr
    obtain ⟨j, hj, rfl⟩ := List.getElem_of_mem hr
    have := isTab_row ht (x := j) (by omega) (by omega)
    have := isTab_len ht
    rw [row_nat _ _ hj] at *; omega
  have HRl := Lib.hid (And.intro (hrl q1) (hrl q2)); have HQ1 := Lib.hid q1; have HQ2 := Lib.hid q2; have HQ3 := Lib.hid q3.symm
  have hBl : B.length ≤ 1048576 := by omega
  clear hrl q1 q2 q3
  refine (callsIn_wide (n := 4)).1 ?_
  refine callsIn_of_wp_marks Try.func128 rfl trivial ?_ rfl
  simp only [Try.ntmps128, List.size_toArray, List.length_cons, List.length_nil, Nat.reduceAdd, Nat.reduceSub, Array.replicate_succ, Array.replicate_zero, List.push_toArray, List.append_toArray, List.nil_append, List.cons_append]
  refine wpIn_wide.2 ?_
  go_wp2_with fail
  obtain ⟨f0, f1, hW0, hsz⟩ := boxes2 w [.slice a0 A.length c0, .slice a0s B.length c0s] [.slice none 0 0, .slice none 0 0] 27 27
  obtain ⟨W0, hW⟩ : ∃ W, ((w.alloc (.cells #[.slice a0 A.length c0, .slice a0s B.length c0s] 27)).alloc (.cells #[.slice none 0 0, .slice none 0 0] 27)) = W := ⟨_, rfl⟩
  rw [hW] at f0 f1 hW0 hsz ⊢
  clear hW
  have HSZ := Lib.hid hsz
  have HRA := Lib.hid ((hA.1.below hW0).below (Below.refl _ _).drew); have HRB := Lib.hid ((hA.2.below hW0).below (Below.refl _ _).drew)
  have HF0 := Lib.hid f0; have HF1 := Lib.hid f1; have HB0 := Lib.hid hW0
  have HSk : Hid (∀ w' : World, Below W0.drew.heap.size W0.drew w' → w'.cell? ⟨w.heap.size, 0, none⟩ = some (.slice a0 A.length c0) ∧ w'.cell? ⟨w.heap.size, 1, none⟩ = some (.slice a0s B.length c0s)) := Lib.hid (fun w' hb => ⟨(two_cells (f0.drew.under hb)).1, (two_cells (f0.drew.under hb)).2.1⟩)
  have BC0 : Below W0.drew.heap.size W0.drew W0.drew := Below.refl _ _
  clear f0 f1 hW0 hsz
  have BCd : Below W0.drew.heap.size W0.drew (W0.alloc (.cells #[.slice none 0 0, .slice none 0 0] 27)).drew := (Below.refl W0.drew.heap.size W0.drew).alloc (Nat.le_refl _) (.cells #[.slice none 0 0, .slice none 0 0] 27)
  have zz := HSk.out _ BC0
  have zd := HSk.out _ BCd
  go_region_held3 (fun w' => w'.cell? ⟨w.heap.size, 0, none⟩ = some (.slice a0 A.length c0) ∧ w'.cell? ⟨w.heap.size, 1, none⟩ = some (.slice a0s B.length c0s))
    (first | go_keep | exact HSk.out _ BC0 | exact HSk.out _ BC1 | exact HSk.out _ BC2 | exact HSk.out _ BCd | exact HSk.out _ (BC1.alloc BC1.size _) | exact HSk.out _ (BC2.alloc BC2.size _) | exact HSk.out _ ((BC2.setCell (p := ⟨w1.heap.size, 0, none⟩) BC1.size _).setCell (p := ⟨w1.heap.size, 1, none⟩) BC1.size _) | exact HSk.out _ ((BC2.setCell (p := ⟨W0.heap.size, 0, none⟩) (Nat.le_refl _) _).setCell (p := ⟨W0.heap.size, 1, none⟩) (Nat.le_refl _) _))
    ((first
      | (go_at_call 91; (with_reducible refine (c_cloneTable _ A _ (HRA.out.below (by first | exact Below.refl _ _ | exact BCd)) (by omega) HRl.out.1).mono ?_); rintro e w1 ⟨r1, rfl, ho1, hb1⟩; obtain ⟨ra1, rc1, hv1, _⟩ := ho1.rows.shape; subst hv1; have BC1 : Below W0.drew.heap.size W0.drew w1 := bb (by first | exact BC0 | exact BCd) hb1; try (have HQ : Blk w1 W0.heap.size 27 [.slice none 0 0, .slice none 0 0] := ((Blk.new W0 [.slice none 0 0, .slice none 0 0] 27).drew).under hb1))
      | (go_at_call 91; (with_reducible refine (c_cloneTable _ B _ (HRB.out.below (bb BC1 (by first | exact Below.refl _ _ | exact (Below.refl _ _).alloc (Nat.le_refl _) _))) hBl HRl.out.2).mono ?_); rintro e w2 ⟨r2, rfl, ho2, hb2⟩; obtain ⟨ra2, rc2, hv2, _⟩ := ho2.rows.shape; subst hv2; have BC12 : Below w1.heap.size w1 w2 := bb (by first | exact Below.refl _ _ | exact (Below.refl _ _).alloc (Nat.le_refl _) _) hb2; have BC2 := bb BC1 BC12; first | (have HQz : Blk w2 W0.heap.size 27 [.slice none 0 0, .slice none 0 0] := HQ.under BC12; have hzz := two_cells HQz; obtain ⟨z1, z2, z3, z4⟩ := hzz) | (have HQz : Blk w2 w1.heap.size 27 [.slice none 0 0, .slice none 0 0] := (Blk.new w1 [.slice none 0 0, .slice none 0 0] 27).under hb2; have hzz := two_cells HQz; obtain ⟨z1, z2, z3, z4⟩ := hzz) | skip)))
  all_goals
    have hsz1 : W0.heap.size ≤ w1.heap.size := BC1.size
    have hsz2 : w1.heap.size ≤ w2.heap.size := BC12.size
    first
      | (obtain ⟨V, hV⟩ : ∃ V, w2.alloc (.cells #[.slice ra1 A.length rc1, .slice ra2 B.length rc2] 27) = V := ⟨_, rfl⟩
         rw [hV]
         have hkk : Keep (fun k => k = w2.heap.size) w2 V := by rw [← hV]; exact keep_late _ _
         have FQ : Blk V (w2.heap.size) 27 [.slice ra1 A.length rc1, .slice ra2 B.length rc2] := by rw [← hV]; exact Blk.new w2 [.slice ra1 A.length rc1, .slice ra2 B.length rc2] 27
         have hb0 : ∀ hi, BestP W0.heap.size V.heap.size hi V (.slice ra1 A.length rc1) (.slice ra2 B.length rc2) A B := fun hi => BestP.mk0 ho1 BC12 ho2 (by first | exact Nat.le_refl _ | (simp; done) | (simp; omega)) (by first | exact Nat.le_refl _ | (simp; done) | (simp; omega)) hsz1 hkk (by first | exact .inr (Nat.le_refl _) | (left; simp; done) | (right; exact hsz2) | (left; simp; omega)) (by first | exact .inr (Nat.le_refl _) | (left; have := HQ.lt; omega) | (left; simp; done) | (left; simp; omega))
         obtain ⟨q, hq⟩ : ∃ q, w2.heap.size = q := ⟨_, rfl⟩
         rw [hq] at hkk FQ ⊢
         have hq0 : W0.heap.size ≤ q := by omega
         clear hV hq)
      | (obtain ⟨V, hV⟩ : ∃ V, (w2.setCell ⟨w1.heap.size, 0, none⟩ (.slice ra1 A.length rc1)).setCell ⟨w1.heap.size, 1, none⟩ (.slice ra2 B.length rc2) = V := ⟨_, rfl⟩
         rw [hV]
         have hkk : Keep (fun k => k = w1.heap.size) w2 V := by rw [← hV]; exact keep_early _ _ _ _
         have FQ : Blk V (w1.heap.size) 27 [.slice ra1 A.length rc1, .slice ra2 B.length rc2] := by rw [← hV]; exact box_early HQz
         have hb0 : ∀ hi, BestP W0.heap.size V.heap.size hi V (.slice ra1 A.length rc1) (.slice ra2 B.length rc2) A B := fun hi => BestP.mk0 ho1 BC12 ho2 (by first | exact Nat.le_refl _ | (simp; done) | (simp; omega)) (by first | exact Nat.le_refl _ | (simp; done) | (simp; omega)) hsz1 hkk (by first | exact .inr (Nat.le_refl _) | (left; simp; done) | (right; exact hsz2) | (left; simp; omega)) (by first | exact .inr (Nat.le_refl _) | (left; have := HQ.lt; omega) | (left; simp; done) | (left; simp; omega))
         obtain ⟨q, hq⟩ : ∃ q, w1.heap.size = q := ⟨_, rfl⟩
         rw [hq] at hkk FQ ⊢
         have hq0 : W0.heap.size ≤ q := by omega
         clear hV hq)
      | (obtain ⟨V, hV⟩ : ∃ V, (w2.setCell ⟨W0.heap.size, 0, none⟩ (.slice ra1 A.length rc1)).setCell ⟨W0.heap.size, 1, none⟩ (.slice ra2 B.length rc2) = V := ⟨_, rfl⟩
         rw [hV]
         have hkk : Keep (fun k => k = W0.heap.size) w2 V := by rw [← hV]; exact keep_early _ _ _ _
         have FQ : Blk V (W0.heap.size) 27 [.slice ra1 A.length rc1, .slice ra2 B.length rc2] := by rw [← hV]; exact box_early HQz
         have hb0 : ∀ hi, BestP W0.heap.size V.heap.size hi V (.slice ra1 A.length rc1) (.slice ra2 B.length rc2) A B := fun hi => BestP.mk0 ho1 BC12 ho2 (by first | exact Nat.le_refl _ | (simp; done) | (simp; omega)) (by first | exact Nat.le_refl _ | (simp; done) | (simp; omega)) hsz1 hkk (by first | exact .inr (Nat.le_refl _) | (left; simp; done) | (right; exact hsz2) | (left; simp; omega)) (by first | exact .inr (Nat.le_refl _) | (left; have := HQ.lt; omega) | (left; simp; done) | (left; simp; omega))
         obtain ⟨q, hq⟩ : ∃ q, W0.heap.size = q := ⟨_, rfl⟩
         rw [hq] at hkk FQ ⊢
         have hq0 : W0.heap.size ≤ q := by omega
         clear hV hq)
    have BV : Below W0.heap.size W0 V := (show Below W0.heap.size W0 w2 from bb (Below.refl W0.heap.size W0).drew BC2).trans (hkk.below fun k hk => ⟨by omega, by omega⟩)
    have HBest := Lib.hid hb0; have HFQ := Lib.hid FQ; have HBV := Lib.hid BV
    have hqV := FQ.lt
    obtain ⟨y1, y2, y3, y4⟩ := two_cells (HF0.out.under BV)
    clear hb0 FQ BV hkk BC0 BC1 BC2 BC12 BCd ho1 ho2 hb1 hb2 HSk HRA HRB
    go_wp2_with fail
    refine (c_permutations _ _).mono ?_; rintro e w3 ⟨g, rfl, hg, hcell, hb3⟩
    have hgg : Below W0.heap.size W0 w3 := bb HBV.out hb3
    have hB3 : Below w.heap.size w w3 := bb HB0.out hgg
    have hbox := HFQ.out.under hb3
    have hs2 : Blk w3 w.heap.size 27 [.slice a0 A.length c0, .slice a0s B.length c0s] := HF0.out.under hgg
    have hr2 : Blk w3 (w.heap.size + 1) 27 [.slice none 0 0, .slice none 0 0] := HF1.out.under hgg
    have hVs : V.heap.size ≤ w3.heap.size := hb3.size
    have hW0s : W0.heap.size = w.heap.size + 1 + 1 := HSZ.out
    have hb0 : ∀ hi W, Below w3.heap.size w3 W → BestP W0.heap.size V.heap.size hi W (.slice ra1 A.length rc1) (.slice ra2 B.length rc2) A B := fun hi W hb =>
      (HBest.out hi).under (bb hb3 hb)
    clear hb3 y1 y2 y3 y4
    go_wp2_with fail
    refine (wpIn_wide (n := 4)).1 ?_
    obtain ⟨N, hN⟩ : ∃ N, N = A.length := ⟨_, rfl⟩
    have hcellN : w3.cell? ⟨g, 0, none⟩ = some (.int .i64 N) := by rw [hN]; exact hcell
    have HN := Lib.hid hN
    have hN1 : 1 ≤ N ∧ N ≤ 7 := by omega
    have HRnA : Hid (∀ k : Nat, k < (allPerms N).length → RenOk A (row (allPerms N) k)) := Lib.hid (by rw [hN]; intro k hk; exact ⟨HQ1.out, (allPerms_row hk).1, (allPerms_row hk).2⟩)
    have HRnB : Hid (∀ k : Nat, k < (allPerms N).length → RenOk B (row (allPerms N) k)) := Lib.hid (by rw [hN]; intro k hk; exact ⟨HQ2.out, (allPerms_row hk).1, (allPerms_row hk).2.trans HQ3.out.symm⟩)
    clear hN hcell
    refine wpIn_rangeFunc_rows rfl (by omega) (gf := 160) (lb := #[.pointer (some ⟨g, 0, none⟩)]) rfl trivial eg_permutations1
      (fun b => b = q) (by rintro b rfl; exact hbox.lt) (c_perms1 N hN1.1 (by omega) _ g w3 hcellN) rfl
      (fun hi k W => ∃ va vb, Blk W q 27 [va, vb] ∧ BestP W0.heap.size V.heap.size hi W va vb (bestS A B (A, B) ((allPerms N).take k)).1 (bestS A B (A, B) ((allPerms N).take k)).2 ∧ Blk W w.heap.size 27 [.slice a0 A.length c0, .slice a0s B.length c0s] ∧ Blk W (w.heap.size + 1) 27 [.slice none 0 0, .slice none 0 0] ∧ Below w.heap.size w W ∧ w3.heap.size ≤ W.heap.size)
      (fun _ _ _ _ => False)
      ?hI (fun _ _ _ _ _ h _ => h) ?h0
      (fun u => { tmps := #[.agg #[.slice a0 A.length c0, .slice a0s B.length c0s], .pointer (some ⟨w.heap.size, 0, none⟩), .pointer (some ⟨w.heap.size + 1, 0, none⟩), .pointer (some ⟨q, 0, none⟩), u, undef, undef, undef, .pointer (some ⟨w.heap.size, 0, none⟩), .slice a0 A.length c0, .slice ra1 A.length rc1, .pointer (some ⟨w.heap.size, 1, none⟩), .slice a0s B.length c0s, .slice ra2 B.length rc2, .agg #[.slice ra1 A.length rc1, .slice ra2 B.length rc2], .pointer (some ⟨w.heap.size, 0, none⟩), .slice a0 A.length c0, .int .i64 A.length, .func (.func 160) #[] #[.pointer (some ⟨g, 0, none⟩)], u, undef, undef, undef, undef, undef, undef, undef, undef, undef, undef, undef, undef, undef, undef, undef, undef, undef, undef, undef, undef, undef, undef, undef, undef, undef, undef], defers := [] })
      ?assign ?body ?done ?stop
    case hI =>
      rintro hi k W W' ⟨va, vb, h1, h2, h3, h4, h5, h6⟩ hk
      exact ⟨va, vb, h1.of_block (hk.block _ h1.lt (by omega)), h2.keep hk (fun b hb h => by omega) (fun b hb h => by omega), h3.of_block (hk.block _ h3.lt (by omega)), h4.of_block (hk.block _ h4.lt (by omega)), h5.trans (hk.below fun k hk' => ⟨by have := h5.size; omega, by omega⟩), Nat.le_trans h6 hk.size⟩
    case h0 =>
      intro W' hb
      exact ⟨_, _, hbox.under hb, by simpa [bestS] using hb0 W'.heap.size W' hb, hs2.under hb, hr2.under hb, bb hB3 hb, hb.size⟩
    case assign =>
      intro l u W K hK
      gi_wp2
      exact hK
    case body =>
      rintro l hi k u W ⟨va, vb, h1, h2, h3, h4, h5, h6⟩ hhi hW hk hu
      have hX := bestS_len HQ3.out (A, B) ((allPerms N).take k) rfl HQ3.out
      obtain ⟨X, hXe⟩ : ∃ X, X = bestS A B (A, B) ((allPerms N).take k) := ⟨_, rfl⟩
      have hsnoc := bestS_snoc A B (A, B) (allPerms N) k hk
      rw [← hXe] at h2 hX hsnoc
      have hbr := h2.own.sol
      obtain ⟨xa, xc, hv1, _, _⟩ := hbr.1.shape
      obtain ⟨ya, yc, hv2, _, _⟩ := hbr.2.shape
      rw [hX.1] at hv1; rw [hX.2] at hv2
      subst hv1 hv2
      have hrnA := HRnA.out k hk; have hrnB := HRnB.out k hk
      have HU := Lib.hid hu; have HR := Lib.hid h2; have H1 := Lib.hid h1; have H3 := Lib.hid h3; have H4 := Lib.hid h4; have H5 := Lib.hid h5; have HBrA := Lib.hid hbr.1; have HBrB := Lib.hid hbr.2; have HSn := Lib.hid hsnoc; have HrA := Lib.hid hrnA; have HrB := Lib.hid hrnB
      have HAr := Lib.hid (hA.1.below h5); have HBrr := Lib.hid (hA.2.below h5)
      obtain ⟨c31, c32, -, -⟩ := two_cells h3
      have hqw3 : q < w3.heap.size := hbox.lt
      clear hu h2 h1 h3 h4 h5 hbr hbox hs2 hr2 hB3 hgg hb0 hcellN hX hXe hsnoc hrnA hrnB
      gi_wp2_with (refine ⟨trivial, ?_⟩; gi_at_call 118; refine (CallsIn.inRound l (callsIn_wide.2 (c_renamed _ _ A _ _ HAr.out HU.out HrA.out))).mono ?_; rintro e w1 ⟨r1, rfl, ho1, hb1⟩; obtain ⟨qa, qc, hqv, _⟩ := ho1.rows.shape; rw [renL_length] at hqv; subst hqv; obtain ⟨c41, c42, -, -⟩ := two_cells (H1.out.under hb1); obtain ⟨c43, c44, -, -⟩ := two_cells (H3.out.under hb1); have HO1 := Lib.hid ho1; have HB1 := Lib.hid hb1; clear ho1 hb1)
      rcases Int.lt_trichotomy (cmpR (renL A (row (allPerms N) k)) X.1) 0 with hc | hc | hc
      · have HLx := Lib.hid (lexS_neg (P := renL B (row (allPerms N) k)) (Q := X.2) hc)
        have hc0 : ¬ (0 < cmpR (renL A (row (allPerms N) k)) X.1) := by omega
        gi_wp2_with (refine ⟨trivial, ?_⟩; gi_at_call 119; refine (CallsIn.inRound l (callsIn_wide.2 (c_compareTables _ _ _ _ _ HO1.out.rows (HBrA.out.below HB1.out)))).mono ?_; rintro e w9 ⟨rfl, nq, hw9⟩; have HX9 := Lib.hid (show Below w1.heap.size w1 w9 by rw [hw9]; exact below_drewN (Below.refl _ _) nq); clear hw9; obtain ⟨d41, d42, d4f, d4g⟩ := two_cells ((H1.out.under HB1.out).under HX9.out); obtain ⟨d43, d44, -, -⟩ := two_cells ((H3.out.under HB1.out).under HX9.out))
        gi_wp2_with (refine ⟨trivial, ?_⟩; gi_at_call 118; refine (CallsIn.inRound l (callsIn_wide.2 (c_renamed _ _ B _ _ (HBrr.out.below (bb HB1.out HX9.out)) (HU.out.below (bb HB1.out HX9.out)) HrB.out))).mono ?_; rintro e w5 ⟨r5, rfl, ho5, hb5⟩; obtain ⟨qb, qd, hqv5, _⟩ := ho5.rows.shape; rw [renL_length, HQ3.out] at hqv5; subst hqv5; have HO5 := Lib.hid ho5; have HB5 := Lib.hid hb5; have hq5 := (((H1.out.under HB1.out).under HX9.out).under hb5); obtain ⟨e41, e42, e4f, e4g⟩ := two_cells hq5; obtain ⟨g41, g42, g4f, g4g⟩ := two_cells (hq5.alloc (.cells #[.slice qa A.length qc, .slice qb A.length qd] 27)); clear ho5 hb5 hq5)
        gi_wp2_with (refine ⟨trivial, ?_⟩)
        have hz : Below w5.heap.size w5 (w5.alloc (.cells #[.slice qa A.length qc, .slice qb A.length qd] 27)) := (Below.refl _ _).alloc (Nat.le_refl _) _
        refine ⟨(((Keep.refl (fun b => b = q ∨ hi ≤ b) W).under (bb (bb (bb HB1.out HX9.out) HB5.out) hz)).setCell (p := ⟨q, 0, none⟩) (.inl (.inl rfl)) _).setCell (p := ⟨q, 1, none⟩) (.inl (.inl rfl)) _, _, _, box_early (H1.out.under (bb (bb (bb HB1.out HX9.out) HB5.out) hz)), ?_, ?_, ?_, ?_, ?_⟩
        · rw [HSn.out]
          unfold stepS
          rw [if_pos HLx.out]
          exact fin_up HO1.out HB1.out.size HX9.out HO5.out HB5.out hz hW (by omega) (by omega)
        · exact (((H3.out.under (bb (bb (bb HB1.out HX9.out) HB5.out) hz)).other (a := ⟨q, 0, none⟩) (by show w.heap.size ≠ q; omega) _).other (a := ⟨q, 1, none⟩) (by show w.heap.size ≠ q; omega) _)
        · exact (((H4.out.under (bb (bb (bb HB1.out HX9.out) HB5.out) hz)).other (a := ⟨q, 0, none⟩) (by show w.heap.size + 1 ≠ q; omega) _).other (a := ⟨q, 1, none⟩) (by show w.heap.size + 1 ≠ q; omega) _)
        · exact ((bb H5.out (bb (bb (bb HB1.out HX9.out) HB5.out) hz)).setCell (p := ⟨q, 0, none⟩) (by show w.heap.size ≤ q; omega) _).setCell (p := ⟨q, 1, none⟩) (by show w.heap.size ≤ q; omega) _
        · have hs := (bb (bb (bb HB1.out HX9.out) HB5.out) hz).size
          exact Nat.le_trans (Nat.le_trans h6 hs) (by simp [World.setCell])
      · have hc0 : ¬ (0 < cmpR (renL A (row (allPerms N) k)) X.1) := by omega
        have hc1 : ¬ (cmpR (renL A (row (allPerms N) k)) X.1 < 0) := by omega
        gi_wp2_with (refine ⟨trivial, ?_⟩; gi_at_call 119; refine (CallsIn.inRound l (callsIn_wide.2 (c_compareTables _ _ _ _ _ HO1.out.rows (HBrA.out.below HB1.out)))).mono ?_; rintro e w9 ⟨rfl, nq, hw9⟩; have HX9 := Lib.hid (show Below w1.heap.size w1 w9 by rw [hw9]; exact below_drewN (Below.refl _ _) nq); clear hw9; obtain ⟨d41, d42, d4f, d4g⟩ := two_cells ((H1.out.under HB1.out).under HX9.out); obtain ⟨d43, d44, -, -⟩ := two_cells ((H3.out.under HB1.out).under HX9.out))
        gi_wp2_with (refine ⟨trivial, ?_⟩; gi_at_call 118; refine (CallsIn.inRound l (callsIn_wide.2 (c_renamed _ _ B _ _ (HBrr.out.below (bb HB1.out HX9.out)) (HU.out.below (bb HB1.out HX9.out)) HrB.out))).mono ?_; rintro e w5 ⟨r5, rfl, ho5, hb5⟩; obtain ⟨qb, qd, hqv5, _⟩ := ho5.rows.shape; rw [renL_length, HQ3.out] at hqv5; subst hqv5; have HO5 := Lib.hid ho5; have HB5 := Lib.hid hb5; have hq5 := (((H1.out.under HB1.out).under HX9.out).under hb5); obtain ⟨e41, e42, e4f, e4g⟩ := two_cells hq5; obtain ⟨g41, g42, g4f, g4g⟩ := two_cells (hq5.alloc (.cells #[.slice qa A.length qc, .slice qb A.length qd] 27)); clear ho5 hb5 hq5)
        have hrdO : Sol (w5.alloc (.cells #[.slice qa A.length qc, .slice qb A.length qd] 27)) (.slice qa A.length qc) (.slice qb A.length qd) (renL A (row (allPerms N) k)) (renL B (row (allPerms N) k)) := ⟨((HO1.out.rows.below HX9.out).below HB5.out).below ((Below.refl _ _).alloc (Nat.le_refl _) _), HO5.out.rows.below ((Below.refl _ _).alloc (Nat.le_refl _) _)⟩
        have hrdB : Sol (w5.alloc (.cells #[.slice qa A.length qc, .slice qb A.length qd] 27)) (.slice xa A.length xc) (.slice ya A.length yc) X.1 X.2 := ⟨(HBrA.out.below (bb (bb HB1.out HX9.out) HB5.out)).below ((Below.refl _ _).alloc (Nat.le_refl _) _), (HBrB.out.below (bb (bb HB1.out HX9.out) HB5.out)).below ((Below.refl _ _).alloc (Nat.le_refl _) _)⟩
        have HrdO := Lib.hid hrdO; have HrdB := Lib.hid hrdB
        clear hrdO hrdB
        by_cases hx : lexS (renL A (row (allPerms N) k)) (renL B (row (allPerms N) k)) X.1 X.2 = true
        · have HLx := Lib.hid hx
          have hcs : orI 0 (cmpR (renL B (row (allPerms N) k)) X.2) < 0 := by have h := orI_neg.2 hx; rwa [hc] at h
          clear hx
          gi_wp2_with (refine ⟨trivial, ?_⟩; gi_at_call 173; refine (CallsIn.inRound l (callsIn_wide.2 (c_compareSolutions _ _ _ _ _ _ _ _ _ HrdO.out HrdB.out))).mono ?_; rintro e w7 ⟨rfl, hb7⟩; obtain ⟨h41, h42, h4f, h4g⟩ := two_cells (((((H1.out.under HB1.out).under HX9.out).under HB5.out).alloc (.cells #[.slice qa A.length qc, .slice qb A.length qd] 27)).under hb7); obtain ⟨i41, i42, -, -⟩ := two_cells ((Blk.new w5 [.slice qa A.length qc, .slice qb A.length qd] 27).under hb7); have HB7 := Lib.hid hb7; clear hb7)
          have hz : Below w5.heap.size w5 w7 := bb ((Below.refl _ _).alloc (Nat.le_refl _) _) HB7.out
          refine ⟨(((Keep.refl (fun b => b = q ∨ hi ≤ b) W).under (bb (bb (bb HB1.out HX9.out) HB5.out) hz)).setCell (p := ⟨q, 0, none⟩) (.inl (.inl rfl)) _).setCell (p := ⟨q, 1, none⟩) (.inl (.inl rfl)) _, _, _, box_early (H1.out.under (bb (bb (bb HB1.out HX9.out) HB5.out) hz)), ?_, ?_, ?_, ?_, ?_⟩
          · rw [HSn.out]
            unfold stepS
            rw [if_pos HLx.out]
            exact fin_up HO1.out HB1.out.size HX9.out HO5.out HB5.out hz hW (by omega) (by omega)
          · exact (((H3.out.under (bb (bb (bb HB1.out HX9.out) HB5.out) hz)).other (a := ⟨q, 0, none⟩) (by show w.heap.size ≠ q; omega) _).other (a := ⟨q, 1, none⟩) (by show w.heap.size ≠ q; omega) _)
          · exact (((H4.out.under (bb (bb (bb HB1.out HX9.out) HB5.out) hz)).other (a := ⟨q, 0, none⟩) (by show w.heap.size + 1 ≠ q; omega) _).other (a := ⟨q, 1, none⟩) (by show w.heap.size + 1 ≠ q; omega) _)
          · exact ((bb H5.out (bb (bb (bb HB1.out HX9.out) HB5.out) hz)).setCell (p := ⟨q, 0, none⟩) (by show w.heap.size ≤ q; omega) _).setCell (p := ⟨q, 1, none⟩) (by show w.heap.size ≤ q; omega) _
          · have hs := (bb (bb (bb HB1.out HX9.out) HB5.out) hz).size
            exact Nat.le_trans (Nat.le_trans h6 hs) (by simp [World.setCell])
        · have hx0 : lexS (renL A (row (allPerms N) k)) (renL B (row (allPerms N) k)) X.1 X.2 = false := by simpa using hx
          have HLx := Lib.hid hx0
          have hcs : ¬ (orI 0 (cmpR (renL B (row (allPerms N) k)) X.2) < 0) := fun h => hx (orI_neg.1 (by rw [hc]; exact h))
          clear hx hx0
          gi_wp2_with (refine ⟨trivial, ?_⟩; gi_at_call 173; refine (CallsIn.inRound l (callsIn_wide.2 (c_compareSolutions _ _ _ _ _ _ _ _ _ HrdO.out HrdB.out))).mono ?_; rintro e w7 ⟨rfl, hb7⟩; have HB7 := Lib.hid hb7; clear hb7)
          have hz : Below W.heap.size W w7 := bb (bb (bb (bb HB1.out HX9.out) HB5.out) ((Below.refl _ _).alloc (Nat.le_refl _) _)) HB7.out
          refine ⟨(Keep.refl (fun b => b = q ∨ hi ≤ b) W).under hz, _, _, H1.out.under hz, ?_, H3.out.under hz, H4.out.under hz, bb H5.out hz, Nat.le_trans h6 hz.size⟩
          rw [HSn.out]
          unfold stepS
          rw [if_neg (by rw [HLx.out]; simp)]
          exact HR.out.under hz
      · have HLx := Lib.hid (lexS_pos (P := renL B (row (allPerms N) k)) (Q := X.2) hc)
        gi_wp2_with (refine ⟨trivial, ?_⟩; gi_at_call 119; refine (CallsIn.inRound l (callsIn_wide.2 (c_compareTables _ _ _ _ _ HO1.out.rows (HBrA.out.below HB1.out)))).mono ?_; rintro e w9 ⟨rfl, nq, hw9⟩; have HX9 := Lib.hid (show Below w1.heap.size w1 w9 by rw [hw9]; exact below_drewN (Below.refl _ _) nq); clear hw9; obtain ⟨d41, d42, d4f, d4g⟩ := two_cells ((H1.out.under HB1.out).under HX9.out); obtain ⟨d43, d44, -, -⟩ := two_cells ((H3.out.under HB1.out).under HX9.out))
        have hz : Below W.heap.size W w9 := bb HB1.out HX9.out
        refine ⟨(Keep.refl (fun b => b = q ∨ hi ≤ b) W).under hz, _, _, H1.out.under hz, ?_, H3.out.under hz, H4.out.under hz, bb H5.out hz, Nat.le_trans h6 hz.size⟩
        rw [HSn.out]
        unfold stepS
        rw [if_neg (by rw [HLx.out]; simp)]
        exact HR.out.under hz
    case done =>
      rintro D hi W hD hDh ⟨va, vb, h1, h2, h3, h4, h5, h6⟩ hK
      rw [List.take_of_length_le (Nat.le_refl _)] at h2
      obtain ⟨X, hXe⟩ : ∃ X, X = bestS A B (A, B) (allPerms N) := ⟨_, rfl⟩
      have hX := bestS_len HQ3.out (A, B) (allPerms N) rfl HQ3.out
      rw [← hXe] at h2 hX
      have hbr := h2.own.sol
      obtain ⟨xa, xc, hv1, _, _⟩ := hbr.1.shape
      obtain ⟨ya, yc, hv2, _, _⟩ := hbr.2.shape
      rw [hX.1] at hv1; rw [hX.2] at hv2
      subst hv1 hv2
      have hqw3 : q < w3.heap.size := hbox.lt
      obtain ⟨c51, c52, -, -⟩ := two_cells h1
      obtain ⟨c61, c62, c63, c64⟩ := two_cells h4
      have H2 := Lib.hid h2; have H5 := Lib.hid h5; have HK := Lib.hid hK; have HXe := Lib.hid hXe; have H4 := Lib.hid h4
      clear h1 h2 h3 h4 h5 hK hbr hbox hs2 hr2 hB3 hgg hb0 hcellN hX hXe
      go_wp2_with fail
      obtain ⟨W1, hW1⟩ : ∃ W1, (W.setCell ⟨w.heap.size + 1, 0, none⟩ (.slice xa A.length xc)).setCell ⟨w.heap.size + 1, 1, none⟩ (.slice ya A.length yc) = W1 := ⟨_, rfl⟩
      have hk1 : Keep (fun b => b = w.heap.size + 1) W W1 := by rw [← hW1]; exact keep_early _ _ _ _
      have hbx : Blk W1 (w.heap.size + 1) 27 [.slice xa A.length xc, .slice ya A.length yc] := by rw [← hW1]; exact box_early H4.out
      have hDW : D < W.heap.size := by
        rcases Nat.lt_or_ge D W.heap.size with h | h
        · exact h
        · have := HK.out; rw [Array.getElem?_eq_none h] at this; cases this
      have hK1 : W1.heap[D]? = some (.deferred (some [])) := by rw [hk1.block D hDW (by omega)]; exact HK.out
      rw [hW1]
      clear hW1
      refine ⟨by simp, .inl ⟨_, _, rfl, run_takeDeferred hK1, ?_⟩⟩
      have hk := keep_putObj W1 D (.deferred none)
      have hbx2 := hbx.of_block (hk.block _ hbx.lt (by omega))
      obtain ⟨x1, x2, -, -⟩ := two_cells hbx2
      refine ⟨.agg #[.slice xa A.length xc, .slice ya A.length yc], by simp [results, Try.results128, go_sem, x1, x2], _, _, rfl, ?_, ?_⟩
      · have g1 := (H2.out.keepL hk1 (fun b hb _ h => by omega) (fun b hb _ h => by omega)).keepL hk (fun b hb hb2 h => by omega) (fun b hb hb2 h => by omega)
        have e : X = bestS A B (A, B) (allPerms A.length) := by rw [HXe.out, HN.out]
        have g2 := g1.ownL (lo' := w.heap.size) (by omega)
        rw [e] at g2; exact g2
      · have hs5 := H5.out.size
        have hs6 := hk1.size
        exact (H5.out.trans (hk1.below fun k hk' => ⟨by omega, by omega⟩)).trans (hk.below fun k hk' => ⟨by omega, by omega⟩)
    case stop =>
      rintro D hi k c W hD _ h _
      exact h.elim
end Go.Proofs.Ytkcobfkmeaakoaa
