/-
  The least form of a pair map: the reference's function. Conditions: a pair map of at most seven elements.
-/
import Derived.Test.YtkcobfkmeaakoaaI31
import Derived.Test.YtkcobfkmeaakoaaS4
import Derived.Test.YtkcobfkmeaakoaaI19
namespace Go.Proofs.Ytkcobfkmeaakoaa
open Go Go.RowKit Go.Shelf
attribute [local go_sem] Oper.semAt_some

/-- A pair of tables in an interval of blocks that holds neither box q. -/
def SolP (lo q : Nat) (W : World) (va vb : Value) (X Y : List (List Int)) : Prop := ∃ l h, lo ≤ l ∧ h ≤ W.heap.size ∧ (h ≤ q ∨ q < l) ∧ OwnSol l h W va vb X Y
theorem SolP.keep {lo q : Nat} {S : Nat → Prop} {W W' : World} {va vb : Value} {X Y : List (List Int)} (h : SolP lo q W va vb X Y) (k : Keep S W W') (hS : ∀ b, lo ≤ b → b ≠ q → b < W.heap.size → ¬ S b) : SolP lo q W' va vb X Y := by
  obtain ⟨l, g, a, b, c, d⟩ := h
  exact ⟨l, g, a, Nat.le_trans b k.size, c, d.keep k fun x x1 x2 => hS x (by omega) (by omega) (by omega)⟩
theorem SolP.under {lo q : Nat} {W W' : World} {va vb : Value} {X Y : List (List Int)} (h : SolP lo q W va vb X Y) (hb : Below W.heap.size W W') : SolP lo q W' va vb X Y :=
  h.keep (S := fun b => W.heap.size ≤ b) (Keep.of_below hb) fun x _ _ x1 x2 => by omega
theorem SolP.sol {lo q : Nat} {W : World} {va vb : Value} {X Y : List (List Int)} (h : SolP lo q W va vb X Y) : Sol W va vb X Y := by
  obtain ⟨l, g, a, b, c, d⟩ := h; exact d.sol
theorem SolP.own {lo lo' q : Nat} {W : World} {va vb : Value} {X Y : List (List Int)} (h : SolP lo q W va vb X Y) (hl : lo' ≤ lo) : OwnSol lo' W.heap.size W va vb X Y := by
  obtain ⟨l, g, a, b, c, d⟩ := h; exact d.widen (by omega) b
/-- The permutations' table, apart from the box q. -/
def AllP (lo q : Nat) (W : World) (v : Value) (t : List (List Int)) : Prop := ∃ l h, lo ≤ l ∧ h ≤ W.heap.size ∧ (h ≤ q ∨ q < l) ∧ OwnRowsIn l h W v t
theorem AllP.keep {lo q : Nat} {S : Nat → Prop} {W W' : World} {v : Value} {t : List (List Int)} (h : AllP lo q W v t) (k : Keep S W W') (hS : ∀ b, lo ≤ b → b ≠ q → b < W.heap.size → ¬ S b) : AllP lo q W' v t := by
  obtain ⟨l, g, a, b, c, d⟩ := h
  exact ⟨l, g, a, Nat.le_trans b k.size, c, d.keep k fun x x1 x2 => hS x (by omega) (by omega) (by omega)⟩
theorem AllP.under {lo q : Nat} {W W' : World} {v : Value} {t : List (List Int)} (h : AllP lo q W v t) (hb : Below W.heap.size W W') : AllP lo q W' v t :=
  h.keep (S := fun b => W.heap.size ≤ b) (Keep.of_below hb) fun x _ _ x1 x2 => by omega
theorem AllP.rows {lo q : Nat} {W : World} {v : Value} {t : List (List Int)} (h : AllP lo q W v t) : Rows W v t := by
  obtain ⟨l, g, a, b, c, d⟩ := h; exact d.rows

set_option maxRecDepth 100000 in
set_option maxHeartbeats 8000000 in
theorem c_l02Least (v0 u0 : Value) (A B : List (List Int)) (w : World) (hA : Sol w v0 u0 A B) (hp : isPM A B = true) (h7 : A.length ≤ 7) :
    Calls Try.prog 127 #[.agg #[v0, u0]] w (RSol w (lsSA A B) (lsSB A B)) := by
  obtain ⟨a0, c0, rfl, _, _⟩ := hA.1.shape
  obtain ⟨a0s, c0s, rfl, _, _⟩ := hA.2.shape
  obtain ⟨q1, q2, q3⟩ := isPM_parts hp
  obtain ⟨hl1, hl2⟩ := isTab_len q1
  have hap := allPerms_le h7
  have hrl : ∀ {t : List (List Int)}, isTab t = true → ∀ r ∈ t, r.length ≤ 1048576 := by
    intro t ht r hr
    obtain ⟨j, hj, rfl⟩ := List.getElem_of_mem hr
    have := isTab_row ht (x := j) (by omega) (by omega)
    have := isTab_len ht
    rw [row_nat _ _ hj] at *; omega
  have HRl := Lib.hid (And.intro (hrl q1) (hrl q2)); have HQ1 := Lib.hid q1; have HQ2 := Lib.hid q2; have HQ3 := Lib.hid q3.symm
  have hBl : B.length ≤ 1048576 := by omega
  have HRnA : Hid (∀ k : Nat, k < (allPerms A.length).length → RenOk A (row (allPerms A.length) k)) := Lib.hid (by intro k hk; exact ⟨HQ1.out, (allPerms_row hk).1, (allPerms_row hk).2⟩)
  have HRnB : Hid (∀ k : Nat, k < (allPerms A.length).length → RenOk B (row (allPerms A.length) k)) := Lib.hid (by intro k hk; exact ⟨HQ2.out, (allPerms_row hk).1, (allPerms_row hk).2.trans HQ3.out.symm⟩)
  clear hrl q1 q2 q3
  go_enter Try.func127, Try.ntmps127
  go_wp2_with fail
  obtain ⟨f0, f1, hW0, hsz⟩ := boxes2 w [.slice a0 A.length c0, .slice a0s B.length c0s] [.slice none 0 0, .slice none 0 0] 27 27
  obtain ⟨W0, hW⟩ : ∃ W, ((w.alloc (.cells #[.slice a0 A.length c0, .slice a0s B.length c0s] 27)).alloc (.cells #[.slice none 0 0, .slice none 0 0] 27)) = W := ⟨_, rfl⟩
  rw [hW] at f0 f1 hW0 hsz ⊢
  clear hW
  have HSZ := Lib.hid hsz
  have HRA := Lib.hid (show Sol W0.drew _ _ A B from (hA.below hW0).below (Below.refl _ _).drew)
  have HF0 := Lib.hid f0; have HF1 := Lib.hid f1; have HB0 := Lib.hid hW0
  have HSk : Hid (∀ w' : World, Below W0.drew.heap.size W0.drew w' → w'.cell? ⟨w.heap.size, 0, none⟩ = some (.slice a0 A.length c0) ∧ w'.cell? ⟨w.heap.size, 1, none⟩ = some (.slice a0s B.length c0s)) := Lib.hid (fun w' hb => ⟨(two_cells (f0.drew.under hb)).1, (two_cells (f0.drew.under hb)).2.1⟩)
  have BC0 : Below W0.drew.heap.size W0.drew W0.drew := Below.refl _ _
  clear f0 f1 hW0 hsz
  have BCd : Below W0.drew.heap.size W0.drew (W0.alloc (.cells #[.slice none 0 0, .slice none 0 0] 27)).drew := (Below.refl W0.drew.heap.size W0.drew).alloc (Nat.le_refl _) (.cells #[.slice none 0 0, .slice none 0 0] 27)
  have zz := HSk.out _ BC0
  have zd := HSk.out _ BCd
  go_region_held3 (fun w' => w'.cell? ⟨w.heap.size, 0, none⟩ = some (.slice a0 A.length c0) ∧ w'.cell? ⟨w.heap.size, 1, none⟩ = some (.slice a0s B.length c0s))
    (first | go_keep | exact HSk.out _ BC0 | exact HSk.out _ BC1 | exact HSk.out _ BC2 | exact HSk.out _ BCd | exact HSk.out _ (BC1.alloc BC1.size _) | exact HSk.out _ (BC2.alloc BC2.size _) | exact HSk.out _ ((BC2.setCell (p := ⟨w1.heap.size, 0, none⟩) BC1.size _).setCell (p := ⟨w1.heap.size, 1, none⟩) BC1.size _) | exact HSk.out _ ((BC2.setCell (p := ⟨W0.heap.size, 0, none⟩) (Nat.le_refl _) _).setCell (p := ⟨W0.heap.size, 1, none⟩) (Nat.le_refl _) _))
    ((first
      | (go_at_call 113; (with_reducible refine (c_l01Perms A.length _ hl1 h7).mono ?_); rintro e w1 ⟨r1, rfl, ho1, hb1⟩; obtain ⟨ra1, rc1, hv1, _⟩ := ho1.rows.shape; subst hv1; have BC1 : Below W0.drew.heap.size W0.drew w1 := bb (by first | exact BC0 | exact BCd) hb1; try (have HQ : Blk w1 W0.heap.size 27 [.slice none 0 0, .slice none 0 0] := ((Blk.new W0 [.slice none 0 0, .slice none 0 0] 27).drew).under hb1))
      | (go_at_call 170; (with_reducible refine (c_l02Own _ _ A B _ (HRA.out.below (bb BC1 (by first | exact Below.refl _ _ | exact (Below.refl _ _).alloc (Nat.le_refl _) _))) ⟨by omega, hBl⟩ HRl.out).mono ?_); rintro e w2 ⟨r2, s2, rfl, ho2, hb2⟩; obtain ⟨ra2, rc2, hv2, _⟩ := ho2.sol.1.shape; obtain ⟨sa2, sc2, hv3, _⟩ := ho2.sol.2.shape; subst hv2 hv3; have BC12 : Below w1.heap.size w1 w2 := bb (by first | exact Below.refl _ _ | exact (Below.refl _ _).alloc (Nat.le_refl _) _) hb2; have BC2 := bb BC1 BC12; first | (have HQz : Blk w2 W0.heap.size 27 [.slice none 0 0, .slice none 0 0] := HQ.under BC12; have hzz := two_cells HQz; obtain ⟨z1, z2, z3, z4⟩ := hzz) | (have HQz : Blk w2 w1.heap.size 27 [.slice none 0 0, .slice none 0 0] := (Blk.new w1 [.slice none 0 0, .slice none 0 0] 27).under hb2; have hzz := two_cells HQz; obtain ⟨z1, z2, z3, z4⟩ := hzz) | skip)))
  all_goals
    have hsz1 : W0.heap.size ≤ w1.heap.size := BC1.size
    have hsz2 : w1.heap.size ≤ w2.heap.size := BC12.size
    have e0 : W0.drew.heap.size = W0.heap.size := rfl
    obtain ⟨m0, hm1, hm2⟩ : ∃ m0, W0.heap.size ≤ m0 ∧ m0 ≤ W0.heap.size := ⟨_, Nat.le_refl _, Nat.le_refl _⟩
    have e1 : (W0.alloc (.cells #[.slice none 0 0, .slice none 0 0] 27)).drew.heap.size = W0.heap.size + 1 := by simp
    have e2 : (w1.alloc (.cells #[.slice none 0 0, .slice none 0 0] 27)).heap.size = w1.heap.size + 1 := by simp
    first
      | (obtain ⟨V, hV⟩ : ∃ V, w2.alloc (.cells #[.slice ra2 A.length rc2, .slice sa2 B.length sc2] 27) = V := ⟨_, rfl⟩
         rw [hV]
         have hkk : Keep (fun k => k = w2.heap.size) w2 V := by rw [← hV]; exact keep_late _ _
         have FQ : Blk V (w2.heap.size) 27 [.slice ra2 A.length rc2, .slice sa2 B.length sc2] := by rw [← hV]; exact Blk.new w2 [.slice ra2 A.length rc2, .slice sa2 B.length sc2] 27
         have ha0 : AllP m0 (w2.heap.size) V (.slice ra1 (allPerms A.length).length rc1) (allPerms A.length) := ⟨_, w1.heap.size, (by first | omega | (simp; omega)), (by have h5 := hkk.size; omega), (by first | omega | (simp; done) | (simp; omega) | (left; simp; done) | (right; simp; done)), (ho1.inn.under BC12).keep hkk (fun x x1 x2 e => by (try simp at x1); omega)⟩
         have hb0 : SolP m0 (w2.heap.size) V (.slice ra2 A.length rc2) (.slice sa2 B.length sc2) A B := ⟨_, w2.heap.size, (by first | omega | (simp; done) | (simp; omega)), hkk.size, (by first | omega | (simp; done) | (simp; omega) | (left; simp; done) | (right; simp; done)), ho2.keep hkk (fun x x1 x2 e => by (try simp at x1); omega)⟩
         obtain ⟨q, hq⟩ : ∃ q, w2.heap.size = q := ⟨_, rfl⟩
         rw [hq] at hkk FQ ha0 hb0 ⊢
         have hq0 : W0.heap.size ≤ q := by omega
         clear hV hq)
      | (obtain ⟨V, hV⟩ : ∃ V, (w2.setCell ⟨w1.heap.size, 0, none⟩ (.slice ra2 A.length rc2)).setCell ⟨w1.heap.size, 1, none⟩ (.slice sa2 B.length sc2) = V := ⟨_, rfl⟩
         rw [hV]
         have hkk : Keep (fun k => k = w1.heap.size) w2 V := by rw [← hV]; exact keep_early _ _ _ _
         have FQ : Blk V (w1.heap.size) 27 [.slice ra2 A.length rc2, .slice sa2 B.length sc2] := by rw [← hV]; exact box_early HQz
         have ha0 : AllP m0 (w1.heap.size) V (.slice ra1 (allPerms A.length).length rc1) (allPerms A.length) := ⟨_, w1.heap.size, (by first | omega | (simp; omega)), (by have h5 := hkk.size; omega), (by first | omega | (simp; done) | (simp; omega) | (left; simp; done) | (right; simp; done)), (ho1.inn.under BC12).keep hkk (fun x x1 x2 e => by (try simp at x1); omega)⟩
         have hb0 : SolP m0 (w1.heap.size) V (.slice ra2 A.length rc2) (.slice sa2 B.length sc2) A B := ⟨_, w2.heap.size, (by first | omega | (simp; done) | (simp; omega)), hkk.size, (by first | omega | (simp; done) | (simp; omega) | (left; simp; done) | (right; simp; done)), ho2.keep hkk (fun x x1 x2 e => by (try simp at x1); omega)⟩
         obtain ⟨q, hq⟩ : ∃ q, w1.heap.size = q := ⟨_, rfl⟩
         rw [hq] at hkk FQ ha0 hb0 ⊢
         have hq0 : W0.heap.size ≤ q := by omega
         clear hV hq)
      | (obtain ⟨V, hV⟩ : ∃ V, (w2.setCell ⟨W0.heap.size, 0, none⟩ (.slice ra2 A.length rc2)).setCell ⟨W0.heap.size, 1, none⟩ (.slice sa2 B.length sc2) = V := ⟨_, rfl⟩
         rw [hV]
         have hkk : Keep (fun k => k = W0.heap.size) w2 V := by rw [← hV]; exact keep_early _ _ _ _
         have FQ : Blk V (W0.heap.size) 27 [.slice ra2 A.length rc2, .slice sa2 B.length sc2] := by rw [← hV]; exact box_early HQz
         have ha0 : AllP m0 (W0.heap.size) V (.slice ra1 (allPerms A.length).length rc1) (allPerms A.length) := ⟨_, w1.heap.size, (by first | omega | (simp; omega)), (by have h5 := hkk.size; omega), (by first | omega | (simp; done) | (simp; omega) | (left; simp; done) | (right; simp; done)), (ho1.inn.under BC12).keep hkk (fun x x1 x2 e => by (try simp at x1); omega)⟩
         have hqlt := HQ.lt
         have hb0 : SolP m0 (W0.heap.size) V (.slice ra2 A.length rc2) (.slice sa2 B.length sc2) A B := ⟨_, w2.heap.size, (by first | omega | (simp; done) | (simp; omega)), hkk.size, (by first | omega | (simp; done) | (simp; omega) | (left; simp; done) | (right; simp; done)), ho2.keep hkk (fun x x1 x2 e => by (try simp at x1); omega)⟩
         obtain ⟨q, hq⟩ : ∃ q, W0.heap.size = q := ⟨_, rfl⟩
         rw [hq] at hkk FQ ha0 hb0 ⊢
         have hq0 : W0.heap.size ≤ q := by omega
         clear hV hq)
    have BV : Below W0.heap.size W0 V := (show Below W0.heap.size W0 w2 from bb (Below.refl W0.heap.size W0).drew BC2).trans (hkk.below fun k hk => ⟨by omega, by omega⟩)
    have HBest := Lib.hid hb0; have HAll := Lib.hid ha0; have HFQ := Lib.hid FQ; have HBV := Lib.hid (bb HB0.out BV)
    have HF0V := Lib.hid (HF0.out.under BV); have HF1V := Lib.hid (HF1.out.under BV)
    have hVs : W0.heap.size ≤ V.heap.size := BV.size
    have hW0s : W0.heap.size = w.heap.size + 1 + 1 := HSZ.out
    have hqV := FQ.lt
    have HS0 := Lib.hid hA
    clear hA hb0 ha0 FQ BV hkk BC0 BC1 BC2 BC12 BCd ho1 ho2 hb1 hb2 HSk HRA zz zd
    go_wp2
    go_loopw [5, 6] (fun i _ wr => ∃ (k : Nat) (va : Option Addr) (vc : Nat) (ua : Option Addr) (uc : Nat), k ≤ (allPerms A.length).length ∧ i = .int .i64 k ∧ Hid (Below w.heap.size w wr) ∧ Hid (Blk wr q 27 [.slice va A.length vc, .slice ua B.length uc]) ∧ Hid (Blk wr w.heap.size 27 [.slice a0 A.length c0, .slice a0s B.length c0s]) ∧ Hid (Blk wr (w.heap.size + 1) 27 [.slice none 0 0, .slice none 0 0]) ∧ Hid (AllP m0 q wr (.slice ra1 (allPerms A.length).length rc1) (allPerms A.length)) ∧ Hid (SolP m0 q wr (.slice va A.length vc) (.slice ua B.length uc) (bestS A B (A, B) ((allPerms A.length).take k)).1 (bestS A B (A, B) ((allPerms A.length).take k)).2)) (fun i _ _ => (allPerms A.length).length - (intOf i).toNat)
    case atStart => exact ⟨0, _, _, _, _, Nat.zero_le _, rfl, HBV, HFQ, HF0V, HF1V, HAll, Lib.hid (by simpa [bestS] using HBest.out)⟩
    case round =>
      clear HBest HAll HFQ HF0V HF1V
      obtain ⟨k, va, vc, ua, uc, hk, rfl, HB, HF, HG, HR, HAl, HBs⟩ := hrel
      obtain ⟨wo, rfl⟩ : ∃ wo : World, wo = wr := ⟨_, rfl⟩
      have hqo := HF.out.lt
      by_cases hlt : k < (allPerms A.length).length
      · obtain ⟨b, o, xa, xc, hpa, hcell, hu⟩ := HAl.out.rows.getS k hlt
        have HU := Lib.hid (show Ints wo.drew _ _ from hu.below (Below.refl _ _).drew)
        have HSo := Lib.hid (show Sol wo.drew _ _ A B from (HS0.out.below HB.out).below (Below.refl _ _).drew)
        have HrA := Lib.hid (HRnA.out k hlt); have HrB := Lib.hid (HRnB.out k hlt)
        have HSn := Lib.hid (bestS_snoc A B (A, B) (allPerms A.length) k hlt)
        obtain ⟨X, hXe⟩ : ∃ X, X = bestS A B (A, B) ((allPerms A.length).take k) := ⟨_, rfl⟩
        rw [← hXe] at HBs HSn
        obtain ⟨p, hpe⟩ : ∃ p, p = row (allPerms A.length) k := ⟨_, rfl⟩
        rw [← hpe] at hcell HU HrA HrB HSn
        subst hpa
        clear hu hXe hpe
        have hcell2 : Hid (∀ w' : World, Below wo.drew.heap.size wo.drew w' → w'.cell? ⟨b, o + k, none⟩ = some (.slice xa p.length xc)) := Lib.hid (fun w' hb => cell_below hb (cell_lt hcell) (show wo.drew.cell? _ = _ from hcell))
        have HSk : Hid (∀ w' : World, Below wo.drew.heap.size wo.drew w' → w'.cell? ⟨w.heap.size, 0, none⟩ = some (.slice a0 A.length c0) ∧ w'.cell? ⟨w.heap.size, 1, none⟩ = some (.slice a0s B.length c0s) ∧ w'.cell? ⟨b, o + k, none⟩ = some (.slice xa p.length xc)) := Lib.hid (fun w' hb => ⟨(two_cells (HG.out.drew.under hb)).1, (two_cells (HG.out.drew.under hb)).2.1, hcell2.out w' hb⟩)
        have BC0 : Below wo.drew.heap.size wo.drew wo.drew := Below.refl _ _
        have BCd : Below wo.drew.heap.size wo.drew (wo.alloc (.cells #[.slice none 0 0, .slice none 0 0] 27)).drew := (Below.refl wo.drew.heap.size wo.drew).alloc (Nat.le_refl _) (.cells #[.slice none 0 0, .slice none 0 0] 27)
        have zz := HSk.out _ BC0
        have zd := HSk.out _ BCd
        have hlt1 : (k : Int) < ((allPerms A.length).length : Int) := by omega
        have hk0 : (0 : Int) ≤ (k : Int) := by omega
        have hkn : ¬ ((k : Int) < 0) := by omega
        clear hcell hcell2 zz zd
        go_wp2_with fail
        have zz := HSk.out _ BC0
        have zd := HSk.out _ BCd
        go_region_held3 (fun w' => w'.cell? ⟨w.heap.size, 0, none⟩ = some (.slice a0 A.length c0) ∧ w'.cell? ⟨w.heap.size, 1, none⟩ = some (.slice a0s B.length c0s) ∧ w'.cell? ⟨b, o + k, none⟩ = some (.slice xa p.length xc))
          (first | go_keep | exact HSk.out _ BC0 | exact HSk.out _ BC1 | exact HSk.out _ BCd | exact HSk.out _ (BC1.alloc BC1.size _) | exact HSk.out _ ((BC1.setCell (p := ⟨wo.heap.size, 0, none⟩) (Nat.le_refl _) _).setCell (p := ⟨wo.heap.size, 1, none⟩) (Nat.le_refl _) _))
          ((first | (go_at_call 171; (first | (with_reducible refine (c_l02Rename _ _ _ A B p _ HSo.out HU.out HrA.out HrB.out).mono ?_) | (with_reducible refine (c_l02Rename _ _ _ A B p _ (HSo.out.below BCd) (HU.out.below BCd) HrA.out HrB.out).mono ?_)); rintro e w3 ⟨r3, s3, rfl, ho3, hb3⟩; obtain ⟨na, nc, hn1, _⟩ := ho3.sol.1.shape; obtain ⟨ma, mc, hn2, _⟩ := ho3.sol.2.shape; rw [renL_length] at hn1 hn2; subst hn1 hn2; have BC1 : Below wo.drew.heap.size wo.drew w3 := bb (by first | exact BC0 | exact BCd) hb3; first | (have HQz : Blk w3 wo.heap.size 27 [.slice none 0 0, .slice none 0 0] := ((Blk.new wo [.slice none 0 0, .slice none 0 0] 27).drew).under hb3; have hzz := two_cells HQz; obtain ⟨z1, z2, z3, z4⟩ := hzz) | skip)))
        all_goals
          have hsz3 : wo.heap.size ≤ w3.heap.size := BC1.size
          have e3 : wo.drew.heap.size = wo.heap.size := rfl
          have e4 : (wo.alloc (.cells #[.slice none 0 0, .slice none 0 0] 27)).drew.heap.size = wo.heap.size + 1 := by simp
          first
            | (obtain ⟨V4, hV⟩ : ∃ V, w3.alloc (.cells #[.slice na A.length nc, .slice ma B.length mc] 27) = V := ⟨_, rfl⟩
               rw [hV]
               have hk4 : Keep (fun k => k = w3.heap.size) w3 V4 := by rw [← hV]; exact keep_late _ _
               have F4 : Blk V4 w3.heap.size 27 [.slice na A.length nc, .slice ma B.length mc] := by rw [← hV]; exact Blk.new w3 [.slice na A.length nc, .slice ma B.length mc] 27
               have hs4 : OwnSol wo.heap.size w3.heap.size V4 (.slice na A.length nc) (.slice ma B.length mc) (renL A p) (renL B p) := (ho3.keep hk4 (fun x x1 x2 e => by omega)).widen (by omega) (Nat.le_refl _)
               have hs5 := hk4.size
               obtain ⟨q4, hq4⟩ : ∃ q4, w3.heap.size = q4 := ⟨_, rfl⟩
               rw [hq4] at hk4 F4 ⊢
               have hq5 : wo.heap.size ≤ q4 := by omega
               clear hV)
            | (obtain ⟨V4, hV⟩ : ∃ V, (w3.setCell ⟨wo.heap.size, 0, none⟩ (.slice na A.length nc)).setCell ⟨wo.heap.size, 1, none⟩ (.slice ma B.length mc) = V := ⟨_, rfl⟩
               rw [hV]
               have hk4 : Keep (fun k => k = wo.heap.size) w3 V4 := by rw [← hV]; exact keep_early _ _ _ _
               have F4 : Blk V4 wo.heap.size 27 [.slice na A.length nc, .slice ma B.length mc] := by rw [← hV]; exact box_early HQz
               have hs4 : OwnSol wo.heap.size w3.heap.size V4 (.slice na A.length nc) (.slice ma B.length mc) (renL A p) (renL B p) := (ho3.keep hk4 (fun x x1 x2 e => by omega)).widen (by omega) (Nat.le_refl _)
               have hs5 := hk4.size
               obtain ⟨q4, hq4⟩ : ∃ q4, q4 = wo.heap.size := ⟨_, rfl⟩
               rw [← hq4] at hk4 F4 ⊢
               have hq5 : wo.heap.size ≤ q4 := by omega
               clear hV hq4)
          have B4 : Below wo.heap.size wo V4 := (show Below wo.heap.size wo w3 from bb (Below.refl wo.heap.size wo).drew BC1).trans (hk4.below fun k hk => ⟨by omega, by omega⟩)
          have HB4 := Lib.hid B4; have HF4 := Lib.hid F4; have HS4 := Lib.hid hs4
          have HFo := Lib.hid (HF.out.under B4)
          obtain ⟨y1, y2, y3, y4⟩ := two_cells F4
          obtain ⟨t1, t2, t3, t4⟩ := two_cells HFo.out
          have HBo := Lib.hid (HBs.out.under B4)
          clear B4 F4 hs4 hk4 BC0 BC1 BCd ho3 hb3 HSk zz zd
          go_wp2_with fail
          refine (c_l02Before _ _ _ _ _ _ _ _ _ HS4.out.sol HBo.out.sol).mono ?_; rintro e w5 ⟨rfl, hb5⟩
          clear y1 y2 y3 y4 t1 t2 t3 t4
          obtain ⟨y1, y2, -, -⟩ := two_cells (HF4.out.under hb5)
          obtain ⟨t1, t2, t3, t4⟩ := two_cells (HFo.out.under hb5)
          have HB5 := Lib.hid (bb HB4.out hb5); have HB45 := Lib.hid hb5
          have hs6 := hb5.size
          clear hb5
          by_cases hx : lexS (renL A p) (renL B p) X.1 X.2 = true
          · go_wp2
            have HX := Lib.hid hx
            have k6 := keep_early w5 q (.slice na A.length nc) (.slice ma B.length mc)
            have h66 := k6.size
            have hgl := (HG.out.under HB5.out).lt; have hrl := (HR.out.under HB5.out).lt
            go_roundw
            case rel =>
              refine ⟨k + 1, na, nc, ma, mc, by omega, by go_num, Lib.hid ((bb HB.out HB5.out).trans (k6.below fun k hk => ⟨by omega, by omega⟩)), Lib.hid (box_early (HF.out.under HB5.out)), Lib.hid ((HG.out.under HB5.out).of_block (k6.block _ hgl (by omega))), Lib.hid ((HR.out.under HB5.out).of_block (k6.block _ hrl (by omega))), Lib.hid ((HAl.out.under HB5.out).keep k6 (fun b _ hne _ => hne)), Lib.hid ?_⟩
              rw [HSn.out]; unfold stepS; rw [if_pos HX.out]
              exact ⟨wo.heap.size, w3.heap.size, by omega, by omega, .inr hqo, (HS4.out.under HB45.out).keep k6 (fun x x1 x2 e => by omega)⟩
            case measure => simp [intOf]; omega
          · have hx0 : lexS (renL A p) (renL B p) X.1 X.2 = false := by simpa using hx
            have HX := Lib.hid hx0
            clear hx
            go_wp2
            go_roundw
            case rel =>
              refine ⟨k + 1, va, vc, ua, uc, by omega, by go_num, Lib.hid (bb HB.out HB5.out), Lib.hid (HF.out.under HB5.out), Lib.hid (HG.out.under HB5.out), Lib.hid (HR.out.under HB5.out), Lib.hid (HAl.out.under HB5.out), Lib.hid ?_⟩
              rw [HSn.out]; unfold stepS; rw [if_neg (by rw [HX.out]; simp)]
              exact HBs.out.under HB5.out
            case measure => simp [intOf]; omega
      · have hke : k = (allPerms A.length).length := by omega
        subst hke
        rw [List.take_of_length_le (Nat.le_refl _)] at HBs
        obtain ⟨z0, z1, z2, z3⟩ := two_cells HR.out
        obtain ⟨t1, t2, t3, t4⟩ := two_cells HF.out
        obtain ⟨hA9, hB9⟩ := stored (q := w.heap.size + 1) HB.out (HBs.out.own (Nat.le_refl _)) (by omega) (by omega)
        have HA9 := Lib.hid hA9; have HB9 := Lib.hid hB9
        clear hA9 hB9
        go_wp2
        exact bodyPost_ret (v := .agg #[.slice va A.length vc, .slice ua B.length uc]) (by simp [results, Try.results127, go_sem, z0, z1]) rfl ⟨.slice va A.length vc, .slice ua B.length uc, rfl, HA9.out, HB9.out⟩
end Go.Proofs.Ytkcobfkmeaakoaa
