/-
  The law FnExactSubSolution answers true, and leaves what was there as it was.
-/
import Derived.Test.YtkcobfkmeaakoaaS5
import Derived.Test.YtkcobfkmeaakoaaT2
import Derived.Test.YtkcobfkmeaakoaaI11
import Derived.Test.YtkcobfkmeaakoaaLTables
import Derived.Deep.RegionHeld3
namespace Go.Proofs.Ytkcobfkmeaakoaa
open Go.RowKit

def sbG (A : List (List Int)) (L : List Int) (x y : Int) : Int := idx L (val2 A (nth L x) (nth L y))
def sbT (A : List (List Int)) (L : List Int) : List (List Int) := tabOf L.length (sbG A L)
def sbOk (A B : List (List Int)) (L : List Int) : Bool := isPM A B && setOk A.length L && closL A B L
def sbRA (A B : List (List Int)) (L : List Int) : List (List Int) := if sbOk A B L then sbT A L else []
def sbRB (A B : List (List Int)) (L : List Int) : List (List Int) := if sbOk A B L then sbT B L else []
def sbCode (A B : List (List Int)) (L : List Int) : Int := if isPM A B then (if setOk A.length L then (if closL A B L then 0 else 5) else 2) else 1
theorem sbOk_of {A B : List (List Int)} {L : List Int} (h1 : isPM A B = true) (h2 : setOk A.length L = true) (h3 : closL A B L = true) : sbOk A B L = true := by simp [sbOk, h1, h2, h3]

set_option maxHeartbeats 400000 in
theorem c_indexIn (v : Value) (xs : List Int) (x : Int) (w : World) (hx : Ints w v xs) :
    Calls Try.prog 88 #[v, .int .i64 x] w fun e w' => e = .returned (.int .i64 (idx xs x)) ∧ w = w' := by
  go_enter Try.func88, Try.ntmps88
  go_wp2_with fail
  refine (c_slIndex _ _ _ _ hx).mono ?_; rintro e w' ⟨rfl, rfl⟩
  go_wp2
  go_ret
  exact ⟨rfl, rfl⟩

theorem eg_sub1 : ∀ args w, (callFunc 87 args).run Try.prog w = .ok (.enter 87 args) w := Go.Proofs.enters_of Try.func87 (by kernel_rfl) rfl

set_option maxHeartbeats 1600000 in
theorem c_sub1 (bl bs : Nat) (n c0 c0s b0 o0 b0s o0s : Nat) (A B : List (List Int)) (L : List Int) (al : Option Addr) (cl : Nat) (rb0 ro0 rc0 rb0s ro0s rc0s : Nat → Nat) (x y : Nat) (w : World)
    (hbl : w.cell? ⟨bl, 0, none⟩ = some (.slice al L.length cl))
    (hs0 : w.cell? ⟨bs, 0, none⟩ = some (.slice (some ⟨b0, o0, none⟩) n c0)) (hs1 : w.cell? ⟨bs, 1, none⟩ = some (.slice (some ⟨b0s, o0s, none⟩) n c0s))
    (hL : Ints w (.slice al L.length cl) L) (TA : TabAt w b0 o0 n A rb0 ro0 rc0) (TB : TabAt w b0s o0s n B rb0s ro0s rc0s)
    (hset : setOk n L = true) (hx : x < L.length) (hy : y < L.length) (hn12 : n ≤ 12) :
    Calls Try.prog 87 #[.int .i64 x, .int .i64 y, .pointer (some ⟨bl, 0, none⟩), .pointer (some ⟨bs, 0, none⟩)] w
      (RVal w (.tuple #[.int .i64 (sbG A L x y), .int .i64 (sbG B L x y)])) := by
  obtain ⟨x0, x1⟩ := setOk_in hset hx
  obtain ⟨y0, y1⟩ := setOk_in hset hy
  obtain ⟨b, o, rfl, lx⟩ := hL.get x hx
  have ly := hL.at y hy
  have hl12 := (setOk_len hset).2
  unfold sbG
  obtain ⟨X, hX⟩ : ∃ X, X = nth L x := ⟨_, rfl⟩
  obtain ⟨Y, hY⟩ : ∃ X, X = nth L y := ⟨_, rfl⟩
  rw [← hX] at x0 x1 lx ⊢; rw [← hY] at y0 y1 ly ⊢
  have rA := TA.rowi _ x0 x1; have rB := TB.rowi _ x0 x1; have vA := TA.vali _ _ x0 x1 y0 y1; have vB := TB.vali _ _ x0 x1 y0 y1
  have hx0 : (0 : Int) ≤ x := by omega
  have hx1 : (x : Int) < L.length := by omega
  have hy0 : (0 : Int) ≤ y := by omega
  have hy1 : (y : Int) < L.length := by omega
  have HL := Lib.hid hL
  clear hX hY TA TB hL
  go_enter Try.func87, Try.ntmps87
  go_wp2
  go_quiet ((go_at_call 88; exact quiet_left (c_indexIn _ _ _ _ (HL.out.below (below_drewN (Below.refl _ _) _)))))
  go_wp2
  go_ret2
  exact ⟨rfl, below_drewN (Below.refl _ _) _⟩

set_option maxRecDepth 100000 in
set_option maxHeartbeats 4000000 in
theorem c_SubSolution (v0 u0 : Value) (A B : List (List Int)) (v1 : Value) (L : List Int) (w : World) (hA : Sol w v0 u0 A B) (hL : Ints w v1 L)  :
    Calls Try.prog 17 #[.agg #[v0, u0], v1] w (RSolC w (sbRA A B L) (sbRB A B L) (sbCode A B L)) := by
  by_cases hp0 : isPM A B = true
  case neg =>
    have hq0 : isPM A B = false := by simpa using hp0
    have HQ := Lib.hid hq0; clear hp0
    obtain ⟨a0, c0, rfl, _, _⟩ := hA.1.shape
    obtain ⟨a0s, c0s, rfl, _, _⟩ := hA.2.shape
    obtain ⟨a1, c1, rfl, hc1, hm1⟩ := hL.shape
    go_enter Try.func17, Try.ntmps17
    go_wp2_with fail
    obtain ⟨f0, f1, f2, hW0, hsz⟩ := boxes3 w [.slice a0 A.length c0, .slice a0s B.length c0s] [.slice a1 L.length c1] [.slice none 0 0, .slice none 0 0] 27 25 27
    obtain ⟨W0, hW⟩ : ∃ W, (((w.alloc (.cells #[.slice a0 A.length c0, .slice a0s B.length c0s] 27)).alloc (.cells #[.slice a1 L.length c1] 25)).alloc (.cells #[.slice none 0 0, .slice none 0 0] 27)) = W := ⟨_, rfl⟩
    rw [hW] at f0 f1 f2 hW0 hsz ⊢
    clear hW hsz
    refine (c_IsPairMap _ _ _ _ _ (hA.below hW0)).mono ?_; rintro e g0 ⟨rfl, hbg0⟩
    have hB0 := bb hW0 hbg0
    replace f0 := f0.under hbg0
    obtain ⟨cA0, cB0, -, -⟩ := two_cells f0
    replace f1 := f1.under hbg0
    have cA1 := one_cell f1
    replace f2 := f2.under hbg0
    obtain ⟨cA2, cB2, fA2, fB2⟩ := two_cells f2
    clear hbg0
    have HB := Lib.hid hB0
    clear hB0 hW0
    go_wp2
    refine bodyPost_ret (v := .tuple #[.agg #[.slice none 0 0, .slice none 0 0], .int .i64 1]) (by simp [results, Try.results17, go_sem, cA2, cB2]) rfl ⟨.slice none 0 0, .slice none 0 0, by simp [sbRA, sbRB, sbCode, sbOk, HQ.out], ?_, ?_⟩
    · have hz : w.heap.size ≤ g0.heap.size := HB.out.size
      rw [show sbRA A B L = [] from by simp [sbRA, sbRB, sbCode, sbOk, HQ.out], show sbRB A B L = [] from by simp [sbRA, sbRB, sbCode, sbOk, HQ.out]]
      exact OwnSol.nil0 (by first | exact hz | (simp [World.setCell]; exact hz))
    · first | exact HB.out | exact (HB.out.setCell (p := ⟨w.heap.size + 1 + 1, 0, none⟩) (by show _ ≤ w.heap.size + 1 + 1; omega) _).setCell (p := ⟨w.heap.size + 1 + 1, 1, none⟩) (by show _ ≤ w.heap.size + 1 + 1; omega) _
  have HP0 := Lib.hid hp0
  have hl12 := isTab_len (isPM_parts HP0.out).1
  by_cases hp1 : setOk A.length L = true
  case neg =>
    have hq1 : setOk A.length L = false := by simpa using hp1
    have HQ := Lib.hid hq1; clear hp1
    obtain ⟨a0, c0, rfl, _, _⟩ := hA.1.shape
    obtain ⟨a0s, c0s, rfl, _, _⟩ := hA.2.shape
    obtain ⟨a1, c1, rfl, hc1, hm1⟩ := hL.shape
    go_enter Try.func17, Try.ntmps17
    go_wp2_with fail
    obtain ⟨f0, f1, f2, hW0, hsz⟩ := boxes3 w [.slice a0 A.length c0, .slice a0s B.length c0s] [.slice a1 L.length c1] [.slice none 0 0, .slice none 0 0] 27 25 27
    obtain ⟨W0, hW⟩ : ∃ W, (((w.alloc (.cells #[.slice a0 A.length c0, .slice a0s B.length c0s] 27)).alloc (.cells #[.slice a1 L.length c1] 25)).alloc (.cells #[.slice none 0 0, .slice none 0 0] 27)) = W := ⟨_, rfl⟩
    rw [hW] at f0 f1 f2 hW0 hsz ⊢
    clear hW hsz
    refine (c_IsPairMap _ _ _ _ _ (hA.below hW0)).mono ?_; rintro e g0 ⟨rfl, hbg0⟩
    have hB0 := bb hW0 hbg0
    replace f0 := f0.under hbg0
    obtain ⟨cA0, cB0, -, -⟩ := two_cells f0
    replace f1 := f1.under hbg0
    have cA1 := one_cell f1
    replace f2 := f2.under hbg0
    obtain ⟨cA2, cB2, fA2, fB2⟩ := two_cells f2
    clear hbg0
    go_wp2_with fail
    refine (c_isSet _ _ _ _ (hL.below hB0) (by omega) (by omega)).mono ?_; rintro e g1 ⟨rfl, hbg1⟩
    have hB1 := bb hB0 hbg1
    replace f0 := f0.under hbg1
    clear cA0 cB0
    obtain ⟨cA0, cB0, -, -⟩ := two_cells f0
    replace f1 := f1.under hbg1
    clear cA1
    have cA1 := one_cell f1
    replace f2 := f2.under hbg1
    clear cA2 cB2 fA2 fB2
    obtain ⟨cA2, cB2, fA2, fB2⟩ := two_cells f2
    clear hbg1
    have HB := Lib.hid hB1
    clear hB0 hB1 hW0
    go_wp2
    refine bodyPost_ret (v := .tuple #[.agg #[.slice none 0 0, .slice none 0 0], .int .i64 2]) (by simp [results, Try.results17, go_sem, cA2, cB2]) rfl ⟨.slice none 0 0, .slice none 0 0, by simp [sbRA, sbRB, sbCode, sbOk, HQ.out, HP0.out], ?_, ?_⟩
    · have hz : w.heap.size ≤ g1.heap.size := HB.out.size
      rw [show sbRA A B L = [] from by simp [sbRA, sbRB, sbCode, sbOk, HQ.out, HP0.out], show sbRB A B L = [] from by simp [sbRA, sbRB, sbCode, sbOk, HQ.out, HP0.out]]
      exact OwnSol.nil0 (by first | exact hz | (simp [World.setCell]; exact hz))
    · first | exact HB.out | exact (HB.out.setCell (p := ⟨w.heap.size + 1 + 1, 0, none⟩) (by show _ ≤ w.heap.size + 1 + 1; omega) _).setCell (p := ⟨w.heap.size + 1 + 1, 1, none⟩) (by show _ ≤ w.heap.size + 1 + 1; omega) _
  have HP1 := Lib.hid hp1
  by_cases hp2 : closL A B L = true
  case neg =>
    have hq2 : closL A B L = false := by simpa using hp2
    have HQ := Lib.hid hq2; clear hp2
    obtain ⟨a0, c0, rfl, _, _⟩ := hA.1.shape
    obtain ⟨a0s, c0s, rfl, _, _⟩ := hA.2.shape
    obtain ⟨a1, c1, rfl, hc1, hm1⟩ := hL.shape
    go_enter Try.func17, Try.ntmps17
    go_wp2_with fail
    obtain ⟨f0, f1, f2, hW0, hsz⟩ := boxes3 w [.slice a0 A.length c0, .slice a0s B.length c0s] [.slice a1 L.length c1] [.slice none 0 0, .slice none 0 0] 27 25 27
    obtain ⟨W0, hW⟩ : ∃ W, (((w.alloc (.cells #[.slice a0 A.length c0, .slice a0s B.length c0s] 27)).alloc (.cells #[.slice a1 L.length c1] 25)).alloc (.cells #[.slice none 0 0, .slice none 0 0] 27)) = W := ⟨_, rfl⟩
    rw [hW] at f0 f1 f2 hW0 hsz ⊢
    clear hW hsz
    refine (c_IsPairMap _ _ _ _ _ (hA.below hW0)).mono ?_; rintro e g0 ⟨rfl, hbg0⟩
    have hB0 := bb hW0 hbg0
    replace f0 := f0.under hbg0
    obtain ⟨cA0, cB0, -, -⟩ := two_cells f0
    replace f1 := f1.under hbg0
    have cA1 := one_cell f1
    replace f2 := f2.under hbg0
    obtain ⟨cA2, cB2, fA2, fB2⟩ := two_cells f2
    clear hbg0
    go_wp2_with fail
    refine (c_isSet _ _ _ _ (hL.below hB0) (by omega) (by omega)).mono ?_; rintro e g1 ⟨rfl, hbg1⟩
    have hB1 := bb hB0 hbg1
    replace f0 := f0.under hbg1
    clear cA0 cB0
    obtain ⟨cA0, cB0, -, -⟩ := two_cells f0
    replace f1 := f1.under hbg1
    clear cA1
    have cA1 := one_cell f1
    replace f2 := f2.under hbg1
    clear cA2 cB2 fA2 fB2
    obtain ⟨cA2, cB2, fA2, fB2⟩ := two_cells f2
    clear hbg1
    go_wp2_with fail
    refine (c_isClosed _ _ _ _ _ _ _ (hA.below hB1) (hL.below hB1) HP0.out HP1.out).mono ?_; rintro e g2 ⟨rfl, hbg2⟩
    have hB2 := bb hB1 hbg2
    replace f0 := f0.under hbg2
    clear cA0 cB0
    obtain ⟨cA0, cB0, -, -⟩ := two_cells f0
    replace f1 := f1.under hbg2
    clear cA1
    have cA1 := one_cell f1
    replace f2 := f2.under hbg2
    clear cA2 cB2 fA2 fB2
    obtain ⟨cA2, cB2, fA2, fB2⟩ := two_cells f2
    clear hbg2
    have HB := Lib.hid hB2
    clear hB0 hB1 hB2 hW0
    go_wp2
    refine bodyPost_ret (v := .tuple #[.agg #[.slice none 0 0, .slice none 0 0], .int .i64 5]) (by simp [results, Try.results17, go_sem, cA2, cB2]) rfl ⟨.slice none 0 0, .slice none 0 0, by simp [sbRA, sbRB, sbCode, sbOk, HQ.out, HP0.out, HP1.out], ?_, ?_⟩
    · have hz : w.heap.size ≤ g2.heap.size := HB.out.size
      rw [show sbRA A B L = [] from by simp [sbRA, sbRB, sbCode, sbOk, HQ.out, HP0.out, HP1.out], show sbRB A B L = [] from by simp [sbRA, sbRB, sbCode, sbOk, HQ.out, HP0.out, HP1.out]]
      exact OwnSol.nil0 (by first | exact hz | (simp [World.setCell]; exact hz))
    · first | exact HB.out | exact (HB.out.setCell (p := ⟨w.heap.size + 1 + 1, 0, none⟩) (by show _ ≤ w.heap.size + 1 + 1; omega) _).setCell (p := ⟨w.heap.size + 1 + 1, 1, none⟩) (by show _ ≤ w.heap.size + 1 + 1; omega) _
  have HP2 := Lib.hid hp2
  obtain ⟨a0, c0, rfl, _, _⟩ := hA.1.shape
  obtain ⟨a0s, c0s, rfl, _, _⟩ := hA.2.shape
  obtain ⟨a1, c1, rfl, hc1, hm1⟩ := hL.shape
  go_enter Try.func17, Try.ntmps17
  go_wp2_with fail
  obtain ⟨f0, f1, f2, hW0, hsz⟩ := boxes3 w [.slice a0 A.length c0, .slice a0s B.length c0s] [.slice a1 L.length c1] [.slice none 0 0, .slice none 0 0] 27 25 27
  obtain ⟨W0, hW⟩ : ∃ W, (((w.alloc (.cells #[.slice a0 A.length c0, .slice a0s B.length c0s] 27)).alloc (.cells #[.slice a1 L.length c1] 25)).alloc (.cells #[.slice none 0 0, .slice none 0 0] 27)) = W := ⟨_, rfl⟩
  rw [hW] at f0 f1 f2 hW0 hsz ⊢
  clear hW hsz
  refine (c_IsPairMap _ _ _ _ _ (hA.below hW0)).mono ?_; rintro e g0 ⟨rfl, hbg0⟩
  have hB0 := bb hW0 hbg0
  replace f0 := f0.under hbg0
  obtain ⟨cA0, cB0, -, -⟩ := two_cells f0
  replace f1 := f1.under hbg0
  have cA1 := one_cell f1
  replace f2 := f2.under hbg0
  obtain ⟨cA2, cB2, fA2, fB2⟩ := two_cells f2
  clear hbg0
  go_wp2_with fail
  refine (c_isSet _ _ _ _ (hL.below hB0) (by omega) (by omega)).mono ?_; rintro e g1 ⟨rfl, hbg1⟩
  have hB1 := bb hB0 hbg1
  replace f0 := f0.under hbg1
  clear cA0 cB0
  obtain ⟨cA0, cB0, -, -⟩ := two_cells f0
  replace f1 := f1.under hbg1
  clear cA1
  have cA1 := one_cell f1
  replace f2 := f2.under hbg1
  clear cA2 cB2 fA2 fB2
  obtain ⟨cA2, cB2, fA2, fB2⟩ := two_cells f2
  clear hbg1
  go_wp2_with fail
  refine (c_isClosed _ _ _ _ _ _ _ (hA.below hB1) (hL.below hB1) HP0.out HP1.out).mono ?_; rintro e g2 ⟨rfl, hbg2⟩
  have hB2 := bb hB1 hbg2
  replace f0 := f0.under hbg2
  clear cA0 cB0
  obtain ⟨cA0, cB0, -, -⟩ := two_cells f0
  replace f1 := f1.under hbg2
  clear cA1
  have cA1 := one_cell f1
  replace f2 := f2.under hbg2
  clear cA2 cB2 fA2 fB2
  obtain ⟨cA2, cB2, fA2, fB2⟩ := two_cells f2
  clear hbg2
  have HOK := Lib.hid (sbOk_of HP0.out HP1.out HP2.out)
  obtain ⟨n0, b0, o0, k0, rb0, ro0, rc0, b0s, o0s, k0s, rb0s, ro0s, rc0s, q0, q0s, hl0, hl0s, hn0, hx0, hc0, hm0, hc0s, hm0s, t0, t0s⟩ := hA.tabs HP0.out
  injection q0 with p1 p2 p3
  injection q0s with p4 p5 p6
  subst p1 p2 p3 p4 p6
  rw [hl0s] at f0 cB0 ⊢
  have hl12' := (setOk_len HP1.out).2
  have hLW := hL.below hB2
  have hpay : Pays3 g2 87 #[.pointer (some ⟨w.heap.size + 1, 0, none⟩), .pointer (some ⟨w.heap.size, 0, none⟩)] L.length (sbG A L) (sbG B L) := fun U x y hb h1 h2 =>
    c_sub1 (w.heap.size + 1) w.heap.size A.length c0 c0s b0 o0 b0s o0s A B L a1 c1 rb0 ro0 rc0 rb0s ro0s rc0s x y U (one_cell (f1.under hb)) (two_cells (f0.under hb)).1 (two_cells (f0.under hb)).2.1 (hLW.below hb) ((t0.below hB2).below hb) ((t0s.below hB2).below hb) HP1.out h1 h2 hx0
  have HP := Lib.hid hpay; have HF2 := Lib.hid f2; have HBW := Lib.hid hB2
  clear hpay hLW f2 t0 t0s hA hL hB0 hB1 hB2 hW0 f0 f1
  go_wp2_with fail
  refine (c_solutionBy L.length _ _ _ _ _ (by omega) eg_sub1 HP.out).mono ?_; rintro e wz ⟨s1, s2, rfl, hs, hbz⟩
  obtain ⟨sa1, sl1, sc1, rfl⟩ := hs.sol.1.any
  obtain ⟨sa2, sl2, sc2, rfl⟩ := hs.sol.2.any
  clear cA2 cB2 fA2 fB2
  obtain ⟨z0, z1, z2, z3⟩ := two_cells (HF2.out.under hbz)
  have HLo := Lib.hid HF2.out.lt; have HSo := Lib.hid hs; have HBz := Lib.hid (bb HBW.out hbz); clear hs hbz
  go_wp2
  obtain ⟨hA, hB⟩ := stored (q := w.heap.size + 1 + 1) HBz.out HSo.out (by omega) HLo.out
  refine bodyPost_ret (v := .tuple #[.agg #[.slice sa1 sl1 sc1, .slice sa2 sl2 sc2], .int .i64 0]) (by simp [results, Try.results17, go_sem, z0, z1]) rfl ⟨_, _, by simp [sbCode, HP0.out, HP1.out, HP2.out]; exact ⟨rfl, rfl⟩, by simpa [sbRA, sbRB, sbT, HOK.out] using hA, hB⟩

set_option maxRecDepth 100000 in
set_option maxHeartbeats 4000000 in
theorem c_l02Sub (v0 u0 : Value) (A B : List (List Int)) (v1 : Value) (L : List Int) (w : World) (hA : Sol w v0 u0 A B) (hL : Ints w v1 L) (hp : isPM A B = true) (hset : setOk A.length L = true) :
    Calls Try.prog 83 #[.agg #[v0, u0], v1] w (RSolR w (sbT A L) (sbT B L)) := by
  obtain ⟨n0, b0, o0, c0, rb0, ro0, rc0, b0s, o0s, c0s, rb0s, ro0s, rc0s, rfl, rfl, hl0, hl0s, hn0, hx0, hc0, hm0, hc0s, hm0s, t0, t0s⟩ := hA.tabs hp
  have HL0 := Lib.hid hl0; clear hl0
  have HL0s := Lib.hid hl0s; clear hl0s
  obtain ⟨a1, c1, rfl, hc1, hm1⟩ := hL.shape
  go_enter Try.func83, Try.ntmps83
  go_wp2
  obtain ⟨f0, f2, hW0, hsz⟩ := boxes2 w [.slice (some ⟨b0, o0, none⟩) n0 c0, .slice (some ⟨b0s, o0s, none⟩) n0 c0s] [.slice none 0 0, .slice none 0 0] 27 27
  obtain ⟨W0, hW⟩ : ∃ W, ((w.alloc (.cells #[.slice (some ⟨b0, o0, none⟩) n0 c0, .slice (some ⟨b0s, o0s, none⟩) n0 c0s] 27)).alloc (.cells #[.slice none 0 0, .slice none 0 0] 27)) = W := ⟨_, rfl⟩
  rw [hW] at f0 f2 hW0 hsz ⊢
  have HSZ := Lib.hid hsz
  clear hW hsz
  obtain ⟨cA0, cB0, -, -⟩ := two_cells f0
  obtain ⟨cA2, cB2, -, -⟩ := two_cells f2
  replace t0 := t0.below hW0; replace t0s := t0s.below hW0
  obtain ⟨N, hN⟩ : ∃ N, N = L.length := ⟨_, rfl⟩
  rw [HL0.out] at hset
  have hRA : sbT A L = tabOf N (sbG A L) := by unfold sbT; rw [hN]
  have hRB : sbT B L = tabOf N (sbG B L) := by unfold sbT; rw [hN]
  have hl12 := (setOk_len hset).2
  obtain ⟨bl, ol, hal, -⟩ := hL.get 0 (setOk_len hset).1
  subst hal
  have HRA := Lib.hid hRA; have HRB := Lib.hid hRB; have HSet := Lib.hid hset; have HN := Lib.hid hN
  have hNI : (L.length : Int) = N := by rw [hN]
  have hN12 : N ≤ 12 := by omega
  obtain ⟨gA, hgA⟩ : ∃ g : Int → Int → Int, g = sbG A L := ⟨_, rfl⟩
  obtain ⟨gB, hgB⟩ : ∃ g : Int → Int → Int, g = sbG B L := ⟨_, rfl⟩
  rw [← hgA] at HRA; rw [← hgB] at HRB
  have HGA := Lib.hid hgA; have HGB := Lib.hid hgB
  clear hRA hRB hset hN hgA hgB
  have HT0 := Lib.hid t0; have HT0s := Lib.hid t0s; have HLr := Lib.hid (hL.below hW0)
  have HF2lt := Lib.hid f2.lt
  have f1 := f2
  have HSV := HSZ
  have HF1lt := HF2lt
  clear t0 t0s cA0 cB0 cA2 cB2 hA hL hp
  have hB1 : Below W0.heap.size W0 (W0.alloc (.cells #[.slice none 0 0, .slice none 0 0] 27)) := (Below.refl _ _).alloc (Nat.le_refl _) _
  have hout := Blk.new W0 [.slice none 0 0, .slice none 0 0] 27
  have hs1 : (W0.alloc (.cells #[.slice none 0 0, .slice none 0 0] 27)).heap.size = W0.heap.size + 1 := by simp
  have hqq : W0.heap.size = w.heap.size + 1 + 1 := by have := HSV.out; omega
  change Blk (W0.alloc (.cells #[.slice none 0 0, .slice none 0 0] 27)) _ _ _ at hout
  obtain ⟨W1, hW1⟩ : ∃ W, W0.alloc (.cells #[.slice none 0 0, .slice none 0 0] 27) = W := ⟨_, rfl⟩
  rw [hW1] at hB1 hout hs1 ⊢
  clear hW1
  have hout' : Blk W1 (w.heap.size + 1 + 1) 27 [.slice none 0 0, .slice none 0 0] := by rw [← hqq]; exact hout
  have HOut := Lib.hid (Out2.start (lo := w.heap.size + 1 + 1 + 1) (q := w.heap.size + 1 + 1) (w := W1) (by omega) (by omega) hout')
  have HB1 := Lib.hid hB1; have HWW := Lib.hid hW0; have HS1 := Lib.hid hs1
  have HQLE : Hid (W0.heap.size ≤ w.heap.size + 1 + 1) := Lib.hid (by omega)
  clear hB1 hout hout' hs1 hW0 hqq
  go_loopw [6, 7, 8, 9] (fun a _ _ _ wr => ∃ (k : Nat) (va vb : Value), k ≤ N ∧ a = .int .i64 k ∧ Hid (Below W0.heap.size W0 wr) ∧ Hid (Out2 (w.heap.size + 1 + 1 + 1) wr.heap.size (w.heap.size + 1 + 1) wr va vb ((tabOf N gA).take k) ((tabOf N gB).take k))) (fun a _ _ _ _ => N - (intOf a).toNat)
  case atStart => exact ⟨0, _, _, Nat.zero_le _, rfl, HB1, HOut⟩
  case round =>
    clear HB1 HOut
    obtain ⟨k, va, vb, hk, rfl, HB, HO⟩ := hrel
    obtain ⟨wo, rfl⟩ : ∃ wo : World, wo = wr := ⟨_, rfl⟩
    by_cases hlt : k < N
    · go_wp2
      go_loopw [7, 8, 9] (fun s t y wi => ∃ (j : Nat) (sa : Option Addr) (sc : Nat) (ta : Option Addr) (tc : Nat), j ≤ N ∧ y = .int .i64 j ∧ s = .slice sa j sc ∧ t = .slice ta j tc ∧ Hid (Below wo.heap.size wo wi) ∧ Hid (Two wo.heap.size wi (.slice sa j sc) (.slice ta j tc) ((rowOf N (gA k)).take j) ((rowOf N (gB k)).take j))) (fun _ _ y _ => N - (intOf y).toNat)
      case atStart => exact ⟨0, _, _, _, _, Nat.zero_le _, rfl, rfl, rfl, Lib.hid (((Below.refl wo.heap.size wo).alloc (Nat.le_refl _) _).alloc (by simp) _), Lib.hid (Two.made0 wo)⟩
      case round =>
        obtain ⟨j, sa, sc, ta, tc, hj, rfl, rfl, rfl, Hb, HTw⟩ := hrel
        obtain ⟨wi, rfl⟩ : ∃ wi : World, wi = wr := ⟨_, rfl⟩
        by_cases hlj : j < N
        · have hB2 := bb HB.out Hb.out
          have hkL : k < L.length := by have := HN.out; omega
          have hjL : j < L.length := by have := HN.out; omega
          obtain ⟨d1, d2⟩ := setOk_in HSet.out hkL
          obtain ⟨d3, d4⟩ := setOk_in HSet.out hjL
          obtain ⟨x, hx⟩ : ∃ x, x = nth L k := ⟨_, rfl⟩
          obtain ⟨y, hy⟩ : ∃ x, x = nth L j := ⟨_, rfl⟩
          rw [← hx] at d1 d2; rw [← hy] at d3 d4
          have HXe := Lib.hid hx; have HYe := Lib.hid hy
          have HEA : Hid (gA k j = idx L (val2 A x y)) := Lib.hid (by rw [HGA.out, hx, hy]; rfl)
          have HEB : Hid (gB k j = idx L (val2 B x y)) := Lib.hid (by rw [HGB.out, hx, hy]; rfl)
          have HSA : Hid (∀ w' : World, Below W0.heap.size W0 w' → w'.cell? ⟨w.heap.size, 0, none⟩ = some (.slice (some ⟨b0, o0, none⟩) n0 c0) ∧ w'.cell? ⟨bl, ol + k, none⟩ = some (.int .i64 x) ∧ w'.cell? ⟨bl, ol + j, none⟩ = some (.int .i64 y) ∧ w'.cell? ⟨b0, o0 + x.toNat, none⟩ = some (.slice (some ⟨rb0 x.toNat, ro0 x.toNat, none⟩) n0 (rc0 x.toNat)) ∧ w'.cell? ⟨rb0 x.toNat, ro0 x.toNat + y.toNat, none⟩ = some (.int .i64 (val2 A x y))) := Lib.hid (by
            intro w' hb
            have T0 := HT0.out.below hb
            have l1 := (HLr.out.below hb).at k hkL; have l2 := (HLr.out.below hb).at j hjL
            rw [← HXe.out] at l1; rw [← HYe.out] at l2
            exact ⟨(two_cells (f0.under hb)).1, l1, l2, T0.rowi _ d1 d2, T0.vali _ _ d1 d2 d3 d4⟩)
          have HSB : Hid (∀ w' : World, Below W0.heap.size W0 w' → w'.cell? ⟨w.heap.size, 1, none⟩ = some (.slice (some ⟨b0s, o0s, none⟩) n0 c0s) ∧ w'.cell? ⟨bl, ol + k, none⟩ = some (.int .i64 x) ∧ w'.cell? ⟨bl, ol + j, none⟩ = some (.int .i64 y) ∧ w'.cell? ⟨b0s, o0s + x.toNat, none⟩ = some (.slice (some ⟨rb0s x.toNat, ro0s x.toNat, none⟩) n0 (rc0s x.toNat)) ∧ w'.cell? ⟨rb0s x.toNat, ro0s x.toNat + y.toNat, none⟩ = some (.int .i64 (val2 B x y))) := Lib.hid (by
            intro w' hb
            have T0 := HT0s.out.below hb
            have l1 := (HLr.out.below hb).at k hkL; have l2 := (HLr.out.below hb).at j hjL
            rw [← HXe.out] at l1; rw [← HYe.out] at l2
            exact ⟨(two_cells (f0.under hb)).2.1, l1, l2, T0.rowi _ d1 d2, T0.vali _ _ d1 d2 d3 d4⟩)
          have hkN : (k : Int) < N := by omega
          have hjN : (j : Int) < N := by omega
          obtain ⟨q1, q2, q3, q4, q5⟩ := HSA.out wi hB2
          clear hx hy hB2 hkL hjL
          have HX1 := Lib.hid (HTw.out.under ((Below.refl wi.heap.size wi).drew))
          have HZ1 := Lib.hid (bb Hb.out ((Below.refl wi.heap.size wi).drew))
          have hl1 : ((rowOf N (gA k)).take j).length = j := by simp; omega
          have hl2 : ((rowOf N (gB k)).take j).length = j := by simp; omega
          have HL1a := Lib.hid hl1; have HL2a := Lib.hid hl2
          have HN1a : Hid (((rowOf N (gA k)).take j).length ≤ 1099511627776) := by show _ ≤ _; rw [hl1]; omega
          have HN2a : Hid (((rowOf N (gB k)).take j).length ≤ 1099511627776) := by show _ ≤ _; rw [hl2]; omega
          have HS1a : Hid (wo.heap.size ≤ (wi.drew).heap.size) := Lib.hid HZ1.out.size
          clear hl1 hl2
          go_wp2
          go_region_held3 (fun w' => w'.cell? ⟨w.heap.size, 0, none⟩ = some (.slice (some ⟨b0, o0, none⟩) n0 c0) ∧ w'.cell? ⟨bl, ol + k, none⟩ = some (.int .i64 x) ∧ w'.cell? ⟨bl, ol + j, none⟩ = some (.int .i64 y) ∧ w'.cell? ⟨b0, o0 + x.toNat, none⟩ = some (.slice (some ⟨rb0 x.toNat, ro0 x.toNat, none⟩) n0 (rc0 x.toNat)) ∧ w'.cell? ⟨rb0 x.toNat, ro0 x.toNat + y.toNat, none⟩ = some (.int .i64 (val2 A x y))) (first | go_keep | exact HSA.out _ (bb HB.out HZ1.out) | exact HSA.out _ (bb HB.out HZ2.out)) ((first | (go_at_call 145; refine (c_l01Index _ _ _ _ (HLr.out.below (bb HB.out HZ1.out))).mono ?_; rintro e w' ⟨rfl, rfl⟩) | (refine step_app_int wo.heap.size (wi.drew) _ ((rowOf N (gA k)).take j) _ _ _  rfl rfl rfl HX1.out.a rfl HN1a.out HS1a.out ?_; intro g c1 w1 hown1 hk1 hg1; rw [HL1a.out] at hown1; rw [HL1a.out]; have HT1 := Lib.hid (HX1.out.app1 hown1 hk1 hg1); have HZ2 := Lib.hid (HX1.out.a.frame HZ1.out (Nat.le_refl _) HS1a.out hk1); clear hown1 hk1 hg1)))
          go_wp2
          have hB3 := bb HB.out HZ2.out
          clear q1 q2 q3 q4 q5
          obtain ⟨q1, q2, q3, q4, q5⟩ := HSB.out w1 hB3
          have HX2 := Lib.hid (HT1.out.under ((Below.refl w1.heap.size w1).drew))
          have HZ3 := Lib.hid (bb HZ2.out ((Below.refl w1.heap.size w1).drew))
          have HS2a : Hid (wo.heap.size ≤ (w1.drew).heap.size) := Lib.hid HZ3.out.size
          clear hB3
          go_wp2
          go_region_held3 (fun w' => w'.cell? ⟨w.heap.size, 1, none⟩ = some (.slice (some ⟨b0s, o0s, none⟩) n0 c0s) ∧ w'.cell? ⟨bl, ol + k, none⟩ = some (.int .i64 x) ∧ w'.cell? ⟨bl, ol + j, none⟩ = some (.int .i64 y) ∧ w'.cell? ⟨b0s, o0s + x.toNat, none⟩ = some (.slice (some ⟨rb0s x.toNat, ro0s x.toNat, none⟩) n0 (rc0s x.toNat)) ∧ w'.cell? ⟨rb0s x.toNat, ro0s x.toNat + y.toNat, none⟩ = some (.int .i64 (val2 B x y))) (first | go_keep | exact HSB.out _ (bb HB.out HZ3.out) | exact HSB.out _ (bb HB.out HZ4.out)) ((first | (go_at_call 145; refine (c_l01Index _ _ _ _ (HLr.out.below (bb HB.out HZ3.out))).mono ?_; rintro e w' ⟨rfl, rfl⟩) | (refine step_app_int wo.heap.size (w1.drew) _ ((rowOf N (gB k)).take j) _ _ _  rfl rfl rfl HX2.out.b rfl HN2a.out HS2a.out ?_; intro g2 c2 w4 hown4 hk4 hg4; rw [HL2a.out] at hown4; rw [HL2a.out]; have HT2 := Lib.hid (HX2.out.app2 hown4 hk4 hg4); have HZ4 := Lib.hid (HX2.out.b.frame HZ3.out (Nat.le_refl _) HS2a.out hk4); clear hown4 hk4 hg4)))
          go_wp2
          go_roundw
          case rel =>
            refine ⟨j + 1, some ⟨g, 0, none⟩, c1, some ⟨g2, 0, none⟩, c2, by omega, by go_num, rfl, rfl, HZ4, ?_⟩
            rw [take_snoc (rowOf N (gA k)) _ (by simpa using hlj), take_snoc (rowOf N (gB k)) _ (by simpa using hlj), nth_rowOf _ _ _ hlj, nth_rowOf _ _ _ hlj, HEA.out, HEB.out]
            exact HT2
          case measure => simp [intOf]; omega
        · obtain rfl : N = j := by omega
          have hTw := HTw.out
          rw [List.take_of_length_le (by simp), List.take_of_length_le (by simp)] at hTw
          have HU := Lib.hid hTw; clear hTw
          have HO2 := Lib.hid (HO.out.under Hb.out)
          have HBi := Lib.hid (bb HB.out Hb.out)
          have hla : ((tabOf N gA).take k).length = k := by simp; omega
          have hlb : ((tabOf N gB).take k).length = k := by simp; omega
          have HNA : Hid (((tabOf N gA).take k).length ≤ 1099511627776) := by show _ ≤ _; rw [hla]; omega
          have HNB : Hid (((tabOf N gB).take k).length ≤ 1099511627776) := by show _ ≤ _; rw [hlb]; omega
          have HLA := Lib.hid hla; have HLB := Lib.hid hlb; clear hla hlb
          have HLO : Hid ((w.heap.size + 1 + 1 + 1) ≤ wi.heap.size) := Nat.le_trans HO2.out.lm HO2.out.mw
          obtain ⟨cA, cB, cF, cG⟩ := two_cells HO2.out.blk
          go_wp2_with (at_builtin; go_loud (first
            | (refine wpList_app_row2 (w.heap.size + 1 + 1 + 1) wo.heap.size wi va ((tabOf N gA).take k) _ (rowOf N (gA k)) _ _ rfl rfl rfl HO2.out.a HU.out.a rfl HNA.out HO2.out.lm HLO.out ?_; intro g c1 w1 hown1 hk1 hg1; rw [HLA.out] at hown1; rw [HLA.out]; have hq1 := HO2.out.blkq hk1; obtain ⟨dA, dB, dF, dG⟩ := two_cells hq1; have hh := HO2.out.app1 hown1 hk1 hg1; have hv := HO2.out.row1 HU.out.b hk1 (.slice (some ⟨g, 0, none⟩) (k + 1) c1); have hf := HO2.out.frame1 HBi.out HQLE.out hk1 (.slice (some ⟨g, 0, none⟩) (k + 1) c1); obtain ⟨eA, eB, eF, eG⟩ := two_cells hh.blk; have HH := Lib.hid hh; have HV := Lib.hid hv; have HF1 := Lib.hid hf; clear hown1 hk1 hg1 hq1 hh hv hf)
            | (refine wpList_app_row2s (w.heap.size + 1 + 1 + 1) wo.heap.size (w1.setCell ⟨(w.heap.size + 1 + 1), 0, none⟩ (.slice (some ⟨g, 0, none⟩) (k + 1) c1)) vb ((tabOf N gB).take k) _ (rowOf N (gB k)) _ _ w1.heap.size (by simp [World.setCell]) rfl rfl rfl HH.out.b HV.out rfl HNB.out HH.out.lm (Nat.le_trans HH.out.lm HH.out.mw) ?_; intro g2 c2 w4 hown4 hk4 hg4; rw [HLB.out] at hown4; rw [HLB.out]; have hq4 := HH.out.blkq hk4; clear dA dB dF dG eA eB eF eG cA cB cF cG; obtain ⟨dA, dB, dF, dG⟩ := two_cells hq4; have HH2 := Lib.hid (HH.out.app2 hown4 hk4 hg4); have HF2 := Lib.hid (HH.out.frame2 HF1.out HQLE.out hk4 (.slice (some ⟨g2, 0, none⟩) (k + 1) c2)); clear hown4 hk4 hg4 hq4)))
          go_roundw
          case rel =>
            refine ⟨k + 1, .slice (some ⟨g, 0, none⟩) (k + 1) c1, .slice (some ⟨g2, 0, none⟩) (k + 1) c2, by omega, by go_num, HF2, ?_⟩
            rw [take_snoc_row (tabOf N gA) _ (by simpa using hlt), take_snoc_row (tabOf N gB) _ (by simpa using hlt), row_tabOf _ _ _ hlt, row_tabOf _ _ _ hlt]
            exact HH2
          case measure => simp [intOf]; omega
    · obtain rfl : N = k := by omega
      have hO := HO.out
      rw [List.take_of_length_le (by simp), List.take_of_length_le (by simp)] at hO
      obtain ⟨ra1, rc1, hva, _⟩ := hO.a.out.rows.shape
      obtain ⟨ra2, rc2, hvb, _⟩ := hO.b.out.rows.shape
      rw [tabOf_length] at hva hvb
      subst hva hvb
      obtain ⟨y0, y1, y2, y3⟩ := two_cells hO.blk
      obtain ⟨z0, z1, z2, z3⟩ := two_cells (f1.under HB.out)
      have HO' := Lib.hid hO; clear hO
      have hlt1 := HF1lt.out
      go_wp2
      refine bodyPost_ret (v := .agg #[.slice ra1 N rc1, .slice ra2 N rc2]) (by simp [results, Try.results83, go_sem, z0, z1]) rfl ⟨_, _, rfl, ⟨?_, ?_⟩, ((bb HWW.out HB.out).setCell (p := ⟨w.heap.size + 1, 0, none⟩) (by show _ ≤ w.heap.size + 1; omega) _).setCell (p := ⟨w.heap.size + 1, 1, none⟩) (by show _ ≤ w.heap.size + 1; omega) _⟩
      · try rw [HRA.out]
        exact OwnRows.mono (B := (w.heap.size + 1 + 1 + 1)) ((HO'.out.a.out.keep (keep1 _ (w.heap.size + 1) 0 _) (fun b h1 h2 h3 => by have h3 : b = w.heap.size + 1 := h3; omega)).keep (keep1 _ (w.heap.size + 1) 1 _) (fun b h1 h2 h3 => by have h3 : b = w.heap.size + 1 := h3; omega)) (by have := HSV.out; omega)
      · try rw [HRB.out]
        exact OwnRows.mono (B := (w.heap.size + 1 + 1 + 1)) ((HO'.out.b.out.keep (keep1 _ (w.heap.size + 1) 0 _) (fun b h1 h2 h3 => by have h3 : b = w.heap.size + 1 := h3; omega)).keep (keep1 _ (w.heap.size + 1) 1 _) (fun b h1 h2 h3 => by have h3 : b = w.heap.size + 1 := h3; omega)) (by have := HSV.out; omega)

set_option maxRecDepth 100000 in
set_option maxHeartbeats 2000000 in
theorem c_specSubSolution (v0 u0 : Value) (A B : List (List Int)) (v1 : Value) (L : List Int) (w : World) (hA : Sol w v0 u0 A B) (hL : Ints w v1 L) :
    Calls Try.prog 14 #[.agg #[v0, u0], v1] w (RSolRC w (sbRA A B L) (sbRB A B L) (sbCode A B L)) := by
  obtain ⟨a0, c0, rfl, _, _⟩ := hA.1.shape
  obtain ⟨a0s, c0s, rfl, _, _⟩ := hA.2.shape
  obtain ⟨a1, c1, rfl, _, _⟩ := hL.shape
  obtain ⟨f0, f2, hW0, hsz⟩ := boxes2 w [.slice a0 A.length c0, .slice a0s B.length c0s] [.slice none 0 0, .slice none 0 0] 27 27
  obtain ⟨W0, hW⟩ : ∃ W, (w.alloc (.cells #[.slice a0 A.length c0, .slice a0s B.length c0s] 27)).alloc (.cells #[.slice none 0 0, .slice none 0 0] 27) = W := ⟨_, rfl⟩
  rw [hW] at f0 f2 hW0
  have hcase : (isPM A B = true ∧ setOk A.length L = true ∧ setCode A B L = 0) ∨ ((setCode A B L = 1 ∨ setCode A B L = 2) ∧ sbOk A B L = false ∧ sbCode A B L = setCode A B L) := by
    unfold setCode sbCode sbOk
    by_cases h1 : isPM A B = true
    · by_cases h2 : setOk A.length L = true
      · exact .inl ⟨h1, h2, by simp [h1, h2]⟩
      · simp [h1, h2]
    · simp [h1]
  have HC := Lib.hid hcase; have HW := Lib.hid hW; clear hcase hW hsz
  go_enter Try.func14, Try.ntmps14
  go_wp2_with fail
  rw [HW.out]
  refine (c_l02SetCode _ _ _ _ _ _ _ (hA.below hW0) (hL.below hW0)).mono ?_; rintro e w1 ⟨rfl, hb⟩
  have hB1 := bb hW0 hb
  replace f0 := f0.under hb; replace f2 := f2.under hb
  obtain ⟨cA, cB, -, -⟩ := two_cells f0; obtain ⟨z0, z1, z2, z3⟩ := two_cells f2
  clear hb
  rcases HC.out with ⟨h1, h2, h3⟩ | ⟨h1, h2, h3⟩
  · have H1 := Lib.hid h1; have H2 := Lib.hid h2
    rw [h3]
    clear h1 h2 h3
    go_wp2_with fail
    refine (c_l02Closed _ _ _ _ _ _ _ (hA.below hB1) (hL.below hB1) H1.out H2.out).mono ?_; rintro e w2 ⟨rfl, hb2⟩
    replace hB1 := bb hB1 hb2; replace f0 := f0.under hb2; replace f2 := f2.under hb2
    clear cA cB z0 z1 z2 z3 hb2
    obtain ⟨cA, cB, -, -⟩ := two_cells f0; obtain ⟨z0, z1, z2, z3⟩ := two_cells f2
    by_cases hc : closL A B L = true
    case neg =>
      have hc' : closL A B L = false := by simpa using hc
      have H3 := Lib.hid hc'; have HB := Lib.hid hB1
      rw [hc']
      clear hc hc' hA hL f0 f2 hW0 hB1
      go_wp2
      refine bodyPost_ret (v := .tuple #[.agg #[.slice none 0 0, .slice none 0 0], .int .i64 5]) (by simp [results, Try.results14, go_sem, z0, z1]) rfl ⟨.slice none 0 0, .slice none 0 0, by simp [sbCode, H1.out, H2.out, H3.out], ?_, ?_⟩
      · exact ⟨_, rfl, ⟨by simpa [sbRA, sbOk, H3.out] using (OwnRowsIn.nil0 0 0 _).rows, by simpa [sbRB, sbOk, H3.out] using (OwnRowsIn.nil0 0 0 _).rows⟩, Nat.le_refl _, Below.refl _ _⟩
      · first | exact HB.out | exact (HB.out.setCell (p := ⟨w.heap.size + 1, 0, none⟩) (by show _ ≤ w.heap.size + 1; omega) _).setCell (p := ⟨w.heap.size + 1, 1, none⟩) (by show _ ≤ w.heap.size + 1; omega) _
    have HOK := Lib.hid (sbOk_of H1.out H2.out hc); have H3 := Lib.hid hc
    rw [hc]
    clear hc
    go_wp2_with fail
    refine (c_l02Sub _ _ A B _ L _ (hA.below hB1) (hL.below hB1) H1.out H2.out).mono ?_; rintro e wz ⟨s1, s2, rfl, hs, hbz⟩
    obtain ⟨sa1, sl1, sc1, rfl⟩ := hs.1.any
    obtain ⟨sa2, sl2, sc2, rfl⟩ := hs.2.any
    clear z0 z1 z2 z3
    obtain ⟨z0, z1, z2, z3⟩ := two_cells (f2.under hbz)
    have HLo := Lib.hid f2.lt; have HSo := Lib.hid hs; have HBz := Lib.hid (bb hB1 hbz)
    clear hs hbz hB1 hW0 f0 f2 hA hL
    go_wp2
    obtain ⟨hA, hB⟩ := storedR (q := w.heap.size + 1) HBz.out HSo.out (by omega) HLo.out
    refine bodyPost_ret (v := .tuple #[.agg #[.slice sa1 sl1 sc1, .slice sa2 sl2 sc2], .int .i64 0]) (by simp [results, Try.results14, go_sem, z0, z1]) rfl ⟨_, _, by simp [sbCode, H1.out, H2.out, H3.out]; exact ⟨rfl, rfl⟩, by simpa [sbRA, sbRB, HOK.out] using hA, hB⟩
  · have H2 := Lib.hid h2; have H3 := Lib.hid h3; have HB := Lib.hid hB1
    rcases h1 with h1 | h1
    all_goals
      have H1 := Lib.hid h1
      rw [h1]
      clear h1 h2 h3 hA hL f0 f2 hW0 hB1
      go_wp2
      refine bodyPost_ret (v := .tuple #[.agg #[.slice none 0 0, .slice none 0 0], .int .i64 (setCode A B L)]) (by simp [results, Try.results14, go_sem, z0, z1, H1.out]) rfl ⟨.slice none 0 0, .slice none 0 0, by rw [H3.out], ?_, ?_⟩
      · exact ⟨_, rfl, ⟨by simpa [sbRA, H2.out] using (OwnRowsIn.nil0 0 0 _).rows, by simpa [sbRB, H2.out] using (OwnRowsIn.nil0 0 0 _).rows⟩, Nat.le_refl _, Below.refl _ _⟩
      · first | exact HB.out | exact (HB.out.setCell (p := ⟨w.heap.size + 1, 0, none⟩) (by show _ ≤ w.heap.size + 1; omega) _).setCell (p := ⟨w.heap.size + 1, 1, none⟩) (by show _ ≤ w.heap.size + 1; omega) _

theorem sb_total (A B : List (List Int)) (L : List Int) : total (sbRA A B L) ≤ 144 ∧ total (sbRB A B L) ≤ 144 := by
  unfold sbRA sbRB
  split
  · rename_i h
    have hl : L.length ≤ 12 := by
      simp only [sbOk, Bool.and_eq_true] at h
      have h1 := (setOk_len h.1.2).2
      have h2 := (isTab_len (isPM_parts h.1.1).1).2
      omega
    have hz : ∀ g : Int → Int → Int, total (tabOf L.length g) ≤ 144 := by
      intro g
      have h1 := total_le _ (tab_rows (g := g) hl)
      rw [tabOf_length] at h1
      omega
    exact ⟨hz _, hz _⟩
  · simp [total]
set_option maxHeartbeats 4000000 in
theorem law_SubSolution (v0 u0 : Value) (x0 y0 : List (List Int)) (v1 : Value) (x1 : List Int) (w : World) (hr0 : Rows w v0 x0) (hr0' : Rows w u0 y0) (hx1 : Ints w v1 x1) :
    Calls Try.prog 3 #[.agg #[v0, u0], v1] w (RVal w (.bool true)) := by
  obtain ⟨a0, c0, rfl, hc0, hm0⟩ := hr0.shape
  obtain ⟨a0s, c0s, rfl, hc0s, hm0s⟩ := hr0'.shape
  have hx0 : Sol w (.slice a0 x0.length c0) (.slice a0s y0.length c0s) x0 y0 := ⟨hr0, hr0'⟩
  clear hr0 hr0'
  obtain ⟨a1, c1, rfl, hc1, hm1⟩ := hx1.shape
  by_cases hn1 : x1.length ≤ 1048576
  case neg =>
    go_enter Try.func3, Try.ntmps3
    go_wp2
    go_ret
    exact ⟨rfl, by first | exact Below.refl _ _ | exact (Below.refl _ _).alloc (Nat.le_refl _) _ | exact ((Below.refl _ _).alloc (Nat.le_refl _) _).alloc (by simp) _⟩
  go_enter Try.func3, Try.ntmps3
  go_wp2_with fail
  obtain ⟨bx0, BW, hsz0⟩ := boxes1 w [.slice a0 x0.length c0, .slice a0s y0.length c0s] 24
  obtain ⟨W0, hW0⟩ : ∃ W, (w.alloc (.cells #[.slice a0 x0.length c0, .slice a0s y0.length c0s] 24)) = W := ⟨_, rfl⟩
  rw [hW0] at bx0 BW hsz0 ⊢
  have hs0 : w.heap.size + 1 ≤ W0.heap.size := by omega
  clear hW0 hsz0
  refine (c_szSolution _ _ _ _ _ _ (hx0.below BW) (by omega) (by omega)).mono ?_; rintro e w1 ⟨rfl, hb1⟩
  have hs1 := hb1.size
  replace BW := bb BW hb1
  replace bx0 := bx0.under hb1
  obtain ⟨cA0, cB0, -, -⟩ := two_cells bx0
  clear hb1
  by_cases hg0 : leftS x0 y0 (1048576) < 0
  case pos =>
    have HB := Lib.hid BW; clear BW
    go_wp2
    go_ret
    exact ⟨rfl, HB.out⟩
  have hf0 := leftS_fits (left := 1048576) (by omega) (by omega) hg0
  have Hf0 := Lib.hid hf0
  clear hf0
  have hf0 : (x0.length ≤ 1048576 ∧ total x0 ≤ 1048576) ∧ (y0.length ≤ 1048576 ∧ total y0 ≤ 1048576) ∧ 0 ≤ leftS x0 y0 (1048576) ∧ leftS x0 y0 (1048576) ≤ 1048576 := ⟨⟨Hf0.out.1.1, Hf0.out.1.2.2⟩, ⟨Hf0.out.2.1.1, Hf0.out.2.1.2.2⟩, Hf0.out.2.2⟩
  have hB0 : total (sbRA x0 y0 x1) + total (sbRB x0 y0 x1) ≤ 1152921504606846976 := by have := sb_total x0 y0 x1; omega
  obtain ⟨RA0, hRA0⟩ : ∃ z, z = sbRA x0 y0 x1 := ⟨_, rfl⟩
  obtain ⟨RB0, hRB0⟩ : ∃ z, z = sbRB x0 y0 x1 := ⟨_, rfl⟩
  obtain ⟨R1, hR1⟩ : ∃ z, z = sbCode x0 y0 x1 := ⟨_, rfl⟩
  rw [← hRA0, ← hRB0] at hB0
  have HRA0 := Lib.hid hRA0
  clear hRA0
  have HRB0 := Lib.hid hRB0
  clear hRB0
  have HR1 := Lib.hid hR1
  clear hR1
  have hd0 : decide (RA0 = RA0 ∧ RB0 = RB0) = true := by simp
  have hk1 : (R1 != R1) = false := by simp
  have hda0 : decide (x0 = x0 ∧ y0 = y0) = true := by simp
  have hda1 : decide (x1 = x1) = true := by simp
  have hq0 : ((1 + (total RA0 : Int) + (total RB0 : Int)) != (1 + (total RA0 : Int) + (total RB0 : Int))) = false := by simp
  go_wp2_with fail
  refine (c_toSolution _ _ _ _ _ (hx0.below BW) hf0.1.1 Hf0.out.1.2.1 hf0.2.1.1 Hf0.out.2.1.2.1).mono ?_; rintro e w2 ⟨t11, t12, rfl, ot1, hb2⟩
  have hs2 := hb2.size
  replace BW := bb BW hb2
  replace bx0 := bx0.under hb2
  clear cA0 cB0
  obtain ⟨cA0, cB0, -, -⟩ := two_cells bx0
  clear hb2
  go_wp2_with fail
  refine (c_toInt64S _ _ _ (hx1.below BW) (by omega)).mono ?_; rintro e w3 ⟨t2, rfl, ot2r, hb3⟩
  have hs3 := hb3.size
  replace ot1 := ot1.under hb3
  replace BW := bb BW hb3
  replace bx0 := bx0.under hb3
  clear cA0 cB0
  obtain ⟨cA0, cB0, -, -⟩ := two_cells bx0
  have ot2 := ot2r.inn
  clear ot2r
  clear hb3
  go_wp2_with fail
  refine (c_specSubSolution _ _ _ _ _ _ _ (ot1.sol) (ot2.ints)).mono ?_
  rw [← HRA0.out, ← HRB0.out, ← HR1.out]
  rintro e w4 ⟨s01, s02, rfl, os0, hb4⟩
  have hs4 := hb4.size
  replace ot1 := ot1.under hb4
  replace ot2 := ot2.under hb4
  replace BW := bb BW hb4
  replace bx0 := bx0.under hb4
  clear cA0 cB0
  obtain ⟨cA0, cB0, -, -⟩ := two_cells bx0
  clear ot1
  clear ot2
  have hS := os0.sol
  clear os0
  obtain ⟨sas0, scs0, hvs0, _, _⟩ := hS.1.shape
  subst hvs0
  obtain ⟨sbs0, sds0, hvs0, _, _⟩ := hS.2.shape
  subst hvs0
  have BS : Below w4.heap.size w4 w4 := Below.refl _ _
  clear hb4
  obtain ⟨cA0z, cB0z, -, -⟩ := two_cells (bx0.alloc (.cells #[.slice sas0 RA0.length scs0, .slice sbs0 RB0.length sds0] 27))
  go_wp2_with fail
  clear cA0z cB0z
  obtain ⟨bxs0, hb5, hz5⟩ := boxes1 w4 [.slice sas0 RA0.length scs0, .slice sbs0 RB0.length sds0] 27
  obtain ⟨w5, hW5⟩ : ∃ W, w4.alloc (.cells #[.slice sas0 RA0.length scs0, .slice sbs0 RB0.length sds0] 27) = W := ⟨_, rfl⟩
  rw [hW5] at bxs0 hb5 hz5 ⊢
  have hs5 : w4.heap.size + 1 ≤ w5.heap.size := by omega
  clear hW5 hz5
  replace BW := bb BW hb5
  replace BS := bb BS hb5
  replace bx0 := bx0.under hb5
  clear cA0 cB0
  obtain ⟨cA0, cB0, -, -⟩ := two_cells bx0
  obtain ⟨cAs0, cBs0, -, -⟩ := two_cells bxs0
  clear hb5
  refine (c_toSolution _ _ _ _ _ (hx0.below BW) hf0.1.1 Hf0.out.1.2.1 hf0.2.1.1 Hf0.out.2.1.2.1).mono ?_; rintro e w6 ⟨z01, z02, rfl, oz0, hb6⟩
  have hs6 := hb6.size
  replace BW := bb BW hb6
  replace BS := bb BS hb6
  replace bx0 := bx0.under hb6
  clear cA0 cB0
  obtain ⟨cA0, cB0, -, -⟩ := two_cells bx0
  replace bxs0 := bxs0.under hb6
  clear cAs0 cBs0
  obtain ⟨cAs0, cBs0, -, -⟩ := two_cells bxs0
  clear hb6
  obtain ⟨saz0, scz0, hvz0, _, _⟩ := oz0.sol.1.shape
  subst hvz0
  obtain ⟨sbz0, sdz0, hvz0, _, _⟩ := oz0.sol.2.shape
  subst hvz0
  obtain ⟨cA0z, cB0z, -, -⟩ := two_cells (bx0.alloc (.cells #[.slice saz0 x0.length scz0, .slice sbz0 y0.length sdz0] 27))
  obtain ⟨cAs0z, cBs0z, -, -⟩ := two_cells (bxs0.alloc (.cells #[.slice saz0 x0.length scz0, .slice sbz0 y0.length sdz0] 27))
  go_wp2_with fail
  clear cA0z cB0z
  clear cAs0z cBs0z
  obtain ⟨bxz0, hb7, hz7⟩ := boxes1 w6 [.slice saz0 x0.length scz0, .slice sbz0 y0.length sdz0] 27
  obtain ⟨w7, hW7⟩ : ∃ W, w6.alloc (.cells #[.slice saz0 x0.length scz0, .slice sbz0 y0.length sdz0] 27) = W := ⟨_, rfl⟩
  rw [hW7] at bxz0 hb7 hz7 ⊢
  have hs7 : w6.heap.size + 1 ≤ w7.heap.size := by omega
  clear hW7 hz7
  replace oz0 := oz0.under hb7
  replace BW := bb BW hb7
  replace BS := bb BS hb7
  replace bx0 := bx0.under hb7
  clear cA0 cB0
  obtain ⟨cA0, cB0, -, -⟩ := two_cells bx0
  replace bxs0 := bxs0.under hb7
  clear cAs0 cBs0
  obtain ⟨cAs0, cBs0, -, -⟩ := two_cells bxs0
  obtain ⟨cAz0, cBz0, -, -⟩ := two_cells bxz0
  clear hb7
  refine (c_toInt64S _ _ _ (hx1.below BW) (by omega)).mono ?_; rintro e w8 ⟨z1, rfl, oz1r, hb8⟩
  have hs8 := hb8.size
  replace oz0 := oz0.under hb8
  replace BW := bb BW hb8
  replace BS := bb BS hb8
  replace bx0 := bx0.under hb8
  clear cA0 cB0
  obtain ⟨cA0, cB0, -, -⟩ := two_cells bx0
  replace bxs0 := bxs0.under hb8
  clear cAs0 cBs0
  obtain ⟨cAs0, cBs0, -, -⟩ := two_cells bxs0
  replace bxz0 := bxz0.under hb8
  clear cAz0 cBz0
  obtain ⟨cAz0, cBz0, -, -⟩ := two_cells bxz0
  have oz1 := oz1r.inn
  clear oz1r
  clear hb8
  go_wp2_with fail
  refine (c_SubSolution _ _ _ _ _ _ _ (oz0.sol) (oz1.ints)).mono ?_
  rw [← HRA0.out, ← HRB0.out, ← HR1.out]
  rintro e w9 ⟨g01, g02, rfl, og0, hb9⟩
  have hs9 := hb9.size
  replace oz0 := oz0.under hb9
  replace oz1 := oz1.under hb9
  replace BW := bb BW hb9
  replace BS := bb BS hb9
  replace bx0 := bx0.under hb9
  clear cA0 cB0
  obtain ⟨cA0, cB0, -, -⟩ := two_cells bx0
  replace bxs0 := bxs0.under hb9
  clear cAs0 cBs0
  obtain ⟨cAs0, cBs0, -, -⟩ := two_cells bxs0
  replace bxz0 := bxz0.under hb9
  clear cAz0 cBz0
  obtain ⟨cAz0, cBz0, -, -⟩ := two_cells bxz0
  obtain ⟨sag0, scg0, hvg0, _, _⟩ := og0.sol.1.shape
  subst hvg0
  obtain ⟨sbg0, sdg0, hvg0, _, _⟩ := og0.sol.2.shape
  subst hvg0
  clear hb9
  obtain ⟨cA0z, cB0z, -, -⟩ := two_cells (bx0.alloc (.cells #[.slice sag0 RA0.length scg0, .slice sbg0 RB0.length sdg0] 27))
  obtain ⟨cAs0z, cBs0z, -, -⟩ := two_cells (bxs0.alloc (.cells #[.slice sag0 RA0.length scg0, .slice sbg0 RB0.length sdg0] 27))
  obtain ⟨cAz0z, cBz0z, -, -⟩ := two_cells (bxz0.alloc (.cells #[.slice sag0 RA0.length scg0, .slice sbg0 RB0.length sdg0] 27))
  go_wp2_with fail
  clear cA0z cB0z
  clear cAs0z cBs0z
  clear cAz0z cBz0z
  obtain ⟨bxg0, hb10, hz10⟩ := boxes1 w9 [.slice sag0 RA0.length scg0, .slice sbg0 RB0.length sdg0] 27
  obtain ⟨w10, hW10⟩ : ∃ W, w9.alloc (.cells #[.slice sag0 RA0.length scg0, .slice sbg0 RB0.length sdg0] 27) = W := ⟨_, rfl⟩
  rw [hW10] at bxg0 hb10 hz10 ⊢
  have hs10 : w9.heap.size + 1 ≤ w10.heap.size := by omega
  clear hW10 hz10
  replace oz0 := oz0.under hb10
  replace oz1 := oz1.under hb10
  replace og0 := og0.under hb10
  replace BW := bb BW hb10
  replace BS := bb BS hb10
  replace bx0 := bx0.under hb10
  clear cA0 cB0
  obtain ⟨cA0, cB0, -, -⟩ := two_cells bx0
  replace bxs0 := bxs0.under hb10
  clear cAs0 cBs0
  obtain ⟨cAs0, cBs0, -, -⟩ := two_cells bxs0
  replace bxz0 := bxz0.under hb10
  clear cAz0 cBz0
  obtain ⟨cAz0, cBz0, -, -⟩ := two_cells bxz0
  obtain ⟨cAg0, cBg0, -, -⟩ := two_cells bxg0
  clear hb10
  refine (c_eqS _ _ _ _ _ _ _ _ _ (og0.sol) (hS.below BS)).mono ?_; rintro e w11 ⟨rfl, hb11⟩
  have hs11 := hb11.size
  replace oz0 := oz0.under hb11
  replace oz1 := oz1.under hb11
  replace og0 := og0.under hb11
  replace BW := bb BW hb11
  replace BS := bb BS hb11
  replace bx0 := bx0.under hb11
  clear cA0 cB0
  obtain ⟨cA0, cB0, -, -⟩ := two_cells bx0
  replace bxs0 := bxs0.under hb11
  clear cAs0 cBs0
  obtain ⟨cAs0, cBs0, -, -⟩ := two_cells bxs0
  replace bxz0 := bxz0.under hb11
  clear cAz0 cBz0
  obtain ⟨cAz0, cBz0, -, -⟩ := two_cells bxz0
  replace bxg0 := bxg0.under hb11
  clear cAg0 cBg0
  obtain ⟨cAg0, cBg0, -, -⟩ := two_cells bxg0
  clear hb11
  go_wp2_with fail
  have BWd := BW.drew
  have oz0d := oz0.keep ((Keep.refl (fun _ => False) w11).drew) (fun _ _ _ h => h)
  have bx0d := bx0.drew
  have bxz0d := bxz0.drew
  go_region_held3 (fun w' => w'.cell? ⟨w.heap.size, 0, none⟩ = some (.slice a0 x0.length c0) ∧ w'.cell? ⟨w.heap.size, 1, none⟩ = some (.slice a0s y0.length c0s) ∧ w'.cell? ⟨w6.heap.size, 0, none⟩ = some (.slice saz0 x0.length scz0) ∧ w'.cell? ⟨w6.heap.size, 1, none⟩ = some (.slice sbz0 y0.length sdz0))
    (first | go_keep | exact ⟨(two_cells (bx0d.under hb12)).1, (two_cells (bx0d.under hb12)).2.1, (two_cells (bxz0d.under hb12)).1, (two_cells (bxz0d.under hb12)).2.1⟩ | exact ⟨(two_cells ((bx0d.under hb12).under hb13)).1, (two_cells ((bx0d.under hb12).under hb13)).2.1, (two_cells ((bxz0d.under hb12).under hb13)).1, (two_cells ((bxz0d.under hb12).under hb13)).2.1⟩)
    ((first | (go_at_call 15; refine (c_toSolution _ _ _ _ _ (hx0.below BWd) hf0.1.1 Hf0.out.1.2.1 hf0.2.1.1 Hf0.out.2.1.2.1).mono ?_; rintro e w12 ⟨t121, t122, rfl, ot12, hb12⟩) | (go_at_call 18; refine (c_eqS _ _ _ _ _ _ _ _ _ (oz0d.under hb12).sol ot12.sol).mono ?_; rintro e w13 ⟨rfl, hb13⟩)))
  have hb13z : Below w11.heap.size w11 w13 := (Below.refl _ _).drew.trans (bb hb12 hb13)
  have hs13 : w11.heap.size ≤ w13.heap.size := hb13z.size
  replace oz0 := oz0.under hb13z
  replace oz1 := oz1.under hb13z
  replace og0 := og0.under hb13z
  replace BW := bb BW hb13z
  replace BS := bb BS hb13z
  replace bx0 := bx0.under hb13z
  clear cA0 cB0
  obtain ⟨cA0, cB0, -, -⟩ := two_cells bx0
  replace bxs0 := bxs0.under hb13z
  clear cAs0 cBs0
  obtain ⟨cAs0, cBs0, -, -⟩ := two_cells bxs0
  replace bxz0 := bxz0.under hb13z
  clear cAz0 cBz0
  obtain ⟨cAz0, cBz0, -, -⟩ := two_cells bxz0
  replace bxg0 := bxg0.under hb13z
  clear cAg0 cBg0
  obtain ⟨cAg0, cBg0, -, -⟩ := two_cells bxg0
  clear BWd oz0d bx0d bxz0d ot12 hb12 hb13 hb13z
  go_wp2_with fail
  refine (c_toInt64S _ _ _ (hx1.below BW) (by omega)).mono ?_; rintro e w14 ⟨t3, rfl, ot3r, hb14⟩
  have hs14 := hb14.size
  replace oz0 := oz0.under hb14
  replace oz1 := oz1.under hb14
  replace og0 := og0.under hb14
  replace BW := bb BW hb14
  replace BS := bb BS hb14
  replace bx0 := bx0.under hb14
  clear cA0 cB0
  obtain ⟨cA0, cB0, -, -⟩ := two_cells bx0
  replace bxs0 := bxs0.under hb14
  clear cAs0 cBs0
  obtain ⟨cAs0, cBs0, -, -⟩ := two_cells bxs0
  replace bxz0 := bxz0.under hb14
  clear cAz0 cBz0
  obtain ⟨cAz0, cBz0, -, -⟩ := two_cells bxz0
  replace bxg0 := bxg0.under hb14
  clear cAg0 cBg0
  obtain ⟨cAg0, cBg0, -, -⟩ := two_cells bxg0
  have ot3 := ot3r.inn
  clear ot3r
  clear hb14
  go_wp2_with fail
  refine (c_eqI _ _ _ _ _ (oz1.ints) (ot3.ints)).mono ?_; rintro e w15 ⟨rfl, hb15⟩
  have hs15 := hb15.size
  replace oz0 := oz0.under hb15
  replace oz1 := oz1.under hb15
  replace og0 := og0.under hb15
  replace ot3 := ot3.under hb15
  replace BW := bb BW hb15
  replace BS := bb BS hb15
  replace bx0 := bx0.under hb15
  clear cA0 cB0
  obtain ⟨cA0, cB0, -, -⟩ := two_cells bx0
  replace bxs0 := bxs0.under hb15
  clear cAs0 cBs0
  obtain ⟨cAs0, cBs0, -, -⟩ := two_cells bxs0
  replace bxz0 := bxz0.under hb15
  clear cAz0 cBz0
  obtain ⟨cAz0, cBz0, -, -⟩ := two_cells bxz0
  replace bxg0 := bxg0.under hb15
  clear cAg0 cBg0
  obtain ⟨cAg0, cBg0, -, -⟩ := two_cells bxg0
  clear hb15
  clear ot3
  go_wp2_with fail
  refine (c_markS _ _ _ _ _ _ _ _ oz0 (by omega) (by omega) (by omega)).mono ?_; rintro e w16 ⟨rfl, oz0m, hkw16⟩
  have hs16 := hkw16.size
  replace oz1 := oz1.keep hkw16 (fun b p q r => by omega)
  replace og0 := og0.keep hkw16 (fun b p q r => by omega)
  replace bx0 := bx0.of_block (hkw16.block _ (by omega) (by omega))
  clear cA0 cB0
  obtain ⟨cA0, cB0, -, -⟩ := two_cells bx0
  replace bxs0 := bxs0.of_block (hkw16.block _ (by omega) (by omega))
  clear cAs0 cBs0
  obtain ⟨cAs0, cBs0, -, -⟩ := two_cells bxs0
  replace bxz0 := bxz0.of_block (hkw16.block _ (by omega) (by omega))
  clear cAz0 cBz0
  obtain ⟨cAz0, cBz0, -, -⟩ := two_cells bxz0
  replace bxg0 := bxg0.of_block (hkw16.block _ (by omega) (by omega))
  clear cAg0 cBg0
  obtain ⟨cAg0, cBg0, -, -⟩ := two_cells bxg0
  replace BW := below_keep BW hkw16 (by omega)
  replace BS := below_keep BS hkw16 (by omega)
  clear oz0
  have oz0 := oz0m
  clear oz0m hkw16
  clear oz0
  go_wp2_with fail
  refine (c_markI _ _ _ _ _ _ oz1 (by omega) (by omega)).mono ?_; rintro e w17 ⟨rfl, oz1m, hkw17⟩
  have hs17 := hkw17.size
  replace og0 := og0.keep hkw17 (fun b p q r => by omega)
  replace bx0 := bx0.of_block (hkw17.block _ (by omega) (by omega))
  clear cA0 cB0
  obtain ⟨cA0, cB0, -, -⟩ := two_cells bx0
  replace bxs0 := bxs0.of_block (hkw17.block _ (by omega) (by omega))
  clear cAs0 cBs0
  obtain ⟨cAs0, cBs0, -, -⟩ := two_cells bxs0
  replace bxz0 := bxz0.of_block (hkw17.block _ (by omega) (by omega))
  clear cAz0 cBz0
  obtain ⟨cAz0, cBz0, -, -⟩ := two_cells bxz0
  replace bxg0 := bxg0.of_block (hkw17.block _ (by omega) (by omega))
  clear cAg0 cBg0
  obtain ⟨cAg0, cBg0, -, -⟩ := two_cells bxg0
  replace BW := below_keep BW hkw17 (by omega)
  replace BS := below_keep BS hkw17 (by omega)
  clear oz1
  have oz1 := oz1m
  clear oz1m hkw17
  clear oz1
  go_wp2_with fail
  refine (c_eqS _ _ _ _ _ _ _ _ _ (og0.sol) (hS.below BS)).mono ?_; rintro e w18 ⟨rfl, hb18⟩
  have hs18 := hb18.size
  replace og0 := og0.under hb18
  replace BW := bb BW hb18
  replace BS := bb BS hb18
  replace bx0 := bx0.under hb18
  clear cA0 cB0
  obtain ⟨cA0, cB0, -, -⟩ := two_cells bx0
  replace bxs0 := bxs0.under hb18
  clear cAs0 cBs0
  obtain ⟨cAs0, cBs0, -, -⟩ := two_cells bxs0
  replace bxz0 := bxz0.under hb18
  clear cAz0 cBz0
  obtain ⟨cAz0, cBz0, -, -⟩ := two_cells bxz0
  replace bxg0 := bxg0.under hb18
  clear cAg0 cBg0
  obtain ⟨cAg0, cBg0, -, -⟩ := two_cells bxg0
  clear hb18
  go_wp2_with fail
  refine (c_markS _ _ _ _ _ _ _ _ og0 (by omega) (by omega) (by omega)).mono ?_; rintro e w19 ⟨rfl, og0m, hkw19⟩
  have hs19 := hkw19.size
  replace bx0 := bx0.of_block (hkw19.block _ (by omega) (by omega))
  clear cA0 cB0
  obtain ⟨cA0, cB0, -, -⟩ := two_cells bx0
  replace bxs0 := bxs0.of_block (hkw19.block _ (by omega) (by omega))
  clear cAs0 cBs0
  obtain ⟨cAs0, cBs0, -, -⟩ := two_cells bxs0
  replace bxz0 := bxz0.of_block (hkw19.block _ (by omega) (by omega))
  clear cAz0 cBz0
  obtain ⟨cAz0, cBz0, -, -⟩ := two_cells bxz0
  replace bxg0 := bxg0.of_block (hkw19.block _ (by omega) (by omega))
  clear cAg0 cBg0
  obtain ⟨cAg0, cBg0, -, -⟩ := two_cells bxg0
  replace BW := below_keep BW hkw19 (by omega)
  replace BS := below_keep BS hkw19 (by omega)
  clear og0
  have og0 := og0m
  clear og0m hkw19
  go_wp2_with fail
  refine (c_heldS _ _ _ _ _ _ (og0.sol) (by omega) (by omega)).mono ?_; rintro e w20 ⟨rfl, hb20⟩
  have hs20 := hb20.size
  replace og0 := og0.under hb20
  replace BW := bb BW hb20
  replace BS := bb BS hb20
  replace bx0 := bx0.under hb20
  clear cA0 cB0
  obtain ⟨cA0, cB0, -, -⟩ := two_cells bx0
  replace bxs0 := bxs0.under hb20
  clear cAs0 cBs0
  obtain ⟨cAs0, cBs0, -, -⟩ := two_cells bxs0
  replace bxz0 := bxz0.under hb20
  clear cAz0 cBz0
  obtain ⟨cAz0, cBz0, -, -⟩ := two_cells bxz0
  replace bxg0 := bxg0.under hb20
  clear cAg0 cBg0
  obtain ⟨cAg0, cBg0, -, -⟩ := two_cells bxg0
  clear hb20
  go_wp2_with fail
  refine (c_toSolution _ _ _ _ _ (hx0.below BW) hf0.1.1 Hf0.out.1.2.1 hf0.2.1.1 Hf0.out.2.1.2.1).mono ?_; rintro e w21 ⟨t41, t42, rfl, ot4, hb21⟩
  have hs21 := hb21.size
  replace og0 := og0.under hb21
  replace BW := bb BW hb21
  replace BS := bb BS hb21
  replace bx0 := bx0.under hb21
  clear cA0 cB0
  obtain ⟨cA0, cB0, -, -⟩ := two_cells bx0
  replace bxs0 := bxs0.under hb21
  clear cAs0 cBs0
  obtain ⟨cAs0, cBs0, -, -⟩ := two_cells bxs0
  replace bxz0 := bxz0.under hb21
  clear cAz0 cBz0
  obtain ⟨cAz0, cBz0, -, -⟩ := two_cells bxz0
  replace bxg0 := bxg0.under hb21
  clear cAg0 cBg0
  obtain ⟨cAg0, cBg0, -, -⟩ := two_cells bxg0
  clear hb21
  go_wp2_with fail
  refine (c_toInt64S _ _ _ (hx1.below BW) (by omega)).mono ?_; rintro e w22 ⟨t5, rfl, ot5r, hb22⟩
  have hs22 := hb22.size
  replace og0 := og0.under hb22
  replace ot4 := ot4.under hb22
  replace BW := bb BW hb22
  replace BS := bb BS hb22
  replace bx0 := bx0.under hb22
  clear cA0 cB0
  obtain ⟨cA0, cB0, -, -⟩ := two_cells bx0
  replace bxs0 := bxs0.under hb22
  clear cAs0 cBs0
  obtain ⟨cAs0, cBs0, -, -⟩ := two_cells bxs0
  replace bxz0 := bxz0.under hb22
  clear cAz0 cBz0
  obtain ⟨cAz0, cBz0, -, -⟩ := two_cells bxz0
  replace bxg0 := bxg0.under hb22
  clear cAg0 cBg0
  obtain ⟨cAg0, cBg0, -, -⟩ := two_cells bxg0
  have ot5 := ot5r.inn
  clear ot5r
  clear hb22
  go_wp2_with fail
  refine (c_SubSolution _ _ _ _ _ _ _ (ot4.sol) (ot5.ints)).mono ?_
  rw [← HRA0.out, ← HRB0.out, ← HR1.out]
  rintro e w23 ⟨h01, h02, rfl, oh0, hb23⟩
  have hs23 := hb23.size
  replace og0 := og0.under hb23
  replace ot4 := ot4.under hb23
  replace ot5 := ot5.under hb23
  replace BW := bb BW hb23
  replace BS := bb BS hb23
  replace bx0 := bx0.under hb23
  clear cA0 cB0
  obtain ⟨cA0, cB0, -, -⟩ := two_cells bx0
  replace bxs0 := bxs0.under hb23
  clear cAs0 cBs0
  obtain ⟨cAs0, cBs0, -, -⟩ := two_cells bxs0
  replace bxz0 := bxz0.under hb23
  clear cAz0 cBz0
  obtain ⟨cAz0, cBz0, -, -⟩ := two_cells bxz0
  replace bxg0 := bxg0.under hb23
  clear cAg0 cBg0
  obtain ⟨cAg0, cBg0, -, -⟩ := two_cells bxg0
  obtain ⟨sah0, sch0, hvh0, _, _⟩ := oh0.sol.1.shape
  subst hvh0
  obtain ⟨sbh0, sdh0, hvh0, _, _⟩ := oh0.sol.2.shape
  subst hvh0
  clear ot4
  clear ot5
  clear hb23
  obtain ⟨cA0z, cB0z, -, -⟩ := two_cells (bx0.alloc (.cells #[.slice sah0 RA0.length sch0, .slice sbh0 RB0.length sdh0] 27))
  obtain ⟨cAs0z, cBs0z, -, -⟩ := two_cells (bxs0.alloc (.cells #[.slice sah0 RA0.length sch0, .slice sbh0 RB0.length sdh0] 27))
  obtain ⟨cAz0z, cBz0z, -, -⟩ := two_cells (bxz0.alloc (.cells #[.slice sah0 RA0.length sch0, .slice sbh0 RB0.length sdh0] 27))
  obtain ⟨cAg0z, cBg0z, -, -⟩ := two_cells (bxg0.alloc (.cells #[.slice sah0 RA0.length sch0, .slice sbh0 RB0.length sdh0] 27))
  go_wp2_with fail
  clear cA0z cB0z
  clear cAs0z cBs0z
  clear cAz0z cBz0z
  clear cAg0z cBg0z
  obtain ⟨bxh0, hb24, hz24⟩ := boxes1 w23 [.slice sah0 RA0.length sch0, .slice sbh0 RB0.length sdh0] 27
  obtain ⟨w24, hW24⟩ : ∃ W, w23.alloc (.cells #[.slice sah0 RA0.length sch0, .slice sbh0 RB0.length sdh0] 27) = W := ⟨_, rfl⟩
  rw [hW24] at bxh0 hb24 hz24 ⊢
  have hs24 : w23.heap.size + 1 ≤ w24.heap.size := by omega
  clear hW24 hz24
  replace og0 := og0.under hb24
  replace oh0 := oh0.under hb24
  replace BW := bb BW hb24
  replace BS := bb BS hb24
  replace bx0 := bx0.under hb24
  clear cA0 cB0
  obtain ⟨cA0, cB0, -, -⟩ := two_cells bx0
  replace bxs0 := bxs0.under hb24
  clear cAs0 cBs0
  obtain ⟨cAs0, cBs0, -, -⟩ := two_cells bxs0
  replace bxz0 := bxz0.under hb24
  clear cAz0 cBz0
  obtain ⟨cAz0, cBz0, -, -⟩ := two_cells bxz0
  replace bxg0 := bxg0.under hb24
  clear cAg0 cBg0
  obtain ⟨cAg0, cBg0, -, -⟩ := two_cells bxg0
  obtain ⟨cAh0, cBh0, -, -⟩ := two_cells bxh0
  clear hb24
  refine (c_eqS _ _ _ _ _ _ _ _ _ (oh0.sol) (hS.below BS)).mono ?_; rintro e w25 ⟨rfl, hb25⟩
  have hs25 := hb25.size
  replace og0 := og0.under hb25
  replace oh0 := oh0.under hb25
  replace BW := bb BW hb25
  replace BS := bb BS hb25
  replace bx0 := bx0.under hb25
  clear cA0 cB0
  obtain ⟨cA0, cB0, -, -⟩ := two_cells bx0
  replace bxs0 := bxs0.under hb25
  clear cAs0 cBs0
  obtain ⟨cAs0, cBs0, -, -⟩ := two_cells bxs0
  replace bxz0 := bxz0.under hb25
  clear cAz0 cBz0
  obtain ⟨cAz0, cBz0, -, -⟩ := two_cells bxz0
  replace bxg0 := bxg0.under hb25
  clear cAg0 cBg0
  obtain ⟨cAg0, cBg0, -, -⟩ := two_cells bxg0
  replace bxh0 := bxh0.under hb25
  clear cAh0 cBh0
  obtain ⟨cAh0, cBh0, -, -⟩ := two_cells bxh0
  clear hb25
  go_wp2_with fail
  refine (c_heldS _ _ _ _ _ _ (og0.sol) (by omega) (by omega)).mono ?_; rintro e w26 ⟨rfl, hb26⟩
  have hs26 := hb26.size
  replace og0 := og0.under hb26
  replace oh0 := oh0.under hb26
  replace BW := bb BW hb26
  replace BS := bb BS hb26
  replace bx0 := bx0.under hb26
  clear cA0 cB0
  obtain ⟨cA0, cB0, -, -⟩ := two_cells bx0
  replace bxs0 := bxs0.under hb26
  clear cAs0 cBs0
  obtain ⟨cAs0, cBs0, -, -⟩ := two_cells bxs0
  replace bxz0 := bxz0.under hb26
  clear cAz0 cBz0
  obtain ⟨cAz0, cBz0, -, -⟩ := two_cells bxz0
  replace bxg0 := bxg0.under hb26
  clear cAg0 cBg0
  obtain ⟨cAg0, cBg0, -, -⟩ := two_cells bxg0
  replace bxh0 := bxh0.under hb26
  clear cAh0 cBh0
  obtain ⟨cAh0, cBh0, -, -⟩ := two_cells bxh0
  clear hb26
  have HB := Lib.hid BW
  clear BW BS hS og0 oh0 hx0 hx1 bx0 bxs0 bxz0 bxg0 bxh0
  go_wp2
  go_ret
  exact ⟨rfl, HB.out⟩
end Go.Proofs.Ytkcobfkmeaakoaa
