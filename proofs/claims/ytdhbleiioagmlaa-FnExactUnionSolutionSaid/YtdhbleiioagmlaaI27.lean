/-
  The union of two pair maps: the program's function and the reference's.
-/
import Derived.Test.YtdhbleiioagmlaaS5
import Derived.Test.YtdhbleiioagmlaaT2
import Derived.Test.YtdhbleiioagmlaaI6
import Derived.Test.YtdhbleiioagmlaaLTables
import Derived.StillTailTactics
import Derived.Deep.RegionHeld3
namespace Go.Proofs.Ytdhbleiioagmlaa
open Go.RowKit

def unG (A C : List (List Int)) (z : Int → Int → Int) (x y : Int) : Int :=
  if x < A.length ∧ y < A.length then val2 A x y else if (A.length : Int) ≤ x ∧ (A.length : Int) ≤ y then A.length + val2 C (x - A.length) (y - A.length) else z x y
def unTA (A C : List (List Int)) : List (List Int) := tabOf (A.length + C.length) (unG A C fun _ y => y)
def unTB (A C : List (List Int)) : List (List Int) := tabOf (A.length + C.length) (unG A C fun x _ => x)
def unOk (A B C D : List (List Int)) : Bool := isPM A B && isPM C D
def unSm (A C : List (List Int)) : Bool := decide (A.length + C.length ≤ 12)
def unRA (A B C D : List (List Int)) : List (List Int) := if unOk A B C D && unSm A C then unTA A C else []
def unRB (A B C D : List (List Int)) : List (List Int) := if unOk A B C D && unSm A C then unTB B D else []
def unCode (A B C D : List (List Int)) : Int := if unOk A B C D then (if unSm A C then 0 else 3) else 1
theorem unOk_of {A B C D : List (List Int)} (h1 : isPM A B = true) (h2 : isPM C D = true) : unOk A B C D = true := by simp [unOk, h1, h2]

theorem eg_union1 : ∀ args w, (callFunc 80 args).run Try.prog w = .ok (.enter 80 args) w := Go.Proofs.enters_of Try.func80 (by kernel_rfl) rfl

set_option maxHeartbeats 1600000 in
theorem c_union1 (bs bn bt : Nat) (n m c0 c0s c1 c1s b0 o0 b0s o0s b1 o1 b1s o1s : Nat) (A B C D : List (List Int)) (rb0 ro0 rc0 rb0s ro0s rc0s rb1 ro1 rc1 rb1s ro1s rc1s : Nat → Nat) (x y : Nat) (w : World)
    (hbn : w.cell? ⟨bn, 0, none⟩ = some (.int .i64 n))
    (hs0 : w.cell? ⟨bs, 0, none⟩ = some (.slice (some ⟨b0, o0, none⟩) n c0)) (hs1 : w.cell? ⟨bs, 1, none⟩ = some (.slice (some ⟨b0s, o0s, none⟩) n c0s))
    (ht0 : w.cell? ⟨bt, 0, none⟩ = some (.slice (some ⟨b1, o1, none⟩) m c1)) (ht1 : w.cell? ⟨bt, 1, none⟩ = some (.slice (some ⟨b1s, o1s, none⟩) m c1s))
    (TA : TabAt w b0 o0 n A rb0 ro0 rc0) (TB : TabAt w b0s o0s n B rb0s ro0s rc0s) (TC : TabAt w b1 o1 m C rb1 ro1 rc1) (TD : TabAt w b1s o1s m D rb1s ro1s rc1s)
    (hA : A.length = n) (hB : B.length = n) (hx : x < n + m) (hy : y < n + m) (hn12 : n ≤ 12) (hm12 : m ≤ 12) :
    Calls Try.prog 80 #[.int .i64 x, .int .i64 y, .pointer (some ⟨bn, 0, none⟩), .pointer (some ⟨bs, 0, none⟩), .pointer (some ⟨bt, 0, none⟩)] w
      (RVal w (.tuple #[.int .i64 (unG A C (fun _ y => y) x y), .int .i64 (unG B D (fun x _ => x) x y)])) := by
  unfold unG
  rw [hA, hB]
  clear hA hB
  by_cases h1 : x < n ∧ y < n
  · obtain ⟨hx1, hy1⟩ := h1
    have rA := TA.row _ hx1; have rB := TB.row _ hx1; have vA := TA.val _ _ hx1 hy1; have vB := TB.val _ _ hx1 hy1
    have i1 : (x : Int) < n := by omega
    have i2 : (y : Int) < n := by omega
    rw [if_pos ⟨i1, i2⟩, if_pos ⟨i1, i2⟩]
    clear TA TB TC TD
    go_enter Try.func80, Try.ntmps80
    go_wp2
    go_quiet (fail)
    go_wp2
    go_ret2
    exact ⟨rfl, below_drewN (Below.refl _ _) _⟩
  have h1' : ¬ ((x : Int) < n ∧ (y : Int) < n) := by omega
  rw [if_neg h1', if_neg h1']
  by_cases h2 : n ≤ x ∧ n ≤ y
  · obtain ⟨hx1, hy1⟩ := h2
    have i1 : (n : Int) ≤ x := by omega
    have i2 : (n : Int) ≤ y := by omega
    have i3 : ¬ ((x : Int) < n) := by omega
    rw [if_pos ⟨i1, i2⟩, if_pos ⟨i1, i2⟩]
    have j0 : 0 ≤ (x : Int) - n := by omega
    have j1 : (x : Int) - n < m := by omega
    have j2 : 0 ≤ (y : Int) - n := by omega
    have j3 : (y : Int) - n < m := by omega
    have rC := TC.rowi _ j0 j1; have rD := TD.rowi _ j0 j1; have vC := TC.vali _ _ j0 j1 j2 j3; have vD := TD.vali _ _ j0 j1 j2 j3
    have gC := TC.rng _ _ j0 j1 j2 j3; have gD := TD.rng _ _ j0 j1 j2 j3
    have u1 : IntKind.i64.wrap ((x : Int) - n) = (x : Int) - n := by rw [IntKind.wrap_i64]; omega
    have u2 : IntKind.i64.wrap ((y : Int) - n) = (y : Int) - n := by rw [IntKind.wrap_i64]; omega
    obtain ⟨X, hX⟩ : ∃ X : Int, (x : Int) - n = X := ⟨_, rfl⟩
    obtain ⟨Y, hY⟩ : ∃ X : Int, (y : Int) - n = X := ⟨_, rfl⟩
    rw [hX] at j0 j1 rC rD vC vD gC gD ⊢; rw [hY] at j2 j3 vC vD gC gD ⊢
    obtain ⟨P, hP⟩ : ∃ P, P = val2 C X Y := ⟨_, rfl⟩
    obtain ⟨Q, hQ⟩ : ∃ P, P = val2 D X Y := ⟨_, rfl⟩
    rw [← hP] at vC gC ⊢; rw [← hQ] at vD gD ⊢
    have u3 : IntKind.i64.wrap ((n : Int) + P) = n + P := by rw [IntKind.wrap_i64]; omega
    have u4 : IntKind.i64.wrap ((n : Int) + Q) = n + Q := by rw [IntKind.wrap_i64]; omega
    replace u1 := u1.trans hX; replace u2 := u2.trans hY
    clear TA TB TC TD h1 h1' hP hQ hX hY
    go_enter Try.func80, Try.ntmps80
    go_wp2
    go_quiet (fail)
    go_wp2
    go_ret2
    exact ⟨rfl, below_drewN (Below.refl _ _) _⟩
  have h2' : ¬ ((n : Int) ≤ x ∧ (n : Int) ≤ y) := by omega
  rw [if_neg h2', if_neg h2']
  clear TA TB TC TD
  by_cases h3 : x < n
  · have i1 : (x : Int) < n := by omega
    have i2 : ¬ ((y : Int) < n) := by omega
    have i3 : ¬ ((n : Int) ≤ x) := by omega
    go_enter Try.func80, Try.ntmps80
    go_wp2
    go_ret2
    exact ⟨rfl, Below.refl _ _⟩
  · have i1 : ¬ ((x : Int) < n) := by omega
    have i2 : ¬ ((n : Int) ≤ y) := by omega
    have i3 : (n : Int) ≤ x := by omega
    go_enter Try.func80, Try.ntmps80
    go_wp2
    go_ret2
    exact ⟨rfl, Below.refl _ _⟩

theorem c_solutionByI (N : Int) (n : Nat) (hNn : N = n) (f : FuncId) (lb : Array Value) (g h : Int → Int → Int) (w : World) (hn : n ≤ 1048576) (eg : ∀ args w, (callFunc f args).run Try.prog w = .ok (.enter f args) w) (hf : Pays3 w f lb n g h) :
    Calls Try.prog 77 #[.int .i64 N, .func (.func f) #[] lb] w (RSol w (tabOf n g) (tabOf n h)) := by
  subst hNn
  exact c_solutionBy n f lb g h w hn eg hf

set_option maxRecDepth 100000 in
set_option maxHeartbeats 4000000 in
theorem c_UnionSolution (v0 u0 : Value) (A B : List (List Int)) (v1 u1 : Value) (C D : List (List Int)) (w : World) (hA : Sol w v0 u0 A B) (hC : Sol w v1 u1 C D)  :
    Calls Try.prog 46 #[.agg #[v0, u0], .agg #[v1, u1]] w (RSolC w (unRA A B C D) (unRB A B C D) (unCode A B C D)) := by
  by_cases hp0 : isPM A B = true
  case neg =>
    have hq0 : isPM A B = false := by simpa using hp0
    have HQ := Lib.hid hq0; clear hp0
    obtain ⟨a0, c0, rfl, _, _⟩ := hA.1.shape
    obtain ⟨a0s, c0s, rfl, _, _⟩ := hA.2.shape
    obtain ⟨a1, c1, rfl, _, _⟩ := hC.1.shape
    obtain ⟨a1s, c1s, rfl, _, _⟩ := hC.2.shape
    go_enter Try.func46, Try.ntmps46
    go_wp2_with fail
    obtain ⟨f0, f1, f2, hW0, hsz⟩ := boxes3 w [.slice a0 A.length c0, .slice a0s B.length c0s] [.slice a1 C.length c1, .slice a1s D.length c1s] [.slice none 0 0, .slice none 0 0] 28 28 28
    obtain ⟨W0, hW⟩ : ∃ W, (((w.alloc (.cells #[.slice a0 A.length c0, .slice a0s B.length c0s] 28)).alloc (.cells #[.slice a1 C.length c1, .slice a1s D.length c1s] 28)).alloc (.cells #[.slice none 0 0, .slice none 0 0] 28)) = W := ⟨_, rfl⟩
    rw [hW] at f0 f1 f2 hW0 hsz ⊢
    clear hW hsz
    refine (c_IsPairMap _ _ _ _ _ (hA.below hW0)).mono ?_; rintro e g0 ⟨rfl, hbg0⟩
    have hB0 := bb hW0 hbg0
    replace f0 := f0.under hbg0
    obtain ⟨cA0, cB0, -, -⟩ := two_cells f0
    replace f1 := f1.under hbg0
    obtain ⟨cA1, cB1, -, -⟩ := two_cells f1
    replace f2 := f2.under hbg0
    obtain ⟨cA2, cB2, fA2, fB2⟩ := two_cells f2
    clear hbg0
    have HB := Lib.hid hB0
    clear hB0 hW0
    go_wp2
    refine bodyPost_ret (v := .tuple #[.agg #[.slice none 0 0, .slice none 0 0], .int .i64 1]) (by simp [results, Try.results46, go_sem, cA2, cB2]) rfl ⟨.slice none 0 0, .slice none 0 0, by simp [unRA, unRB, unCode, unOk, HQ.out], ?_, ?_⟩
    · have hz : w.heap.size ≤ g0.heap.size := HB.out.size
      rw [show unRA A B C D = [] from by simp [unRA, unRB, unCode, unOk, HQ.out], show unRB A B C D = [] from by simp [unRA, unRB, unCode, unOk, HQ.out]]
      exact OwnSol.nil0 (by first | exact hz | (simp [World.setCell]; exact hz))
    · first | exact HB.out | exact (HB.out.setCell (p := ⟨w.heap.size + 1 + 1, 0, none⟩) (by show _ ≤ w.heap.size + 1 + 1; omega) _).setCell (p := ⟨w.heap.size + 1 + 1, 1, none⟩) (by show _ ≤ w.heap.size + 1 + 1; omega) _
  have HP0 := Lib.hid hp0
  obtain ⟨n0, b0, o0, c0, rb0, ro0, rc0, b0s, o0s, c0s, rb0s, ro0s, rc0s, rfl, rfl, hl0, hl0s, hn0, hx0, hc0, hm0, hc0s, hm0s, t0, t0s⟩ := hA.tabs hp0
  have HL0 := Lib.hid hl0; clear hl0
  have HL0s := Lib.hid hl0s; clear hl0s
  by_cases hp1 : isPM C D = true
  case neg =>
    have hq1 : isPM C D = false := by simpa using hp1
    have HQ := Lib.hid hq1; clear hp1
    obtain ⟨a1, c1, rfl, _, _⟩ := hC.1.shape
    obtain ⟨a1s, c1s, rfl, _, _⟩ := hC.2.shape
    go_enter Try.func46, Try.ntmps46
    go_wp2_with fail
    obtain ⟨f0, f1, f2, hW0, hsz⟩ := boxes3 w [.slice (some ⟨b0, o0, none⟩) n0 c0, .slice (some ⟨b0s, o0s, none⟩) n0 c0s] [.slice a1 C.length c1, .slice a1s D.length c1s] [.slice none 0 0, .slice none 0 0] 28 28 28
    obtain ⟨W0, hW⟩ : ∃ W, (((w.alloc (.cells #[.slice (some ⟨b0, o0, none⟩) n0 c0, .slice (some ⟨b0s, o0s, none⟩) n0 c0s] 28)).alloc (.cells #[.slice a1 C.length c1, .slice a1s D.length c1s] 28)).alloc (.cells #[.slice none 0 0, .slice none 0 0] 28)) = W := ⟨_, rfl⟩
    rw [hW] at f0 f1 f2 hW0 hsz ⊢
    clear hW hsz
    refine (c_IsPairMap _ _ _ _ _ (hA.below hW0)).mono ?_; rintro e g0 ⟨rfl, hbg0⟩
    have hB0 := bb hW0 hbg0
    replace f0 := f0.under hbg0
    obtain ⟨cA0, cB0, -, -⟩ := two_cells f0
    replace f1 := f1.under hbg0
    obtain ⟨cA1, cB1, -, -⟩ := two_cells f1
    replace f2 := f2.under hbg0
    obtain ⟨cA2, cB2, fA2, fB2⟩ := two_cells f2
    clear hbg0
    go_wp2_with fail
    refine (c_IsPairMap _ _ _ _ _ (hC.below hB0)).mono ?_; rintro e g1 ⟨rfl, hbg1⟩
    have hB1 := bb hB0 hbg1
    replace f0 := f0.under hbg1
    clear cA0 cB0
    obtain ⟨cA0, cB0, -, -⟩ := two_cells f0
    replace f1 := f1.under hbg1
    clear cA1 cB1
    obtain ⟨cA1, cB1, -, -⟩ := two_cells f1
    replace f2 := f2.under hbg1
    clear cA2 cB2 fA2 fB2
    obtain ⟨cA2, cB2, fA2, fB2⟩ := two_cells f2
    clear hbg1
    have HB := Lib.hid hB1
    clear hB0 hB1 hW0
    go_wp2
    refine bodyPost_ret (v := .tuple #[.agg #[.slice none 0 0, .slice none 0 0], .int .i64 1]) (by simp [results, Try.results46, go_sem, cA2, cB2]) rfl ⟨.slice none 0 0, .slice none 0 0, by simp [unRA, unRB, unCode, unOk, HQ.out, HP0.out], ?_, ?_⟩
    · have hz : w.heap.size ≤ g1.heap.size := HB.out.size
      rw [show unRA A B C D = [] from by simp [unRA, unRB, unCode, unOk, HQ.out, HP0.out], show unRB A B C D = [] from by simp [unRA, unRB, unCode, unOk, HQ.out, HP0.out]]
      exact OwnSol.nil0 (by first | exact hz | (simp [World.setCell]; exact hz))
    · first | exact HB.out | exact (HB.out.setCell (p := ⟨w.heap.size + 1 + 1, 0, none⟩) (by show _ ≤ w.heap.size + 1 + 1; omega) _).setCell (p := ⟨w.heap.size + 1 + 1, 1, none⟩) (by show _ ≤ w.heap.size + 1 + 1; omega) _
  have HP1 := Lib.hid hp1
  obtain ⟨n1, b1, o1, c1, rb1, ro1, rc1, b1s, o1s, c1s, rb1s, ro1s, rc1s, rfl, rfl, hl1, hl1s, hn1, hx1, hc1, hm1, hc1s, hm1s, t1, t1s⟩ := hC.tabs hp1
  have HL1 := Lib.hid hl1; clear hl1
  have HL1s := Lib.hid hl1s; clear hl1s
  go_enter Try.func46, Try.ntmps46
  go_wp2_with fail
  obtain ⟨f0, f1, f2, hW0, hsz⟩ := boxes3 w [.slice (some ⟨b0, o0, none⟩) n0 c0, .slice (some ⟨b0s, o0s, none⟩) n0 c0s] [.slice (some ⟨b1, o1, none⟩) n1 c1, .slice (some ⟨b1s, o1s, none⟩) n1 c1s] [.slice none 0 0, .slice none 0 0] 28 28 28
  obtain ⟨W0, hW⟩ : ∃ W, (((w.alloc (.cells #[.slice (some ⟨b0, o0, none⟩) n0 c0, .slice (some ⟨b0s, o0s, none⟩) n0 c0s] 28)).alloc (.cells #[.slice (some ⟨b1, o1, none⟩) n1 c1, .slice (some ⟨b1s, o1s, none⟩) n1 c1s] 28)).alloc (.cells #[.slice none 0 0, .slice none 0 0] 28)) = W := ⟨_, rfl⟩
  rw [hW] at f0 f1 f2 hW0 hsz ⊢
  clear hW hsz
  refine (c_IsPairMap _ _ _ _ _ (hA.below hW0)).mono ?_; rintro e g0 ⟨rfl, hbg0⟩
  have hB0 := bb hW0 hbg0
  replace f0 := f0.under hbg0
  obtain ⟨cA0, cB0, -, -⟩ := two_cells f0
  replace f1 := f1.under hbg0
  obtain ⟨cA1, cB1, -, -⟩ := two_cells f1
  replace f2 := f2.under hbg0
  obtain ⟨cA2, cB2, fA2, fB2⟩ := two_cells f2
  clear hbg0
  go_wp2_with fail
  refine (c_IsPairMap _ _ _ _ _ (hC.below hB0)).mono ?_; rintro e g1 ⟨rfl, hbg1⟩
  have hB1 := bb hB0 hbg1
  replace f0 := f0.under hbg1
  clear cA0 cB0
  obtain ⟨cA0, cB0, -, -⟩ := two_cells f0
  replace f1 := f1.under hbg1
  clear cA1 cB1
  obtain ⟨cA1, cB1, -, -⟩ := two_cells f1
  replace f2 := f2.under hbg1
  clear cA2 cB2 fA2 fB2
  obtain ⟨cA2, cB2, fA2, fB2⟩ := two_cells f2
  clear hbg1
  have HOK := Lib.hid (unOk_of HP0.out HP1.out)
  have HF0 := Lib.hid f0.drew; have HF1 := Lib.hid f1.drew; have HF2 := Lib.hid f2.drew; have HBd := Lib.hid hB1.drew
  have HT0 := Lib.hid t0; have HT0s := Lib.hid t0s; have HT1 := Lib.hid t1; have HT1s := Lib.hid t1s
  clear hA hC hB0 hB1 hW0 f0 f1 f2 t0 t0s t1 t1s
  have km : Blk (g1.alloc (.cells #[.int .i64 n0] 3)).drew g1.heap.size 3 [.int .i64 n0] := (Blk.new g1 [.int .i64 n0] 3).drew
  have hGW : Below g1.drew.heap.size g1.drew (g1.alloc (.cells #[.int .i64 n0] 3)).drew := ((Below.refl g1.drew.heap.size g1.drew).alloc (Nat.le_refl _) (.cells #[.int .i64 n0] 3))
  have hBW : Below w.heap.size w (g1.alloc (.cells #[.int .i64 n0] 3)).drew := bb HBd.out hGW
  have k0 := HF0.out.under hGW; have k1 := HF1.out.under hGW; have k2 := HF2.out.under hGW
  obtain ⟨z0, z1, z2, z3⟩ := two_cells k2
  have z4 := one_cell km
  have d0 := (two_cells HF0.out).1; have d1 := (two_cells HF1.out).1
  go_wp2
  go_region_held3 (fun w' => w'.cell? ⟨w.heap.size, 0, none⟩ = some (.slice (some ⟨b0, o0, none⟩) n0 c0) ∧ w'.cell? ⟨w.heap.size + 1, 0, none⟩ = some (.slice (some ⟨b1, o1, none⟩) n1 c1)) (first | go_keep | exact ⟨(two_cells HF0.out).1, (two_cells HF1.out).1⟩) (fail)
  by_cases hsm : n0 + n1 ≤ 12
  case neg =>
    have hgt : ¬ ((n0 : Int) + n1 ≤ 12) := by intro h; exact hsm (by exact_mod_cast h)
    have hS : unSm A C = false := by unfold unSm; rw [HL0.out, HL1.out]; simpa using hsm
    have HS := Lib.hid hS; have HB := Lib.hid hBW
    clear hsm hS hBW hGW k0 k1 k2 km
    obtain ⟨y0, y1, y2, y3⟩ : (g1.alloc (.cells #[.int .i64 n0] 3)).cell? ⟨w.heap.size + 1 + 1, 0, none⟩ = _ ∧ (g1.alloc (.cells #[.int .i64 n0] 3)).cell? ⟨w.heap.size + 1 + 1, 1, none⟩ = _ ∧ (g1.alloc (.cells #[.int .i64 n0] 3)).frozen? ⟨w.heap.size + 1 + 1, 0, none⟩ = _ ∧ (g1.alloc (.cells #[.int .i64 n0] 3)).frozen? ⟨w.heap.size + 1 + 1, 1, none⟩ = _ := ⟨z0, z1, z2, z3⟩
    go_wp2
    refine bodyPost_ret (v := .tuple #[.agg #[.slice none 0 0, .slice none 0 0], .int .i64 3]) (by simp [results, Try.results46, go_sem, y0, y1]) rfl ⟨.slice none 0 0, .slice none 0 0, by simp [unCode, HOK.out, HS.out], ?_, ?_⟩
    · have hz := HB.out.size
      rw [show unRA A B C D = [] from by simp [unRA, HS.out], show unRB A B C D = [] from by simp [unRB, HS.out]]
      exact OwnSol.nil0 (by first | exact hz | (simp [World.setCell] at hz ⊢; omega))
    · first | exact HB.out | exact (HB.out.setCell (p := ⟨w.heap.size + 1 + 1, 0, none⟩) (by show _ ≤ w.heap.size + 1 + 1; omega) _).setCell (p := ⟨w.heap.size + 1 + 1, 1, none⟩) (by show _ ≤ w.heap.size + 1 + 1; omega) _
  have hlt : (n0 : Int) + n1 ≤ 12 := by exact_mod_cast hsm
  have hS : unSm A C = true := by unfold unSm; rw [HL0.out, HL1.out]; simpa using hsm
  have HS := Lib.hid hS; clear hS
  have HBW := Lib.hid hBW; have HGW := Lib.hid hGW; have HK0 := Lib.hid k0; have HK1 := Lib.hid k1; have HK2 := Lib.hid k2; have HKm := Lib.hid km
  clear k0 k1 k2 km hBW hGW
  go_wp2_with fail
  clear z0 z1 z2 z3 z4
  generalize (g1.alloc (.cells #[.int .i64 n0] 3)).drew = V at HBW HGW HK0 HK1 HK2 HKm ⊢
  have hpay : Pays3 V 80 #[.pointer (some ⟨g1.heap.size, 0, none⟩), .pointer (some ⟨w.heap.size, 0, none⟩), .pointer (some ⟨w.heap.size + 1, 0, none⟩)] (n0 + n1)
      (unG A C fun _ y => y) (unG B D fun x _ => x) := fun U x y hb h1 h2 =>
    c_union1 w.heap.size g1.heap.size (w.heap.size + 1) n0 n1 c0 c0s c1 c1s b0 o0 b0s o0s b1 o1 b1s o1s A B C D rb0 ro0 rc0 rb0s ro0s rc0s rb1 ro1 rc1 rb1s ro1s rc1s x y U (one_cell (HKm.out.under hb)) (two_cells (HK0.out.under hb)).1 (two_cells (HK0.out.under hb)).2.1 (two_cells (HK1.out.under hb)).1 (two_cells (HK1.out.under hb)).2.1
      ((HT0.out.below HBW.out).below hb) ((HT0s.out.below HBW.out).below hb) ((HT1.out.below HBW.out).below hb) ((HT1s.out.below HBW.out).below hb) HL0.out HL0s.out h1 h2 hx0 hx1
  have HP := Lib.hid hpay; clear hpay
  refine (c_solutionByI _ (n0 + n1) (by push_cast; rfl) _ _ _ _ _ (by omega) eg_union1 HP.out).mono ?_; rintro e wz ⟨s1, s2, rfl, hs, hbz⟩
  obtain ⟨sa1, sl1, sc1, rfl⟩ := hs.sol.1.any
  obtain ⟨sa2, sl2, sc2, rfl⟩ := hs.sol.2.any
  obtain ⟨z0, z1, z2, z3⟩ := two_cells (HK2.out.under hbz)
  have HLo := Lib.hid HK2.out.lt; have HSo := Lib.hid hs; have HBz := Lib.hid (bb HBW.out hbz); clear hs hbz
  go_wp2
  obtain ⟨hA, hB⟩ := stored (q := w.heap.size + 1 + 1) HBz.out HSo.out (by omega) HLo.out
  refine bodyPost_ret (v := .tuple #[.agg #[.slice sa1 sl1 sc1, .slice sa2 sl2 sc2], .int .i64 0]) (by simp [results, Try.results46, go_sem, z0, z1]) rfl ⟨_, _, by simp [unCode, HOK.out, HS.out]; exact ⟨rfl, rfl⟩, by simpa [unRA, unRB, unTA, unTB, HOK.out, HS.out, HL0.out, HL0s.out, HL1.out, HL1s.out] using hA, hB⟩

set_option maxRecDepth 100000 in
set_option maxHeartbeats 4000000 in
theorem c_l02Union (v0 u0 : Value) (A B : List (List Int)) (v1 u1 : Value) (C D : List (List Int)) (w : World) (hA : Sol w v0 u0 A B) (hC : Sol w v1 u1 C D) (hp : isPM A B = true) (hq : isPM C D = true) (hsm : A.length + C.length ≤ 12) :
    Calls Try.prog 79 #[.agg #[v0, u0], .agg #[v1, u1]] w (RSolR w (unTA A C) (unTB B D)) := by
  obtain ⟨n0, b0, o0, c0, rb0, ro0, rc0, b0s, o0s, c0s, rb0s, ro0s, rc0s, rfl, rfl, hl0, hl0s, hn0, hx0, hc0, hm0, hc0s, hm0s, t0, t0s⟩ := hA.tabs hp
  have HL0 := Lib.hid hl0; clear hl0
  have HL0s := Lib.hid hl0s; clear hl0s
  obtain ⟨n1, b1, o1, c1, rb1, ro1, rc1, b1s, o1s, c1s, rb1s, ro1s, rc1s, rfl, rfl, hl1, hl1s, hn1, hx1, hc1, hm1, hc1s, hm1s, t1, t1s⟩ := hC.tabs hq
  have HL1 := Lib.hid hl1; clear hl1
  have HL1s := Lib.hid hl1s; clear hl1s
  go_enter Try.func79, Try.ntmps79
  go_wp2
  obtain ⟨f0, f1, f2, hW0, hsz⟩ := boxes3 w [.slice (some ⟨b0, o0, none⟩) n0 c0, .slice (some ⟨b0s, o0s, none⟩) n0 c0s] [.slice (some ⟨b1, o1, none⟩) n1 c1, .slice (some ⟨b1s, o1s, none⟩) n1 c1s] [.slice none 0 0, .slice none 0 0] 28 28 28
  obtain ⟨W0, hW⟩ : ∃ W, (((w.alloc (.cells #[.slice (some ⟨b0, o0, none⟩) n0 c0, .slice (some ⟨b0s, o0s, none⟩) n0 c0s] 28)).alloc (.cells #[.slice (some ⟨b1, o1, none⟩) n1 c1, .slice (some ⟨b1s, o1s, none⟩) n1 c1s] 28)).alloc (.cells #[.slice none 0 0, .slice none 0 0] 28)) = W := ⟨_, rfl⟩
  rw [hW] at f0 f1 f2 hW0 hsz ⊢
  have HSZ := Lib.hid hsz
  clear hW hsz
  obtain ⟨cA0, cB0, -, -⟩ := two_cells f0
  obtain ⟨cA1, cB1, -, -⟩ := two_cells f1
  obtain ⟨cA2, cB2, -, -⟩ := two_cells f2
  replace t0 := t0.below hW0; replace t0s := t0s.below hW0
  replace t1 := t1.below hW0; replace t1s := t1s.below hW0
  rw [HL0.out, HL1.out] at hsm
  obtain ⟨N, hN⟩ : ∃ N, N = n0 + n1 := ⟨_, rfl⟩
  have hNI : (n0 : Int) + n1 = N := by omega
  obtain ⟨gA, hgA⟩ : ∃ g : Int → Int → Int, g = unG A C fun _ y => y := ⟨_, rfl⟩
  obtain ⟨gB, hgB⟩ : ∃ g : Int → Int → Int, g = unG B D fun x _ => x := ⟨_, rfl⟩
  have hRA : unTA A C = tabOf N gA := by unfold unTA; rw [HL0.out, HL1.out, hgA, hN]
  have hRB : unTB B D = tabOf N gB := by unfold unTB; rw [HL0s.out, HL1s.out, hgB, hN]
  have HRA := Lib.hid hRA; have HRB := Lib.hid hRB
  have HGA : Hid (∀ x y : Int, gA x y = if x < n0 ∧ y < n0 then val2 A x y else if (n0 : Int) ≤ x ∧ (n0 : Int) ≤ y then n0 + val2 C (x - n0) (y - n0) else y) := Lib.hid (by rw [hgA]; intro x y; unfold unG; rw [HL0.out])
  have HGB : Hid (∀ x y : Int, gB x y = if x < n0 ∧ y < n0 then val2 B x y else if (n0 : Int) ≤ x ∧ (n0 : Int) ≤ y then n0 + val2 D (x - n0) (y - n0) else x) := Lib.hid (by rw [hgB]; intro x y; unfold unG; rw [HL0s.out])
  have HN := Lib.hid hN
  rw [← hN] at hsm
  clear hgA hgB hRA hRB hN hA hC hp hq
  go_quiet (fail)
  rename_i nq
  have hdn : Below W0.heap.size W0 (W0.drewN nq) := below_drewN (Below.refl _ _) nq
  replace f0 := f0.under hdn; replace f1 := f1.under hdn; replace f2 := f2.under hdn; replace hW0 := bb hW0 hdn
  have HT0 := Lib.hid (t0.below hdn); have HT0s := Lib.hid (t0s.below hdn); have HT1 := Lib.hid (t1.below hdn); have HT1s := Lib.hid (t1s.below hdn)
  have HSV : Hid ((W0.drewN nq).heap.size = w.heap.size + 1 + 1 + 1) := HSZ.out
  generalize W0.drewN nq = V at f0 f1 f2 hW0 HT0 HT0s HT1 HT1s HSV ⊢
  have HF2lt := Lib.hid f2.lt
  have hV := hW0
  clear t0 t0s t1 t1s cA0 cB0 cA1 cB1 cA2 cB2 hdn HSZ hW0
  go_wp2
  have hB1 : Below V.heap.size V (V.alloc (.cells #[.slice none 0 0, .slice none 0 0] 28)) := (Below.refl _ _).alloc (Nat.le_refl _) _
  have hout := Blk.new V [.slice none 0 0, .slice none 0 0] 28
  have hs1 : (V.alloc (.cells #[.slice none 0 0, .slice none 0 0] 28)).heap.size = V.heap.size + 1 := by simp
  have hqq : V.heap.size = V.heap.size := rfl
  change Blk (V.alloc (.cells #[.slice none 0 0, .slice none 0 0] 28)) _ _ _ at hout
  obtain ⟨W1, hW1⟩ : ∃ W, V.alloc (.cells #[.slice none 0 0, .slice none 0 0] 28) = W := ⟨_, rfl⟩
  rw [hW1] at hB1 hout hs1 ⊢
  clear hW1
  have hout' : Blk W1 (V.heap.size) 28 [.slice none 0 0, .slice none 0 0] := by rw [← hqq]; exact hout
  have HOut := Lib.hid (Out2.start (lo := V.heap.size + 1) (q := V.heap.size) (w := W1) (by omega) (by omega) hout')
  have HB1 := Lib.hid hB1; have HWW := Lib.hid hV; have HS1 := Lib.hid hs1
  have HQLE : Hid (V.heap.size ≤ V.heap.size) := Lib.hid (by omega)
  clear hB1 hout hout' hs1 hV hqq
  go_loopw [8, 9, 10, 11] (fun a _ _ _ wr => ∃ (k : Nat) (va vb : Value), k ≤ N ∧ a = .int .i64 k ∧ Hid (Below V.heap.size V wr) ∧ Hid (Out2 (V.heap.size + 1) wr.heap.size (V.heap.size) wr va vb ((tabOf N gA).take k) ((tabOf N gB).take k))) (fun a _ _ _ _ => N - (intOf a).toNat)
  case atStart => exact ⟨0, _, _, Nat.zero_le _, rfl, HB1, HOut⟩
  case round =>
    clear HB1 HOut
    obtain ⟨k, va, vb, hk, rfl, HB, HO⟩ := hrel
    obtain ⟨wo, rfl⟩ : ∃ wo : World, wo = wr := ⟨_, rfl⟩
    by_cases hlt : k < N
    · go_wp2
      go_loopw [9, 10, 11] (fun s t y wi => ∃ (j : Nat) (sa : Option Addr) (sc : Nat) (ta : Option Addr) (tc : Nat), j ≤ N ∧ y = .int .i64 j ∧ s = .slice sa j sc ∧ t = .slice ta j tc ∧ Hid (Below wo.heap.size wo wi) ∧ Hid (Two wo.heap.size wi (.slice sa j sc) (.slice ta j tc) ((rowOf N (gA k)).take j) ((rowOf N (gB k)).take j))) (fun _ _ y _ => N - (intOf y).toNat)
      case atStart => exact ⟨0, _, _, _, _, Nat.zero_le _, rfl, rfl, rfl, Lib.hid (((Below.refl wo.heap.size wo).alloc (Nat.le_refl _) _).alloc (by simp) _), Lib.hid (Two.made0 wo)⟩
      case round =>
        obtain ⟨j, sa, sc, ta, tc, hj, rfl, rfl, rfl, Hb, HTw⟩ := hrel
        obtain ⟨wi, rfl⟩ : ∃ wi : World, wi = wr := ⟨_, rfl⟩
        by_cases hlj : j < N
        · have hB2 := bb HB.out Hb.out
          have hkN : (k : Int) < N := by omega
          have hjN : (j : Int) < N := by omega
          have hNe := HN.out
          by_cases h1 : k < n0 ∧ j < n0
          · have i1 : (k : Int) < n0 := by omega
            have i2 : (j : Int) < n0 := by omega
            obtain ⟨x, hx⟩ : ∃ x : Int, x = k := ⟨_, rfl⟩
            obtain ⟨y, hy⟩ : ∃ x : Int, x = j := ⟨_, rfl⟩
            have d1 : 0 ≤ x := by omega
            have d2 : x < n0 := by omega
            have d3 : 0 ≤ y := by omega
            have d4 : y < n0 := by omega
            have HEA : Hid (gA k j = val2 A k j) := Lib.hid (by rw [HGA.out, if_pos ⟨i1, i2⟩])
            have HEB : Hid (gB k j = val2 B k j) := Lib.hid (by rw [HGB.out, if_pos ⟨i1, i2⟩])
            subst hx hy
            have d5 : k < n0 := h1.1
            have d6 : j < n0 := h1.2
            clear h1 hNe
            have HSA : Hid (∀ w' : World, Below V.heap.size V w' → w'.cell? ⟨w.heap.size, 0, none⟩ = some (.slice (some ⟨b0, o0, none⟩) n0 c0) ∧ w'.cell? ⟨b0, o0 + k, none⟩ = some (.slice (some ⟨rb0 k, ro0 k, none⟩) n0 (rc0 k)) ∧ w'.cell? ⟨rb0 k, ro0 k + j, none⟩ = some (.int .i64 (val2 A k j))) := Lib.hid (by
              intro w' hb
              have T0 := HT0.out.below hb
              exact ⟨(two_cells (f0.under hb)).1, T0.row _ d5, T0.val _ _ d5 d6⟩)
            have HSB : Hid (∀ w' : World, Below V.heap.size V w' → w'.cell? ⟨w.heap.size, 1, none⟩ = some (.slice (some ⟨b0s, o0s, none⟩) n0 c0s) ∧ w'.cell? ⟨b0s, o0s + k, none⟩ = some (.slice (some ⟨rb0s k, ro0s k, none⟩) n0 (rc0s k)) ∧ w'.cell? ⟨rb0s k, ro0s k + j, none⟩ = some (.int .i64 (val2 B k j))) := Lib.hid (by
              intro w' hb
              have T0 := HT0s.out.below hb
              exact ⟨(two_cells (f0.under hb)).2.1, T0.row _ d5, T0.val _ _ d5 d6⟩)
            obtain ⟨q1, q2, q3⟩ := HSA.out wi hB2
            clear hB2
            have HX1 := Lib.hid (HTw.out.under (Below.refl wi.heap.size wi))
            have HZ1 := Lib.hid (bb Hb.out (Below.refl wi.heap.size wi))
            have hl1 : ((rowOf N (gA k)).take j).length = j := by simp; omega
            have hl2 : ((rowOf N (gB k)).take j).length = j := by simp; omega
            have HL1a := Lib.hid hl1; have HL2a := Lib.hid hl2
            have HN1a : Hid (((rowOf N (gA k)).take j).length ≤ 1099511627776) := by show _ ≤ _; rw [hl1]; omega
            have HN2a : Hid (((rowOf N (gB k)).take j).length ≤ 1099511627776) := by show _ ≤ _; rw [hl2]; omega
            have HS1a : Hid (wo.heap.size ≤ (wi).heap.size) := Lib.hid HZ1.out.size
            clear hl1 hl2
            go_wp2_with (at_builtin; go_loud (first | (refine wpList_app_int2 wo.heap.size (wi) _ ((rowOf N (gA k)).take j) _ _ _ wi.heap.size rfl rfl rfl rfl HX1.out.a rfl HN1a.out HS1a.out ?_; intro g c1 w1 hown1 hk1 hg1; rw [HL1a.out] at hown1; rw [HL1a.out]; have HT1 := Lib.hid (HX1.out.app1 hown1 hk1 hg1); have HZ2 := Lib.hid (HX1.out.a.frame HZ1.out (Nat.le_refl _) HS1a.out hk1); clear hown1 hk1 hg1; have hB3 := bb HB.out HZ2.out; clear q1 q2 q3; obtain ⟨q1, q2, q3⟩ := HSB.out w1 hB3; have HX2 := HT1; have HZ3 := HZ2; have HS2a : Hid (wo.heap.size ≤ w1.heap.size) := Lib.hid HZ3.out.size; clear hB3) | (refine wpList_app_int2 wo.heap.size w1 _ ((rowOf N (gB k)).take j) _ _ _ w1.heap.size rfl rfl rfl rfl HX2.out.b rfl HN2a.out HS2a.out ?_; intro g2 c2 w4 hown4 hk4 hg4; rw [HL2a.out] at hown4; rw [HL2a.out]; have HT2 := Lib.hid (HX2.out.app2 hown4 hk4 hg4); have HZ4 := Lib.hid (HX2.out.b.frame HZ3.out (Nat.le_refl _) HS2a.out hk4); clear hown4 hk4 hg4)))
            go_roundw
            case rel =>
              refine ⟨j + 1, some ⟨g, 0, none⟩, c1, some ⟨g2, 0, none⟩, c2, by omega, by go_num, rfl, rfl, HZ4, ?_⟩
              rw [take_snoc (rowOf N (gA k)) _ (by simpa using hlj), take_snoc (rowOf N (gB k)) _ (by simpa using hlj), nth_rowOf _ _ _ hlj, nth_rowOf _ _ _ hlj, HEA.out, HEB.out]
              exact HT2
            case measure => simp [intOf]; omega
          by_cases h2 : n0 ≤ k ∧ n0 ≤ j
          · have i1 : (n0 : Int) ≤ k := by omega
            have i2 : (n0 : Int) ≤ j := by omega
            have i3 : ¬ ((k : Int) < n0) := by omega
            have i4 : ¬ ((k : Int) < n0 ∧ (j : Int) < n0) := by omega
            obtain ⟨x, hx⟩ : ∃ x : Int, x = (k : Int) - n0 := ⟨_, rfl⟩
            obtain ⟨y, hy⟩ : ∃ x : Int, x = (j : Int) - n0 := ⟨_, rfl⟩
            have d1 : 0 ≤ x := by omega
            have d2 : x < n1 := by omega
            have d3 : 0 ≤ y := by omega
            have d4 : y < n1 := by omega
            have gC := HT1.out.rng _ _ d1 d2 d3 d4; have gD := HT1s.out.rng _ _ d1 d2 d3 d4
            obtain ⟨P, hP⟩ : ∃ P, P = val2 C x y := ⟨_, rfl⟩
            obtain ⟨Q, hQ⟩ : ∃ P, P = val2 D x y := ⟨_, rfl⟩
            have u1 : IntKind.i64.wrap ((k : Int) - n0) = x := by rw [IntKind.wrap_i64]; omega
            have u2 : IntKind.i64.wrap ((j : Int) - n0) = y := by rw [IntKind.wrap_i64]; omega
            have u3 : IntKind.i64.wrap (val2 C x y + n0) = val2 C x y + n0 := by rw [IntKind.wrap_i64]; omega
            have u4 : IntKind.i64.wrap (val2 D x y + n0) = val2 D x y + n0 := by rw [IntKind.wrap_i64]; omega
            have e1 : (k : Int) - n0 = x := hx.symm
            have e2 : (j : Int) - n0 = y := hy.symm
            have HEA : Hid (gA k j = val2 C x y + n0) := Lib.hid (by rw [HGA.out, if_neg i4, if_pos ⟨i1, i2⟩, e1, e2, Int.add_comm])
            have HEB : Hid (gB k j = val2 D x y + n0) := Lib.hid (by rw [HGB.out, if_neg i4, if_pos ⟨i1, i2⟩, e1, e2, Int.add_comm])
            clear h1 h2 hNe i4 hP hQ hx hy
            have HSA : Hid (∀ w' : World, Below V.heap.size V w' → w'.cell? ⟨w.heap.size + 1, 0, none⟩ = some (.slice (some ⟨b1, o1, none⟩) n1 c1) ∧ w'.cell? ⟨b1, o1 + x.toNat, none⟩ = some (.slice (some ⟨rb1 x.toNat, ro1 x.toNat, none⟩) n1 (rc1 x.toNat)) ∧ w'.cell? ⟨rb1 x.toNat, ro1 x.toNat + y.toNat, none⟩ = some (.int .i64 (val2 C x y))) := Lib.hid (by
              intro w' hb
              have T0 := HT1.out.below hb
              exact ⟨(two_cells (f1.under hb)).1, T0.rowi _ d1 d2, T0.vali _ _ d1 d2 d3 d4⟩)
            have HSB : Hid (∀ w' : World, Below V.heap.size V w' → w'.cell? ⟨w.heap.size + 1, 1, none⟩ = some (.slice (some ⟨b1s, o1s, none⟩) n1 c1s) ∧ w'.cell? ⟨b1s, o1s + x.toNat, none⟩ = some (.slice (some ⟨rb1s x.toNat, ro1s x.toNat, none⟩) n1 (rc1s x.toNat)) ∧ w'.cell? ⟨rb1s x.toNat, ro1s x.toNat + y.toNat, none⟩ = some (.int .i64 (val2 D x y))) := Lib.hid (by
              intro w' hb
              have T0 := HT1s.out.below hb
              exact ⟨(two_cells (f1.under hb)).2.1, T0.rowi _ d1 d2, T0.vali _ _ d1 d2 d3 d4⟩)
            obtain ⟨q1, q2, q3⟩ := HSA.out wi hB2
            clear hB2
            have HX1 := Lib.hid (HTw.out.under (Below.refl wi.heap.size wi))
            have HZ1 := Lib.hid (bb Hb.out (Below.refl wi.heap.size wi))
            have hl1 : ((rowOf N (gA k)).take j).length = j := by simp; omega
            have hl2 : ((rowOf N (gB k)).take j).length = j := by simp; omega
            have HL1a := Lib.hid hl1; have HL2a := Lib.hid hl2
            have HN1a : Hid (((rowOf N (gA k)).take j).length ≤ 1099511627776) := by show _ ≤ _; rw [hl1]; omega
            have HN2a : Hid (((rowOf N (gB k)).take j).length ≤ 1099511627776) := by show _ ≤ _; rw [hl2]; omega
            have HS1a : Hid (wo.heap.size ≤ (wi).heap.size) := Lib.hid HZ1.out.size
            clear hl1 hl2
            go_wp2_with (at_builtin; go_loud (first | (refine wpList_app_int2 wo.heap.size (wi) _ ((rowOf N (gA k)).take j) _ _ _ wi.heap.size rfl rfl rfl rfl HX1.out.a rfl HN1a.out HS1a.out ?_; intro g c1 w1 hown1 hk1 hg1; rw [HL1a.out] at hown1; rw [HL1a.out]; have HT1 := Lib.hid (HX1.out.app1 hown1 hk1 hg1); have HZ2 := Lib.hid (HX1.out.a.frame HZ1.out (Nat.le_refl _) HS1a.out hk1); clear hown1 hk1 hg1; have hB3 := bb HB.out HZ2.out; clear q1 q2 q3; obtain ⟨q1, q2, q3⟩ := HSB.out w1 hB3; have HX2 := HT1; have HZ3 := HZ2; have HS2a : Hid (wo.heap.size ≤ w1.heap.size) := Lib.hid HZ3.out.size; clear hB3) | (refine wpList_app_int2 wo.heap.size w1 _ ((rowOf N (gB k)).take j) _ _ _ w1.heap.size rfl rfl rfl rfl HX2.out.b rfl HN2a.out HS2a.out ?_; intro g2 c2 w4 hown4 hk4 hg4; rw [HL2a.out] at hown4; rw [HL2a.out]; have HT2 := Lib.hid (HX2.out.app2 hown4 hk4 hg4); have HZ4 := Lib.hid (HX2.out.b.frame HZ3.out (Nat.le_refl _) HS2a.out hk4); clear hown4 hk4 hg4)))
            go_roundw
            case rel =>
              refine ⟨j + 1, some ⟨g, 0, none⟩, c1, some ⟨g2, 0, none⟩, c2, by omega, by go_num, rfl, rfl, HZ4, ?_⟩
              rw [take_snoc (rowOf N (gA k)) _ (by simpa using hlj), take_snoc (rowOf N (gB k)) _ (by simpa using hlj), nth_rowOf _ _ _ hlj, nth_rowOf _ _ _ hlj, HEA.out, HEB.out]
              exact HT2
            case measure => simp [intOf]; omega
          · have i4 : ¬ ((k : Int) < n0 ∧ (j : Int) < n0) := by omega
            have i5 : ¬ ((n0 : Int) ≤ k ∧ (n0 : Int) ≤ j) := by omega
            have HEA : Hid (gA k j = j) := Lib.hid (by rw [HGA.out, if_neg i4, if_neg i5])
            have HEB : Hid (gB k j = k) := Lib.hid (by rw [HGB.out, if_neg i4, if_neg i5])
            clear hB2
            by_cases h3 : k < n0
            · have i1 : (k : Int) < n0 := by omega
              have i2 : ¬ ((j : Int) < n0) := by omega
              have i3 : ¬ ((n0 : Int) ≤ k) := by omega
              clear h1 h2 h3 i4 i5 hNe
              have HX1 := Lib.hid (HTw.out.under (Below.refl wi.heap.size wi))
              have HZ1 := Lib.hid (bb Hb.out (Below.refl wi.heap.size wi))
              have hl1 : ((rowOf N (gA k)).take j).length = j := by simp; omega
              have hl2 : ((rowOf N (gB k)).take j).length = j := by simp; omega
              have HL1a := Lib.hid hl1; have HL2a := Lib.hid hl2
              have HN1a : Hid (((rowOf N (gA k)).take j).length ≤ 1099511627776) := by show _ ≤ _; rw [hl1]; omega
              have HN2a : Hid (((rowOf N (gB k)).take j).length ≤ 1099511627776) := by show _ ≤ _; rw [hl2]; omega
              have HS1a : Hid (wo.heap.size ≤ (wi).heap.size) := Lib.hid HZ1.out.size
              clear hl1 hl2
              go_wp2_with (at_builtin; go_loud (first | (refine wpList_app_int2 wo.heap.size (wi) _ ((rowOf N (gA k)).take j) _ _ _ wi.heap.size rfl rfl rfl rfl HX1.out.a rfl HN1a.out HS1a.out ?_; intro g c1 w1 hown1 hk1 hg1; rw [HL1a.out] at hown1; rw [HL1a.out]; have HT1 := Lib.hid (HX1.out.app1 hown1 hk1 hg1); have HZ2 := Lib.hid (HX1.out.a.frame HZ1.out (Nat.le_refl _) HS1a.out hk1); clear hown1 hk1 hg1; have hB3 := bb HB.out HZ2.out; have HX2 := HT1; have HZ3 := HZ2; have HS2a : Hid (wo.heap.size ≤ w1.heap.size) := Lib.hid HZ3.out.size; clear hB3) | (refine wpList_app_int2 wo.heap.size w1 _ ((rowOf N (gB k)).take j) _ _ _ w1.heap.size rfl rfl rfl rfl HX2.out.b rfl HN2a.out HS2a.out ?_; intro g2 c2 w4 hown4 hk4 hg4; rw [HL2a.out] at hown4; rw [HL2a.out]; have HT2 := Lib.hid (HX2.out.app2 hown4 hk4 hg4); have HZ4 := Lib.hid (HX2.out.b.frame HZ3.out (Nat.le_refl _) HS2a.out hk4); clear hown4 hk4 hg4)))
              go_roundw
              case rel =>
                refine ⟨j + 1, some ⟨g, 0, none⟩, c1, some ⟨g2, 0, none⟩, c2, by omega, by go_num, rfl, rfl, HZ4, ?_⟩
                rw [take_snoc (rowOf N (gA k)) _ (by simpa using hlj), take_snoc (rowOf N (gB k)) _ (by simpa using hlj), nth_rowOf _ _ _ hlj, nth_rowOf _ _ _ hlj, HEA.out, HEB.out]
                exact HT2
              case measure => simp [intOf]; omega
            · have i1 : ¬ ((k : Int) < n0) := by omega
              have i2 : ¬ ((n0 : Int) ≤ j) := by omega
              have i3 : (n0 : Int) ≤ k := by omega
              clear h1 h2 h3 i4 i5 hNe
              have HX1 := Lib.hid (HTw.out.under (Below.refl wi.heap.size wi))
              have HZ1 := Lib.hid (bb Hb.out (Below.refl wi.heap.size wi))
              have hl1 : ((rowOf N (gA k)).take j).length = j := by simp; omega
              have hl2 : ((rowOf N (gB k)).take j).length = j := by simp; omega
              have HL1a := Lib.hid hl1; have HL2a := Lib.hid hl2
              have HN1a : Hid (((rowOf N (gA k)).take j).length ≤ 1099511627776) := by show _ ≤ _; rw [hl1]; omega
              have HN2a : Hid (((rowOf N (gB k)).take j).length ≤ 1099511627776) := by show _ ≤ _; rw [hl2]; omega
              have HS1a : Hid (wo.heap.size ≤ (wi).heap.size) := Lib.hid HZ1.out.size
              clear hl1 hl2
              go_wp2_with (at_builtin; go_loud (first | (refine wpList_app_int2 wo.heap.size (wi) _ ((rowOf N (gA k)).take j) _ _ _ wi.heap.size rfl rfl rfl rfl HX1.out.a rfl HN1a.out HS1a.out ?_; intro g c1 w1 hown1 hk1 hg1; rw [HL1a.out] at hown1; rw [HL1a.out]; have HT1 := Lib.hid (HX1.out.app1 hown1 hk1 hg1); have HZ2 := Lib.hid (HX1.out.a.frame HZ1.out (Nat.le_refl _) HS1a.out hk1); clear hown1 hk1 hg1; have hB3 := bb HB.out HZ2.out; have HX2 := HT1; have HZ3 := HZ2; have HS2a : Hid (wo.heap.size ≤ w1.heap.size) := Lib.hid HZ3.out.size; clear hB3) | (refine wpList_app_int2 wo.heap.size w1 _ ((rowOf N (gB k)).take j) _ _ _ w1.heap.size rfl rfl rfl rfl HX2.out.b rfl HN2a.out HS2a.out ?_; intro g2 c2 w4 hown4 hk4 hg4; rw [HL2a.out] at hown4; rw [HL2a.out]; have HT2 := Lib.hid (HX2.out.app2 hown4 hk4 hg4); have HZ4 := Lib.hid (HX2.out.b.frame HZ3.out (Nat.le_refl _) HS2a.out hk4); clear hown4 hk4 hg4)))
              go_roundw
              case rel =>
                refine ⟨j + 1, some ⟨g, 0, none⟩, c1, some ⟨g2, 0, none⟩, c2, by omega, by go_num, rfl, rfl, HZ4, ?_⟩
                rw [take_snoc (rowOf N (gA k)) _ (by simpa using hlj), take_snoc (rowOf N (gB k)) _ (by simpa using hlj), nth_rowOf _ _ _ hlj, nth_rowOf _ _ _ hlj, HEA.out, HEB.out]
                exact HT2
              case measure => simp [intOf]; omega
        · obtain rfl : N = j := by omega
          have hTw := HTw.out
          rw [List.take_of_length_le (by simp), List.take_of_length_le (by simp)] at hTw
          have HU := Lib.hid hTw; clear hTw
          have HO2 := Lib.hid (HO.out.under Hb.out)
          have HBi := Lib.hid (bb HB.out Hb.out)
          have hla : ((tabOf N gA).take k).length = k := by simp; omega
          have hlb : ((tabOf N gB).take k).length = k := by simp; omega
          have HNA : Hid (((tabOf N gA).take k).length ≤ 1099511627776) := by show _ ≤ _; rw [hla]; omega
          have HNB : Hid (((tabOf N gB).take k).length ≤ 1099511627776) := by show _ ≤ _; rw [hlb]; omega
          have HLA := Lib.hid hla; have HLB := Lib.hid hlb; clear hla hlb
          have HLO : Hid ((V.heap.size + 1) ≤ wi.heap.size) := Nat.le_trans HO2.out.lm HO2.out.mw
          obtain ⟨cA, cB, cF, cG⟩ := two_cells HO2.out.blk
          go_wp2_with (at_builtin; go_loud (first
            | (refine wpList_app_row2 (V.heap.size + 1) wo.heap.size wi va ((tabOf N gA).take k) _ (rowOf N (gA k)) _ _ rfl rfl rfl HO2.out.a HU.out.a rfl HNA.out HO2.out.lm HLO.out ?_; intro g c1 w1 hown1 hk1 hg1; rw [HLA.out] at hown1; rw [HLA.out]; have hq1 := HO2.out.blkq hk1; obtain ⟨dA, dB, dF, dG⟩ := two_cells hq1; have hh := HO2.out.app1 hown1 hk1 hg1; have hv := HO2.out.row1 HU.out.b hk1 (.slice (some ⟨g, 0, none⟩) (k + 1) c1); have hf := HO2.out.frame1 HBi.out HQLE.out hk1 (.slice (some ⟨g, 0, none⟩) (k + 1) c1); obtain ⟨eA, eB, eF, eG⟩ := two_cells hh.blk; have HH := Lib.hid hh; have HV := Lib.hid hv; have HF1 := Lib.hid hf; clear hown1 hk1 hg1 hq1 hh hv hf)
            | (refine wpList_app_row2s (V.heap.size + 1) wo.heap.size (w1.setCell ⟨(V.heap.size), 0, none⟩ (.slice (some ⟨g, 0, none⟩) (k + 1) c1)) vb ((tabOf N gB).take k) _ (rowOf N (gB k)) _ _ w1.heap.size (by simp [World.setCell]) rfl rfl rfl HH.out.b HV.out rfl HNB.out HH.out.lm (Nat.le_trans HH.out.lm HH.out.mw) ?_; intro g2 c2 w4 hown4 hk4 hg4; rw [HLB.out] at hown4; rw [HLB.out]; have hq4 := HH.out.blkq hk4; clear dA dB dF dG eA eB eF eG cA cB cF cG; obtain ⟨dA, dB, dF, dG⟩ := two_cells hq4; have HH2 := Lib.hid (HH.out.app2 hown4 hk4 hg4); have HF2 := Lib.hid (HH.out.frame2 HF1.out HQLE.out hk4 (.slice (some ⟨g2, 0, none⟩) (k + 1) c2)); clear hown4 hk4 hg4 hq4)))
          go_roundw
          case rel =>
            refine ⟨k + 1, .slice (some ⟨g, 0, none⟩) (k + 1) c1, .slice (some ⟨g2, 0, none⟩) (k + 1) c2, by omega, by go_num, HF2, ?_⟩
            rw [take_snoc_row (tabOf N gA) _ (by simpa using hlt), take_snoc_row (tabOf N gB) _ (by simpa using hlt), row_tabOf _ _ _ hlt, row_tabOf _ _ _ hlt]
            exact HH2
          case measure => simp [intOf]; omega
    · obtain rfl : N = k := by omega
      have hO := HO.out
      rw [List.take_of_length_le (by simp), List.take_of_length_le (by simp)] at hO
      obtain ⟨ra1, rc1, hva, _⟩ := hO.a.out.rows.shape
      obtain ⟨ra2, rc2, hvb, _⟩ := hO.b.out.rows.shape
      rw [tabOf_length] at hva hvb
      subst hva hvb
      obtain ⟨y0, y1, y2, y3⟩ := two_cells hO.blk
      obtain ⟨z0, z1, z2, z3⟩ := two_cells (f2.under HB.out)
      have HO' := Lib.hid hO; clear hO
      have hlt2 := HF2lt.out
      go_wp2
      refine bodyPost_ret (v := .agg #[.slice ra1 N rc1, .slice ra2 N rc2]) (by simp [results, Try.results79, go_sem, z0, z1]) rfl ⟨_, _, rfl, ⟨?_, ?_⟩, ((bb HWW.out HB.out).setCell (p := ⟨w.heap.size + 1 + 1, 0, none⟩) (by show _ ≤ w.heap.size + 1 + 1; omega) _).setCell (p := ⟨w.heap.size + 1 + 1, 1, none⟩) (by show _ ≤ w.heap.size + 1 + 1; omega) _⟩
      · try rw [HRA.out]
        exact OwnRows.mono (B := (V.heap.size + 1)) ((HO'.out.a.out.keep (keep1 _ (w.heap.size + 1 + 1) 0 _) (fun b h1 h2 h3 => by have h3 : b = w.heap.size + 1 + 1 := h3; omega)).keep (keep1 _ (w.heap.size + 1 + 1) 1 _) (fun b h1 h2 h3 => by have h3 : b = w.heap.size + 1 + 1 := h3; omega)) (by have := HSV.out; omega)
      · try rw [HRB.out]
        exact OwnRows.mono (B := (V.heap.size + 1)) ((HO'.out.b.out.keep (keep1 _ (w.heap.size + 1 + 1) 0 _) (fun b h1 h2 h3 => by have h3 : b = w.heap.size + 1 + 1 := h3; omega)).keep (keep1 _ (w.heap.size + 1 + 1) 1 _) (fun b h1 h2 h3 => by have h3 : b = w.heap.size + 1 + 1 := h3; omega)) (by have := HSV.out; omega)
end Go.Proofs.Ytdhbleiioagmlaa
