/-
  Draws of texts, texts there and back, and the law FnSolutionTexts.
-/
import Derived.Test.YtnbhghgkjcfcmaaDoorSTX1
import Derived.Test.YtnbhghgkjcfcmaaDoorI6
import Derived.Test.YtnbhghgkjcfcmaaDoorLTables
import Derived.StillTailTactics
import Derived.Deep.RegionHeld3
import Derived.Test.YtnbhghgkjcfcmaaDoorBase
import Derived.Test.YtnbhghgkjcfcmaaDoorI24
import Derived.Test.YtnbhghgkjcfcmaaDoorI3c
import Derived.Deep.RegionLaw
import Derived.RangeFuncNested
import Derived.RangeFuncBound
import Derived.RangeFuncCalls
import Derived.RangeFuncLeaves
import Derived.Shelf.Abstract
import Derived.Shelf.RegionOpen
import Derived.OwnWalkIn
import Derived.TacticsInMore
import Derived.LoopNIn
import Derived.LoopIn
import Derived.Test.YtnbhghgkjcfcmaaDoorP5
import Derived.Test.YtnbhghgkjcfcmaaDoorI1c
import Derived.RegionTactic
import Derived.BigRegion
import Derived.ChangeAlike
import Derived.Test.YtnbhghgkjcfcmaaDoorI4
import Derived.Test.YtnbhghgkjcfcmaaDoorI1
import Derived.Test.YtnbhghgkjcfcmaaDoorI3d
import Derived.Test.YtnbhghgkjcfcmaaDoorI3b
import Derived.ControlIn
import Derived.Deep.LoopGhost
import Derived.Test.YtnbhghgkjcfcmaaDoorP7
import Derived.BigQuiet
namespace Go.Proofs.YtnbhghgkjcfcmaaDoor
set_option linter.unusedVariables false
set_option linter.unusedSimpArgs false
open Go.RowKit

def prT (A C : List (List Int)) : List (List Int) := tabOf (A.length * C.length) fun x y => val2 A (x / C.length) (y / C.length) * C.length + val2 C (x % C.length) (y % C.length)
def prOk (A B C D : List (List Int)) : Bool := isPM A B && isPM C D
def prSm (A C : List (List Int)) : Bool := decide (A.length * C.length ≤ 12)
def prRA (A B C D : List (List Int)) : List (List Int) := if prOk A B C D && prSm A C then prT A C else []
def prRB (A B C D : List (List Int)) : List (List Int) := if prOk A B C D && prSm A C then prT B D else []
def prCode (A B C D : List (List Int)) : Int := if prOk A B C D then (if prSm A C then 0 else 3) else 1
theorem prOk_of {A B C D : List (List Int)} (h1 : isPM A B = true) (h2 : isPM C D = true) : prOk A B C D = true := by simp [prOk, h1, h2]
theorem divN {k n m : Nat} (h : k < n * m) (hm : 1 ≤ m) : k / m < n ∧ k % m < m := ⟨Nat.div_lt_of_lt_mul (by rw [Nat.mul_comm]; exact h), Nat.mod_lt _ (by omega)⟩
theorem divI2 {k n m : Nat} (h : k < n * m) (hm : 1 ≤ m) : 0 ≤ (k : Int) / (m : Int) ∧ (k : Int) / (m : Int) < n ∧ 0 ≤ (k : Int) % (m : Int) ∧ (k : Int) % (m : Int) < m := by
  obtain ⟨h1, h2⟩ := divN h hm
  rw [← Int.natCast_ediv, ← Int.natCast_emod]; exact ⟨Int.natCast_nonneg _, Int.ofNat_lt.2 h1, Int.natCast_nonneg _, Int.ofNat_lt.2 h2⟩
theorem pairI {a b : Int} {n m : Nat} (ha0 : 0 ≤ a) (ha : a < n) (hb0 : 0 ≤ b) (hb : b < m) : 0 ≤ a * m + b ∧ a * m + b < n * m := by
  have h1 : 0 ≤ a * (m : Int) := Int.mul_nonneg ha0 (by omega)
  have h2 : (a + 1) * (m : Int) ≤ n * m := Int.mul_le_mul_of_nonneg_right (by omega) (by omega)
  have h3 : (a + 1) * (m : Int) = a * m + m := by rw [Int.add_mul, Int.one_mul]
  omega



set_option maxRecDepth 100000 in
set_option maxHeartbeats 4000000 in
theorem c_l02Product (v0 u0 : Value) (A B : List (List Int)) (v1 u1 : Value) (C D : List (List Int)) (w : World) (hA : Sol w v0 u0 A B) (hC : Sol w v1 u1 C D) (hp : isPM A B = true) (hq : isPM C D = true) (hsm : A.length * C.length ≤ 12) :
    Calls Tryd.prog 78 #[.agg #[v0, u0], .agg #[v1, u1]] w (RSolR w (prT A C) (prT B D)) := by
  obtain ⟨n0, b0, o0, c0, rb0, ro0, rc0, b0s, o0s, c0s, rb0s, ro0s, rc0s, rfl, rfl, hl0, hl0s, hn0, hx0, hc0, hm0, hc0s, hm0s, t0, t0s⟩ := hA.tabs hp
  have HL0 := Lib.hid hl0; clear hl0
  have HL0s := Lib.hid hl0s; clear hl0s
  obtain ⟨n1, b1, o1, c1, rb1, ro1, rc1, b1s, o1s, c1s, rb1s, ro1s, rc1s, rfl, rfl, hl1, hl1s, hn1, hx1, hc1, hm1, hc1s, hm1s, t1, t1s⟩ := hC.tabs hq
  have HL1 := Lib.hid hl1; clear hl1
  have HL1s := Lib.hid hl1s; clear hl1s
  go_enter Tryd.func78, Tryd.ntmps78
  go_wp2
  obtain ⟨f0, f1, f2, hW0, hsz⟩ := boxes3 w [.slice (some ⟨b0, o0, none⟩) n0 c0, .slice (some ⟨b0s, o0s, none⟩) n0 c0s] [.slice (some ⟨b1, o1, none⟩) n1 c1, .slice (some ⟨b1s, o1s, none⟩) n1 c1s] [.slice none 0 0, .slice none 0 0] 38 38 38
  obtain ⟨W0, hW⟩ : ∃ W, (((w.alloc (.cells #[.slice (some ⟨b0, o0, none⟩) n0 c0, .slice (some ⟨b0s, o0s, none⟩) n0 c0s] 38)).alloc (.cells #[.slice (some ⟨b1, o1, none⟩) n1 c1, .slice (some ⟨b1s, o1s, none⟩) n1 c1s] 38)).alloc (.cells #[.slice none 0 0, .slice none 0 0] 38)) = W := ⟨_, rfl⟩
  rw [hW] at f0 f1 f2 hW0 hsz ⊢
  have HSZ := Lib.hid hsz
  clear hW hsz
  obtain ⟨cA0, cB0, -, -⟩ := two_cells f0
  obtain ⟨cA1, cB1, -, -⟩ := two_cells f1
  obtain ⟨cA2, cB2, -, -⟩ := two_cells f2
  replace t0 := t0.below hW0; replace t0s := t0s.below hW0
  replace t1 := t1.below hW0; replace t1s := t1s.below hW0
  rw [HL0.out, HL1.out] at hsm
  obtain ⟨N, hN⟩ : ∃ N, N = n0 * n1 := ⟨_, rfl⟩
  have hNI : (n0 : Int) * n1 = N := by rw [hN]; push_cast; rfl
  obtain ⟨gA, hgA⟩ : ∃ g : Int → Int → Int, g = fun x y => val2 A (x / n1) (y / n1) * n1 + val2 C (x % n1) (y % n1) := ⟨_, rfl⟩
  obtain ⟨gB, hgB⟩ : ∃ g : Int → Int → Int, g = fun x y => val2 B (x / n1) (y / n1) * n1 + val2 D (x % n1) (y % n1) := ⟨_, rfl⟩
  have hRA : prT A C = tabOf N gA := by unfold prT; rw [HL0.out, HL1.out, hgA, hN]
  have hRB : prT B D = tabOf N gB := by unfold prT; rw [HL0s.out, HL1s.out, hgB, hN]
  have HRA := Lib.hid hRA; have HRB := Lib.hid hRB
  have HGA : Hid (∀ x y : Int, gA x y = val2 A (x / n1) (y / n1) * n1 + val2 C (x % n1) (y % n1)) := Lib.hid (by rw [hgA]; intro x y; rfl)
  have HGB : Hid (∀ x y : Int, gB x y = val2 B (x / n1) (y / n1) * n1 + val2 D (x % n1) (y % n1)) := Lib.hid (by rw [hgB]; intro x y; rfl)
  have HN := Lib.hid hN
  rw [← hN] at hsm
  clear hgA hgB hRA hRB hN hA hC hp hq
  go_quiet (fail)
  rename_i nq
  have hdn : Below W0.heap.size W0 (W0.drewN nq) := below_drewN (Below.refl _ _) nq
  replace f0 := f0.under hdn; replace f1 := f1.under hdn; replace f2 := f2.under hdn; replace hW0 := bb hW0 hdn
  have HT0 := Lib.hid (t0.below hdn); have HT0s := Lib.hid (t0s.below hdn); have HT1 := Lib.hid (t1.below hdn); have HT1s := Lib.hid (t1s.below hdn)
  have HSV : Hid ((W0.drewN nq).heap.size = w.heap.size + 1 + 1 + 1) := HSZ.out
  generalize W0.drewN nq = V at f0 f1 f2 hW0 HT0 HT0s HT1 HT1s HSV ⊢
  have HF2lt := Lib.hid f2.lt
  have hV := hW0
  clear t0 t0s t1 t1s cA0 cB0 cA1 cB1 cA2 cB2 hdn HSZ hW0
  go_wp2
  have hB1 : Below V.heap.size V (V.alloc (.cells #[.slice none 0 0, .slice none 0 0] 38)) := (Below.refl _ _).alloc (Nat.le_refl _) _
  have hout := Blk.new V [.slice none 0 0, .slice none 0 0] 38
  have hs1 : (V.alloc (.cells #[.slice none 0 0, .slice none 0 0] 38)).heap.size = V.heap.size + 1 := by simp
  have hqq : V.heap.size = V.heap.size := rfl
  change Blk (V.alloc (.cells #[.slice none 0 0, .slice none 0 0] 38)) _ _ _ at hout
  obtain ⟨W1, hW1⟩ : ∃ W, V.alloc (.cells #[.slice none 0 0, .slice none 0 0] 38) = W := ⟨_, rfl⟩
  rw [hW1] at hB1 hout hs1 ⊢
  clear hW1
  have hout' : Blk W1 (V.heap.size) 38 [.slice none 0 0, .slice none 0 0] := by rw [← hqq]; exact hout
  have HOut := Lib.hid (Out2.start (lo := V.heap.size + 1) (q := V.heap.size) (w := W1) (by omega) (by omega) hout')
  have HB1 := Lib.hid hB1; have HWW := Lib.hid hV; have HS1 := Lib.hid hs1
  have HQLE : Hid (V.heap.size ≤ V.heap.size) := Lib.hid (by omega)
  clear hB1 hout hout' hs1 hV hqq
  go_loopw [8, 9, 10, 11] (fun a _ _ _ wr => ∃ (k : Nat) (va vb : Value), k ≤ N ∧ a = .int .i64 k ∧ Hid (Below V.heap.size V wr) ∧ Hid (Out2 (V.heap.size + 1) wr.heap.size (V.heap.size) wr va vb ((tabOf N gA).take k) ((tabOf N gB).take k))) (fun a _ _ _ _ => N - (intOf a).toNat)
  case atStart => exact ⟨0, _, _, Nat.zero_le _, rfl, HB1, HOut⟩
  case round =>
    clear HB1 HOut
    obtain ⟨k, va, vb, hk, rfl, HB, HO⟩ := hrel
    obtain ⟨wo, rfl⟩ : ∃ wo : World, wo = wr := ⟨_, rfl⟩
    by_cases hlt : k < N
    · go_wp2
      go_loopw [9, 10, 11] (fun s t y wi => ∃ (j : Nat) (sa : Option Addr) (sc : Nat) (ta : Option Addr) (tc : Nat), j ≤ N ∧ y = .int .i64 j ∧ s = .slice sa j sc ∧ t = .slice ta j tc ∧ Hid (Below wo.heap.size wo wi) ∧ Hid (Two wo.heap.size wi (.slice sa j sc) (.slice ta j tc) ((rowOf N (gA k)).take j) ((rowOf N (gB k)).take j))) (fun _ _ y _ => N - (intOf y).toNat)
      case atStart => exact ⟨0, _, _, _, _, Nat.zero_le _, rfl, rfl, rfl, Lib.hid (((Below.refl wo.heap.size wo).alloc (Nat.le_refl _) _).alloc (by simp) _), Lib.hid (Two.made0 wo)⟩
      case round =>
        obtain ⟨j, sa, sc, ta, tc, hj, rfl, rfl, rfl, Hb, HTw⟩ := hrel
        obtain ⟨wi, rfl⟩ : ∃ wi : World, wi = wr := ⟨_, rfl⟩
        by_cases hlj : j < N
        · have hB2 := bb HB.out Hb.out
          obtain ⟨cA0, cB0, -, -⟩ := two_cells (f0.under hB2)
          obtain ⟨cA1, cB1, -, -⟩ := two_cells (f1.under hB2)
          have T0 := HT0.out.below hB2; have T1 := HT1.out.below hB2
          have hkN : k < n0 * n1 := by have := HN.out; omega
          have hjN : j < n0 * n1 := by have := HN.out; omega
          obtain ⟨d1, d2, d3, d4⟩ := divI2 hkN hn1
          obtain ⟨d5, d6, d7, d8⟩ := divI2 hjN hn1
          clear hkN hjN
          have HEA := Lib.hid (HGA.out k j); have HEB := Lib.hid (HGB.out k j)
          have w1 : IntKind.i64.wrap ((k : Int) / (n1 : Int)) = (k : Int) / (n1 : Int) := by rw [IntKind.wrap_i64]; omega
          have w2 : Int.tmod (k : Int) (n1 : Int) = (k : Int) % (n1 : Int) := Int.tmod_eq_emod_of_nonneg (by omega)
          have w3 : IntKind.i64.wrap ((j : Int) / (n1 : Int)) = (j : Int) / (n1 : Int) := by rw [IntKind.wrap_i64]; omega
          have w4 : Int.tmod (j : Int) (n1 : Int) = (j : Int) % (n1 : Int) := Int.tmod_eq_emod_of_nonneg (by omega)
          obtain ⟨x1, hx1⟩ : ∃ x : Int, (k : Int) / (n1 : Int) = x := ⟨_, rfl⟩
          obtain ⟨x2, hx2⟩ : ∃ x : Int, (k : Int) % (n1 : Int) = x := ⟨_, rfl⟩
          obtain ⟨x3, hx3⟩ : ∃ x : Int, (j : Int) / (n1 : Int) = x := ⟨_, rfl⟩
          obtain ⟨x4, hx4⟩ : ∃ x : Int, (j : Int) % (n1 : Int) = x := ⟨_, rfl⟩
          rw [hx1] at d1 d2 HEA HEB; rw [hx2] at d3 d4 HEA HEB; rw [hx3] at d5 d6 HEA HEB; rw [hx4] at d7 d8 HEA HEB
          replace w1 := w1.trans hx1; replace w2 := w2.trans hx2; replace w3 := w3.trans hx3; replace w4 := w4.trans hx4
          clear hx1 hx2 hx3 hx4
          have rA := T0.rowi _ d1 d2; have rC := T1.rowi _ d3 d4; have vA := T0.vali _ _ d1 d2 d5 d6; have vC := T1.vali _ _ d3 d4 d7 d8
          have gA1 := T0.rng _ _ d1 d2 d5 d6; have gC1 := T1.rng _ _ d3 d4 d7 d8
          have gB1 := HT0s.out.rng _ _ d1 d2 d5 d6; have gD1 := HT1s.out.rng _ _ d3 d4 d7 d8
          have pA := pairI gA1.1 gA1.2 gC1.1 gC1.2; have pB := pairI gB1.1 gB1.2 gD1.1 gD1.2
          have hm0 : ¬ (n1 = 0) := by omega
          obtain ⟨va1, hva⟩ : ∃ z, z = val2 A x1 x3 := ⟨_, rfl⟩
          obtain ⟨vb1, hvb⟩ : ∃ z, z = val2 B x1 x3 := ⟨_, rfl⟩
          obtain ⟨vc1, hvc⟩ : ∃ z, z = val2 C x2 x4 := ⟨_, rfl⟩
          obtain ⟨vd1, hvd⟩ : ∃ z, z = val2 D x2 x4 := ⟨_, rfl⟩
          rw [← hva] at vA gA1 pA HEA; rw [← hvb] at gB1 pB HEB; rw [← hvc] at vC gC1 pA HEA; rw [← hvd] at gD1 pB HEB
          have mA : 0 ≤ va1 * (n1 : Int) := Int.mul_nonneg gA1.1 (by omega)
          have mB : 0 ≤ vb1 * (n1 : Int) := Int.mul_nonneg gB1.1 (by omega)
          have u1 : IntKind.i64.wrap (va1 * (n1 : Int)) = va1 * (n1 : Int) := by rw [IntKind.wrap_i64]; omega
          have u2 : IntKind.i64.wrap (va1 * (n1 : Int) + vc1) = va1 * (n1 : Int) + vc1 := by rw [IntKind.wrap_i64]; omega
          have u3 : IntKind.i64.wrap (vb1 * (n1 : Int)) = vb1 * (n1 : Int) := by rw [IntKind.wrap_i64]; omega
          have u4 : IntKind.i64.wrap (vb1 * (n1 : Int) + vd1) = vb1 * (n1 : Int) + vd1 := by rw [IntKind.wrap_i64]; omega
          have HVB := Lib.hid hvb; have HVD := Lib.hid hvd; have HVA := Lib.hid hva; have HVC := Lib.hid hvc
          have HSA : Hid (∀ w' : World, Below V.heap.size V w' → w'.cell? ⟨w.heap.size, 0, none⟩ = some (.slice (some ⟨b0, o0, none⟩) n0 c0) ∧ w'.cell? ⟨w.heap.size + 1, 0, none⟩ = some (.slice (some ⟨b1, o1, none⟩) n1 c1) ∧ w'.cell? ⟨b0, o0 + x1.toNat, none⟩ = some (.slice (some ⟨rb0 x1.toNat, ro0 x1.toNat, none⟩) n0 (rc0 x1.toNat)) ∧ w'.cell? ⟨b1, o1 + x2.toNat, none⟩ = some (.slice (some ⟨rb1 x2.toNat, ro1 x2.toNat, none⟩) n1 (rc1 x2.toNat)) ∧ w'.cell? ⟨rb0 x1.toNat, ro0 x1.toNat + x3.toNat, none⟩ = some (.int .i64 va1) ∧ w'.cell? ⟨rb1 x2.toNat, ro1 x2.toNat + x4.toNat, none⟩ = some (.int .i64 vc1)) := Lib.hid (by
            intro w' hb
            have T0 := HT0.out.below hb; have T1 := HT1.out.below hb
            have a1 := T0.rowi _ d1 d2; have a2 := T1.rowi _ d3 d4; have a3 := T0.vali _ _ d1 d2 d5 d6; have a4 := T1.vali _ _ d3 d4 d7 d8
            rw [← HVA.out] at a3; rw [← HVC.out] at a4
            exact ⟨(two_cells (f0.under hb)).1, (two_cells (f1.under hb)).1, a1, a2, a3, a4⟩)
          have HSB : Hid (∀ w' : World, Below V.heap.size V w' → w'.cell? ⟨w.heap.size, 1, none⟩ = some (.slice (some ⟨b0s, o0s, none⟩) n0 c0s) ∧ w'.cell? ⟨w.heap.size + 1, 1, none⟩ = some (.slice (some ⟨b1s, o1s, none⟩) n1 c1s) ∧ w'.cell? ⟨b0s, o0s + x1.toNat, none⟩ = some (.slice (some ⟨rb0s x1.toNat, ro0s x1.toNat, none⟩) n0 (rc0s x1.toNat)) ∧ w'.cell? ⟨b1s, o1s + x2.toNat, none⟩ = some (.slice (some ⟨rb1s x2.toNat, ro1s x2.toNat, none⟩) n1 (rc1s x2.toNat)) ∧ w'.cell? ⟨rb0s x1.toNat, ro0s x1.toNat + x3.toNat, none⟩ = some (.int .i64 vb1) ∧ w'.cell? ⟨rb1s x2.toNat, ro1s x2.toNat + x4.toNat, none⟩ = some (.int .i64 vd1)) := Lib.hid (by
            intro w' hb
            have T0 := HT0s.out.below hb; have T1 := HT1s.out.below hb
            have a1 := T0.rowi _ d1 d2; have a2 := T1.rowi _ d3 d4; have a3 := T0.vali _ _ d1 d2 d5 d6; have a4 := T1.vali _ _ d3 d4 d7 d8
            rw [← HVB.out] at a3; rw [← HVD.out] at a4
            exact ⟨(two_cells (f0.under hb)).2.1, (two_cells (f1.under hb)).2.1, a1, a2, a3, a4⟩)
          clear hva hvb hvc hvd T0 T1 hB2
          have HX1 := Lib.hid (HTw.out.under ((Below.refl wi.heap.size wi).drew))
          have HZ1 := Lib.hid (bb Hb.out ((Below.refl wi.heap.size wi).drew))
          have hl1 : ((rowOf N (gA k)).take j).length = j := by simp; omega
          have hl2 : ((rowOf N (gB k)).take j).length = j := by simp; omega
          have HL1a := Lib.hid hl1; have HL2a := Lib.hid hl2
          have HN1a : Hid (((rowOf N (gA k)).take j).length ≤ 1099511627776) := by show _ ≤ _; rw [hl1]; omega
          have HN2a : Hid (((rowOf N (gB k)).take j).length ≤ 1099511627776) := by show _ ≤ _; rw [hl2]; omega
          have HS1a : Hid (wo.heap.size ≤ (wi.drew).heap.size) := Lib.hid HZ1.out.size
          clear hl1 hl2
          go_wp2
          go_region_held3 (fun w' => w'.cell? ⟨w.heap.size, 0, none⟩ = some (.slice (some ⟨b0, o0, none⟩) n0 c0) ∧ w'.cell? ⟨w.heap.size + 1, 0, none⟩ = some (.slice (some ⟨b1, o1, none⟩) n1 c1) ∧ w'.cell? ⟨b0, o0 + x1.toNat, none⟩ = some (.slice (some ⟨rb0 x1.toNat, ro0 x1.toNat, none⟩) n0 (rc0 x1.toNat)) ∧ w'.cell? ⟨b1, o1 + x2.toNat, none⟩ = some (.slice (some ⟨rb1 x2.toNat, ro1 x2.toNat, none⟩) n1 (rc1 x2.toNat)) ∧ w'.cell? ⟨rb0 x1.toNat, ro0 x1.toNat + x3.toNat, none⟩ = some (.int .i64 va1) ∧ w'.cell? ⟨rb1 x2.toNat, ro1 x2.toNat + x4.toNat, none⟩ = some (.int .i64 vc1)) (first | go_keep | exact HSA.out _ (bb HB.out HZ1.out) | exact HSA.out _ (bb HB.out HZ2.out)) ((first | (refine step_app_int wo.heap.size (wi.drew) _ ((rowOf N (gA k)).take j) _ _ _  rfl rfl rfl HX1.out.a rfl HN1a.out HS1a.out ?_; intro g c1 w1 hown1 hk1 hg1; rw [HL1a.out] at hown1; rw [HL1a.out]; have HT1 := Lib.hid (HX1.out.app1 hown1 hk1 hg1); have HZ2 := Lib.hid (HX1.out.a.frame HZ1.out (Nat.le_refl _) HS1a.out hk1); clear hown1 hk1 hg1)))
          go_wp2
          have hB3 := bb HB.out HZ2.out
          obtain ⟨cA0, cB0, -, -⟩ := two_cells (f0.under hB3)
          obtain ⟨cA1, cB1, -, -⟩ := two_cells (f1.under hB3)
          have T0s := HT0s.out.below hB3; have T1s := HT1s.out.below hB3
          have rB := T0s.rowi _ d1 d2; have rD := T1s.rowi _ d3 d4; have vB := T0s.vali _ _ d1 d2 d5 d6; have vD := T1s.vali _ _ d3 d4 d7 d8
          rw [← HVB.out] at vB
          rw [← HVD.out] at vD
          clear T0s T1s
          have HX2 := Lib.hid (HT1.out.under ((Below.refl w1.heap.size w1).drew))
          have HZ3 := Lib.hid (bb HZ2.out ((Below.refl w1.heap.size w1).drew))
          have HS2a : Hid (wo.heap.size ≤ (w1.drew).heap.size) := Lib.hid HZ3.out.size
          clear hB3
          go_wp2
          go_region_held3 (fun w' => w'.cell? ⟨w.heap.size, 1, none⟩ = some (.slice (some ⟨b0s, o0s, none⟩) n0 c0s) ∧ w'.cell? ⟨w.heap.size + 1, 1, none⟩ = some (.slice (some ⟨b1s, o1s, none⟩) n1 c1s) ∧ w'.cell? ⟨b0s, o0s + x1.toNat, none⟩ = some (.slice (some ⟨rb0s x1.toNat, ro0s x1.toNat, none⟩) n0 (rc0s x1.toNat)) ∧ w'.cell? ⟨b1s, o1s + x2.toNat, none⟩ = some (.slice (some ⟨rb1s x2.toNat, ro1s x2.toNat, none⟩) n1 (rc1s x2.toNat)) ∧ w'.cell? ⟨rb0s x1.toNat, ro0s x1.toNat + x3.toNat, none⟩ = some (.int .i64 vb1) ∧ w'.cell? ⟨rb1s x2.toNat, ro1s x2.toNat + x4.toNat, none⟩ = some (.int .i64 vd1)) (first | go_keep | exact HSB.out _ (bb HB.out HZ3.out) | exact HSB.out _ (bb HB.out HZ4.out)) ((first | (refine step_app_int wo.heap.size (w1.drew) _ ((rowOf N (gB k)).take j) _ _ _  rfl rfl rfl HX2.out.b rfl HN2a.out HS2a.out ?_; intro g2 c2 w4 hown4 hk4 hg4; rw [HL2a.out] at hown4; rw [HL2a.out]; have HT2 := Lib.hid (HX2.out.app2 hown4 hk4 hg4); have HZ4 := Lib.hid (HX2.out.b.frame HZ3.out (Nat.le_refl _) HS2a.out hk4); clear hown4 hk4 hg4)))
          go_wp2
          go_roundw
          case rel =>
            refine ⟨j + 1, some ⟨g, 0, none⟩, c1, some ⟨g2, 0, none⟩, c2, by omega, by go_num, rfl, rfl, HZ4, ?_⟩
            rw [take_snoc (rowOf N (gA k)) _ (by simpa using hlj), take_snoc (rowOf N (gB k)) _ (by simpa using hlj), nth_rowOf _ _ _ hlj, nth_rowOf _ _ _ hlj, HEA.out, HEB.out]
            exact HT2
          case measure => simp [intOf]; omega
        · obtain rfl : N = j := by omega
          have hTw := HTw.out
          rw [List.take_of_length_le (by simp), List.take_of_length_le (by simp)] at hTw
          have HU := Lib.hid hTw; clear hTw
          have HO2 := Lib.hid (HO.out.under Hb.out)
          have HBi := Lib.hid (bb HB.out Hb.out)
          have hla : ((tabOf N gA).take k).length = k := by simp; omega
          have hlb : ((tabOf N gB).take k).length = k := by simp; omega
          have HNA : Hid (((tabOf N gA).take k).length ≤ 1099511627776) := by show _ ≤ _; rw [hla]; omega
          have HNB : Hid (((tabOf N gB).take k).length ≤ 1099511627776) := by show _ ≤ _; rw [hlb]; omega
          have HLA := Lib.hid hla; have HLB := Lib.hid hlb; clear hla hlb
          have HLO : Hid ((V.heap.size + 1) ≤ wi.heap.size) := Nat.le_trans HO2.out.lm HO2.out.mw
          obtain ⟨cA, cB, cF, cG⟩ := two_cells HO2.out.blk
          go_wp2_with (at_builtin; go_loud (first
            | (refine wpList_app_row2 (V.heap.size + 1) wo.heap.size wi va ((tabOf N gA).take k) _ (rowOf N (gA k)) _ _ rfl rfl rfl HO2.out.a HU.out.a rfl HNA.out HO2.out.lm HLO.out ?_; intro g c1 w1 hown1 hk1 hg1; rw [HLA.out] at hown1; rw [HLA.out]; have hq1 := HO2.out.blkq hk1; obtain ⟨dA, dB, dF, dG⟩ := two_cells hq1; have hh := HO2.out.app1 hown1 hk1 hg1; have hv := HO2.out.row1 HU.out.b hk1 (.slice (some ⟨g, 0, none⟩) (k + 1) c1); have hf := HO2.out.frame1 HBi.out HQLE.out hk1 (.slice (some ⟨g, 0, none⟩) (k + 1) c1); obtain ⟨eA, eB, eF, eG⟩ := two_cells hh.blk; have HH := Lib.hid hh; have HV := Lib.hid hv; have HF1 := Lib.hid hf; clear hown1 hk1 hg1 hq1 hh hv hf)
            | (refine wpList_app_row2s (V.heap.size + 1) wo.heap.size (w1.setCell ⟨(V.heap.size), 0, none⟩ (.slice (some ⟨g, 0, none⟩) (k + 1) c1)) vb ((tabOf N gB).take k) _ (rowOf N (gB k)) _ _ w1.heap.size (by simp [World.setCell]) rfl rfl rfl HH.out.b HV.out rfl HNB.out HH.out.lm (Nat.le_trans HH.out.lm HH.out.mw) ?_; intro g2 c2 w4 hown4 hk4 hg4; rw [HLB.out] at hown4; rw [HLB.out]; have hq4 := HH.out.blkq hk4; clear dA dB dF dG eA eB eF eG cA cB cF cG; obtain ⟨dA, dB, dF, dG⟩ := two_cells hq4; have HH2 := Lib.hid (HH.out.app2 hown4 hk4 hg4); have HF2 := Lib.hid (HH.out.frame2 HF1.out HQLE.out hk4 (.slice (some ⟨g2, 0, none⟩) (k + 1) c2)); clear hown4 hk4 hg4 hq4)))
          go_roundw
          case rel =>
            refine ⟨k + 1, .slice (some ⟨g, 0, none⟩) (k + 1) c1, .slice (some ⟨g2, 0, none⟩) (k + 1) c2, by omega, by go_num, HF2, ?_⟩
            rw [take_snoc_row (tabOf N gA) _ (by simpa using hlt), take_snoc_row (tabOf N gB) _ (by simpa using hlt), row_tabOf _ _ _ hlt, row_tabOf _ _ _ hlt]
            exact HH2
          case measure => simp [intOf]; omega
    · obtain rfl : N = k := by omega
      have hO := HO.out
      rw [List.take_of_length_le (by simp), List.take_of_length_le (by simp)] at hO
      obtain ⟨ra1, rc1, hva, _⟩ := hO.a.out.rows.shape
      obtain ⟨ra2, rc2, hvb, _⟩ := hO.b.out.rows.shape
      rw [tabOf_length] at hva hvb
      subst hva hvb
      obtain ⟨y0, y1, y2, y3⟩ := two_cells hO.blk
      obtain ⟨z0, z1, z2, z3⟩ := two_cells (f2.under HB.out)
      have HO' := Lib.hid hO; clear hO
      have hlt2 := HF2lt.out
      go_wp2
      refine bodyPost_ret (v := .agg #[.slice ra1 N rc1, .slice ra2 N rc2]) (by simp [results, Tryd.results78, go_sem, z0, z1]) rfl ⟨_, _, rfl, ⟨?_, ?_⟩, ((bb HWW.out HB.out).setCell (p := ⟨w.heap.size + 1 + 1, 0, none⟩) (by show _ ≤ w.heap.size + 1 + 1; omega) _).setCell (p := ⟨w.heap.size + 1 + 1, 1, none⟩) (by show _ ≤ w.heap.size + 1 + 1; omega) _⟩
      · try rw [HRA.out]
        exact OwnRows.mono (B := (V.heap.size + 1)) ((HO'.out.a.out.keep (keep1 _ (w.heap.size + 1 + 1) 0 _) (fun b h1 h2 h3 => by have h3 : b = w.heap.size + 1 + 1 := h3; omega)).keep (keep1 _ (w.heap.size + 1 + 1) 1 _) (fun b h1 h2 h3 => by have h3 : b = w.heap.size + 1 + 1 := h3; omega)) (by have := HSV.out; omega)
      · try rw [HRB.out]
        exact OwnRows.mono (B := (V.heap.size + 1)) ((HO'.out.b.out.keep (keep1 _ (w.heap.size + 1 + 1) 0 _) (fun b h1 h2 h3 => by have h3 : b = w.heap.size + 1 + 1 := h3; omega)).keep (keep1 _ (w.heap.size + 1 + 1) 1 _) (fun b h1 h2 h3 => by have h3 : b = w.heap.size + 1 + 1 := h3; omega)) (by have := HSV.out; omega)

end Go.Proofs.YtnbhghgkjcfcmaaDoor

namespace Go.Proofs.YtnbhghgkjcfcmaaDoor
set_option linter.unusedVariables false
set_option linter.unusedSimpArgs false
open Go.RowKit

def unG (A C : List (List Int)) (z : Int → Int → Int) (x y : Int) : Int :=
  if x < A.length ∧ y < A.length then val2 A x y else if (A.length : Int) ≤ x ∧ (A.length : Int) ≤ y then A.length + val2 C (x - A.length) (y - A.length) else z x y
def unTA (A C : List (List Int)) : List (List Int) := tabOf (A.length + C.length) (unG A C fun _ y => y)
def unTB (A C : List (List Int)) : List (List Int) := tabOf (A.length + C.length) (unG A C fun x _ => x)
def unOk (A B C D : List (List Int)) : Bool := isPM A B && isPM C D
def unSm (A C : List (List Int)) : Bool := decide (A.length + C.length ≤ 12)
def unRA (A B C D : List (List Int)) : List (List Int) := if unOk A B C D && unSm A C then unTA A C else []
def unRB (A B C D : List (List Int)) : List (List Int) := if unOk A B C D && unSm A C then unTB B D else []
def unCode (A B C D : List (List Int)) : Int := if unOk A B C D then (if unSm A C then 0 else 3) else 1
theorem unOk_of {A B C D : List (List Int)} (h1 : isPM A B = true) (h2 : isPM C D = true) : unOk A B C D = true := by simp [unOk, h1, h2]




set_option maxRecDepth 100000 in
set_option maxHeartbeats 4000000 in
theorem c_l02Union (v0 u0 : Value) (A B : List (List Int)) (v1 u1 : Value) (C D : List (List Int)) (w : World) (hA : Sol w v0 u0 A B) (hC : Sol w v1 u1 C D) (hp : isPM A B = true) (hq : isPM C D = true) (hsm : A.length + C.length ≤ 12) :
    Calls Tryd.prog 80 #[.agg #[v0, u0], .agg #[v1, u1]] w (RSolR w (unTA A C) (unTB B D)) := by
  obtain ⟨n0, b0, o0, c0, rb0, ro0, rc0, b0s, o0s, c0s, rb0s, ro0s, rc0s, rfl, rfl, hl0, hl0s, hn0, hx0, hc0, hm0, hc0s, hm0s, t0, t0s⟩ := hA.tabs hp
  have HL0 := Lib.hid hl0; clear hl0
  have HL0s := Lib.hid hl0s; clear hl0s
  obtain ⟨n1, b1, o1, c1, rb1, ro1, rc1, b1s, o1s, c1s, rb1s, ro1s, rc1s, rfl, rfl, hl1, hl1s, hn1, hx1, hc1, hm1, hc1s, hm1s, t1, t1s⟩ := hC.tabs hq
  have HL1 := Lib.hid hl1; clear hl1
  have HL1s := Lib.hid hl1s; clear hl1s
  go_enter Tryd.func80, Tryd.ntmps80
  go_wp2
  obtain ⟨f0, f1, f2, hW0, hsz⟩ := boxes3 w [.slice (some ⟨b0, o0, none⟩) n0 c0, .slice (some ⟨b0s, o0s, none⟩) n0 c0s] [.slice (some ⟨b1, o1, none⟩) n1 c1, .slice (some ⟨b1s, o1s, none⟩) n1 c1s] [.slice none 0 0, .slice none 0 0] 38 38 38
  obtain ⟨W0, hW⟩ : ∃ W, (((w.alloc (.cells #[.slice (some ⟨b0, o0, none⟩) n0 c0, .slice (some ⟨b0s, o0s, none⟩) n0 c0s] 38)).alloc (.cells #[.slice (some ⟨b1, o1, none⟩) n1 c1, .slice (some ⟨b1s, o1s, none⟩) n1 c1s] 38)).alloc (.cells #[.slice none 0 0, .slice none 0 0] 38)) = W := ⟨_, rfl⟩
  rw [hW] at f0 f1 f2 hW0 hsz ⊢
  have HSZ := Lib.hid hsz
  clear hW hsz
  obtain ⟨cA0, cB0, -, -⟩ := two_cells f0
  obtain ⟨cA1, cB1, -, -⟩ := two_cells f1
  obtain ⟨cA2, cB2, -, -⟩ := two_cells f2
  replace t0 := t0.below hW0; replace t0s := t0s.below hW0
  replace t1 := t1.below hW0; replace t1s := t1s.below hW0
  rw [HL0.out, HL1.out] at hsm
  obtain ⟨N, hN⟩ : ∃ N, N = n0 + n1 := ⟨_, rfl⟩
  have hNI : (n0 : Int) + n1 = N := by omega
  obtain ⟨gA, hgA⟩ : ∃ g : Int → Int → Int, g = unG A C fun _ y => y := ⟨_, rfl⟩
  obtain ⟨gB, hgB⟩ : ∃ g : Int → Int → Int, g = unG B D fun x _ => x := ⟨_, rfl⟩
  have hRA : unTA A C = tabOf N gA := by unfold unTA; rw [HL0.out, HL1.out, hgA, hN]
  have hRB : unTB B D = tabOf N gB := by unfold unTB; rw [HL0s.out, HL1s.out, hgB, hN]
  have HRA := Lib.hid hRA; have HRB := Lib.hid hRB
  have HGA : Hid (∀ x y : Int, gA x y = if x < n0 ∧ y < n0 then val2 A x y else if (n0 : Int) ≤ x ∧ (n0 : Int) ≤ y then n0 + val2 C (x - n0) (y - n0) else y) := Lib.hid (by rw [hgA]; intro x y; unfold unG; rw [HL0.out])
  have HGB : Hid (∀ x y : Int, gB x y = if x < n0 ∧ y < n0 then val2 B x y else if (n0 : Int) ≤ x ∧ (n0 : Int) ≤ y then n0 + val2 D (x - n0) (y - n0) else x) := Lib.hid (by rw [hgB]; intro x y; unfold unG; rw [HL0s.out])
  have HN := Lib.hid hN
  rw [← hN] at hsm
  clear hgA hgB hRA hRB hN hA hC hp hq
  go_quiet (fail)
  rename_i nq
  have hdn : Below W0.heap.size W0 (W0.drewN nq) := below_drewN (Below.refl _ _) nq
  replace f0 := f0.under hdn; replace f1 := f1.under hdn; replace f2 := f2.under hdn; replace hW0 := bb hW0 hdn
  have HT0 := Lib.hid (t0.below hdn); have HT0s := Lib.hid (t0s.below hdn); have HT1 := Lib.hid (t1.below hdn); have HT1s := Lib.hid (t1s.below hdn)
  have HSV : Hid ((W0.drewN nq).heap.size = w.heap.size + 1 + 1 + 1) := HSZ.out
  generalize W0.drewN nq = V at f0 f1 f2 hW0 HT0 HT0s HT1 HT1s HSV ⊢
  have HF2lt := Lib.hid f2.lt
  have hV := hW0
  clear t0 t0s t1 t1s cA0 cB0 cA1 cB1 cA2 cB2 hdn HSZ hW0
  go_wp2
  have hB1 : Below V.heap.size V (V.alloc (.cells #[.slice none 0 0, .slice none 0 0] 38)) := (Below.refl _ _).alloc (Nat.le_refl _) _
  have hout := Blk.new V [.slice none 0 0, .slice none 0 0] 38
  have hs1 : (V.alloc (.cells #[.slice none 0 0, .slice none 0 0] 38)).heap.size = V.heap.size + 1 := by simp
  have hqq : V.heap.size = V.heap.size := rfl
  change Blk (V.alloc (.cells #[.slice none 0 0, .slice none 0 0] 38)) _ _ _ at hout
  obtain ⟨W1, hW1⟩ : ∃ W, V.alloc (.cells #[.slice none 0 0, .slice none 0 0] 38) = W := ⟨_, rfl⟩
  rw [hW1] at hB1 hout hs1 ⊢
  clear hW1
  have hout' : Blk W1 (V.heap.size) 38 [.slice none 0 0, .slice none 0 0] := by rw [← hqq]; exact hout
  have HOut := Lib.hid (Out2.start (lo := V.heap.size + 1) (q := V.heap.size) (w := W1) (by omega) (by omega) hout')
  have HB1 := Lib.hid hB1; have HWW := Lib.hid hV; have HS1 := Lib.hid hs1
  have HQLE : Hid (V.heap.size ≤ V.heap.size) := Lib.hid (by omega)
  clear hB1 hout hout' hs1 hV hqq
  go_loopw [8, 9, 10, 11] (fun a _ _ _ wr => ∃ (k : Nat) (va vb : Value), k ≤ N ∧ a = .int .i64 k ∧ Hid (Below V.heap.size V wr) ∧ Hid (Out2 (V.heap.size + 1) wr.heap.size (V.heap.size) wr va vb ((tabOf N gA).take k) ((tabOf N gB).take k))) (fun a _ _ _ _ => N - (intOf a).toNat)
  case atStart => exact ⟨0, _, _, Nat.zero_le _, rfl, HB1, HOut⟩
  case round =>
    clear HB1 HOut
    obtain ⟨k, va, vb, hk, rfl, HB, HO⟩ := hrel
    obtain ⟨wo, rfl⟩ : ∃ wo : World, wo = wr := ⟨_, rfl⟩
    by_cases hlt : k < N
    · go_wp2
      go_loopw [9, 10, 11] (fun s t y wi => ∃ (j : Nat) (sa : Option Addr) (sc : Nat) (ta : Option Addr) (tc : Nat), j ≤ N ∧ y = .int .i64 j ∧ s = .slice sa j sc ∧ t = .slice ta j tc ∧ Hid (Below wo.heap.size wo wi) ∧ Hid (Two wo.heap.size wi (.slice sa j sc) (.slice ta j tc) ((rowOf N (gA k)).take j) ((rowOf N (gB k)).take j))) (fun _ _ y _ => N - (intOf y).toNat)
      case atStart => exact ⟨0, _, _, _, _, Nat.zero_le _, rfl, rfl, rfl, Lib.hid (((Below.refl wo.heap.size wo).alloc (Nat.le_refl _) _).alloc (by simp) _), Lib.hid (Two.made0 wo)⟩
      case round =>
        obtain ⟨j, sa, sc, ta, tc, hj, rfl, rfl, rfl, Hb, HTw⟩ := hrel
        obtain ⟨wi, rfl⟩ : ∃ wi : World, wi = wr := ⟨_, rfl⟩
        by_cases hlj : j < N
        · have hB2 := bb HB.out Hb.out
          have hkN : (k : Int) < N := by omega
          have hjN : (j : Int) < N := by omega
          have hNe := HN.out
          by_cases h1 : k < n0 ∧ j < n0
          · have i1 : (k : Int) < n0 := by omega
            have i2 : (j : Int) < n0 := by omega
            obtain ⟨x, hx⟩ : ∃ x : Int, x = k := ⟨_, rfl⟩
            obtain ⟨y, hy⟩ : ∃ x : Int, x = j := ⟨_, rfl⟩
            have d1 : 0 ≤ x := by omega
            have d2 : x < n0 := by omega
            have d3 : 0 ≤ y := by omega
            have d4 : y < n0 := by omega
            have HEA : Hid (gA k j = val2 A k j) := Lib.hid (by rw [HGA.out, if_pos ⟨i1, i2⟩])
            have HEB : Hid (gB k j = val2 B k j) := Lib.hid (by rw [HGB.out, if_pos ⟨i1, i2⟩])
            subst hx hy
            have d5 : k < n0 := h1.1
            have d6 : j < n0 := h1.2
            clear h1 hNe
            have HSA : Hid (∀ w' : World, Below V.heap.size V w' → w'.cell? ⟨w.heap.size, 0, none⟩ = some (.slice (some ⟨b0, o0, none⟩) n0 c0) ∧ w'.cell? ⟨b0, o0 + k, none⟩ = some (.slice (some ⟨rb0 k, ro0 k, none⟩) n0 (rc0 k)) ∧ w'.cell? ⟨rb0 k, ro0 k + j, none⟩ = some (.int .i64 (val2 A k j))) := Lib.hid (by
              intro w' hb
              have T0 := HT0.out.below hb
              exact ⟨(two_cells (f0.under hb)).1, T0.row _ d5, T0.val _ _ d5 d6⟩)
            have HSB : Hid (∀ w' : World, Below V.heap.size V w' → w'.cell? ⟨w.heap.size, 1, none⟩ = some (.slice (some ⟨b0s, o0s, none⟩) n0 c0s) ∧ w'.cell? ⟨b0s, o0s + k, none⟩ = some (.slice (some ⟨rb0s k, ro0s k, none⟩) n0 (rc0s k)) ∧ w'.cell? ⟨rb0s k, ro0s k + j, none⟩ = some (.int .i64 (val2 B k j))) := Lib.hid (by
              intro w' hb
              have T0 := HT0s.out.below hb
              exact ⟨(two_cells (f0.under hb)).2.1, T0.row _ d5, T0.val _ _ d5 d6⟩)
            obtain ⟨q1, q2, q3⟩ := HSA.out wi hB2
            clear hB2
            have HX1 := Lib.hid (HTw.out.under (Below.refl wi.heap.size wi))
            have HZ1 := Lib.hid (bb Hb.out (Below.refl wi.heap.size wi))
            have hl1 : ((rowOf N (gA k)).take j).length = j := by simp; omega
            have hl2 : ((rowOf N (gB k)).take j).length = j := by simp; omega
            have HL1a := Lib.hid hl1; have HL2a := Lib.hid hl2
            have HN1a : Hid (((rowOf N (gA k)).take j).length ≤ 1099511627776) := by show _ ≤ _; rw [hl1]; omega
            have HN2a : Hid (((rowOf N (gB k)).take j).length ≤ 1099511627776) := by show _ ≤ _; rw [hl2]; omega
            have HS1a : Hid (wo.heap.size ≤ (wi).heap.size) := Lib.hid HZ1.out.size
            clear hl1 hl2
            go_wp2_with (at_builtin; go_loud (first | (refine wpList_app_int2 wo.heap.size (wi) _ ((rowOf N (gA k)).take j) _ _ _ wi.heap.size rfl rfl rfl rfl HX1.out.a rfl HN1a.out HS1a.out ?_; intro g c1 w1 hown1 hk1 hg1; rw [HL1a.out] at hown1; rw [HL1a.out]; have HT1 := Lib.hid (HX1.out.app1 hown1 hk1 hg1); have HZ2 := Lib.hid (HX1.out.a.frame HZ1.out (Nat.le_refl _) HS1a.out hk1); clear hown1 hk1 hg1; have hB3 := bb HB.out HZ2.out; clear q1 q2 q3; obtain ⟨q1, q2, q3⟩ := HSB.out w1 hB3; have HX2 := HT1; have HZ3 := HZ2; have HS2a : Hid (wo.heap.size ≤ w1.heap.size) := Lib.hid HZ3.out.size; clear hB3) | (refine wpList_app_int2 wo.heap.size w1 _ ((rowOf N (gB k)).take j) _ _ _ w1.heap.size rfl rfl rfl rfl HX2.out.b rfl HN2a.out HS2a.out ?_; intro g2 c2 w4 hown4 hk4 hg4; rw [HL2a.out] at hown4; rw [HL2a.out]; have HT2 := Lib.hid (HX2.out.app2 hown4 hk4 hg4); have HZ4 := Lib.hid (HX2.out.b.frame HZ3.out (Nat.le_refl _) HS2a.out hk4); clear hown4 hk4 hg4)))
            go_roundw
            case rel =>
              refine ⟨j + 1, some ⟨g, 0, none⟩, c1, some ⟨g2, 0, none⟩, c2, by omega, by go_num, rfl, rfl, HZ4, ?_⟩
              rw [take_snoc (rowOf N (gA k)) _ (by simpa using hlj), take_snoc (rowOf N (gB k)) _ (by simpa using hlj), nth_rowOf _ _ _ hlj, nth_rowOf _ _ _ hlj, HEA.out, HEB.out]
              exact HT2
            case measure => simp [intOf]; omega
          by_cases h2 : n0 ≤ k ∧ n0 ≤ j
          · have i1 : (n0 : Int) ≤ k := by omega
            have i2 : (n0 : Int) ≤ j := by omega
            have i3 : ¬ ((k : Int) < n0) := by omega
            have i4 : ¬ ((k : Int) < n0 ∧ (j : Int) < n0) := by omega
            obtain ⟨x, hx⟩ : ∃ x : Int, x = (k : Int) - n0 := ⟨_, rfl⟩
            obtain ⟨y, hy⟩ : ∃ x : Int, x = (j : Int) - n0 := ⟨_, rfl⟩
            have d1 : 0 ≤ x := by omega
            have d2 : x < n1 := by omega
            have d3 : 0 ≤ y := by omega
            have d4 : y < n1 := by omega
            have gC := HT1.out.rng _ _ d1 d2 d3 d4; have gD := HT1s.out.rng _ _ d1 d2 d3 d4
            obtain ⟨P, hP⟩ : ∃ P, P = val2 C x y := ⟨_, rfl⟩
            obtain ⟨Q, hQ⟩ : ∃ P, P = val2 D x y := ⟨_, rfl⟩
            have u1 : IntKind.i64.wrap ((k : Int) - n0) = x := by rw [IntKind.wrap_i64]; omega
            have u2 : IntKind.i64.wrap ((j : Int) - n0) = y := by rw [IntKind.wrap_i64]; omega
            have u3 : IntKind.i64.wrap (val2 C x y + n0) = val2 C x y + n0 := by rw [IntKind.wrap_i64]; omega
            have u4 : IntKind.i64.wrap (val2 D x y + n0) = val2 D x y + n0 := by rw [IntKind.wrap_i64]; omega
            have e1 : (k : Int) - n0 = x := hx.symm
            have e2 : (j : Int) - n0 = y := hy.symm
            have HEA : Hid (gA k j = val2 C x y + n0) := Lib.hid (by rw [HGA.out, if_neg i4, if_pos ⟨i1, i2⟩, e1, e2, Int.add_comm])
            have HEB : Hid (gB k j = val2 D x y + n0) := Lib.hid (by rw [HGB.out, if_neg i4, if_pos ⟨i1, i2⟩, e1, e2, Int.add_comm])
            clear h1 h2 hNe i4 hP hQ hx hy
            have HSA : Hid (∀ w' : World, Below V.heap.size V w' → w'.cell? ⟨w.heap.size + 1, 0, none⟩ = some (.slice (some ⟨b1, o1, none⟩) n1 c1) ∧ w'.cell? ⟨b1, o1 + x.toNat, none⟩ = some (.slice (some ⟨rb1 x.toNat, ro1 x.toNat, none⟩) n1 (rc1 x.toNat)) ∧ w'.cell? ⟨rb1 x.toNat, ro1 x.toNat + y.toNat, none⟩ = some (.int .i64 (val2 C x y))) := Lib.hid (by
              intro w' hb
              have T0 := HT1.out.below hb
              exact ⟨(two_cells (f1.under hb)).1, T0.rowi _ d1 d2, T0.vali _ _ d1 d2 d3 d4⟩)
            have HSB : Hid (∀ w' : World, Below V.heap.size V w' → w'.cell? ⟨w.heap.size + 1, 1, none⟩ = some (.slice (some ⟨b1s, o1s, none⟩) n1 c1s) ∧ w'.cell? ⟨b1s, o1s + x.toNat, none⟩ = some (.slice (some ⟨rb1s x.toNat, ro1s x.toNat, none⟩) n1 (rc1s x.toNat)) ∧ w'.cell? ⟨rb1s x.toNat, ro1s x.toNat + y.toNat, none⟩ = some (.int .i64 (val2 D x y))) := Lib.hid (by
              intro w' hb
              have T0 := HT1s.out.below hb
              exact ⟨(two_cells (f1.under hb)).2.1, T0.rowi _ d1 d2, T0.vali _ _ d1 d2 d3 d4⟩)
            obtain ⟨q1, q2, q3⟩ := HSA.out wi hB2
            clear hB2
            have HX1 := Lib.hid (HTw.out.under (Below.refl wi.heap.size wi))
            have HZ1 := Lib.hid (bb Hb.out (Below.refl wi.heap.size wi))
            have hl1 : ((rowOf N (gA k)).take j).length = j := by simp; omega
            have hl2 : ((rowOf N (gB k)).take j).length = j := by simp; omega
            have HL1a := Lib.hid hl1; have HL2a := Lib.hid hl2
            have HN1a : Hid (((rowOf N (gA k)).take j).length ≤ 1099511627776) := by show _ ≤ _; rw [hl1]; omega
            have HN2a : Hid (((rowOf N (gB k)).take j).length ≤ 1099511627776) := by show _ ≤ _; rw [hl2]; omega
            have HS1a : Hid (wo.heap.size ≤ (wi).heap.size) := Lib.hid HZ1.out.size
            clear hl1 hl2
            go_wp2_with (at_builtin; go_loud (first | (refine wpList_app_int2 wo.heap.size (wi) _ ((rowOf N (gA k)).take j) _ _ _ wi.heap.size rfl rfl rfl rfl HX1.out.a rfl HN1a.out HS1a.out ?_; intro g c1 w1 hown1 hk1 hg1; rw [HL1a.out] at hown1; rw [HL1a.out]; have HT1 := Lib.hid (HX1.out.app1 hown1 hk1 hg1); have HZ2 := Lib.hid (HX1.out.a.frame HZ1.out (Nat.le_refl _) HS1a.out hk1); clear hown1 hk1 hg1; have hB3 := bb HB.out HZ2.out; clear q1 q2 q3; obtain ⟨q1, q2, q3⟩ := HSB.out w1 hB3; have HX2 := HT1; have HZ3 := HZ2; have HS2a : Hid (wo.heap.size ≤ w1.heap.size) := Lib.hid HZ3.out.size; clear hB3) | (refine wpList_app_int2 wo.heap.size w1 _ ((rowOf N (gB k)).take j) _ _ _ w1.heap.size rfl rfl rfl rfl HX2.out.b rfl HN2a.out HS2a.out ?_; intro g2 c2 w4 hown4 hk4 hg4; rw [HL2a.out] at hown4; rw [HL2a.out]; have HT2 := Lib.hid (HX2.out.app2 hown4 hk4 hg4); have HZ4 := Lib.hid (HX2.out.b.frame HZ3.out (Nat.le_refl _) HS2a.out hk4); clear hown4 hk4 hg4)))
            go_roundw
            case rel =>
              refine ⟨j + 1, some ⟨g, 0, none⟩, c1, some ⟨g2, 0, none⟩, c2, by omega, by go_num, rfl, rfl, HZ4, ?_⟩
              rw [take_snoc (rowOf N (gA k)) _ (by simpa using hlj), take_snoc (rowOf N (gB k)) _ (by simpa using hlj), nth_rowOf _ _ _ hlj, nth_rowOf _ _ _ hlj, HEA.out, HEB.out]
              exact HT2
            case measure => simp [intOf]; omega
          · have i4 : ¬ ((k : Int) < n0 ∧ (j : Int) < n0) := by omega
            have i5 : ¬ ((n0 : Int) ≤ k ∧ (n0 : Int) ≤ j) := by omega
            have HEA : Hid (gA k j = j) := Lib.hid (by rw [HGA.out, if_neg i4, if_neg i5])
            have HEB : Hid (gB k j = k) := Lib.hid (by rw [HGB.out, if_neg i4, if_neg i5])
            clear hB2
            by_cases h3 : k < n0
            · have i1 : (k : Int) < n0 := by omega
              have i2 : ¬ ((j : Int) < n0) := by omega
              have i3 : ¬ ((n0 : Int) ≤ k) := by omega
              clear h1 h2 h3 i4 i5 hNe
              have HX1 := Lib.hid (HTw.out.under (Below.refl wi.heap.size wi))
              have HZ1 := Lib.hid (bb Hb.out (Below.refl wi.heap.size wi))
              have hl1 : ((rowOf N (gA k)).take j).length = j := by simp; omega
              have hl2 : ((rowOf N (gB k)).take j).length = j := by simp; omega
              have HL1a := Lib.hid hl1; have HL2a := Lib.hid hl2
              have HN1a : Hid (((rowOf N (gA k)).take j).length ≤ 1099511627776) := by show _ ≤ _; rw [hl1]; omega
              have HN2a : Hid (((rowOf N (gB k)).take j).length ≤ 1099511627776) := by show _ ≤ _; rw [hl2]; omega
              have HS1a : Hid (wo.heap.size ≤ (wi).heap.size) := Lib.hid HZ1.out.size
              clear hl1 hl2
              go_wp2_with (at_builtin; go_loud (first | (refine wpList_app_int2 wo.heap.size (wi) _ ((rowOf N (gA k)).take j) _ _ _ wi.heap.size rfl rfl rfl rfl HX1.out.a rfl HN1a.out HS1a.out ?_; intro g c1 w1 hown1 hk1 hg1; rw [HL1a.out] at hown1; rw [HL1a.out]; have HT1 := Lib.hid (HX1.out.app1 hown1 hk1 hg1); have HZ2 := Lib.hid (HX1.out.a.frame HZ1.out (Nat.le_refl _) HS1a.out hk1); clear hown1 hk1 hg1; have hB3 := bb HB.out HZ2.out; have HX2 := HT1; have HZ3 := HZ2; have HS2a : Hid (wo.heap.size ≤ w1.heap.size) := Lib.hid HZ3.out.size; clear hB3) | (refine wpList_app_int2 wo.heap.size w1 _ ((rowOf N (gB k)).take j) _ _ _ w1.heap.size rfl rfl rfl rfl HX2.out.b rfl HN2a.out HS2a.out ?_; intro g2 c2 w4 hown4 hk4 hg4; rw [HL2a.out] at hown4; rw [HL2a.out]; have HT2 := Lib.hid (HX2.out.app2 hown4 hk4 hg4); have HZ4 := Lib.hid (HX2.out.b.frame HZ3.out (Nat.le_refl _) HS2a.out hk4); clear hown4 hk4 hg4)))
              go_roundw
              case rel =>
                refine ⟨j + 1, some ⟨g, 0, none⟩, c1, some ⟨g2, 0, none⟩, c2, by omega, by go_num, rfl, rfl, HZ4, ?_⟩
                rw [take_snoc (rowOf N (gA k)) _ (by simpa using hlj), take_snoc (rowOf N (gB k)) _ (by simpa using hlj), nth_rowOf _ _ _ hlj, nth_rowOf _ _ _ hlj, HEA.out, HEB.out]
                exact HT2
              case measure => simp [intOf]; omega
            · have i1 : ¬ ((k : Int) < n0) := by omega
              have i2 : ¬ ((n0 : Int) ≤ j) := by omega
              have i3 : (n0 : Int) ≤ k := by omega
              clear h1 h2 h3 i4 i5 hNe
              have HX1 := Lib.hid (HTw.out.under (Below.refl wi.heap.size wi))
              have HZ1 := Lib.hid (bb Hb.out (Below.refl wi.heap.size wi))
              have hl1 : ((rowOf N (gA k)).take j).length = j := by simp; omega
              have hl2 : ((rowOf N (gB k)).take j).length = j := by simp; omega
              have HL1a := Lib.hid hl1; have HL2a := Lib.hid hl2
              have HN1a : Hid (((rowOf N (gA k)).take j).length ≤ 1099511627776) := by show _ ≤ _; rw [hl1]; omega
              have HN2a : Hid (((rowOf N (gB k)).take j).length ≤ 1099511627776) := by show _ ≤ _; rw [hl2]; omega
              have HS1a : Hid (wo.heap.size ≤ (wi).heap.size) := Lib.hid HZ1.out.size
              clear hl1 hl2
              go_wp2_with (at_builtin; go_loud (first | (refine wpList_app_int2 wo.heap.size (wi) _ ((rowOf N (gA k)).take j) _ _ _ wi.heap.size rfl rfl rfl rfl HX1.out.a rfl HN1a.out HS1a.out ?_; intro g c1 w1 hown1 hk1 hg1; rw [HL1a.out] at hown1; rw [HL1a.out]; have HT1 := Lib.hid (HX1.out.app1 hown1 hk1 hg1); have HZ2 := Lib.hid (HX1.out.a.frame HZ1.out (Nat.le_refl _) HS1a.out hk1); clear hown1 hk1 hg1; have hB3 := bb HB.out HZ2.out; have HX2 := HT1; have HZ3 := HZ2; have HS2a : Hid (wo.heap.size ≤ w1.heap.size) := Lib.hid HZ3.out.size; clear hB3) | (refine wpList_app_int2 wo.heap.size w1 _ ((rowOf N (gB k)).take j) _ _ _ w1.heap.size rfl rfl rfl rfl HX2.out.b rfl HN2a.out HS2a.out ?_; intro g2 c2 w4 hown4 hk4 hg4; rw [HL2a.out] at hown4; rw [HL2a.out]; have HT2 := Lib.hid (HX2.out.app2 hown4 hk4 hg4); have HZ4 := Lib.hid (HX2.out.b.frame HZ3.out (Nat.le_refl _) HS2a.out hk4); clear hown4 hk4 hg4)))
              go_roundw
              case rel =>
                refine ⟨j + 1, some ⟨g, 0, none⟩, c1, some ⟨g2, 0, none⟩, c2, by omega, by go_num, rfl, rfl, HZ4, ?_⟩
                rw [take_snoc (rowOf N (gA k)) _ (by simpa using hlj), take_snoc (rowOf N (gB k)) _ (by simpa using hlj), nth_rowOf _ _ _ hlj, nth_rowOf _ _ _ hlj, HEA.out, HEB.out]
                exact HT2
              case measure => simp [intOf]; omega
        · obtain rfl : N = j := by omega
          have hTw := HTw.out
          rw [List.take_of_length_le (by simp), List.take_of_length_le (by simp)] at hTw
          have HU := Lib.hid hTw; clear hTw
          have HO2 := Lib.hid (HO.out.under Hb.out)
          have HBi := Lib.hid (bb HB.out Hb.out)
          have hla : ((tabOf N gA).take k).length = k := by simp; omega
          have hlb : ((tabOf N gB).take k).length = k := by simp; omega
          have HNA : Hid (((tabOf N gA).take k).length ≤ 1099511627776) := by show _ ≤ _; rw [hla]; omega
          have HNB : Hid (((tabOf N gB).take k).length ≤ 1099511627776) := by show _ ≤ _; rw [hlb]; omega
          have HLA := Lib.hid hla; have HLB := Lib.hid hlb; clear hla hlb
          have HLO : Hid ((V.heap.size + 1) ≤ wi.heap.size) := Nat.le_trans HO2.out.lm HO2.out.mw
          obtain ⟨cA, cB, cF, cG⟩ := two_cells HO2.out.blk
          go_wp2_with (at_builtin; go_loud (first
            | (refine wpList_app_row2 (V.heap.size + 1) wo.heap.size wi va ((tabOf N gA).take k) _ (rowOf N (gA k)) _ _ rfl rfl rfl HO2.out.a HU.out.a rfl HNA.out HO2.out.lm HLO.out ?_; intro g c1 w1 hown1 hk1 hg1; rw [HLA.out] at hown1; rw [HLA.out]; have hq1 := HO2.out.blkq hk1; obtain ⟨dA, dB, dF, dG⟩ := two_cells hq1; have hh := HO2.out.app1 hown1 hk1 hg1; have hv := HO2.out.row1 HU.out.b hk1 (.slice (some ⟨g, 0, none⟩) (k + 1) c1); have hf := HO2.out.frame1 HBi.out HQLE.out hk1 (.slice (some ⟨g, 0, none⟩) (k + 1) c1); obtain ⟨eA, eB, eF, eG⟩ := two_cells hh.blk; have HH := Lib.hid hh; have HV := Lib.hid hv; have HF1 := Lib.hid hf; clear hown1 hk1 hg1 hq1 hh hv hf)
            | (refine wpList_app_row2s (V.heap.size + 1) wo.heap.size (w1.setCell ⟨(V.heap.size), 0, none⟩ (.slice (some ⟨g, 0, none⟩) (k + 1) c1)) vb ((tabOf N gB).take k) _ (rowOf N (gB k)) _ _ w1.heap.size (by simp [World.setCell]) rfl rfl rfl HH.out.b HV.out rfl HNB.out HH.out.lm (Nat.le_trans HH.out.lm HH.out.mw) ?_; intro g2 c2 w4 hown4 hk4 hg4; rw [HLB.out] at hown4; rw [HLB.out]; have hq4 := HH.out.blkq hk4; clear dA dB dF dG eA eB eF eG cA cB cF cG; obtain ⟨dA, dB, dF, dG⟩ := two_cells hq4; have HH2 := Lib.hid (HH.out.app2 hown4 hk4 hg4); have HF2 := Lib.hid (HH.out.frame2 HF1.out HQLE.out hk4 (.slice (some ⟨g2, 0, none⟩) (k + 1) c2)); clear hown4 hk4 hg4 hq4)))
          go_roundw
          case rel =>
            refine ⟨k + 1, .slice (some ⟨g, 0, none⟩) (k + 1) c1, .slice (some ⟨g2, 0, none⟩) (k + 1) c2, by omega, by go_num, HF2, ?_⟩
            rw [take_snoc_row (tabOf N gA) _ (by simpa using hlt), take_snoc_row (tabOf N gB) _ (by simpa using hlt), row_tabOf _ _ _ hlt, row_tabOf _ _ _ hlt]
            exact HH2
          case measure => simp [intOf]; omega
    · obtain rfl : N = k := by omega
      have hO := HO.out
      rw [List.take_of_length_le (by simp), List.take_of_length_le (by simp)] at hO
      obtain ⟨ra1, rc1, hva, _⟩ := hO.a.out.rows.shape
      obtain ⟨ra2, rc2, hvb, _⟩ := hO.b.out.rows.shape
      rw [tabOf_length] at hva hvb
      subst hva hvb
      obtain ⟨y0, y1, y2, y3⟩ := two_cells hO.blk
      obtain ⟨z0, z1, z2, z3⟩ := two_cells (f2.under HB.out)
      have HO' := Lib.hid hO; clear hO
      have hlt2 := HF2lt.out
      go_wp2
      refine bodyPost_ret (v := .agg #[.slice ra1 N rc1, .slice ra2 N rc2]) (by simp [results, Tryd.results80, go_sem, z0, z1]) rfl ⟨_, _, rfl, ⟨?_, ?_⟩, ((bb HWW.out HB.out).setCell (p := ⟨w.heap.size + 1 + 1, 0, none⟩) (by show _ ≤ w.heap.size + 1 + 1; omega) _).setCell (p := ⟨w.heap.size + 1 + 1, 1, none⟩) (by show _ ≤ w.heap.size + 1 + 1; omega) _⟩
      · try rw [HRA.out]
        exact OwnRows.mono (B := (V.heap.size + 1)) ((HO'.out.a.out.keep (keep1 _ (w.heap.size + 1 + 1) 0 _) (fun b h1 h2 h3 => by have h3 : b = w.heap.size + 1 + 1 := h3; omega)).keep (keep1 _ (w.heap.size + 1 + 1) 1 _) (fun b h1 h2 h3 => by have h3 : b = w.heap.size + 1 + 1 := h3; omega)) (by have := HSV.out; omega)
      · try rw [HRB.out]
        exact OwnRows.mono (B := (V.heap.size + 1)) ((HO'.out.b.out.keep (keep1 _ (w.heap.size + 1 + 1) 0 _) (fun b h1 h2 h3 => by have h3 : b = w.heap.size + 1 + 1 := h3; omega)).keep (keep1 _ (w.heap.size + 1 + 1) 1 _) (fun b h1 h2 h3 => by have h3 : b = w.heap.size + 1 + 1 := h3; omega)) (by have := HSV.out; omega)
end Go.Proofs.YtnbhghgkjcfcmaaDoor

namespace Go.Proofs.YtnbhghgkjcfcmaaDoor
set_option linter.unusedVariables false
set_option linter.unusedSimpArgs false
open Go.RowKit


set_option maxRecDepth 100000 in
set_option maxHeartbeats 800000 in
theorem c_l02Rename (v0 u0 v1 : Value) (A B : List (List Int)) (p : List Int) (w : World) (hA : Sol w v0 u0 A B) (hp : Ints w v1 p) (hok1 : RenOk A p) (hok2 : RenOk B p) :
    Calls Tryd.prog 67 #[.agg #[v0, u0], v1] w (RSol w (renL A p) (renL B p)) := by
  obtain ⟨a0, c0, rfl, _, _⟩ := hA.1.shape
  obtain ⟨a0s, c0s, rfl, _, _⟩ := hA.2.shape
  obtain ⟨a1, c1, rfl, _, _⟩ := hp.shape
  have HK1 := Lib.hid hok1; have HK2 := Lib.hid hok2; clear hok1 hok2
  go_enter Tryd.func67, Tryd.ntmps67
  go_wp2_with fail
  obtain ⟨f0, f1, hW0, hsz⟩ := boxes2 w [.slice a0 A.length c0, .slice a0s B.length c0s] [.slice none 0 0, .slice none 0 0] 38 38
  obtain ⟨W0, hW⟩ : ∃ W, ((w.alloc (.cells #[.slice a0 A.length c0, .slice a0s B.length c0s] 38)).alloc (.cells #[.slice none 0 0, .slice none 0 0] 38)) = W := ⟨_, rfl⟩
  rw [hW] at f0 f1 hW0 hsz ⊢
  clear hW hsz
  have HRA := Lib.hid ((hA.1.below hW0).below (Below.refl _ _).drew); have HRB := Lib.hid ((hA.2.below hW0).below (Below.refl _ _).drew); have HPp := Lib.hid ((hp.below hW0).below (Below.refl _ _).drew)
  have HFc := Lib.hid f0.drew; have HGc := Lib.hid f1.drew; have HBc := Lib.hid hW0.drew; have HLt := Lib.hid f1.lt
  clear hA hp hW0 f0 f1
  have zz : W0.drew.cell? ⟨w.heap.size, 0, none⟩ = some (.slice a0 A.length c0) ∧ W0.drew.cell? ⟨w.heap.size, 1, none⟩ = some (.slice a0s B.length c0s) := ⟨(two_cells HFc.out).1, (two_cells HFc.out).2.1⟩
  go_region_held3 (fun w' => w'.cell? ⟨w.heap.size, 0, none⟩ = some (.slice a0 A.length c0) ∧ w'.cell? ⟨w.heap.size, 1, none⟩ = some (.slice a0s B.length c0s))
    (first | go_keep | exact ⟨(two_cells HFc.out).1, (two_cells HFc.out).2.1⟩)
    ((first | (go_at_call 83; (with_reducible refine (c_l01Rename _ _ A p _ HRA.out HPp.out HK1.out).mono ?_); rintro e w1 ⟨r1, rfl, ho1, hb1⟩; obtain ⟨ra1, rc1, hv1, _⟩ := ho1.rows.shape; rw [renL_length] at hv1; subst hv1; replace HFc := Lib.hid (HFc.out.under hb1); replace HGc := Lib.hid (HGc.out.under hb1); replace HBc := Lib.hid (bb HBc.out hb1); replace HRB := Lib.hid (HRB.out.below hb1); replace HPp := Lib.hid (HPp.out.below hb1); have HO1 := Lib.hid ho1; have HS1 := Lib.hid hb1.size; clear ho1 hb1) | (go_at_call 83; (with_reducible refine (c_l01Rename _ _ B p _ HRB.out HPp.out HK2.out).mono ?_); rintro e w2 ⟨r2, rfl, ho2, hb2⟩; obtain ⟨ra2, rc2, hv2, _⟩ := ho2.rows.shape; rw [renL_length] at hv2; subst hv2; replace HFc := Lib.hid (HFc.out.under hb2); replace HGc := Lib.hid (HGc.out.under hb2); have HB2 := Lib.hid (bb HBc.out hb2); have HO2 := Lib.hid ho2; have HBx := Lib.hid hb2; obtain ⟨z0, z1, z2, z3⟩ := two_cells HGc.out; clear ho2 hb2)))
  obtain ⟨hA, hB⟩ := stored (q := w.heap.size + 1) HB2.out (OwnSol.mk HO1.out HBx.out HO2.out HS1.out) (by omega) HLt.out
  have HA := Lib.hid hA; have HB := Lib.hid hB
  clear hA hB
  go_wp2
  exact bodyPost_ret (v := .agg #[.slice ra1 A.length rc1, .slice ra2 B.length rc2]) (by simp [results, Tryd.results67, go_sem, z0, z1]) rfl ⟨.slice ra1 A.length rc1, .slice ra2 B.length rc2, rfl, HA.out, HB.out⟩
end Go.Proofs.YtnbhghgkjcfcmaaDoor

namespace Go.Proofs.YtnbhghgkjcfcmaaDoor
set_option linter.unusedVariables false
set_option linter.unusedSimpArgs false
open Go.RowKit

theorem eql_nilC (W : World) (a : Option Addr) (n c : Nat) : (binOp .eql 32 (.slice a n c) (.slice none 0 0)).run Tryd.prog W = .ok (.bool a.isNone) W := Lib.run_eql_slice_nil W _ _ a n c 0 0 Tryd.underlying32

end Go.Proofs.YtnbhghgkjcfcmaaDoor

namespace Go.Proofs.YtnbhghgkjcfcmaaDoor
set_option linter.unusedVariables false
set_option linter.unusedSimpArgs false
open Go.RowKit


set_option maxHeartbeats 1600000 in
theorem c_l01Own2 (v : Value) (t : List (List Int)) (w : World) (hx : Rows w v t) (hn : t.length ≤ 1048576) (hr : ∀ r ∈ t, r.length ≤ 1048576) :
    Calls Tryd.prog 95 #[v] w (RRows w t) := by
  obtain ⟨a, c, rfl, hc, hm⟩ := hx.shape
  have HR := Lib.hid hr; clear hr
  go_enter Tryd.func95, Tryd.ntmps95
  go_wp2
  go_loopw [3, 4] (fun s i wr => ∃ (k : Nat) (sa : Option Addr) (sc : Nat), k ≤ t.length ∧ i = .int .i64 k ∧ s = .slice sa k sc ∧ Below w.heap.size w wr ∧ OwnRows w.heap.size wr (.slice sa k sc) (t.take k)) (fun _ i _ => t.length - (intOf i).toNat)
  case atStart => exact ⟨0, _, _, Nat.zero_le _, rfl, rfl, (Below.refl _ _).alloc (Nat.le_refl _) _, OwnRows.made0 w (Nat.le_refl _)⟩
  case round =>
    obtain ⟨k, sa, sc, hk, rfl, rfl, hb, hown⟩ := hrel
    have hlen : (t.take k).length = k := by simp; omega
    by_cases hlt : k < t.length
    · obtain ⟨b, o, ra, rc, rfl, hcell, hu⟩ := (hx.below hb).getS k hlt
      have hrl : (row t k).length ≤ 1048576 := HR.out _ (row_mem (by omega) (by omega))
      have Hb := Lib.hid hb; have Ho := Lib.hid hown; have Hl := Lib.hid hlen; have Hs := Lib.hid hb.size; have HU := Lib.hid hu; clear hb hown hlen hu
      obtain ⟨wo, rfl⟩ : ∃ wo : World, wo = wr := ⟨_, rfl⟩
      go_wp2_with fail
      refine (c_l01Own _ _ _ HU.out hrl).mono ?_; rintro e w1 ⟨r, rfl, hor, hb1⟩
      obtain ⟨qa, qc, hqv, _⟩ := hor.shape
      subst hqv
      have HRr := Lib.hid hor; have HB1 := Lib.hid hb1; clear hor hb1 hcell
      go_wp2_with (at_builtin; refine wpList_app_row w.heap.size wo w1 _ (t.take k) _ (row t k) _ _ rfl rfl rfl Ho.out HB1.out HRr.out rfl (by rw [Hl.out]; omega) Hs.out ?_; intro a' c' w' hown' hkeep; rw [Hl.out]; have Hk := Lib.hid hkeep; have Ho' := Lib.hid hown'; clear hkeep hown')
      go_roundw
      case rel =>
        have h1 := Ho'.out
        rw [Hl.out, ← take_snoc_row _ _ hlt] at h1
        exact ⟨k + 1, a', c', by omega, by go_num, rfl, OwnRows.frame Ho.out (bb Hb.out HB1.out) (Nat.le_refl _) (Nat.le_trans Hs.out HB1.out.size) Hk.out, h1⟩
      case measure => simp [intOf]; omega
    · have Hb := Lib.hid hb; have Ho := Lib.hid hown; clear hb hown hlen
      obtain rfl : k = t.length := by omega
      go_wp2
      go_ret
      exact ⟨_, rfl, by have := Ho.out; rwa [List.take_of_length_le (Nat.le_refl _)] at this, Hb.out⟩

end Go.Proofs.YtnbhghgkjcfcmaaDoor

namespace Go.Proofs.YtnbhghgkjcfcmaaDoor
set_option linter.unusedVariables false
set_option linter.unusedSimpArgs false
open Go.RowKit

def lexS (A B C D : List (List Int)) : Bool := if A = C then lexR B D else lexR A C
def orI (x y : Int) : Int := if x = 0 then y else x
theorem orI_neg {A B C D : List (List Int)} : orI (cmpR A C) (cmpR B D) < 0 ↔ lexS A B C D = true := by
  unfold orI lexS
  by_cases h : A = C
  · rw [if_pos (cmpR_zero.2 h), if_pos h]; exact cmpR_neg
  · rw [if_neg (fun e => h (cmpR_zero.1 e)), if_neg h]; exact cmpR_neg




end Go.Proofs.YtnbhghgkjcfcmaaDoor

namespace Go.Proofs.YtnbhghgkjcfcmaaDoor
set_option linter.unusedVariables false
set_option linter.unusedSimpArgs false
open Go Go.RowKit

variable {F : Fence} {n : Nat} {P : Program}

/-- The iterator's contract: it hands the rows of T, one after the other, in a slice that lies in blocks [size at its start, hi); between two rounds it writes these blocks alone. J hi k: what the caller keeps when k rows have come. -/
def SeqRows (F : Fence) (n : Nat) (P : Program) (g : Nat) (lb : Array Value) (T : List (List Int)) (w : World) : Prop :=
  ∀ (l : Nat) (J Jx : Nat → Nat → World → Prop) (W1 : World), Below w.heap.size w W1 →
    (∀ hi k W W', J hi k W → Keep (fun b => W1.heap.size ≤ b ∧ b < hi) W W' → J hi k W') →
    (∀ hi k W W', Jx hi k W → Keep (fun b => W1.heap.size ≤ b ∧ b < hi) W W' → Jx hi k W') →
    (∀ W', Below W1.heap.size W1 W' → J W'.heap.size 0 W') →
    (∀ hi k u W, J hi k W → W1.heap.size ≤ hi → hi ≤ W.heap.size → k < T.length → Ints W u (row T k) → YieldAt F (n - 1) P l #[u] W fun e W' =>
      (e = .returned (.bool true) ∧ J hi (k + 1) W' ∧ Keep (fun b => b < W1.heap.size ∨ hi ≤ b) W W') ∨ (e = .returned (.bool false) ∧ Jx hi (k + 1) W')) →
    CallsIn F n P g (#[.func (.yield l) #[] #[]] ++ lb) W1 fun e W' => (∃ v, e = .returned v) ∧ ((∃ hi, J hi T.length W') ∨ (∃ hi k, Jx hi k W'))

def rowsPost (S0 : Nat → Prop) (I : Nat → Nat → World → Prop) (Ix : Code → Nat → Nat → World → Prop) (hi k : Nat) (W : World) : Exit → Act → World → Prop
  | .normal, _, W' => Keep (fun b => S0 b ∨ hi ≤ b) W W' ∧ I hi k W'
  | .ret, _, W' => Keep (fun b => S0 b ∨ hi ≤ b) W W' ∧ Ix .ret hi k W'
  | .exit id, _, W' => Keep (fun b => S0 b ∨ hi ≤ b) W W' ∧ Ix (.exit id) hi k W'
  | .goto t, _, W' => Keep (fun b => S0 b ∨ hi ≤ b) W W' ∧ Ix (.goto t) hi k W'
  | .panic _, _, _ => False
  | .outgrown, _, _ => False

theorem keep_putObj (W : World) (l : Nat) (o : Obj) : Keep (fun b => b = l) W (W.putObj l o) :=
  (Keep.of_grown (grownBy_putObj' W l o)).mono fun k _ h => by cases h; rfl

theorem wpIn_rangeFunc_rows {g : Operand} {ps : Array Tmp} {assign body : Code} {Q : Exit → Act → World → Prop} {a : Act} {w : World}
    (hro : F.round = none) (h1 : 1 ≤ n) {gf : Nat} {lb : Array Value} (hg : a.eval g = .func (.func gf) #[] lb) (hFg : F.fn gf) (eg : ∀ args w, (callFunc gf args).run P w = .ok (.enter gf args) w)
    (S0 : Nat → Prop) (hS0 : ∀ b, S0 b → b < w.heap.size) {T : List (List Int)} (hseq : SeqRows F (n - 1) P gf lb T w) (hps : ps.size = 1)
    (I : Nat → Nat → World → Prop) (Ix : Code → Nat → Nat → World → Prop)
    (hI : ∀ hi k W W', I hi k W → Keep (fun b => w.heap.size ≤ b ∧ b < hi) W W' → I hi k W')
    (hIx : ∀ c hi k W W', Ix c hi k W → Keep (fun b => w.heap.size ≤ b ∧ b < hi) W W' → Ix c hi k W')
    (h0 : ∀ W', Below w.heap.size w W' → I W'.heap.size 0 W') (a₁ : Value → Act)
    (hassign : ∀ (l : Nat) (u : Value) (W : World) (K : Act → World → Prop), K (a₁ u) W →
      assign.wpIn (F.inRound l) (n - 1 - 1) P (Exit.then K (fun _ _ _ => False)) { tmps := (ps.zip #[u]).foldl (fun t (p, v) => t.setIfInBounds p v) a.tmps, defers := [] } W)
    (hbody : ∀ (l hi k : Nat) (u : Value) (W : World), I hi k W → w.heap.size ≤ hi → hi ≤ W.heap.size → k < T.length → Ints W u (row T k) → body.wpIn (F.inRound l) (n - 1 - 1) P (rowsPost S0 I Ix hi (k + 1) W) (a₁ u) W)
    (hdone : ∀ (D hi : Nat) (W : World), w.heap.size ≤ D → D < hi → I hi T.length W → W.heap[D]? = some (.deferred (some [])) → Q .normal { a with defers := { target := .collected D, args := #[] } :: a.defers } W)
    (hstop : ∀ (D hi k : Nat) (c : Code) (W : World), w.heap.size ≤ D → D < hi → Ix c hi k W → W.heap[D]? = some (.deferred (some [])) → c.wpIn F n P Q { a with defers := { target := .collected D, args := #[] } :: a.defers } W) :
    (Code.rangeFunc g ps assign body).wpIn F n P Q a w := by
  refine wpIn_rangeFunc ?_
  intro fn hfn
  rw [hro]
  obtain ⟨rec, hrec⟩ : ∃ rec : LoopState → Option Code → Loop, rec = fun st pe => { state := st, pending := pe, fn, tmps := a.tmps, params := ps, assign, body, defers := w.heap.size } := ⟨_, rfl⟩
  obtain ⟨W1, hW1⟩ : ∃ W1, (w.alloc (.deferred (some []))).alloc (.loop (rec .ready none)) = W1 := ⟨_, rfl⟩
  have hL1 : W1.heap[w.heap.size + 1]? = some (.loop (rec .ready none)) := by
    rw [← hW1]; have := World.alloc_heap_new (w.alloc (.deferred (some []))) (.loop (rec .ready none)); rwa [World.size_alloc] at this
  have hK1 : W1.heap[w.heap.size]? = some (.deferred (some [])) := by
    rw [← hW1]; exact (Below.heap_alloc _ _ _ (by simp)).trans (World.alloc_heap_new w _)
  have hsz : W1.heap.size = w.heap.size + 2 := by rw [← hW1]; simp
  have hb1 : Below w.heap.size w W1 := by
    rw [← hW1]; exact ((Below.refl _ w).alloc (Nat.le_refl _) _).alloc (by simp) _
  refine ⟨w.heap.size + 1, [{ target := .collected w.heap.size, args := #[] }], W1, { target := .fn (.func gf) lb, args := #[.func (.yield (w.heap.size + 1)) #[] #[]] }, W1, gf,
    #[.func (.yield (w.heap.size + 1)) #[] #[]] ++ lb, W1, ?_, ?_, ?_, ?_, fun _ => h1, ?_⟩
  · rw [← hW1, hrec]; exact run_enterLoop_outer _ _ _ _ _
  · simp only [resolve, hg]
    simp [go_sem]
  · intro f' hf'; simp [Target.leads] at hf'; subst hf'; exact hFg
  · simp [invoke, go_sem, eg]
  · have stepI : ∀ {hi k : Nat} {W : World} (o : Obj), w.heap.size + 2 ≤ hi → I hi k W → I hi k (W.putObj (w.heap.size + 1) o) := fun o hh h =>
      hI _ _ _ _ h ((keep_putObj _ _ _).mono fun b _ e => by subst e; omega)
    have stepIx : ∀ {c : Code} {hi k : Nat} {W : World} (o : Obj), w.heap.size + 2 ≤ hi → Ix c hi k W → Ix c hi k (W.putObj (w.heap.size + 1) o) := fun o hh h =>
      hIx _ _ _ _ _ h ((keep_putObj _ _ _).mono fun b _ e => by subst e; omega)
    have keptAt : ∀ {hi b : Nat} {W W' : World}, b < W1.heap.size → W1.heap.size ≤ W.heap.size → Keep (fun b => W1.heap.size ≤ b ∧ b < hi) W W' → W'.heap[b]? = W.heap[b]? := fun hb hW hk =>
      hk.block _ (by omega) (by omega)
    refine (hseq (w.heap.size + 1)
      (fun hi k W => I hi k W ∧ W.heap[w.heap.size + 1]? = some (.loop (rec .ready none)) ∧ W.heap[w.heap.size]? = some (.deferred (some [])) ∧ w.heap.size + 2 ≤ hi ∧ W1.heap.size ≤ W.heap.size)
      (fun hi k W => ∃ c, Ix c hi k W ∧ W.heap[w.heap.size + 1]? = some (.loop (rec .done (some c))) ∧ W.heap[w.heap.size]? = some (.deferred (some [])) ∧ w.heap.size + 2 ≤ hi ∧ W1.heap.size ≤ W.heap.size)
      W1 hb1 ?_ ?_ ?_ ?_).mono ?_
    · rintro hi k W W' ⟨h, hl, hk, hh, hs⟩ hkeep
      exact ⟨hI _ _ _ _ h (hkeep.mono fun b _ hb => ⟨by omega, hb.2⟩), (keptAt (by omega) hs hkeep).trans hl, (keptAt (by omega) hs hkeep).trans hk, hh, Nat.le_trans hs hkeep.size⟩
    · rintro hi k W W' ⟨c, h, hl, hk, hh, hs⟩ hkeep
      exact ⟨c, hIx _ _ _ _ _ h (hkeep.mono fun b _ hb => ⟨by omega, hb.2⟩), (keptAt (by omega) hs hkeep).trans hl, (keptAt (by omega) hs hkeep).trans hk, hh, Nat.le_trans hs hkeep.size⟩
    · intro W' hb
      exact ⟨h0 W' (bb hb1 hb), (hb.block _ (by omega)).trans hL1, (hb.block _ (by omega)).trans hK1, by have := hb.size; omega, hb.size⟩
    · -- ONE ROUND
      rintro hi k u W ⟨hi0, hl, hk, hh, hs⟩ hlo hhi hlen hu
      have hlt : w.heap.size + 1 < W.heap.size := (Array.getElem?_eq_some_iff.1 hl).1
      have hy := run_yield (P := P) (args := #[u]) hl (by rw [hrec]; simpa using hps.symm)
      rw [hrec] at hy
      refine ⟨fn, _, assign, body, hy, roundIn_of_wpIn hfn (hassign _ u W _ ⟨_, run_beginRound hl (by rw [hrec]), ?_⟩)⟩
      obtain ⟨W2, hW2⟩ : ∃ W2, W.putObj (w.heap.size + 1) (.loop { rec .ready none with state := .busy }) = W2 := ⟨_, rfl⟩
      have hl2 : W2.heap[w.heap.size + 1]? = some (.loop { rec .ready none with state := .busy }) := by rw [← hW2]; exact World.putObj_heap_same hlt
      have hk2 : W2.heap[w.heap.size]? = some (.deferred (some [])) := by rw [← hW2]; exact (World.putObj_heap_other (by omega)).trans hk
      have kp2 : Keep (fun b => b = w.heap.size + 1) W W2 := by rw [← hW2]; exact keep_putObj _ _ _
      have hi2 : I hi k W2 := by rw [← hW2]; exact stepI _ hh hi0
      have hu2 : Ints W2 u (row T k) := by
        obtain ⟨ua, uc, hv, huc, hum, hcell⟩ := hu
        refine ⟨ua, uc, hv, huc, hum, fun i hi' => ?_⟩
        obtain ⟨b, o, e, hc⟩ := hcell i hi'
        refine ⟨b, o, e, ?_⟩
        have hb : b ≠ w.heap.size + 1 := by
          rintro rfl
          simp [World.cell?, hl] at hc
        have hblt : b < W.heap.size := by
          rcases Nat.lt_or_ge b W.heap.size with h | h
          · exact h
          · simp [World.cell?, Array.getElem?_eq_none h] at hc
        simp only [World.cell?] at hc ⊢
        rw [kp2.block b hblt hb]
        exact hc
      rw [hW2]
      refine wpIn_mono (hbody _ hi k u W2 hi2 (by omega) (Nat.le_trans hhi kp2.size) hlen hu2) ?_
      have fin : ∀ (jump : Option Code) (W3 : World), Keep (fun b => S0 b ∨ hi ≤ b) W2 W3 →
          (Instr.endRound (w.heap.size + 1) jump).run P W3 = .ok (.bool jump.isNone) (W3.putObj (w.heap.size + 1) (.loop (rec (if jump.isNone then .ready else .done) jump))) ∧
          (W3.putObj (w.heap.size + 1) (.loop (rec (if jump.isNone then .ready else .done) jump))).heap[w.heap.size + 1]? = some (.loop (rec (if jump.isNone then .ready else .done) jump)) ∧
          (W3.putObj (w.heap.size + 1) (.loop (rec (if jump.isNone then .ready else .done) jump))).heap[w.heap.size]? = some (.deferred (some [])) ∧ W1.heap.size ≤ (W3.putObj (w.heap.size + 1) (.loop (rec (if jump.isNone then .ready else .done) jump))).heap.size ∧
          Keep (fun b => b < W1.heap.size ∨ hi ≤ b) W (W3.putObj (w.heap.size + 1) (.loop (rec (if jump.isNone then .ready else .done) jump))) := fun jump W3 hk3 => by
        have hno : ∀ b, w.heap.size ≤ b → b < w.heap.size + 2 → ¬ (S0 b ∨ hi ≤ b) := fun b h1 h2 h => by
          rcases h with h | h
          · have := hS0 b h; omega
          · omega
        have hsz2 : W2.heap.size = W.heap.size := by rw [← hW2]; simp [World.putObj]
        have hl3 := (hk3.block (w.heap.size + 1) (by omega) (hno _ (by omega) (by omega))).trans hl2
        have hd3 := (hk3.block (w.heap.size) (by omega) (hno _ (by omega) (by omega))).trans hk2
        have := run_endRound (P := P) jump hl3
        rw [hrec] at this ⊢
        refine ⟨this, World.putObj_heap_same (Array.getElem?_eq_some_iff.1 hl3).1, (World.putObj_heap_other (by omega)).trans hd3, Nat.le_trans hs (Nat.le_trans kp2.size (Nat.le_trans hk3.size (keep_putObj _ _ _).size)), ?_⟩
        refine ((kp2.mono (fun b _ e => ?_)).trans (hk3.mono (fun b _ e => ?_))).trans ((keep_putObj _ _ _).mono (fun b _ e => ?_))
        · exact .inl (by subst e; omega)
        · rcases e with e | e
          · exact .inl (by have := hS0 b e; omega)
          · exact .inr e
        · exact .inl (by subst e; omega)
      rintro e a3 W3 hp
      cases e with
      | normal =>
        obtain ⟨hk3, hi3⟩ := hp
        obtain ⟨hr, hl4, hk4, hs4, hkk⟩ := fin none W3 hk3
        exact ⟨_, _, hr, .inl ⟨rfl, ⟨stepI _ hh hi3, hl4, hk4, hh, hs4⟩, hkk⟩⟩
      | ret =>
        obtain ⟨hk3, hi3⟩ := hp
        obtain ⟨hr, hl4, hk4, hs4, hkk⟩ := fin (some .ret) W3 hk3
        exact ⟨_, _, hr, .inr ⟨rfl, .ret, stepIx _ hh hi3, hl4, hk4, hh, hs4⟩⟩
      | exit id =>
        obtain ⟨hk3, hi3⟩ := hp
        obtain ⟨hr, hl4, hk4, hs4, hkk⟩ := fin (some (.exit id)) W3 hk3
        exact ⟨_, _, hr, .inr ⟨rfl, .exit id, stepIx _ hh hi3, hl4, hk4, hh, hs4⟩⟩
      | goto t =>
        obtain ⟨hk3, hi3⟩ := hp
        obtain ⟨hr, hl4, hk4, hs4, hkk⟩ := fin (some (.goto t)) W3 hk3
        exact ⟨_, _, hr, .inr ⟨rfl, .goto t, stepIx _ hh hi3, hl4, hk4, hh, hs4⟩⟩
      | panic ch => exact hp.elim
      | outgrown => exact hp.elim
    · -- BEHIND THE ITERATOR
      rintro e W2 ⟨⟨v, rfl⟩, (⟨hi, h, hl, hk, hh, hs⟩ | ⟨hi, k, c, h, hl, hk, hh, hs⟩)⟩
      · exact ⟨none, _, by have := run_endLoop (P := P) hl (by rw [hrec]; simp); rw [hrec] at this; exact this, hdone _ hi _ (Nat.le_refl _) (by omega) (stepI _ hh h) ((World.putObj_heap_other (by omega)).trans hk)⟩
      · exact ⟨some c, _, by have := run_endLoop (P := P) hl (by rw [hrec]; simp); rw [hrec] at this; exact this, hstop _ hi k c _ (Nat.le_refl _) (by omega) (stepIx _ hh h) ((World.putObj_heap_other (by omega)).trans hk)⟩
end Go.Proofs.YtnbhghgkjcfcmaaDoor

namespace Go.Proofs.YtnbhghgkjcfcmaaDoor
set_option linter.unusedVariables false
set_option linter.unusedSimpArgs false
open Go.RowKit

theorem rowOf_set (n : Nat) (g : Int → Int) (k : Nat) (v : Int) : (rowOf n g).set k v = rowOf n (fun x => if x = k then v else g x) := by
  apply List.ext_getElem (by simp)
  intro i h1 h2
  have hi : i < n := by simpa using h2
  rw [List.getElem_set]
  simp only [rowOf, List.getElem_map, List.getElem_range]
  by_cases e : k = i
  · subst e; simp
  · rw [if_neg e, if_neg (by omega)]
/-- The list after r exchanges. -/
def revG (mid : List Int) (r : Nat) (x : Int) : Int := if x < r ∨ (mid.length : Int) - r ≤ x then nth mid (mid.length - 1 - x) else nth mid x
theorem revG_zero (mid : List Int) : rowOf mid.length (revG mid 0) = mid := by
  apply ext_nth (by simp)
  intro k hk
  have hk' : k < mid.length := by simpa using hk
  rw [nth_rowOf _ _ _ hk']
  unfold revG
  rw [if_neg (by omega)]
theorem revG_done (mid : List Int) (r : Nat) (h : (mid.length : Int) - 1 - r ≤ r) : rowOf mid.length (revG mid r) = mid.reverse := by
  apply ext_nth (by simp)
  intro k hk
  have hk' : k < mid.length := by simpa using hk
  rw [nth_rowOf _ _ _ hk', nth_nat _ _ (by simpa using hk'), List.getElem_reverse]
  have e : nth mid ((mid.length : Int) - 1 - k) = mid[mid.length - 1 - k] := by
    rw [show (mid.length : Int) - 1 - k = ((mid.length - 1 - k : Nat) : Int) from by omega, nth_nat]
  unfold revG
  by_cases c : (k : Int) < r ∨ (mid.length : Int) - r ≤ k
  · rw [if_pos c, e]
  · rw [if_neg c]
    have : (k : Int) = (mid.length : Int) - 1 - k := by omega
    rw [this, e]
theorem revG_step (mid : List Int) (r q : Nat) (hq : (q : Int) = (mid.length : Int) - 1 - r) (hlt : r < q) :
    rowOf mid.length (fun x => if x = q then revG mid r r else if x = r then revG mid r q else revG mid r x) = rowOf mid.length (revG mid (r + 1)) := by
  apply rowOf_congr
  intro y hy
  have e1 : revG mid r r = nth mid r := by unfold revG; rw [if_neg (by omega)]
  have e2 : revG mid r q = nth mid q := by unfold revG; rw [if_neg (by omega)]
  by_cases c1 : (y : Int) = q
  · rw [if_pos c1, e1]
    unfold revG
    rw [if_pos (by omega)]
    congr 1; omega
  · rw [if_neg c1]
    by_cases c2 : (y : Int) = r
    · rw [if_pos c2, e2]
      unfold revG
      rw [if_pos (by omega)]
      congr 1; omega
    · rw [if_neg c2]
      unfold revG
      by_cases c3 : (y : Int) < r ∨ (mid.length : Int) - r ≤ y
      · rw [if_pos c3, if_pos (by omega)]
      · rw [if_neg c3, if_neg (by omega)]

/-- The cell of the middle part of a block. -/
theorem Blk.mid {w : World} {b : Nat} {t : TypeId} {pre post : List Value} {m : Nat} {g : Int → Int} (h : Blk w b t (pre ++ ((rowOf m g).map (Value.int .i64) ++ post))) {o : Nat} (ho : o = pre.length) (k : Nat) (hk : k < m) :
    w.cell? ⟨b, o + k, none⟩ = some (.int .i64 (g k)) := by
  subst ho
  rw [h.cell (by simp; omega), List.getElem_append_right (by omega), List.getElem_append_left (by simp; omega)]
  simp [rowOf]
theorem Blk.midSet {w : World} {b : Nat} {t : TypeId} {pre post : List Value} {m : Nat} {g : Int → Int} (h : Blk w b t (pre ++ ((rowOf m g).map (Value.int .i64) ++ post))) {o : Nat} (ho : o = pre.length) (k : Nat) (hk : k < m) (v : Int) :
    Blk (w.setCell ⟨b, o + k, none⟩ (.int .i64 v)) b t (pre ++ ((rowOf m (fun x => if x = k then v else g x)).map (Value.int .i64) ++ post)) := by
  have := h.set (o + k) (.int .i64 v)
  subst ho
  rw [List.set_append, if_neg (by omega), show pre.length + k - pre.length = k from by omega, List.set_append, if_pos (by simp; omega), ← List.map_set, rowOf_set] at this
  exact this


theorem split_at (p : List Int) (m q : Nat) (h1 : m < q) (h2 : q < p.length) :
    ∃ (u d1 d2 : List Int) (a b : Int), p = u ++ a :: (d1 ++ b :: d2) ∧ u.length = m ∧ d1.length = q - m - 1 ∧ a = nth p m ∧ b = nth p q ∧ ∀ x ∈ d2, ∃ j : Nat, q < j ∧ j < p.length ∧ nth p j = x := by
  refine ⟨p.take m, (p.drop (m + 1)).take (q - m - 1), p.drop (q + 1), nth p m, nth p q, ?_, by simp; omega, by simp; omega, rfl, rfl, fun x hx => ?_⟩
  · have e1 : p = p.take m ++ p.drop m := (List.take_append_drop m p).symm
    have e2 : p.drop m = nth p m :: p.drop (m + 1) := by rw [List.drop_eq_getElem_cons (by omega), nth_nat _ _ (by omega)]
    have e3 : p.drop (m + 1) = (p.drop (m + 1)).take (q - m - 1) ++ (p.drop (m + 1)).drop (q - m - 1) := (List.take_append_drop _ _).symm
    have e4 : (p.drop (m + 1)).drop (q - m - 1) = nth p q :: p.drop (q + 1) := by
      rw [List.drop_drop, show m + 1 + (q - m - 1) = q from by omega, List.drop_eq_getElem_cons h2, nth_nat _ _ h2]
    rw [e4] at e3
    rw [e3] at e2
    rw [e2] at e1
    exact e1
  · obtain ⟨k, hk, rfl⟩ := List.getElem_of_mem hx
    have hk' : q + 1 + k < p.length := by simp at hk; omega
    refine ⟨q + 1 + k, by omega, hk', ?_⟩
    rw [nth_nat _ _ hk', List.getElem_drop]
theorem swap_split {p u d1 d2 : List Int} {a b : Int} {m q : Nat} (hpe : p = u ++ a :: (d1 ++ b :: d2)) (hu : u.length = m) (hd : d1.length = q - m - 1) (h : m < q) :
    ((p.map (Value.int .i64)).set m (.int .i64 b)).set q (.int .i64 a) = (u ++ [b]).map (Value.int .i64) ++ ((d1 ++ a :: d2).map (Value.int .i64) ++ []) := by
  subst hpe hu
  obtain rfl : q = u.length + (d1.length + 1) := by omega
  simp [List.set_append]
theorem drop_split {p u r : List Int} {a : Int} {m : Nat} (hpe : p = u ++ a :: r) (hu : u.length = m) : p.drop (m + 1) = r := by
  subst hpe hu
  rw [List.drop_append, List.drop_of_length_le (by omega), show u.length + 1 - u.length = 1 from by omega]
  rfl

def NextPost (b : Nat) (p : List Int) (w0 : World) (e : Ending) (w' : World) : Prop :=
  (∃ q, IsNext p q ∧ e = .returned (.bool true) ∧ Blk w' b 2 (q.map (Value.int .i64)) ∧ Keep (fun x => x = b) w0 w') ∨ (Desc p ∧ e = .returned (.bool false) ∧ Keep (fun x => x = b) w0 w')
theorem desc_step {p : List Int} {m : Nat} (h : m + 1 < p.length) (hd : Desc (p.drop (m + 1))) (hgt : nth p (m + 1 : Nat) < nth p m) : Desc (p.drop m) := by
  rw [List.drop_eq_getElem_cons (by omega)]
  refine List.pairwise_cons.2 ⟨fun x hx => ?_, hd⟩
  have h0 := hd
  rw [List.drop_eq_getElem_cons h] at hx h0
  rw [nth_nat _ _ h, nth_nat _ _ (by omega)] at hgt
  rcases List.mem_cons.1 hx with e | e
  · subst e; exact hgt
  · have := (List.pairwise_cons.1 h0).1 x e; omega

end Go.Proofs.YtnbhghgkjcfcmaaDoor

namespace Go.Proofs.YtnbhghgkjcfcmaaDoor
set_option linter.unusedVariables false
set_option linter.unusedSimpArgs false
open Go Go.RowKit Go.Shelf
attribute [local go_sem] Oper.semAt_some

end Go.Proofs.YtnbhghgkjcfcmaaDoor

namespace Go.Proofs.YtnbhghgkjcfcmaaDoor
set_option linter.unusedVariables false
set_option linter.unusedSimpArgs false
open Go Go.RowKit Go.Shelf
attribute [local go_sem] Oper.semAt_some


theorem stepIn_append {F : Fence} {n : Nat} {P : Program} {ops : Array Oper} {o : Oper} {a : Act} {K : Act → World → Prop} {Q : Exit → Act → World → Prop} {E : Prop} {W W' : World} {v' : Value} (hgd : o.guard = none) (hF : ∀ f, F.fn f) (s x : Operand) (t : TypeId)
    (ho : o.op = .call { callee := .builtin .append, args := #[s, x], argTypes := #[t, t] }) (hrun : (Builtin.append_ #[t, t] o.type #[a.eval s, a.eval x]).run P W = .ok v' W') (h : K (a.put o.dst v') W') :
    if Region.wanted o (yielded ops a.tmps) = true then Oper.wpIn F n P o a W K Q else E := by
  have hw : Region.wanted o (yielded ops a.tmps) = true := by simp [Region.wanted, hgd]
  rw [if_pos hw]
  refine ⟨fun f _ => hF f, ?_⟩
  rw [Oper.semAt_eq _ _ _ (by rw [ho]; intro c hc; cases hc)]
  unfold execOp
  simp only [ho, resolve, invoke, builtin, Sem.run_bind, Sem.run_pure, Result.andThen_ok, List.map_toArray, List.map_cons, List.map_nil, hrun]
  exact h

/-- 'append(s, u)' of one row: the run. -/
theorem run_app_row2 (B m : Nat) (w : World) (ty : TypeId) (v : Value) (xss : List (List Int)) (u : Value) (xs : List Int) (hown : OwnRowsIn B m w v xss) (hu : Own m w u xs) (hn : xss.length ≤ 1099511627776) (hB : B ≤ m) (hB2 : B ≤ w.heap.size) :
    ∃ g c' w', (Builtin.append_ #[24, 24] ty #[v, .slice (some ⟨w.heap.size, 0, none⟩) 1 1]).run Tryd.prog (w.alloc (.cells #[u] 32)) = .ok (.slice (some ⟨g, 0, none⟩) (xss.length + 1) c') w' ∧ OwnRows B w' (.slice (some ⟨g, 0, none⟩) (xss.length + 1) c') (xss ++ [xs]) ∧ Keep (fun b => v.ownBlock = some b) w w' := by
  obtain ⟨us, h1, h2, _, hlt⟩ := hown
  have h2' := rowvals_snoc h2 hlt hu hB
  have hlen := h2.len
  obtain ⟨ua, uc, hu1, _⟩ := hu.shape
  obtain ⟨i0, hi, hz0, hz1, hz2⟩ := info_parts inf_ints
  obtain ⟨g, cap, w', hr, h3, h4, h5, _⟩ := run_append_lies (P := Tryd.prog) (w.alloc (.cells #[u] 32)) 24 ty B 32 i0 (.slice none 0 0) 1 24 Tryd.underlying24 hi hz0 hz1 hz2 rfl (by decide) v us.length us (h1.alloc _) ⟨w.heap.size, 0, none⟩ 1 1 [u] rfl
    (by
      intro j u' hj
      match j, hj with
      | 0, hj => simp at hj; subst hj; simp [Addr.add])
    (by intro u' hu'; simp at hu'; subst hu'; subst hu1; rfl) (by decide) (by unfold maxLen; omega) (by omega) (by simp; omega) (w.heap.size + 1) (by simp)
  have hk := Keep.of_grown h4
  have hk2 : Keep (fun b => v.ownBlock = some b) w w' := ((Keep.refl _ w).alloc _).trans hk
  rw [hlen] at h3 hr
  exact ⟨g, cap, w', hr, ⟨us ++ [u], by simpa [hlen] using h3, rowvals_keepT h2' h1 hk2⟩, hk2⟩

end Go.Proofs.YtnbhghgkjcfcmaaDoor

namespace Go.Proofs.YtnbhghgkjcfcmaaDoor
set_option linter.unusedVariables false
set_option linter.unusedSimpArgs false
open Go Go.RowKit Go.Shelf
attribute [local go_sem] Oper.semAt_some

abbrev Tabs := List (List Int) × List (List Int)
def stepS (A B : List (List Int)) (X : Tabs) (p : List Int) : Tabs := if lexS (renL A p) (renL B p) X.1 X.2 then (renL A p, renL B p) else X
def bestS (A B : List (List Int)) (X : Tabs) (ps : List (List Int)) : Tabs := ps.foldl (stepS A B) X
theorem bestS_snoc (A B : List (List Int)) (X : Tabs) (ps : List (List Int)) (k : Nat) (h : k < ps.length) : bestS A B X (ps.take (k + 1)) = stepS A B (bestS A B X (ps.take k)) (row ps k) := by
  unfold bestS; rw [take_snoc_row _ _ h, List.foldl_append]; rfl
theorem bestS_len {A B : List (List Int)} (hl : B.length = A.length) : ∀ (X : Tabs) (ps : List (List Int)), X.1.length = A.length → X.2.length = A.length → (bestS A B X ps).1.length = A.length ∧ (bestS A B X ps).2.length = A.length
  | X, [], h1, h2 => ⟨h1, h2⟩
  | X, p :: ps, h1, h2 => by
    unfold bestS; rw [List.foldl_cons]
    refine bestS_len hl _ ps ?_ ?_
    · unfold stepS; split
      · simp
      · exact h1
    · unfold stepS; split
      · simpa using hl
      · exact h2
theorem lexS_pos {X P Y Q : List (List Int)} (h : 0 < cmpR X Y) : lexS X P Y Q = false := by
  unfold lexS
  have h1 : X ≠ Y := fun e => by rw [cmpR_zero.2 e] at h; omega
  rw [if_neg h1]
  cases e : lexR X Y with
  | false => rfl
  | true => have := cmpR_neg.2 e; omega
theorem lexS_neg {X P Y Q : List (List Int)} (h : cmpR X Y < 0) : lexS X P Y Q = true := by
  unfold lexS
  have h1 : X ≠ Y := fun e => by rw [cmpR_zero.2 e] at h; omega
  rw [if_neg h1, cmpR_neg.1 h]
def lsSA (A B : List (List Int)) : List (List Int) := (bestS A B (A, B) (allPerms A.length)).1
def lsSB (A B : List (List Int)) : List (List Int) := (bestS A B (A, B) (allPerms A.length)).2

/-- The best pair so far: made ahead of the loop (below m), or behind hi. -/
def BestP (lo m hi : Nat) (W : World) (va vb : Value) (X Y : List (List Int)) : Prop :=
  ∃ l1 h1 l2 h2, lo ≤ l1 ∧ lo ≤ l2 ∧ (h1 ≤ l2 ∨ h2 ≤ l1) ∧ ((h1 ≤ m ∧ h2 ≤ m) ∨ (hi ≤ l1 ∧ hi ≤ l2)) ∧ h1 ≤ W.heap.size ∧ h2 ≤ W.heap.size ∧ OwnRowsIn l1 h1 W va X ∧ OwnRowsIn l2 h2 W vb Y
theorem BestP.keep {lo m hi : Nat} {S : Nat → Prop} {W W' : World} {va vb : Value} {X Y : List (List Int)} (h : BestP lo m hi W va vb X Y) (k : Keep S W W') (h1 : ∀ b, b < m → ¬ S b) (h2 : ∀ b, hi ≤ b → ¬ S b) : BestP lo m hi W' va vb X Y := by
  obtain ⟨l1, g1, l2, g2, a, b, c, d, e, f, o1, o2⟩ := h
  have hs := k.size
  refine ⟨l1, g1, l2, g2, a, b, c, d, by omega, by omega, o1.keep k ?_, o2.keep k ?_⟩
  · intro x x1 x2
    rcases d with d | d
    · exact h1 x (by omega)
    · exact h2 x (by omega)
  · intro x x1 x2
    rcases d with d | d
    · exact h1 x (by omega)
    · exact h2 x (by omega)
theorem BestP.under {lo m hi : Nat} {W W' : World} {va vb : Value} {X Y : List (List Int)} (h : BestP lo m hi W va vb X Y) (hb : Below W.heap.size W W') : BestP lo m hi W' va vb X Y := by
  obtain ⟨l1, g1, l2, g2, a, b, c, d, e, f, o1, o2⟩ := h
  have hs := hb.size
  exact ⟨l1, g1, l2, g2, a, b, c, d, by omega, by omega, o1.under hb, o2.under hb⟩
theorem BestP.own {lo m hi : Nat} {W : World} {va vb : Value} {X Y : List (List Int)} (h : BestP lo m hi W va vb X Y) : OwnSol lo W.heap.size W va vb X Y := by
  obtain ⟨l1, g1, l2, g2, a, b, c, d, e, f, o1, o2⟩ := h
  exact ⟨l1, g1, l2, g2, a, e, b, f, c, o1, o2⟩

theorem BestP.keepL {lo m hi : Nat} {S : Nat → Prop} {W W' : World} {va vb : Value} {X Y : List (List Int)} (h : BestP lo m hi W va vb X Y) (k : Keep S W W') (h1 : ∀ b, lo ≤ b → b < m → ¬ S b) (h2 : ∀ b, lo ≤ b → hi ≤ b → ¬ S b) : BestP lo m hi W' va vb X Y := by
  obtain ⟨l1, g1, l2, g2, a, b, c, d, e, f, o1, o2⟩ := h
  have hs := k.size
  refine ⟨l1, g1, l2, g2, a, b, c, d, by omega, by omega, o1.keep k ?_, o2.keep k ?_⟩
  · intro x x1 x2
    rcases d with d | d
    · exact h1 x (by omega) (by omega)
    · exact h2 x (by omega) (by omega)
  · intro x x1 x2
    rcases d with d | d
    · exact h1 x (by omega) (by omega)
    · exact h2 x (by omega) (by omega)
theorem BestP.ownL {lo' lo m hi : Nat} {W : World} {va vb : Value} {X Y : List (List Int)} (h : BestP lo m hi W va vb X Y) (hl : lo' ≤ lo) : OwnSol lo' W.heap.size W va vb X Y := by
  obtain ⟨l1, g1, l2, g2, a, b, c, d, e, f, o1, o2⟩ := h
  exact ⟨l1, g1, l2, g2, by omega, e, by omega, f, c, o1, o2⟩
theorem BestP.mk0 {lo q s1 s2 hi : Nat} {w1 w2 V : World} {a b : Value} {A B : List (List Int)} (ho1 : OwnRows s1 w1 a A) (hb : Below w1.heap.size w1 w2) (ho2 : OwnRows s2 w2 b B) (hs1 : lo ≤ s1) (hs2 : w1.heap.size ≤ s2) (hlo : lo ≤ w1.heap.size)
    (hk : Keep (fun k => k = q) w2 V) (hq1 : q < s1 ∨ w1.heap.size ≤ q) (hq2 : q < s2 ∨ w2.heap.size ≤ q) : BestP lo V.heap.size hi V a b A B := by
  have h1 := hb.size; have h2 := hk.size
  exact ⟨s1, w1.heap.size, s2, w2.heap.size, hs1, by omega, .inl hs2, .inl ⟨by omega, h2⟩, by omega, h2, (ho1.inn.under hb).keep hk (fun x _ _ e => by omega), ho2.inn.keep hk (fun x _ _ e => by omega)⟩
theorem fin_up {lo m hi q : Nat} {W w1 w9 w5 wz : World} {a b : Value} {XA XB : List (List Int)} (ho1 : OwnRows W.heap.size w1 a XA) (b0 : W.heap.size ≤ w1.heap.size) (b1 : Below w1.heap.size w1 w9) (ho2 : OwnRows w9.heap.size w5 b XB) (b95 : Below w9.heap.size w9 w5) (b2 : Below w5.heap.size w5 wz)
    (hW : hi ≤ W.heap.size) (hlo : lo ≤ W.heap.size) (hq : q < W.heap.size) : BestP lo m hi ((wz.setCell ⟨q, 0, none⟩ a).setCell ⟨q, 1, none⟩ b) a b XA XB := by
  have s1 := b1.size; have s2 := b95.size; have s3 := b2.size
  have hz : ((wz.setCell ⟨q, 0, none⟩ a).setCell ⟨q, 1, none⟩ b).heap.size = wz.heap.size := by simp [World.setCell]
  exact ⟨W.heap.size, w1.heap.size, w9.heap.size, w5.heap.size, hlo, by omega, .inl s1, .inr ⟨hW, by omega⟩, by omega, by omega, (((ho1.inn.under b1).under b95).under b2).keep (keep_early _ _ _ _) (fun x _ _ e => by omega), (ho2.inn.under b2).keep (keep_early _ _ _ _) (fun x _ _ e => by omega)⟩

end Go.Proofs.YtnbhghgkjcfcmaaDoor

namespace Go.Proofs.YtnbhghgkjcfcmaaDoor
set_option linter.unusedVariables false
set_option linter.unusedSimpArgs false
open Go Go.RowKit

theorem cs_same {w : World} {a : Addr} {v u : Value} (h : w.cell? a = some u) : (w.setCell a v).cell? a = some v := by
  first | exact World.cell?_setCell_same _ _ _ h | exact World.cell?_setCell_same _ _ h | exact World.cell?_setCell_same _ h
theorem cs_other {w : World} {a b : Addr} {v : Value} (h : a ≠ b) : (w.setCell a v).cell? b = w.cell? b := by
  first | exact World.cell?_setCell_other _ _ _ _ h | exact World.cell?_setCell_other _ _ _ h | exact World.cell?_setCell_other _ _ h
theorem fz_set {w : World} {a b : Addr} {v : Value} : (w.setCell a v).frozen? b = w.frozen? b := by simp
theorem fz_block {w w' : World} {b i : Nat} (e : w'.heap[b]? = w.heap[b]?) : w'.frozen? ⟨b, i, none⟩ = w.frozen? ⟨b, i, none⟩ := World.frozen?_of_block (w := w) (a := ⟨b, i, none⟩) e
/-- Integers that can be read and written, in a block from lo on. -/
def IntsW (lo : Nat) (w : World) (v : Value) (xs : List Int) : Prop :=
  ∃ (a : Option Addr) (c : Nat), v = .slice a xs.length c ∧ xs.length ≤ c ∧ c ≤ maxLen ∧ ∀ i (h : i < xs.length), ∃ b, a = some ⟨b, 0, none⟩ ∧ lo ≤ b ∧ w.cell? ⟨b, i, none⟩ = some (.int .i64 xs[i]) ∧ w.frozen? ⟨b, i, none⟩ = false
/-- A table that can be read and written, in blocks from lo on. -/
def RowsW (lo : Nat) (w : World) (v : Value) (X : List (List Int)) : Prop :=
  ∃ (a : Option Addr) (c : Nat), v = .slice a X.length c ∧ X.length ≤ c ∧ c ≤ maxLen ∧ ∀ i (h : i < X.length), ∃ b u, a = some ⟨b, 0, none⟩ ∧ lo ≤ b ∧ w.cell? ⟨b, i, none⟩ = some u ∧ w.frozen? ⟨b, i, none⟩ = false ∧ IntsW lo w u X[i]

theorem IntsW.ints {lo : Nat} {w : World} {v : Value} {xs : List Int} (h : IntsW lo w v xs) : Ints w v xs := by
  obtain ⟨a, c, hv, h1, h2, hc⟩ := h
  refine ⟨a, c, hv, h1, h2, fun i hi => ?_⟩
  obtain ⟨b, ha, _, hcell, _⟩ := hc i hi
  exact ⟨b, 0, ha, by rw [Nat.zero_add]; exact hcell⟩
theorem RowsW.rows {lo : Nat} {w : World} {v : Value} {X : List (List Int)} (h : RowsW lo w v X) : Rows w v X := by
  obtain ⟨a, c, hv, h1, h2, hc⟩ := h
  refine ⟨a, c, hv, h1, h2, fun i hi => ?_⟩
  obtain ⟨b, u, ha, _, hcell, _, hu⟩ := hc i hi
  exact ⟨b, 0, u, ha, by rw [Nat.zero_add]; exact hcell, hu.ints⟩
theorem IntsW.at' {lo : Nat} {w : World} {v : Value} {xs : List Int} (h : IntsW lo w v xs) (hx : 0 < xs.length) : IntsAt lo w v xs := by
  refine ⟨h.ints, fun b o hv => ?_⟩
  obtain ⟨n, c, rfl⟩ := hv
  obtain ⟨a, c, hv, h1, h2, hc⟩ := h
  obtain ⟨b', ha, hlo, _⟩ := hc 0 hx
  subst ha
  injection hv with e1; injection e1 with e1; injection e1 with e1; subst e1; exact hlo
theorem IntsW.keep {lo : Nat} {S : Nat → Prop} {w w' : World} {v : Value} {xs : List Int} (h : IntsW lo w v xs) (k : Keep S w w') (hS : ∀ b, lo ≤ b → b < w.heap.size → ¬ S b) : IntsW lo w' v xs := by
  obtain ⟨a, c, hv, h1, h2, hc⟩ := h
  refine ⟨a, c, hv, h1, h2, fun i hi => ?_⟩
  obtain ⟨b, ha, hlo, hcell, hf⟩ := hc i hi
  have e := k.block b (cell_lt hcell) (hS b hlo (cell_lt hcell))
  exact ⟨b, ha, hlo, cell_of_block e hcell, (fz_block e).trans hf⟩
theorem RowsW.keepB {lo : Nat} {S : Nat → Prop} {w w' : World} {v : Value} {X : List (List Int)} (h : RowsW lo w v X) (k : Keep S w w') (hS : ∀ b, lo ≤ b → b < w.heap.size → ¬ S b) : RowsW lo w' v X := by
  obtain ⟨a, c, hv, h1, h2, hc⟩ := h
  refine ⟨a, c, hv, h1, h2, fun i hi => ?_⟩
  obtain ⟨b, u, ha, hlo, hcell, hf, hu⟩ := hc i hi
  have e := k.block b (cell_lt hcell) (hS b hlo (cell_lt hcell))
  exact ⟨b, u, ha, hlo, cell_of_block e hcell, (fz_block e).trans hf, hu.keep k hS⟩
theorem RowsW.keep {lo : Nat} {S : Nat → Prop} {w w' : World} {v : Value} {X : List (List Int)} (h : RowsW lo w v X) (k : Keep S w w') (hS : ∀ b, lo ≤ b → ¬ S b) : RowsW lo w' v X := h.keepB k fun b hb _ => hS b hb
theorem RowsW.under {lo : Nat} {w w' : World} {v : Value} {X : List (List Int)} (h : RowsW lo w v X) (hb : Below w.heap.size w w') : RowsW lo w' v X :=
  h.keepB (S := fun b => w.heap.size ≤ b) (Keep.of_below hb) fun b _ h1 h2 => by have h2 : w.heap.size ≤ b := h2; omega
theorem IntsW.under {lo : Nat} {w w' : World} {v : Value} {xs : List Int} (h : IntsW lo w v xs) (hb : Below w.heap.size w w') : IntsW lo w' v xs :=
  h.keep (S := fun b => w.heap.size ≤ b) (Keep.of_below hb) fun b _ h1 h2 => by have h2 : w.heap.size ≤ b := h2; omega
theorem IntsW.mono {lo lo' : Nat} {w : World} {v : Value} {xs : List Int} (h : IntsW lo w v xs) (hl : lo' ≤ lo) : IntsW lo' w v xs := by
  obtain ⟨a, c, hv, h1, h2, hc⟩ := h
  exact ⟨a, c, hv, h1, h2, fun i hi => by obtain ⟨b, ha, hlo, r⟩ := hc i hi; exact ⟨b, ha, Nat.le_trans hl hlo, r⟩⟩
theorem RowsW.mono {lo lo' : Nat} {w : World} {v : Value} {X : List (List Int)} (h : RowsW lo w v X) (hl : lo' ≤ lo) : RowsW lo' w v X := by
  obtain ⟨a, c, hv, h1, h2, hc⟩ := h
  exact ⟨a, c, hv, h1, h2, fun i hi => by obtain ⟨b, u, ha, hlo, hcell, hf, hu⟩ := hc i hi; exact ⟨b, u, ha, Nat.le_trans hl hlo, hcell, hf, hu.mono hl⟩⟩
theorem Own.wr {lo : Nat} {w : World} {v : Value} {xs : List Int} (h : Own lo w v xs) : IntsW lo w v xs := by
  rcases h.open with ⟨rfl, rfl⟩ | ⟨g, cs, hv, hb, hblk, hm⟩
  · exact ⟨none, 0, rfl, Nat.le_refl _, by decide, fun i hi => absurd hi (Nat.not_lt_zero _)⟩
  · refine ⟨_, _, hv, by omega, hm, fun i hi => ⟨g, rfl, hb, ?_, hblk.frozen i⟩⟩
    have := hblk.cell (i := i) (by simp; omega)
    rw [this, List.getElem_append_left (by simpa using hi), List.getElem_map]
theorem OwnRows.wr {lo : Nat} {w : World} {v : Value} {X : List (List Int)} (h : OwnRows lo w v X) : RowsW lo w v X := by
  obtain ⟨us, h1, h2⟩ := h
  obtain ⟨a, c, hv, hc, hm, hcell⟩ := ownsRow_cells h1
  have h1' := h1
  obtain ⟨hl, hn | ⟨g, cap, cur, hv', hb, hg, hr⟩⟩ := h1'
  · have : X = [] := List.eq_nil_of_length_eq_zero (by rw [← h2.len]; exact hn.2)
    subst this
    exact ⟨none, 0, hn.1, Nat.le_refl _, by decide, fun i hi => absurd hi (Nat.not_lt_zero _)⟩
  · have hblk : Blk w g 32 cur.toList := by unfold Blk; simpa using hg
    rw [h2.len] at hv hc
    refine ⟨a, c, hv, hc, hm, fun i hi => ?_⟩
    have hi' : i < us.length := by rw [h2.len]; exact hi
    obtain ⟨g', ha, hgc⟩ := hcell i hi'
    rw [hv'] at hv
    injection hv with e1
    rw [ha] at e1
    injection e1 with e1
    injection e1 with e1
    subst e1
    exact ⟨g, us[i], ha, hb, hgc, hblk.frozen i, (h2.own i hi' hi).wr⟩
theorem drew_w {b lo : Nat} {w1 w2 : World} {v : Value} {X : List (List Int)} (h : Drew b w1 w2) (hr : RowsW lo w1 v X) (hb : b < lo) : RowsW lo w2 v X := hr.keep h.2 (fun x hx e => by have e : x = b := e; omega)

/-- A cell that holds an integer, after a store of an integer. -/
theorem int_after {w : World} {p q : Addr} {z x : Int} (hq : w.cell? q = some (.int .i64 x)) : ∃ y, (w.setCell p (.int .i64 z)).cell? q = some (.int .i64 y) := by
  by_cases e : p = q
  · subst e; exact ⟨z, cs_same hq⟩
  · exact ⟨x, (cs_other e).trans hq⟩
theorem slice_after {w : World} {p q : Addr} {z : Int} {y0 : Int} {a : Option Addr} {n c : Nat} (hp : w.cell? p = some (.int .i64 y0)) (hq : w.cell? q = some (.slice a n c)) : (w.setCell p (.int .i64 z)).cell? q = some (.slice a n c) := by
  have e : p ≠ q := by intro e; subst e; rw [hp] at hq; cases hq
  exact (cs_other e).trans hq
theorem int_stays {w : World} {p q : Addr} {u : Value} {x : Int} {a : Option Addr} {n c : Nat} (hp : w.cell? p = some (.slice a n c)) (hq : w.cell? q = some (.int .i64 x)) : (w.setCell p u).cell? q = some (.int .i64 x) := by
  have e : p ≠ q := by intro e; subst e; rw [hp] at hq; cases hq
  exact (cs_other e).trans hq

/-- A store of an integer into a cell that holds one. -/
theorem IntsW.putI {lo : Nat} {w : World} {v : Value} {xs : List Int} (h : IntsW lo w v xs) {p : Addr} {y0 : Int} (_hp : w.cell? p = some (.int .i64 y0)) (z : Int) : ∃ ys, ys.length = xs.length ∧ IntsW lo (w.setCell p (.int .i64 z)) v ys := by
  obtain ⟨a, c, hv, h1, h2, hc⟩ := h
  have key : ∀ i : Fin xs.length, ∃ y : Int, ∃ b, a = some ⟨b, 0, none⟩ ∧ lo ≤ b ∧ (w.setCell p (.int .i64 z)).cell? ⟨b, i, none⟩ = some (.int .i64 y) ∧ (w.setCell p (.int .i64 z)).frozen? ⟨b, i, none⟩ = false := by
    intro i
    obtain ⟨b, ha, hlo, hcell, hf⟩ := hc i i.2
    obtain ⟨y, hy⟩ := int_after (p := p) (z := z) hcell
    exact ⟨y, b, ha, hlo, hy, fz_set.trans hf⟩
  refine ⟨List.ofFn fun i => Classical.choose (key i), by simp, a, c, by simp [hv], by simpa using h1, h2, fun i hi => ?_⟩
  have hi' : i < xs.length := by simpa using hi
  have := Classical.choose_spec (key ⟨i, hi'⟩)
  simpa using this
theorem IntsW.putS {lo : Nat} {w : World} {v : Value} {xs : List Int} (h : IntsW lo w v xs) {p : Addr} {a0 : Option Addr} {n0 c0 : Nat} (hp : w.cell? p = some (.slice a0 n0 c0)) (u : Value) : IntsW lo (w.setCell p u) v xs := by
  obtain ⟨a, c, hv, h1, h2, hc⟩ := h
  refine ⟨a, c, hv, h1, h2, fun i hi => ?_⟩
  obtain ⟨b, ha, hlo, hcell, hf⟩ := hc i hi
  exact ⟨b, ha, hlo, int_stays hp hcell, fz_set.trans hf⟩
theorem IntsW.isSlice {lo : Nat} {w : World} {v : Value} {xs : List Int} (h : IntsW lo w v xs) : ∃ a c, v = .slice a xs.length c := by
  obtain ⟨a, c, hv, _⟩ := h
  exact ⟨a, c, hv⟩
/-- All rows of a list are of length at most m. -/
def Wide (m : Nat) (X : List (List Int)) : Prop := ∀ r ∈ X, r.length ≤ m
theorem RowsW.of {lo n m : Nat} {w : World} {a : Option Addr} {c : Nat} (h1 : n ≤ c) (h2 : c ≤ maxLen) (key : ∀ i : Fin n, ∃ r : List Int, r.length ≤ m ∧ ∃ b u, a = some ⟨b, 0, none⟩ ∧ lo ≤ b ∧ w.cell? ⟨b, i, none⟩ = some u ∧ w.frozen? ⟨b, i, none⟩ = false ∧ IntsW lo w u r) :
    ∃ X : List (List Int), X.length = n ∧ Wide m X ∧ RowsW lo w (.slice a n c) X := by
  refine ⟨List.ofFn fun i => Classical.choose (key i), by simp, fun r hr => ?_, a, c, by simp, by simpa using h1, h2, fun i hi => ?_⟩
  · rw [List.mem_ofFn] at hr
    obtain ⟨i, rfl⟩ := hr
    exact (Classical.choose_spec (key i)).1
  · have hi' : i < n := by simpa using hi
    have := (Classical.choose_spec (key ⟨i, hi'⟩)).2
    simpa using this
theorem RowsW.putI {lo m : Nat} {w : World} {a : Option Addr} {n c : Nat} {X : List (List Int)} (h : RowsW lo w (.slice a n c) X) (hm : Wide m X) {p : Addr} {y0 : Int} (hp : w.cell? p = some (.int .i64 y0)) (z : Int) :
    ∃ Y, Y.length = X.length ∧ Wide m Y ∧ RowsW lo (w.setCell p (.int .i64 z)) (.slice a n c) Y := by
  obtain ⟨a', c', hv, h1, h2, hc⟩ := h
  injection hv with e1 e2 e3
  subst e1 e2 e3
  refine RowsW.of h1 h2 fun i => ?_
  obtain ⟨b, u, ha, hlo, hcell, hf, hu⟩ := hc i i.2
  obtain ⟨ua, uc, rfl⟩ := hu.isSlice
  obtain ⟨ys, hl, hy⟩ := hu.putI hp z
  exact ⟨ys, by rw [hl]; exact hm _ (List.getElem_mem _), b, _, ha, hlo, slice_after hp hcell, fz_set.trans hf, hy⟩
theorem RowsW.putS {lo m : Nat} {w : World} {a : Option Addr} {n c : Nat} {X : List (List Int)} (h : RowsW lo w (.slice a n c) X) (hm : Wide m X) {p : Addr} {a0 : Option Addr} {n0 c0 : Nat} (hp : w.cell? p = some (.slice a0 n0 c0)) {u' : Value} {ys : List Int} (hu' : IntsW lo w u' ys) (hy : ys.length ≤ m) :
    ∃ Y, Y.length = X.length ∧ Wide m Y ∧ RowsW lo (w.setCell p u') (.slice a n c) Y := by
  obtain ⟨a', c', hv, h1, h2, hc⟩ := h
  injection hv with e1 e2 e3
  subst e1 e2 e3
  refine RowsW.of h1 h2 fun i => ?_
  obtain ⟨b, u, ha, hlo, hcell, hf, hu⟩ := hc i i.2
  by_cases e : p = ⟨b, i, none⟩
  · subst e
    exact ⟨ys, hy, b, u', ha, hlo, cs_same hcell, fz_set.trans hf, hu'.putS hp u'⟩
  · exact ⟨_, hm _ (List.getElem_mem i.2), b, u, ha, hlo, (cs_other e).trans hcell, fz_set.trans hf, hu.putS hp u'⟩
/-- The cell of row k, written out. -/
theorem RowsW.at {lo : Nat} {w : World} {a : Option Addr} {n c : Nat} {X : List (List Int)} (h : RowsW lo w (.slice a n c) X) (k : Nat) (hk : k < X.length) :
    ∃ b a' c', a = some ⟨b, 0, none⟩ ∧ lo ≤ b ∧ w.cell? ⟨b, k, none⟩ = some (.slice a' (row X k).length c') ∧ w.frozen? ⟨b, k, none⟩ = false ∧ IntsW lo w (.slice a' (row X k).length c') (row X k) := by
  obtain ⟨a', c', hv, h1, h2, hc⟩ := h
  injection hv with e1 e2 e3
  subst e1 e2 e3
  obtain ⟨b, u, ha, hlo, hcell, hf, hu⟩ := hc k hk
  obtain ⟨ua, uc, rfl⟩ := hu.isSlice
  rw [row_nat X k hk]
  exact ⟨b, ua, uc, ha, hlo, hcell, hf, hu⟩
theorem IntsW.at0 {lo : Nat} {w : World} {a : Option Addr} {n c : Nat} {xs : List Int} (h : IntsW lo w (.slice a n c) xs) (k : Nat) (hk : k < xs.length) :
    ∃ b, a = some ⟨b, 0, none⟩ ∧ lo ≤ b ∧ w.cell? ⟨b, k, none⟩ = some (.int .i64 (nth xs k)) ∧ w.frozen? ⟨b, k, none⟩ = false := by
  obtain ⟨a', c', hv, h1, h2, hc⟩ := h
  injection hv with e1 e2 e3
  subst e1 e2 e3
  rw [nth_nat _ _ hk]
  exact hc k hk
end Go.Proofs.YtnbhghgkjcfcmaaDoor

namespace Go.Proofs.YtnbhghgkjcfcmaaDoor
set_option linter.unusedVariables false
set_option linter.unusedSimpArgs false
open Go Go.RowKit

theorem swap_perm2 {xs : List Int} (h : Permuted xs) {k u : Nat} (hk : k < xs.length) (hu : u < xs.length) : Permuted ((xs.set k (nth xs u)).set u (nth xs k)) := by
  have key : ∀ y : Int, 0 ≤ y → nth ((xs.set k (nth xs u)).set u (nth xs k)) y = if y = u then nth xs k else if y = k then nth xs u else nth xs y := by
    intro y y0
    have h1 := nth_set (xs.set k (nth xs u)) (u : Int) y (nth xs k) (by omega) (by rw [List.length_set]; omega) y0
    rw [Int.toNat_natCast] at h1
    rw [h1]
    have h2 := nth_set xs (k : Int) y (nth xs u) (by omega) (by omega) y0
    rw [Int.toNat_natCast] at h2
    rw [h2]
  rw [permuted_iff]
  intro x x0 x1
  simp only [List.length_set] at x1
  obtain ⟨y, y0, y1, e⟩ := ex_pre h x0 x1
  have hm : ∀ y : Int, 0 ≤ y → y < xs.length → nth ((xs.set k (nth xs u)).set u (nth xs k)) y ∈ (xs.set k (nth xs u)).set u (nth xs k) := fun y a b => nth_mem a (by rw [List.length_set, List.length_set]; exact b)
  subst e
  by_cases e1 : y = u
  · subst e1
    have h3 := hm k (by omega) (by omega)
    rw [key k (by omega)] at h3
    by_cases e2 : (k : Int) = u
    · obtain rfl : k = u := by omega
      rw [if_pos rfl] at h3; exact h3
    · rw [if_neg e2, if_pos rfl] at h3; exact h3
  · by_cases e2 : y = k
    · subst e2
      have h3 := hm u (by omega) (by omega)
      rw [key u (by omega), if_pos rfl] at h3
      exact h3
    · have h3 := hm y y0 y1
      rw [key y y0, if_neg e1, if_neg e2] at h3
      exact h3

set_option maxRecDepth 100000 in
set_option maxHeartbeats 1600000 in
theorem c_l01DrawP (b n : Nat) (w : World) (hs : Src w b) (h1 : 1 ≤ n) (h2 : n ≤ 1000) :
    Calls Tryd.prog 38 #[.pointer (some ⟨b, 0, none⟩), .int .i64 n] w (fun e w' => ∃ (r : Value) (xs : List Int), e = .returned r ∧ xs.length = n ∧ Permuted xs ∧ Own w.heap.size w' r xs ∧ Drew b w w') := by
  have HS := Lib.hid hs; have hbl := hs.lt; clear hs
  go_enter Tryd.func38, Tryd.ntmps38
  go_wp2_with fail
  refine (c_l01Unit n _ (by omega)).mono ?_; rintro e w1 ⟨r, rfl, ho, hb1⟩
  rcases ho.open with ⟨_, h0⟩ | ⟨g, cs, hv, hg, hblk, hmx⟩
  · have := congrArg List.length h0; simp at this; omega
  rw [iota_length] at hv hmx
  subst hv
  have HB0 := Lib.hid hblk; have HD0 := Lib.hid ((Drew.refl HS.out).under hb1)
  have HMX := Lib.hid hmx
  clear ho hblk hmx hb1
  go_wp2
  go_loopw [6, 7, 8] (fun i _ _ wr => ∃ (k : Nat) (xs : List Int), k < n ∧ i = .int .i64 k ∧ Hid (xs.length = n ∧ Permuted xs) ∧ Hid (Blk wr g 2 (xs.map (Value.int .i64) ++ cs)) ∧ Hid (Drew b w wr)) (fun i _ _ _ => (intOf i).toNat)
  case atStart => exact ⟨n - 1, iota n, by omega, by go_num, Lib.hid ⟨by simp, permuted_iota n⟩, HB0, HD0⟩
  case round =>
    clear HB0 HD0
    obtain ⟨k, xs, hk, rfl, HL, HB, HD⟩ := hrel
    obtain ⟨wo, rfl⟩ : ∃ wo : World, wo = wr := ⟨_, rfl⟩
    by_cases hk0 : 0 < k
    · go_wp2_with fail
      refine (c_l01Next b ((k : Int) + 1) _ HD.out.1 (by omega) (by omega)).mono ?_; rintro e w2 ⟨r, rfl, r0, r1, hd⟩
      obtain ⟨u, rfl⟩ : ∃ u : Nat, r = u := ⟨r.toNat, by omega⟩
      have hun : u < n := by omega
      have hB2 := hd.blk HB.out (by omega)
      have HD2 := Lib.hid (HD.out.trans hd)
      have hl := HL.out.1
      have l1 := hB2.labN k (by omega)
      have l2 := hB2.labN u (by omega)
      have f1 := hB2.frozen k
      have f2 := hB2.frozen u
      have s1 := hB2.labSet (k : Int) (by omega) (by omega) (nth xs (u : Int))
      rw [Int.toNat_natCast] at s1
      have s2 := s1.labSet (u : Int) (by omega) (by rw [List.length_set]; omega) (nth xs (k : Int))
      rw [Int.toNat_natCast] at s2
      have hg2 := s1.frozen u
      obtain ⟨z, hz⟩ : ∃ z, (w2.setCell ⟨g, k, none⟩ (.int .i64 (nth xs (u : Int)))).cell? ⟨g, u, none⟩ = some z := ⟨_, s1.labN u (by rw [List.length_set]; omega)⟩
      have HS2 := Lib.hid s2
      have hgb : b < g := by omega
      clear s1 s2 hd hl
      go_wp2
      go_roundw
      case rel =>
        refine ⟨k - 1, _, by omega, by go_num, Lib.hid ?_, HS2, Lib.hid ?_⟩
        · exact ⟨by simpa using HL.out.1, swap_perm2 HL.out.2 (by rw [HL.out.1]; exact hk) (by rw [HL.out.1]; exact hun)⟩
        · have kk := (HD2.out.2.setCell (p := ⟨g, k, none⟩) (.inr ?_) (.int .i64 (nth xs (u : Int)))).setCell (p := ⟨g, u, none⟩) (.inr ?_) (.int .i64 (nth xs (k : Int)))
          · refine ⟨?_, kk⟩
            exact HD2.out.1.keep (S := fun x => x = g) (((Keep.refl (fun x => x = g) w2).setCell (p := ⟨g, k, none⟩) (.inl rfl) _).setCell (p := ⟨g, u, none⟩) (.inl rfl) _) (fun p hp e => by have e : p = g := e; omega)
          · show w.heap.size ≤ g; omega
          · show w.heap.size ≤ g; omega
      case measure => simp [intOf]; omega
    · obtain rfl : k = 0 := by omega
      go_wp2
      go_ret
      exact ⟨_, xs, rfl, HL.out.1, HL.out.2, Own.shut HB.out (by omega) (by rw [HL.out.1]; exact HMX.out) HL.out.1.symm (by rw [HL.out.1]), HD.out⟩


/-- A pair of tables that can be read, all of it from lo on. -/
def SolAt (lo : Nat) (w : World) (v1 v2 : Value) (A B : List (List Int)) : Prop := RowsW lo w v1 A ∧ RowsW lo w v2 B
theorem SolAt.sol {lo : Nat} {w : World} {v1 v2 : Value} {A B : List (List Int)} (h : SolAt lo w v1 v2 A B) : Sol w v1 v2 A B := ⟨h.1.rows, h.2.rows⟩
theorem SolAt.drew {b lo : Nat} {w1 w2 : World} {v1 v2 : Value} {A B : List (List Int)} (h : SolAt lo w1 v1 v2 A B) (hd : Drew b w1 w2) (hb : b < lo) : SolAt lo w2 v1 v2 A B := ⟨drew_w hd h.1 hb, drew_w hd h.2 hb⟩
theorem rsolR_at {w w' : World} {A B : List (List Int)} {e : Ending} (h : RSolR w A B e w') : ∃ r1 r2, e = .returned (.agg #[r1, r2]) ∧ SolAt w.heap.size w' r1 r2 A B ∧ Below w.heap.size w w' := by
  obtain ⟨r1, r2, he, ⟨h1, h2⟩, hb⟩ := h
  exact ⟨r1, r2, he, ⟨h1.wr, h2.wr⟩, hb⟩
theorem RowsAt.mono {lo lo' : Nat} {w : World} {v : Value} {X : List (List Int)} (h : RowsAt lo w v X) (hl : lo' ≤ lo) : RowsAt lo' w v X := by
  obtain ⟨a, c, hv, h1, h2, hc⟩ := h
  exact ⟨a, c, hv, h1, h2, fun i hi => by obtain ⟨b, o, u, ha, hlo, hcell, hu⟩ := hc i hi; exact ⟨b, o, u, ha, by omega, hcell, hu.1, fun b o e => Nat.le_trans hl (hu.2 b o e)⟩⟩
theorem SolAt.mono {lo lo' : Nat} {w : World} {v1 v2 : Value} {A B : List (List Int)} (h : SolAt lo w v1 v2 A B) (hl : lo' ≤ lo) : SolAt lo' w v1 v2 A B := ⟨h.1.mono hl, h.2.mono hl⟩

set_option maxRecDepth 100000 in
set_option maxHeartbeats 1600000 in
theorem c_l02Twisted (b n : Nat) (w : World) (hs : Src w b) (h1 : 1 ≤ n) (h2 : n ≤ 12) :
    Calls Tryd.prog 79 #[.pointer (some ⟨b, 0, none⟩), .int .i64 n] w (fun e w' => ∃ (r1 r2 : Value) (A B : List (List Int)), e = .returned (.agg #[r1, r2]) ∧ SolAt w.heap.size w' r1 r2 A B ∧ isPM A B = true ∧ A.length = n ∧ Drew b w w') := by
  have HS := Lib.hid hs; have hbl := hs.lt; clear hs
  have HF0 : Hid (Blk (w.alloc (.cells #[.slice none 0 0, .slice none 0 0] 38)) w.heap.size 38 [.slice none 0 0, .slice none 0 0]) := Lib.hid (Blk.new w [.slice none 0 0, .slice none 0 0] 38)
  have HB0 : Hid (Below w.heap.size w (w.alloc (.cells #[.slice none 0 0, .slice none 0 0] 38))) := Lib.hid ((Below.refl _ _).alloc (Nat.le_refl _) _)
  go_enter Tryd.func79, Tryd.ntmps79
  have HS0 := Lib.hid (HS.out.under HB0.out)
  have HD0 := Lib.hid ((Drew.refl HS.out).under HB0.out)
  go_wp2_with fail
  refine (c_l01DrawP b n _ HS0.out h1 (by omega)).mono ?_; rintro e w1 ⟨r, p, rfl, hpl, hpp, hop, hd1⟩
  have HF1 := Lib.hid (hd1.blk HF0.out (by omega)); have HD1 := Lib.hid (HD0.out.trans hd1)
  have HP := Lib.hid (hop.mono (show w.heap.size ≤ _ by simp)); have HPP := Lib.hid (And.intro hpl hpp)
  clear hop hd1 hpl hpp
  go_wp2_with fail
  refine (c_l01Unit n _ (by omega)).mono ?_; rintro e w2 ⟨ru, rfl, hou, hb2⟩
  have HF2 := Lib.hid (HF1.out.under hb2); have HD2 := Lib.hid (HD1.out.under hb2); have HP2 := Lib.hid (HP.out.under hb2)
  have HQ2 := Lib.hid (hou.mono HD1.out.2.size)
  clear hou hb2
  go_wp2_with fail
  refine (c_l01Next b 4 _ HD2.out.1 (by omega) (by omega)).mono ?_; rintro e w3 ⟨t, rfl, t0, t1, hd3⟩
  obtain ⟨k0, rfl⟩ : ∃ k0 : Nat, t = k0 := ⟨t.toNat, by omega⟩
  have HF3 := Lib.hid (hd3.blk HF2.out (by omega)); have HD3 := Lib.hid (HD2.out.trans hd3)
  have HP3 := Lib.hid (hd3.own HP2.out hbl); have HQ3 := Lib.hid (hd3.own HQ2.out hbl)
  clear hd3
  go_wp2
  go_loopw [6, 7] (fun q k wr => ∃ (s : Nat) (qs : List Int), s ≤ 4 ∧ k = .int .i64 s ∧ Hid (Own w.heap.size wr q qs) ∧ Hid (qs.length = n ∧ Permuted qs) ∧ Hid (Own w.heap.size wr r p) ∧ Hid (Blk wr w.heap.size 38 [.slice none 0 0, .slice none 0 0]) ∧ Hid (Drew b w wr)) (fun _ k _ => (intOf k).toNat)
  case atStart => exact ⟨k0, iota n, by omega, rfl, HQ3, Lib.hid ⟨by simp, permuted_iota n⟩, HP3, HF3, HD3⟩
  case round =>
    clear HQ3 HP3 HF3 HD3
    obtain ⟨s, qs, hs4, rfl, HQ, HR, HP7, HF7, HD7⟩ := hrel
    by_cases hs0 : 0 < s
    · go_wp2_with fail
      refine (c_l01Then _ _ qs p _ HQ.out.ints HP7.out.ints (fun x hx => by have := HR.out.2.2 x hx; have := HR.out.1; have := HPP.out.1; omega) (by rw [HR.out.1]; omega)).mono ?_; rintro e w8 ⟨r8, rfl, ho8, hb8⟩
      have HQ8 := Lib.hid (ho8.mono HD7.out.2.size); have HP8 := Lib.hid (HP7.out.under hb8); have HF8 := Lib.hid (HF7.out.under hb8); have HD8 := Lib.hid (HD7.out.under hb8)
      have HR8 : Hid ((thenL qs p).length = n ∧ Permuted (thenL qs p)) := Lib.hid ⟨by rw [thenL_length]; exact HR.out.1, then_perm HR.out.2 HPP.out.2 (by rw [HPP.out.1, HR.out.1])⟩
      clear ho8 hb8
      go_wp2
      go_roundw
      case rel => exact ⟨s - 1, thenL qs p, by omega, by go_num, HQ8, HR8, HP8, HF8, HD8⟩
      case measure => simp [intOf]; omega
    · obtain rfl : s = 0 := by omega
      go_wp2_with fail
      refine (c_l01Next b 2 _ HD7.out.1 (by omega) (by omega)).mono ?_; rintro e w6 ⟨t, rfl, t0, t1, hd6⟩
      have HF6 := Lib.hid (hd6.blk HF7.out (by omega)); have HD6 := Lib.hid (HD7.out.trans hd6)
      have HP6 := Lib.hid (hd6.own HP7.out hbl); have HQ6 := Lib.hid (hd6.own HQ.out hbl)
      clear hd6
      have hnp : p.length = n := HPP.out.1
      have hnq : qs.length = n := HR.out.1
      have HNP := Lib.hid hnp; have HNQ := Lib.hid hnq
      clear hnp hnq
      by_cases ht : t = 0
      · subst ht
        go_wp2_with fail
        refine (c_l02Twist _ _ p qs _ HP6.out.ints HQ6.out.ints (by rw [HNP.out, HNQ.out]) (by rw [HNP.out]; omega)).mono ?_; rintro e w9 hz
        have PMX : isPM (twA p) (twB p qs) = true := tw_pm HPP.out.2 HR.out.2 (by rw [HNP.out, HNQ.out]) (by rw [HNP.out]; exact h1) (by rw [HNP.out]; exact h2)
        have LENX : (twA p).length = n := by simp [twA]; exact HNP.out
        obtain ⟨r8, r9, he, hsa, hb9⟩ := rsolR_at hz
        subst he
        obtain ⟨sa1, sl1, sc1, hv1⟩ := hsa.sol.1.any
        obtain ⟨sa2, sl2, sc2, hv2⟩ := hsa.sol.2.any
        subst hv1 hv2
        have hf := HF6.out.under hb9
        obtain ⟨z0, z1, z2, z3⟩ := two_cells hf
        have HSA := Lib.hid hsa; have HB9 := Lib.hid hb9
        clear hz hsa hb9 hf
        go_wp2
        have kz : Keep (fun x => x = w.heap.size) w9 ((w9.setCell ⟨w.heap.size, 0, none⟩ (.slice sa1 sl1 sc1)).setCell ⟨w.heap.size, 1, none⟩ (.slice sa2 sl2 sc2)) := keep_early _ _ _ _
        have hlt6 := HF6.out.lt
        refine bodyPost_ret (v := .agg #[.slice sa1 sl1 sc1, .slice sa2 sl2 sc2]) (by simp [results, Tryd.results79, go_sem, z0, z1]) rfl ⟨_, _, _, _, rfl, ⟨(HSA.out.1.keep kz (fun x hx e => by have e : x = w.heap.size := e; omega)).mono (by omega), (HSA.out.2.keep kz (fun x hx e => by have e : x = w.heap.size := e; omega)).mono (by omega)⟩, PMX, LENX, ?_⟩
        exact drew_set (drew_set (HD6.out.under HB9.out) (p := ⟨w.heap.size, 0, none⟩) (Nat.le_refl _) hbl _) (p := ⟨w.heap.size, 1, none⟩) (Nat.le_refl _) hbl _
      · go_wp2_with fail
        refine (c_l02Twist _ _ qs p _ HQ6.out.ints HP6.out.ints (by rw [HNP.out, HNQ.out]) (by rw [HNQ.out]; omega)).mono ?_; rintro e w9 hz
        have PMX : isPM (twA qs) (twB qs p) = true := tw_pm HR.out.2 HPP.out.2 (by rw [HNP.out, HNQ.out]) (by rw [HNQ.out]; exact h1) (by rw [HNQ.out]; exact h2)
        have LENX : (twA qs).length = n := by simp [twA]; exact HNQ.out
        obtain ⟨r8, r9, he, hsa, hb9⟩ := rsolR_at hz
        subst he
        obtain ⟨sa1, sl1, sc1, hv1⟩ := hsa.sol.1.any
        obtain ⟨sa2, sl2, sc2, hv2⟩ := hsa.sol.2.any
        subst hv1 hv2
        have hf := HF6.out.under hb9
        obtain ⟨z0, z1, z2, z3⟩ := two_cells hf
        have HSA := Lib.hid hsa; have HB9 := Lib.hid hb9
        clear hz hsa hb9 hf
        go_wp2
        have kz : Keep (fun x => x = w.heap.size) w9 ((w9.setCell ⟨w.heap.size, 0, none⟩ (.slice sa1 sl1 sc1)).setCell ⟨w.heap.size, 1, none⟩ (.slice sa2 sl2 sc2)) := keep_early _ _ _ _
        have hlt6 := HF6.out.lt
        refine bodyPost_ret (v := .agg #[.slice sa1 sl1 sc1, .slice sa2 sl2 sc2]) (by simp [results, Tryd.results79, go_sem, z0, z1]) rfl ⟨_, _, _, _, rfl, ⟨(HSA.out.1.keep kz (fun x hx e => by have e : x = w.heap.size := e; omega)).mono (by omega), (HSA.out.2.keep kz (fun x hx e => by have e : x = w.heap.size := e; omega)).mono (by omega)⟩, PMX, LENX, ?_⟩
        exact drew_set (drew_set (HD6.out.under HB9.out) (p := ⟨w.heap.size, 0, none⟩) (Nat.le_refl _) hbl _) (p := ⟨w.heap.size, 1, none⟩) (Nat.le_refl _) hbl _
end Go.Proofs.YtnbhghgkjcfcmaaDoor

namespace Go.Proofs.YtnbhghgkjcfcmaaDoor
set_option linter.unusedVariables false
set_option linter.unusedSimpArgs false
open Go Go.RowKit

/-- n numbers below n. -/
def RowOk (n : Nat) (r : List Int) : Prop := r.length = n ∧ ∀ x ∈ r, 0 ≤ x ∧ x < (n : Int)
theorem RowOk.perm {n : Nat} {r : List Int} (h : r.length = n) (hp : Permuted r) : RowOk n r := by
  refine ⟨h, fun x hx => ?_⟩
  have := hp.2 x hx
  rw [h] at this
  exact this
theorem RowOk.set {n : Nat} {r : List Int} (h : RowOk n r) {z : Int} (h0 : 0 ≤ z) (h1 : z < n) {j : Nat} : RowOk n (r.set j z) := by
  refine ⟨by simpa using h.1, fun x hx => ?_⟩
  rcases List.mem_or_eq_of_mem_set hx with h' | h'
  · exact h.2 x h'
  · subst h'; exact ⟨h0, h1⟩
theorem rows_isTab {n : Nat} {X : List (List Int)} (h1 : 1 ≤ n) (h12 : n ≤ 12) (hl : X.length = n) (h : ∀ row ∈ X, RowOk n row) : isTab X = true := by
  have hb : X.any (rowBad X.length) = false := by
    rw [List.any_eq_false]
    intro r hr
    obtain ⟨e1, e2⟩ := h r hr
    have e3 : r.all (fun x => inR x 0 ((X.length : Int) - 1)) = true := by
      refine List.all_eq_true.2 fun x hx => ?_
      have := e2 x hx
      simp [inR]; omega
    simp [rowBad, e1, hl] at *
    first | exact e3 | (intro x hx; have := e2 x hx; simp [inR]; omega)
  have hn : inR (X.length : Int) 1 12 = true := by simp [inR]; omega
  unfold isTab
  rw [hb, hn]; rfl

set_option maxRecDepth 100000 in
set_option maxHeartbeats 4000000 in
theorem c_l01TablesT (b n : Nat) (w : World) (hs : Src w b) (h1 : 1 ≤ n) (h2 : n ≤ 1000) :
    Calls Tryd.prog 32 #[.pointer (some ⟨b, 0, none⟩), .int .i64 n] w (fun e w' => ∃ (r : Value) (X : List (List Int)), e = .returned r ∧ X.length = n ∧ (∀ row ∈ X, RowOk n row) ∧ OwnRows w.heap.size w' r X ∧ Drew b w w') := by
  have hbl := hs.lt
  have hbel : Below w.heap.size w (w.alloc (.cells #[] 32)) := (Below.refl _ _).alloc (Nat.le_refl _) _
  have HD0 := Lib.hid ((Drew.refl hs).under hbel)
  have HO0 := Lib.hid (OwnRows.made0 w (Nat.le_refl w.heap.size))
  clear hs hbel
  go_enter Tryd.func32, Tryd.ntmps32
  go_wp2_with fail
  refine (c_l01Next b 3 _ HD0.out.1 (by omega) (by omega)).mono ?_; rintro e w1 ⟨kd, rfl, k0, k3, hd1⟩
  have HD1 := Lib.hid (HD0.out.trans hd1)
  have HO1 := Lib.hid (HO0.out.keep hd1.2 (fun x h1 h2 e => by have e : x = b := e; omega))
  clear hd1
  go_wp2_with fail
  refine (c_l01DrawP b n _ HD1.out.1 h1 h2).mono ?_; rintro e w2 ⟨rf, fs, rfl, hfl, hfp, hof, hd2⟩
  have HFR := Lib.hid (RowOk.perm hfl hfp)
  clear hfp
  have HD2 := Lib.hid (HD1.out.trans hd2)
  have HO2 := Lib.hid (HO1.out.keep hd2.2 (fun x h1 h2 e => by have e : x = b := e; omega))
  rcases hof.open with ⟨_, h0⟩ | ⟨gf, cf, hv, hgf, hblk, hmx⟩
  · rw [h0] at hfl; simp at hfl; omega
  rw [hfl] at hv hmx
  subst hv
  have HF2 := Lib.hid (And.intro (hof.mono HD1.out.2.size) hfl)
  clear hof hd2 hblk hmx hgf
  go_wp2
  go_loopw [5, 8] (fun t x wr => ∃ (k : Nat) (X : List (List Int)) (ta : Option Addr) (tc : Nat), k ≤ n ∧ x = .int .i64 k ∧ t = .slice ta k tc ∧ Hid (X.length = k ∧ ∀ row ∈ X, RowOk n row) ∧ Hid (OwnRows w.heap.size wr (.slice ta k tc) X) ∧ Hid (Own w.heap.size wr (.slice (some ⟨gf, 0, none⟩) n (n + cf.length)) fs ∧ fs.length = n) ∧ Hid (Drew b w wr)) (fun _ x _ => n - (intOf x).toNat)
  case atStart => exact ⟨0, [], _, _, Nat.zero_le _, rfl, rfl, Lib.hid (by simp), HO2, HF2, HD2⟩
  case round =>
    clear HO2 HF2 HD2 HO1 HD1 HO0 HD0
    obtain ⟨k, X, ta, tc, hk, rfl, rfl, HX, HO, HF, HDr⟩ := hrel
    obtain ⟨wo, rfl⟩ : ∃ wo : World, wo = wr := ⟨_, rfl⟩
    have hwo : w.heap.size ≤ wo.heap.size := HDr.out.2.size
    by_cases hlt : k < n
    · go_wp2_with fail
      refine (c_l01DrawP b n _ HDr.out.1 h1 h2).mono ?_; rintro e w3 ⟨rr, ys0, rfl, hyl, hyp, hor, hd3⟩
      have HYr0 := Lib.hid (RowOk.perm hyl hyp)
      clear hyp
      rcases hor.open with ⟨_, h0⟩ | ⟨g, cs, hv, hgo, hblk, hmx⟩
      · rw [h0] at hyl; simp at hyl; omega
      rw [hyl] at hv hmx
      subst hv
      have HMX := Lib.hid hmx
      have HD2 := Lib.hid (HDr.out.trans hd3); have HB2 := Lib.hid hblk; have HY0 := HYr0
      have HR2 := Lib.hid (HO.out.inn.keep hd3.2 (fun x h1 h2 e => by have e : x = b := e; omega))
      have HF2 := Lib.hid (And.intro (hd3.own HF.out.1 hbl) (And.intro HF.out.2 (HF.out.1.lt (k := gf) rfl).2))
      clear hor hd3 hblk hmx hyl HO HF HDr
      by_cases hk0 : kd = 0
      · subst hk0
        go_wp2
        go_loopw [10] (fun y wi => ∃ (j : Nat) (ys : List Int), j ≤ n ∧ y = .int .i64 j ∧ Hid (RowOk n ys) ∧ Hid (Blk wi g 2 (ys.map (Value.int .i64) ++ cs)) ∧ Hid (OwnRowsIn w.heap.size wo.heap.size wi (.slice ta k tc) X) ∧ Hid (Own w.heap.size wi (.slice (some ⟨gf, 0, none⟩) n (n + cf.length)) fs ∧ fs.length = n ∧ gf < wo.heap.size) ∧ Hid (Drew b w wi)) (fun y _ => n - (intOf y).toNat)
        case atStart => exact ⟨0, ys0, Nat.zero_le _, rfl, HY0, HB2, HR2, HF2, HD2⟩
        case round =>
          clear HY0 HB2 HR2 HF2 HD2
          obtain ⟨j, ys, hj, rfl, HY, HBk, HR, HFs, HD⟩ := hrel
          obtain ⟨wi, rfl⟩ : ∃ wi : World, wi = wr := ⟨_, rfl⟩
          by_cases hlj : j < n
          · go_wp2_with fail
            refine (c_l01Next b n _ HD.out.1 (by omega) (by omega)).mono ?_; rintro e w4 ⟨z, rfl, z0, z1, hd⟩
            have hzr : 0 ≤ z ∧ z < (n : Int) := ⟨z0, z1⟩
            have hB4 := hd.blk HBk.out (by omega)
            have hl := HY.out.1
            have l1 := hB4.labN j (by omega)
            have f1 := hB4.frozen j
            have s1 := hB4.labSet (j : Int) (by omega) (by omega) z
            rw [Int.toNat_natCast] at s1
            have HS := Lib.hid s1
            have HRk := Lib.hid ((HR.out.keep hd.2 (fun x h1 h2 e => by have e : x = b := e; omega)).keep ((Keep.refl (fun x => x = g) w4).setCell (p := ⟨g, j, none⟩) (.inl rfl) (.int .i64 z)) (fun x h1 h2 e => by have e : x = g := e; have := hgo; omega))
            have HFk := Lib.hid (And.intro ((hd.own HFs.out.1 hbl).keep1 (p := ⟨g, j, none⟩) (.int .i64 z) (fun e => by simp [Value.ownBlock] at e; have := HFs.out.2.2; have := hgo; omega)) HFs.out.2)
            have HDk := Lib.hid (drew_set (HD.out.trans hd) (p := ⟨g, j, none⟩) (by show w.heap.size ≤ g; have := hgo; have := hwo; omega) (by show b < g; have := hgo; have := hwo; omega) (.int .i64 z))
            clear hB4 hl s1 hd
            go_wp2
            go_roundw
            case rel => exact ⟨j + 1, _, by omega, by go_num, Lib.hid (HY.out.set hzr.1 hzr.2), HS, HRk, HFk, HDk⟩
            case measure => simp [intOf]; omega
          · have HRI := Lib.hid HR.out
            have HFi := Lib.hid HFs.out
            have HDi := Lib.hid HD.out
            have HYs := Lib.hid HY.out.1
            have HYr := Lib.hid HY.out
            have HOr := Lib.hid (Own.shut HBk.out (Nat.le_refl _) (by rw [HYs.out]; exact HMX.out) HYs.out.symm (by rw [HYs.out]) : Own g wi (.slice (some ⟨g, 0, none⟩) n (n + cs.length)) ys)
            have HSz : Hid (wo.heap.size ≤ wi.heap.size ∧ w.heap.size ≤ wi.heap.size) := Lib.hid ⟨by have := HOr.out.lt (k := g) rfl; have := hgo; omega, by have := HDi.out.2.size; omega⟩
            go_wp2_with (at_builtin; refine wpList_app_row2 w.heap.size wo.heap.size wi _ X _ ys _ _ rfl rfl rfl HRI.out (HOr.out.mono (by have := hgo; omega)) rfl (by have := HX.out.1; omega) (by have := hwo; omega) HSz.out.2 ?_; intro ga gc w9 hown hkeep hor; have HOwn := Lib.hid hown; have HKp := Lib.hid hkeep; clear hown hkeep hor)
            go_roundw
            case rel =>
              have hX := HX.out
              refine ⟨k + 1, X ++ [ys], some ⟨ga, 0, none⟩, gc, by omega, by go_num, by rw [hX.1], Lib.hid ⟨by simp [hX.1], fun r hr => ?_⟩, Lib.hid (by have h := HOwn.out; rw [hX.1] at h; exact h), Lib.hid ⟨HFi.out.1.keepR HRI.out.out HKp.out, HFi.out.2.1⟩, Lib.hid (drew_app HDi.out HRI.out.out HKp.out hbl)⟩
              rcases List.mem_append.1 hr with h | h
              · exact hX.2 r h
              · simp at h; subst h; exact HYr.out
            case measure => simp [intOf]; omega
      · by_cases hk1 : kd = 1
        · subst hk1
          go_wp2
          go_loopw [11] (fun y wi => ∃ (j : Nat) (ys : List Int), j ≤ n ∧ y = .int .i64 j ∧ Hid (RowOk n ys) ∧ Hid (Blk wi g 2 (ys.map (Value.int .i64) ++ cs)) ∧ Hid (OwnRowsIn w.heap.size wo.heap.size wi (.slice ta k tc) X) ∧ Hid (Own w.heap.size wi (.slice (some ⟨gf, 0, none⟩) n (n + cf.length)) fs ∧ fs.length = n ∧ gf < wo.heap.size) ∧ Hid (Drew b w wi)) (fun y _ => n - (intOf y).toNat)
          case atStart => exact ⟨0, ys0, Nat.zero_le _, rfl, HY0, HB2, HR2, HF2, HD2⟩
          case round =>
            clear HY0 HB2 HR2 HF2 HD2
            obtain ⟨j, ys, hj, rfl, HY, HBk, HR, HFs, HD⟩ := hrel
            obtain ⟨wi, rfl⟩ : ∃ wi : World, wi = wr := ⟨_, rfl⟩
            by_cases hlj : j < n
            · have hmod0 := Int.emod_nonneg ((k : Int) + (j : Int)) (show (n : Int) ≠ 0 by omega)
              have hmod1 := Int.emod_lt_of_pos ((k : Int) + (j : Int)) (show (0 : Int) < n by omega)
              obtain ⟨u, hu⟩ : ∃ u : Nat, ((k : Int) + (j : Int)) % (n : Int) = u := ⟨(((k : Int) + (j : Int)) % (n : Int)).toNat, by omega⟩
              have hun : u < n := by omega
              obtain ⟨_, _, e1, hcf⟩ := HFs.out.1.ints.get u (by rw [HFs.out.2.1]; exact hun)
              injection e1 with e1; injection e1 with e1 e2; subst e1 e2
              rw [Nat.zero_add] at hcf
              have hl := HY.out.1
              have l1 := HBk.out.labN j (by omega)
              have f1 := HBk.out.frozen j
              have hzr := HFR.out.2 (nth fs u) (nth_mem (by omega) (by rw [HFR.out.1]; omega))
              obtain ⟨z, hz⟩ : ∃ z, nth fs u = z := ⟨_, rfl⟩
              rw [hz] at hzr
              rw [hz] at hcf
              have s1 := HBk.out.labSet (j : Int) (by omega) (by omega) z
              rw [Int.toNat_natCast] at s1
              have HS := Lib.hid s1
              have HRk := Lib.hid (HR.out.keep ((Keep.refl (fun x => x = g) wi).setCell (p := ⟨g, j, none⟩) (.inl rfl) (.int .i64 z)) (fun x h1 h2 e => by have e : x = g := e; have := hgo; omega))
              have HFk := Lib.hid (And.intro (HFs.out.1.keep1 (p := ⟨g, j, none⟩) (.int .i64 z) (fun e => by simp [Value.ownBlock] at e; have := HFs.out.2.2; have := hgo; omega)) HFs.out.2)
              have HDk := Lib.hid (drew_set HD.out (p := ⟨g, j, none⟩) (by show w.heap.size ≤ g; have := hgo; have := hwo; omega) (by show b < g; have := hgo; have := hwo; omega) (.int .i64 z))
              clear hl s1 hz hmod0 hmod1
              go_wp2
              go_roundw
              case rel => exact ⟨j + 1, _, by omega, by go_num, Lib.hid (HY.out.set hzr.1 hzr.2), HS, HRk, HFk, HDk⟩
              case measure => simp [intOf]; omega
            · have HRI := Lib.hid HR.out
              have HFi := Lib.hid HFs.out
              have HDi := Lib.hid HD.out
              have HYs := Lib.hid HY.out.1
              have HYr := Lib.hid HY.out
              have HOr := Lib.hid (Own.shut HBk.out (Nat.le_refl _) (by rw [HYs.out]; exact HMX.out) HYs.out.symm (by rw [HYs.out]) : Own g wi (.slice (some ⟨g, 0, none⟩) n (n + cs.length)) ys)
              have HSz : Hid (wo.heap.size ≤ wi.heap.size ∧ w.heap.size ≤ wi.heap.size) := Lib.hid ⟨by have := HOr.out.lt (k := g) rfl; have := hgo; omega, by have := HDi.out.2.size; omega⟩
              go_wp2_with (at_builtin; refine wpList_app_row2 w.heap.size wo.heap.size wi _ X _ ys _ _ rfl rfl rfl HRI.out (HOr.out.mono (by have := hgo; omega)) rfl (by have := HX.out.1; omega) (by have := hwo; omega) HSz.out.2 ?_; intro ga gc w9 hown hkeep hor; have HOwn := Lib.hid hown; have HKp := Lib.hid hkeep; clear hown hkeep hor)
              go_roundw
              case rel =>
                have hX := HX.out
                refine ⟨k + 1, X ++ [ys], some ⟨ga, 0, none⟩, gc, by omega, by go_num, by rw [hX.1], Lib.hid ⟨by simp [hX.1], fun r hr => ?_⟩, Lib.hid (by have h := HOwn.out; rw [hX.1] at h; exact h), Lib.hid ⟨HFi.out.1.keepR HRI.out.out HKp.out, HFi.out.2.1⟩, Lib.hid (drew_app HDi.out HRI.out.out HKp.out hbl)⟩
                rcases List.mem_append.1 hr with h | h
                · exact hX.2 r h
                · simp at h; subst h; exact HYr.out
              case measure => simp [intOf]; omega
        · have hz0 : (kd == 0) = false := by simp [hk0]
          have hz1 : (kd == 1) = false := by simp [hk1]
          have HRI := Lib.hid HR2.out
          have HFi := Lib.hid HF2.out
          have HDi := Lib.hid HD2.out
          have HYs := Lib.hid HY0.out.1
          have HYr := Lib.hid HY0.out
          have HOr := Lib.hid (Own.shut HB2.out (Nat.le_refl _) (by rw [HYs.out]; exact HMX.out) HYs.out.symm (by rw [HYs.out]) : Own g w3 (.slice (some ⟨g, 0, none⟩) n (n + cs.length)) ys0)
          have HSz : Hid (wo.heap.size ≤ w3.heap.size ∧ w.heap.size ≤ w3.heap.size) := Lib.hid ⟨by have := HOr.out.lt (k := g) rfl; have := hgo; omega, by have := HDi.out.2.size; omega⟩
          go_wp2_with (at_builtin; refine wpList_app_row2 w.heap.size wo.heap.size w3 _ X _ ys0 _ _ rfl rfl rfl HRI.out (HOr.out.mono (by have := hgo; omega)) rfl (by have := HX.out.1; omega) (by have := hwo; omega) HSz.out.2 ?_; intro ga gc w9 hown hkeep hor; have HOwn := Lib.hid hown; have HKp := Lib.hid hkeep; clear hown hkeep hor)
          go_roundw
          case rel =>
            have hX := HX.out
            refine ⟨k + 1, X ++ [ys0], some ⟨ga, 0, none⟩, gc, by omega, by go_num, by rw [hX.1], Lib.hid ⟨by simp [hX.1], fun r hr => ?_⟩, Lib.hid (by have h := HOwn.out; rw [hX.1] at h; exact h), Lib.hid ⟨HFi.out.1.keepR HRI.out.out HKp.out, HFi.out.2.1⟩, Lib.hid (drew_app HDi.out HRI.out.out HKp.out hbl)⟩
            rcases List.mem_append.1 hr with h | h
            · exact hX.2 r h
            · simp at h; subst h; exact HYr.out
          case measure => simp [intOf]; omega
    · obtain rfl : n = k := by omega
      go_wp2
      go_ret
      exact ⟨_, X, rfl, HX.out.1, HX.out.2, HO.out, HDr.out⟩
end Go.Proofs.YtnbhghgkjcfcmaaDoor

namespace Go.Proofs.YtnbhghgkjcfcmaaDoor
set_option linter.unusedVariables false
set_option linter.unusedSimpArgs false
open Go Go.RowKit

theorem tabText_little {t : List (List Int)} (ht : isTab t = true) : (tabText t).size ≤ 156 := by
  obtain ⟨_, h12⟩ := isTab_len ht
  have := tabText_size (t := t) (n := 12) (fun r hr => by
    obtain ⟨j, hj, rfl⟩ := List.getElem_of_mem hr
    have := isTab_row ht (x := j) (by omega) (by omega)
    rw [row_nat _ _ hj] at this; omega)
  have h3 := Nat.mul_le_mul h12 (show 12 + 1 ≤ 13 by omega)
  omega
theorem round_pot {m i h i1 i2 h2 : Nat} (hn : (i < m → i < i1) ∧ (m ≤ i → m ≤ i1 ∧ (0 : Int) = ((xOf (lcg h) : Nat) : Int) % 3)) (hi : i1 < m → i1 < i2) (hm : m ≤ i1 → m ≤ i2 ∧ ∃ g, (g = 1 ∨ g = 3) ∧ h2 = lcgN g (lcg h)) : pot m i2 h2 + 1 ≤ pot m i h := by
  by_cases h0 : i < m
  · refine pot_code h0 ?_
    have h1 := hn.1 h0
    by_cases h2 : i1 < m
    · have := hi h2; omega
    · have := (hm (by omega)).1; omega
  · obtain ⟨h1, h3⟩ := hn.2 (by omega)
    obtain ⟨h4, g, hg, rfl⟩ := hm h1
    have e : lcgN g (lcg h) = lcgN (1 + g) h := by rw [← lcgN_one, lcgN_shift]
    rw [e]
    refine pot_free (by omega) h4 ?_ (by rcases hg with rfl | rfl; exact .inl rfl; exact .inr rfl)
    unfold T3; omega

set_option maxHeartbeats 1600000 in
theorem c_DrawIsTable (v : Value) (n : Nat) (w : World) (hv : BytesR w v n) (hn : n ≤ 4096) :
    Calls Tryd.prog 25 #[v] w (fun e w' => ∃ (r : Value) (X : List (List Int)), e = .returned r ∧ Rows w' r X ∧ Below w.heap.size w w') := by
  have HV := Lib.hid hv
  obtain ⟨a, c, hva, -⟩ := hv
  subst hva
  go_enter Tryd.func25, Tryd.ntmps25
  go_wp2_with fail
  refine (c_l01From _ n _ HV.out hn).mono ?_; rintro e w1 ⟨b, rfl, hwb, hs, hb1⟩
  have HS := Lib.hid hs; have HB1 := Lib.hid hb1; clear hs hb1
  go_wp2_with fail
  refine (c_l01Size b _ HS.out).mono ?_; rintro e w2 ⟨k, rfl, k1, k12, hd2⟩
  have HD2 := Lib.hid hd2; clear hd2
  go_wp2_with fail
  refine (c_l01Bad b k _ HD2.out.1 k1 (by omega)).mono ?_; rintro e w3 ⟨r, X, rfl, hl, hr, hor, hd3⟩
  have HR := Lib.hid hor.rows; have HB := Lib.hid ((HD2.out.trans hd3).below HB1.out hwb HB1.out.size)
  clear hor hd3 hl hr
  go_wp2
  go_ret
  exact ⟨r, X, rfl, HR.out, HB.out⟩
theorem c_DrawTableText (v : Value) (n : Nat) (w : World) (hv : BytesR w v n) (hn : n ≤ 4096) :
    Calls Tryd.prog 6 #[v] w (fun e w' => ∃ (r : Value) (X : List (List Int)), e = .returned r ∧ Rows w' r X ∧ Below w.heap.size w w') := by
  have HV := Lib.hid hv
  obtain ⟨a, c, hva, -⟩ := hv
  subst hva
  go_enter Tryd.func6, Tryd.ntmps6
  go_wp2_with fail
  refine (c_DrawIsTable _ n _ HV.out hn).mono ?_; rintro e w1 ⟨r, X, rfl, hr, hb⟩
  have HR := Lib.hid hr; have HB := Lib.hid hb; clear hr hb
  go_wp2
  go_ret
  exact ⟨r, X, rfl, HR.out, HB.out⟩
set_option maxRecDepth 100000 in
set_option maxHeartbeats 4000000 in
theorem c_DrawParsePermutation (v : Value) (n : Nat) (w : World) (hv : BytesR w v n) (hn : n ≤ 4096) :
    Calls Tryd.prog 13 #[v] w (fun e w' => ∃ t : ByteArray, e = .returned (.string t) ∧ t.size ≤ 1099511627776 ∧ Below w.heap.size w w') := by
  have HV := Lib.hid hv
  obtain ⟨a, c, hva, -⟩ := hv
  subst hva
  go_enter Tryd.func13, Tryd.ntmps13
  go_wp2_with fail
  refine (c_l01From _ n _ HV.out hn).mono ?_; rintro e w1 ⟨b, rfl, hwb, hs, hb1⟩
  have HS := Lib.hid hs; have HB1 := Lib.hid hb1; clear hs hb1
  go_wp2_with fail
  refine (c_l01Size b _ HS.out).mono ?_; rintro e w2 ⟨k, rfl, k1, k12, hd2⟩
  have HD2 := Lib.hid hd2; clear hd2
  go_wp2_with fail
  refine (c_l01DrawP b k _ HD2.out.1 k1 (by omega)).mono ?_; rintro e w3 ⟨r3, xs, rfl, hxl, hxp, ho, hd3⟩
  have HD3 := Lib.hid (HD2.out.trans hd3); have HO := Lib.hid ho.ints
  have HR := Lib.hid (RowOk.perm hxl hxp)
  clear ho hd3 hxp hxl
  have hrng : ∀ x ∈ xs, 0 ≤ x ∧ x < 12 := fun x hx => by have := HR.out.2 x hx; omega
  have hlen : xs.length ≤ 1048576 := by have := HR.out.1; omega
  go_wp2_with fail
  refine (c_l01Line _ xs _ HO.out hrng hlen).mono ?_; rintro e w4 ⟨rfl, hb4⟩
  have HSt := Lib.hid (HD3.out.under hb4).1
  have HBe := Lib.hid ((HD3.out.under hb4).below HB1.out hwb HB1.out.size)
  have HTs := Lib.hid (show (textOf xs).size ≤ 1000 by rw [textOf_size]; have := HR.out.1; omega)
  clear hb4 hrng hlen
  obtain ⟨m, i, h, hsx⟩ := HSt.out.x
  have HX := Lib.hid hsx
  have HGs := Lib.hid (show (textOf xs).size + pot m i h ≤ 549755900000 by have := pot_le (i := i) (h := h) hsx.m4; have := HTs.out; omega)
  clear hsx
  go_wp2
  go_loopg [4] (pot m i h) (fun gn s wr => ∃ (t : ByteArray) (i h : Nat), s = .string t ∧ Hid (t.size + gn ≤ 549755900000) ∧ Hid (gn = pot m i h) ∧ Hid (SrcX wr b m i h) ∧ Hid (Below w.heap.size w wr))
  case atStart => exact ⟨textOf xs, i, h, rfl, HGs, Lib.hid rfl, HX, HBe⟩
  case round =>
    clear HX HGs HBe HSt HTs
    obtain ⟨t, i, h, rfl, HSz, HG, HX, HB⟩ := hrel
    obtain ⟨wo, rfl⟩ : ∃ wo : World, wo = wr := ⟨_, rfl⟩
    go_wp2_with fail
    refine (c_l01NextX b m i h 3 _ HX.out (by omega) (by omega)).mono ?_; rintro e w3 ⟨r, i1, rfl, r0, r1, hs1, hi1, hm1, hk1⟩
    have hwo : w.heap.size ≤ wo.heap.size := HB.out.size
    have HB3 := Lib.hid (HB.out.trans (hk1.below (B := w.heap.size) fun k hk => ⟨by omega, fun e => by have e : k = b := e; omega⟩))
    have HS1 := Lib.hid hs1
    have HN := Lib.hid (And.intro hi1 hm1)
    clear hs1 hi1 hm1 hk1
    by_cases hr : r = 0
    · subst hr
      have hts : t.size ≤ 1099511627776 := by have := HSz.out; omega
      go_wp2_with fail
      refine (c_l01Damage b m i1 (lcg h) t _ HS1.out hts).mono ?_; rintro e w4 ⟨t', i2, h2, rfl, hsz, hs2, hi2, hm2, hk2⟩
      have hw3 : w.heap.size ≤ w3.heap.size := HB3.out.size
      have HB4 := Lib.hid (HB3.out.trans (hk2.below (B := w.heap.size) fun k hk => ⟨by omega, fun e => by have e : k = b := e; omega⟩))
      have HP := Lib.hid (round_pot HN.out hi2 hm2)
      have HS2 := Lib.hid hs2; have HZ := Lib.hid hsz
      clear hs2 hi2 hm2 hk2 hsz
      go_wp2
      go_roundg (pot m i2 h2)
      case measure => have := HP.out; have := HG.out; omega
      case rel => exact ⟨t', i2, h2, rfl, Lib.hid (by have := HP.out; have := HG.out; have := HSz.out; have := HZ.out; omega), Lib.hid rfl, HS2, HB4⟩
    · have hrb : (r == 0) = false := by simpa using hr
      go_wp2
      go_ret
      exact ⟨t, rfl, by have := HSz.out; omega, HB3.out⟩
set_option maxRecDepth 100000 in
set_option maxHeartbeats 4000000 in
theorem c_DrawParseTable (v : Value) (n : Nat) (w : World) (hv : BytesR w v n) (hn : n ≤ 4096) :
    Calls Tryd.prog 11 #[v] w (fun e w' => ∃ t : ByteArray, e = .returned (.string t) ∧ t.size ≤ 1099511627776 ∧ Below w.heap.size w w') := by
  have HV := Lib.hid hv
  obtain ⟨a, c, hva, -⟩ := hv
  subst hva
  go_enter Tryd.func11, Tryd.ntmps11
  go_wp2_with fail
  refine (c_l01From _ n _ HV.out hn).mono ?_; rintro e w1 ⟨b, rfl, hwb, hs, hb1⟩
  have HS := Lib.hid hs; have HB1 := Lib.hid hb1; clear hs hb1
  go_wp2_with fail
  refine (c_l01Size b _ HS.out).mono ?_; rintro e w2 ⟨k, rfl, k1, k12, hd2⟩
  have HD2 := Lib.hid hd2; clear hd2
  go_wp2_with fail
  refine (c_l01TablesT b k _ HD2.out.1 k1 (by omega)).mono ?_; rintro e w3 ⟨r3, X, rfl, hXl, hXr, ho, hd3⟩
  have HD3 := Lib.hid (HD2.out.trans hd3); have HO := Lib.hid ho.rows
  have ht := rows_isTab k1 k12 hXl hXr
  have HTb := Lib.hid ht
  clear ho hd3 hXl hXr
  go_wp2_with fail
  refine (c_l01Text _ X _ HO.out ht).mono ?_; rintro e w4 ⟨rfl, hb4⟩
  have HSt := Lib.hid (HD3.out.under hb4).1
  have HBe := Lib.hid ((HD3.out.under hb4).below HB1.out hwb HB1.out.size)
  have HTs := Lib.hid (show (tabText X).size ≤ 1000 by have := tabText_little ht; omega)
  clear hb4 ht
  obtain ⟨m, i, h, hsx⟩ := HSt.out.x
  have HX := Lib.hid hsx
  have HGs := Lib.hid (show (tabText X).size + pot m i h ≤ 549755900000 by have := pot_le (i := i) (h := h) hsx.m4; have := HTs.out; omega)
  clear hsx
  go_wp2
  go_loopg [4] (pot m i h) (fun gn s wr => ∃ (t : ByteArray) (i h : Nat), s = .string t ∧ Hid (t.size + gn ≤ 549755900000) ∧ Hid (gn = pot m i h) ∧ Hid (SrcX wr b m i h) ∧ Hid (Below w.heap.size w wr))
  case atStart => exact ⟨tabText X, i, h, rfl, HGs, Lib.hid rfl, HX, HBe⟩
  case round =>
    clear HX HGs HBe HSt HTs
    obtain ⟨t, i, h, rfl, HSz, HG, HX, HB⟩ := hrel
    obtain ⟨wo, rfl⟩ : ∃ wo : World, wo = wr := ⟨_, rfl⟩
    go_wp2_with fail
    refine (c_l01NextX b m i h 3 _ HX.out (by omega) (by omega)).mono ?_; rintro e w3 ⟨r, i1, rfl, r0, r1, hs1, hi1, hm1, hk1⟩
    have hwo : w.heap.size ≤ wo.heap.size := HB.out.size
    have HB3 := Lib.hid (HB.out.trans (hk1.below (B := w.heap.size) fun k hk => ⟨by omega, fun e => by have e : k = b := e; omega⟩))
    have HS1 := Lib.hid hs1
    have HN := Lib.hid (And.intro hi1 hm1)
    clear hs1 hi1 hm1 hk1
    by_cases hr : r = 0
    · subst hr
      have hts : t.size ≤ 1099511627776 := by have := HSz.out; omega
      go_wp2_with fail
      refine (c_l01Damage b m i1 (lcg h) t _ HS1.out hts).mono ?_; rintro e w4 ⟨t', i2, h2, rfl, hsz, hs2, hi2, hm2, hk2⟩
      have hw3 : w.heap.size ≤ w3.heap.size := HB3.out.size
      have HB4 := Lib.hid (HB3.out.trans (hk2.below (B := w.heap.size) fun k hk => ⟨by omega, fun e => by have e : k = b := e; omega⟩))
      have HP := Lib.hid (round_pot HN.out hi2 hm2)
      have HS2 := Lib.hid hs2; have HZ := Lib.hid hsz
      clear hs2 hi2 hm2 hk2 hsz
      go_wp2
      go_roundg (pot m i2 h2)
      case measure => have := HP.out; have := HG.out; omega
      case rel => exact ⟨t', i2, h2, rfl, Lib.hid (by have := HP.out; have := HG.out; have := HSz.out; have := HZ.out; omega), Lib.hid rfl, HS2, HB4⟩
    · have hrb : (r == 0) = false := by simpa using hr
      go_wp2
      go_ret
      exact ⟨t, rfl, by have := HSz.out; omega, HB3.out⟩
end Go.Proofs.YtnbhghgkjcfcmaaDoor

namespace Go.Proofs.YtnbhghgkjcfcmaaDoor
set_option linter.unusedVariables false
set_option linter.unusedSimpArgs false
open Go Go.RowKit

/-- A table of the call's own, all its blocks in P. -/
def OwnP (lo : Nat) (P : Nat → Prop) (w : World) (v : Value) (t : List (List Int)) : Prop :=
  ∃ us, w.ownsRow lo 32 1 v us.length us ∧ RowVals lo w us t ∧ (∀ k, v.ownBlock = some k → P k) ∧ ∀ i (h : i < us.length) k, us[i].ownBlock = some k → P k
theorem OwnP.out {lo : Nat} {P : Nat → Prop} {w : World} {v : Value} {t : List (List Int)} (h : OwnP lo P w v t) : OwnRows lo w v t := by
  obtain ⟨us, h1, h2, _⟩ := h
  exact ⟨us, h1, h2⟩
theorem OwnP.imp {lo : Nat} {P Q : Nat → Prop} {w : World} {v : Value} {t : List (List Int)} (h : OwnP lo P w v t) (hpq : ∀ b, P b → Q b) : OwnP lo Q w v t := by
  obtain ⟨us, h1, h2, h3, h4⟩ := h
  exact ⟨us, h1, h2, fun k hk => hpq k (h3 k hk), fun i hi k hk => hpq k (h4 i hi k hk)⟩
theorem OwnP.nil (lo : Nat) (P : Nat → Prop) (w : World) : OwnP lo P w (.slice none 0 0) [] :=
  ⟨[], ⟨by simp, .inl ⟨rfl, rfl⟩⟩, RowVals.nil _ _, (by intro k hk; cases hk), (by intro i hi; simp at hi)⟩
theorem OwnP.keep {lo : Nat} {P S : Nat → Prop} {w w' : World} {v : Value} {t : List (List Int)} (h : OwnP lo P w v t) (k : Keep S w w') (hs : ∀ b, P b → ¬ S b) : OwnP lo P w' v t := by
  obtain ⟨us, h1, h2, h3, h4⟩ := h
  refine ⟨us, ?_, ⟨h2.len, fun i hi hi' => ?_, h2.apart⟩, h3, h4⟩
  · obtain ⟨hl, hn | ⟨g, cap, cur, hv, hb, hg, r⟩⟩ := h1
    · exact ⟨hl, .inl hn⟩
    · exact ⟨hl, .inr ⟨g, cap, cur, hv, hb, by rw [k.block g (Array.getElem?_eq_some_iff.1 hg).1 (hs g (h3 g (by rw [hv]; rfl)))]; exact hg, r⟩⟩
  · have h6 := h4 i hi
    obtain ⟨hl, hn | ⟨g, cap, cur, hv, hb, hg, r⟩⟩ := h2.own i hi hi'
    · exact ⟨hl, .inl hn⟩
    · exact ⟨hl, .inr ⟨g, cap, cur, hv, hb, by rw [k.block g (Array.getElem?_eq_some_iff.1 hg).1 (hs g (h6 g (by rw [hv]; rfl)))]; exact hg, r⟩⟩
theorem OwnP.under {lo : Nat} {P : Nat → Prop} {w w' : World} {v : Value} {t : List (List Int)} (h : OwnP lo P w v t) (hb : Below w.heap.size w w') : OwnP lo P w' v t := by
  obtain ⟨us, h1, h2, h3, h4⟩ := h
  exact ⟨us, ownsRow_keep h1 (Keep.of_below hb) (fun b _ hlt => by omega), h2.under hb, h3, h4⟩

/-- 'append(s, u)' at an operation: the new array is the old one or a new block; the blocks are told. -/
theorem wp_app_rowP {o : Oper} {a : Act} {K : Act → World → Prop} {Q : Exit → Act → World → Prop} (P : Nat → Prop) (B m : Nat) (w : World) (v : Value) (xss : List (List Int)) (u : Value) (xs : List Int) (s x : Operand)
    (ho : o.op = .call { callee := .builtin .append, args := #[s, x], argTypes := #[24, 24] })
    (hs : a.eval s = v) (hown : OwnP B P w v xss) (hP : ∀ b, P b → b < m) (hu : Own m w u xs) (hx : a.eval x = .slice (some ⟨w.heap.size, 0, none⟩) 1 1) (hn : xss.length ≤ 1099511627776) (hB : B ≤ m) (hB2 : B ≤ w.heap.size)
    (h : ∀ g c' w', OwnP B (fun b => P b ∨ u.ownBlock = some b ∨ b = g) w' (.slice (some ⟨g, 0, none⟩) (xss.length + 1) c') (xss ++ [xs]) → Keep (fun b => v.ownBlock = some b) w w' → (v.ownBlock = some g ∨ w.heap.size ≤ g) → K (a.put o.dst (.slice (some ⟨g, 0, none⟩) (xss.length + 1) c')) w') :
    o.wp Tryd.prog a (w.alloc (.cells #[u] 32)) K Q := by
  obtain ⟨us, h1, h2, hv3, hlt⟩ := hown
  have h2' := rowvals_snoc h2 (fun i hi k hk => hP k (hlt i hi k hk)) hu hB
  have hlen := h2.len
  obtain ⟨ua, uc, hu1, _⟩ := hu.shape
  obtain ⟨i0, hi, hz0, hz1, hz2⟩ := info_parts inf_ints
  refine wp_append_lies _ s x 24 ho B 32 i0 (.slice none 0 0) 1 24 Tryd.underlying24 hi hz0 hz1 hz2 rfl (by decide) v us.length us hs (h1.alloc _) ⟨w.heap.size, 0, none⟩ 1 1 [u] hx rfl ?_ ?_ (by decide) (by unfold maxLen; omega) (by omega) (by simp; omega) (w.heap.size + 1) (by simp) ?_
  · intro j u' hj
    match j, hj with
    | 0, hj => simp at hj; subst hj; simp [Addr.add]
  · intro u' hu'; simp at hu'; subst hu'; subst hu1; rfl
  · intro g cap w' h3 h4 h5 _
    have hk := Keep.of_grown h4
    have hk2 : Keep (fun b => v.ownBlock = some b) w w' := ((Keep.refl _ w).alloc _).trans hk
    rw [hlen] at h3 ⊢
    refine h g cap w' ⟨us ++ [u], by simpa [hlen] using h3, rowvals_keepT h2' h1 hk2, ?_, ?_⟩ hk2 (by rcases h5 with h5 | h5; exact .inl h5; exact .inr (by omega))
    · intro k hk
      simp [Value.ownBlock] at hk
      exact .inr (.inr hk.symm)
    · intro i hi k hk
      by_cases e : i < us.length
      · rw [List.getElem_append_left e] at hk
        exact .inl (hlt i e k hk)
      · have e2 : i = us.length := by simp at hi; omega
        subst e2
        rw [List.getElem_append_right (Nat.le_refl _)] at hk
        simp only [Nat.sub_self, List.getElem_cons_zero] at hk
        exact .inr (.inl hk)
theorem wpList_app_rowP {ops : Array Oper} {rest : List Oper} {o : Oper} {a : Act} {Q : Exit → Act → World → Prop} (P : Nat → Prop) (B m : Nat) (w : World) (v : Value) (xss : List (List Int)) (u : Value) (xs : List Int) (s x : Operand) (hgd : o.guard = none)
    (ho : o.op = .call { callee := .builtin .append, args := #[s, x], argTypes := #[24, 24] })
    (hs : a.eval s = v) (hown : OwnP B P w v xss) (hP : ∀ b, P b → b < m) (hu : Own m w u xs) (hx : a.eval x = .slice (some ⟨w.heap.size, 0, none⟩) 1 1) (hn : xss.length ≤ 1099511627776) (hB : B ≤ m) (hB2 : B ≤ w.heap.size)
    (h : ∀ g c' w', OwnP B (fun b => P b ∨ u.ownBlock = some b ∨ b = g) w' (.slice (some ⟨g, 0, none⟩) (xss.length + 1) c') (xss ++ [xs]) → Keep (fun b => v.ownBlock = some b) w w' → (v.ownBlock = some g ∨ w.heap.size ≤ g) → wpList Tryd.prog ops Q rest (a.put o.dst (.slice (some ⟨g, 0, none⟩) (xss.length + 1) c')) w') :
    wpList Tryd.prog ops Q (o :: rest) a (w.alloc (.cells #[u] 32)) :=
  wpList_plain hgd fun _ hK => wp_app_rowP P B m w v xss u xs s x ho hs hown hP hu hx hn hB hB2 fun g c' w' h2 h3 h4 => hK _ _ (h g c' w' h2 h3 h4)
theorem step_app_rowP {ops : Array Oper} {o : Oper} {a : Act} {K : Act → World → Prop} {Q : Exit → Act → World → Prop} {E : Prop} (P : Nat → Prop) (B m : Nat) (w : World) (v : Value) (xss : List (List Int)) (u : Value) (xs : List Int) (s x : Operand) (hgd : o.guard = none)
    (ho : o.op = .call { callee := .builtin .append, args := #[s, x], argTypes := #[24, 24] })
    (hs : a.eval s = v) (hown : OwnP B P w v xss) (hP : ∀ b, P b → b < m) (hu : Own m w u xs) (hx : a.eval x = .slice (some ⟨w.heap.size, 0, none⟩) 1 1) (hn : xss.length ≤ 1099511627776) (hB : B ≤ m) (hB2 : B ≤ w.heap.size)
    (h : ∀ g c' w', OwnP B (fun b => P b ∨ u.ownBlock = some b ∨ b = g) w' (.slice (some ⟨g, 0, none⟩) (xss.length + 1) c') (xss ++ [xs]) → Keep (fun b => v.ownBlock = some b) w w' → (v.ownBlock = some g ∨ w.heap.size ≤ g) → K (a.put o.dst (.slice (some ⟨g, 0, none⟩) (xss.length + 1) c')) w') :
    if Region.wanted o (yielded ops a.tmps) = true then Oper.wp Tryd.prog o a (w.alloc (.cells #[u] 32)) K Q else E := by
  have hw : Region.wanted o (yielded ops a.tmps) = true := by simp [Region.wanted, hgd]
  rw [if_pos hw]
  exact wp_app_rowP P B m w v xss u xs s x ho hs hown hP hu hx hn hB hB2 h

/-- A store into an entry. -/
theorem OwnP.put {lo : Nat} {P : Nat → Prop} {w : World} {sa : Option Addr} {n c : Nat} {t : List (List Int)} (h : OwnP lo P w (.slice sa n c) t) {u y m : Nat} (hu : u < t.length) (hm : (row t u).length = m) (hy : y < m) :
    ∃ b g cr z0, sa = some ⟨b, 0, none⟩ ∧ P b ∧ P g ∧ b ≠ g ∧ w.cell? ⟨b, u, none⟩ = some (.slice (some ⟨g, 0, none⟩) m cr) ∧ w.cell? ⟨g, y, none⟩ = some z0 ∧ w.frozen? ⟨g, y, none⟩ = false ∧
      ∀ z : Int, OwnP lo P (w.setCell ⟨g, y, none⟩ (.int .i64 z)) (.slice sa n c) (t.set u ((row t u).set y z)) := by
  obtain ⟨us, h1, h2, h3, h4⟩ := h
  have hul : u < us.length := by rw [h2.len]; exact hu
  obtain ⟨a, c', hv, _, _, hc⟩ := ownsRow_cells h1
  obtain ⟨b, hab, hcell⟩ := hc u hul
  injection hv with e1 e2 e3
  subst e1 hab
  have hrow : t[u] = row t u := (row_nat t u hu).symm
  have hown := h2.own u hul hu
  rcases hown.open with ⟨_, k2⟩ | ⟨g, cs, k1, k2, k3, k4⟩
  · rw [hrow] at k2; rw [k2] at hm; simp at hm; omega
  · have hy' : y < (t[u]).length := by rw [hrow]; omega
    have hv1 : us[u] = .slice (some ⟨g, 0, none⟩) m ((t[u]).length + cs.length) := by rw [k1, hrow, hm]
    have hput := fun z => h2.put hul hu hv1 hy' z
    obtain ⟨p1, p2⟩ := h2.cellAt hul hu hv1 hy'
    have hg := h4 u hul g (by rw [hv1]; rfl)
    have hbg : b ≠ g := by
      obtain ⟨hl, hn | ⟨g', cap, cur, hv', hb', hg', r⟩⟩ := h1
      · simp at hn
      · injection hv' with e1 e2 e3
        injection e1 with e1
        injection e1 with e1
        subst e1
        have := hown.ne (g := b) (t := 32) (cs := cur.toList) (by unfold Blk; simpa using hg') (by decide)
        intro e
        apply this
        rw [hv1, e]; rfl
    refine ⟨b, g, _, _, rfl, h3 b rfl, hg, hbg, by rw [hcell, hv1], p1, p2, fun z => ⟨us, ?_, ?_, h3, h4⟩⟩
    · refine ownsRow_ne h1 hown ?_
      rw [hv1]
      exact keepB _ _ _ _ _ _
    · have := hput z
      rw [hrow] at this; exact this

/-- Two tables apart from each other and from a box q. -/
def TwoP (lo q : Nat) (W : World) (va vb : Value) (X Y : List (List Int)) : Prop :=
  ∃ P1 P2 : Nat → Prop, (∀ b, P1 b → lo ≤ b ∧ b < W.heap.size ∧ b ≠ q ∧ ¬ P2 b) ∧ (∀ b, P2 b → lo ≤ b ∧ b < W.heap.size ∧ b ≠ q) ∧ OwnP lo P1 W va X ∧ OwnP lo P2 W vb Y
theorem TwoP.keep {lo q : Nat} {S : Nat → Prop} {W W' : World} {va vb : Value} {X Y : List (List Int)} (h : TwoP lo q W va vb X Y) (k : Keep S W W') (hS : ∀ b, lo ≤ b → b ≠ q → b < W.heap.size → ¬ S b) : TwoP lo q W' va vb X Y := by
  obtain ⟨P1, P2, h1, h2, o1, o2⟩ := h
  have hs := k.size
  exact ⟨P1, P2, fun b hb => ⟨(h1 b hb).1, by have := (h1 b hb).2.1; omega, (h1 b hb).2.2⟩, fun b hb => ⟨(h2 b hb).1, by have := (h2 b hb).2.1; omega, (h2 b hb).2.2⟩,
    o1.keep k (fun x hx => hS x (h1 x hx).1 (h1 x hx).2.2.1 (h1 x hx).2.1), o2.keep k (fun x hx => hS x (h2 x hx).1 (h2 x hx).2.2 (h2 x hx).2.1)⟩
theorem TwoP.under {lo q : Nat} {W W' : World} {va vb : Value} {X Y : List (List Int)} (h : TwoP lo q W va vb X Y) (hb : Below W.heap.size W W') : TwoP lo q W' va vb X Y :=
  h.keep (S := fun b => W.heap.size ≤ b) (Keep.of_below hb) fun x _ _ x1 x2 => by omega
/-- An entry of each written, first in the first table. -/
theorem TwoP.put {lo q : Nat} {W : World} {sa sb : Option Addr} {n c n' c' : Nat} {X Y : List (List Int)} (h : TwoP lo q W (.slice sa n c) (.slice sb n' c') X Y) {u y m m' : Nat}
    (hu : u < X.length) (hu' : u < Y.length) (hm : (row X u).length = m) (hm' : (row Y u).length = m') (hy : y < m) (hy' : y < m') :
    ∃ b1 g1 r1 b2 g2 r2 z1 z2, sa = some ⟨b1, 0, none⟩ ∧ sb = some ⟨b2, 0, none⟩ ∧ (lo ≤ b1 ∧ lo ≤ g1 ∧ lo ≤ b2 ∧ lo ≤ g2) ∧ (q ≠ b1 ∧ q ≠ g1 ∧ q ≠ b2 ∧ q ≠ g2) ∧ (b1 ≠ g1 ∧ b1 ≠ g2 ∧ b2 ≠ g1 ∧ b2 ≠ g2 ∧ g1 ≠ g2) ∧
      W.cell? ⟨b1, u, none⟩ = some (.slice (some ⟨g1, 0, none⟩) m r1) ∧ W.cell? ⟨b2, u, none⟩ = some (.slice (some ⟨g2, 0, none⟩) m' r2) ∧ W.cell? ⟨g1, y, none⟩ = some z1 ∧ W.frozen? ⟨g1, y, none⟩ = false ∧ 
      (∀ s : Int, (W.setCell ⟨g1, y, none⟩ (.int .i64 s)).cell? ⟨g2, y, none⟩ = some z2 ∧ (W.setCell ⟨g1, y, none⟩ (.int .i64 s)).frozen? ⟨g2, y, none⟩ = false) ∧
      ∀ s t : Int, TwoP lo q ((W.setCell ⟨g1, y, none⟩ (.int .i64 s)).setCell ⟨g2, y, none⟩ (.int .i64 t)) (.slice sa n c) (.slice sb n' c') (X.set u ((row X u).set y s)) (Y.set u ((row Y u).set y t)) := by
  obtain ⟨P1, P2, h1, h2, o1, o2⟩ := h
  obtain ⟨b1, g1, r1, z1, rfl, p1, p3, p5, p6, p7, p8, p9⟩ := o1.put hu hm hy
  obtain ⟨b2, g2, r2, z2, rfl, k1, k3, k5, k6, k7, k8, k9⟩ := o2.put hu' hm' hy'
  have a1 := h1 b1 p1; have a2 := h1 g1 p3; have a3 := h2 b2 k1; have a4 := h2 g2 k3
  have e1 : b1 ≠ g2 := fun e => a1.2.2.2 (e ▸ k3)
  have e2 : b2 ≠ g1 := fun e => a2.2.2.2 (e ▸ k1)
  have e3 : g1 ≠ g2 := fun e => a2.2.2.2 (e ▸ k3)
  have hmid : ∀ s : Int, OwnP lo P2 (W.setCell ⟨g1, y, none⟩ (.int .i64 s)) (.slice (some ⟨b2, 0, none⟩) n' c') Y := fun s => by
    have kk := (Keep.refl (fun x => x = g1) W).setCell (p := ⟨g1, y, none⟩) (.inl rfl) (.int .i64 s)
    exact o2.keep kk (fun x hx e => a2.2.2.2 (e ▸ hx))
  have hmid2 : ∀ s : Int, (W.setCell ⟨g1, y, none⟩ (.int .i64 s)).cell? ⟨g2, y, none⟩ = some z2 ∧ (W.setCell ⟨g1, y, none⟩ (.int .i64 s)).frozen? ⟨g2, y, none⟩ = false ∧ ∀ t : Int, OwnP lo P2 ((W.setCell ⟨g1, y, none⟩ (.int .i64 s)).setCell ⟨g2, y, none⟩ (.int .i64 t)) (.slice (some ⟨b2, 0, none⟩) n' c') (Y.set u ((row Y u).set y t)) := fun s => by
    have kk := (Keep.refl (fun x => x = g1) W).setCell (p := ⟨g1, y, none⟩) (.inl rfl) (.int .i64 s)
    obtain ⟨b2', g2', r2', z2', hb', _, _, _, j6, j7, j8, j9⟩ := (hmid s).put hu' hm' hy'
    have k6' : (W.setCell ⟨g1, y, none⟩ (.int .i64 s)).cell? ⟨b2, u, none⟩ = some (.slice (some ⟨g2, 0, none⟩) m' r2) := (World.cell?_of_block (w := W) (kk.block b2 (cell_lt k6) (by omega))).trans k6
    have k7' : (W.setCell ⟨g1, y, none⟩ (.int .i64 s)).cell? ⟨g2, y, none⟩ = some z2 := (World.cell?_of_block (w := W) (kk.block g2 (cell_lt k7) (by omega))).trans k7
    injection hb' with hb'; injection hb' with hb'; subst hb'
    rw [k6'] at j6
    injection j6 with j6; injection j6 with j6; injection j6 with j6; injection j6 with j6; subst j6
    exact ⟨k7', j8, j9⟩
  refine ⟨b1, g1, r1, b2, g2, r2, z1, z2, rfl, rfl, ⟨a1.1, a2.1, a3.1, a4.1⟩, ⟨a1.2.2.1.symm, a2.2.2.1.symm, a3.2.2.symm, a4.2.2.symm⟩, ⟨p5, e1, e2, k5, e3⟩, p6, k6, p7, p8, fun s => ⟨(hmid2 s).1, (hmid2 s).2.1⟩, ?_⟩
  intro s t
  have kk2 := (Keep.refl (fun x => x = g2) (W.setCell ⟨g1, y, none⟩ (.int .i64 s))).setCell (p := ⟨g2, y, none⟩) (.inl rfl) (.int .i64 t)
  refine ⟨P1, P2, fun b hb => ⟨(h1 b hb).1, by rw [size_set, size_set]; exact (h1 b hb).2.1, (h1 b hb).2.2⟩, fun b hb => ⟨(h2 b hb).1, by rw [size_set, size_set]; exact (h2 b hb).2.1, (h2 b hb).2.2⟩, (p9 s).keep kk2 (fun x hx e => (h1 x hx).2.2.2 (e ▸ k3)), (hmid2 s).2.2 t⟩
end Go.Proofs.YtnbhghgkjcfcmaaDoor

namespace Go.Proofs.YtnbhghgkjcfcmaaDoor
set_option linter.unusedVariables false
set_option linter.unusedSimpArgs false

/-- A table of n rows with one entry changed. -/
theorem tabOf_put (n : Nat) (g : Int → Int → Int) (u v z : Int) (hu0 : 0 ≤ u) (hu : u < n) (hv0 : 0 ≤ v) (hv : v < n) :
    (tabOf n g).set u.toNat ((row (tabOf n g) u).set v.toNat z) = tabOf n fun a b => if a = u ∧ b = v then z else g a b := by
  apply ext_row (by simp)
  intro a ha
  simp at ha
  have hR := row_tabOf n (fun a b => if a = u ∧ b = v then z else g a b) a ha
  rw [row_set _ _ _ _ hu0 (by simpa using hu) (by omega), hR]
  by_cases e : (a : Int) = u
  · rw [if_pos e, row_tabOfi _ _ _ hu0 hu]
    apply ext_nth (by simp)
    intro b hb
    simp at hb
    have hQ := nth_rowOf n (fun b => if (a : Int) = u ∧ b = v then z else g a b) b hb
    rw [nth_set _ _ _ _ hv0 (by simpa using hv) (by omega), nth_rowOf _ _ _ hb]
    refine Eq.trans ?_ hQ.symm
    show _ = if (a : Int) = u ∧ (b : Int) = v then z else g a b
    by_cases e2 : (b : Int) = v
    · rw [if_pos e2, if_pos ⟨e, e2⟩]
    · rw [if_neg e2, if_neg (fun h => e2 h.2), e]
  · rw [if_neg e, row_tabOf _ _ _ ha]
    exact rowOf_congr fun b _ => by rw [if_neg (fun h => e h.1)]

/-- The entry (u, v) after k pairs: what z says of the pair that leads there, where that pair is among the first k. -/
def ivG (A B : List (List Int)) (n : Nat) (z : Int → Int) (ini : Int → Int → Int) (k : Nat) (u v : Int) : Int :=
  if nth (invL (pmL A B n)) (u * n + v) < k then z (nth (invL (pmL A B n)) (u * n + v)) else ini u v
def ivT (A B : List (List Int)) (n : Nat) (z : Int → Int) (ini : Int → Int → Int) (k : Nat) : List (List Int) := tabOf n (ivG A B n z ini k)
@[simp] theorem ivT_length (A B : List (List Int)) (n : Nat) (z : Int → Int) (ini : Int → Int → Int) (k : Nat) : (ivT A B n z ini k).length = n := by simp [ivT]
/-- The inverse's two tables. -/
def ivA (A B : List (List Int)) (n : Nat) : List (List Int) := tabOf n fun u v => nth (invL (pmL A B n)) (u * n + v) / n
def ivB (A B : List (List Int)) (n : Nat) : List (List Int) := tabOf n fun u v => nth (invL (pmL A B n)) (u * n + v) % n

/-- Where a pair's code leads back to. -/
theorem iv_range {A B : List (List Int)} {n : Nat} (hP : Permuted (pmL A B n)) {u v : Int} (hu0 : 0 ≤ u) (hu : u < n) (hv0 : 0 ≤ v) (hv : v < n) :
    0 ≤ nth (invL (pmL A B n)) (u * n + v) ∧ nth (invL (pmL A B n)) (u * n + v) < ((n * n : Nat) : Int) ∧ nth (pmL A B n) (nth (invL (pmL A B n)) (u * n + v)) = u * n + v := by
  obtain ⟨h0, h1⟩ := code_lt hu0 hu hv0 hv
  obtain ⟨x, x0, x1, e⟩ := ex_pre hP (y := u * n + v) h0 (by simpa using h1)
  rw [← e, nth_invL hP x0 x1]
  exact ⟨x0, by simpa using x1, rfl⟩
theorem ivT_zero {A B : List (List Int)} {n : Nat} (hP : Permuted (pmL A B n)) (z : Int → Int) (ini : Int → Int → Int) : ivT A B n z ini 0 = tabOf n ini := by
  refine tabOf_congr fun u v hu hv => ?_
  obtain ⟨h0, _, _⟩ := iv_range hP (u := u) (v := v) (by omega) (by omega) (by omega) (by omega)
  unfold ivG
  rw [if_neg (by omega)]
theorem ivT_done {A B : List (List Int)} {n : Nat} (hP : Permuted (pmL A B n)) (z : Int → Int) (ini : Int → Int → Int) : ivT A B n z ini (n * n) = tabOf n fun u v => z (nth (invL (pmL A B n)) (u * n + v)) := by
  refine tabOf_congr fun u v hu hv => ?_
  obtain ⟨_, h1, _⟩ := iv_range hP (u := u) (v := v) (by omega) (by omega) (by omega) (by omega)
  unfold ivG
  rw [if_pos h1]
/-- One pair more. -/
theorem ivT_step {A B : List (List Int)} {n : Nat} (hP : Permuted (pmL A B n)) (z : Int → Int) (ini : Int → Int → Int) {x y : Nat} (hx : x < n) (hy : y < n)
    (hA0 : 0 ≤ val2 A x y) (hA1 : val2 A x y < n) (hB0 : 0 ≤ val2 B x y) (hB1 : val2 B x y < n) :
    (ivT A B n z ini (x * n + y)).set (val2 A x y).toNat ((row (ivT A B n z ini (x * n + y)) (val2 A x y)).set (val2 B x y).toNat (z ((x : Int) * n + y))) = ivT A B n z ini (x * n + y + 1) := by
  unfold ivT
  rw [tabOf_put _ _ _ _ _ hA0 hA1 hB0 hB1]
  refine tabOf_congr fun u v hu hv => ?_
  obtain ⟨h0, h1, h2⟩ := iv_range hP (u := u) (v := v) (by omega) (by omega) (by omega) (by omega)
  have hc : nth (pmL A B n) ((x : Int) * n + y) = val2 A x y * n + val2 B x y := nth_pmL (by omega) (by omega) (by omega) (by omega)
  obtain ⟨c0, c1⟩ := code_lt (n := n) (x := x) (y := y) (by omega) (by omega) (by omega) (by omega)
  have hcast : ((x * n + y : Nat) : Int) = (x : Int) * n + y := by push_cast; rfl
  unfold ivG
  by_cases e : (u : Int) = val2 A x y ∧ (v : Int) = val2 B x y
  · rw [if_pos e]
    have e3 : nth (invL (pmL A B n)) ((u : Int) * n + v) = (x : Int) * n + y := by
      rw [e.1, e.2, ← hc, nth_invL hP c0 (by simpa using c1)]
    rw [e3, if_pos (by omega)]
  · rw [if_neg e]
    have hne : nth (invL (pmL A B n)) ((u : Int) * n + v) ≠ (x : Int) * n + y := by
      intro h
      rw [h, hc] at h2
      obtain ⟨g1, g2⟩ := code_inj hB0 hB1 (by omega) (by omega) h2
      exact e ⟨g1.symm, g2.symm⟩
    by_cases hl : nth (invL (pmL A B n)) ((u : Int) * n + v) < ((x * n + y : Nat) : Int)
    · rw [if_pos hl, if_pos (by omega)]
    · rw [if_neg hl, if_neg (by omega)]
theorem tabOf_val2 {t : List (List Int)} (h : isTab t = true) : tabOf t.length (val2 t) = t := by
  apply ext_row (by simp)
  intro k hk
  simp at hk
  have hr := isTab_row h (x := k) (by omega) (by omega)
  rw [row_tabOf _ _ _ hk]
  apply ext_nth (by simp; omega)
  intro j hj
  simp at hj
  rw [nth_rowOf _ _ _ hj]; rfl
theorem ivA_eq {A B : List (List Int)} {n : Nat} (hP : Permuted (pmL A B n)) (ini : Int → Int → Int) : ivT A B n (fun c => c / n) ini (n * n) = ivA A B n := ivT_done hP _ _
theorem ivB_eq {A B : List (List Int)} {n : Nat} (hP : Permuted (pmL A B n)) (ini : Int → Int → Int) : ivT A B n (fun c => c % n) ini (n * n) = ivB A B n := ivT_done hP _ _
end Go.Proofs.YtnbhghgkjcfcmaaDoor

namespace Go.Proofs.YtnbhghgkjcfcmaaDoor
set_option linter.unusedVariables false
set_option linter.unusedSimpArgs false
open Go Go.RowKit

theorem OwnP.blk {lo : Nat} {P : Nat → Prop} {w : World} {v : Value} {t : List (List Int)} (h : OwnP lo P w v t) {k : Nat} (hk : v.ownBlock = some k) : P k := by
  obtain ⟨us, _, _, h3, _⟩ := h
  exact h3 k hk
/-- Two tables apart from each other, all behind the box q. -/
structure Emp (B q : Nat) (W0 W : World) (va vb : Value) (X Y : List (List Int)) (P1 P2 : Nat → Prop) : Prop where
  p1 : ∀ b, P1 b → q < b ∧ b < W.heap.size ∧ ¬ P2 b
  p2 : ∀ b, P2 b → q < b ∧ b < W.heap.size ∧ ¬ P1 b
  o1 : OwnP B P1 W va X
  o2 : OwnP B P2 W vb Y
  hb : Below B W0 W
theorem Emp.swap {B q : Nat} {W0 W : World} {va vb : Value} {X Y : List (List Int)} {P1 P2 : Nat → Prop} (h : Emp B q W0 W va vb X Y P1 P2) : Emp B q W0 W vb va Y X P2 P1 := ⟨h.p2, h.p1, h.o2, h.o1, h.hb⟩
theorem Emp.drew {B q : Nat} {W0 W : World} {va vb : Value} {X Y : List (List Int)} {P1 P2 : Nat → Prop} (h : Emp B q W0 W va vb X Y P1 P2) : Emp B q W0 W.drew va vb X Y P1 P2 :=
  ⟨h.p1, h.p2, h.o1.under (Below.refl _ _).drew, h.o2.under (Below.refl _ _).drew, h.hb.drew⟩
theorem Emp.app {B q : Nat} {W0 W w2 : World} {va vb va' u : Value} {X Y X' : List (List Int)} {P1 P2 : Nat → Prop} {o : Obj} {g : Nat} (h : Emp B q W0 W va vb X Y P1 P2) (hq : q < W.heap.size) (hB : B ≤ q) (hu : u.ownBlock = some W.heap.size) (hv' : va'.ownBlock = some g)
    (ho : OwnP B (fun b => P1 b ∨ u.ownBlock = some b ∨ b = g) w2 va' X') (k : Keep (fun b => va.ownBlock = some b) (W.alloc o) w2) (hg : va.ownBlock = some g ∨ (W.alloc o).heap.size ≤ g) (i : Nat) (z : Value) :
    Emp B q W0 (w2.setCell ⟨q, i, none⟩ z) va' vb X' Y (fun b => P1 b ∨ u.ownBlock = some b ∨ b = g) P2 := by
  have hs := k.size
  have hs1 : (W.alloc o).heap.size = W.heap.size + 1 := by simp
  have hgl := (OwnRows.lt ho.out hv').2
  have hz := size_set w2 ⟨q, i, none⟩ z
  have hgq : q < g ∧ ¬ P2 g := by
    rcases hg with hg | hg
    · have := h.p1 g (h.o1.blk hg); exact ⟨this.1, this.2.2⟩
    · exact ⟨by omega, fun e => by have := (h.p2 g e).2.1; omega⟩
  have kk : Keep (fun b => va.ownBlock = some b ∨ b = q) W (w2.setCell ⟨q, i, none⟩ z) := by
    have k1 : Keep (fun b => va.ownBlock = some b ∨ b = q) W (W.alloc o) := (Keep.refl _ W).alloc o
    have k2 : Keep (fun b => va.ownBlock = some b ∨ b = q) (W.alloc o) w2 := ⟨k.os, k.tape, k.output, k.size, fun x hx hn => k.block x hx (fun e => hn (.inl e))⟩
    exact (k1.trans k2).setCell (p := ⟨q, i, none⟩) (.inl (.inr rfl)) z
  refine ⟨fun b hb => ?_, fun b hb => ?_, ?_, ?_, ?_⟩
  · rcases hb with hb | hb | hb
    · have := h.p1 b hb; exact ⟨this.1, by omega, this.2.2⟩
    · rw [hu] at hb; injection hb with hb; subst hb
      exact ⟨hq, by omega, fun e => by have := (h.p2 _ e).2.1; omega⟩
    · subst hb; exact ⟨hgq.1, by omega, hgq.2⟩
  · have h2 := h.p2 b hb
    refine ⟨h2.1, by omega, fun e => ?_⟩
    rcases e with e | e | e
    · exact h2.2.2 e
    · rw [hu] at e; injection e with e; omega
    · subst e; exact hgq.2 hb
  · refine ho.keep (keep1 w2 q i z) fun b hb e => ?_
    have e : b = q := e
    subst e
    rcases hb with hb | hb | hb
    · have := (h.p1 _ hb).1; omega
    · rw [hu] at hb; injection hb with hb; omega
    · subst hb; omega
  · refine h.o2.keep kk fun b hb e => ?_
    rcases e with e | e
    · exact (h.p2 b hb).2.2 (h.o1.blk e)
    · subst e; have := (h.p2 _ hb).1; omega
  · refine h.hb.trans (kk.below fun b hb => ⟨by omega, fun e => ?_⟩)
    rcases e with e | e
    · have := (h.p1 _ (h.o1.blk e)).1; omega
    · omega

theorem Emp.old {B q : Nat} {W0 W w2 : World} {va vb : Value} {X Y : List (List Int)} {P1 P2 : Nat → Prop} {o : Obj} (h : Emp B q W0 W va vb X Y P1 P2) (k : Keep (fun b => va.ownBlock = some b) (W.alloc o) w2) (i : Nat) (z : Value) {b : Nat} (hb : b < q) (hl : b < W.heap.size) :
    (w2.setCell ⟨q, i, none⟩ z).heap[b]? = W.heap[b]? := by
  have kk : Keep (fun b => va.ownBlock = some b ∨ b = q) W (w2.setCell ⟨q, i, none⟩ z) := by
    have k1 : Keep (fun b => va.ownBlock = some b ∨ b = q) W (W.alloc o) := (Keep.refl _ W).alloc o
    have k2 : Keep (fun b => va.ownBlock = some b ∨ b = q) (W.alloc o) w2 := ⟨k.os, k.tape, k.output, k.size, fun x hx hn => k.block x hx (fun e => hn (.inl e))⟩
    exact (k1.trans k2).setCell (p := ⟨q, i, none⟩) (.inl (.inr rfl)) z
  refine kk.block b hl fun e => ?_
  rcases e with e | e
  · have := (h.p1 _ (h.o1.blk e)).1; omega
  · omega

/-- Two tables apart from each other. -/
def RTwo (w0 : World) (X Y : List (List Int)) (e : Ending) (w' : World) : Prop :=
  ∃ r1 r2 P1 P2, e = .returned (.agg #[r1, r2]) ∧ Emp w0.heap.size (w0.heap.size + 1) w0 w' r1 r2 X Y P1 P2
theorem own_made (n : Nat) (W : World) (h : n ≤ maxLen) : Own W.heap.size (W.alloc (.cells (madeCells #[.int .i64 0] n) 2)) (.slice (some ⟨W.heap.size, 0, none⟩) n n) (List.replicate n 0) := by
  have := Blk.made W (.int .i64 0) n 2
  exact Own.shut (cs := []) (by simpa using this) (Nat.le_refl _) (by simpa using h) (by simp) (by simp)

set_option maxHeartbeats 1000000 in
theorem c_l02Empty (n : Nat) (w : World) (hn : n ≤ 12) :
    Calls Tryd.prog 96 #[.int .i64 n] w (RTwo w (tabOf n fun _ _ => 0) (tabOf n fun _ _ => 0)) := by
  obtain ⟨f0, f1, hW0, hsz⟩ := boxes2 w [.slice none 0 0, .slice none 0 0] [.slice none 0 0, .slice none 0 0] 38 38
  have hmk := run_make_row' (P := Tryd.prog) 32 2 (.int .i64 0) 8 Tryd.underlying32 inf_int64 rfl .i64 .i64 n (by omega) (by omega)
  go_enter Tryd.func96, Tryd.ntmps96
  go_wp2
  have hB0 : Below w.heap.size w ((w.alloc (.cells #[.slice none 0 0, .slice none 0 0] 38)).alloc (.cells #[.slice none 0 0, .slice none 0 0] 38)) := hW0
  have hE0 := Emp.mk (B := w.heap.size) (q := w.heap.size + 1) (W0 := w) (W := ((w.alloc (.cells #[.slice none 0 0, .slice none 0 0] 38)).alloc (.cells #[.slice none 0 0, .slice none 0 0] 38))) (P1 := fun _ => False) (P2 := fun _ => False) (fun b hb => hb.elim) (fun b hb => hb.elim) (OwnP.nil _ _ _) (OwnP.nil _ _ _) hB0
  go_loopw [4] (fun i wr => ∃ (k : Nat) (va vb : Value) (P1 P2 : Nat → Prop), k ≤ n ∧ i = .int .i64 k ∧ Hid (w.heap.size + 2 ≤ wr.heap.size) ∧ Hid (Blk wr w.heap.size 38 [.slice none 0 0, .slice none 0 0]) ∧ Hid (Blk wr (w.heap.size + 1) 38 [va, vb]) ∧
    Hid (Emp w.heap.size (w.heap.size + 1) w wr va vb (List.replicate k (List.replicate n 0)) (List.replicate k (List.replicate n 0)) P1 P2)) (fun i _ => n - (intOf i).toNat)
  case atStart => exact ⟨0, _, _, _, _, Nat.zero_le _, rfl, Lib.hid (by simp), Lib.hid f0, Lib.hid f1, Lib.hid hE0⟩
  case round =>
    clear hB0 f0 f1 hW0 hsz hE0
    obtain ⟨k, va, vb, P1, P2, hk, rfl, HS, HQ0, HQ1, HE⟩ := hrel
    obtain ⟨wo, rfl⟩ : ∃ wo : World, wo = wr := ⟨_, rfl⟩
    by_cases hlt : k < n
    · have HQd := Lib.hid HQ1.out.drew
      have HEd := Lib.hid HE.out.drew
      obtain ⟨cA, cB, cF, cG⟩ := two_cells HQd.out
      have hcm := (two_cells (HQ1.out.alloc (.cells (madeCells #[.int .i64 0] n) 2))).1
      have hcm2 := (two_cells ((HQ1.out.alloc (.cells (madeCells #[.int .i64 0] n) 2)).alloc (.cells #[.slice (some ⟨wo.heap.size, 0, none⟩) n n] 32))).1
      go_wp2
      go_region_law (first
        | (refine step_app_rowP P1 w.heap.size wo.heap.size (wo.drew.alloc (.cells (madeCells #[.int .i64 0] n) 2)) va (List.replicate k (List.replicate n 0)) (.slice (some ⟨wo.heap.size, 0, none⟩) n n) (List.replicate n 0) (.tmp 12) (.tmp 15) rfl rfl rfl (HEd.out.o1.under ((Below.refl _ _).alloc (Nat.le_refl _) _)) (fun b hb => (HE.out.p1 b hb).2.1) (own_made n wo.drew (by unfold maxLen; omega)) (show Value.slice (some ⟨wo.heap.size + 1, 0, none⟩) 1 1 = _ from by simp) (by simp; omega) (by have := HS.out; omega) (by have := HS.out; simp; omega) ?_; intro g c2 w2 hown2 hk2 hg2; rw [List.length_replicate] at hown2; rw [List.length_replicate]
           have hQ2 := (HQd.out.alloc (.cells (madeCells #[.int .i64 0] n) 2)).of_block (hk2.block _ (HQd.out.alloc (.cells (madeCells #[.int .i64 0] n) 2)).lt (fun e => by have := (HE.out.p1 _ (HE.out.o1.blk e)).1; omega))
           obtain ⟨dA, dB, dF, dG⟩ := two_cells hQ2
           have HQ2 := Lib.hid hQ2; have HO := Lib.hid hown2; have HK := Lib.hid hk2; have HG := Lib.hid hg2; clear hown2 hk2 hg2 hQ2))
      all_goals
        have hs2 := HS.out
        have hE3 := HEd.out.app (va' := .slice (some ⟨g, 0, none⟩) (k + 1) c2) (u := .slice (some ⟨wo.heap.size, 0, none⟩) n n) (by show _ < wo.heap.size; omega) (by omega) rfl rfl HO.out HK.out HG.out 0 (.slice (some ⟨g, 0, none⟩) (k + 1) c2)
        have hQ3 := HQ2.out.set 0 (.slice (some ⟨g, 0, none⟩) (k + 1) c2)
        have hZ3 := (HQ0.out.drew).of_block (HEd.out.old HK.out 0 (.slice (some ⟨g, 0, none⟩) (k + 1) c2) (b := w.heap.size) (by omega) HQ0.out.lt)
        obtain ⟨w3, hw3⟩ : ∃ w3, w2.setCell ⟨w.heap.size + 1, 0, none⟩ (.slice (some ⟨g, 0, none⟩) (k + 1) c2) = w3 := ⟨_, rfl⟩
        rw [hw3] at hE3 hQ3 hZ3 ⊢
        have hs3 : w.heap.size + 2 ≤ w3.heap.size := hQ3.lt
        have HE3 := Lib.hid hE3.swap
        have HEd3 := Lib.hid hE3.swap.drew
        have HQ3 := Lib.hid hQ3; have HZ3 := Lib.hid hZ3; have HS3 := Lib.hid hs3
        clear hE3 hQ3 hZ3 hw3 dA dB dF dG cA cB cF cG hcm hcm2 hs2 hs3
        have HQd3 := Lib.hid HQ3.out.drew
        obtain ⟨cA, cB, cF, cG⟩ := two_cells HQd3.out
        have hcm := (two_cells (HQ3.out.alloc (.cells (madeCells #[.int .i64 0] n) 2))).2.1
        have hcm2 := (two_cells ((HQ3.out.alloc (.cells (madeCells #[.int .i64 0] n) 2)).alloc (.cells #[.slice (some ⟨w3.heap.size, 0, none⟩) n n] 32))).2.1
        go_wp2
        go_region_law (first
          | (refine step_app_rowP P2 w.heap.size w3.heap.size (w3.drew.alloc (.cells (madeCells #[.int .i64 0] n) 2)) vb (List.replicate k (List.replicate n 0)) (.slice (some ⟨w3.heap.size, 0, none⟩) n n) (List.replicate n 0) (.tmp 19) (.tmp 22) rfl rfl rfl (HEd3.out.o1.under ((Below.refl _ _).alloc (Nat.le_refl _) _)) (fun b hb => (HE3.out.p1 b hb).2.1) (own_made n w3.drew (by unfold maxLen; omega)) (show Value.slice (some ⟨w3.heap.size + 1, 0, none⟩) 1 1 = _ from by simp) (by simp; omega) (by have := HS3.out; omega) (by have := HS3.out; simp; omega) ?_; intro g4 c4 w4 hown2 hk2 hg2; rw [List.length_replicate] at hown2; rw [List.length_replicate]
             have hQ2 := (HQd3.out.alloc (.cells (madeCells #[.int .i64 0] n) 2)).of_block (hk2.block _ (HQd3.out.alloc (.cells (madeCells #[.int .i64 0] n) 2)).lt (fun e => by have := (HE3.out.p1 _ (HE3.out.o1.blk e)).1; omega))
             obtain ⟨dA, dB, dF, dG⟩ := two_cells hQ2
             have HQ4 := Lib.hid hQ2; have HO4 := Lib.hid hown2; have HK4 := Lib.hid hk2; have HG4 := Lib.hid hg2; clear hown2 hk2 hg2 hQ2))
        all_goals
          have hs2 := HS3.out
          have hE5 := HEd3.out.app (va' := .slice (some ⟨g4, 0, none⟩) (k + 1) c4) (u := .slice (some ⟨w3.heap.size, 0, none⟩) n n) (by show _ < w3.heap.size; omega) (by omega) rfl rfl HO4.out HK4.out HG4.out 1 (.slice (some ⟨g4, 0, none⟩) (k + 1) c4)
          have hQ5 := HQ4.out.set 1 (.slice (some ⟨g4, 0, none⟩) (k + 1) c4)
          have hZ5 := (HZ3.out.drew).of_block (HEd3.out.old HK4.out 1 (.slice (some ⟨g4, 0, none⟩) (k + 1) c4) (b := w.heap.size) (by omega) HZ3.out.lt)
          obtain ⟨w5, hw5⟩ : ∃ w5, w4.setCell ⟨w.heap.size + 1, 1, none⟩ (.slice (some ⟨g4, 0, none⟩) (k + 1) c4) = w5 := ⟨_, rfl⟩
          rw [hw5] at hE5 hQ5 hZ5 ⊢
          have HE5 := Lib.hid hE5.swap; have HQ5 := Lib.hid hQ5; have HZ5 := Lib.hid hZ5
          clear hE5 hQ5 hZ5 hw5 dA dB dF dG cA cB cF cG hcm hcm2 hs2 hmk
          go_wp2
          go_roundw
          case rel =>
            have hE := HE5.out
            rw [← List.replicate_succ'] at hE
            exact ⟨k + 1, _, _, _, _, by omega, by go_num, Lib.hid HQ5.out.lt, HZ5, HQ5, Lib.hid hE⟩
          case measure => simp [intOf]; omega
    · obtain rfl : k = n := by omega
      have hE := HE.out
      have hrep : List.replicate k (List.replicate k (0 : Int)) = tabOf k fun _ _ => 0 := by
        apply ext_row (by simp)
        intro x hx
        simp at hx
        rw [row_tabOf _ _ _ hx, rowOf_const, row_nat _ _ (by simpa using hx)]
        simp
      rw [hrep] at hE
      obtain ⟨ra1, rc1, rfl, hca⟩ := OwnRows.shape' hE.o1.out
      obtain ⟨ra2, rc2, rfl, hcb⟩ := OwnRows.shape' hE.o2.out
      rw [show (tabOf k fun _ _ => (0 : Int)).length = k from by simp] at hE
      obtain ⟨z0, z1, z2, z3⟩ := two_cells HQ0.out
      have HQ1' := HQ1.out
      rw [show (tabOf k fun _ _ => (0 : Int)).length = k from by simp] at HQ1'
      obtain ⟨y0, y1, y2, y3⟩ := two_cells HQ1'
      have HE' := Lib.hid hE; clear hE hca hcb HE
      go_wp2
      refine bodyPost_ret (v := .agg #[.slice ra1 k rc1, .slice ra2 k rc2]) (by simp [results, Tryd.results96, go_sem, z0, z1]) rfl ⟨_, _, P1, P2, rfl, ?_⟩
      have kz : Keep (fun b => b = w.heap.size) wo ((wo.setCell ⟨w.heap.size, 0, none⟩ (.slice ra1 k rc1)).setCell ⟨w.heap.size, 1, none⟩ (.slice ra2 k rc2)) := keep_early _ _ _ _
      have hks := kz.size
      have hE := HE'.out
      exact ⟨fun b hb => ⟨(hE.p1 b hb).1, by have := (hE.p1 b hb).2.1; omega, (hE.p1 b hb).2.2⟩, fun b hb => ⟨(hE.p2 b hb).1, by have := (hE.p2 b hb).2.1; omega, (hE.p2 b hb).2.2⟩, hE.o1.keep kz (fun b hb e => by have := (hE.p1 b hb).1; omega), hE.o2.keep kz (fun b hb e => by have := (hE.p2 b hb).1; omega), hE.hb.trans (kz.below fun b hb => ⟨by have : w.heap.size + 2 ≤ wo.heap.size := HS.out; omega, fun e => by have e : b = w.heap.size := e; omega⟩)⟩
end Go.Proofs.YtnbhghgkjcfcmaaDoor

namespace Go.Proofs.YtnbhghgkjcfcmaaDoor
set_option linter.unusedVariables false
set_option linter.unusedSimpArgs false
open Go Go.RowKit

def pgA (n : Nat) : List (List Int) := tabOf n fun x y => (2 * x - y + n) % n
def pgB (n : Nat) : List (List Int) := tabOf n fun x _ => x

set_option maxRecDepth 100000 in
set_option maxHeartbeats 4000000 in
theorem c_l02Polygon (n : Nat) (w : World) (hn1 : 1 ≤ n) (hn : n ≤ 12) :
    Calls Tryd.prog 77 #[.int .i64 n] w (RSolR w (pgA n) (pgB n)) := by
  go_enter Tryd.func77, Tryd.ntmps77
  go_wp2
  have f2 := Blk.new w [.slice none 0 0, .slice none 0 0] 38
  have hV : Below w.heap.size w (w.alloc (.cells #[.slice none 0 0, .slice none 0 0] 38)) := (Below.refl _ _).alloc (Nat.le_refl _) _
  have hsv : (w.alloc (.cells #[.slice none 0 0, .slice none 0 0] 38)).heap.size = w.heap.size + 1 := by simp
  have HSV := Lib.hid hsv
  change Blk (w.alloc (.cells #[.slice none 0 0, .slice none 0 0] 38)) _ _ _ at f2
  obtain ⟨V, hVV⟩ : ∃ V, w.alloc (.cells #[.slice none 0 0, .slice none 0 0] 38) = V := ⟨_, rfl⟩
  rw [hVV] at f2 hV HSV hsv ⊢
  rw [← hsv]
  clear hVV
  have HF2lt := Lib.hid f2.lt
  have HF2 := Lib.hid f2
  have hB1 : Below V.heap.size V (V.alloc (.cells #[.slice none 0 0, .slice none 0 0] 38)) := (Below.refl _ _).alloc (Nat.le_refl _) _
  have hout := Blk.new V [.slice none 0 0, .slice none 0 0] 38
  have hs1 : (V.alloc (.cells #[.slice none 0 0, .slice none 0 0] 38)).heap.size = V.heap.size + 1 := by simp
  have hqq : V.heap.size = V.heap.size := rfl
  change Blk (V.alloc (.cells #[.slice none 0 0, .slice none 0 0] 38)) _ _ _ at hout
  obtain ⟨W1, hW1⟩ : ∃ W, V.alloc (.cells #[.slice none 0 0, .slice none 0 0] 38) = W := ⟨_, rfl⟩
  rw [hW1] at hB1 hout hs1 ⊢
  clear hW1
  have hout' : Blk W1 (V.heap.size) 38 [.slice none 0 0, .slice none 0 0] := by rw [← hqq]; exact hout
  have HOut := Lib.hid (Out2.start (lo := V.heap.size + 1) (q := V.heap.size) (w := W1) (by omega) (by omega) hout')
  have HB1 := Lib.hid hB1; have HWW := Lib.hid hV; have HS1 := Lib.hid hs1
  have HQLE : Hid (V.heap.size ≤ V.heap.size) := Lib.hid (by omega)
  obtain ⟨gA, hgA⟩ : ∃ g : Int → Int → Int, g = fun x y : Int => (2 * x - y + (n : Int)) % (n : Int) := ⟨_, rfl⟩
  obtain ⟨gB, hgB⟩ : ∃ g : Int → Int → Int, g = fun x _ : Int => x := ⟨_, rfl⟩
  have hRA : pgA n = tabOf n gA := by unfold pgA; rw [hgA]
  have hRB : pgB n = tabOf n gB := by unfold pgB; rw [hgB]
  have HRA := Lib.hid hRA; have HRB := Lib.hid hRB
  have HGA : Hid (∀ x y : Int, gA x y = (2 * x - y + n) % n) := Lib.hid (by rw [hgA]; intro x y; rfl)
  have HGB : Hid (∀ x y : Int, gB x y = x) := Lib.hid (by rw [hgB]; intro x y; rfl)
  clear hgA hgB hRA hRB hB1 hout hout' hs1 hV hqq f2 hsv
  go_loopw [4] (fun a wr => ∃ (k : Nat) (va vb : Value), k ≤ n ∧ a = .int .i64 k ∧ Hid (Below V.heap.size V wr) ∧ Hid (Out2 (V.heap.size + 1) wr.heap.size (V.heap.size) wr va vb ((tabOf n gA).take k) ((tabOf n gB).take k))) (fun a _ => n - (intOf a).toNat)
  case atStart => exact ⟨0, _, _, Nat.zero_le _, rfl, HB1, HOut⟩
  case round =>
    clear HB1 HOut
    obtain ⟨k, va, vb, hk, rfl, HB, HO⟩ := hrel
    obtain ⟨wo, rfl⟩ : ∃ wo : World, wo = wr := ⟨_, rfl⟩
    by_cases hlt : k < n
    · go_wp2
      go_loopw [5, 6, 7] (fun s t y wi => ∃ (j : Nat) (sa : Option Addr) (sc : Nat) (ta : Option Addr) (tc : Nat), j ≤ n ∧ y = .int .i64 j ∧ s = .slice sa j sc ∧ t = .slice ta j tc ∧ Hid (Below wo.heap.size wo wi) ∧ Hid (Two wo.heap.size wi (.slice sa j sc) (.slice ta j tc) ((rowOf n (gA k)).take j) ((rowOf n (gB k)).take j))) (fun _ _ y _ => n - (intOf y).toNat)
      case atStart => exact ⟨0, _, _, _, _, Nat.zero_le _, rfl, rfl, rfl, Lib.hid (((Below.refl wo.heap.size wo).alloc (Nat.le_refl _) _).alloc (by simp) _), Lib.hid (Two.made0 wo)⟩
      case round =>
        obtain ⟨j, sa, sc, ta, tc, hj, rfl, rfl, rfl, Hb, HTw⟩ := hrel
        obtain ⟨wi, rfl⟩ : ∃ wi : World, wi = wr := ⟨_, rfl⟩
        by_cases hlj : j < n
        · have HEA : Hid (gA k j = (2 * (k : Int) - j) % n) := Lib.hid (by rw [HGA.out]; simp); have HEB := Lib.hid (HGB.out k j)
          have hn0 : (0 : Int) < n := by omega
          have hp0 : 0 ≤ 2 * (k : Int) - j + n := by omega
          have hp1 : 2 * (k : Int) - j + n ≤ 100 := by omega
          have w2 : Int.tmod (2 * (k : Int) - j + n) (n : Int) = (2 * (k : Int) - j + n) % (n : Int) := Int.tmod_eq_emod_of_nonneg (by omega)
          have hl1 : ((rowOf n (gA k)).take j).length = j := by simp; omega
          have hl2 : ((rowOf n (gB k)).take j).length = j := by simp; omega
          have HL1a := Lib.hid hl1; have HL2a := Lib.hid hl2
          have HN1a : Hid (((rowOf n (gA k)).take j).length ≤ 1099511627776) := by show _ ≤ _; rw [hl1]; omega
          have HN2a : Hid (((rowOf n (gB k)).take j).length ≤ 1099511627776) := by show _ ≤ _; rw [hl2]; omega
          have HS1a : Hid (wo.heap.size ≤ wi.heap.size) := Lib.hid Hb.out.size
          clear hl1 hl2
          go_wp2_with (at_builtin; go_loud (first
            | (refine wpList_app_int2 wo.heap.size wi _ ((rowOf n (gA k)).take j) _ _ _ wi.heap.size rfl rfl rfl rfl HTw.out.a rfl HN1a.out HS1a.out ?_; intro g c1 w1 hown1 hk1 hg1; rw [HL1a.out] at hown1; rw [HL1a.out]; have HT1 := Lib.hid (HTw.out.app1 hown1 hk1 hg1); have HZ2 := Lib.hid (HTw.out.a.frame Hb.out (Nat.le_refl _) HS1a.out hk1); have HS2a : Hid (wo.heap.size ≤ w1.heap.size) := Lib.hid HZ2.out.size; clear hown1 hk1 hg1)
            | (refine wpList_app_int2 wo.heap.size w1 _ ((rowOf n (gB k)).take j) _ _ _ w1.heap.size rfl rfl rfl rfl HT1.out.b rfl HN2a.out HS2a.out ?_; intro g2 c2 w4 hown4 hk4 hg4; rw [HL2a.out] at hown4; rw [HL2a.out]; have HT2 := Lib.hid (HT1.out.app2 hown4 hk4 hg4); have HZ4 := Lib.hid (HT1.out.b.frame HZ2.out (Nat.le_refl _) HS2a.out hk4); clear hown4 hk4 hg4)))
          go_roundw
          case rel =>
            refine ⟨j + 1, some ⟨g, 0, none⟩, c1, some ⟨g2, 0, none⟩, c2, by omega, by go_num, rfl, rfl, HZ4, ?_⟩
            rw [take_snoc (rowOf n (gA k)) _ (by simpa using hlj), take_snoc (rowOf n (gB k)) _ (by simpa using hlj), nth_rowOf _ _ _ hlj, nth_rowOf _ _ _ hlj, HEA.out, HEB.out]
            exact HT2
          case measure => simp [intOf]; omega
        · obtain rfl : n = j := by omega
          have hTw := HTw.out
          rw [List.take_of_length_le (by simp), List.take_of_length_le (by simp)] at hTw
          have HU := Lib.hid hTw; clear hTw
          have HO2 := Lib.hid (HO.out.under Hb.out)
          have HBi := Lib.hid (bb HB.out Hb.out)
          have hla : ((tabOf n gA).take k).length = k := by simp; omega
          have hlb : ((tabOf n gB).take k).length = k := by simp; omega
          have HNA : Hid (((tabOf n gA).take k).length ≤ 1099511627776) := by show _ ≤ _; rw [hla]; omega
          have HNB : Hid (((tabOf n gB).take k).length ≤ 1099511627776) := by show _ ≤ _; rw [hlb]; omega
          have HLA := Lib.hid hla; have HLB := Lib.hid hlb; clear hla hlb
          have HLO : Hid ((V.heap.size + 1) ≤ wi.heap.size) := Nat.le_trans HO2.out.lm HO2.out.mw
          obtain ⟨cA, cB, cF, cG⟩ := two_cells HO2.out.blk
          go_wp2_with (at_builtin; go_loud (first
            | (refine wpList_app_row2 (V.heap.size + 1) wo.heap.size wi va ((tabOf n gA).take k) _ (rowOf n (gA k)) _ _ rfl rfl rfl HO2.out.a HU.out.a rfl HNA.out HO2.out.lm HLO.out ?_; intro g c1 w1 hown1 hk1 hg1; rw [HLA.out] at hown1; rw [HLA.out]; have hq1 := HO2.out.blkq hk1; obtain ⟨dA, dB, dF, dG⟩ := two_cells hq1; have hh := HO2.out.app1 hown1 hk1 hg1; have hv := HO2.out.row1 HU.out.b hk1 (.slice (some ⟨g, 0, none⟩) (k + 1) c1); have hf := HO2.out.frame1 HBi.out HQLE.out hk1 (.slice (some ⟨g, 0, none⟩) (k + 1) c1); obtain ⟨eA, eB, eF, eG⟩ := two_cells hh.blk; have HH := Lib.hid hh; have HV := Lib.hid hv; have HF1 := Lib.hid hf; clear hown1 hk1 hg1 hq1 hh hv hf)
            | (refine wpList_app_row2s (V.heap.size + 1) wo.heap.size (w1.setCell ⟨(V.heap.size), 0, none⟩ (.slice (some ⟨g, 0, none⟩) (k + 1) c1)) vb ((tabOf n gB).take k) _ (rowOf n (gB k)) _ _ w1.heap.size (by simp [World.setCell]) rfl rfl rfl HH.out.b HV.out rfl HNB.out HH.out.lm (Nat.le_trans HH.out.lm HH.out.mw) ?_; intro g2 c2 w4 hown4 hk4 hg4; rw [HLB.out] at hown4; rw [HLB.out]; have hq4 := HH.out.blkq hk4; clear dA dB dF dG eA eB eF eG cA cB cF cG; obtain ⟨dA, dB, dF, dG⟩ := two_cells hq4; have HH2 := Lib.hid (HH.out.app2 hown4 hk4 hg4); have HF2b := Lib.hid (HH.out.frame2 HF1.out HQLE.out hk4 (.slice (some ⟨g2, 0, none⟩) (k + 1) c2)); clear hown4 hk4 hg4 hq4)))
          go_roundw
          case rel =>
            refine ⟨k + 1, .slice (some ⟨g, 0, none⟩) (k + 1) c1, .slice (some ⟨g2, 0, none⟩) (k + 1) c2, by omega, by go_num, HF2b, ?_⟩
            rw [take_snoc_row (tabOf n gA) _ (by simpa using hlt), take_snoc_row (tabOf n gB) _ (by simpa using hlt), row_tabOf _ _ _ hlt, row_tabOf _ _ _ hlt]
            exact HH2
          case measure => simp [intOf]; omega
    · obtain rfl : n = k := by omega
      have hO := HO.out
      rw [List.take_of_length_le (by simp), List.take_of_length_le (by simp)] at hO
      obtain ⟨ra1, rc1, hva, _⟩ := hO.a.out.rows.shape
      obtain ⟨ra2, rc2, hvb, _⟩ := hO.b.out.rows.shape
      rw [tabOf_length] at hva hvb
      subst hva hvb
      obtain ⟨y0, y1, y2, y3⟩ := two_cells hO.blk
      obtain ⟨z0, z1, z2, z3⟩ := two_cells (HF2.out.under HB.out)
      have HO' := Lib.hid hO; clear hO
      have hlt2 := HF2lt.out
      go_wp2
      refine bodyPost_ret (v := .agg #[.slice ra1 n rc1, .slice ra2 n rc2]) (by simp [results, Tryd.results77, go_sem, z0, z1]) rfl ⟨_, _, rfl, ⟨?_, ?_⟩, ((bb HWW.out HB.out).setCell (p := ⟨w.heap.size, 0, none⟩) (Nat.le_refl _) _).setCell (p := ⟨w.heap.size, 1, none⟩) (Nat.le_refl _) _⟩
      · try rw [HRA.out]
        exact OwnRows.mono (B := (V.heap.size + 1)) ((HO'.out.a.out.keep (keep1 _ w.heap.size 0 _) (fun b h1 h2 h3 => by have h3 : b = w.heap.size := h3; omega)).keep (keep1 _ w.heap.size 1 _) (fun b h1 h2 h3 => by have h3 : b = w.heap.size := h3; omega)) (by have := HSV.out; omega)
      · try rw [HRB.out]
        exact OwnRows.mono (B := (V.heap.size + 1)) ((HO'.out.b.out.keep (keep1 _ w.heap.size 0 _) (fun b h1 h2 h3 => by have h3 : b = w.heap.size := h3; omega)).keep (keep1 _ w.heap.size 1 _) (fun b h1 h2 h3 => by have h3 : b = w.heap.size := h3; omega)) (by have := HSV.out; omega)
end Go.Proofs.YtnbhghgkjcfcmaaDoor

namespace Go.Proofs.YtnbhghgkjcfcmaaDoor
set_option linter.unusedVariables false
set_option linter.unusedSimpArgs false
open Go Go.RowKit

def nvG (T : List (List Int)) (x y : Int) : Int := (idx (row T (val2 T x y)) x : Int)
def nvB (T : List (List Int)) : List (List Int) := tabOf T.length (nvG T)

set_option maxRecDepth 100000 in
set_option maxHeartbeats 4000000 in
theorem c_l02Involutive (v0 : Value) (T : List (List Int)) (w : World) (hT : Rows w v0 T) (hp : isTab T = true) :
    Calls Tryd.prog 81 #[v0] w (RSolR w T (nvB T)) := by
  have HR := Lib.hid hT
  obtain ⟨n, b0, o0, c0, rb0, ro0, rc0, rfl, hl0, hn0, hx0, hc0, hm0, t0⟩ := hT.tab hp
  have HL0 := Lib.hid hl0
  have HRW : Hid (∀ r ∈ T, r.length ≤ 1048576) := Lib.hid (fun r hr => by
    obtain ⟨i, hi, rfl⟩ := List.getElem_of_mem hr
    have := isTab_row hp (x := (i : Int)) (by omega) (by omega)
    rw [row_nat _ _ hi] at this
    omega)
  have HRL : Hid (∀ x : Int, 0 ≤ x → x < n → (row T x).length = n) := Lib.hid (fun x h0 h1 => by have := isTab_row hp h0 (by omega); omega)
  clear hl0 hT hp
  have HT0 := Lib.hid t0; clear t0
  go_enter Tryd.func81, Tryd.ntmps81
  go_wp2_with fail
  have hB0 : Below w.heap.size w (w.alloc (.cells #[.slice none 0 0, .slice none 0 0] 38)) := (Below.refl _ _).alloc (Nat.le_refl _) _
  have f0 := Blk.new w [.slice none 0 0, .slice none 0 0] 38
  have hs0 : (w.alloc (.cells #[.slice none 0 0, .slice none 0 0] 38)).heap.size = w.heap.size + 1 := by simp
  change Blk (w.alloc (.cells #[.slice none 0 0, .slice none 0 0] 38)) _ _ _ at f0
  obtain ⟨W0, hW⟩ : ∃ W, w.alloc (.cells #[.slice none 0 0, .slice none 0 0] 38) = W := ⟨_, rfl⟩
  rw [hW] at hB0 f0 hs0 ⊢
  clear hW
  refine (c_l01Own2 _ T _ (HR.out.below hB0) (by have := HL0.out; omega) HRW.out).mono ?_; rintro e V ⟨r1, rfl, ho, hb1⟩
  obtain ⟨ra1, rc1, hv1, -⟩ := OwnRows.shape' ho
  rw [HL0.out] at hv1
  subst hv1
  have HF := Lib.hid (f0.under hb1); have HO := Lib.hid ho; have HWV := Lib.hid (bb hB0 hb1); have HS0 := Lib.hid (show w.heap.size + 1 ≤ V.heap.size by have := hb1.size; omega); have HS00 := Lib.hid hs0
  clear f0 ho hb1 hB0 hs0
  go_wp2
  have hB1 : Below V.heap.size V (V.alloc (.cells #[.slice ra1 n rc1, .slice none 0 0] 38)) := (Below.refl _ _).alloc (Nat.le_refl _) _
  have hout := Blk.new V [.slice ra1 n rc1, .slice none 0 0] 38
  have hs1 : (V.alloc (.cells #[.slice ra1 n rc1, .slice none 0 0] 38)).heap.size = V.heap.size + 1 := by simp
  change Blk (V.alloc (.cells #[.slice ra1 n rc1, .slice none 0 0] 38)) _ _ _ at hout
  obtain ⟨W1, hW1⟩ : ∃ W, V.alloc (.cells #[.slice ra1 n rc1, .slice none 0 0] 38) = W := ⟨_, rfl⟩
  rw [hW1] at hB1 hout hs1 ⊢
  clear hW1
  have HB1 := Lib.hid hB1; have HOut := Lib.hid hout; have HS1 := Lib.hid (show V.heap.size + 1 ≤ W1.heap.size by omega)
  clear hB1 hout hs1
  obtain ⟨gB, hgB⟩ : ∃ g : Int → Int → Int, g = nvG T := ⟨_, rfl⟩
  have HRB : Hid (nvB T = tabOf n gB) := Lib.hid (by unfold nvB; rw [HL0.out, hgB])
  have HGB : Hid (∀ x y : Int, gB x y = (idx (row T (val2 T x y)) x : Int)) := Lib.hid (by rw [hgB]; intro x y; rfl)
  clear hgB
  go_loopw [4] (fun a wr => ∃ (k : Nat) (vb : Value), k ≤ n ∧ a = .int .i64 k ∧ Hid (Below V.heap.size V wr ∧ V.heap.size + 1 ≤ wr.heap.size) ∧ Hid (Blk wr V.heap.size 38 [.slice ra1 n rc1, vb]) ∧ Hid (OwnRows (V.heap.size + 1) wr vb ((tabOf n gB).take k))) (fun a _ => n - (intOf a).toNat)
  case atStart => exact ⟨0, _, Nat.zero_le _, rfl, Lib.hid ⟨HB1.out, HS1.out⟩, HOut, Lib.hid ⟨[], ⟨by simp, .inl ⟨rfl, rfl⟩⟩, RowVals.nil _ _⟩⟩
  case round =>
    clear HB1 HOut HS1
    obtain ⟨k, vb, hk, rfl, HB, HQ, HO2⟩ := hrel
    obtain ⟨wo, rfl⟩ : ∃ wo : World, wo = wr := ⟨_, rfl⟩
    by_cases hlt : k < n
    · go_wp2
      go_loopw [5, 6] (fun s y wi => ∃ (j : Nat) (sa : Option Addr) (sc : Nat), j ≤ n ∧ y = .int .i64 j ∧ s = .slice sa j sc ∧ Hid (Below wo.heap.size wo wi) ∧ Hid (Own wo.heap.size wi (.slice sa j sc) ((rowOf n (gB k)).take j))) (fun _ y _ => n - (intOf y).toNat)
      case atStart => exact ⟨0, _, _, Nat.zero_le _, rfl, rfl, Lib.hid ((Below.refl _ _).alloc (Nat.le_refl _) _), Lib.hid (by simpa using Own.made0 wo (Nat.le_refl _))⟩
      case round =>
        obtain ⟨j, sa, sc, hj, rfl, rfl, Hb, Ho⟩ := hrel
        obtain ⟨wi, rfl⟩ : ∃ wi : World, wi = wr := ⟨_, rfl⟩
        by_cases hlj : j < n
        · have hB2 := bb HWV.out (bb HB.out.1 Hb.out)
          have T' := HT0.out.below hB2
          have r1 := T'.row k hlt
          have x1 := T'.val k j hlt hlj
          obtain ⟨d1, d2⟩ := T'.rng k j (by omega) (by omega) (by omega) (by omega)
          have r2 := T'.rowi (val2 T k j) d1 d2
          have HI0 := (HR.out.below hB2).getS (val2 T k j).toNat (by have := HL0.out; omega)
          obtain ⟨b', o', a', c', e', h1', h2'⟩ := HI0
          have e'' := e'
          injection e'' with e''
          injection e'' with e1 e2 e3
          subst e1 e2
          rw [h1'] at r2
          have hrl := HRL.out (val2 T k j) d1 d2
          rw [show (((val2 T k j).toNat : Nat) : Int) = val2 T k j from by omega] at r2 h2' h1'
          injection r2 with r2
          rw [r2] at h2'
          have HI := Lib.hid h2'
          have r3 := T'.rowi (val2 T k j) d1 d2
          have HEB := Lib.hid (HGB.out k j)
          have hl1 : ((rowOf n (gB k)).take j).length = j := by simp; omega
          have HL1a := Lib.hid hl1
          have HN1a : Hid (((rowOf n (gB k)).take j).length ≤ 1099511627776) := by show _ ≤ _; rw [hl1]; omega
          have HS1a : Hid (wo.heap.size ≤ wi.heap.size) := Lib.hid Hb.out.size
          clear hl1 h2' h1' r2 e' T' hB2
          go_wp2_with fail
          refine (c_l01Index _ _ _ _ HI.out).mono ?_; rintro e we ⟨rfl, rfl⟩
          go_wp2_with (at_builtin; refine wpList_app_int2 wo.heap.size wi _ ((rowOf n (gB k)).take j) _ _ _ wi.heap.size rfl rfl rfl rfl Ho.out rfl HN1a.out HS1a.out ?_; intro g c1 w1 hown1 hk1 hg1; rw [HL1a.out] at hown1; rw [HL1a.out]; have HO1 := Lib.hid hown1; have HZ2 := Lib.hid (Ho.out.frame Hb.out (Nat.le_refl _) HS1a.out hk1); clear hown1 hk1 hg1)
          go_roundw
          case rel =>
            refine ⟨j + 1, some ⟨g, 0, none⟩, c1, by omega, by go_num, rfl, HZ2, ?_⟩
            rw [take_snoc (rowOf n (gB k)) _ (by simpa using hlj), nth_rowOf _ _ _ hlj, HEB.out]
            exact HO1
          case measure => simp [intOf]; omega
        · obtain rfl : n = j := by omega
          have hTw := Ho.out
          rw [List.take_of_length_le (by simp)] at hTw
          have HU := Lib.hid hTw; clear hTw
          have HOi := Lib.hid (HO2.out.inn.under Hb.out)
          have HQi := Lib.hid (HQ.out.under Hb.out)
          have HBi := Lib.hid (bb HB.out.1 Hb.out)
          have hlb : ((tabOf n gB).take k).length = k := by simp; omega
          have HNB : Hid (((tabOf n gB).take k).length ≤ 1099511627776) := by show _ ≤ _; rw [hlb]; omega
          have HLB := Lib.hid hlb; clear hlb
          have HLM := Lib.hid HB.out.2
          have HLO : Hid ((V.heap.size + 1) ≤ wi.heap.size) := Nat.le_trans HB.out.2 Hb.out.size
          obtain ⟨cA, cB, cF, cG⟩ := two_cells HQi.out
          go_wp2_with (at_builtin; refine wpList_app_row2 (V.heap.size + 1) wo.heap.size wi vb ((tabOf n gB).take k) _ (rowOf n (gB k)) _ _ rfl rfl rfl HOi.out HU.out rfl HNB.out HLM.out HLO.out ?_; intro g c1 w1 hown1 hk1 hg1; rw [HLB.out] at hown1; rw [HLB.out]; have hq1 := HQi.out.of_block (hk1.block _ HQi.out.lt (fun e => by have := (OwnRows.lt HO2.out e).1; omega)); obtain ⟨dA, dB, dF, dG⟩ := two_cells hq1; have HQ1 := Lib.hid (hq1.set 1 (.slice (some ⟨g, 0, none⟩) (k + 1) c1)); have HO1 := Lib.hid (hown1.keep (keep1 w1 V.heap.size 1 (.slice (some ⟨g, 0, none⟩) (k + 1) c1)) (fun b h1 _ h3 => by have h3 : b = V.heap.size := h3; omega)); have HF1 := Lib.hid (((OwnRows.frame HOi.out.out HBi.out (Nat.le_succ _) (Nat.le_trans (Nat.le_succ _) HLO.out) hk1).setCell (p := ⟨V.heap.size, 1, none⟩) (Nat.le_refl _) (.slice (some ⟨g, 0, none⟩) (k + 1) c1))); have HS1 := Lib.hid (show V.heap.size + 1 ≤ (w1.setCell ⟨V.heap.size, 1, none⟩ (.slice (some ⟨g, 0, none⟩) (k + 1) c1)).heap.size from HQ1.out.lt); clear hown1 hk1 hg1 hq1)
          go_roundw
          case rel =>
            refine ⟨k + 1, .slice (some ⟨g, 0, none⟩) (k + 1) c1, by omega, by go_num, Lib.hid ⟨HF1.out, HS1.out⟩, HQ1, ?_⟩
            rw [take_snoc_row (tabOf n gB) _ (by simpa using hlt), row_tabOf _ _ _ hlt]
            exact HO1
          case measure => simp [intOf]; omega
    · obtain rfl : n = k := by omega
      have hO := HO2.out
      rw [List.take_of_length_le (by simp)] at hO
      obtain ⟨ra2, rc2, hvb, _⟩ := hO.rows.shape
      rw [tabOf_length] at hvb
      subst hvb
      obtain ⟨y0, y1, y2, y3⟩ := two_cells HQ.out
      obtain ⟨z0, z1, z2, z3⟩ := two_cells (HF.out.under HB.out.1)
      have HO' := Lib.hid hO; clear hO
      have hlt2 := HS0.out
      go_wp2
      refine bodyPost_ret (v := .agg #[.slice ra1 n rc1, .slice ra2 n rc2]) (by simp [results, Tryd.results81, go_sem, z0, z1]) rfl ⟨_, _, rfl, ⟨?_, ?_⟩, ((bb HWV.out HB.out.1).setCell (p := ⟨w.heap.size, 0, none⟩) (Nat.le_refl _) _).setCell (p := ⟨w.heap.size, 1, none⟩) (Nat.le_refl _) _⟩
      · have hs00 := HS00.out
        exact OwnRows.mono (B := W0.heap.size) (((HO.out.under HB.out.1).keep (keep1 _ w.heap.size 0 _) (fun b h1 h2 h3 => by have h3 : b = w.heap.size := h3; omega)).keep (keep1 _ w.heap.size 1 _) (fun b h1 h2 h3 => by have h3 : b = w.heap.size := h3; omega)) (by omega)
      · rw [HRB.out]
        exact OwnRows.mono (B := (V.heap.size + 1)) ((HO'.out.keep (keep1 _ w.heap.size 0 _) (fun b h1 h2 h3 => by have h3 : b = w.heap.size := h3; omega)).keep (keep1 _ w.heap.size 1 _) (fun b h1 h2 h3 => by have h3 : b = w.heap.size := h3; omega)) (by omega)
end Go.Proofs.YtnbhghgkjcfcmaaDoor

namespace Go.Proofs.YtnbhghgkjcfcmaaDoor
set_option linter.unusedVariables false
set_option linter.unusedSimpArgs false
open Go.RowKit

theorem ren_val {t : List (List Int)} {p : List Int} {x y : Int} (hx0 : 0 ≤ x) (hx : x < t.length) (hy0 : 0 ≤ y) (hy : y < t.length) : val2 (renL t p) x y = nth p (val2 t (nth (invL p) x) (nth (invL p) y)) := val2_tabOf' hx0 hx hy0 hy
theorem ren_then {t : List (List Int)} {p q : List Int} (h : RenOk t p) (hq : Permuted q) (hl : q.length = t.length) : renL (renL t p) q = renL t (thenL p q) := by
  obtain ⟨ht, hp, hpl⟩ := h
  have hpq := then_perm hp hq (by omega)
  unfold renL
  rw [tabOf_length]
  refine tabOf_congr fun x y hx hy => ?_
  have a := invL_lt hq (y := x) (by omega) (by omega)
  have b := invL_lt hq (y := y) (by omega) (by omega)
  have c := invL_lt hp (y := nth (invL q) x) a.1 (by omega)
  have d := invL_lt hp (y := nth (invL q) y) b.1 (by omega)
  have e := val2_lt ht (x := nth (invL p) (nth (invL q) x)) (y := nth (invL p) (nth (invL q) y)) c.1 (by omega) d.1 (by omega)
  have hA : nth (thenL (invL q) (invL p)) x = nth (invL p) (nth (invL q) x) := nth_thenL _ _ _ (by omega) (by rw [invL_length]; omega)
  have hB : nth (thenL (invL q) (invL p)) y = nth (invL p) (nth (invL q) y) := nth_thenL _ _ _ (by omega) (by rw [invL_length]; omega)
  rw [val2_tabOf' a.1 (by omega) b.1 (by omega), inv_then hp hq (by omega) hpq, hA, hB]
  exact (nth_thenL p q _ e.1 (by omega)).symm
theorem ren_one {t : List (List Int)} (ht : isTab t = true) : renL t (iota t.length) = t := by
  have hi : ∀ x : Int, 0 ≤ x → x < t.length → nth (invL (iota t.length)) x = x := fun x h0 h1 => by
    have h := nth_invL (permuted_iota t.length) (x := x) h0 (by simpa using h1)
    rwa [nth_iota _ _ h0 h1] at h
  conv => rhs; rw [← tabOf_val2 ht]
  unfold renL
  refine tabOf_congr fun x y hx hy => ?_
  rw [hi _ (by omega) (by omega), hi _ (by omega) (by omega)]
  have e := val2_lt ht (x := (x : Int)) (y := (y : Int)) (by omega) (by omega) (by omega) (by omega)
  rw [nth_iota _ _ e.1 e.2]
theorem renOk_ren {t : List (List Int)} {p : List Int} (h : RenOk t p) {q : List Int} (hq : Permuted q) (hl : q.length = t.length) : RenOk (renL t p) q := ⟨isTab_renL h, hq, by rw [renL_length]; exact hl⟩

theorem lexR_le_trans {a b c : List (List Int)} (h1 : lexR b a = false) (h2 : lexR c b = false) : lexR c a = false := by
  cases e : lexR c a with
  | false => rfl
  | true =>
    by_cases hab : a = b
    · subst hab; rw [e] at h2; cases h2
    · have h3 := lexR_total (a := b) (b := a) (fun h => hab h.symm) h1
      rw [lexR_trans e h3] at h2; cases h2
theorem bestR_le (f : List Int → List (List Int)) : ∀ (X : List (List Int)) (ps : List (List Int)), lexR X (bestR f X ps) = false ∧ ∀ p ∈ ps, lexR (f p) (bestR f X ps) = false
  | X, [] => ⟨lexR_irrefl X, by simp⟩
  | X, p :: ps => by
    unfold bestR
    obtain ⟨h1, h2⟩ := bestR_le f (if lexR (f p) X then f p else X) ps
    have hX : lexR X (if lexR (f p) X then f p else X) = false := by
      split
      · rename_i h; exact lexR_asymm h
      · exact lexR_irrefl X
    have hp : lexR (f p) (if lexR (f p) X then f p else X) = false := by
      split
      · exact lexR_irrefl _
      · rename_i h; simpa using h
    refine ⟨lexR_le_trans h1 hX, fun q hq => ?_⟩
    rcases List.mem_cons.1 hq with rfl | hq
    · exact lexR_le_trans h1 hp
    · exact h2 q hq
def lsT' (t : List (List Int)) : List (List Int) := bestR (renL t) t (allPerms t.length)
theorem lsT_is {t : List (List Int)} (ht : isTab t = true) : (∃ q, Permuted q ∧ q.length = t.length ∧ lsT' t = renL t q) ∧ ∀ q, Permuted q → q.length = t.length → lexR (renL t q) (lsT' t) = false := by
  refine ⟨?_, fun q hq hl => (bestR_le (renL t) t (allPerms t.length)).2 q (mem_allPerms.2 ⟨hq, hl⟩)⟩
  rcases bestR_mem (renL t) t (allPerms t.length) with h | ⟨q, hq, h⟩
  · exact ⟨iota t.length, permuted_iota _, by simp, by rw [ren_one ht]; exact h⟩
  · obtain ⟨a, b⟩ := mem_allPerms.1 hq
    exact ⟨q, a, b, h⟩
theorem perm_inv {p : List Int} (hp : Permuted p) : Permuted (invL p) := by
  rw [permuted_iff]
  intro x x0 x1
  rw [invL_length] at x1
  have := perm_lt hp x0 x1
  rw [← nth_invL hp x0 x1]
  exact nth_mem this.1 (by rw [invL_length]; exact this.2)
/-- Renamed tables have the same least form. -/
theorem lsT_ren {t : List (List Int)} {p : List Int} (h : RenOk t p) : lsT' (renL t p) = lsT' t := by
  obtain ⟨ht, hp, hpl⟩ := h
  have h : RenOk t p := ⟨ht, hp, hpl⟩
  obtain ⟨⟨q1, a1, b1, e1⟩, m1⟩ := lsT_is ht
  obtain ⟨⟨q2, a2, b2, e2⟩, m2⟩ := lsT_is (isTab_renL h)
  rw [renL_length] at b2 m2
  -- each is among the other's
  have f2 : lsT' (renL t p) = renL t (thenL p q2) := by rw [e2, ren_then h a2 b2]
  have hip := perm_inv hp
  have hback : thenL p (thenL (invL p) q1) = q1 := by
    apply ext_nth (by simp; omega)
    intro k hk
    simp at hk
    rw [nth_thenL _ _ _ (by omega) (by omega), nth_thenL _ _ _ (perm_lt hp (by omega) (by omega)).1 (by rw [invL_length]; exact (perm_lt hp (by omega) (by omega)).2), nth_invL hp (by omega) (by omega)]
  have f1 : lsT' t = renL (renL t p) (thenL (invL p) q1) := by
    rw [ren_then h (then_perm hip a1 (by simp; omega)) (by simp; omega), hback, e1]
  have g1 := m1 (thenL p q2) (then_perm hp a2 (by omega)) (by simp; omega)
  have g2 := m2 (thenL (invL p) q1) (then_perm hip a1 (by simp; omega)) (by simp; omega)
  rw [← f2] at g1
  rw [← f1] at g2
  apply Classical.byContradiction
  intro hne
  rw [lexR_total hne g1] at g2
  cases g2

theorem row_renL {t : List (List Int)} {p : List Int} (h : RenOk t p) {x : Nat} (hx : x < t.length) : row (renL t p) x = thenL (thenL (invL p) (row t (nth (invL p) x))) p := by
  obtain ⟨ht, hp, hpl⟩ := h
  have hix := invL_lt hp (y := (x : Int)) (by omega) (by omega)
  have hrl := isTab_row ht hix.1 (by omega)
  have hrr := isTab_row (isTab_renL (t := t) (p := p) ⟨ht, hp, hpl⟩) (x := (x : Int)) (by omega) (by simp; omega)
  rw [renL_length] at hrr
  apply ext_nth (by simp; omega)
  intro y hy
  have hy' : y < t.length := by omega
  have hiy := invL_lt hp (y := (y : Int)) (by omega) (by omega)
  have hv := val2_lt ht (x := nth (invL p) x) (y := nth (invL p) y) hix.1 (by omega) hiy.1 (by omega)
  have e1 : nth (row (renL t p) x) y = nth p (val2 t (nth (invL p) x) (nth (invL p) y)) := ren_val (by omega) (by omega) (by omega) (by omega)
  rw [e1, nth_thenL _ _ _ (by omega) (by simp; omega), nth_thenL _ _ _ (by omega) (by simp; omega)]
  rfl
theorem permRows_iff {t : List (List Int)} (ht : isTab t = true) : permRows t = true ↔ ∀ x : Nat, x < t.length → Permuted (row t x) := by
  obtain ⟨h1, h2⟩ := isTab_len ht
  unfold permRows
  rw [List.all_eq_true]
  constructor
  · intro h x hx
    have := h _ (row_mem (t := t) (x := (x : Int)) (by omega) (by omega))
    exact (isPerm_parts this).2.2
  · intro h r hr
    obtain ⟨x, hx, rfl⟩ := List.getElem_of_mem hr
    have hp := h x hx
    have hl := isTab_row ht (x := (x : Int)) (by omega) (by omega)
    rw [row_nat _ _ hx] at hp hl
    simp [isPerm, inR, hp]
    omega
/-- Renaming keeps 'all rows are permutations'. -/
theorem permRows_ren {t : List (List Int)} {p : List Int} (h : RenOk t p) (hr : permRows t = true) : permRows (renL t p) = true := by
  obtain ⟨ht, hp, hpl⟩ := h
  have h : RenOk t p := ⟨ht, hp, hpl⟩
  rw [permRows_iff (isTab_renL h)]
  rw [permRows_iff ht] at hr
  intro x hx
  rw [renL_length] at hx
  have hix := invL_lt hp (y := (x : Int)) (by omega) (by omega)
  have hrow := hr (nth (invL p) x).toNat (by omega)
  rw [show (((nth (invL p) x).toNat : Nat) : Int) = nth (invL p) x by omega] at hrow
  have hrl := isTab_row ht hix.1 (by omega)
  rw [row_renL h hx]
  have h1 := then_perm (perm_inv hp) hrow (by simp; omega)
  exact then_perm h1 hp (by first | (simp; omega) | simp [hpl] | omega)
theorem trans_ren {t : List (List Int)} {p : List Int} (h : RenOk t p) : transL (renL t p) = renL (transL t) p := by
  obtain ⟨ht, hp, hpl⟩ := h
  unfold transL
  rw [renL_length]
  unfold renL
  rw [tabOf_length]
  refine tabOf_congr fun x y hx hy => ?_
  have a := invL_lt hp (y := (x : Int)) (by omega) (by omega)
  have b := invL_lt hp (y := (y : Int)) (by omega) (by omega)
  rw [val2_tabOf' (by omega) (by omega) (by omega) (by omega), val2_tabOf' a.1 (by omega) b.1 (by omega)]
theorem ren_back {t : List (List Int)} {p : List Int} (h : RenOk t p) : renL (renL t p) (invL p) = t := by
  obtain ⟨ht, hp, hpl⟩ := h
  have h : RenOk t p := ⟨ht, hp, hpl⟩
  rw [ren_then h (perm_inv hp) (by simp; omega), then_back hp, hpl, ren_one ht]
theorem permRows_ren_iff {t : List (List Int)} {p : List Int} (h : RenOk t p) : permRows (renL t p) = permRows t := by
  rw [Bool.eq_iff_iff]
  constructor
  · intro hr
    have h2 := permRows_ren (renOk_ren h (perm_inv h.2.1) (by have := h.2.2; simp; omega)) hr
    rwa [ren_back h] at h2
  · exact permRows_ren h
/-- Renaming keeps latin tables and tables with permutations as rows. -/
theorem lat_ren {t : List (List Int)} {p : List Int} (h : RenOk t p) : latRes (renL t p) = latRes t := by
  have h2 : RenOk (transL t) p := ⟨isTab_transL h.1, h.2.1, by simp; exact h.2.2⟩
  unfold latRes
  rw [if_pos (isTab_renL h), if_pos h.1, permRows_ren_iff h, trans_ren h, permRows_ren_iff h2]
theorem trans_trans {t : List (List Int)} (ht : isTab t = true) : transL (transL t) = t := by
  conv => rhs; rw [← tabOf_val2 ht]
  unfold transL
  rw [tabOf_length]
  refine tabOf_congr fun x y hx hy => ?_
  exact val2_tabOf' (by omega) (by omega) (by omega) (by omega)
end Go.Proofs.YtnbhghgkjcfcmaaDoor

namespace Go.Proofs.YtnbhghgkjcfcmaaDoor
set_option linter.unusedVariables false
set_option linter.unusedSimpArgs false
open Go Go.RowKit Go.Shelf

theorem ivT_row {A B : List (List Int)} {n : Nat} {z : Int → Int} {ini : Int → Int → Int} {k u : Nat} (hu : u < n) : (row (ivT A B n z ini k) u).length = n := by
  unfold ivT; rw [row_tabOf _ _ _ hu]; simp

theorem two_start {w1 : World} {B q0 : Nat} {W0 : World} {va vb : Value} {X Y : List (List Int)} {P1 P2 : Nat → Prop} (h : Emp B q0 W0 w1 va vb X Y P1 P2) (hB : B ≤ q0) (o : Obj) :
    TwoP B w1.heap.size (w1.alloc o) va vb X Y := by
  have hs : (w1.alloc o).heap.size = w1.heap.size + 1 := by simp
  have hb : Below w1.heap.size w1 (w1.alloc o) := (Below.refl _ _).alloc (Nat.le_refl _) _
  refine ⟨P1, P2, fun b hb => ?_, fun b hb => ?_, h.o1.under hb, h.o2.under hb⟩
  · have := h.p1 b hb; exact ⟨by omega, by omega, by omega, this.2.2⟩
  · have := h.p2 b hb; exact ⟨by omega, by omega, by omega⟩
theorem row_zeros {n u : Nat} (hu : u < n) : (row (tabOf n fun _ _ => (0 : Int)) u).length = n := by rw [row_tabOf _ _ _ hu]; simp

set_option maxRecDepth 100000 in
set_option maxHeartbeats 4000000 in
theorem c_l02InverseC (v0 u0 : Value) (A B : List (List Int)) (w : World) (hA : Sol w v0 u0 A B) (hs : collL A B = []) (hp : isPM A B = true) :
    Calls Tryd.prog 82 #[.agg #[v0, u0]] w (RSolR w (ivA A B A.length) (ivB A B A.length)) := by
  have hPm := pmL_perm hp hs
  clear hs
  obtain ⟨n0, b0, o0, c0, rb0, ro0, rc0, b0s, o0s, c0s, rb0s, ro0s, rc0s, rfl, rfl, hl0, hl0s, hn0, hx0, hc0, hm0, hc0s, hm0s, t0, t0s⟩ := hA.tabs hp
  rw [hl0] at hPm ⊢
  have HPm := Lib.hid hPm; clear hPm
  have HL0 := Lib.hid hl0; clear hl0
  have HL0s := Lib.hid hl0s; clear hl0s
  go_enter Tryd.func82, Tryd.ntmps82
  obtain ⟨f0, f2, hW0, hsz⟩ := boxes2 w [.slice (some ⟨b0, o0, none⟩) n0 c0, .slice (some ⟨b0s, o0s, none⟩) n0 c0s] [.slice none 0 0, .slice none 0 0] 38 38
  obtain ⟨W0, hW⟩ : ∃ W0, ((w.alloc (.cells #[.slice (some ⟨b0, o0, none⟩) n0 c0, .slice (some ⟨b0s, o0s, none⟩) n0 c0s] 38)).alloc (.cells #[.slice none 0 0, .slice none 0 0] 38)) = W0 := ⟨_, rfl⟩
  rw [hW] at f0 f2 hW0 hsz
  have HSZ := Lib.hid hsz
  obtain ⟨cA0, cB0, -, -⟩ := two_cells f0
  replace t0 := t0.below hW0; replace t0s := t0s.below hW0
  have HT0 := Lib.hid t0; have HT0s := Lib.hid t0s
  have HF0 := Lib.hid f0; have HF2 := Lib.hid f2; have HW0 := Lib.hid hW0
  have hsz := HSZ.out
  have hW' := hW
  subst hW'
  clear hA hp f0 f2 t0 t0s hW0
  go_wp2_with fail
  obtain ⟨W0, hW⟩ : ∃ W0, ((w.alloc (.cells #[.slice (some ⟨b0, o0, none⟩) n0 c0, .slice (some ⟨b0s, o0s, none⟩) n0 c0s] 38)).alloc (.cells #[.slice none 0 0, .slice none 0 0] 38)) = W0 := ⟨_, rfl⟩
  rw [hW] at HF0 HF2 HW0 HSZ HT0 HT0s hsz cA0 cB0 ⊢
  clear hW
  refine (c_l02Empty n0 _ hx0).mono ?_; rintro e w1 ⟨r1, r2, P1, P2, rfl, hE⟩
  obtain ⟨ra1, rc1, hv1, -⟩ := OwnRows.shape' hE.o1.out
  obtain ⟨ra2, rc2, hv2, -⟩ := OwnRows.shape' hE.o2.out
  rw [show (tabOf n0 fun _ _ => (0 : Int)).length = n0 from by simp] at hv1 hv2
  subst hv1 hv2
  have hT := two_start hE (by omega) (.cells #[.slice ra1 n0 rc1, .slice ra2 n0 rc2] 38)
  have hQ : Blk (w1.alloc (.cells #[.slice ra1 n0 rc1, .slice ra2 n0 rc2] 38)) w1.heap.size 38 [.slice ra1 n0 rc1, .slice ra2 n0 rc2] := Blk.new w1 [.slice ra1 n0 rc1, .slice ra2 n0 rc2] 38
  have hB1 : Below W0.heap.size W0 (w1.alloc (.cells #[.slice ra1 n0 rc1, .slice ra2 n0 rc2] 38)) := hE.hb.alloc hE.hb.size _
  have hqs : W0.heap.size ≤ w1.heap.size := hE.hb.size
  obtain ⟨tb1, _, _, tb2, _, _, _, _, rfl, rfl, -⟩ := hT.put (u := 0) (y := 0) (m := n0) (m' := n0) (by simp; omega) (by simp; omega) (row_zeros (by omega)) (row_zeros (by omega)) (by omega) (by omega)
  have hZ : TwoP W0.heap.size w1.heap.size (w1.alloc (.cells #[.slice (some ⟨tb1, 0, none⟩) n0 rc1, .slice (some ⟨tb2, 0, none⟩) n0 rc2] 38)) (.slice (some ⟨tb1, 0, none⟩) n0 rc1) (.slice (some ⟨tb2, 0, none⟩) n0 rc2) (ivT A B n0 (fun c => c / n0) (fun _ _ => 0) (0 * n0)) (ivT A B n0 (fun c => c % n0) (fun _ _ => 0) (0 * n0)) := by
    rw [Nat.zero_mul, ivT_zero HPm.out, ivT_zero HPm.out]; exact hT
  have HT := Lib.hid hZ; have HQ := Lib.hid hQ; have HB1 := Lib.hid hB1
  have hqV : w1.heap.size < (w1.alloc (.cells #[.slice (some ⟨tb1, 0, none⟩) n0 rc1, .slice (some ⟨tb2, 0, none⟩) n0 rc2] 38)).heap.size := by simp
  clear hT hZ hQ hB1 hE cA0 cB0
  go_wp2
  obtain ⟨V, hV⟩ : ∃ V, (w1.alloc (.cells #[.slice (some ⟨tb1, 0, none⟩) n0 rc1, .slice (some ⟨tb2, 0, none⟩) n0 rc2] 38)) = V := ⟨_, rfl⟩
  rw [hV] at HT HQ HB1 hqV ⊢
  clear hV
  generalize w1.heap.size = q at HT HQ hqs hqV ⊢
  have HFV := Lib.hid (HF0.out.under HB1.out); have HGV := Lib.hid (HF2.out.under HB1.out)
  go_loopw [5, 6, 7, 8] (fun i _ _ _ wr => ∃ x : Nat, x ≤ n0 ∧ i = .int .i64 x ∧ Hid (Below W0.heap.size W0 wr) ∧ Hid (Blk wr w.heap.size 38 [.slice (some ⟨b0, o0, none⟩) n0 c0, .slice (some ⟨b0s, o0s, none⟩) n0 c0s]) ∧ Hid (Blk wr (w.heap.size + 1) 38 [.slice none 0 0, .slice none 0 0]) ∧ Hid (Blk wr q 38 [.slice (some ⟨tb1, 0, none⟩) n0 rc1, .slice (some ⟨tb2, 0, none⟩) n0 rc2]) ∧
    Hid (TwoP W0.heap.size q wr (.slice (some ⟨tb1, 0, none⟩) n0 rc1) (.slice (some ⟨tb2, 0, none⟩) n0 rc2) (ivT A B n0 (fun c => c / n0) (fun _ _ => 0) (x * n0)) (ivT A B n0 (fun c => c % n0) (fun _ _ => 0) (x * n0)))) (fun i _ _ _ _ => n0 - (intOf i).toNat)
  case atStart => exact ⟨0, Nat.zero_le _, rfl, HB1, HFV, HGV, HQ, HT⟩
  case round =>
    clear HFV HGV HQ HB1 HT hqV
    obtain ⟨x, hx, rfl, HB, HG, HR, HF, HT⟩ := hrel
    obtain ⟨wo, rfl⟩ : ∃ wo : World, wo = wr := ⟨_, rfl⟩
    by_cases hlt : x < n0
    · go_wp2
      go_loopw [6, 7, 8] (fun j _ _ wi => ∃ y : Nat, y ≤ n0 ∧ j = .int .i64 y ∧ Hid (Below W0.heap.size W0 wi) ∧ Hid (Blk wi w.heap.size 38 [.slice (some ⟨b0, o0, none⟩) n0 c0, .slice (some ⟨b0s, o0s, none⟩) n0 c0s]) ∧ Hid (Blk wi (w.heap.size + 1) 38 [.slice none 0 0, .slice none 0 0]) ∧ Hid (Blk wi q 38 [.slice (some ⟨tb1, 0, none⟩) n0 rc1, .slice (some ⟨tb2, 0, none⟩) n0 rc2]) ∧
        Hid (TwoP W0.heap.size q wi (.slice (some ⟨tb1, 0, none⟩) n0 rc1) (.slice (some ⟨tb2, 0, none⟩) n0 rc2) (ivT A B n0 (fun c => c / n0) (fun _ _ => 0) (x * n0 + y)) (ivT A B n0 (fun c => c % n0) (fun _ _ => 0) (x * n0 + y)))) (fun j _ _ _ => n0 - (intOf j).toNat)
      case atStart => exact ⟨0, Nat.zero_le _, rfl, HB, HG, HR, HF, HT⟩
      case round =>
        clear HB HG HR HF HT
        obtain ⟨y, hy, rfl, HB, HG, HR, HF, HT⟩ := hrel
        obtain ⟨wi, rfl⟩ : ∃ wi : World, wi = wr := ⟨_, rfl⟩
        by_cases hlty : y < n0
        · have T := HT0.out.below HB.out
          have T' := HT0s.out.below HB.out
          have va := T.rng x y (by omega) (by omega) (by omega) (by omega)
          have vb := T'.rng x y (by omega) (by omega) (by omega) (by omega)
          have HVa := Lib.hid va; have HVb := Lib.hid vb
          obtain ⟨u, hu⟩ : ∃ u : Nat, val2 A x y = u := ⟨(val2 A x y).toNat, by omega⟩
          obtain ⟨v, hv⟩ : ∃ v : Nat, val2 B x y = v := ⟨(val2 B x y).toNat, by omega⟩
          have e1 := T.row x hlt; have e2 := T'.row x hlt
          have e3 := T.val x y hlt hlty; have e4 := T'.val x y hlt hlty
          rw [hu] at e3; rw [hv] at e4
          have hun : u < n0 := by omega
          have hvn : v < n0 := by omega
          have HU0 := Lib.hid hu; have HV0 := Lib.hid hv
          have HE := Lib.hid (And.intro e2 e4)
          clear hu hv va vb T T' e2 e4
          obtain ⟨c1, c2, -, -⟩ := two_cells HG.out
          obtain ⟨q1, q2, q3, q4⟩ := two_cells HF.out
          obtain ⟨_, g1, r1, _, g2, r2, _, _, E1, E2, -, -, -, p1, p2, -⟩ := HT.out.put (u := u) (y := v) (m := n0) (m' := n0) (by simpa using hun) (by simpa using hun) (ivT_row hun) (ivT_row hun) hvn hvn
          injection E1 with E1; injection E1 with E1; injection E2 with E2; injection E2 with E2; subst E1 E2
          have HP := Lib.hid (And.intro p1 p2)
          go_wp2
          go_quiet (fail)
          rename_i nq
          have hbq : Below wi.heap.size wi (wi.drewN nq) := below_drewN (Below.refl _ _) nq
          generalize wi.drewN nq = wq at hbq ⊢
          clear p1 p2 q1 q2 q3 q4 c1 c2 e1 e3
          have P1 := cell_under hbq HP.out.1; have P2 := cell_under hbq HP.out.2
          obtain ⟨_, g1', r1', _, g2', r2', z1, z2, E1, E2, ⟨m1, m2, m3, m4⟩, ⟨n1, n2, n3, n4⟩, ⟨o1, o2, o3, o4, o5⟩, p1, p2, p3, p4, p5, p6⟩ := (HT.out.under hbq).put (u := u) (y := v) (m := n0) (m' := n0) (by simpa using hun) (by simpa using hun) (ivT_row hun) (ivT_row hun) hvn hvn
          injection E1 with E1; injection E1 with E1; injection E2 with E2; injection E2 with E2; subst E1 E2
          rw [P1] at p1; rw [P2] at p2
          injection p1 with p1; injection p1 with p1; injection p1 with p1; injection p1 with p1
          injection p2 with p2; injection p2 with p2; injection p2 with p2; injection p2 with p2
          subst p1 p2
          have hBq : Below W0.heap.size W0 wq := HB.out.trans (hbq.mono HB.out.size)
          have hB9 : Below W0.heap.size W0 (wq.setCell ⟨g1, v, none⟩ (.int .i64 (x : Int))) := hBq.setCell (p := ⟨g1, v, none⟩) m2 _
          have H6 := Lib.hid p6; have HB9 := Lib.hid hB9
          have hBX := (HT0s.out.below hBq); have hBY := (HT0s.out.below hB9)
          have a1 := hBX.row x hlt; have a2 := hBX.val x y hlt hlty
          have a3 := hBY.row x hlt; have a4 := hBY.val x y hlt hlty
          rw [HV0.out] at a2 a4
          obtain ⟨b1, b2, -, -⟩ := two_cells (HF0.out.under hBq)
          obtain ⟨b3, b4, -, -⟩ := two_cells (HF0.out.under hB9)
          obtain ⟨s1, s2⟩ := p5 x
          have HPk := Lib.hid hbq
          clear hBX hBY P1 P2 hBq hB9 p5 p6 hbq
          go_wp2
          have kz : Keep (fun b => b = g1 ∨ b = g2) wi ((wq.setCell ⟨g1, v, none⟩ (.int .i64 (x : Int))).setCell ⟨g2, v, none⟩ (.int .i64 (y : Int))) := by
            have k0 : Keep (fun b => b = g1 ∨ b = g2) wi wq := (Keep.refl _ wi).under HPk.out
            exact (k0.setCell (p := ⟨g1, v, none⟩) (.inl (.inl rfl)) (.int .i64 (x : Int))).setCell (p := ⟨g2, v, none⟩) (.inl (.inr rfl)) (.int .i64 (y : Int))
          have hT9 : TwoP W0.heap.size q ((wq.setCell ⟨g1, v, none⟩ (.int .i64 (x : Int))).setCell ⟨g2, v, none⟩ (.int .i64 (y : Int))) (.slice (some ⟨tb1, 0, none⟩) n0 rc1) (.slice (some ⟨tb2, 0, none⟩) n0 rc2) (ivT A B n0 (fun c => c / n0) (fun _ _ => 0) (x * n0 + y + 1)) (ivT A B n0 (fun c => c % n0) (fun _ _ => 0) (x * n0 + y + 1)) := by
            have h9 := H6.out x y
            have hcd := code_div (n := n0) (x := (x : Int)) (y := (y : Int)) (by omega) (by omega)
            have va := HVa.out
            have vb := HVb.out
            have e1 := ivT_step HPm.out (fun c => c / n0) (fun _ _ => 0) hlt hlty va.1 va.2 vb.1 vb.2
            have e2 := ivT_step HPm.out (fun c => c % n0) (fun _ _ => 0) hlt hlty va.1 va.2 vb.1 vb.2
            rw [HU0.out, HV0.out] at e1 e2
            simp only [Int.toNat_natCast] at e1 e2
            rw [hcd.1] at e1
            rw [hcd.2] at e2
            rw [← e1, ← e2]
            exact h9
          have hz := HSZ.out
          go_roundw
          case rel =>
            exact ⟨y + 1, by omega, by go_num, Lib.hid (HB9.out.setCell (p := ⟨g2, v, none⟩) m4 _), Lib.hid (HG.out.of_block (kz.block _ HG.out.lt (by omega))), Lib.hid (HR.out.of_block (kz.block _ HR.out.lt (by omega))), Lib.hid (HF.out.of_block (kz.block _ HF.out.lt (by omega))), Lib.hid hT9⟩
          case measure => simp [intOf]; omega
        · obtain rfl : y = n0 := by omega
          go_wp2
          go_roundw
          case rel => exact ⟨x + 1, by omega, by go_num, HB, HG, HR, HF, Lib.hid (by have h := HT.out; rw [show x * y + y = (x + 1) * y from by rw [Nat.succ_mul]] at h; exact h)⟩
          case measure => simp [intOf]; omega
    · obtain rfl : x = n0 := by omega
      obtain ⟨q1, q2, -, -⟩ := two_cells HF.out
      obtain ⟨d1, d2, d3, d4⟩ := two_cells HR.out
      have hz := HSZ.out
      have HPd := HPm
      go_wp2
      have hT := HT.out
      rw [ivA_eq HPd.out, ivB_eq HPd.out] at hT
      obtain ⟨Q1, Q2, k1, k2, o1, o2⟩ := hT
      have kz : Keep (fun b => b = w.heap.size + 1) wo ((wo.setCell ⟨w.heap.size + 1, 0, none⟩ (.slice (some ⟨tb1, 0, none⟩) x rc1)).setCell ⟨w.heap.size + 1, 1, none⟩ (.slice (some ⟨tb2, 0, none⟩) x rc2)) := keep_early _ _ _ _
      have hBz : Below w.heap.size w wo := HW0.out.trans (HB.out.mono HW0.out.size)
      refine bodyPost_ret (v := .agg #[.slice (some ⟨tb1, 0, none⟩) x rc1, .slice (some ⟨tb2, 0, none⟩) x rc2]) (by simp [results, Tryd.results82, go_sem, d1, d2]) rfl ⟨_, _, rfl, ⟨?_, ?_⟩, hBz.trans (kz.below fun b hb => ⟨by have := hBz.size; omega, fun e => by have e : b = w.heap.size + 1 := e; omega⟩)⟩
      · exact ((o1.keep kz (fun b hb e => by have := (k1 b hb).1; have e : b = w.heap.size + 1 := e; omega)).out).mono (by omega)
      · exact ((o2.keep kz (fun b hb e => by have := (k2 b hb).1; have e : b = w.heap.size + 1 := e; omega)).out).mono (by omega)
theorem c_l02Inverse (v0 u0 : Value) (A B : List (List Int)) (w : World) (hA : Sol w v0 u0 A B) (hs : isSol A B = true) (hp : isPM A B = true) :
    Calls Tryd.prog 82 #[.agg #[v0, u0]] w (RSolR w (ivA A B A.length) (ivB A B A.length)) := c_l02InverseC v0 u0 A B w hA (isSol_coll hs) hp
end Go.Proofs.YtnbhghgkjcfcmaaDoor

namespace Go.Proofs.YtnbhghgkjcfcmaaDoor
set_option linter.unusedVariables false
set_option linter.unusedSimpArgs false

theorem isPM_mk {A B : List (List Int)} (h1 : isTab A = true) (h2 : isTab B = true) (h3 : A.length = B.length) : isPM A B = true := by simp [isPM, h1, h2, h3]
theorem isPM_tabOf {n : Nat} {g h : Int → Int → Int} (h1 : 1 ≤ n) (h2 : n ≤ 12) (hg : ∀ x y : Int, 0 ≤ x → x < n → 0 ≤ y → y < n → 0 ≤ g x y ∧ g x y < n) (hh : ∀ x y : Int, 0 ≤ x → x < n → 0 ≤ y → y < n → 0 ≤ h x y ∧ h x y < n) : isPM (tabOf n g) (tabOf n h) = true :=
  isPM_mk (isTab_tabOf h1 h2 fun x y hx hy => hg x y (by omega) (by omega) (by omega) (by omega)) (isTab_tabOf h1 h2 fun x y hx hy => hh x y (by omega) (by omega) (by omega) (by omega)) (by simp)

theorem pg_pm {n : Nat} (h1 : 1 ≤ n) (h2 : n ≤ 12) : isPM (pgA n) (pgB n) = true := by
  unfold pgA pgB
  refine isPM_tabOf h1 h2 (fun x y _ _ _ _ => ⟨Int.emod_nonneg _ (by omega), Int.emod_lt_of_pos _ (by omega)⟩) (fun x y a b _ _ => ⟨a, b⟩)
@[simp] theorem pgA_length (n : Nat) : (pgA n).length = n := by simp [pgA]
theorem pg_coll {n : Nat} (h1 : 1 ≤ n) (h2 : n ≤ 12) : collL (pgA n) (pgB n) = [] := by
  unfold collL
  refine quad_none (find2_none fun a ha b hb => ?_)
  rw [pgA_length] at ha hb ⊢
  unfold colP
  have a1 := div_lt_sq ha; have a2 := Nat.mod_lt a (show 0 < n by omega)
  have b1 := div_lt_sq hb; have b2 := Nat.mod_lt b (show 0 < n by omega)
  have g1 := Nat.div_add_mod a n
  have g2 := Nat.div_add_mod b n
  generalize a / n = x1 at a1 g1 ⊢
  generalize a % n = y1 at a2 g1 ⊢
  generalize b / n = x2 at b1 g2 ⊢
  generalize b % n = y2 at b2 g2 ⊢
  unfold pgA pgB
  rw [val2_tabOf' (by omega) (by omega) (by omega) (by omega), val2_tabOf' (by omega) (by omega) (by omega) (by omega), val2_tabOf' (by omega) (by omega) (by omega) (by omega), val2_tabOf' (by omega) (by omega) (by omega) (by omega)]
  by_cases e2 : (x1 : Int) = x2
  · by_cases e1 : (2 * (x1 : Int) - y1 + n) % n = (2 * (x2 : Int) - y2 + n) % n
    · have hx : x1 = x2 := by omega
      subst hx
      have hd := Int.emod_emod_of_dvd (2 * (x1 : Int) - y1 + n) (Int.dvd_refl (n : Int))
      have h3 : ((2 * (x1 : Int) - y1 + n) - (2 * (x1 : Int) - y2 + n)) % n = 0 := by rw [Int.sub_emod, e1]; simp
      have h4 : (n : Int) ∣ ((y2 : Int) - y1) := by
        have := Int.dvd_of_emod_eq_zero h3
        rwa [show (2 * (x1 : Int) - y1 + n) - (2 * (x1 : Int) - y2 + n) = y2 - y1 by omega] at this
      obtain ⟨c, hc⟩ := h4
      have hy : y1 = y2 := by
        rcases Int.lt_trichotomy c 0 with h | h | h
        · have : (n : Int) * c ≤ n * (-1) := Int.mul_le_mul_of_nonneg_left (by omega) (by omega)
          omega
        · subst h; omega
        · have : (n : Int) * 1 ≤ n * c := Int.mul_le_mul_of_nonneg_left (by omega) (by omega)
          omega
      have : a = b := by rw [← g1, ← g2, hy]
      simp [this]
    · have e3 : ¬ (2 * (x1 : Int) - y1) % n = (2 * (x2 : Int) - y2) % n := by simpa using e1
      simp [e3]
  · simp [e2]

theorem pr_pm {A B C D : List (List Int)} (h1 : isPM A B = true) (h2 : isPM C D = true) (hs : A.length * C.length ≤ 12) : isPM (prT A C) (prT B D) = true := by
  obtain ⟨a1, a2, a3⟩ := isPM_parts h1
  obtain ⟨c1, c2, c3⟩ := isPM_parts h2
  have l1 := (isTab_len a1).1; have l2 := (isTab_len c1).1
  have hmul : 1 ≤ A.length * C.length := Nat.mul_pos l1 l2
  have key : ∀ (X Y : List (List Int)), isTab X = true → isTab Y = true → X.length = A.length → Y.length = C.length → isTab (prT X Y) = true := by
    intro X Y hX hY e1 e2
    unfold prT
    rw [e1, e2]
    refine isTab_tabOf hmul hs fun x y hx hy => ?_
    obtain ⟨d1, d2, d3, d4⟩ := divI2 hx l2
    obtain ⟨d5, d6, d7, d8⟩ := divI2 hy l2
    have v1 := val2_lt hX d1 (by rw [e1]; exact d2) d5 (by rw [e1]; exact d6)
    have v2 := val2_lt hY d3 (by rw [e2]; exact d4) d7 (by rw [e2]; exact d8)
    rw [e1] at v1; rw [e2] at v2
    have := pairI v1.1 v1.2 v2.1 v2.2
    push_cast
    exact this
  exact isPM_mk (key A C a1 c1 rfl rfl) (key B D a2 c2 a3.symm c3.symm) (by simp [prT, a3, c3])
@[simp] theorem prT_length (A C : List (List Int)) : (prT A C).length = A.length * C.length := by simp [prT]

theorem un_pm {A B C D : List (List Int)} (h1 : isPM A B = true) (h2 : isPM C D = true) (hs : A.length + C.length ≤ 12) : isPM (unTA A C) (unTB B D) = true := by
  obtain ⟨a1, a2, a3⟩ := isPM_parts h1
  obtain ⟨c1, c2, c3⟩ := isPM_parts h2
  have l1 := (isTab_len a1).1; have l2 := (isTab_len c1).1
  have key : ∀ (X Y : List (List Int)) (z : Int → Int → Int), isTab X = true → isTab Y = true → X.length = A.length → Y.length = C.length → (∀ x y : Int, 0 ≤ x → x < ((A.length + C.length : Nat) : Int) → 0 ≤ y → y < ((A.length + C.length : Nat) : Int) → 0 ≤ z x y ∧ z x y < ((A.length + C.length : Nat) : Int)) → isTab (tabOf (A.length + C.length) (unG X Y z)) = true := by
    intro X Y z hX hY e1 e2 hz
    refine isTab_tabOf (by omega) hs fun x y hx hy => ?_
    unfold unG
    rw [e1]
    by_cases g1 : (x : Int) < A.length ∧ (y : Int) < A.length
    · rw [if_pos g1]
      have v1 := val2_lt hX (x := x) (y := y) (by omega) (by rw [e1]; exact g1.1) (by omega) (by rw [e1]; exact g1.2)
      rw [e1] at v1; omega
    · rw [if_neg g1]
      by_cases g2 : (A.length : Int) ≤ x ∧ (A.length : Int) ≤ y
      · rw [if_pos g2]
        have v1 := val2_lt hY (x := (x : Int) - A.length) (y := (y : Int) - A.length) (by omega) (by omega) (by omega) (by omega)
        omega
      · rw [if_neg g2]
        exact hz x y (by omega) (by omega) (by omega) (by omega)
  refine isPM_mk (key A C _ a1 c1 rfl rfl fun x y _ _ h1 h2 => ⟨h1, h2⟩) ?_ (by simp [unTA, unTB, a3, c3])
  unfold unTB
  rw [← a3, ← c3]
  exact key B D _ a2 c2 a3.symm c3.symm fun x y h1 h2 _ _ => ⟨h1, h2⟩
@[simp] theorem unTA_length (A C : List (List Int)) : (unTA A C).length = A.length + C.length := by simp [unTA]

theorem iv_pm {A B : List (List Int)} (hp : isPM A B = true) (hc : collL A B = []) : isPM (ivA A B A.length) (ivB A B A.length) = true := by
  have hP := pmL_perm hp hc
  have hl := isTab_len (isPM_parts hp).1
  unfold ivA ivB
  refine isPM_tabOf hl.1 hl.2 (fun x y a b c d => ?_) (fun x y a b c d => ?_)
  · obtain ⟨h0, h1, -⟩ := iv_range hP a b c d
    have := divI (k := (nth (invL (pmL A B A.length)) (x * A.length + y)).toNat) (n := A.length) (by omega) hl.1
    rw [show (((nth (invL (pmL A B A.length)) (x * A.length + y)).toNat : Nat) : Int) = nth (invL (pmL A B A.length)) (x * A.length + y) by omega] at this
    exact ⟨this.1, this.2.1⟩
  · obtain ⟨h0, h1, -⟩ := iv_range hP a b c d
    have := divI (k := (nth (invL (pmL A B A.length)) (x * A.length + y)).toNat) (n := A.length) (by omega) hl.1
    rw [show (((nth (invL (pmL A B A.length)) (x * A.length + y)).toNat : Nat) : Int) = nth (invL (pmL A B A.length)) (x * A.length + y) by omega] at this
    exact ⟨this.2.2.1, this.2.2.2⟩
@[simp] theorem ivA_length (A B : List (List Int)) (n : Nat) : (ivA A B n).length = n := by simp [ivA]

theorem ren_pm {A B : List (List Int)} {p : List Int} (hp : isPM A B = true) (hq : Permuted p) (hl : p.length = A.length) : isPM (renL A p) (renL B p) = true := by
  obtain ⟨a1, a2, a3⟩ := isPM_parts hp
  exact isPM_mk (isTab_renL ⟨a1, hq, hl⟩) (isTab_renL ⟨a2, hq, hl.trans a3⟩) (by rw [renL_length, renL_length]; exact a3)

def nv4 : List (List Int) := [[0, 1, 3, 2], [0, 1, 3, 2], [1, 0, 2, 3], [1, 0, 2, 3]]
def nv3 : List (List Int) := [[0, 1, 2], [0, 1, 2], [1, 0, 2]]
theorem nv4_pm : isTab nv4 = true ∧ isPM nv4 (nvB nv4) = true := by decide +kernel
theorem nv3_pm : isTab nv3 = true ∧ isPM nv3 (nvB nv3) = true := by decide +kernel
end Go.Proofs.YtnbhghgkjcfcmaaDoor
