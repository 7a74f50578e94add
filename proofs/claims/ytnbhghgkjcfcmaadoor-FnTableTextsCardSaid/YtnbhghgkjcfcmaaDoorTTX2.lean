/-
  Draws of texts, texts there and back, and the law FnTableTexts.
-/
import Derived.Test.YtnbhghgkjcfcmaaDoorTTX1
import Derived.Test.YtnbhghgkjcfcmaaDoorI6
import Derived.Test.YtnbhghgkjcfcmaaDoorLTables
import Derived.StillTailTactics
import Derived.Deep.RegionHeld3
import Derived.Test.YtnbhghgkjcfcmaaDoorBase
import Derived.Test.YtnbhghgkjcfcmaaDoorI24
import Derived.Test.YtnbhghgkjcfcmaaDoorI3c
import Derived.Deep.RegionLaw
import Derived.RangeFuncNested
import Derived.RangeFuncBound
import Derived.RangeFuncCalls
import Derived.RangeFuncLeaves
import Derived.Shelf.Abstract
import Derived.Shelf.RegionOpen
import Derived.OwnWalkIn
import Derived.TacticsInMore
import Derived.LoopNIn
import Derived.LoopIn
import Derived.Test.YtnbhghgkjcfcmaaDoorP5
import Derived.Test.YtnbhghgkjcfcmaaDoorI1c
import Derived.RegionTactic
import Derived.BigRegion
import Derived.ChangeAlike
import Derived.Test.YtnbhghgkjcfcmaaDoorI4
import Derived.Test.YtnbhghgkjcfcmaaDoorI1
import Derived.Test.YtnbhghgkjcfcmaaDoorI3d
import Derived.Test.YtnbhghgkjcfcmaaDoorI3b
import Derived.ControlIn
import Derived.Deep.LoopGhost
import Derived.Shelf.Strings.OnBuilder
import Derived.Test.YtnbhghgkjcfcmaaDoorProg
import Derived.Shelf.Strings.Cut
import Derived.Shelf.Strings.Split
import Derived.Shelf.LaysM
import Derived.Shelf.Strings.Shaped
import Derived.Shelf.Strings.SplitShaped
import Derived.Test.YtnbhghgkjcfcmaaDoorI2
import Derived.Test.YtnbhghgkjcfcmaaDoorLawC
namespace Go.Proofs.YtnbhghgkjcfcmaaDoor
set_option linter.unusedVariables false
set_option linter.unusedSimpArgs false
open Go.RowKit

def prT (A C : List (List Int)) : List (List Int) := tabOf (A.length * C.length) fun x y => val2 A (x / C.length) (y / C.length) * C.length + val2 C (x % C.length) (y % C.length)
def prOk (A B C D : List (List Int)) : Bool := isPM A B && isPM C D
def prSm (A C : List (List Int)) : Bool := decide (A.length * C.length ≤ 12)
def prRA (A B C D : List (List Int)) : List (List Int) := if prOk A B C D && prSm A C then prT A C else []
def prRB (A B C D : List (List Int)) : List (List Int) := if prOk A B C D && prSm A C then prT B D else []
def prCode (A B C D : List (List Int)) : Int := if prOk A B C D then (if prSm A C then 0 else 3) else 1
theorem prOk_of {A B C D : List (List Int)} (h1 : isPM A B = true) (h2 : isPM C D = true) : prOk A B C D = true := by simp [prOk, h1, h2]
theorem divN {k n m : Nat} (h : k < n * m) (hm : 1 ≤ m) : k / m < n ∧ k % m < m := ⟨Nat.div_lt_of_lt_mul (by rw [Nat.mul_comm]; exact h), Nat.mod_lt _ (by omega)⟩
theorem divI2 {k n m : Nat} (h : k < n * m) (hm : 1 ≤ m) : 0 ≤ (k : Int) / (m : Int) ∧ (k : Int) / (m : Int) < n ∧ 0 ≤ (k : Int) % (m : Int) ∧ (k : Int) % (m : Int) < m := by
  obtain ⟨h1, h2⟩ := divN h hm
  rw [← Int.natCast_ediv, ← Int.natCast_emod]; exact ⟨Int.natCast_nonneg _, Int.ofNat_lt.2 h1, Int.natCast_nonneg _, Int.ofNat_lt.2 h2⟩
theorem pairI {a b : Int} {n m : Nat} (ha0 : 0 ≤ a) (ha : a < n) (hb0 : 0 ≤ b) (hb : b < m) : 0 ≤ a * m + b ∧ a * m + b < n * m := by
  have h1 : 0 ≤ a * (m : Int) := Int.mul_nonneg ha0 (by omega)
  have h2 : (a + 1) * (m : Int) ≤ n * m := Int.mul_le_mul_of_nonneg_right (by omega) (by omega)
  have h3 : (a + 1) * (m : Int) = a * m + m := by rw [Int.add_mul, Int.one_mul]
  omega



set_option maxRecDepth 100000 in
set_option maxHeartbeats 4000000 in
theorem c_l02Product (v0 u0 : Value) (A B : List (List Int)) (v1 u1 : Value) (C D : List (List Int)) (w : World) (hA : Sol w v0 u0 A B) (hC : Sol w v1 u1 C D) (hp : isPM A B = true) (hq : isPM C D = true) (hsm : A.length * C.length ≤ 12) :
    Calls Tryd.prog 78 #[.agg #[v0, u0], .agg #[v1, u1]] w (RSolR w (prT A C) (prT B D)) := by
  obtain ⟨n0, b0, o0, c0, rb0, ro0, rc0, b0s, o0s, c0s, rb0s, ro0s, rc0s, rfl, rfl, hl0, hl0s, hn0, hx0, hc0, hm0, hc0s, hm0s, t0, t0s⟩ := hA.tabs hp
  have HL0 := Lib.hid hl0; clear hl0
  have HL0s := Lib.hid hl0s; clear hl0s
  obtain ⟨n1, b1, o1, c1, rb1, ro1, rc1, b1s, o1s, c1s, rb1s, ro1s, rc1s, rfl, rfl, hl1, hl1s, hn1, hx1, hc1, hm1, hc1s, hm1s, t1, t1s⟩ := hC.tabs hq
  have HL1 := Lib.hid hl1; clear hl1
  have HL1s := Lib.hid hl1s; clear hl1s
  go_enter Tryd.func78, Tryd.ntmps78
  go_wp2
  obtain ⟨f0, f1, f2, hW0, hsz⟩ := boxes3 w [.slice (some ⟨b0, o0, none⟩) n0 c0, .slice (some ⟨b0s, o0s, none⟩) n0 c0s] [.slice (some ⟨b1, o1, none⟩) n1 c1, .slice (some ⟨b1s, o1s, none⟩) n1 c1s] [.slice none 0 0, .slice none 0 0] 38 38 38
  obtain ⟨W0, hW⟩ : ∃ W, (((w.alloc (.cells #[.slice (some ⟨b0, o0, none⟩) n0 c0, .slice (some ⟨b0s, o0s, none⟩) n0 c0s] 38)).alloc (.cells #[.slice (some ⟨b1, o1, none⟩) n1 c1, .slice (some ⟨b1s, o1s, none⟩) n1 c1s] 38)).alloc (.cells #[.slice none 0 0, .slice none 0 0] 38)) = W := ⟨_, rfl⟩
  rw [hW] at f0 f1 f2 hW0 hsz ⊢
  have HSZ := Lib.hid hsz
  clear hW hsz
  obtain ⟨cA0, cB0, -, -⟩ := two_cells f0
  obtain ⟨cA1, cB1, -, -⟩ := two_cells f1
  obtain ⟨cA2, cB2, -, -⟩ := two_cells f2
  replace t0 := t0.below hW0; replace t0s := t0s.below hW0
  replace t1 := t1.below hW0; replace t1s := t1s.below hW0
  rw [HL0.out, HL1.out] at hsm
  obtain ⟨N, hN⟩ : ∃ N, N = n0 * n1 := ⟨_, rfl⟩
  have hNI : (n0 : Int) * n1 = N := by rw [hN]; push_cast; rfl
  obtain ⟨gA, hgA⟩ : ∃ g : Int → Int → Int, g = fun x y => val2 A (x / n1) (y / n1) * n1 + val2 C (x % n1) (y % n1) := ⟨_, rfl⟩
  obtain ⟨gB, hgB⟩ : ∃ g : Int → Int → Int, g = fun x y => val2 B (x / n1) (y / n1) * n1 + val2 D (x % n1) (y % n1) := ⟨_, rfl⟩
  have hRA : prT A C = tabOf N gA := by unfold prT; rw [HL0.out, HL1.out, hgA, hN]
  have hRB : prT B D = tabOf N gB := by unfold prT; rw [HL0s.out, HL1s.out, hgB, hN]
  have HRA := Lib.hid hRA; have HRB := Lib.hid hRB
  have HGA : Hid (∀ x y : Int, gA x y = val2 A (x / n1) (y / n1) * n1 + val2 C (x % n1) (y % n1)) := Lib.hid (by rw [hgA]; intro x y; rfl)
  have HGB : Hid (∀ x y : Int, gB x y = val2 B (x / n1) (y / n1) * n1 + val2 D (x % n1) (y % n1)) := Lib.hid (by rw [hgB]; intro x y; rfl)
  have HN := Lib.hid hN
  rw [← hN] at hsm
  clear hgA hgB hRA hRB hN hA hC hp hq
  go_quiet (fail)
  rename_i nq
  have hdn : Below W0.heap.size W0 (W0.drewN nq) := below_drewN (Below.refl _ _) nq
  replace f0 := f0.under hdn; replace f1 := f1.under hdn; replace f2 := f2.under hdn; replace hW0 := bb hW0 hdn
  have HT0 := Lib.hid (t0.below hdn); have HT0s := Lib.hid (t0s.below hdn); have HT1 := Lib.hid (t1.below hdn); have HT1s := Lib.hid (t1s.below hdn)
  have HSV : Hid ((W0.drewN nq).heap.size = w.heap.size + 1 + 1 + 1) := HSZ.out
  generalize W0.drewN nq = V at f0 f1 f2 hW0 HT0 HT0s HT1 HT1s HSV ⊢
  have HF2lt := Lib.hid f2.lt
  have hV := hW0
  clear t0 t0s t1 t1s cA0 cB0 cA1 cB1 cA2 cB2 hdn HSZ hW0
  go_wp2
  have hB1 : Below V.heap.size V (V.alloc (.cells #[.slice none 0 0, .slice none 0 0] 38)) := (Below.refl _ _).alloc (Nat.le_refl _) _
  have hout := Blk.new V [.slice none 0 0, .slice none 0 0] 38
  have hs1 : (V.alloc (.cells #[.slice none 0 0, .slice none 0 0] 38)).heap.size = V.heap.size + 1 := by simp
  have hqq : V.heap.size = V.heap.size := rfl
  change Blk (V.alloc (.cells #[.slice none 0 0, .slice none 0 0] 38)) _ _ _ at hout
  obtain ⟨W1, hW1⟩ : ∃ W, V.alloc (.cells #[.slice none 0 0, .slice none 0 0] 38) = W := ⟨_, rfl⟩
  rw [hW1] at hB1 hout hs1 ⊢
  clear hW1
  have hout' : Blk W1 (V.heap.size) 38 [.slice none 0 0, .slice none 0 0] := by rw [← hqq]; exact hout
  have HOut := Lib.hid (Out2.start (lo := V.heap.size + 1) (q := V.heap.size) (w := W1) (by omega) (by omega) hout')
  have HB1 := Lib.hid hB1; have HWW := Lib.hid hV; have HS1 := Lib.hid hs1
  have HQLE : Hid (V.heap.size ≤ V.heap.size) := Lib.hid (by omega)
  clear hB1 hout hout' hs1 hV hqq
  go_loopw [8, 9, 10, 11] (fun a _ _ _ wr => ∃ (k : Nat) (va vb : Value), k ≤ N ∧ a = .int .i64 k ∧ Hid (Below V.heap.size V wr) ∧ Hid (Out2 (V.heap.size + 1) wr.heap.size (V.heap.size) wr va vb ((tabOf N gA).take k) ((tabOf N gB).take k))) (fun a _ _ _ _ => N - (intOf a).toNat)
  case atStart => exact ⟨0, _, _, Nat.zero_le _, rfl, HB1, HOut⟩
  case round =>
    clear HB1 HOut
    obtain ⟨k, va, vb, hk, rfl, HB, HO⟩ := hrel
    obtain ⟨wo, rfl⟩ : ∃ wo : World, wo = wr := ⟨_, rfl⟩
    by_cases hlt : k < N
    · go_wp2
      go_loopw [9, 10, 11] (fun s t y wi => ∃ (j : Nat) (sa : Option Addr) (sc : Nat) (ta : Option Addr) (tc : Nat), j ≤ N ∧ y = .int .i64 j ∧ s = .slice sa j sc ∧ t = .slice ta j tc ∧ Hid (Below wo.heap.size wo wi) ∧ Hid (Two wo.heap.size wi (.slice sa j sc) (.slice ta j tc) ((rowOf N (gA k)).take j) ((rowOf N (gB k)).take j))) (fun _ _ y _ => N - (intOf y).toNat)
      case atStart => exact ⟨0, _, _, _, _, Nat.zero_le _, rfl, rfl, rfl, Lib.hid (((Below.refl wo.heap.size wo).alloc (Nat.le_refl _) _).alloc (by simp) _), Lib.hid (Two.made0 wo)⟩
      case round =>
        obtain ⟨j, sa, sc, ta, tc, hj, rfl, rfl, rfl, Hb, HTw⟩ := hrel
        obtain ⟨wi, rfl⟩ : ∃ wi : World, wi = wr := ⟨_, rfl⟩
        by_cases hlj : j < N
        · have hB2 := bb HB.out Hb.out
          obtain ⟨cA0, cB0, -, -⟩ := two_cells (f0.under hB2)
          obtain ⟨cA1, cB1, -, -⟩ := two_cells (f1.under hB2)
          have T0 := HT0.out.below hB2; have T1 := HT1.out.below hB2
          have hkN : k < n0 * n1 := by have := HN.out; omega
          have hjN : j < n0 * n1 := by have := HN.out; omega
          obtain ⟨d1, d2, d3, d4⟩ := divI2 hkN hn1
          obtain ⟨d5, d6, d7, d8⟩ := divI2 hjN hn1
          clear hkN hjN
          have HEA := Lib.hid (HGA.out k j); have HEB := Lib.hid (HGB.out k j)
          have w1 : IntKind.i64.wrap ((k : Int) / (n1 : Int)) = (k : Int) / (n1 : Int) := by rw [IntKind.wrap_i64]; omega
          have w2 : Int.tmod (k : Int) (n1 : Int) = (k : Int) % (n1 : Int) := Int.tmod_eq_emod_of_nonneg (by omega)
          have w3 : IntKind.i64.wrap ((j : Int) / (n1 : Int)) = (j : Int) / (n1 : Int) := by rw [IntKind.wrap_i64]; omega
          have w4 : Int.tmod (j : Int) (n1 : Int) = (j : Int) % (n1 : Int) := Int.tmod_eq_emod_of_nonneg (by omega)
          obtain ⟨x1, hx1⟩ : ∃ x : Int, (k : Int) / (n1 : Int) = x := ⟨_, rfl⟩
          obtain ⟨x2, hx2⟩ : ∃ x : Int, (k : Int) % (n1 : Int) = x := ⟨_, rfl⟩
          obtain ⟨x3, hx3⟩ : ∃ x : Int, (j : Int) / (n1 : Int) = x := ⟨_, rfl⟩
          obtain ⟨x4, hx4⟩ : ∃ x : Int, (j : Int) % (n1 : Int) = x := ⟨_, rfl⟩
          rw [hx1] at d1 d2 HEA HEB; rw [hx2] at d3 d4 HEA HEB; rw [hx3] at d5 d6 HEA HEB; rw [hx4] at d7 d8 HEA HEB
          replace w1 := w1.trans hx1; replace w2 := w2.trans hx2; replace w3 := w3.trans hx3; replace w4 := w4.trans hx4
          clear hx1 hx2 hx3 hx4
          have rA := T0.rowi _ d1 d2; have rC := T1.rowi _ d3 d4; have vA := T0.vali _ _ d1 d2 d5 d6; have vC := T1.vali _ _ d3 d4 d7 d8
          have gA1 := T0.rng _ _ d1 d2 d5 d6; have gC1 := T1.rng _ _ d3 d4 d7 d8
          have gB1 := HT0s.out.rng _ _ d1 d2 d5 d6; have gD1 := HT1s.out.rng _ _ d3 d4 d7 d8
          have pA := pairI gA1.1 gA1.2 gC1.1 gC1.2; have pB := pairI gB1.1 gB1.2 gD1.1 gD1.2
          have hm0 : ¬ (n1 = 0) := by omega
          obtain ⟨va1, hva⟩ : ∃ z, z = val2 A x1 x3 := ⟨_, rfl⟩
          obtain ⟨vb1, hvb⟩ : ∃ z, z = val2 B x1 x3 := ⟨_, rfl⟩
          obtain ⟨vc1, hvc⟩ : ∃ z, z = val2 C x2 x4 := ⟨_, rfl⟩
          obtain ⟨vd1, hvd⟩ : ∃ z, z = val2 D x2 x4 := ⟨_, rfl⟩
          rw [← hva] at vA gA1 pA HEA; rw [← hvb] at gB1 pB HEB; rw [← hvc] at vC gC1 pA HEA; rw [← hvd] at gD1 pB HEB
          have mA : 0 ≤ va1 * (n1 : Int) := Int.mul_nonneg gA1.1 (by omega)
          have mB : 0 ≤ vb1 * (n1 : Int) := Int.mul_nonneg gB1.1 (by omega)
          have u1 : IntKind.i64.wrap (va1 * (n1 : Int)) = va1 * (n1 : Int) := by rw [IntKind.wrap_i64]; omega
          have u2 : IntKind.i64.wrap (va1 * (n1 : Int) + vc1) = va1 * (n1 : Int) + vc1 := by rw [IntKind.wrap_i64]; omega
          have u3 : IntKind.i64.wrap (vb1 * (n1 : Int)) = vb1 * (n1 : Int) := by rw [IntKind.wrap_i64]; omega
          have u4 : IntKind.i64.wrap (vb1 * (n1 : Int) + vd1) = vb1 * (n1 : Int) + vd1 := by rw [IntKind.wrap_i64]; omega
          have HVB := Lib.hid hvb; have HVD := Lib.hid hvd; have HVA := Lib.hid hva; have HVC := Lib.hid hvc
          have HSA : Hid (∀ w' : World, Below V.heap.size V w' → w'.cell? ⟨w.heap.size, 0, none⟩ = some (.slice (some ⟨b0, o0, none⟩) n0 c0) ∧ w'.cell? ⟨w.heap.size + 1, 0, none⟩ = some (.slice (some ⟨b1, o1, none⟩) n1 c1) ∧ w'.cell? ⟨b0, o0 + x1.toNat, none⟩ = some (.slice (some ⟨rb0 x1.toNat, ro0 x1.toNat, none⟩) n0 (rc0 x1.toNat)) ∧ w'.cell? ⟨b1, o1 + x2.toNat, none⟩ = some (.slice (some ⟨rb1 x2.toNat, ro1 x2.toNat, none⟩) n1 (rc1 x2.toNat)) ∧ w'.cell? ⟨rb0 x1.toNat, ro0 x1.toNat + x3.toNat, none⟩ = some (.int .i64 va1) ∧ w'.cell? ⟨rb1 x2.toNat, ro1 x2.toNat + x4.toNat, none⟩ = some (.int .i64 vc1)) := Lib.hid (by
            intro w' hb
            have T0 := HT0.out.below hb; have T1 := HT1.out.below hb
            have a1 := T0.rowi _ d1 d2; have a2 := T1.rowi _ d3 d4; have a3 := T0.vali _ _ d1 d2 d5 d6; have a4 := T1.vali _ _ d3 d4 d7 d8
            rw [← HVA.out] at a3; rw [← HVC.out] at a4
            exact ⟨(two_cells (f0.under hb)).1, (two_cells (f1.under hb)).1, a1, a2, a3, a4⟩)
          have HSB : Hid (∀ w' : World, Below V.heap.size V w' → w'.cell? ⟨w.heap.size, 1, none⟩ = some (.slice (some ⟨b0s, o0s, none⟩) n0 c0s) ∧ w'.cell? ⟨w.heap.size + 1, 1, none⟩ = some (.slice (some ⟨b1s, o1s, none⟩) n1 c1s) ∧ w'.cell? ⟨b0s, o0s + x1.toNat, none⟩ = some (.slice (some ⟨rb0s x1.toNat, ro0s x1.toNat, none⟩) n0 (rc0s x1.toNat)) ∧ w'.cell? ⟨b1s, o1s + x2.toNat, none⟩ = some (.slice (some ⟨rb1s x2.toNat, ro1s x2.toNat, none⟩) n1 (rc1s x2.toNat)) ∧ w'.cell? ⟨rb0s x1.toNat, ro0s x1.toNat + x3.toNat, none⟩ = some (.int .i64 vb1) ∧ w'.cell? ⟨rb1s x2.toNat, ro1s x2.toNat + x4.toNat, none⟩ = some (.int .i64 vd1)) := Lib.hid (by
            intro w' hb
            have T0 := HT0s.out.below hb; have T1 := HT1s.out.below hb
            have a1 := T0.rowi _ d1 d2; have a2 := T1.rowi _ d3 d4; have a3 := T0.vali _ _ d1 d2 d5 d6; have a4 := T1.vali _ _ d3 d4 d7 d8
            rw [← HVB.out] at a3; rw [← HVD.out] at a4
            exact ⟨(two_cells (f0.under hb)).2.1, (two_cells (f1.under hb)).2.1, a1, a2, a3, a4⟩)
          clear hva hvb hvc hvd T0 T1 hB2
          have HX1 := Lib.hid (HTw.out.under ((Below.refl wi.heap.size wi).drew))
          have HZ1 := Lib.hid (bb Hb.out ((Below.refl wi.heap.size wi).drew))
          have hl1 : ((rowOf N (gA k)).take j).length = j := by simp; omega
          have hl2 : ((rowOf N (gB k)).take j).length = j := by simp; omega
          have HL1a := Lib.hid hl1; have HL2a := Lib.hid hl2
          have HN1a : Hid (((rowOf N (gA k)).take j).length ≤ 1099511627776) := by show _ ≤ _; rw [hl1]; omega
          have HN2a : Hid (((rowOf N (gB k)).take j).length ≤ 1099511627776) := by show _ ≤ _; rw [hl2]; omega
          have HS1a : Hid (wo.heap.size ≤ (wi.drew).heap.size) := Lib.hid HZ1.out.size
          clear hl1 hl2
          go_wp2
          go_region_held3 (fun w' => w'.cell? ⟨w.heap.size, 0, none⟩ = some (.slice (some ⟨b0, o0, none⟩) n0 c0) ∧ w'.cell? ⟨w.heap.size + 1, 0, none⟩ = some (.slice (some ⟨b1, o1, none⟩) n1 c1) ∧ w'.cell? ⟨b0, o0 + x1.toNat, none⟩ = some (.slice (some ⟨rb0 x1.toNat, ro0 x1.toNat, none⟩) n0 (rc0 x1.toNat)) ∧ w'.cell? ⟨b1, o1 + x2.toNat, none⟩ = some (.slice (some ⟨rb1 x2.toNat, ro1 x2.toNat, none⟩) n1 (rc1 x2.toNat)) ∧ w'.cell? ⟨rb0 x1.toNat, ro0 x1.toNat + x3.toNat, none⟩ = some (.int .i64 va1) ∧ w'.cell? ⟨rb1 x2.toNat, ro1 x2.toNat + x4.toNat, none⟩ = some (.int .i64 vc1)) (first | go_keep | exact HSA.out _ (bb HB.out HZ1.out) | exact HSA.out _ (bb HB.out HZ2.out)) ((first | (refine step_app_int wo.heap.size (wi.drew) _ ((rowOf N (gA k)).take j) _ _ _  rfl rfl rfl HX1.out.a rfl HN1a.out HS1a.out ?_; intro g c1 w1 hown1 hk1 hg1; rw [HL1a.out] at hown1; rw [HL1a.out]; have HT1 := Lib.hid (HX1.out.app1 hown1 hk1 hg1); have HZ2 := Lib.hid (HX1.out.a.frame HZ1.out (Nat.le_refl _) HS1a.out hk1); clear hown1 hk1 hg1)))
          go_wp2
          have hB3 := bb HB.out HZ2.out
          obtain ⟨cA0, cB0, -, -⟩ := two_cells (f0.under hB3)
          obtain ⟨cA1, cB1, -, -⟩ := two_cells (f1.under hB3)
          have T0s := HT0s.out.below hB3; have T1s := HT1s.out.below hB3
          have rB := T0s.rowi _ d1 d2; have rD := T1s.rowi _ d3 d4; have vB := T0s.vali _ _ d1 d2 d5 d6; have vD := T1s.vali _ _ d3 d4 d7 d8
          rw [← HVB.out] at vB
          rw [← HVD.out] at vD
          clear T0s T1s
          have HX2 := Lib.hid (HT1.out.under ((Below.refl w1.heap.size w1).drew))
          have HZ3 := Lib.hid (bb HZ2.out ((Below.refl w1.heap.size w1).drew))
          have HS2a : Hid (wo.heap.size ≤ (w1.drew).heap.size) := Lib.hid HZ3.out.size
          clear hB3
          go_wp2
          go_region_held3 (fun w' => w'.cell? ⟨w.heap.size, 1, none⟩ = some (.slice (some ⟨b0s, o0s, none⟩) n0 c0s) ∧ w'.cell? ⟨w.heap.size + 1, 1, none⟩ = some (.slice (some ⟨b1s, o1s, none⟩) n1 c1s) ∧ w'.cell? ⟨b0s, o0s + x1.toNat, none⟩ = some (.slice (some ⟨rb0s x1.toNat, ro0s x1.toNat, none⟩) n0 (rc0s x1.toNat)) ∧ w'.cell? ⟨b1s, o1s + x2.toNat, none⟩ = some (.slice (some ⟨rb1s x2.toNat, ro1s x2.toNat, none⟩) n1 (rc1s x2.toNat)) ∧ w'.cell? ⟨rb0s x1.toNat, ro0s x1.toNat + x3.toNat, none⟩ = some (.int .i64 vb1) ∧ w'.cell? ⟨rb1s x2.toNat, ro1s x2.toNat + x4.toNat, none⟩ = some (.int .i64 vd1)) (first | go_keep | exact HSB.out _ (bb HB.out HZ3.out) | exact HSB.out _ (bb HB.out HZ4.out)) ((first | (refine step_app_int wo.heap.size (w1.drew) _ ((rowOf N (gB k)).take j) _ _ _  rfl rfl rfl HX2.out.b rfl HN2a.out HS2a.out ?_; intro g2 c2 w4 hown4 hk4 hg4; rw [HL2a.out] at hown4; rw [HL2a.out]; have HT2 := Lib.hid (HX2.out.app2 hown4 hk4 hg4); have HZ4 := Lib.hid (HX2.out.b.frame HZ3.out (Nat.le_refl _) HS2a.out hk4); clear hown4 hk4 hg4)))
          go_wp2
          go_roundw
          case rel =>
            refine ⟨j + 1, some ⟨g, 0, none⟩, c1, some ⟨g2, 0, none⟩, c2, by omega, by go_num, rfl, rfl, HZ4, ?_⟩
            rw [take_snoc (rowOf N (gA k)) _ (by simpa using hlj), take_snoc (rowOf N (gB k)) _ (by simpa using hlj), nth_rowOf _ _ _ hlj, nth_rowOf _ _ _ hlj, HEA.out, HEB.out]
            exact HT2
          case measure => simp [intOf]; omega
        · obtain rfl : N = j := by omega
          have hTw := HTw.out
          rw [List.take_of_length_le (by simp), List.take_of_length_le (by simp)] at hTw
          have HU := Lib.hid hTw; clear hTw
          have HO2 := Lib.hid (HO.out.under Hb.out)
          have HBi := Lib.hid (bb HB.out Hb.out)
          have hla : ((tabOf N gA).take k).length = k := by simp; omega
          have hlb : ((tabOf N gB).take k).length = k := by simp; omega
          have HNA : Hid (((tabOf N gA).take k).length ≤ 1099511627776) := by show _ ≤ _; rw [hla]; omega
          have HNB : Hid (((tabOf N gB).take k).length ≤ 1099511627776) := by show _ ≤ _; rw [hlb]; omega
          have HLA := Lib.hid hla; have HLB := Lib.hid hlb; clear hla hlb
          have HLO : Hid ((V.heap.size + 1) ≤ wi.heap.size) := Nat.le_trans HO2.out.lm HO2.out.mw
          obtain ⟨cA, cB, cF, cG⟩ := two_cells HO2.out.blk
          go_wp2_with (at_builtin; go_loud (first
            | (refine wpList_app_row2 (V.heap.size + 1) wo.heap.size wi va ((tabOf N gA).take k) _ (rowOf N (gA k)) _ _ rfl rfl rfl HO2.out.a HU.out.a rfl HNA.out HO2.out.lm HLO.out ?_; intro g c1 w1 hown1 hk1 hg1; rw [HLA.out] at hown1; rw [HLA.out]; have hq1 := HO2.out.blkq hk1; obtain ⟨dA, dB, dF, dG⟩ := two_cells hq1; have hh := HO2.out.app1 hown1 hk1 hg1; have hv := HO2.out.row1 HU.out.b hk1 (.slice (some ⟨g, 0, none⟩) (k + 1) c1); have hf := HO2.out.frame1 HBi.out HQLE.out hk1 (.slice (some ⟨g, 0, none⟩) (k + 1) c1); obtain ⟨eA, eB, eF, eG⟩ := two_cells hh.blk; have HH := Lib.hid hh; have HV := Lib.hid hv; have HF1 := Lib.hid hf; clear hown1 hk1 hg1 hq1 hh hv hf)
            | (refine wpList_app_row2s (V.heap.size + 1) wo.heap.size (w1.setCell ⟨(V.heap.size), 0, none⟩ (.slice (some ⟨g, 0, none⟩) (k + 1) c1)) vb ((tabOf N gB).take k) _ (rowOf N (gB k)) _ _ w1.heap.size (by simp [World.setCell]) rfl rfl rfl HH.out.b HV.out rfl HNB.out HH.out.lm (Nat.le_trans HH.out.lm HH.out.mw) ?_; intro g2 c2 w4 hown4 hk4 hg4; rw [HLB.out] at hown4; rw [HLB.out]; have hq4 := HH.out.blkq hk4; clear dA dB dF dG eA eB eF eG cA cB cF cG; obtain ⟨dA, dB, dF, dG⟩ := two_cells hq4; have HH2 := Lib.hid (HH.out.app2 hown4 hk4 hg4); have HF2 := Lib.hid (HH.out.frame2 HF1.out HQLE.out hk4 (.slice (some ⟨g2, 0, none⟩) (k + 1) c2)); clear hown4 hk4 hg4 hq4)))
          go_roundw
          case rel =>
            refine ⟨k + 1, .slice (some ⟨g, 0, none⟩) (k + 1) c1, .slice (some ⟨g2, 0, none⟩) (k + 1) c2, by omega, by go_num, HF2, ?_⟩
            rw [take_snoc_row (tabOf N gA) _ (by simpa using hlt), take_snoc_row (tabOf N gB) _ (by simpa using hlt), row_tabOf _ _ _ hlt, row_tabOf _ _ _ hlt]
            exact HH2
          case measure => simp [intOf]; omega
    · obtain rfl : N = k := by omega
      have hO := HO.out
      rw [List.take_of_length_le (by simp), List.take_of_length_le (by simp)] at hO
      obtain ⟨ra1, rc1, hva, _⟩ := hO.a.out.rows.shape
      obtain ⟨ra2, rc2, hvb, _⟩ := hO.b.out.rows.shape
      rw [tabOf_length] at hva hvb
      subst hva hvb
      obtain ⟨y0, y1, y2, y3⟩ := two_cells hO.blk
      obtain ⟨z0, z1, z2, z3⟩ := two_cells (f2.under HB.out)
      have HO' := Lib.hid hO; clear hO
      have hlt2 := HF2lt.out
      go_wp2
      refine bodyPost_ret (v := .agg #[.slice ra1 N rc1, .slice ra2 N rc2]) (by simp [results, Tryd.results78, go_sem, z0, z1]) rfl ⟨_, _, rfl, ⟨?_, ?_⟩, ((bb HWW.out HB.out).setCell (p := ⟨w.heap.size + 1 + 1, 0, none⟩) (by show _ ≤ w.heap.size + 1 + 1; omega) _).setCell (p := ⟨w.heap.size + 1 + 1, 1, none⟩) (by show _ ≤ w.heap.size + 1 + 1; omega) _⟩
      · try rw [HRA.out]
        exact OwnRows.mono (B := (V.heap.size + 1)) ((HO'.out.a.out.keep (keep1 _ (w.heap.size + 1 + 1) 0 _) (fun b h1 h2 h3 => by have h3 : b = w.heap.size + 1 + 1 := h3; omega)).keep (keep1 _ (w.heap.size + 1 + 1) 1 _) (fun b h1 h2 h3 => by have h3 : b = w.heap.size + 1 + 1 := h3; omega)) (by have := HSV.out; omega)
      · try rw [HRB.out]
        exact OwnRows.mono (B := (V.heap.size + 1)) ((HO'.out.b.out.keep (keep1 _ (w.heap.size + 1 + 1) 0 _) (fun b h1 h2 h3 => by have h3 : b = w.heap.size + 1 + 1 := h3; omega)).keep (keep1 _ (w.heap.size + 1 + 1) 1 _) (fun b h1 h2 h3 => by have h3 : b = w.heap.size + 1 + 1 := h3; omega)) (by have := HSV.out; omega)

end Go.Proofs.YtnbhghgkjcfcmaaDoor

namespace Go.Proofs.YtnbhghgkjcfcmaaDoor
set_option linter.unusedVariables false
set_option linter.unusedSimpArgs false
open Go.RowKit

def unG (A C : List (List Int)) (z : Int → Int → Int) (x y : Int) : Int :=
  if x < A.length ∧ y < A.length then val2 A x y else if (A.length : Int) ≤ x ∧ (A.length : Int) ≤ y then A.length + val2 C (x - A.length) (y - A.length) else z x y
def unTA (A C : List (List Int)) : List (List Int) := tabOf (A.length + C.length) (unG A C fun _ y => y)
def unTB (A C : List (List Int)) : List (List Int) := tabOf (A.length + C.length) (unG A C fun x _ => x)
def unOk (A B C D : List (List Int)) : Bool := isPM A B && isPM C D
def unSm (A C : List (List Int)) : Bool := decide (A.length + C.length ≤ 12)
def unRA (A B C D : List (List Int)) : List (List Int) := if unOk A B C D && unSm A C then unTA A C else []
def unRB (A B C D : List (List Int)) : List (List Int) := if unOk A B C D && unSm A C then unTB B D else []
def unCode (A B C D : List (List Int)) : Int := if unOk A B C D then (if unSm A C then 0 else 3) else 1
theorem unOk_of {A B C D : List (List Int)} (h1 : isPM A B = true) (h2 : isPM C D = true) : unOk A B C D = true := by simp [unOk, h1, h2]




set_option maxRecDepth 100000 in
set_option maxHeartbeats 4000000 in
theorem c_l02Union (v0 u0 : Value) (A B : List (List Int)) (v1 u1 : Value) (C D : List (List Int)) (w : World) (hA : Sol w v0 u0 A B) (hC : Sol w v1 u1 C D) (hp : isPM A B = true) (hq : isPM C D = true) (hsm : A.length + C.length ≤ 12) :
    Calls Tryd.prog 80 #[.agg #[v0, u0], .agg #[v1, u1]] w (RSolR w (unTA A C) (unTB B D)) := by
  obtain ⟨n0, b0, o0, c0, rb0, ro0, rc0, b0s, o0s, c0s, rb0s, ro0s, rc0s, rfl, rfl, hl0, hl0s, hn0, hx0, hc0, hm0, hc0s, hm0s, t0, t0s⟩ := hA.tabs hp
  have HL0 := Lib.hid hl0; clear hl0
  have HL0s := Lib.hid hl0s; clear hl0s
  obtain ⟨n1, b1, o1, c1, rb1, ro1, rc1, b1s, o1s, c1s, rb1s, ro1s, rc1s, rfl, rfl, hl1, hl1s, hn1, hx1, hc1, hm1, hc1s, hm1s, t1, t1s⟩ := hC.tabs hq
  have HL1 := Lib.hid hl1; clear hl1
  have HL1s := Lib.hid hl1s; clear hl1s
  go_enter Tryd.func80, Tryd.ntmps80
  go_wp2
  obtain ⟨f0, f1, f2, hW0, hsz⟩ := boxes3 w [.slice (some ⟨b0, o0, none⟩) n0 c0, .slice (some ⟨b0s, o0s, none⟩) n0 c0s] [.slice (some ⟨b1, o1, none⟩) n1 c1, .slice (some ⟨b1s, o1s, none⟩) n1 c1s] [.slice none 0 0, .slice none 0 0] 38 38 38
  obtain ⟨W0, hW⟩ : ∃ W, (((w.alloc (.cells #[.slice (some ⟨b0, o0, none⟩) n0 c0, .slice (some ⟨b0s, o0s, none⟩) n0 c0s] 38)).alloc (.cells #[.slice (some ⟨b1, o1, none⟩) n1 c1, .slice (some ⟨b1s, o1s, none⟩) n1 c1s] 38)).alloc (.cells #[.slice none 0 0, .slice none 0 0] 38)) = W := ⟨_, rfl⟩
  rw [hW] at f0 f1 f2 hW0 hsz ⊢
  have HSZ := Lib.hid hsz
  clear hW hsz
  obtain ⟨cA0, cB0, -, -⟩ := two_cells f0
  obtain ⟨cA1, cB1, -, -⟩ := two_cells f1
  obtain ⟨cA2, cB2, -, -⟩ := two_cells f2
  replace t0 := t0.below hW0; replace t0s := t0s.below hW0
  replace t1 := t1.below hW0; replace t1s := t1s.below hW0
  rw [HL0.out, HL1.out] at hsm
  obtain ⟨N, hN⟩ : ∃ N, N = n0 + n1 := ⟨_, rfl⟩
  have hNI : (n0 : Int) + n1 = N := by omega
  obtain ⟨gA, hgA⟩ : ∃ g : Int → Int → Int, g = unG A C fun _ y => y := ⟨_, rfl⟩
  obtain ⟨gB, hgB⟩ : ∃ g : Int → Int → Int, g = unG B D fun x _ => x := ⟨_, rfl⟩
  have hRA : unTA A C = tabOf N gA := by unfold unTA; rw [HL0.out, HL1.out, hgA, hN]
  have hRB : unTB B D = tabOf N gB := by unfold unTB; rw [HL0s.out, HL1s.out, hgB, hN]
  have HRA := Lib.hid hRA; have HRB := Lib.hid hRB
  have HGA : Hid (∀ x y : Int, gA x y = if x < n0 ∧ y < n0 then val2 A x y else if (n0 : Int) ≤ x ∧ (n0 : Int) ≤ y then n0 + val2 C (x - n0) (y - n0) else y) := Lib.hid (by rw [hgA]; intro x y; unfold unG; rw [HL0.out])
  have HGB : Hid (∀ x y : Int, gB x y = if x < n0 ∧ y < n0 then val2 B x y else if (n0 : Int) ≤ x ∧ (n0 : Int) ≤ y then n0 + val2 D (x - n0) (y - n0) else x) := Lib.hid (by rw [hgB]; intro x y; unfold unG; rw [HL0s.out])
  have HN := Lib.hid hN
  rw [← hN] at hsm
  clear hgA hgB hRA hRB hN hA hC hp hq
  go_quiet (fail)
  rename_i nq
  have hdn : Below W0.heap.size W0 (W0.drewN nq) := below_drewN (Below.refl _ _) nq
  replace f0 := f0.under hdn; replace f1 := f1.under hdn; replace f2 := f2.under hdn; replace hW0 := bb hW0 hdn
  have HT0 := Lib.hid (t0.below hdn); have HT0s := Lib.hid (t0s.below hdn); have HT1 := Lib.hid (t1.below hdn); have HT1s := Lib.hid (t1s.below hdn)
  have HSV : Hid ((W0.drewN nq).heap.size = w.heap.size + 1 + 1 + 1) := HSZ.out
  generalize W0.drewN nq = V at f0 f1 f2 hW0 HT0 HT0s HT1 HT1s HSV ⊢
  have HF2lt := Lib.hid f2.lt
  have hV := hW0
  clear t0 t0s t1 t1s cA0 cB0 cA1 cB1 cA2 cB2 hdn HSZ hW0
  go_wp2
  have hB1 : Below V.heap.size V (V.alloc (.cells #[.slice none 0 0, .slice none 0 0] 38)) := (Below.refl _ _).alloc (Nat.le_refl _) _
  have hout := Blk.new V [.slice none 0 0, .slice none 0 0] 38
  have hs1 : (V.alloc (.cells #[.slice none 0 0, .slice none 0 0] 38)).heap.size = V.heap.size + 1 := by simp
  have hqq : V.heap.size = V.heap.size := rfl
  change Blk (V.alloc (.cells #[.slice none 0 0, .slice none 0 0] 38)) _ _ _ at hout
  obtain ⟨W1, hW1⟩ : ∃ W, V.alloc (.cells #[.slice none 0 0, .slice none 0 0] 38) = W := ⟨_, rfl⟩
  rw [hW1] at hB1 hout hs1 ⊢
  clear hW1
  have hout' : Blk W1 (V.heap.size) 38 [.slice none 0 0, .slice none 0 0] := by rw [← hqq]; exact hout
  have HOut := Lib.hid (Out2.start (lo := V.heap.size + 1) (q := V.heap.size) (w := W1) (by omega) (by omega) hout')
  have HB1 := Lib.hid hB1; have HWW := Lib.hid hV; have HS1 := Lib.hid hs1
  have HQLE : Hid (V.heap.size ≤ V.heap.size) := Lib.hid (by omega)
  clear hB1 hout hout' hs1 hV hqq
  go_loopw [8, 9, 10, 11] (fun a _ _ _ wr => ∃ (k : Nat) (va vb : Value), k ≤ N ∧ a = .int .i64 k ∧ Hid (Below V.heap.size V wr) ∧ Hid (Out2 (V.heap.size + 1) wr.heap.size (V.heap.size) wr va vb ((tabOf N gA).take k) ((tabOf N gB).take k))) (fun a _ _ _ _ => N - (intOf a).toNat)
  case atStart => exact ⟨0, _, _, Nat.zero_le _, rfl, HB1, HOut⟩
  case round =>
    clear HB1 HOut
    obtain ⟨k, va, vb, hk, rfl, HB, HO⟩ := hrel
    obtain ⟨wo, rfl⟩ : ∃ wo : World, wo = wr := ⟨_, rfl⟩
    by_cases hlt : k < N
    · go_wp2
      go_loopw [9, 10, 11] (fun s t y wi => ∃ (j : Nat) (sa : Option Addr) (sc : Nat) (ta : Option Addr) (tc : Nat), j ≤ N ∧ y = .int .i64 j ∧ s = .slice sa j sc ∧ t = .slice ta j tc ∧ Hid (Below wo.heap.size wo wi) ∧ Hid (Two wo.heap.size wi (.slice sa j sc) (.slice ta j tc) ((rowOf N (gA k)).take j) ((rowOf N (gB k)).take j))) (fun _ _ y _ => N - (intOf y).toNat)
      case atStart => exact ⟨0, _, _, _, _, Nat.zero_le _, rfl, rfl, rfl, Lib.hid (((Below.refl wo.heap.size wo).alloc (Nat.le_refl _) _).alloc (by simp) _), Lib.hid (Two.made0 wo)⟩
      case round =>
        obtain ⟨j, sa, sc, ta, tc, hj, rfl, rfl, rfl, Hb, HTw⟩ := hrel
        obtain ⟨wi, rfl⟩ : ∃ wi : World, wi = wr := ⟨_, rfl⟩
        by_cases hlj : j < N
        · have hB2 := bb HB.out Hb.out
          have hkN : (k : Int) < N := by omega
          have hjN : (j : Int) < N := by omega
          have hNe := HN.out
          by_cases h1 : k < n0 ∧ j < n0
          · have i1 : (k : Int) < n0 := by omega
            have i2 : (j : Int) < n0 := by omega
            obtain ⟨x, hx⟩ : ∃ x : Int, x = k := ⟨_, rfl⟩
            obtain ⟨y, hy⟩ : ∃ x : Int, x = j := ⟨_, rfl⟩
            have d1 : 0 ≤ x := by omega
            have d2 : x < n0 := by omega
            have d3 : 0 ≤ y := by omega
            have d4 : y < n0 := by omega
            have HEA : Hid (gA k j = val2 A k j) := Lib.hid (by rw [HGA.out, if_pos ⟨i1, i2⟩])
            have HEB : Hid (gB k j = val2 B k j) := Lib.hid (by rw [HGB.out, if_pos ⟨i1, i2⟩])
            subst hx hy
            have d5 : k < n0 := h1.1
            have d6 : j < n0 := h1.2
            clear h1 hNe
            have HSA : Hid (∀ w' : World, Below V.heap.size V w' → w'.cell? ⟨w.heap.size, 0, none⟩ = some (.slice (some ⟨b0, o0, none⟩) n0 c0) ∧ w'.cell? ⟨b0, o0 + k, none⟩ = some (.slice (some ⟨rb0 k, ro0 k, none⟩) n0 (rc0 k)) ∧ w'.cell? ⟨rb0 k, ro0 k + j, none⟩ = some (.int .i64 (val2 A k j))) := Lib.hid (by
              intro w' hb
              have T0 := HT0.out.below hb
              exact ⟨(two_cells (f0.under hb)).1, T0.row _ d5, T0.val _ _ d5 d6⟩)
            have HSB : Hid (∀ w' : World, Below V.heap.size V w' → w'.cell? ⟨w.heap.size, 1, none⟩ = some (.slice (some ⟨b0s, o0s, none⟩) n0 c0s) ∧ w'.cell? ⟨b0s, o0s + k, none⟩ = some (.slice (some ⟨rb0s k, ro0s k, none⟩) n0 (rc0s k)) ∧ w'.cell? ⟨rb0s k, ro0s k + j, none⟩ = some (.int .i64 (val2 B k j))) := Lib.hid (by
              intro w' hb
              have T0 := HT0s.out.below hb
              exact ⟨(two_cells (f0.under hb)).2.1, T0.row _ d5, T0.val _ _ d5 d6⟩)
            obtain ⟨q1, q2, q3⟩ := HSA.out wi hB2
            clear hB2
            have HX1 := Lib.hid (HTw.out.under (Below.refl wi.heap.size wi))
            have HZ1 := Lib.hid (bb Hb.out (Below.refl wi.heap.size wi))
            have hl1 : ((rowOf N (gA k)).take j).length = j := by simp; omega
            have hl2 : ((rowOf N (gB k)).take j).length = j := by simp; omega
            have HL1a := Lib.hid hl1; have HL2a := Lib.hid hl2
            have HN1a : Hid (((rowOf N (gA k)).take j).length ≤ 1099511627776) := by show _ ≤ _; rw [hl1]; omega
            have HN2a : Hid (((rowOf N (gB k)).take j).length ≤ 1099511627776) := by show _ ≤ _; rw [hl2]; omega
            have HS1a : Hid (wo.heap.size ≤ (wi).heap.size) := Lib.hid HZ1.out.size
            clear hl1 hl2
            go_wp2_with (at_builtin; go_loud (first | (refine wpList_app_int2 wo.heap.size (wi) _ ((rowOf N (gA k)).take j) _ _ _ wi.heap.size rfl rfl rfl rfl HX1.out.a rfl HN1a.out HS1a.out ?_; intro g c1 w1 hown1 hk1 hg1; rw [HL1a.out] at hown1; rw [HL1a.out]; have HT1 := Lib.hid (HX1.out.app1 hown1 hk1 hg1); have HZ2 := Lib.hid (HX1.out.a.frame HZ1.out (Nat.le_refl _) HS1a.out hk1); clear hown1 hk1 hg1; have hB3 := bb HB.out HZ2.out; clear q1 q2 q3; obtain ⟨q1, q2, q3⟩ := HSB.out w1 hB3; have HX2 := HT1; have HZ3 := HZ2; have HS2a : Hid (wo.heap.size ≤ w1.heap.size) := Lib.hid HZ3.out.size; clear hB3) | (refine wpList_app_int2 wo.heap.size w1 _ ((rowOf N (gB k)).take j) _ _ _ w1.heap.size rfl rfl rfl rfl HX2.out.b rfl HN2a.out HS2a.out ?_; intro g2 c2 w4 hown4 hk4 hg4; rw [HL2a.out] at hown4; rw [HL2a.out]; have HT2 := Lib.hid (HX2.out.app2 hown4 hk4 hg4); have HZ4 := Lib.hid (HX2.out.b.frame HZ3.out (Nat.le_refl _) HS2a.out hk4); clear hown4 hk4 hg4)))
            go_roundw
            case rel =>
              refine ⟨j + 1, some ⟨g, 0, none⟩, c1, some ⟨g2, 0, none⟩, c2, by omega, by go_num, rfl, rfl, HZ4, ?_⟩
              rw [take_snoc (rowOf N (gA k)) _ (by simpa using hlj), take_snoc (rowOf N (gB k)) _ (by simpa using hlj), nth_rowOf _ _ _ hlj, nth_rowOf _ _ _ hlj, HEA.out, HEB.out]
              exact HT2
            case measure => simp [intOf]; omega
          by_cases h2 : n0 ≤ k ∧ n0 ≤ j
          · have i1 : (n0 : Int) ≤ k := by omega
            have i2 : (n0 : Int) ≤ j := by omega
            have i3 : ¬ ((k : Int) < n0) := by omega
            have i4 : ¬ ((k : Int) < n0 ∧ (j : Int) < n0) := by omega
            obtain ⟨x, hx⟩ : ∃ x : Int, x = (k : Int) - n0 := ⟨_, rfl⟩
            obtain ⟨y, hy⟩ : ∃ x : Int, x = (j : Int) - n0 := ⟨_, rfl⟩
            have d1 : 0 ≤ x := by omega
            have d2 : x < n1 := by omega
            have d3 : 0 ≤ y := by omega
            have d4 : y < n1 := by omega
            have gC := HT1.out.rng _ _ d1 d2 d3 d4; have gD := HT1s.out.rng _ _ d1 d2 d3 d4
            obtain ⟨P, hP⟩ : ∃ P, P = val2 C x y := ⟨_, rfl⟩
            obtain ⟨Q, hQ⟩ : ∃ P, P = val2 D x y := ⟨_, rfl⟩
            have u1 : IntKind.i64.wrap ((k : Int) - n0) = x := by rw [IntKind.wrap_i64]; omega
            have u2 : IntKind.i64.wrap ((j : Int) - n0) = y := by rw [IntKind.wrap_i64]; omega
            have u3 : IntKind.i64.wrap (val2 C x y + n0) = val2 C x y + n0 := by rw [IntKind.wrap_i64]; omega
            have u4 : IntKind.i64.wrap (val2 D x y + n0) = val2 D x y + n0 := by rw [IntKind.wrap_i64]; omega
            have e1 : (k : Int) - n0 = x := hx.symm
            have e2 : (j : Int) - n0 = y := hy.symm
            have HEA : Hid (gA k j = val2 C x y + n0) := Lib.hid (by rw [HGA.out, if_neg i4, if_pos ⟨i1, i2⟩, e1, e2, Int.add_comm])
            have HEB : Hid (gB k j = val2 D x y + n0) := Lib.hid (by rw [HGB.out, if_neg i4, if_pos ⟨i1, i2⟩, e1, e2, Int.add_comm])
            clear h1 h2 hNe i4 hP hQ hx hy
            have HSA : Hid (∀ w' : World, Below V.heap.size V w' → w'.cell? ⟨w.heap.size + 1, 0, none⟩ = some (.slice (some ⟨b1, o1, none⟩) n1 c1) ∧ w'.cell? ⟨b1, o1 + x.toNat, none⟩ = some (.slice (some ⟨rb1 x.toNat, ro1 x.toNat, none⟩) n1 (rc1 x.toNat)) ∧ w'.cell? ⟨rb1 x.toNat, ro1 x.toNat + y.toNat, none⟩ = some (.int .i64 (val2 C x y))) := Lib.hid (by
              intro w' hb
              have T0 := HT1.out.below hb
              exact ⟨(two_cells (f1.under hb)).1, T0.rowi _ d1 d2, T0.vali _ _ d1 d2 d3 d4⟩)
            have HSB : Hid (∀ w' : World, Below V.heap.size V w' → w'.cell? ⟨w.heap.size + 1, 1, none⟩ = some (.slice (some ⟨b1s, o1s, none⟩) n1 c1s) ∧ w'.cell? ⟨b1s, o1s + x.toNat, none⟩ = some (.slice (some ⟨rb1s x.toNat, ro1s x.toNat, none⟩) n1 (rc1s x.toNat)) ∧ w'.cell? ⟨rb1s x.toNat, ro1s x.toNat + y.toNat, none⟩ = some (.int .i64 (val2 D x y))) := Lib.hid (by
              intro w' hb
              have T0 := HT1s.out.below hb
              exact ⟨(two_cells (f1.under hb)).2.1, T0.rowi _ d1 d2, T0.vali _ _ d1 d2 d3 d4⟩)
            obtain ⟨q1, q2, q3⟩ := HSA.out wi hB2
            clear hB2
            have HX1 := Lib.hid (HTw.out.under (Below.refl wi.heap.size wi))
            have HZ1 := Lib.hid (bb Hb.out (Below.refl wi.heap.size wi))
            have hl1 : ((rowOf N (gA k)).take j).length = j := by simp; omega
            have hl2 : ((rowOf N (gB k)).take j).length = j := by simp; omega
            have HL1a := Lib.hid hl1; have HL2a := Lib.hid hl2
            have HN1a : Hid (((rowOf N (gA k)).take j).length ≤ 1099511627776) := by show _ ≤ _; rw [hl1]; omega
            have HN2a : Hid (((rowOf N (gB k)).take j).length ≤ 1099511627776) := by show _ ≤ _; rw [hl2]; omega
            have HS1a : Hid (wo.heap.size ≤ (wi).heap.size) := Lib.hid HZ1.out.size
            clear hl1 hl2
            go_wp2_with (at_builtin; go_loud (first | (refine wpList_app_int2 wo.heap.size (wi) _ ((rowOf N (gA k)).take j) _ _ _ wi.heap.size rfl rfl rfl rfl HX1.out.a rfl HN1a.out HS1a.out ?_; intro g c1 w1 hown1 hk1 hg1; rw [HL1a.out] at hown1; rw [HL1a.out]; have HT1 := Lib.hid (HX1.out.app1 hown1 hk1 hg1); have HZ2 := Lib.hid (HX1.out.a.frame HZ1.out (Nat.le_refl _) HS1a.out hk1); clear hown1 hk1 hg1; have hB3 := bb HB.out HZ2.out; clear q1 q2 q3; obtain ⟨q1, q2, q3⟩ := HSB.out w1 hB3; have HX2 := HT1; have HZ3 := HZ2; have HS2a : Hid (wo.heap.size ≤ w1.heap.size) := Lib.hid HZ3.out.size; clear hB3) | (refine wpList_app_int2 wo.heap.size w1 _ ((rowOf N (gB k)).take j) _ _ _ w1.heap.size rfl rfl rfl rfl HX2.out.b rfl HN2a.out HS2a.out ?_; intro g2 c2 w4 hown4 hk4 hg4; rw [HL2a.out] at hown4; rw [HL2a.out]; have HT2 := Lib.hid (HX2.out.app2 hown4 hk4 hg4); have HZ4 := Lib.hid (HX2.out.b.frame HZ3.out (Nat.le_refl _) HS2a.out hk4); clear hown4 hk4 hg4)))
            go_roundw
            case rel =>
              refine ⟨j + 1, some ⟨g, 0, none⟩, c1, some ⟨g2, 0, none⟩, c2, by omega, by go_num, rfl, rfl, HZ4, ?_⟩
              rw [take_snoc (rowOf N (gA k)) _ (by simpa using hlj), take_snoc (rowOf N (gB k)) _ (by simpa using hlj), nth_rowOf _ _ _ hlj, nth_rowOf _ _ _ hlj, HEA.out, HEB.out]
              exact HT2
            case measure => simp [intOf]; omega
          · have i4 : ¬ ((k : Int) < n0 ∧ (j : Int) < n0) := by omega
            have i5 : ¬ ((n0 : Int) ≤ k ∧ (n0 : Int) ≤ j) := by omega
            have HEA : Hid (gA k j = j) := Lib.hid (by rw [HGA.out, if_neg i4, if_neg i5])
            have HEB : Hid (gB k j = k) := Lib.hid (by rw [HGB.out, if_neg i4, if_neg i5])
            clear hB2
            by_cases h3 : k < n0
            · have i1 : (k : Int) < n0 := by omega
              have i2 : ¬ ((j : Int) < n0) := by omega
              have i3 : ¬ ((n0 : Int) ≤ k) := by omega
              clear h1 h2 h3 i4 i5 hNe
              have HX1 := Lib.hid (HTw.out.under (Below.refl wi.heap.size wi))
              have HZ1 := Lib.hid (bb Hb.out (Below.refl wi.heap.size wi))
              have hl1 : ((rowOf N (gA k)).take j).length = j := by simp; omega
              have hl2 : ((rowOf N (gB k)).take j).length = j := by simp; omega
              have HL1a := Lib.hid hl1; have HL2a := Lib.hid hl2
              have HN1a : Hid (((rowOf N (gA k)).take j).length ≤ 1099511627776) := by show _ ≤ _; rw [hl1]; omega
              have HN2a : Hid (((rowOf N (gB k)).take j).length ≤ 1099511627776) := by show _ ≤ _; rw [hl2]; omega
              have HS1a : Hid (wo.heap.size ≤ (wi).heap.size) := Lib.hid HZ1.out.size
              clear hl1 hl2
              go_wp2_with (at_builtin; go_loud (first | (refine wpList_app_int2 wo.heap.size (wi) _ ((rowOf N (gA k)).take j) _ _ _ wi.heap.size rfl rfl rfl rfl HX1.out.a rfl HN1a.out HS1a.out ?_; intro g c1 w1 hown1 hk1 hg1; rw [HL1a.out] at hown1; rw [HL1a.out]; have HT1 := Lib.hid (HX1.out.app1 hown1 hk1 hg1); have HZ2 := Lib.hid (HX1.out.a.frame HZ1.out (Nat.le_refl _) HS1a.out hk1); clear hown1 hk1 hg1; have hB3 := bb HB.out HZ2.out; have HX2 := HT1; have HZ3 := HZ2; have HS2a : Hid (wo.heap.size ≤ w1.heap.size) := Lib.hid HZ3.out.size; clear hB3) | (refine wpList_app_int2 wo.heap.size w1 _ ((rowOf N (gB k)).take j) _ _ _ w1.heap.size rfl rfl rfl rfl HX2.out.b rfl HN2a.out HS2a.out ?_; intro g2 c2 w4 hown4 hk4 hg4; rw [HL2a.out] at hown4; rw [HL2a.out]; have HT2 := Lib.hid (HX2.out.app2 hown4 hk4 hg4); have HZ4 := Lib.hid (HX2.out.b.frame HZ3.out (Nat.le_refl _) HS2a.out hk4); clear hown4 hk4 hg4)))
              go_roundw
              case rel =>
                refine ⟨j + 1, some ⟨g, 0, none⟩, c1, some ⟨g2, 0, none⟩, c2, by omega, by go_num, rfl, rfl, HZ4, ?_⟩
                rw [take_snoc (rowOf N (gA k)) _ (by simpa using hlj), take_snoc (rowOf N (gB k)) _ (by simpa using hlj), nth_rowOf _ _ _ hlj, nth_rowOf _ _ _ hlj, HEA.out, HEB.out]
                exact HT2
              case measure => simp [intOf]; omega
            · have i1 : ¬ ((k : Int) < n0) := by omega
              have i2 : ¬ ((n0 : Int) ≤ j) := by omega
              have i3 : (n0 : Int) ≤ k := by omega
              clear h1 h2 h3 i4 i5 hNe
              have HX1 := Lib.hid (HTw.out.under (Below.refl wi.heap.size wi))
              have HZ1 := Lib.hid (bb Hb.out (Below.refl wi.heap.size wi))
              have hl1 : ((rowOf N (gA k)).take j).length = j := by simp; omega
              have hl2 : ((rowOf N (gB k)).take j).length = j := by simp; omega
              have HL1a := Lib.hid hl1; have HL2a := Lib.hid hl2
              have HN1a : Hid (((rowOf N (gA k)).take j).length ≤ 1099511627776) := by show _ ≤ _; rw [hl1]; omega
              have HN2a : Hid (((rowOf N (gB k)).take j).length ≤ 1099511627776) := by show _ ≤ _; rw [hl2]; omega
              have HS1a : Hid (wo.heap.size ≤ (wi).heap.size) := Lib.hid HZ1.out.size
              clear hl1 hl2
              go_wp2_with (at_builtin; go_loud (first | (refine wpList_app_int2 wo.heap.size (wi) _ ((rowOf N (gA k)).take j) _ _ _ wi.heap.size rfl rfl rfl rfl HX1.out.a rfl HN1a.out HS1a.out ?_; intro g c1 w1 hown1 hk1 hg1; rw [HL1a.out] at hown1; rw [HL1a.out]; have HT1 := Lib.hid (HX1.out.app1 hown1 hk1 hg1); have HZ2 := Lib.hid (HX1.out.a.frame HZ1.out (Nat.le_refl _) HS1a.out hk1); clear hown1 hk1 hg1; have hB3 := bb HB.out HZ2.out; have HX2 := HT1; have HZ3 := HZ2; have HS2a : Hid (wo.heap.size ≤ w1.heap.size) := Lib.hid HZ3.out.size; clear hB3) | (refine wpList_app_int2 wo.heap.size w1 _ ((rowOf N (gB k)).take j) _ _ _ w1.heap.size rfl rfl rfl rfl HX2.out.b rfl HN2a.out HS2a.out ?_; intro g2 c2 w4 hown4 hk4 hg4; rw [HL2a.out] at hown4; rw [HL2a.out]; have HT2 := Lib.hid (HX2.out.app2 hown4 hk4 hg4); have HZ4 := Lib.hid (HX2.out.b.frame HZ3.out (Nat.le_refl _) HS2a.out hk4); clear hown4 hk4 hg4)))
              go_roundw
              case rel =>
                refine ⟨j + 1, some ⟨g, 0, none⟩, c1, some ⟨g2, 0, none⟩, c2, by omega, by go_num, rfl, rfl, HZ4, ?_⟩
                rw [take_snoc (rowOf N (gA k)) _ (by simpa using hlj), take_snoc (rowOf N (gB k)) _ (by simpa using hlj), nth_rowOf _ _ _ hlj, nth_rowOf _ _ _ hlj, HEA.out, HEB.out]
                exact HT2
              case measure => simp [intOf]; omega
        · obtain rfl : N = j := by omega
          have hTw := HTw.out
          rw [List.take_of_length_le (by simp), List.take_of_length_le (by simp)] at hTw
          have HU := Lib.hid hTw; clear hTw
          have HO2 := Lib.hid (HO.out.under Hb.out)
          have HBi := Lib.hid (bb HB.out Hb.out)
          have hla : ((tabOf N gA).take k).length = k := by simp; omega
          have hlb : ((tabOf N gB).take k).length = k := by simp; omega
          have HNA : Hid (((tabOf N gA).take k).length ≤ 1099511627776) := by show _ ≤ _; rw [hla]; omega
          have HNB : Hid (((tabOf N gB).take k).length ≤ 1099511627776) := by show _ ≤ _; rw [hlb]; omega
          have HLA := Lib.hid hla; have HLB := Lib.hid hlb; clear hla hlb
          have HLO : Hid ((V.heap.size + 1) ≤ wi.heap.size) := Nat.le_trans HO2.out.lm HO2.out.mw
          obtain ⟨cA, cB, cF, cG⟩ := two_cells HO2.out.blk
          go_wp2_with (at_builtin; go_loud (first
            | (refine wpList_app_row2 (V.heap.size + 1) wo.heap.size wi va ((tabOf N gA).take k) _ (rowOf N (gA k)) _ _ rfl rfl rfl HO2.out.a HU.out.a rfl HNA.out HO2.out.lm HLO.out ?_; intro g c1 w1 hown1 hk1 hg1; rw [HLA.out] at hown1; rw [HLA.out]; have hq1 := HO2.out.blkq hk1; obtain ⟨dA, dB, dF, dG⟩ := two_cells hq1; have hh := HO2.out.app1 hown1 hk1 hg1; have hv := HO2.out.row1 HU.out.b hk1 (.slice (some ⟨g, 0, none⟩) (k + 1) c1); have hf := HO2.out.frame1 HBi.out HQLE.out hk1 (.slice (some ⟨g, 0, none⟩) (k + 1) c1); obtain ⟨eA, eB, eF, eG⟩ := two_cells hh.blk; have HH := Lib.hid hh; have HV := Lib.hid hv; have HF1 := Lib.hid hf; clear hown1 hk1 hg1 hq1 hh hv hf)
            | (refine wpList_app_row2s (V.heap.size + 1) wo.heap.size (w1.setCell ⟨(V.heap.size), 0, none⟩ (.slice (some ⟨g, 0, none⟩) (k + 1) c1)) vb ((tabOf N gB).take k) _ (rowOf N (gB k)) _ _ w1.heap.size (by simp [World.setCell]) rfl rfl rfl HH.out.b HV.out rfl HNB.out HH.out.lm (Nat.le_trans HH.out.lm HH.out.mw) ?_; intro g2 c2 w4 hown4 hk4 hg4; rw [HLB.out] at hown4; rw [HLB.out]; have hq4 := HH.out.blkq hk4; clear dA dB dF dG eA eB eF eG cA cB cF cG; obtain ⟨dA, dB, dF, dG⟩ := two_cells hq4; have HH2 := Lib.hid (HH.out.app2 hown4 hk4 hg4); have HF2 := Lib.hid (HH.out.frame2 HF1.out HQLE.out hk4 (.slice (some ⟨g2, 0, none⟩) (k + 1) c2)); clear hown4 hk4 hg4 hq4)))
          go_roundw
          case rel =>
            refine ⟨k + 1, .slice (some ⟨g, 0, none⟩) (k + 1) c1, .slice (some ⟨g2, 0, none⟩) (k + 1) c2, by omega, by go_num, HF2, ?_⟩
            rw [take_snoc_row (tabOf N gA) _ (by simpa using hlt), take_snoc_row (tabOf N gB) _ (by simpa using hlt), row_tabOf _ _ _ hlt, row_tabOf _ _ _ hlt]
            exact HH2
          case measure => simp [intOf]; omega
    · obtain rfl : N = k := by omega
      have hO := HO.out
      rw [List.take_of_length_le (by simp), List.take_of_length_le (by simp)] at hO
      obtain ⟨ra1, rc1, hva, _⟩ := hO.a.out.rows.shape
      obtain ⟨ra2, rc2, hvb, _⟩ := hO.b.out.rows.shape
      rw [tabOf_length] at hva hvb
      subst hva hvb
      obtain ⟨y0, y1, y2, y3⟩ := two_cells hO.blk
      obtain ⟨z0, z1, z2, z3⟩ := two_cells (f2.under HB.out)
      have HO' := Lib.hid hO; clear hO
      have hlt2 := HF2lt.out
      go_wp2
      refine bodyPost_ret (v := .agg #[.slice ra1 N rc1, .slice ra2 N rc2]) (by simp [results, Tryd.results80, go_sem, z0, z1]) rfl ⟨_, _, rfl, ⟨?_, ?_⟩, ((bb HWW.out HB.out).setCell (p := ⟨w.heap.size + 1 + 1, 0, none⟩) (by show _ ≤ w.heap.size + 1 + 1; omega) _).setCell (p := ⟨w.heap.size + 1 + 1, 1, none⟩) (by show _ ≤ w.heap.size + 1 + 1; omega) _⟩
      · try rw [HRA.out]
        exact OwnRows.mono (B := (V.heap.size + 1)) ((HO'.out.a.out.keep (keep1 _ (w.heap.size + 1 + 1) 0 _) (fun b h1 h2 h3 => by have h3 : b = w.heap.size + 1 + 1 := h3; omega)).keep (keep1 _ (w.heap.size + 1 + 1) 1 _) (fun b h1 h2 h3 => by have h3 : b = w.heap.size + 1 + 1 := h3; omega)) (by have := HSV.out; omega)
      · try rw [HRB.out]
        exact OwnRows.mono (B := (V.heap.size + 1)) ((HO'.out.b.out.keep (keep1 _ (w.heap.size + 1 + 1) 0 _) (fun b h1 h2 h3 => by have h3 : b = w.heap.size + 1 + 1 := h3; omega)).keep (keep1 _ (w.heap.size + 1 + 1) 1 _) (fun b h1 h2 h3 => by have h3 : b = w.heap.size + 1 + 1 := h3; omega)) (by have := HSV.out; omega)
end Go.Proofs.YtnbhghgkjcfcmaaDoor

namespace Go.Proofs.YtnbhghgkjcfcmaaDoor
set_option linter.unusedVariables false
set_option linter.unusedSimpArgs false
open Go.RowKit


set_option maxRecDepth 100000 in
set_option maxHeartbeats 800000 in
theorem c_l02Rename (v0 u0 v1 : Value) (A B : List (List Int)) (p : List Int) (w : World) (hA : Sol w v0 u0 A B) (hp : Ints w v1 p) (hok1 : RenOk A p) (hok2 : RenOk B p) :
    Calls Tryd.prog 67 #[.agg #[v0, u0], v1] w (RSol w (renL A p) (renL B p)) := by
  obtain ⟨a0, c0, rfl, _, _⟩ := hA.1.shape
  obtain ⟨a0s, c0s, rfl, _, _⟩ := hA.2.shape
  obtain ⟨a1, c1, rfl, _, _⟩ := hp.shape
  have HK1 := Lib.hid hok1; have HK2 := Lib.hid hok2; clear hok1 hok2
  go_enter Tryd.func67, Tryd.ntmps67
  go_wp2_with fail
  obtain ⟨f0, f1, hW0, hsz⟩ := boxes2 w [.slice a0 A.length c0, .slice a0s B.length c0s] [.slice none 0 0, .slice none 0 0] 38 38
  obtain ⟨W0, hW⟩ : ∃ W, ((w.alloc (.cells #[.slice a0 A.length c0, .slice a0s B.length c0s] 38)).alloc (.cells #[.slice none 0 0, .slice none 0 0] 38)) = W := ⟨_, rfl⟩
  rw [hW] at f0 f1 hW0 hsz ⊢
  clear hW hsz
  have HRA := Lib.hid ((hA.1.below hW0).below (Below.refl _ _).drew); have HRB := Lib.hid ((hA.2.below hW0).below (Below.refl _ _).drew); have HPp := Lib.hid ((hp.below hW0).below (Below.refl _ _).drew)
  have HFc := Lib.hid f0.drew; have HGc := Lib.hid f1.drew; have HBc := Lib.hid hW0.drew; have HLt := Lib.hid f1.lt
  clear hA hp hW0 f0 f1
  have zz : W0.drew.cell? ⟨w.heap.size, 0, none⟩ = some (.slice a0 A.length c0) ∧ W0.drew.cell? ⟨w.heap.size, 1, none⟩ = some (.slice a0s B.length c0s) := ⟨(two_cells HFc.out).1, (two_cells HFc.out).2.1⟩
  go_region_held3 (fun w' => w'.cell? ⟨w.heap.size, 0, none⟩ = some (.slice a0 A.length c0) ∧ w'.cell? ⟨w.heap.size, 1, none⟩ = some (.slice a0s B.length c0s))
    (first | go_keep | exact ⟨(two_cells HFc.out).1, (two_cells HFc.out).2.1⟩)
    ((first | (go_at_call 83; (with_reducible refine (c_l01Rename _ _ A p _ HRA.out HPp.out HK1.out).mono ?_); rintro e w1 ⟨r1, rfl, ho1, hb1⟩; obtain ⟨ra1, rc1, hv1, _⟩ := ho1.rows.shape; rw [renL_length] at hv1; subst hv1; replace HFc := Lib.hid (HFc.out.under hb1); replace HGc := Lib.hid (HGc.out.under hb1); replace HBc := Lib.hid (bb HBc.out hb1); replace HRB := Lib.hid (HRB.out.below hb1); replace HPp := Lib.hid (HPp.out.below hb1); have HO1 := Lib.hid ho1; have HS1 := Lib.hid hb1.size; clear ho1 hb1) | (go_at_call 83; (with_reducible refine (c_l01Rename _ _ B p _ HRB.out HPp.out HK2.out).mono ?_); rintro e w2 ⟨r2, rfl, ho2, hb2⟩; obtain ⟨ra2, rc2, hv2, _⟩ := ho2.rows.shape; rw [renL_length] at hv2; subst hv2; replace HFc := Lib.hid (HFc.out.under hb2); replace HGc := Lib.hid (HGc.out.under hb2); have HB2 := Lib.hid (bb HBc.out hb2); have HO2 := Lib.hid ho2; have HBx := Lib.hid hb2; obtain ⟨z0, z1, z2, z3⟩ := two_cells HGc.out; clear ho2 hb2)))
  obtain ⟨hA, hB⟩ := stored (q := w.heap.size + 1) HB2.out (OwnSol.mk HO1.out HBx.out HO2.out HS1.out) (by omega) HLt.out
  have HA := Lib.hid hA; have HB := Lib.hid hB
  clear hA hB
  go_wp2
  exact bodyPost_ret (v := .agg #[.slice ra1 A.length rc1, .slice ra2 B.length rc2]) (by simp [results, Tryd.results67, go_sem, z0, z1]) rfl ⟨.slice ra1 A.length rc1, .slice ra2 B.length rc2, rfl, HA.out, HB.out⟩
end Go.Proofs.YtnbhghgkjcfcmaaDoor

namespace Go.Proofs.YtnbhghgkjcfcmaaDoor
set_option linter.unusedVariables false
set_option linter.unusedSimpArgs false
open Go.RowKit

theorem eql_nilC (W : World) (a : Option Addr) (n c : Nat) : (binOp .eql 32 (.slice a n c) (.slice none 0 0)).run Tryd.prog W = .ok (.bool a.isNone) W := Lib.run_eql_slice_nil W _ _ a n c 0 0 Tryd.underlying32

end Go.Proofs.YtnbhghgkjcfcmaaDoor

namespace Go.Proofs.YtnbhghgkjcfcmaaDoor
set_option linter.unusedVariables false
set_option linter.unusedSimpArgs false
open Go.RowKit


set_option maxHeartbeats 1600000 in
theorem c_l01Own2 (v : Value) (t : List (List Int)) (w : World) (hx : Rows w v t) (hn : t.length ≤ 1048576) (hr : ∀ r ∈ t, r.length ≤ 1048576) :
    Calls Tryd.prog 95 #[v] w (RRows w t) := by
  obtain ⟨a, c, rfl, hc, hm⟩ := hx.shape
  have HR := Lib.hid hr; clear hr
  go_enter Tryd.func95, Tryd.ntmps95
  go_wp2
  go_loopw [3, 4] (fun s i wr => ∃ (k : Nat) (sa : Option Addr) (sc : Nat), k ≤ t.length ∧ i = .int .i64 k ∧ s = .slice sa k sc ∧ Below w.heap.size w wr ∧ OwnRows w.heap.size wr (.slice sa k sc) (t.take k)) (fun _ i _ => t.length - (intOf i).toNat)
  case atStart => exact ⟨0, _, _, Nat.zero_le _, rfl, rfl, (Below.refl _ _).alloc (Nat.le_refl _) _, OwnRows.made0 w (Nat.le_refl _)⟩
  case round =>
    obtain ⟨k, sa, sc, hk, rfl, rfl, hb, hown⟩ := hrel
    have hlen : (t.take k).length = k := by simp; omega
    by_cases hlt : k < t.length
    · obtain ⟨b, o, ra, rc, rfl, hcell, hu⟩ := (hx.below hb).getS k hlt
      have hrl : (row t k).length ≤ 1048576 := HR.out _ (row_mem (by omega) (by omega))
      have Hb := Lib.hid hb; have Ho := Lib.hid hown; have Hl := Lib.hid hlen; have Hs := Lib.hid hb.size; have HU := Lib.hid hu; clear hb hown hlen hu
      obtain ⟨wo, rfl⟩ : ∃ wo : World, wo = wr := ⟨_, rfl⟩
      go_wp2_with fail
      refine (c_l01Own _ _ _ HU.out hrl).mono ?_; rintro e w1 ⟨r, rfl, hor, hb1⟩
      obtain ⟨qa, qc, hqv, _⟩ := hor.shape
      subst hqv
      have HRr := Lib.hid hor; have HB1 := Lib.hid hb1; clear hor hb1 hcell
      go_wp2_with (at_builtin; refine wpList_app_row w.heap.size wo w1 _ (t.take k) _ (row t k) _ _ rfl rfl rfl Ho.out HB1.out HRr.out rfl (by rw [Hl.out]; omega) Hs.out ?_; intro a' c' w' hown' hkeep; rw [Hl.out]; have Hk := Lib.hid hkeep; have Ho' := Lib.hid hown'; clear hkeep hown')
      go_roundw
      case rel =>
        have h1 := Ho'.out
        rw [Hl.out, ← take_snoc_row _ _ hlt] at h1
        exact ⟨k + 1, a', c', by omega, by go_num, rfl, OwnRows.frame Ho.out (bb Hb.out HB1.out) (Nat.le_refl _) (Nat.le_trans Hs.out HB1.out.size) Hk.out, h1⟩
      case measure => simp [intOf]; omega
    · have Hb := Lib.hid hb; have Ho := Lib.hid hown; clear hb hown hlen
      obtain rfl : k = t.length := by omega
      go_wp2
      go_ret
      exact ⟨_, rfl, by have := Ho.out; rwa [List.take_of_length_le (Nat.le_refl _)] at this, Hb.out⟩

end Go.Proofs.YtnbhghgkjcfcmaaDoor

namespace Go.Proofs.YtnbhghgkjcfcmaaDoor
set_option linter.unusedVariables false
set_option linter.unusedSimpArgs false
open Go.RowKit

def lexS (A B C D : List (List Int)) : Bool := if A = C then lexR B D else lexR A C
def orI (x y : Int) : Int := if x = 0 then y else x
theorem orI_neg {A B C D : List (List Int)} : orI (cmpR A C) (cmpR B D) < 0 ↔ lexS A B C D = true := by
  unfold orI lexS
  by_cases h : A = C
  · rw [if_pos (cmpR_zero.2 h), if_pos h]; exact cmpR_neg
  · rw [if_neg (fun e => h (cmpR_zero.1 e)), if_neg h]; exact cmpR_neg




end Go.Proofs.YtnbhghgkjcfcmaaDoor

namespace Go.Proofs.YtnbhghgkjcfcmaaDoor
set_option linter.unusedVariables false
set_option linter.unusedSimpArgs false
open Go Go.RowKit

variable {F : Fence} {n : Nat} {P : Program}

/-- The iterator's contract: it hands the rows of T, one after the other, in a slice that lies in blocks [size at its start, hi); between two rounds it writes these blocks alone. J hi k: what the caller keeps when k rows have come. -/
def SeqRows (F : Fence) (n : Nat) (P : Program) (g : Nat) (lb : Array Value) (T : List (List Int)) (w : World) : Prop :=
  ∀ (l : Nat) (J Jx : Nat → Nat → World → Prop) (W1 : World), Below w.heap.size w W1 →
    (∀ hi k W W', J hi k W → Keep (fun b => W1.heap.size ≤ b ∧ b < hi) W W' → J hi k W') →
    (∀ hi k W W', Jx hi k W → Keep (fun b => W1.heap.size ≤ b ∧ b < hi) W W' → Jx hi k W') →
    (∀ W', Below W1.heap.size W1 W' → J W'.heap.size 0 W') →
    (∀ hi k u W, J hi k W → W1.heap.size ≤ hi → hi ≤ W.heap.size → k < T.length → Ints W u (row T k) → YieldAt F (n - 1) P l #[u] W fun e W' =>
      (e = .returned (.bool true) ∧ J hi (k + 1) W' ∧ Keep (fun b => b < W1.heap.size ∨ hi ≤ b) W W') ∨ (e = .returned (.bool false) ∧ Jx hi (k + 1) W')) →
    CallsIn F n P g (#[.func (.yield l) #[] #[]] ++ lb) W1 fun e W' => (∃ v, e = .returned v) ∧ ((∃ hi, J hi T.length W') ∨ (∃ hi k, Jx hi k W'))

def rowsPost (S0 : Nat → Prop) (I : Nat → Nat → World → Prop) (Ix : Code → Nat → Nat → World → Prop) (hi k : Nat) (W : World) : Exit → Act → World → Prop
  | .normal, _, W' => Keep (fun b => S0 b ∨ hi ≤ b) W W' ∧ I hi k W'
  | .ret, _, W' => Keep (fun b => S0 b ∨ hi ≤ b) W W' ∧ Ix .ret hi k W'
  | .exit id, _, W' => Keep (fun b => S0 b ∨ hi ≤ b) W W' ∧ Ix (.exit id) hi k W'
  | .goto t, _, W' => Keep (fun b => S0 b ∨ hi ≤ b) W W' ∧ Ix (.goto t) hi k W'
  | .panic _, _, _ => False
  | .outgrown, _, _ => False

theorem keep_putObj (W : World) (l : Nat) (o : Obj) : Keep (fun b => b = l) W (W.putObj l o) :=
  (Keep.of_grown (grownBy_putObj' W l o)).mono fun k _ h => by cases h; rfl

theorem wpIn_rangeFunc_rows {g : Operand} {ps : Array Tmp} {assign body : Code} {Q : Exit → Act → World → Prop} {a : Act} {w : World}
    (hro : F.round = none) (h1 : 1 ≤ n) {gf : Nat} {lb : Array Value} (hg : a.eval g = .func (.func gf) #[] lb) (hFg : F.fn gf) (eg : ∀ args w, (callFunc gf args).run P w = .ok (.enter gf args) w)
    (S0 : Nat → Prop) (hS0 : ∀ b, S0 b → b < w.heap.size) {T : List (List Int)} (hseq : SeqRows F (n - 1) P gf lb T w) (hps : ps.size = 1)
    (I : Nat → Nat → World → Prop) (Ix : Code → Nat → Nat → World → Prop)
    (hI : ∀ hi k W W', I hi k W → Keep (fun b => w.heap.size ≤ b ∧ b < hi) W W' → I hi k W')
    (hIx : ∀ c hi k W W', Ix c hi k W → Keep (fun b => w.heap.size ≤ b ∧ b < hi) W W' → Ix c hi k W')
    (h0 : ∀ W', Below w.heap.size w W' → I W'.heap.size 0 W') (a₁ : Value → Act)
    (hassign : ∀ (l : Nat) (u : Value) (W : World) (K : Act → World → Prop), K (a₁ u) W →
      assign.wpIn (F.inRound l) (n - 1 - 1) P (Exit.then K (fun _ _ _ => False)) { tmps := (ps.zip #[u]).foldl (fun t (p, v) => t.setIfInBounds p v) a.tmps, defers := [] } W)
    (hbody : ∀ (l hi k : Nat) (u : Value) (W : World), I hi k W → w.heap.size ≤ hi → hi ≤ W.heap.size → k < T.length → Ints W u (row T k) → body.wpIn (F.inRound l) (n - 1 - 1) P (rowsPost S0 I Ix hi (k + 1) W) (a₁ u) W)
    (hdone : ∀ (D hi : Nat) (W : World), w.heap.size ≤ D → D < hi → I hi T.length W → W.heap[D]? = some (.deferred (some [])) → Q .normal { a with defers := { target := .collected D, args := #[] } :: a.defers } W)
    (hstop : ∀ (D hi k : Nat) (c : Code) (W : World), w.heap.size ≤ D → D < hi → Ix c hi k W → W.heap[D]? = some (.deferred (some [])) → c.wpIn F n P Q { a with defers := { target := .collected D, args := #[] } :: a.defers } W) :
    (Code.rangeFunc g ps assign body).wpIn F n P Q a w := by
  refine wpIn_rangeFunc ?_
  intro fn hfn
  rw [hro]
  obtain ⟨rec, hrec⟩ : ∃ rec : LoopState → Option Code → Loop, rec = fun st pe => { state := st, pending := pe, fn, tmps := a.tmps, params := ps, assign, body, defers := w.heap.size } := ⟨_, rfl⟩
  obtain ⟨W1, hW1⟩ : ∃ W1, (w.alloc (.deferred (some []))).alloc (.loop (rec .ready none)) = W1 := ⟨_, rfl⟩
  have hL1 : W1.heap[w.heap.size + 1]? = some (.loop (rec .ready none)) := by
    rw [← hW1]; have := World.alloc_heap_new (w.alloc (.deferred (some []))) (.loop (rec .ready none)); rwa [World.size_alloc] at this
  have hK1 : W1.heap[w.heap.size]? = some (.deferred (some [])) := by
    rw [← hW1]; exact (Below.heap_alloc _ _ _ (by simp)).trans (World.alloc_heap_new w _)
  have hsz : W1.heap.size = w.heap.size + 2 := by rw [← hW1]; simp
  have hb1 : Below w.heap.size w W1 := by
    rw [← hW1]; exact ((Below.refl _ w).alloc (Nat.le_refl _) _).alloc (by simp) _
  refine ⟨w.heap.size + 1, [{ target := .collected w.heap.size, args := #[] }], W1, { target := .fn (.func gf) lb, args := #[.func (.yield (w.heap.size + 1)) #[] #[]] }, W1, gf,
    #[.func (.yield (w.heap.size + 1)) #[] #[]] ++ lb, W1, ?_, ?_, ?_, ?_, fun _ => h1, ?_⟩
  · rw [← hW1, hrec]; exact run_enterLoop_outer _ _ _ _ _
  · simp only [resolve, hg]
    simp [go_sem]
  · intro f' hf'; simp [Target.leads] at hf'; subst hf'; exact hFg
  · simp [invoke, go_sem, eg]
  · have stepI : ∀ {hi k : Nat} {W : World} (o : Obj), w.heap.size + 2 ≤ hi → I hi k W → I hi k (W.putObj (w.heap.size + 1) o) := fun o hh h =>
      hI _ _ _ _ h ((keep_putObj _ _ _).mono fun b _ e => by subst e; omega)
    have stepIx : ∀ {c : Code} {hi k : Nat} {W : World} (o : Obj), w.heap.size + 2 ≤ hi → Ix c hi k W → Ix c hi k (W.putObj (w.heap.size + 1) o) := fun o hh h =>
      hIx _ _ _ _ _ h ((keep_putObj _ _ _).mono fun b _ e => by subst e; omega)
    have keptAt : ∀ {hi b : Nat} {W W' : World}, b < W1.heap.size → W1.heap.size ≤ W.heap.size → Keep (fun b => W1.heap.size ≤ b ∧ b < hi) W W' → W'.heap[b]? = W.heap[b]? := fun hb hW hk =>
      hk.block _ (by omega) (by omega)
    refine (hseq (w.heap.size + 1)
      (fun hi k W => I hi k W ∧ W.heap[w.heap.size + 1]? = some (.loop (rec .ready none)) ∧ W.heap[w.heap.size]? = some (.deferred (some [])) ∧ w.heap.size + 2 ≤ hi ∧ W1.heap.size ≤ W.heap.size)
      (fun hi k W => ∃ c, Ix c hi k W ∧ W.heap[w.heap.size + 1]? = some (.loop (rec .done (some c))) ∧ W.heap[w.heap.size]? = some (.deferred (some [])) ∧ w.heap.size + 2 ≤ hi ∧ W1.heap.size ≤ W.heap.size)
      W1 hb1 ?_ ?_ ?_ ?_).mono ?_
    · rintro hi k W W' ⟨h, hl, hk, hh, hs⟩ hkeep
      exact ⟨hI _ _ _ _ h (hkeep.mono fun b _ hb => ⟨by omega, hb.2⟩), (keptAt (by omega) hs hkeep).trans hl, (keptAt (by omega) hs hkeep).trans hk, hh, Nat.le_trans hs hkeep.size⟩
    · rintro hi k W W' ⟨c, h, hl, hk, hh, hs⟩ hkeep
      exact ⟨c, hIx _ _ _ _ _ h (hkeep.mono fun b _ hb => ⟨by omega, hb.2⟩), (keptAt (by omega) hs hkeep).trans hl, (keptAt (by omega) hs hkeep).trans hk, hh, Nat.le_trans hs hkeep.size⟩
    · intro W' hb
      exact ⟨h0 W' (bb hb1 hb), (hb.block _ (by omega)).trans hL1, (hb.block _ (by omega)).trans hK1, by have := hb.size; omega, hb.size⟩
    · -- ONE ROUND
      rintro hi k u W ⟨hi0, hl, hk, hh, hs⟩ hlo hhi hlen hu
      have hlt : w.heap.size + 1 < W.heap.size := (Array.getElem?_eq_some_iff.1 hl).1
      have hy := run_yield (P := P) (args := #[u]) hl (by rw [hrec]; simpa using hps.symm)
      rw [hrec] at hy
      refine ⟨fn, _, assign, body, hy, roundIn_of_wpIn hfn (hassign _ u W _ ⟨_, run_beginRound hl (by rw [hrec]), ?_⟩)⟩
      obtain ⟨W2, hW2⟩ : ∃ W2, W.putObj (w.heap.size + 1) (.loop { rec .ready none with state := .busy }) = W2 := ⟨_, rfl⟩
      have hl2 : W2.heap[w.heap.size + 1]? = some (.loop { rec .ready none with state := .busy }) := by rw [← hW2]; exact World.putObj_heap_same hlt
      have hk2 : W2.heap[w.heap.size]? = some (.deferred (some [])) := by rw [← hW2]; exact (World.putObj_heap_other (by omega)).trans hk
      have kp2 : Keep (fun b => b = w.heap.size + 1) W W2 := by rw [← hW2]; exact keep_putObj _ _ _
      have hi2 : I hi k W2 := by rw [← hW2]; exact stepI _ hh hi0
      have hu2 : Ints W2 u (row T k) := by
        obtain ⟨ua, uc, hv, huc, hum, hcell⟩ := hu
        refine ⟨ua, uc, hv, huc, hum, fun i hi' => ?_⟩
        obtain ⟨b, o, e, hc⟩ := hcell i hi'
        refine ⟨b, o, e, ?_⟩
        have hb : b ≠ w.heap.size + 1 := by
          rintro rfl
          simp [World.cell?, hl] at hc
        have hblt : b < W.heap.size := by
          rcases Nat.lt_or_ge b W.heap.size with h | h
          · exact h
          · simp [World.cell?, Array.getElem?_eq_none h] at hc
        simp only [World.cell?] at hc ⊢
        rw [kp2.block b hblt hb]
        exact hc
      rw [hW2]
      refine wpIn_mono (hbody _ hi k u W2 hi2 (by omega) (Nat.le_trans hhi kp2.size) hlen hu2) ?_
      have fin : ∀ (jump : Option Code) (W3 : World), Keep (fun b => S0 b ∨ hi ≤ b) W2 W3 →
          (Instr.endRound (w.heap.size + 1) jump).run P W3 = .ok (.bool jump.isNone) (W3.putObj (w.heap.size + 1) (.loop (rec (if jump.isNone then .ready else .done) jump))) ∧
          (W3.putObj (w.heap.size + 1) (.loop (rec (if jump.isNone then .ready else .done) jump))).heap[w.heap.size + 1]? = some (.loop (rec (if jump.isNone then .ready else .done) jump)) ∧
          (W3.putObj (w.heap.size + 1) (.loop (rec (if jump.isNone then .ready else .done) jump))).heap[w.heap.size]? = some (.deferred (some [])) ∧ W1.heap.size ≤ (W3.putObj (w.heap.size + 1) (.loop (rec (if jump.isNone then .ready else .done) jump))).heap.size ∧
          Keep (fun b => b < W1.heap.size ∨ hi ≤ b) W (W3.putObj (w.heap.size + 1) (.loop (rec (if jump.isNone then .ready else .done) jump))) := fun jump W3 hk3 => by
        have hno : ∀ b, w.heap.size ≤ b → b < w.heap.size + 2 → ¬ (S0 b ∨ hi ≤ b) := fun b h1 h2 h => by
          rcases h with h | h
          · have := hS0 b h; omega
          · omega
        have hsz2 : W2.heap.size = W.heap.size := by rw [← hW2]; simp [World.putObj]
        have hl3 := (hk3.block (w.heap.size + 1) (by omega) (hno _ (by omega) (by omega))).trans hl2
        have hd3 := (hk3.block (w.heap.size) (by omega) (hno _ (by omega) (by omega))).trans hk2
        have := run_endRound (P := P) jump hl3
        rw [hrec] at this ⊢
        refine ⟨this, World.putObj_heap_same (Array.getElem?_eq_some_iff.1 hl3).1, (World.putObj_heap_other (by omega)).trans hd3, Nat.le_trans hs (Nat.le_trans kp2.size (Nat.le_trans hk3.size (keep_putObj _ _ _).size)), ?_⟩
        refine ((kp2.mono (fun b _ e => ?_)).trans (hk3.mono (fun b _ e => ?_))).trans ((keep_putObj _ _ _).mono (fun b _ e => ?_))
        · exact .inl (by subst e; omega)
        · rcases e with e | e
          · exact .inl (by have := hS0 b e; omega)
          · exact .inr e
        · exact .inl (by subst e; omega)
      rintro e a3 W3 hp
      cases e with
      | normal =>
        obtain ⟨hk3, hi3⟩ := hp
        obtain ⟨hr, hl4, hk4, hs4, hkk⟩ := fin none W3 hk3
        exact ⟨_, _, hr, .inl ⟨rfl, ⟨stepI _ hh hi3, hl4, hk4, hh, hs4⟩, hkk⟩⟩
      | ret =>
        obtain ⟨hk3, hi3⟩ := hp
        obtain ⟨hr, hl4, hk4, hs4, hkk⟩ := fin (some .ret) W3 hk3
        exact ⟨_, _, hr, .inr ⟨rfl, .ret, stepIx _ hh hi3, hl4, hk4, hh, hs4⟩⟩
      | exit id =>
        obtain ⟨hk3, hi3⟩ := hp
        obtain ⟨hr, hl4, hk4, hs4, hkk⟩ := fin (some (.exit id)) W3 hk3
        exact ⟨_, _, hr, .inr ⟨rfl, .exit id, stepIx _ hh hi3, hl4, hk4, hh, hs4⟩⟩
      | goto t =>
        obtain ⟨hk3, hi3⟩ := hp
        obtain ⟨hr, hl4, hk4, hs4, hkk⟩ := fin (some (.goto t)) W3 hk3
        exact ⟨_, _, hr, .inr ⟨rfl, .goto t, stepIx _ hh hi3, hl4, hk4, hh, hs4⟩⟩
      | panic ch => exact hp.elim
      | outgrown => exact hp.elim
    · -- BEHIND THE ITERATOR
      rintro e W2 ⟨⟨v, rfl⟩, (⟨hi, h, hl, hk, hh, hs⟩ | ⟨hi, k, c, h, hl, hk, hh, hs⟩)⟩
      · exact ⟨none, _, by have := run_endLoop (P := P) hl (by rw [hrec]; simp); rw [hrec] at this; exact this, hdone _ hi _ (Nat.le_refl _) (by omega) (stepI _ hh h) ((World.putObj_heap_other (by omega)).trans hk)⟩
      · exact ⟨some c, _, by have := run_endLoop (P := P) hl (by rw [hrec]; simp); rw [hrec] at this; exact this, hstop _ hi k c _ (Nat.le_refl _) (by omega) (stepIx _ hh h) ((World.putObj_heap_other (by omega)).trans hk)⟩
end Go.Proofs.YtnbhghgkjcfcmaaDoor

namespace Go.Proofs.YtnbhghgkjcfcmaaDoor
set_option linter.unusedVariables false
set_option linter.unusedSimpArgs false
open Go.RowKit

theorem rowOf_set (n : Nat) (g : Int → Int) (k : Nat) (v : Int) : (rowOf n g).set k v = rowOf n (fun x => if x = k then v else g x) := by
  apply List.ext_getElem (by simp)
  intro i h1 h2
  have hi : i < n := by simpa using h2
  rw [List.getElem_set]
  simp only [rowOf, List.getElem_map, List.getElem_range]
  by_cases e : k = i
  · subst e; simp
  · rw [if_neg e, if_neg (by omega)]
/-- The list after r exchanges. -/
def revG (mid : List Int) (r : Nat) (x : Int) : Int := if x < r ∨ (mid.length : Int) - r ≤ x then nth mid (mid.length - 1 - x) else nth mid x
theorem revG_zero (mid : List Int) : rowOf mid.length (revG mid 0) = mid := by
  apply ext_nth (by simp)
  intro k hk
  have hk' : k < mid.length := by simpa using hk
  rw [nth_rowOf _ _ _ hk']
  unfold revG
  rw [if_neg (by omega)]
theorem revG_done (mid : List Int) (r : Nat) (h : (mid.length : Int) - 1 - r ≤ r) : rowOf mid.length (revG mid r) = mid.reverse := by
  apply ext_nth (by simp)
  intro k hk
  have hk' : k < mid.length := by simpa using hk
  rw [nth_rowOf _ _ _ hk', nth_nat _ _ (by simpa using hk'), List.getElem_reverse]
  have e : nth mid ((mid.length : Int) - 1 - k) = mid[mid.length - 1 - k] := by
    rw [show (mid.length : Int) - 1 - k = ((mid.length - 1 - k : Nat) : Int) from by omega, nth_nat]
  unfold revG
  by_cases c : (k : Int) < r ∨ (mid.length : Int) - r ≤ k
  · rw [if_pos c, e]
  · rw [if_neg c]
    have : (k : Int) = (mid.length : Int) - 1 - k := by omega
    rw [this, e]
theorem revG_step (mid : List Int) (r q : Nat) (hq : (q : Int) = (mid.length : Int) - 1 - r) (hlt : r < q) :
    rowOf mid.length (fun x => if x = q then revG mid r r else if x = r then revG mid r q else revG mid r x) = rowOf mid.length (revG mid (r + 1)) := by
  apply rowOf_congr
  intro y hy
  have e1 : revG mid r r = nth mid r := by unfold revG; rw [if_neg (by omega)]
  have e2 : revG mid r q = nth mid q := by unfold revG; rw [if_neg (by omega)]
  by_cases c1 : (y : Int) = q
  · rw [if_pos c1, e1]
    unfold revG
    rw [if_pos (by omega)]
    congr 1; omega
  · rw [if_neg c1]
    by_cases c2 : (y : Int) = r
    · rw [if_pos c2, e2]
      unfold revG
      rw [if_pos (by omega)]
      congr 1; omega
    · rw [if_neg c2]
      unfold revG
      by_cases c3 : (y : Int) < r ∨ (mid.length : Int) - r ≤ y
      · rw [if_pos c3, if_pos (by omega)]
      · rw [if_neg c3, if_neg (by omega)]

/-- The cell of the middle part of a block. -/
theorem Blk.mid {w : World} {b : Nat} {t : TypeId} {pre post : List Value} {m : Nat} {g : Int → Int} (h : Blk w b t (pre ++ ((rowOf m g).map (Value.int .i64) ++ post))) {o : Nat} (ho : o = pre.length) (k : Nat) (hk : k < m) :
    w.cell? ⟨b, o + k, none⟩ = some (.int .i64 (g k)) := by
  subst ho
  rw [h.cell (by simp; omega), List.getElem_append_right (by omega), List.getElem_append_left (by simp; omega)]
  simp [rowOf]
theorem Blk.midSet {w : World} {b : Nat} {t : TypeId} {pre post : List Value} {m : Nat} {g : Int → Int} (h : Blk w b t (pre ++ ((rowOf m g).map (Value.int .i64) ++ post))) {o : Nat} (ho : o = pre.length) (k : Nat) (hk : k < m) (v : Int) :
    Blk (w.setCell ⟨b, o + k, none⟩ (.int .i64 v)) b t (pre ++ ((rowOf m (fun x => if x = k then v else g x)).map (Value.int .i64) ++ post)) := by
  have := h.set (o + k) (.int .i64 v)
  subst ho
  rw [List.set_append, if_neg (by omega), show pre.length + k - pre.length = k from by omega, List.set_append, if_pos (by simp; omega), ← List.map_set, rowOf_set] at this
  exact this


theorem split_at (p : List Int) (m q : Nat) (h1 : m < q) (h2 : q < p.length) :
    ∃ (u d1 d2 : List Int) (a b : Int), p = u ++ a :: (d1 ++ b :: d2) ∧ u.length = m ∧ d1.length = q - m - 1 ∧ a = nth p m ∧ b = nth p q ∧ ∀ x ∈ d2, ∃ j : Nat, q < j ∧ j < p.length ∧ nth p j = x := by
  refine ⟨p.take m, (p.drop (m + 1)).take (q - m - 1), p.drop (q + 1), nth p m, nth p q, ?_, by simp; omega, by simp; omega, rfl, rfl, fun x hx => ?_⟩
  · have e1 : p = p.take m ++ p.drop m := (List.take_append_drop m p).symm
    have e2 : p.drop m = nth p m :: p.drop (m + 1) := by rw [List.drop_eq_getElem_cons (by omega), nth_nat _ _ (by omega)]
    have e3 : p.drop (m + 1) = (p.drop (m + 1)).take (q - m - 1) ++ (p.drop (m + 1)).drop (q - m - 1) := (List.take_append_drop _ _).symm
    have e4 : (p.drop (m + 1)).drop (q - m - 1) = nth p q :: p.drop (q + 1) := by
      rw [List.drop_drop, show m + 1 + (q - m - 1) = q from by omega, List.drop_eq_getElem_cons h2, nth_nat _ _ h2]
    rw [e4] at e3
    rw [e3] at e2
    rw [e2] at e1
    exact e1
  · obtain ⟨k, hk, rfl⟩ := List.getElem_of_mem hx
    have hk' : q + 1 + k < p.length := by simp at hk; omega
    refine ⟨q + 1 + k, by omega, hk', ?_⟩
    rw [nth_nat _ _ hk', List.getElem_drop]
theorem swap_split {p u d1 d2 : List Int} {a b : Int} {m q : Nat} (hpe : p = u ++ a :: (d1 ++ b :: d2)) (hu : u.length = m) (hd : d1.length = q - m - 1) (h : m < q) :
    ((p.map (Value.int .i64)).set m (.int .i64 b)).set q (.int .i64 a) = (u ++ [b]).map (Value.int .i64) ++ ((d1 ++ a :: d2).map (Value.int .i64) ++ []) := by
  subst hpe hu
  obtain rfl : q = u.length + (d1.length + 1) := by omega
  simp [List.set_append]
theorem drop_split {p u r : List Int} {a : Int} {m : Nat} (hpe : p = u ++ a :: r) (hu : u.length = m) : p.drop (m + 1) = r := by
  subst hpe hu
  rw [List.drop_append, List.drop_of_length_le (by omega), show u.length + 1 - u.length = 1 from by omega]
  rfl

def NextPost (b : Nat) (p : List Int) (w0 : World) (e : Ending) (w' : World) : Prop :=
  (∃ q, IsNext p q ∧ e = .returned (.bool true) ∧ Blk w' b 2 (q.map (Value.int .i64)) ∧ Keep (fun x => x = b) w0 w') ∨ (Desc p ∧ e = .returned (.bool false) ∧ Keep (fun x => x = b) w0 w')
theorem desc_step {p : List Int} {m : Nat} (h : m + 1 < p.length) (hd : Desc (p.drop (m + 1))) (hgt : nth p (m + 1 : Nat) < nth p m) : Desc (p.drop m) := by
  rw [List.drop_eq_getElem_cons (by omega)]
  refine List.pairwise_cons.2 ⟨fun x hx => ?_, hd⟩
  have h0 := hd
  rw [List.drop_eq_getElem_cons h] at hx h0
  rw [nth_nat _ _ h, nth_nat _ _ (by omega)] at hgt
  rcases List.mem_cons.1 hx with e | e
  · subst e; exact hgt
  · have := (List.pairwise_cons.1 h0).1 x e; omega

end Go.Proofs.YtnbhghgkjcfcmaaDoor

namespace Go.Proofs.YtnbhghgkjcfcmaaDoor
set_option linter.unusedVariables false
set_option linter.unusedSimpArgs false
open Go Go.RowKit Go.Shelf
attribute [local go_sem] Oper.semAt_some

end Go.Proofs.YtnbhghgkjcfcmaaDoor

namespace Go.Proofs.YtnbhghgkjcfcmaaDoor
set_option linter.unusedVariables false
set_option linter.unusedSimpArgs false
open Go Go.RowKit Go.Shelf
attribute [local go_sem] Oper.semAt_some


theorem stepIn_append {F : Fence} {n : Nat} {P : Program} {ops : Array Oper} {o : Oper} {a : Act} {K : Act → World → Prop} {Q : Exit → Act → World → Prop} {E : Prop} {W W' : World} {v' : Value} (hgd : o.guard = none) (hF : ∀ f, F.fn f) (s x : Operand) (t : TypeId)
    (ho : o.op = .call { callee := .builtin .append, args := #[s, x], argTypes := #[t, t] }) (hrun : (Builtin.append_ #[t, t] o.type #[a.eval s, a.eval x]).run P W = .ok v' W') (h : K (a.put o.dst v') W') :
    if Region.wanted o (yielded ops a.tmps) = true then Oper.wpIn F n P o a W K Q else E := by
  have hw : Region.wanted o (yielded ops a.tmps) = true := by simp [Region.wanted, hgd]
  rw [if_pos hw]
  refine ⟨fun f _ => hF f, ?_⟩
  rw [Oper.semAt_eq _ _ _ (by rw [ho]; intro c hc; cases hc)]
  unfold execOp
  simp only [ho, resolve, invoke, builtin, Sem.run_bind, Sem.run_pure, Result.andThen_ok, List.map_toArray, List.map_cons, List.map_nil, hrun]
  exact h

/-- 'append(s, u)' of one row: the run. -/
theorem run_app_row2 (B m : Nat) (w : World) (ty : TypeId) (v : Value) (xss : List (List Int)) (u : Value) (xs : List Int) (hown : OwnRowsIn B m w v xss) (hu : Own m w u xs) (hn : xss.length ≤ 1099511627776) (hB : B ≤ m) (hB2 : B ≤ w.heap.size) :
    ∃ g c' w', (Builtin.append_ #[24, 24] ty #[v, .slice (some ⟨w.heap.size, 0, none⟩) 1 1]).run Tryd.prog (w.alloc (.cells #[u] 32)) = .ok (.slice (some ⟨g, 0, none⟩) (xss.length + 1) c') w' ∧ OwnRows B w' (.slice (some ⟨g, 0, none⟩) (xss.length + 1) c') (xss ++ [xs]) ∧ Keep (fun b => v.ownBlock = some b) w w' := by
  obtain ⟨us, h1, h2, _, hlt⟩ := hown
  have h2' := rowvals_snoc h2 hlt hu hB
  have hlen := h2.len
  obtain ⟨ua, uc, hu1, _⟩ := hu.shape
  obtain ⟨i0, hi, hz0, hz1, hz2⟩ := info_parts inf_ints
  obtain ⟨g, cap, w', hr, h3, h4, h5, _⟩ := run_append_lies (P := Tryd.prog) (w.alloc (.cells #[u] 32)) 24 ty B 32 i0 (.slice none 0 0) 1 24 Tryd.underlying24 hi hz0 hz1 hz2 rfl (by decide) v us.length us (h1.alloc _) ⟨w.heap.size, 0, none⟩ 1 1 [u] rfl
    (by
      intro j u' hj
      match j, hj with
      | 0, hj => simp at hj; subst hj; simp [Addr.add])
    (by intro u' hu'; simp at hu'; subst hu'; subst hu1; rfl) (by decide) (by unfold maxLen; omega) (by omega) (by simp; omega) (w.heap.size + 1) (by simp)
  have hk := Keep.of_grown h4
  have hk2 : Keep (fun b => v.ownBlock = some b) w w' := ((Keep.refl _ w).alloc _).trans hk
  rw [hlen] at h3 hr
  exact ⟨g, cap, w', hr, ⟨us ++ [u], by simpa [hlen] using h3, rowvals_keepT h2' h1 hk2⟩, hk2⟩

end Go.Proofs.YtnbhghgkjcfcmaaDoor

namespace Go.Proofs.YtnbhghgkjcfcmaaDoor
set_option linter.unusedVariables false
set_option linter.unusedSimpArgs false
open Go Go.RowKit Go.Shelf
attribute [local go_sem] Oper.semAt_some

abbrev Tabs := List (List Int) × List (List Int)
def stepS (A B : List (List Int)) (X : Tabs) (p : List Int) : Tabs := if lexS (renL A p) (renL B p) X.1 X.2 then (renL A p, renL B p) else X
def bestS (A B : List (List Int)) (X : Tabs) (ps : List (List Int)) : Tabs := ps.foldl (stepS A B) X
theorem bestS_snoc (A B : List (List Int)) (X : Tabs) (ps : List (List Int)) (k : Nat) (h : k < ps.length) : bestS A B X (ps.take (k + 1)) = stepS A B (bestS A B X (ps.take k)) (row ps k) := by
  unfold bestS; rw [take_snoc_row _ _ h, List.foldl_append]; rfl
theorem bestS_len {A B : List (List Int)} (hl : B.length = A.length) : ∀ (X : Tabs) (ps : List (List Int)), X.1.length = A.length → X.2.length = A.length → (bestS A B X ps).1.length = A.length ∧ (bestS A B X ps).2.length = A.length
  | X, [], h1, h2 => ⟨h1, h2⟩
  | X, p :: ps, h1, h2 => by
    unfold bestS; rw [List.foldl_cons]
    refine bestS_len hl _ ps ?_ ?_
    · unfold stepS; split
      · simp
      · exact h1
    · unfold stepS; split
      · simpa using hl
      · exact h2
theorem lexS_pos {X P Y Q : List (List Int)} (h : 0 < cmpR X Y) : lexS X P Y Q = false := by
  unfold lexS
  have h1 : X ≠ Y := fun e => by rw [cmpR_zero.2 e] at h; omega
  rw [if_neg h1]
  cases e : lexR X Y with
  | false => rfl
  | true => have := cmpR_neg.2 e; omega
theorem lexS_neg {X P Y Q : List (List Int)} (h : cmpR X Y < 0) : lexS X P Y Q = true := by
  unfold lexS
  have h1 : X ≠ Y := fun e => by rw [cmpR_zero.2 e] at h; omega
  rw [if_neg h1, cmpR_neg.1 h]
def lsSA (A B : List (List Int)) : List (List Int) := (bestS A B (A, B) (allPerms A.length)).1
def lsSB (A B : List (List Int)) : List (List Int) := (bestS A B (A, B) (allPerms A.length)).2

/-- The best pair so far: made ahead of the loop (below m), or behind hi. -/
def BestP (lo m hi : Nat) (W : World) (va vb : Value) (X Y : List (List Int)) : Prop :=
  ∃ l1 h1 l2 h2, lo ≤ l1 ∧ lo ≤ l2 ∧ (h1 ≤ l2 ∨ h2 ≤ l1) ∧ ((h1 ≤ m ∧ h2 ≤ m) ∨ (hi ≤ l1 ∧ hi ≤ l2)) ∧ h1 ≤ W.heap.size ∧ h2 ≤ W.heap.size ∧ OwnRowsIn l1 h1 W va X ∧ OwnRowsIn l2 h2 W vb Y
theorem BestP.keep {lo m hi : Nat} {S : Nat → Prop} {W W' : World} {va vb : Value} {X Y : List (List Int)} (h : BestP lo m hi W va vb X Y) (k : Keep S W W') (h1 : ∀ b, b < m → ¬ S b) (h2 : ∀ b, hi ≤ b → ¬ S b) : BestP lo m hi W' va vb X Y := by
  obtain ⟨l1, g1, l2, g2, a, b, c, d, e, f, o1, o2⟩ := h
  have hs := k.size
  refine ⟨l1, g1, l2, g2, a, b, c, d, by omega, by omega, o1.keep k ?_, o2.keep k ?_⟩
  · intro x x1 x2
    rcases d with d | d
    · exact h1 x (by omega)
    · exact h2 x (by omega)
  · intro x x1 x2
    rcases d with d | d
    · exact h1 x (by omega)
    · exact h2 x (by omega)
theorem BestP.under {lo m hi : Nat} {W W' : World} {va vb : Value} {X Y : List (List Int)} (h : BestP lo m hi W va vb X Y) (hb : Below W.heap.size W W') : BestP lo m hi W' va vb X Y := by
  obtain ⟨l1, g1, l2, g2, a, b, c, d, e, f, o1, o2⟩ := h
  have hs := hb.size
  exact ⟨l1, g1, l2, g2, a, b, c, d, by omega, by omega, o1.under hb, o2.under hb⟩
theorem BestP.own {lo m hi : Nat} {W : World} {va vb : Value} {X Y : List (List Int)} (h : BestP lo m hi W va vb X Y) : OwnSol lo W.heap.size W va vb X Y := by
  obtain ⟨l1, g1, l2, g2, a, b, c, d, e, f, o1, o2⟩ := h
  exact ⟨l1, g1, l2, g2, a, e, b, f, c, o1, o2⟩

theorem BestP.keepL {lo m hi : Nat} {S : Nat → Prop} {W W' : World} {va vb : Value} {X Y : List (List Int)} (h : BestP lo m hi W va vb X Y) (k : Keep S W W') (h1 : ∀ b, lo ≤ b → b < m → ¬ S b) (h2 : ∀ b, lo ≤ b → hi ≤ b → ¬ S b) : BestP lo m hi W' va vb X Y := by
  obtain ⟨l1, g1, l2, g2, a, b, c, d, e, f, o1, o2⟩ := h
  have hs := k.size
  refine ⟨l1, g1, l2, g2, a, b, c, d, by omega, by omega, o1.keep k ?_, o2.keep k ?_⟩
  · intro x x1 x2
    rcases d with d | d
    · exact h1 x (by omega) (by omega)
    · exact h2 x (by omega) (by omega)
  · intro x x1 x2
    rcases d with d | d
    · exact h1 x (by omega) (by omega)
    · exact h2 x (by omega) (by omega)
theorem BestP.ownL {lo' lo m hi : Nat} {W : World} {va vb : Value} {X Y : List (List Int)} (h : BestP lo m hi W va vb X Y) (hl : lo' ≤ lo) : OwnSol lo' W.heap.size W va vb X Y := by
  obtain ⟨l1, g1, l2, g2, a, b, c, d, e, f, o1, o2⟩ := h
  exact ⟨l1, g1, l2, g2, by omega, e, by omega, f, c, o1, o2⟩
theorem BestP.mk0 {lo q s1 s2 hi : Nat} {w1 w2 V : World} {a b : Value} {A B : List (List Int)} (ho1 : OwnRows s1 w1 a A) (hb : Below w1.heap.size w1 w2) (ho2 : OwnRows s2 w2 b B) (hs1 : lo ≤ s1) (hs2 : w1.heap.size ≤ s2) (hlo : lo ≤ w1.heap.size)
    (hk : Keep (fun k => k = q) w2 V) (hq1 : q < s1 ∨ w1.heap.size ≤ q) (hq2 : q < s2 ∨ w2.heap.size ≤ q) : BestP lo V.heap.size hi V a b A B := by
  have h1 := hb.size; have h2 := hk.size
  exact ⟨s1, w1.heap.size, s2, w2.heap.size, hs1, by omega, .inl hs2, .inl ⟨by omega, h2⟩, by omega, h2, (ho1.inn.under hb).keep hk (fun x _ _ e => by omega), ho2.inn.keep hk (fun x _ _ e => by omega)⟩
theorem fin_up {lo m hi q : Nat} {W w1 w9 w5 wz : World} {a b : Value} {XA XB : List (List Int)} (ho1 : OwnRows W.heap.size w1 a XA) (b0 : W.heap.size ≤ w1.heap.size) (b1 : Below w1.heap.size w1 w9) (ho2 : OwnRows w9.heap.size w5 b XB) (b95 : Below w9.heap.size w9 w5) (b2 : Below w5.heap.size w5 wz)
    (hW : hi ≤ W.heap.size) (hlo : lo ≤ W.heap.size) (hq : q < W.heap.size) : BestP lo m hi ((wz.setCell ⟨q, 0, none⟩ a).setCell ⟨q, 1, none⟩ b) a b XA XB := by
  have s1 := b1.size; have s2 := b95.size; have s3 := b2.size
  have hz : ((wz.setCell ⟨q, 0, none⟩ a).setCell ⟨q, 1, none⟩ b).heap.size = wz.heap.size := by simp [World.setCell]
  exact ⟨W.heap.size, w1.heap.size, w9.heap.size, w5.heap.size, hlo, by omega, .inl s1, .inr ⟨hW, by omega⟩, by omega, by omega, (((ho1.inn.under b1).under b95).under b2).keep (keep_early _ _ _ _) (fun x _ _ e => by omega), (ho2.inn.under b2).keep (keep_early _ _ _ _) (fun x _ _ e => by omega)⟩

end Go.Proofs.YtnbhghgkjcfcmaaDoor

namespace Go.Proofs.YtnbhghgkjcfcmaaDoor
set_option linter.unusedVariables false
set_option linter.unusedSimpArgs false
open Go Go.RowKit

theorem cs_same {w : World} {a : Addr} {v u : Value} (h : w.cell? a = some u) : (w.setCell a v).cell? a = some v := by
  first | exact World.cell?_setCell_same _ _ _ h | exact World.cell?_setCell_same _ _ h | exact World.cell?_setCell_same _ h
theorem cs_other {w : World} {a b : Addr} {v : Value} (h : a ≠ b) : (w.setCell a v).cell? b = w.cell? b := by
  first | exact World.cell?_setCell_other _ _ _ _ h | exact World.cell?_setCell_other _ _ _ h | exact World.cell?_setCell_other _ _ h
theorem fz_set {w : World} {a b : Addr} {v : Value} : (w.setCell a v).frozen? b = w.frozen? b := by simp
theorem fz_block {w w' : World} {b i : Nat} (e : w'.heap[b]? = w.heap[b]?) : w'.frozen? ⟨b, i, none⟩ = w.frozen? ⟨b, i, none⟩ := World.frozen?_of_block (w := w) (a := ⟨b, i, none⟩) e
/-- Integers that can be read and written, in a block from lo on. -/
def IntsW (lo : Nat) (w : World) (v : Value) (xs : List Int) : Prop :=
  ∃ (a : Option Addr) (c : Nat), v = .slice a xs.length c ∧ xs.length ≤ c ∧ c ≤ maxLen ∧ ∀ i (h : i < xs.length), ∃ b, a = some ⟨b, 0, none⟩ ∧ lo ≤ b ∧ w.cell? ⟨b, i, none⟩ = some (.int .i64 xs[i]) ∧ w.frozen? ⟨b, i, none⟩ = false
/-- A table that can be read and written, in blocks from lo on. -/
def RowsW (lo : Nat) (w : World) (v : Value) (X : List (List Int)) : Prop :=
  ∃ (a : Option Addr) (c : Nat), v = .slice a X.length c ∧ X.length ≤ c ∧ c ≤ maxLen ∧ ∀ i (h : i < X.length), ∃ b u, a = some ⟨b, 0, none⟩ ∧ lo ≤ b ∧ w.cell? ⟨b, i, none⟩ = some u ∧ w.frozen? ⟨b, i, none⟩ = false ∧ IntsW lo w u X[i]

theorem IntsW.ints {lo : Nat} {w : World} {v : Value} {xs : List Int} (h : IntsW lo w v xs) : Ints w v xs := by
  obtain ⟨a, c, hv, h1, h2, hc⟩ := h
  refine ⟨a, c, hv, h1, h2, fun i hi => ?_⟩
  obtain ⟨b, ha, _, hcell, _⟩ := hc i hi
  exact ⟨b, 0, ha, by rw [Nat.zero_add]; exact hcell⟩
theorem RowsW.rows {lo : Nat} {w : World} {v : Value} {X : List (List Int)} (h : RowsW lo w v X) : Rows w v X := by
  obtain ⟨a, c, hv, h1, h2, hc⟩ := h
  refine ⟨a, c, hv, h1, h2, fun i hi => ?_⟩
  obtain ⟨b, u, ha, _, hcell, _, hu⟩ := hc i hi
  exact ⟨b, 0, u, ha, by rw [Nat.zero_add]; exact hcell, hu.ints⟩
theorem IntsW.at' {lo : Nat} {w : World} {v : Value} {xs : List Int} (h : IntsW lo w v xs) (hx : 0 < xs.length) : IntsAt lo w v xs := by
  refine ⟨h.ints, fun b o hv => ?_⟩
  obtain ⟨n, c, rfl⟩ := hv
  obtain ⟨a, c, hv, h1, h2, hc⟩ := h
  obtain ⟨b', ha, hlo, _⟩ := hc 0 hx
  subst ha
  injection hv with e1; injection e1 with e1; injection e1 with e1; subst e1; exact hlo
theorem IntsW.keep {lo : Nat} {S : Nat → Prop} {w w' : World} {v : Value} {xs : List Int} (h : IntsW lo w v xs) (k : Keep S w w') (hS : ∀ b, lo ≤ b → b < w.heap.size → ¬ S b) : IntsW lo w' v xs := by
  obtain ⟨a, c, hv, h1, h2, hc⟩ := h
  refine ⟨a, c, hv, h1, h2, fun i hi => ?_⟩
  obtain ⟨b, ha, hlo, hcell, hf⟩ := hc i hi
  have e := k.block b (cell_lt hcell) (hS b hlo (cell_lt hcell))
  exact ⟨b, ha, hlo, cell_of_block e hcell, (fz_block e).trans hf⟩
theorem RowsW.keepB {lo : Nat} {S : Nat → Prop} {w w' : World} {v : Value} {X : List (List Int)} (h : RowsW lo w v X) (k : Keep S w w') (hS : ∀ b, lo ≤ b → b < w.heap.size → ¬ S b) : RowsW lo w' v X := by
  obtain ⟨a, c, hv, h1, h2, hc⟩ := h
  refine ⟨a, c, hv, h1, h2, fun i hi => ?_⟩
  obtain ⟨b, u, ha, hlo, hcell, hf, hu⟩ := hc i hi
  have e := k.block b (cell_lt hcell) (hS b hlo (cell_lt hcell))
  exact ⟨b, u, ha, hlo, cell_of_block e hcell, (fz_block e).trans hf, hu.keep k hS⟩
theorem RowsW.keep {lo : Nat} {S : Nat → Prop} {w w' : World} {v : Value} {X : List (List Int)} (h : RowsW lo w v X) (k : Keep S w w') (hS : ∀ b, lo ≤ b → ¬ S b) : RowsW lo w' v X := h.keepB k fun b hb _ => hS b hb
theorem RowsW.under {lo : Nat} {w w' : World} {v : Value} {X : List (List Int)} (h : RowsW lo w v X) (hb : Below w.heap.size w w') : RowsW lo w' v X :=
  h.keepB (S := fun b => w.heap.size ≤ b) (Keep.of_below hb) fun b _ h1 h2 => by have h2 : w.heap.size ≤ b := h2; omega
theorem IntsW.under {lo : Nat} {w w' : World} {v : Value} {xs : List Int} (h : IntsW lo w v xs) (hb : Below w.heap.size w w') : IntsW lo w' v xs :=
  h.keep (S := fun b => w.heap.size ≤ b) (Keep.of_below hb) fun b _ h1 h2 => by have h2 : w.heap.size ≤ b := h2; omega
theorem IntsW.mono {lo lo' : Nat} {w : World} {v : Value} {xs : List Int} (h : IntsW lo w v xs) (hl : lo' ≤ lo) : IntsW lo' w v xs := by
  obtain ⟨a, c, hv, h1, h2, hc⟩ := h
  exact ⟨a, c, hv, h1, h2, fun i hi => by obtain ⟨b, ha, hlo, r⟩ := hc i hi; exact ⟨b, ha, Nat.le_trans hl hlo, r⟩⟩
theorem RowsW.mono {lo lo' : Nat} {w : World} {v : Value} {X : List (List Int)} (h : RowsW lo w v X) (hl : lo' ≤ lo) : RowsW lo' w v X := by
  obtain ⟨a, c, hv, h1, h2, hc⟩ := h
  exact ⟨a, c, hv, h1, h2, fun i hi => by obtain ⟨b, u, ha, hlo, hcell, hf, hu⟩ := hc i hi; exact ⟨b, u, ha, Nat.le_trans hl hlo, hcell, hf, hu.mono hl⟩⟩
theorem Own.wr {lo : Nat} {w : World} {v : Value} {xs : List Int} (h : Own lo w v xs) : IntsW lo w v xs := by
  rcases h.open with ⟨rfl, rfl⟩ | ⟨g, cs, hv, hb, hblk, hm⟩
  · exact ⟨none, 0, rfl, Nat.le_refl _, by decide, fun i hi => absurd hi (Nat.not_lt_zero _)⟩
  · refine ⟨_, _, hv, by omega, hm, fun i hi => ⟨g, rfl, hb, ?_, hblk.frozen i⟩⟩
    have := hblk.cell (i := i) (by simp; omega)
    rw [this, List.getElem_append_left (by simpa using hi), List.getElem_map]
theorem OwnRows.wr {lo : Nat} {w : World} {v : Value} {X : List (List Int)} (h : OwnRows lo w v X) : RowsW lo w v X := by
  obtain ⟨us, h1, h2⟩ := h
  obtain ⟨a, c, hv, hc, hm, hcell⟩ := ownsRow_cells h1
  have h1' := h1
  obtain ⟨hl, hn | ⟨g, cap, cur, hv', hb, hg, hr⟩⟩ := h1'
  · have : X = [] := List.eq_nil_of_length_eq_zero (by rw [← h2.len]; exact hn.2)
    subst this
    exact ⟨none, 0, hn.1, Nat.le_refl _, by decide, fun i hi => absurd hi (Nat.not_lt_zero _)⟩
  · have hblk : Blk w g 32 cur.toList := by unfold Blk; simpa using hg
    rw [h2.len] at hv hc
    refine ⟨a, c, hv, hc, hm, fun i hi => ?_⟩
    have hi' : i < us.length := by rw [h2.len]; exact hi
    obtain ⟨g', ha, hgc⟩ := hcell i hi'
    rw [hv'] at hv
    injection hv with e1
    rw [ha] at e1
    injection e1 with e1
    injection e1 with e1
    subst e1
    exact ⟨g, us[i], ha, hb, hgc, hblk.frozen i, (h2.own i hi' hi).wr⟩
theorem drew_w {b lo : Nat} {w1 w2 : World} {v : Value} {X : List (List Int)} (h : Drew b w1 w2) (hr : RowsW lo w1 v X) (hb : b < lo) : RowsW lo w2 v X := hr.keep h.2 (fun x hx e => by have e : x = b := e; omega)

/-- A cell that holds an integer, after a store of an integer. -/
theorem int_after {w : World} {p q : Addr} {z x : Int} (hq : w.cell? q = some (.int .i64 x)) : ∃ y, (w.setCell p (.int .i64 z)).cell? q = some (.int .i64 y) := by
  by_cases e : p = q
  · subst e; exact ⟨z, cs_same hq⟩
  · exact ⟨x, (cs_other e).trans hq⟩
theorem slice_after {w : World} {p q : Addr} {z : Int} {y0 : Int} {a : Option Addr} {n c : Nat} (hp : w.cell? p = some (.int .i64 y0)) (hq : w.cell? q = some (.slice a n c)) : (w.setCell p (.int .i64 z)).cell? q = some (.slice a n c) := by
  have e : p ≠ q := by intro e; subst e; rw [hp] at hq; cases hq
  exact (cs_other e).trans hq
theorem int_stays {w : World} {p q : Addr} {u : Value} {x : Int} {a : Option Addr} {n c : Nat} (hp : w.cell? p = some (.slice a n c)) (hq : w.cell? q = some (.int .i64 x)) : (w.setCell p u).cell? q = some (.int .i64 x) := by
  have e : p ≠ q := by intro e; subst e; rw [hp] at hq; cases hq
  exact (cs_other e).trans hq

/-- A store of an integer into a cell that holds one. -/
theorem IntsW.putI {lo : Nat} {w : World} {v : Value} {xs : List Int} (h : IntsW lo w v xs) {p : Addr} {y0 : Int} (_hp : w.cell? p = some (.int .i64 y0)) (z : Int) : ∃ ys, ys.length = xs.length ∧ IntsW lo (w.setCell p (.int .i64 z)) v ys := by
  obtain ⟨a, c, hv, h1, h2, hc⟩ := h
  have key : ∀ i : Fin xs.length, ∃ y : Int, ∃ b, a = some ⟨b, 0, none⟩ ∧ lo ≤ b ∧ (w.setCell p (.int .i64 z)).cell? ⟨b, i, none⟩ = some (.int .i64 y) ∧ (w.setCell p (.int .i64 z)).frozen? ⟨b, i, none⟩ = false := by
    intro i
    obtain ⟨b, ha, hlo, hcell, hf⟩ := hc i i.2
    obtain ⟨y, hy⟩ := int_after (p := p) (z := z) hcell
    exact ⟨y, b, ha, hlo, hy, fz_set.trans hf⟩
  refine ⟨List.ofFn fun i => Classical.choose (key i), by simp, a, c, by simp [hv], by simpa using h1, h2, fun i hi => ?_⟩
  have hi' : i < xs.length := by simpa using hi
  have := Classical.choose_spec (key ⟨i, hi'⟩)
  simpa using this
theorem IntsW.putS {lo : Nat} {w : World} {v : Value} {xs : List Int} (h : IntsW lo w v xs) {p : Addr} {a0 : Option Addr} {n0 c0 : Nat} (hp : w.cell? p = some (.slice a0 n0 c0)) (u : Value) : IntsW lo (w.setCell p u) v xs := by
  obtain ⟨a, c, hv, h1, h2, hc⟩ := h
  refine ⟨a, c, hv, h1, h2, fun i hi => ?_⟩
  obtain ⟨b, ha, hlo, hcell, hf⟩ := hc i hi
  exact ⟨b, ha, hlo, int_stays hp hcell, fz_set.trans hf⟩
theorem IntsW.isSlice {lo : Nat} {w : World} {v : Value} {xs : List Int} (h : IntsW lo w v xs) : ∃ a c, v = .slice a xs.length c := by
  obtain ⟨a, c, hv, _⟩ := h
  exact ⟨a, c, hv⟩
/-- All rows of a list are of length at most m. -/
def Wide (m : Nat) (X : List (List Int)) : Prop := ∀ r ∈ X, r.length ≤ m
theorem RowsW.of {lo n m : Nat} {w : World} {a : Option Addr} {c : Nat} (h1 : n ≤ c) (h2 : c ≤ maxLen) (key : ∀ i : Fin n, ∃ r : List Int, r.length ≤ m ∧ ∃ b u, a = some ⟨b, 0, none⟩ ∧ lo ≤ b ∧ w.cell? ⟨b, i, none⟩ = some u ∧ w.frozen? ⟨b, i, none⟩ = false ∧ IntsW lo w u r) :
    ∃ X : List (List Int), X.length = n ∧ Wide m X ∧ RowsW lo w (.slice a n c) X := by
  refine ⟨List.ofFn fun i => Classical.choose (key i), by simp, fun r hr => ?_, a, c, by simp, by simpa using h1, h2, fun i hi => ?_⟩
  · rw [List.mem_ofFn] at hr
    obtain ⟨i, rfl⟩ := hr
    exact (Classical.choose_spec (key i)).1
  · have hi' : i < n := by simpa using hi
    have := (Classical.choose_spec (key ⟨i, hi'⟩)).2
    simpa using this
theorem RowsW.putI {lo m : Nat} {w : World} {a : Option Addr} {n c : Nat} {X : List (List Int)} (h : RowsW lo w (.slice a n c) X) (hm : Wide m X) {p : Addr} {y0 : Int} (hp : w.cell? p = some (.int .i64 y0)) (z : Int) :
    ∃ Y, Y.length = X.length ∧ Wide m Y ∧ RowsW lo (w.setCell p (.int .i64 z)) (.slice a n c) Y := by
  obtain ⟨a', c', hv, h1, h2, hc⟩ := h
  injection hv with e1 e2 e3
  subst e1 e2 e3
  refine RowsW.of h1 h2 fun i => ?_
  obtain ⟨b, u, ha, hlo, hcell, hf, hu⟩ := hc i i.2
  obtain ⟨ua, uc, rfl⟩ := hu.isSlice
  obtain ⟨ys, hl, hy⟩ := hu.putI hp z
  exact ⟨ys, by rw [hl]; exact hm _ (List.getElem_mem _), b, _, ha, hlo, slice_after hp hcell, fz_set.trans hf, hy⟩
theorem RowsW.putS {lo m : Nat} {w : World} {a : Option Addr} {n c : Nat} {X : List (List Int)} (h : RowsW lo w (.slice a n c) X) (hm : Wide m X) {p : Addr} {a0 : Option Addr} {n0 c0 : Nat} (hp : w.cell? p = some (.slice a0 n0 c0)) {u' : Value} {ys : List Int} (hu' : IntsW lo w u' ys) (hy : ys.length ≤ m) :
    ∃ Y, Y.length = X.length ∧ Wide m Y ∧ RowsW lo (w.setCell p u') (.slice a n c) Y := by
  obtain ⟨a', c', hv, h1, h2, hc⟩ := h
  injection hv with e1 e2 e3
  subst e1 e2 e3
  refine RowsW.of h1 h2 fun i => ?_
  obtain ⟨b, u, ha, hlo, hcell, hf, hu⟩ := hc i i.2
  by_cases e : p = ⟨b, i, none⟩
  · subst e
    exact ⟨ys, hy, b, u', ha, hlo, cs_same hcell, fz_set.trans hf, hu'.putS hp u'⟩
  · exact ⟨_, hm _ (List.getElem_mem i.2), b, u, ha, hlo, (cs_other e).trans hcell, fz_set.trans hf, hu.putS hp u'⟩
/-- The cell of row k, written out. -/
theorem RowsW.at {lo : Nat} {w : World} {a : Option Addr} {n c : Nat} {X : List (List Int)} (h : RowsW lo w (.slice a n c) X) (k : Nat) (hk : k < X.length) :
    ∃ b a' c', a = some ⟨b, 0, none⟩ ∧ lo ≤ b ∧ w.cell? ⟨b, k, none⟩ = some (.slice a' (row X k).length c') ∧ w.frozen? ⟨b, k, none⟩ = false ∧ IntsW lo w (.slice a' (row X k).length c') (row X k) := by
  obtain ⟨a', c', hv, h1, h2, hc⟩ := h
  injection hv with e1 e2 e3
  subst e1 e2 e3
  obtain ⟨b, u, ha, hlo, hcell, hf, hu⟩ := hc k hk
  obtain ⟨ua, uc, rfl⟩ := hu.isSlice
  rw [row_nat X k hk]
  exact ⟨b, ua, uc, ha, hlo, hcell, hf, hu⟩
theorem IntsW.at0 {lo : Nat} {w : World} {a : Option Addr} {n c : Nat} {xs : List Int} (h : IntsW lo w (.slice a n c) xs) (k : Nat) (hk : k < xs.length) :
    ∃ b, a = some ⟨b, 0, none⟩ ∧ lo ≤ b ∧ w.cell? ⟨b, k, none⟩ = some (.int .i64 (nth xs k)) ∧ w.frozen? ⟨b, k, none⟩ = false := by
  obtain ⟨a', c', hv, h1, h2, hc⟩ := h
  injection hv with e1 e2 e3
  subst e1 e2 e3
  rw [nth_nat _ _ hk]
  exact hc k hk
end Go.Proofs.YtnbhghgkjcfcmaaDoor

namespace Go.Proofs.YtnbhghgkjcfcmaaDoor
set_option linter.unusedVariables false
set_option linter.unusedSimpArgs false
open Go Go.RowKit

theorem swap_perm2 {xs : List Int} (h : Permuted xs) {k u : Nat} (hk : k < xs.length) (hu : u < xs.length) : Permuted ((xs.set k (nth xs u)).set u (nth xs k)) := by
  have key : ∀ y : Int, 0 ≤ y → nth ((xs.set k (nth xs u)).set u (nth xs k)) y = if y = u then nth xs k else if y = k then nth xs u else nth xs y := by
    intro y y0
    have h1 := nth_set (xs.set k (nth xs u)) (u : Int) y (nth xs k) (by omega) (by rw [List.length_set]; omega) y0
    rw [Int.toNat_natCast] at h1
    rw [h1]
    have h2 := nth_set xs (k : Int) y (nth xs u) (by omega) (by omega) y0
    rw [Int.toNat_natCast] at h2
    rw [h2]
  rw [permuted_iff]
  intro x x0 x1
  simp only [List.length_set] at x1
  obtain ⟨y, y0, y1, e⟩ := ex_pre h x0 x1
  have hm : ∀ y : Int, 0 ≤ y → y < xs.length → nth ((xs.set k (nth xs u)).set u (nth xs k)) y ∈ (xs.set k (nth xs u)).set u (nth xs k) := fun y a b => nth_mem a (by rw [List.length_set, List.length_set]; exact b)
  subst e
  by_cases e1 : y = u
  · subst e1
    have h3 := hm k (by omega) (by omega)
    rw [key k (by omega)] at h3
    by_cases e2 : (k : Int) = u
    · obtain rfl : k = u := by omega
      rw [if_pos rfl] at h3; exact h3
    · rw [if_neg e2, if_pos rfl] at h3; exact h3
  · by_cases e2 : y = k
    · subst e2
      have h3 := hm u (by omega) (by omega)
      rw [key u (by omega), if_pos rfl] at h3
      exact h3
    · have h3 := hm y y0 y1
      rw [key y y0, if_neg e1, if_neg e2] at h3
      exact h3

set_option maxRecDepth 100000 in
set_option maxHeartbeats 1600000 in
theorem c_l01DrawP (b n : Nat) (w : World) (hs : Src w b) (h1 : 1 ≤ n) (h2 : n ≤ 1000) :
    Calls Tryd.prog 38 #[.pointer (some ⟨b, 0, none⟩), .int .i64 n] w (fun e w' => ∃ (r : Value) (xs : List Int), e = .returned r ∧ xs.length = n ∧ Permuted xs ∧ Own w.heap.size w' r xs ∧ Drew b w w') := by
  have HS := Lib.hid hs; have hbl := hs.lt; clear hs
  go_enter Tryd.func38, Tryd.ntmps38
  go_wp2_with fail
  refine (c_l01Unit n _ (by omega)).mono ?_; rintro e w1 ⟨r, rfl, ho, hb1⟩
  rcases ho.open with ⟨_, h0⟩ | ⟨g, cs, hv, hg, hblk, hmx⟩
  · have := congrArg List.length h0; simp at this; omega
  rw [iota_length] at hv hmx
  subst hv
  have HB0 := Lib.hid hblk; have HD0 := Lib.hid ((Drew.refl HS.out).under hb1)
  have HMX := Lib.hid hmx
  clear ho hblk hmx hb1
  go_wp2
  go_loopw [6, 7, 8] (fun i _ _ wr => ∃ (k : Nat) (xs : List Int), k < n ∧ i = .int .i64 k ∧ Hid (xs.length = n ∧ Permuted xs) ∧ Hid (Blk wr g 2 (xs.map (Value.int .i64) ++ cs)) ∧ Hid (Drew b w wr)) (fun i _ _ _ => (intOf i).toNat)
  case atStart => exact ⟨n - 1, iota n, by omega, by go_num, Lib.hid ⟨by simp, permuted_iota n⟩, HB0, HD0⟩
  case round =>
    clear HB0 HD0
    obtain ⟨k, xs, hk, rfl, HL, HB, HD⟩ := hrel
    obtain ⟨wo, rfl⟩ : ∃ wo : World, wo = wr := ⟨_, rfl⟩
    by_cases hk0 : 0 < k
    · go_wp2_with fail
      refine (c_l01Next b ((k : Int) + 1) _ HD.out.1 (by omega) (by omega)).mono ?_; rintro e w2 ⟨r, rfl, r0, r1, hd⟩
      obtain ⟨u, rfl⟩ : ∃ u : Nat, r = u := ⟨r.toNat, by omega⟩
      have hun : u < n := by omega
      have hB2 := hd.blk HB.out (by omega)
      have HD2 := Lib.hid (HD.out.trans hd)
      have hl := HL.out.1
      have l1 := hB2.labN k (by omega)
      have l2 := hB2.labN u (by omega)
      have f1 := hB2.frozen k
      have f2 := hB2.frozen u
      have s1 := hB2.labSet (k : Int) (by omega) (by omega) (nth xs (u : Int))
      rw [Int.toNat_natCast] at s1
      have s2 := s1.labSet (u : Int) (by omega) (by rw [List.length_set]; omega) (nth xs (k : Int))
      rw [Int.toNat_natCast] at s2
      have hg2 := s1.frozen u
      obtain ⟨z, hz⟩ : ∃ z, (w2.setCell ⟨g, k, none⟩ (.int .i64 (nth xs (u : Int)))).cell? ⟨g, u, none⟩ = some z := ⟨_, s1.labN u (by rw [List.length_set]; omega)⟩
      have HS2 := Lib.hid s2
      have hgb : b < g := by omega
      clear s1 s2 hd hl
      go_wp2
      go_roundw
      case rel =>
        refine ⟨k - 1, _, by omega, by go_num, Lib.hid ?_, HS2, Lib.hid ?_⟩
        · exact ⟨by simpa using HL.out.1, swap_perm2 HL.out.2 (by rw [HL.out.1]; exact hk) (by rw [HL.out.1]; exact hun)⟩
        · have kk := (HD2.out.2.setCell (p := ⟨g, k, none⟩) (.inr ?_) (.int .i64 (nth xs (u : Int)))).setCell (p := ⟨g, u, none⟩) (.inr ?_) (.int .i64 (nth xs (k : Int)))
          · refine ⟨?_, kk⟩
            exact HD2.out.1.keep (S := fun x => x = g) (((Keep.refl (fun x => x = g) w2).setCell (p := ⟨g, k, none⟩) (.inl rfl) _).setCell (p := ⟨g, u, none⟩) (.inl rfl) _) (fun p hp e => by have e : p = g := e; omega)
          · show w.heap.size ≤ g; omega
          · show w.heap.size ≤ g; omega
      case measure => simp [intOf]; omega
    · obtain rfl : k = 0 := by omega
      go_wp2
      go_ret
      exact ⟨_, xs, rfl, HL.out.1, HL.out.2, Own.shut HB.out (by omega) (by rw [HL.out.1]; exact HMX.out) HL.out.1.symm (by rw [HL.out.1]), HD.out⟩


/-- A pair of tables that can be read, all of it from lo on. -/
def SolAt (lo : Nat) (w : World) (v1 v2 : Value) (A B : List (List Int)) : Prop := RowsW lo w v1 A ∧ RowsW lo w v2 B
theorem SolAt.sol {lo : Nat} {w : World} {v1 v2 : Value} {A B : List (List Int)} (h : SolAt lo w v1 v2 A B) : Sol w v1 v2 A B := ⟨h.1.rows, h.2.rows⟩
theorem SolAt.drew {b lo : Nat} {w1 w2 : World} {v1 v2 : Value} {A B : List (List Int)} (h : SolAt lo w1 v1 v2 A B) (hd : Drew b w1 w2) (hb : b < lo) : SolAt lo w2 v1 v2 A B := ⟨drew_w hd h.1 hb, drew_w hd h.2 hb⟩
theorem rsolR_at {w w' : World} {A B : List (List Int)} {e : Ending} (h : RSolR w A B e w') : ∃ r1 r2, e = .returned (.agg #[r1, r2]) ∧ SolAt w.heap.size w' r1 r2 A B ∧ Below w.heap.size w w' := by
  obtain ⟨r1, r2, he, ⟨h1, h2⟩, hb⟩ := h
  exact ⟨r1, r2, he, ⟨h1.wr, h2.wr⟩, hb⟩
theorem RowsAt.mono {lo lo' : Nat} {w : World} {v : Value} {X : List (List Int)} (h : RowsAt lo w v X) (hl : lo' ≤ lo) : RowsAt lo' w v X := by
  obtain ⟨a, c, hv, h1, h2, hc⟩ := h
  exact ⟨a, c, hv, h1, h2, fun i hi => by obtain ⟨b, o, u, ha, hlo, hcell, hu⟩ := hc i hi; exact ⟨b, o, u, ha, by omega, hcell, hu.1, fun b o e => Nat.le_trans hl (hu.2 b o e)⟩⟩
theorem SolAt.mono {lo lo' : Nat} {w : World} {v1 v2 : Value} {A B : List (List Int)} (h : SolAt lo w v1 v2 A B) (hl : lo' ≤ lo) : SolAt lo' w v1 v2 A B := ⟨h.1.mono hl, h.2.mono hl⟩

set_option maxRecDepth 100000 in
set_option maxHeartbeats 1600000 in
theorem c_l02Twisted (b n : Nat) (w : World) (hs : Src w b) (h1 : 1 ≤ n) (h2 : n ≤ 12) :
    Calls Tryd.prog 79 #[.pointer (some ⟨b, 0, none⟩), .int .i64 n] w (fun e w' => ∃ (r1 r2 : Value) (A B : List (List Int)), e = .returned (.agg #[r1, r2]) ∧ SolAt w.heap.size w' r1 r2 A B ∧ isPM A B = true ∧ A.length = n ∧ Drew b w w') := by
  have HS := Lib.hid hs; have hbl := hs.lt; clear hs
  have HF0 : Hid (Blk (w.alloc (.cells #[.slice none 0 0, .slice none 0 0] 38)) w.heap.size 38 [.slice none 0 0, .slice none 0 0]) := Lib.hid (Blk.new w [.slice none 0 0, .slice none 0 0] 38)
  have HB0 : Hid (Below w.heap.size w (w.alloc (.cells #[.slice none 0 0, .slice none 0 0] 38))) := Lib.hid ((Below.refl _ _).alloc (Nat.le_refl _) _)
  go_enter Tryd.func79, Tryd.ntmps79
  have HS0 := Lib.hid (HS.out.under HB0.out)
  have HD0 := Lib.hid ((Drew.refl HS.out).under HB0.out)
  go_wp2_with fail
  refine (c_l01DrawP b n _ HS0.out h1 (by omega)).mono ?_; rintro e w1 ⟨r, p, rfl, hpl, hpp, hop, hd1⟩
  have HF1 := Lib.hid (hd1.blk HF0.out (by omega)); have HD1 := Lib.hid (HD0.out.trans hd1)
  have HP := Lib.hid (hop.mono (show w.heap.size ≤ _ by simp)); have HPP := Lib.hid (And.intro hpl hpp)
  clear hop hd1 hpl hpp
  go_wp2_with fail
  refine (c_l01Unit n _ (by omega)).mono ?_; rintro e w2 ⟨ru, rfl, hou, hb2⟩
  have HF2 := Lib.hid (HF1.out.under hb2); have HD2 := Lib.hid (HD1.out.under hb2); have HP2 := Lib.hid (HP.out.under hb2)
  have HQ2 := Lib.hid (hou.mono HD1.out.2.size)
  clear hou hb2
  go_wp2_with fail
  refine (c_l01Next b 4 _ HD2.out.1 (by omega) (by omega)).mono ?_; rintro e w3 ⟨t, rfl, t0, t1, hd3⟩
  obtain ⟨k0, rfl⟩ : ∃ k0 : Nat, t = k0 := ⟨t.toNat, by omega⟩
  have HF3 := Lib.hid (hd3.blk HF2.out (by omega)); have HD3 := Lib.hid (HD2.out.trans hd3)
  have HP3 := Lib.hid (hd3.own HP2.out hbl); have HQ3 := Lib.hid (hd3.own HQ2.out hbl)
  clear hd3
  go_wp2
  go_loopw [6, 7] (fun q k wr => ∃ (s : Nat) (qs : List Int), s ≤ 4 ∧ k = .int .i64 s ∧ Hid (Own w.heap.size wr q qs) ∧ Hid (qs.length = n ∧ Permuted qs) ∧ Hid (Own w.heap.size wr r p) ∧ Hid (Blk wr w.heap.size 38 [.slice none 0 0, .slice none 0 0]) ∧ Hid (Drew b w wr)) (fun _ k _ => (intOf k).toNat)
  case atStart => exact ⟨k0, iota n, by omega, rfl, HQ3, Lib.hid ⟨by simp, permuted_iota n⟩, HP3, HF3, HD3⟩
  case round =>
    clear HQ3 HP3 HF3 HD3
    obtain ⟨s, qs, hs4, rfl, HQ, HR, HP7, HF7, HD7⟩ := hrel
    by_cases hs0 : 0 < s
    · go_wp2_with fail
      refine (c_l01Then _ _ qs p _ HQ.out.ints HP7.out.ints (fun x hx => by have := HR.out.2.2 x hx; have := HR.out.1; have := HPP.out.1; omega) (by rw [HR.out.1]; omega)).mono ?_; rintro e w8 ⟨r8, rfl, ho8, hb8⟩
      have HQ8 := Lib.hid (ho8.mono HD7.out.2.size); have HP8 := Lib.hid (HP7.out.under hb8); have HF8 := Lib.hid (HF7.out.under hb8); have HD8 := Lib.hid (HD7.out.under hb8)
      have HR8 : Hid ((thenL qs p).length = n ∧ Permuted (thenL qs p)) := Lib.hid ⟨by rw [thenL_length]; exact HR.out.1, then_perm HR.out.2 HPP.out.2 (by rw [HPP.out.1, HR.out.1])⟩
      clear ho8 hb8
      go_wp2
      go_roundw
      case rel => exact ⟨s - 1, thenL qs p, by omega, by go_num, HQ8, HR8, HP8, HF8, HD8⟩
      case measure => simp [intOf]; omega
    · obtain rfl : s = 0 := by omega
      go_wp2_with fail
      refine (c_l01Next b 2 _ HD7.out.1 (by omega) (by omega)).mono ?_; rintro e w6 ⟨t, rfl, t0, t1, hd6⟩
      have HF6 := Lib.hid (hd6.blk HF7.out (by omega)); have HD6 := Lib.hid (HD7.out.trans hd6)
      have HP6 := Lib.hid (hd6.own HP7.out hbl); have HQ6 := Lib.hid (hd6.own HQ.out hbl)
      clear hd6
      have hnp : p.length = n := HPP.out.1
      have hnq : qs.length = n := HR.out.1
      have HNP := Lib.hid hnp; have HNQ := Lib.hid hnq
      clear hnp hnq
      by_cases ht : t = 0
      · subst ht
        go_wp2_with fail
        refine (c_l02Twist _ _ p qs _ HP6.out.ints HQ6.out.ints (by rw [HNP.out, HNQ.out]) (by rw [HNP.out]; omega)).mono ?_; rintro e w9 hz
        have PMX : isPM (twA p) (twB p qs) = true := tw_pm HPP.out.2 HR.out.2 (by rw [HNP.out, HNQ.out]) (by rw [HNP.out]; exact h1) (by rw [HNP.out]; exact h2)
        have LENX : (twA p).length = n := by simp [twA]; exact HNP.out
        obtain ⟨r8, r9, he, hsa, hb9⟩ := rsolR_at hz
        subst he
        obtain ⟨sa1, sl1, sc1, hv1⟩ := hsa.sol.1.any
        obtain ⟨sa2, sl2, sc2, hv2⟩ := hsa.sol.2.any
        subst hv1 hv2
        have hf := HF6.out.under hb9
        obtain ⟨z0, z1, z2, z3⟩ := two_cells hf
        have HSA := Lib.hid hsa; have HB9 := Lib.hid hb9
        clear hz hsa hb9 hf
        go_wp2
        have kz : Keep (fun x => x = w.heap.size) w9 ((w9.setCell ⟨w.heap.size, 0, none⟩ (.slice sa1 sl1 sc1)).setCell ⟨w.heap.size, 1, none⟩ (.slice sa2 sl2 sc2)) := keep_early _ _ _ _
        have hlt6 := HF6.out.lt
        refine bodyPost_ret (v := .agg #[.slice sa1 sl1 sc1, .slice sa2 sl2 sc2]) (by simp [results, Tryd.results79, go_sem, z0, z1]) rfl ⟨_, _, _, _, rfl, ⟨(HSA.out.1.keep kz (fun x hx e => by have e : x = w.heap.size := e; omega)).mono (by omega), (HSA.out.2.keep kz (fun x hx e => by have e : x = w.heap.size := e; omega)).mono (by omega)⟩, PMX, LENX, ?_⟩
        exact drew_set (drew_set (HD6.out.under HB9.out) (p := ⟨w.heap.size, 0, none⟩) (Nat.le_refl _) hbl _) (p := ⟨w.heap.size, 1, none⟩) (Nat.le_refl _) hbl _
      · go_wp2_with fail
        refine (c_l02Twist _ _ qs p _ HQ6.out.ints HP6.out.ints (by rw [HNP.out, HNQ.out]) (by rw [HNQ.out]; omega)).mono ?_; rintro e w9 hz
        have PMX : isPM (twA qs) (twB qs p) = true := tw_pm HR.out.2 HPP.out.2 (by rw [HNP.out, HNQ.out]) (by rw [HNQ.out]; exact h1) (by rw [HNQ.out]; exact h2)
        have LENX : (twA qs).length = n := by simp [twA]; exact HNQ.out
        obtain ⟨r8, r9, he, hsa, hb9⟩ := rsolR_at hz
        subst he
        obtain ⟨sa1, sl1, sc1, hv1⟩ := hsa.sol.1.any
        obtain ⟨sa2, sl2, sc2, hv2⟩ := hsa.sol.2.any
        subst hv1 hv2
        have hf := HF6.out.under hb9
        obtain ⟨z0, z1, z2, z3⟩ := two_cells hf
        have HSA := Lib.hid hsa; have HB9 := Lib.hid hb9
        clear hz hsa hb9 hf
        go_wp2
        have kz : Keep (fun x => x = w.heap.size) w9 ((w9.setCell ⟨w.heap.size, 0, none⟩ (.slice sa1 sl1 sc1)).setCell ⟨w.heap.size, 1, none⟩ (.slice sa2 sl2 sc2)) := keep_early _ _ _ _
        have hlt6 := HF6.out.lt
        refine bodyPost_ret (v := .agg #[.slice sa1 sl1 sc1, .slice sa2 sl2 sc2]) (by simp [results, Tryd.results79, go_sem, z0, z1]) rfl ⟨_, _, _, _, rfl, ⟨(HSA.out.1.keep kz (fun x hx e => by have e : x = w.heap.size := e; omega)).mono (by omega), (HSA.out.2.keep kz (fun x hx e => by have e : x = w.heap.size := e; omega)).mono (by omega)⟩, PMX, LENX, ?_⟩
        exact drew_set (drew_set (HD6.out.under HB9.out) (p := ⟨w.heap.size, 0, none⟩) (Nat.le_refl _) hbl _) (p := ⟨w.heap.size, 1, none⟩) (Nat.le_refl _) hbl _
end Go.Proofs.YtnbhghgkjcfcmaaDoor

namespace Go.Proofs.YtnbhghgkjcfcmaaDoor
set_option linter.unusedVariables false
set_option linter.unusedSimpArgs false
open Go Go.RowKit

/-- n numbers below n. -/
def RowOk (n : Nat) (r : List Int) : Prop := r.length = n ∧ ∀ x ∈ r, 0 ≤ x ∧ x < (n : Int)
theorem RowOk.perm {n : Nat} {r : List Int} (h : r.length = n) (hp : Permuted r) : RowOk n r := by
  refine ⟨h, fun x hx => ?_⟩
  have := hp.2 x hx
  rw [h] at this
  exact this
theorem RowOk.set {n : Nat} {r : List Int} (h : RowOk n r) {z : Int} (h0 : 0 ≤ z) (h1 : z < n) {j : Nat} : RowOk n (r.set j z) := by
  refine ⟨by simpa using h.1, fun x hx => ?_⟩
  rcases List.mem_or_eq_of_mem_set hx with h' | h'
  · exact h.2 x h'
  · subst h'; exact ⟨h0, h1⟩
theorem rows_isTab {n : Nat} {X : List (List Int)} (h1 : 1 ≤ n) (h12 : n ≤ 12) (hl : X.length = n) (h : ∀ row ∈ X, RowOk n row) : isTab X = true := by
  have hb : X.any (rowBad X.length) = false := by
    rw [List.any_eq_false]
    intro r hr
    obtain ⟨e1, e2⟩ := h r hr
    have e3 : r.all (fun x => inR x 0 ((X.length : Int) - 1)) = true := by
      refine List.all_eq_true.2 fun x hx => ?_
      have := e2 x hx
      simp [inR]; omega
    simp [rowBad, e1, hl] at *
    first | exact e3 | (intro x hx; have := e2 x hx; simp [inR]; omega)
  have hn : inR (X.length : Int) 1 12 = true := by simp [inR]; omega
  unfold isTab
  rw [hb, hn]; rfl

set_option maxRecDepth 100000 in
set_option maxHeartbeats 4000000 in
theorem c_l01TablesT (b n : Nat) (w : World) (hs : Src w b) (h1 : 1 ≤ n) (h2 : n ≤ 1000) :
    Calls Tryd.prog 32 #[.pointer (some ⟨b, 0, none⟩), .int .i64 n] w (fun e w' => ∃ (r : Value) (X : List (List Int)), e = .returned r ∧ X.length = n ∧ (∀ row ∈ X, RowOk n row) ∧ OwnRows w.heap.size w' r X ∧ Drew b w w') := by
  have hbl := hs.lt
  have hbel : Below w.heap.size w (w.alloc (.cells #[] 32)) := (Below.refl _ _).alloc (Nat.le_refl _) _
  have HD0 := Lib.hid ((Drew.refl hs).under hbel)
  have HO0 := Lib.hid (OwnRows.made0 w (Nat.le_refl w.heap.size))
  clear hs hbel
  go_enter Tryd.func32, Tryd.ntmps32
  go_wp2_with fail
  refine (c_l01Next b 3 _ HD0.out.1 (by omega) (by omega)).mono ?_; rintro e w1 ⟨kd, rfl, k0, k3, hd1⟩
  have HD1 := Lib.hid (HD0.out.trans hd1)
  have HO1 := Lib.hid (HO0.out.keep hd1.2 (fun x h1 h2 e => by have e : x = b := e; omega))
  clear hd1
  go_wp2_with fail
  refine (c_l01DrawP b n _ HD1.out.1 h1 h2).mono ?_; rintro e w2 ⟨rf, fs, rfl, hfl, hfp, hof, hd2⟩
  have HFR := Lib.hid (RowOk.perm hfl hfp)
  clear hfp
  have HD2 := Lib.hid (HD1.out.trans hd2)
  have HO2 := Lib.hid (HO1.out.keep hd2.2 (fun x h1 h2 e => by have e : x = b := e; omega))
  rcases hof.open with ⟨_, h0⟩ | ⟨gf, cf, hv, hgf, hblk, hmx⟩
  · rw [h0] at hfl; simp at hfl; omega
  rw [hfl] at hv hmx
  subst hv
  have HF2 := Lib.hid (And.intro (hof.mono HD1.out.2.size) hfl)
  clear hof hd2 hblk hmx hgf
  go_wp2
  go_loopw [5, 8] (fun t x wr => ∃ (k : Nat) (X : List (List Int)) (ta : Option Addr) (tc : Nat), k ≤ n ∧ x = .int .i64 k ∧ t = .slice ta k tc ∧ Hid (X.length = k ∧ ∀ row ∈ X, RowOk n row) ∧ Hid (OwnRows w.heap.size wr (.slice ta k tc) X) ∧ Hid (Own w.heap.size wr (.slice (some ⟨gf, 0, none⟩) n (n + cf.length)) fs ∧ fs.length = n) ∧ Hid (Drew b w wr)) (fun _ x _ => n - (intOf x).toNat)
  case atStart => exact ⟨0, [], _, _, Nat.zero_le _, rfl, rfl, Lib.hid (by simp), HO2, HF2, HD2⟩
  case round =>
    clear HO2 HF2 HD2 HO1 HD1 HO0 HD0
    obtain ⟨k, X, ta, tc, hk, rfl, rfl, HX, HO, HF, HDr⟩ := hrel
    obtain ⟨wo, rfl⟩ : ∃ wo : World, wo = wr := ⟨_, rfl⟩
    have hwo : w.heap.size ≤ wo.heap.size := HDr.out.2.size
    by_cases hlt : k < n
    · go_wp2_with fail
      refine (c_l01DrawP b n _ HDr.out.1 h1 h2).mono ?_; rintro e w3 ⟨rr, ys0, rfl, hyl, hyp, hor, hd3⟩
      have HYr0 := Lib.hid (RowOk.perm hyl hyp)
      clear hyp
      rcases hor.open with ⟨_, h0⟩ | ⟨g, cs, hv, hgo, hblk, hmx⟩
      · rw [h0] at hyl; simp at hyl; omega
      rw [hyl] at hv hmx
      subst hv
      have HMX := Lib.hid hmx
      have HD2 := Lib.hid (HDr.out.trans hd3); have HB2 := Lib.hid hblk; have HY0 := HYr0
      have HR2 := Lib.hid (HO.out.inn.keep hd3.2 (fun x h1 h2 e => by have e : x = b := e; omega))
      have HF2 := Lib.hid (And.intro (hd3.own HF.out.1 hbl) (And.intro HF.out.2 (HF.out.1.lt (k := gf) rfl).2))
      clear hor hd3 hblk hmx hyl HO HF HDr
      by_cases hk0 : kd = 0
      · subst hk0
        go_wp2
        go_loopw [10] (fun y wi => ∃ (j : Nat) (ys : List Int), j ≤ n ∧ y = .int .i64 j ∧ Hid (RowOk n ys) ∧ Hid (Blk wi g 2 (ys.map (Value.int .i64) ++ cs)) ∧ Hid (OwnRowsIn w.heap.size wo.heap.size wi (.slice ta k tc) X) ∧ Hid (Own w.heap.size wi (.slice (some ⟨gf, 0, none⟩) n (n + cf.length)) fs ∧ fs.length = n ∧ gf < wo.heap.size) ∧ Hid (Drew b w wi)) (fun y _ => n - (intOf y).toNat)
        case atStart => exact ⟨0, ys0, Nat.zero_le _, rfl, HY0, HB2, HR2, HF2, HD2⟩
        case round =>
          clear HY0 HB2 HR2 HF2 HD2
          obtain ⟨j, ys, hj, rfl, HY, HBk, HR, HFs, HD⟩ := hrel
          obtain ⟨wi, rfl⟩ : ∃ wi : World, wi = wr := ⟨_, rfl⟩
          by_cases hlj : j < n
          · go_wp2_with fail
            refine (c_l01Next b n _ HD.out.1 (by omega) (by omega)).mono ?_; rintro e w4 ⟨z, rfl, z0, z1, hd⟩
            have hzr : 0 ≤ z ∧ z < (n : Int) := ⟨z0, z1⟩
            have hB4 := hd.blk HBk.out (by omega)
            have hl := HY.out.1
            have l1 := hB4.labN j (by omega)
            have f1 := hB4.frozen j
            have s1 := hB4.labSet (j : Int) (by omega) (by omega) z
            rw [Int.toNat_natCast] at s1
            have HS := Lib.hid s1
            have HRk := Lib.hid ((HR.out.keep hd.2 (fun x h1 h2 e => by have e : x = b := e; omega)).keep ((Keep.refl (fun x => x = g) w4).setCell (p := ⟨g, j, none⟩) (.inl rfl) (.int .i64 z)) (fun x h1 h2 e => by have e : x = g := e; have := hgo; omega))
            have HFk := Lib.hid (And.intro ((hd.own HFs.out.1 hbl).keep1 (p := ⟨g, j, none⟩) (.int .i64 z) (fun e => by simp [Value.ownBlock] at e; have := HFs.out.2.2; have := hgo; omega)) HFs.out.2)
            have HDk := Lib.hid (drew_set (HD.out.trans hd) (p := ⟨g, j, none⟩) (by show w.heap.size ≤ g; have := hgo; have := hwo; omega) (by show b < g; have := hgo; have := hwo; omega) (.int .i64 z))
            clear hB4 hl s1 hd
            go_wp2
            go_roundw
            case rel => exact ⟨j + 1, _, by omega, by go_num, Lib.hid (HY.out.set hzr.1 hzr.2), HS, HRk, HFk, HDk⟩
            case measure => simp [intOf]; omega
          · have HRI := Lib.hid HR.out
            have HFi := Lib.hid HFs.out
            have HDi := Lib.hid HD.out
            have HYs := Lib.hid HY.out.1
            have HYr := Lib.hid HY.out
            have HOr := Lib.hid (Own.shut HBk.out (Nat.le_refl _) (by rw [HYs.out]; exact HMX.out) HYs.out.symm (by rw [HYs.out]) : Own g wi (.slice (some ⟨g, 0, none⟩) n (n + cs.length)) ys)
            have HSz : Hid (wo.heap.size ≤ wi.heap.size ∧ w.heap.size ≤ wi.heap.size) := Lib.hid ⟨by have := HOr.out.lt (k := g) rfl; have := hgo; omega, by have := HDi.out.2.size; omega⟩
            go_wp2_with (at_builtin; refine wpList_app_row2 w.heap.size wo.heap.size wi _ X _ ys _ _ rfl rfl rfl HRI.out (HOr.out.mono (by have := hgo; omega)) rfl (by have := HX.out.1; omega) (by have := hwo; omega) HSz.out.2 ?_; intro ga gc w9 hown hkeep hor; have HOwn := Lib.hid hown; have HKp := Lib.hid hkeep; clear hown hkeep hor)
            go_roundw
            case rel =>
              have hX := HX.out
              refine ⟨k + 1, X ++ [ys], some ⟨ga, 0, none⟩, gc, by omega, by go_num, by rw [hX.1], Lib.hid ⟨by simp [hX.1], fun r hr => ?_⟩, Lib.hid (by have h := HOwn.out; rw [hX.1] at h; exact h), Lib.hid ⟨HFi.out.1.keepR HRI.out.out HKp.out, HFi.out.2.1⟩, Lib.hid (drew_app HDi.out HRI.out.out HKp.out hbl)⟩
              rcases List.mem_append.1 hr with h | h
              · exact hX.2 r h
              · simp at h; subst h; exact HYr.out
            case measure => simp [intOf]; omega
      · by_cases hk1 : kd = 1
        · subst hk1
          go_wp2
          go_loopw [11] (fun y wi => ∃ (j : Nat) (ys : List Int), j ≤ n ∧ y = .int .i64 j ∧ Hid (RowOk n ys) ∧ Hid (Blk wi g 2 (ys.map (Value.int .i64) ++ cs)) ∧ Hid (OwnRowsIn w.heap.size wo.heap.size wi (.slice ta k tc) X) ∧ Hid (Own w.heap.size wi (.slice (some ⟨gf, 0, none⟩) n (n + cf.length)) fs ∧ fs.length = n ∧ gf < wo.heap.size) ∧ Hid (Drew b w wi)) (fun y _ => n - (intOf y).toNat)
          case atStart => exact ⟨0, ys0, Nat.zero_le _, rfl, HY0, HB2, HR2, HF2, HD2⟩
          case round =>
            clear HY0 HB2 HR2 HF2 HD2
            obtain ⟨j, ys, hj, rfl, HY, HBk, HR, HFs, HD⟩ := hrel
            obtain ⟨wi, rfl⟩ : ∃ wi : World, wi = wr := ⟨_, rfl⟩
            by_cases hlj : j < n
            · have hmod0 := Int.emod_nonneg ((k : Int) + (j : Int)) (show (n : Int) ≠ 0 by omega)
              have hmod1 := Int.emod_lt_of_pos ((k : Int) + (j : Int)) (show (0 : Int) < n by omega)
              obtain ⟨u, hu⟩ : ∃ u : Nat, ((k : Int) + (j : Int)) % (n : Int) = u := ⟨(((k : Int) + (j : Int)) % (n : Int)).toNat, by omega⟩
              have hun : u < n := by omega
              obtain ⟨_, _, e1, hcf⟩ := HFs.out.1.ints.get u (by rw [HFs.out.2.1]; exact hun)
              injection e1 with e1; injection e1 with e1 e2; subst e1 e2
              rw [Nat.zero_add] at hcf
              have hl := HY.out.1
              have l1 := HBk.out.labN j (by omega)
              have f1 := HBk.out.frozen j
              have hzr := HFR.out.2 (nth fs u) (nth_mem (by omega) (by rw [HFR.out.1]; omega))
              obtain ⟨z, hz⟩ : ∃ z, nth fs u = z := ⟨_, rfl⟩
              rw [hz] at hzr
              rw [hz] at hcf
              have s1 := HBk.out.labSet (j : Int) (by omega) (by omega) z
              rw [Int.toNat_natCast] at s1
              have HS := Lib.hid s1
              have HRk := Lib.hid (HR.out.keep ((Keep.refl (fun x => x = g) wi).setCell (p := ⟨g, j, none⟩) (.inl rfl) (.int .i64 z)) (fun x h1 h2 e => by have e : x = g := e; have := hgo; omega))
              have HFk := Lib.hid (And.intro (HFs.out.1.keep1 (p := ⟨g, j, none⟩) (.int .i64 z) (fun e => by simp [Value.ownBlock] at e; have := HFs.out.2.2; have := hgo; omega)) HFs.out.2)
              have HDk := Lib.hid (drew_set HD.out (p := ⟨g, j, none⟩) (by show w.heap.size ≤ g; have := hgo; have := hwo; omega) (by show b < g; have := hgo; have := hwo; omega) (.int .i64 z))
              clear hl s1 hz hmod0 hmod1
              go_wp2
              go_roundw
              case rel => exact ⟨j + 1, _, by omega, by go_num, Lib.hid (HY.out.set hzr.1 hzr.2), HS, HRk, HFk, HDk⟩
              case measure => simp [intOf]; omega
            · have HRI := Lib.hid HR.out
              have HFi := Lib.hid HFs.out
              have HDi := Lib.hid HD.out
              have HYs := Lib.hid HY.out.1
              have HYr := Lib.hid HY.out
              have HOr := Lib.hid (Own.shut HBk.out (Nat.le_refl _) (by rw [HYs.out]; exact HMX.out) HYs.out.symm (by rw [HYs.out]) : Own g wi (.slice (some ⟨g, 0, none⟩) n (n + cs.length)) ys)
              have HSz : Hid (wo.heap.size ≤ wi.heap.size ∧ w.heap.size ≤ wi.heap.size) := Lib.hid ⟨by have := HOr.out.lt (k := g) rfl; have := hgo; omega, by have := HDi.out.2.size; omega⟩
              go_wp2_with (at_builtin; refine wpList_app_row2 w.heap.size wo.heap.size wi _ X _ ys _ _ rfl rfl rfl HRI.out (HOr.out.mono (by have := hgo; omega)) rfl (by have := HX.out.1; omega) (by have := hwo; omega) HSz.out.2 ?_; intro ga gc w9 hown hkeep hor; have HOwn := Lib.hid hown; have HKp := Lib.hid hkeep; clear hown hkeep hor)
              go_roundw
              case rel =>
                have hX := HX.out
                refine ⟨k + 1, X ++ [ys], some ⟨ga, 0, none⟩, gc, by omega, by go_num, by rw [hX.1], Lib.hid ⟨by simp [hX.1], fun r hr => ?_⟩, Lib.hid (by have h := HOwn.out; rw [hX.1] at h; exact h), Lib.hid ⟨HFi.out.1.keepR HRI.out.out HKp.out, HFi.out.2.1⟩, Lib.hid (drew_app HDi.out HRI.out.out HKp.out hbl)⟩
                rcases List.mem_append.1 hr with h | h
                · exact hX.2 r h
                · simp at h; subst h; exact HYr.out
              case measure => simp [intOf]; omega
        · have hz0 : (kd == 0) = false := by simp [hk0]
          have hz1 : (kd == 1) = false := by simp [hk1]
          have HRI := Lib.hid HR2.out
          have HFi := Lib.hid HF2.out
          have HDi := Lib.hid HD2.out
          have HYs := Lib.hid HY0.out.1
          have HYr := Lib.hid HY0.out
          have HOr := Lib.hid (Own.shut HB2.out (Nat.le_refl _) (by rw [HYs.out]; exact HMX.out) HYs.out.symm (by rw [HYs.out]) : Own g w3 (.slice (some ⟨g, 0, none⟩) n (n + cs.length)) ys0)
          have HSz : Hid (wo.heap.size ≤ w3.heap.size ∧ w.heap.size ≤ w3.heap.size) := Lib.hid ⟨by have := HOr.out.lt (k := g) rfl; have := hgo; omega, by have := HDi.out.2.size; omega⟩
          go_wp2_with (at_builtin; refine wpList_app_row2 w.heap.size wo.heap.size w3 _ X _ ys0 _ _ rfl rfl rfl HRI.out (HOr.out.mono (by have := hgo; omega)) rfl (by have := HX.out.1; omega) (by have := hwo; omega) HSz.out.2 ?_; intro ga gc w9 hown hkeep hor; have HOwn := Lib.hid hown; have HKp := Lib.hid hkeep; clear hown hkeep hor)
          go_roundw
          case rel =>
            have hX := HX.out
            refine ⟨k + 1, X ++ [ys0], some ⟨ga, 0, none⟩, gc, by omega, by go_num, by rw [hX.1], Lib.hid ⟨by simp [hX.1], fun r hr => ?_⟩, Lib.hid (by have h := HOwn.out; rw [hX.1] at h; exact h), Lib.hid ⟨HFi.out.1.keepR HRI.out.out HKp.out, HFi.out.2.1⟩, Lib.hid (drew_app HDi.out HRI.out.out HKp.out hbl)⟩
            rcases List.mem_append.1 hr with h | h
            · exact hX.2 r h
            · simp at h; subst h; exact HYr.out
          case measure => simp [intOf]; omega
    · obtain rfl : n = k := by omega
      go_wp2
      go_ret
      exact ⟨_, X, rfl, HX.out.1, HX.out.2, HO.out, HDr.out⟩
end Go.Proofs.YtnbhghgkjcfcmaaDoor

namespace Go.Proofs.YtnbhghgkjcfcmaaDoor
set_option linter.unusedVariables false
set_option linter.unusedSimpArgs false
open Go Go.RowKit

theorem tabText_little {t : List (List Int)} (ht : isTab t = true) : (tabText t).size ≤ 156 := by
  obtain ⟨_, h12⟩ := isTab_len ht
  have := tabText_size (t := t) (n := 12) (fun r hr => by
    obtain ⟨j, hj, rfl⟩ := List.getElem_of_mem hr
    have := isTab_row ht (x := j) (by omega) (by omega)
    rw [row_nat _ _ hj] at this; omega)
  have h3 := Nat.mul_le_mul h12 (show 12 + 1 ≤ 13 by omega)
  omega
theorem round_pot {m i h i1 i2 h2 : Nat} (hn : (i < m → i < i1) ∧ (m ≤ i → m ≤ i1 ∧ (0 : Int) = ((xOf (lcg h) : Nat) : Int) % 3)) (hi : i1 < m → i1 < i2) (hm : m ≤ i1 → m ≤ i2 ∧ ∃ g, (g = 1 ∨ g = 3) ∧ h2 = lcgN g (lcg h)) : pot m i2 h2 + 1 ≤ pot m i h := by
  by_cases h0 : i < m
  · refine pot_code h0 ?_
    have h1 := hn.1 h0
    by_cases h2 : i1 < m
    · have := hi h2; omega
    · have := (hm (by omega)).1; omega
  · obtain ⟨h1, h3⟩ := hn.2 (by omega)
    obtain ⟨h4, g, hg, rfl⟩ := hm h1
    have e : lcgN g (lcg h) = lcgN (1 + g) h := by rw [← lcgN_one, lcgN_shift]
    rw [e]
    refine pot_free (by omega) h4 ?_ (by rcases hg with rfl | rfl; exact .inl rfl; exact .inr rfl)
    unfold T3; omega

set_option maxHeartbeats 1600000 in
theorem c_DrawIsTable (v : Value) (n : Nat) (w : World) (hv : BytesR w v n) (hn : n ≤ 4096) :
    Calls Tryd.prog 25 #[v] w (fun e w' => ∃ (r : Value) (X : List (List Int)), e = .returned r ∧ Rows w' r X ∧ Below w.heap.size w w') := by
  have HV := Lib.hid hv
  obtain ⟨a, c, hva, -⟩ := hv
  subst hva
  go_enter Tryd.func25, Tryd.ntmps25
  go_wp2_with fail
  refine (c_l01From _ n _ HV.out hn).mono ?_; rintro e w1 ⟨b, rfl, hwb, hs, hb1⟩
  have HS := Lib.hid hs; have HB1 := Lib.hid hb1; clear hs hb1
  go_wp2_with fail
  refine (c_l01Size b _ HS.out).mono ?_; rintro e w2 ⟨k, rfl, k1, k12, hd2⟩
  have HD2 := Lib.hid hd2; clear hd2
  go_wp2_with fail
  refine (c_l01Bad b k _ HD2.out.1 k1 (by omega)).mono ?_; rintro e w3 ⟨r, X, rfl, hl, hr, hor, hd3⟩
  have HR := Lib.hid hor.rows; have HB := Lib.hid ((HD2.out.trans hd3).below HB1.out hwb HB1.out.size)
  clear hor hd3 hl hr
  go_wp2
  go_ret
  exact ⟨r, X, rfl, HR.out, HB.out⟩
theorem c_DrawTableText (v : Value) (n : Nat) (w : World) (hv : BytesR w v n) (hn : n ≤ 4096) :
    Calls Tryd.prog 6 #[v] w (fun e w' => ∃ (r : Value) (X : List (List Int)), e = .returned r ∧ Rows w' r X ∧ Below w.heap.size w w') := by
  have HV := Lib.hid hv
  obtain ⟨a, c, hva, -⟩ := hv
  subst hva
  go_enter Tryd.func6, Tryd.ntmps6
  go_wp2_with fail
  refine (c_DrawIsTable _ n _ HV.out hn).mono ?_; rintro e w1 ⟨r, X, rfl, hr, hb⟩
  have HR := Lib.hid hr; have HB := Lib.hid hb; clear hr hb
  go_wp2
  go_ret
  exact ⟨r, X, rfl, HR.out, HB.out⟩
set_option maxRecDepth 100000 in
set_option maxHeartbeats 4000000 in
theorem c_DrawParsePermutation (v : Value) (n : Nat) (w : World) (hv : BytesR w v n) (hn : n ≤ 4096) :
    Calls Tryd.prog 13 #[v] w (fun e w' => ∃ t : ByteArray, e = .returned (.string t) ∧ t.size ≤ 1099511627776 ∧ Below w.heap.size w w') := by
  have HV := Lib.hid hv
  obtain ⟨a, c, hva, -⟩ := hv
  subst hva
  go_enter Tryd.func13, Tryd.ntmps13
  go_wp2_with fail
  refine (c_l01From _ n _ HV.out hn).mono ?_; rintro e w1 ⟨b, rfl, hwb, hs, hb1⟩
  have HS := Lib.hid hs; have HB1 := Lib.hid hb1; clear hs hb1
  go_wp2_with fail
  refine (c_l01Size b _ HS.out).mono ?_; rintro e w2 ⟨k, rfl, k1, k12, hd2⟩
  have HD2 := Lib.hid hd2; clear hd2
  go_wp2_with fail
  refine (c_l01DrawP b k _ HD2.out.1 k1 (by omega)).mono ?_; rintro e w3 ⟨r3, xs, rfl, hxl, hxp, ho, hd3⟩
  have HD3 := Lib.hid (HD2.out.trans hd3); have HO := Lib.hid ho.ints
  have HR := Lib.hid (RowOk.perm hxl hxp)
  clear ho hd3 hxp hxl
  have hrng : ∀ x ∈ xs, 0 ≤ x ∧ x < 12 := fun x hx => by have := HR.out.2 x hx; omega
  have hlen : xs.length ≤ 1048576 := by have := HR.out.1; omega
  go_wp2_with fail
  refine (c_l01Line _ xs _ HO.out hrng hlen).mono ?_; rintro e w4 ⟨rfl, hb4⟩
  have HSt := Lib.hid (HD3.out.under hb4).1
  have HBe := Lib.hid ((HD3.out.under hb4).below HB1.out hwb HB1.out.size)
  have HTs := Lib.hid (show (textOf xs).size ≤ 1000 by rw [textOf_size]; have := HR.out.1; omega)
  clear hb4 hrng hlen
  obtain ⟨m, i, h, hsx⟩ := HSt.out.x
  have HX := Lib.hid hsx
  have HGs := Lib.hid (show (textOf xs).size + pot m i h ≤ 549755900000 by have := pot_le (i := i) (h := h) hsx.m4; have := HTs.out; omega)
  clear hsx
  go_wp2
  go_loopg [4] (pot m i h) (fun gn s wr => ∃ (t : ByteArray) (i h : Nat), s = .string t ∧ Hid (t.size + gn ≤ 549755900000) ∧ Hid (gn = pot m i h) ∧ Hid (SrcX wr b m i h) ∧ Hid (Below w.heap.size w wr))
  case atStart => exact ⟨textOf xs, i, h, rfl, HGs, Lib.hid rfl, HX, HBe⟩
  case round =>
    clear HX HGs HBe HSt HTs
    obtain ⟨t, i, h, rfl, HSz, HG, HX, HB⟩ := hrel
    obtain ⟨wo, rfl⟩ : ∃ wo : World, wo = wr := ⟨_, rfl⟩
    go_wp2_with fail
    refine (c_l01NextX b m i h 3 _ HX.out (by omega) (by omega)).mono ?_; rintro e w3 ⟨r, i1, rfl, r0, r1, hs1, hi1, hm1, hk1⟩
    have hwo : w.heap.size ≤ wo.heap.size := HB.out.size
    have HB3 := Lib.hid (HB.out.trans (hk1.below (B := w.heap.size) fun k hk => ⟨by omega, fun e => by have e : k = b := e; omega⟩))
    have HS1 := Lib.hid hs1
    have HN := Lib.hid (And.intro hi1 hm1)
    clear hs1 hi1 hm1 hk1
    by_cases hr : r = 0
    · subst hr
      have hts : t.size ≤ 1099511627776 := by have := HSz.out; omega
      go_wp2_with fail
      refine (c_l01Damage b m i1 (lcg h) t _ HS1.out hts).mono ?_; rintro e w4 ⟨t', i2, h2, rfl, hsz, hs2, hi2, hm2, hk2⟩
      have hw3 : w.heap.size ≤ w3.heap.size := HB3.out.size
      have HB4 := Lib.hid (HB3.out.trans (hk2.below (B := w.heap.size) fun k hk => ⟨by omega, fun e => by have e : k = b := e; omega⟩))
      have HP := Lib.hid (round_pot HN.out hi2 hm2)
      have HS2 := Lib.hid hs2; have HZ := Lib.hid hsz
      clear hs2 hi2 hm2 hk2 hsz
      go_wp2
      go_roundg (pot m i2 h2)
      case measure => have := HP.out; have := HG.out; omega
      case rel => exact ⟨t', i2, h2, rfl, Lib.hid (by have := HP.out; have := HG.out; have := HSz.out; have := HZ.out; omega), Lib.hid rfl, HS2, HB4⟩
    · have hrb : (r == 0) = false := by simpa using hr
      go_wp2
      go_ret
      exact ⟨t, rfl, by have := HSz.out; omega, HB3.out⟩
set_option maxRecDepth 100000 in
set_option maxHeartbeats 4000000 in
theorem c_DrawParseTable (v : Value) (n : Nat) (w : World) (hv : BytesR w v n) (hn : n ≤ 4096) :
    Calls Tryd.prog 11 #[v] w (fun e w' => ∃ t : ByteArray, e = .returned (.string t) ∧ t.size ≤ 1099511627776 ∧ Below w.heap.size w w') := by
  have HV := Lib.hid hv
  obtain ⟨a, c, hva, -⟩ := hv
  subst hva
  go_enter Tryd.func11, Tryd.ntmps11
  go_wp2_with fail
  refine (c_l01From _ n _ HV.out hn).mono ?_; rintro e w1 ⟨b, rfl, hwb, hs, hb1⟩
  have HS := Lib.hid hs; have HB1 := Lib.hid hb1; clear hs hb1
  go_wp2_with fail
  refine (c_l01Size b _ HS.out).mono ?_; rintro e w2 ⟨k, rfl, k1, k12, hd2⟩
  have HD2 := Lib.hid hd2; clear hd2
  go_wp2_with fail
  refine (c_l01TablesT b k _ HD2.out.1 k1 (by omega)).mono ?_; rintro e w3 ⟨r3, X, rfl, hXl, hXr, ho, hd3⟩
  have HD3 := Lib.hid (HD2.out.trans hd3); have HO := Lib.hid ho.rows
  have ht := rows_isTab k1 k12 hXl hXr
  have HTb := Lib.hid ht
  clear ho hd3 hXl hXr
  go_wp2_with fail
  refine (c_l01Text _ X _ HO.out ht).mono ?_; rintro e w4 ⟨rfl, hb4⟩
  have HSt := Lib.hid (HD3.out.under hb4).1
  have HBe := Lib.hid ((HD3.out.under hb4).below HB1.out hwb HB1.out.size)
  have HTs := Lib.hid (show (tabText X).size ≤ 1000 by have := tabText_little ht; omega)
  clear hb4 ht
  obtain ⟨m, i, h, hsx⟩ := HSt.out.x
  have HX := Lib.hid hsx
  have HGs := Lib.hid (show (tabText X).size + pot m i h ≤ 549755900000 by have := pot_le (i := i) (h := h) hsx.m4; have := HTs.out; omega)
  clear hsx
  go_wp2
  go_loopg [4] (pot m i h) (fun gn s wr => ∃ (t : ByteArray) (i h : Nat), s = .string t ∧ Hid (t.size + gn ≤ 549755900000) ∧ Hid (gn = pot m i h) ∧ Hid (SrcX wr b m i h) ∧ Hid (Below w.heap.size w wr))
  case atStart => exact ⟨tabText X, i, h, rfl, HGs, Lib.hid rfl, HX, HBe⟩
  case round =>
    clear HX HGs HBe HSt HTs
    obtain ⟨t, i, h, rfl, HSz, HG, HX, HB⟩ := hrel
    obtain ⟨wo, rfl⟩ : ∃ wo : World, wo = wr := ⟨_, rfl⟩
    go_wp2_with fail
    refine (c_l01NextX b m i h 3 _ HX.out (by omega) (by omega)).mono ?_; rintro e w3 ⟨r, i1, rfl, r0, r1, hs1, hi1, hm1, hk1⟩
    have hwo : w.heap.size ≤ wo.heap.size := HB.out.size
    have HB3 := Lib.hid (HB.out.trans (hk1.below (B := w.heap.size) fun k hk => ⟨by omega, fun e => by have e : k = b := e; omega⟩))
    have HS1 := Lib.hid hs1
    have HN := Lib.hid (And.intro hi1 hm1)
    clear hs1 hi1 hm1 hk1
    by_cases hr : r = 0
    · subst hr
      have hts : t.size ≤ 1099511627776 := by have := HSz.out; omega
      go_wp2_with fail
      refine (c_l01Damage b m i1 (lcg h) t _ HS1.out hts).mono ?_; rintro e w4 ⟨t', i2, h2, rfl, hsz, hs2, hi2, hm2, hk2⟩
      have hw3 : w.heap.size ≤ w3.heap.size := HB3.out.size
      have HB4 := Lib.hid (HB3.out.trans (hk2.below (B := w.heap.size) fun k hk => ⟨by omega, fun e => by have e : k = b := e; omega⟩))
      have HP := Lib.hid (round_pot HN.out hi2 hm2)
      have HS2 := Lib.hid hs2; have HZ := Lib.hid hsz
      clear hs2 hi2 hm2 hk2 hsz
      go_wp2
      go_roundg (pot m i2 h2)
      case measure => have := HP.out; have := HG.out; omega
      case rel => exact ⟨t', i2, h2, rfl, Lib.hid (by have := HP.out; have := HG.out; have := HSz.out; have := HZ.out; omega), Lib.hid rfl, HS2, HB4⟩
    · have hrb : (r == 0) = false := by simpa using hr
      go_wp2
      go_ret
      exact ⟨t, rfl, by have := HSz.out; omega, HB3.out⟩
end Go.Proofs.YtnbhghgkjcfcmaaDoor

namespace Go.Proofs
open Go.Shelf
def Tryd.lays156_ren : Go.Shelf.Ren := ⟨fun | 156 => 56 | 165 => 69 | 166 => 70 | 169 => 71 | 240 => 84 | 241 => 85 | 276 => 97 | 277 => 98 | n => n, fun | 31 => 64 | 9 => 9 | 3 => 3 | 4 => 4 | 0 => 0 | 20 => 20 | 72 => 84 | 76 => 88 | 70 => 82 | 37 => 22 | 75 => 87 | 127 => 100 | 164 => 106 | 5 => 5 | 80 => 90 | n => n, fun | n => n⟩
theorem Tryd.lays156 : Go.Proofs.Lays.n156 Tryd.prog Tryd.lays156_ren := {
  mixed := by kernel_rfl
  f156 := Tryd.func56.trans (congrArg some (by kernel_rfl))
  f165 := Tryd.func69.trans (congrArg some (by kernel_rfl))
  f166 := Tryd.func70.trans (congrArg some (by kernel_rfl))
  f169 := Tryd.func71.trans (congrArg some (by kernel_rfl))
  f240 := Tryd.func84.trans (congrArg some (by kernel_rfl))
  f241 := Tryd.func85.trans (congrArg some (by kernel_rfl))
  f276 := Tryd.func97.trans (congrArg some (by kernel_rfl))
  f277 := Tryd.func98.trans (congrArg some (by kernel_rfl))
  t0 := Tryd.underlying0
  a0 := Tryd.isAgg0
  z0 := Tryd.sizeOf0
  v0 := Tryd.zeroValue0
  t3 := Tryd.underlying3
  a3 := Tryd.isAgg3
  z3 := Tryd.sizeOf3
  v3 := Tryd.zeroValue3
  t4 := Tryd.underlying4
  a4 := Tryd.isAgg4
  z4 := Tryd.sizeOf4
  v4 := Tryd.zeroValue4
  t9 := Tryd.underlying9
  a9 := Tryd.isAgg9
  z9 := Tryd.sizeOf9
  v9 := Tryd.zeroValue9
  t20 := Tryd.underlying20
  a20 := Tryd.isAgg20
  z20 := Tryd.sizeOf20
  v20 := Tryd.zeroValue20
  t31 := Tryd.underlying64
  a31 := Tryd.isAgg64
  z31 := Tryd.sizeOf64
  v31 := Tryd.zeroValue64
  t37 := Tryd.underlying22
  a37 := Tryd.isAgg22
  z37 := Tryd.sizeOf22
  v37 := Tryd.zeroValue22
  t70 := Tryd.underlying82
  a70 := Tryd.isAgg82
  z70 := Tryd.sizeOf82
  v70 := Tryd.zeroValue82
  t72 := Tryd.underlying84
  a72 := Tryd.isAgg84
  z72 := Tryd.sizeOf84
  v72 := Tryd.zeroValue84
  t75 := Tryd.underlying87
  a75 := Tryd.isAgg87
  z75 := Tryd.sizeOf87
  v75 := Tryd.zeroValue87
  t76 := Tryd.underlying88
  a76 := Tryd.isAgg88
  z76 := Tryd.sizeOf88
  v76 := Tryd.zeroValue88
  t127 := Tryd.underlying100
  a127 := Tryd.isAgg100
  z127 := Tryd.sizeOf100
  v127 := Tryd.zeroValue100
  t164 := Tryd.underlying106
  a164 := Tryd.isAgg106
  z164 := Tryd.sizeOf106
  v164 := Tryd.zeroValue106 }
theorem Tryd.Builder_Extra_156 : Builder.Extra Tryd.prog Tryd.lays156_ren := {
  sizeBuilder := by kernel_rfl
  liesBuilder := by kernel_rfl
  t5 := Tryd.underlying5
  a5 := Tryd.isAgg5
  z5 := Tryd.sizeOf5
  v5 := Tryd.zeroValue5
  infoByte := by kernel_rfl
  cellsByte := by kernel_rfl
  sizeByte := by kernel_rfl
  neB5 := by decide }
open Go.RowKit in
/-- No element: the empty string; the world is as it was. (Whatever the slice's address and capacity: a nil slice too.) (LAID: no walk: one application.) -/
theorem Tryd.strings_Join_none (a : Option Addr) (c : Nat) (sep : ByteArray) (w : World) :
    Calls Tryd.prog 56 #[.slice a 0 c, .string sep] w fun e w' => e = .returned (.string ⟨#[]⟩) ∧ w' = w := Any.strings_Join_none Tryd.lays156 Tryd.Builder_Extra_156 a c sep w
open Go.RowKit in
/-- strings.Join: "Join concatenates the elements of its first argument to create a single string. The separator string sep is placed between elements in the resulting string.": HOWEVER MANY ELEMENTS. Below the heap's end the world is as it was. (LAID: no walk: one application.) -/
theorem Tryd.strings_Join (bk o c : Nat) (xs : List ByteArray) (sep : ByteArray) (w : World) (hcells : ∀ (j : Nat) x, xs[j]? = some x → w.cell? ⟨bk, o + j, none⟩ = some (.string x)) (hbk : bk < w.heap.size) (hN : xs.length ≤ 140737488355328) (hcap : xs.length ≤ c) (hlen : (Lib.join (xs.map (·.data.toList)) sep.data.toList).length ≤ 140737488355328) :
    Calls Tryd.prog 56 #[.slice (some ⟨bk, o, none⟩) xs.length c, .string sep] w fun e w' => e = .returned (.string ⟨(Lib.join (xs.map (·.data.toList)) sep.data.toList).toArray⟩) ∧ Below w.heap.size w w' := Any.strings_Join Tryd.lays156 Tryd.Builder_Extra_156 bk o c xs sep w hcells hbk hN hcap hlen
end Go.Proofs

namespace Go.Proofs.YtnbhghgkjcfcmaaDoor
set_option linter.unusedVariables false
set_option linter.unusedSimpArgs false
open Go.RowKit

theorem ret_str {a b : ByteArray} (h : a = b) : Ending.returned (.string a) = Ending.returned (.string b) := by rw [h]
theorem inf_string : (Tryd.prog.info? 9).map (fun i => (i.zero, i.size, i.bytes)) = some (some (.string ⟨#[]⟩), 1, 16) := by kernel_rfl
set_option maxHeartbeats 1600000 in
theorem c_tableText (v : Value) (t : List (List Int)) (w : World) (hx : Rows w v t) (ht : isTab t = true) :
    Calls Tryd.prog 27 #[v] w (RVal w (.string (tabText t))) := by
  obtain ⟨a, c, rfl, hc, hm⟩ := hx.shape
  obtain ⟨h1, h12⟩ := isTab_len ht
  have HT := Lib.hid ht; clear ht
  have hmk := run_make_row' (P := Tryd.prog) 64 9 (.string ⟨#[]⟩) 16 Tryd.underlying64 inf_string rfl .i64 .i64 t.length (by omega) (by omega)
  have hb0 : Hid (Below w.heap.size w (w.alloc (.cells (madeCells #[.string ⟨#[]⟩] t.length) 9))) := Lib.hid ((Below.refl _ _).alloc (Nat.le_refl _) _)
  have hk0 : Hid (Blk (w.alloc (.cells (madeCells #[.string ⟨#[]⟩] t.length) 9)) w.heap.size 9 (((t.map textOf).take 0).map Value.string ++ (List.replicate t.length (Value.string ⟨#[]⟩)).drop 0)) := by
    have := Blk.made w (.string ⟨#[]⟩) t.length 9
    show Blk _ _ _ _
    simpa using this
  go_enter Tryd.func27, Tryd.ntmps27
  go_wp2
  clear hmk
  go_loopw [4, 5, 11] (fun _ _ i wr => ∃ k : Nat, k ≤ t.length ∧ i = .int .i64 k ∧ Hid (Below w.heap.size w wr) ∧ Hid (Blk wr w.heap.size 9 (((t.map textOf).take k).map Value.string ++ (List.replicate t.length (Value.string ⟨#[]⟩)).drop k))) (fun _ _ i _ => t.length - (intOf i).toNat)
  case atStart => exact ⟨0, Nat.zero_le _, rfl, hb0, hk0⟩
  case round =>
    clear hb0 hk0
    obtain ⟨k, hk, rfl, HB, HBk⟩ := hrel
    obtain ⟨wo, rfl⟩ : ∃ wo : World, wo = wr := ⟨_, rfl⟩
    by_cases hlt : k < t.length
    · obtain ⟨b, o, ra, rc, rfl, hcell, hu⟩ := (hx.below HB.out).getS k hlt
      have hrow := isTab_row HT.out (x := k) (by omega) (by omega)
      have hin : ∀ x ∈ row t k, 0 ≤ x ∧ x < 12 := fun x hx => by
        have := isTab_val HT.out (row_mem (t := t) (x := k) (by omega) (by omega)) hx
        omega
      have HU := Lib.hid hu; have HIn := Lib.hid hin
      have hrl : (row t k).length ≤ 1048576 := by omega
      clear hu hin hrow
      go_wp2_with fail
      refine (c_digitsText _ _ _ HU.out HIn.out hrl).mono ?_; rintro e w1 ⟨rfl, hb1⟩
      have hbk1 := HBk.out.under hb1
      have hcell1 := hbk1.cell (i := k) (by simp; omega)
      obtain ⟨z, hz⟩ : ∃ z, w1.cell? ⟨w.heap.size, k, none⟩ = some z := ⟨_, hcell1⟩
      have hfr := hbk1.frozen k
      have HB1 := Lib.hid (bb HB.out hb1)
      have hset := hbk1.set k (.string (textOf (row t k)))
      have hset2 : Hid (Blk (w1.setCell ⟨w.heap.size, k, none⟩ (.string (textOf (row t k)))) w.heap.size 9 (((t.map textOf).take (k + 1)).map Value.string ++ (List.replicate t.length (Value.string ⟨#[]⟩)).drop (k + 1))) := by
        show Blk _ _ _ _
        have hl : (((t.map textOf).take k).map Value.string).length = k := by simp; omega
        rw [List.set_append, if_neg (by omega), hl, Nat.sub_self, List.drop_eq_getElem_cons (by simpa using hlt)] at hset
        rw [List.take_succ_eq_append_getElem (by simpa using hlt), List.map_append, List.append_assoc]
        rw [row_nat _ _ hlt] at hset ⊢
        simpa using hset
      have HBk1 := hset2
      clear hb1 hbk1 hcell1 hset hset2 hcell
      go_wp2
      go_roundw
      case rel => exact ⟨k + 1, by omega, by go_num, Lib.hid (HB1.out.setCell (p := ⟨w.heap.size, k, none⟩) (Nat.le_refl _) _), HBk1⟩
      case measure => simp [intOf]; omega
    · obtain rfl : k = t.length := by omega
      have hbk := HBk.out
      rw [List.take_of_length_le (by simp), List.drop_eq_nil_of_le (by simp), List.append_nil] at hbk
      have hcells : Hid (∀ (j : Nat) (x : ByteArray), (t.map textOf)[j]? = some x → wo.cell? ⟨w.heap.size, 0 + j, none⟩ = some (.string x)) := by
        intro j x hj
        obtain ⟨hj1, rfl⟩ := List.getElem?_eq_some_iff.1 hj
        rw [Nat.zero_add, hbk.cell (by simpa using hj1)]
        simp
      have HLt := Lib.hid hbk.lt
      have hml : (t.map textOf).length = t.length := by simp
      have hjl : Hid ((Lib.join ((t.map textOf).map (·.data.toList)) [47]).length ≤ 140737488355328) := by
        have := tabText_size (t := t) (n := 12) (fun r hr => by
          obtain ⟨j, hj, rfl⟩ := List.getElem_of_mem hr
          have := isTab_row HT.out (x := j) (by omega) (by omega)
          rw [row_nat _ _ hj] at this; omega)
        have h3 := Nat.mul_le_mul h12 (show 12 + 1 ≤ 13 by omega)
        have e : (Lib.join ((t.map textOf).map (·.data.toList)) [47]).length = (tabText t).size := by
          unfold tabText
          rw [List.map_map]
          rfl
        show _ ≤ _
        rw [e]; omega
      have hj := Tryd.strings_Join w.heap.size 0 (t.map textOf).length (t.map textOf) ⟨#[47]⟩ wo hcells.out HLt.out (by rw [hml]; omega) (Nat.le_refl _) hjl.out
      rw [hml] at hj
      have HJ := Lib.hid hj
      clear hbk hj hml
      go_wp2_with fail
      refine HJ.out.mono ?_; rintro e w2 ⟨rfl, hb2⟩
      have HB2 := Lib.hid (bb HB.out hb2); clear hb2
      go_wp2
      go_ret
      refine ⟨ret_str ?_, HB2.out⟩
      unfold tabText
      rfl
end Go.Proofs.YtnbhghgkjcfcmaaDoor

namespace Go.Proofs.YtnbhghgkjcfcmaaDoor
set_option linter.unusedVariables false
set_option linter.unusedSimpArgs false
open Go.RowKit

def ttRes (t : List (List Int)) : ByteArray := if isTab t then tabText t else ⟨#[]⟩
def ttCode (t : List (List Int)) : Int := if isTab t then 0 else 1

set_option maxRecDepth 100000 in
set_option maxHeartbeats 800000 in
theorem c_TableText (v0 : Value) (t : List (List Int)) (w : World) (ht : Rows w v0 t)  :
    Calls Tryd.prog 7 #[v0] w (RVal w (.tuple #[.string (ttRes t), .int .i64 (ttCode t)])) := by
  by_cases hp0 : isTab t = true
  case neg =>
    have hq0 : isTab t = false := by simpa using hp0
    have HQ := Lib.hid hq0; clear hp0
    obtain ⟨a0, c0, rfl, hc0, hm0⟩ := ht.shape
    go_enter Tryd.func7, Tryd.ntmps7
    go_wp2_with fail
    refine (c_IsTable _ _ _ (ht.below (Below.refl _ _))).mono ?_; rintro e g0 ⟨rfl, hbg0⟩
    have hB0 := hbg0
    clear hbg0
    have HB := Lib.hid hB0
    clear hB0
    go_wp2
    go_ret2
    exact ⟨by simp [ttRes, ttCode, HQ.out], HB.out⟩
  have HP0 := Lib.hid hp0
  obtain ⟨a0, c0, rfl, hc0, hm0⟩ := ht.shape
  go_enter Tryd.func7, Tryd.ntmps7
  go_wp2_with fail
  refine (c_IsTable _ _ _ (ht.below (Below.refl _ _))).mono ?_; rintro e g0 ⟨rfl, hbg0⟩
  have hB0 := hbg0
  clear hbg0
  go_wp2_with fail
  refine (c_tableText _ _ _ (ht.below hB0) HP0.out).mono ?_; rintro e w2 ⟨rfl, hb⟩
  have HB := Lib.hid (bb hB0 hb); clear hb hB0 ht
  go_wp2
  go_ret2
  exact ⟨by simp [ttRes, ttCode, HP0.out], HB.out⟩
set_option maxRecDepth 100000 in
set_option maxHeartbeats 800000 in
theorem c_specTableText (v0 : Value) (t : List (List Int)) (w : World) (ht : Rows w v0 t)  :
    Calls Tryd.prog 8 #[v0] w (RVal w (.tuple #[.string (ttRes t), .int .i64 (ttCode t)])) := by
  by_cases hp0 : isTab t = true
  case neg =>
    have hq0 : isTab t = false := by simpa using hp0
    have HQ := Lib.hid hq0; clear hp0
    obtain ⟨a0, c0, rfl, hc0, hm0⟩ := ht.shape
    go_enter Tryd.func8, Tryd.ntmps8
    go_wp2_with fail
    refine (c_l01TableV _ _ _ (ht.below (Below.refl _ _))).mono ?_; rintro e g0 ⟨rfl, hbg0⟩
    have hB0 := hbg0
    clear hbg0
    have HB := Lib.hid hB0
    clear hB0
    go_wp2
    go_ret2
    exact ⟨by simp [ttRes, ttCode, HQ.out], HB.out⟩
  have HP0 := Lib.hid hp0
  obtain ⟨a0, c0, rfl, hc0, hm0⟩ := ht.shape
  go_enter Tryd.func8, Tryd.ntmps8
  go_wp2_with fail
  refine (c_l01TableV _ _ _ (ht.below (Below.refl _ _))).mono ?_; rintro e g0 ⟨rfl, hbg0⟩
  have hB0 := hbg0
  clear hbg0
  go_wp2_with fail
  refine (c_l01Text _ _ _ (ht.below hB0) HP0.out).mono ?_; rintro e w2 ⟨rfl, hb⟩
  have HB := Lib.hid (bb hB0 hb); clear hb hB0 ht
  go_wp2
  go_ret2
  exact ⟨by simp [ttRes, ttCode, HP0.out], HB.out⟩

end Go.Proofs.YtnbhghgkjcfcmaaDoor

namespace Go.Proofs
open Go.Shelf
def Tryd.lays145_ren : Go.Shelf.Ren := ⟨fun | 145 => 48 | 220 => 65 | 219 => 75 | 217 => 73 | 225 => 90 | 224 => 91 | 267 => 92 | 266 => 89 | 314 => 102 | n => n, fun | 9 => 9 | 4 => 4 | 59 => 62 | 3 => 3 | 5 => 5 | 46 => 75 | 146 => 113 | 51 => 112 | n => n, fun | 1 => 0 | n => n⟩
theorem Tryd.lays145 : Go.Proofs.Lays.n145 Tryd.prog Tryd.lays145_ren := {
  mixed := by kernel_rfl
  f145 := Tryd.func48.trans (congrArg some (by kernel_rfl))
  f217 := Tryd.func73.trans (congrArg some (by kernel_rfl))
  f219 := Tryd.func75.trans (congrArg some (by kernel_rfl))
  f220 := Tryd.func65.trans (congrArg some (by kernel_rfl))
  f224 := Tryd.func91.trans (congrArg some (by kernel_rfl))
  f225 := Tryd.func90.trans (congrArg some (by kernel_rfl))
  f266 := Tryd.func89.trans (congrArg some (by kernel_rfl))
  f267 := Tryd.func92.trans (congrArg some (by kernel_rfl))
  f314 := Tryd.func102.trans (congrArg some (by kernel_rfl))
  t3 := Tryd.underlying3
  a3 := Tryd.isAgg3
  z3 := Tryd.sizeOf3
  v3 := Tryd.zeroValue3
  t4 := Tryd.underlying4
  a4 := Tryd.isAgg4
  z4 := Tryd.sizeOf4
  v4 := Tryd.zeroValue4
  t5 := Tryd.underlying5
  a5 := Tryd.isAgg5
  z5 := Tryd.sizeOf5
  v5 := Tryd.zeroValue5
  t9 := Tryd.underlying9
  a9 := Tryd.isAgg9
  z9 := Tryd.sizeOf9
  v9 := Tryd.zeroValue9
  t46 := Tryd.underlying75
  a46 := Tryd.isAgg75
  z46 := Tryd.sizeOf75
  v46 := Tryd.zeroValue75
  t51 := Tryd.underlying112
  a51 := Tryd.isAgg112
  z51 := Tryd.sizeOf112
  v51 := Tryd.zeroValue112
  t59 := Tryd.underlying62
  a59 := Tryd.isAgg62
  z59 := Tryd.sizeOf62
  v59 := Tryd.zeroValue62
  t146 := Tryd.underlying113
  a146 := Tryd.isAgg113
  z146 := Tryd.sizeOf113
  v146 := Tryd.zeroValue113
  g1 := by kernel_rfl }
open Go.RowKit Go.Lib in
/-- strings.Cut: "Cut slices s around the first instance of sep, returning the text before and after sep. The found result reports whether sep appears in s. If sep does not appear in s, cut returns s, "", false.": IT RETURNS 'Lib.cut s sep'; the world is as it was but for the count of draws. (LAID: no walk: one application.) -/
theorem Tryd.strings_Cut (s sep : ByteArray) (m : Int) (w : World) (hs : s.size < 4294967281) (hm : w.cell? ⟨0, 0, none⟩ = some (.int .i64 m)) :
    Calls Tryd.prog 48 #[.string s, .string sep] w fun e w' => e = .returned (.tuple #[.string ⟨(Lib.cut s.data.toList sep.data.toList).1.toArray⟩, .string ⟨(Lib.cut s.data.toList sep.data.toList).2.1.toArray⟩, .bool (Lib.cut s.data.toList sep.data.toList).2.2]) ∧ ∃ n, w' = w.drewN n := Any.strings_Cut Tryd.lays145 s sep m w hs hm
def Tryd.lays146_ren : Go.Shelf.Ren := ⟨fun | 146 => 58 | 221 => 72 | 268 => 86 | 138 => 87 | 143 => 88 | 195 => 99 | 197 => 100 | 218 => 101 | 219 => 75 | 260 => 104 | 217 => 73 | 225 => 90 | 224 => 91 | 267 => 92 | 266 => 89 | 314 => 102 | n => n, fun | 9 => 9 | 31 => 64 | 3 => 3 | 4 => 4 | 0 => 0 | 105 => 110 | 21 => 21 | 5 => 5 | 46 => 75 | 119 => 116 | 139 => 119 | 138 => 118 | 146 => 113 | 51 => 112 | n => n, fun | 1 => 0 | 3 => 1 | 4 => 2 | n => n⟩
theorem Tryd.lays146 : Go.Proofs.Lays.n146 Tryd.prog Tryd.lays146_ren := {
  mixed := by kernel_rfl
  f138 := Tryd.func87.trans (congrArg some (by kernel_rfl))
  f143 := Tryd.func88.trans (congrArg some (by kernel_rfl))
  f146 := Tryd.func58.trans (congrArg some (by kernel_rfl))
  f195 := Tryd.func99.trans (congrArg some (by kernel_rfl))
  f197 := Tryd.func100.trans (congrArg some (by kernel_rfl))
  f217 := Tryd.func73.trans (congrArg some (by kernel_rfl))
  f218 := Tryd.func101.trans (congrArg some (by kernel_rfl))
  f219 := Tryd.func75.trans (congrArg some (by kernel_rfl))
  f221 := Tryd.func72.trans (congrArg some (by kernel_rfl))
  f224 := Tryd.func91.trans (congrArg some (by kernel_rfl))
  f225 := Tryd.func90.trans (congrArg some (by kernel_rfl))
  f260 := Tryd.func104.trans (congrArg some (by kernel_rfl))
  f266 := Tryd.func89.trans (congrArg some (by kernel_rfl))
  f267 := Tryd.func92.trans (congrArg some (by kernel_rfl))
  f268 := Tryd.func86.trans (congrArg some (by kernel_rfl))
  f314 := Tryd.func102.trans (congrArg some (by kernel_rfl))
  t0 := Tryd.underlying0
  a0 := Tryd.isAgg0
  z0 := Tryd.sizeOf0
  v0 := Tryd.zeroValue0
  t3 := Tryd.underlying3
  a3 := Tryd.isAgg3
  z3 := Tryd.sizeOf3
  v3 := Tryd.zeroValue3
  t4 := Tryd.underlying4
  a4 := Tryd.isAgg4
  z4 := Tryd.sizeOf4
  v4 := Tryd.zeroValue4
  t5 := Tryd.underlying5
  a5 := Tryd.isAgg5
  z5 := Tryd.sizeOf5
  v5 := Tryd.zeroValue5
  t9 := Tryd.underlying9
  a9 := Tryd.isAgg9
  z9 := Tryd.sizeOf9
  v9 := Tryd.zeroValue9
  t21 := Tryd.underlying21
  a21 := Tryd.isAgg21
  z21 := Tryd.sizeOf21
  v21 := Tryd.zeroValue21
  t31 := Tryd.underlying64
  a31 := Tryd.isAgg64
  z31 := Tryd.sizeOf64
  v31 := Tryd.zeroValue64
  t46 := Tryd.underlying75
  a46 := Tryd.isAgg75
  z46 := Tryd.sizeOf75
  v46 := Tryd.zeroValue75
  t51 := Tryd.underlying112
  a51 := Tryd.isAgg112
  z51 := Tryd.sizeOf112
  v51 := Tryd.zeroValue112
  t105 := Tryd.underlying110
  a105 := Tryd.isAgg110
  z105 := Tryd.sizeOf110
  v105 := Tryd.zeroValue110
  t119 := Tryd.underlying116
  a119 := Tryd.isAgg116
  z119 := Tryd.sizeOf116
  t138 := Tryd.underlying118
  a138 := Tryd.isAgg118
  z138 := Tryd.sizeOf118
  v138 := Tryd.zeroValue118
  t139 := Tryd.underlying119
  a139 := Tryd.isAgg119
  z139 := Tryd.sizeOf119
  v139 := Tryd.zeroValue119
  t146 := Tryd.underlying113
  a146 := Tryd.isAgg113
  z146 := Tryd.sizeOf113
  v146 := Tryd.zeroValue113
  g1 := by kernel_rfl
  g3 := by kernel_rfl
  g4 := by kernel_rfl }
open Go.RowKit Go.Lib in
/-- strings.Split. (LAID: no walk: one application.) -/
theorem Tryd.strings_Split (s sep : ByteArray) (m : Int) (w : World) (hs : s.size < 4294967281) (hm : w.cell? ⟨0, 0, none⟩ = some (.int .i64 m)) (h1 : 1 ≤ sep.size) :
    Calls Tryd.prog 58 #[.string s, .string sep] w fun e w' =>
      e = .returned (.slice (some ⟨w.heap.size, 0, none⟩) (Lib.countB s sep + 1) (Lib.countB s sep + 1)) ∧ w' = w.alloc (.cells ((Lib.splitB sep 0 (Lib.countB s sep) s).map Value.string).toArray 9) := Any.strings_Split Tryd.lays146 (by kernel_rfl) s sep m w hs hm h1
def Tryd.laysM146_ren : Go.Shelf.Ren := ⟨fun | 146 => 58 | 221 => 72 | 268 => 86 | 138 => 87 | 143 => 88 | 195 => 99 | 197 => 100 | 218 => 101 | 219 => 75 | 260 => 104 | 217 => 73 | 225 => 90 | 224 => 91 | 267 => 92 | 266 => 89 | 314 => 102 | n => n, fun | 9 => 9 | 31 => 64 | 3 => 3 | 4 => 4 | 0 => 0 | 105 => 110 | 21 => 21 | 5 => 5 | 46 => 75 | 119 => 116 | 139 => 119 | 138 => 118 | 146 => 113 | 51 => 112 | n => n, fun | 1 => 0 | 3 => 1 | 4 => 2 | n => n⟩
theorem Tryd.laysM146 : Go.Proofs.LaysM.n146 Tryd.prog Tryd.laysM146_ren := {
  mixed := by kernel_rfl
  f138 := Tryd.func87.trans (congrArg some (by kernel_rfl))
  f143 := Tryd.func88.trans (congrArg some (by kernel_rfl))
  f146 := Tryd.func58.trans (congrArg some (by kernel_rfl))
  f195 := Tryd.func99.trans (congrArg some (by kernel_rfl))
  f197 := Tryd.func100.trans (congrArg some (by kernel_rfl))
  f217 := Tryd.func73.trans (congrArg some (by kernel_rfl))
  f218 := Tryd.func101.trans (congrArg some (by kernel_rfl))
  f219 := Tryd.func75.trans (congrArg some (by kernel_rfl))
  f221 := Tryd.func72.trans (congrArg some (by kernel_rfl))
  f224 := Tryd.func91.trans (congrArg some (by kernel_rfl))
  f225 := Tryd.func90.trans (congrArg some (by kernel_rfl))
  f260 := Tryd.func104.trans (congrArg some (by kernel_rfl))
  f266 := Tryd.func89.trans (congrArg some (by kernel_rfl))
  f267 := Tryd.func92.trans (congrArg some (by kernel_rfl))
  f268 := Tryd.func86.trans (congrArg some (by kernel_rfl))
  f314 := Tryd.func102.trans (congrArg some (by kernel_rfl))
  t0 := Tryd.underlying0
  a0 := Tryd.isAgg0
  z0 := Tryd.sizeOf0
  v0 := Tryd.zeroValue0
  t3 := Tryd.underlying3
  a3 := Tryd.isAgg3
  z3 := Tryd.sizeOf3
  v3 := Tryd.zeroValue3
  t4 := Tryd.underlying4
  a4 := Tryd.isAgg4
  z4 := Tryd.sizeOf4
  v4 := Tryd.zeroValue4
  t5 := Tryd.underlying5
  a5 := Tryd.isAgg5
  z5 := Tryd.sizeOf5
  v5 := Tryd.zeroValue5
  t9 := Tryd.underlying9
  a9 := Tryd.isAgg9
  z9 := Tryd.sizeOf9
  v9 := Tryd.zeroValue9
  t21 := Tryd.underlying21
  a21 := Tryd.isAgg21
  z21 := Tryd.sizeOf21
  v21 := Tryd.zeroValue21
  t31 := Tryd.underlying64
  a31 := Tryd.isAgg64
  z31 := Tryd.sizeOf64
  v31 := Tryd.zeroValue64
  t46 := Tryd.underlying75
  a46 := Tryd.isAgg75
  z46 := Tryd.sizeOf75
  v46 := Tryd.zeroValue75
  t51 := Tryd.underlying112
  a51 := Tryd.isAgg112
  z51 := Tryd.sizeOf112
  v51 := Tryd.zeroValue112
  t105 := Tryd.underlying110
  a105 := Tryd.isAgg110
  z105 := Tryd.sizeOf110
  v105 := Tryd.zeroValue110
  t119 := Tryd.underlying116
  a119 := Tryd.isAgg116
  z119 := Tryd.sizeOf116
  t138 := Tryd.underlying118
  a138 := Tryd.isAgg118
  z138 := Tryd.sizeOf118
  v138 := Tryd.zeroValue118
  t139 := Tryd.underlying119
  a139 := Tryd.isAgg119
  z139 := Tryd.sizeOf119
  v139 := Tryd.zeroValue119
  t146 := Tryd.underlying113
  a146 := Tryd.isAgg113
  z146 := Tryd.sizeOf113
  v146 := Tryd.zeroValue113
  g1 := by kernel_rfl
  g3 := by kernel_rfl
  g4 := by kernel_rfl
  i0 := by kernel_rfl
  i3 := by kernel_rfl
  i4 := by kernel_rfl
  i5 := by kernel_rfl
  i9 := by kernel_rfl
  i21 := by kernel_rfl
  i31 := by kernel_rfl
  i46 := by kernel_rfl
  i51 := by kernel_rfl
  i105 := by kernel_rfl
  i138 := by kernel_rfl
  i139 := by kernel_rfl
  i146 := by kernel_rfl
  m1 := by kernel_rfl
  s1_3 := fun w h => Go.Proofs.cell_of_shapedOpen_int (zero := #[.int .i64 0]) (t := 3) h (of_decide_eq_true (by kernel_rfl)) (by kernel_rfl) rfl (by kernel_rfl) (by kernel_rfl) Tryd.underlying3
  m3 := by kernel_rfl
  m4 := by kernel_rfl }
open Go.RowKit Go.Lib in
/-- strings.Split, sep not empty. (LAID: no walk: one application.) -/
theorem Tryd.strings_Split_shaped (s sep : ByteArray) (w : World) (h : w.ShapedOpen Tryd.prog) (hs : s.size < 4294967281) (h1 : 1 ≤ sep.size) :
    Calls Tryd.prog 58 #[.string s, .string sep] w fun e w' =>
      e = .returned (.slice (some ⟨w.heap.size, 0, none⟩) (Lib.countB s sep + 1) (Lib.countB s sep + 1)) ∧ w' = w.alloc (.cells ((Lib.splitB sep 0 (Lib.countB s sep) s).map Value.string).toArray 9) := Any.strings_Split_shaped Tryd.laysM146 s sep w h hs h1
end Go.Proofs

namespace Go.Proofs.YtnbhghgkjcfcmaaDoor
set_option linter.unusedVariables false
set_option linter.unusedSimpArgs false
open Go Go.RowKit

theorem inf_strQ : (Tryd.prog.info? 9).map (fun i => (i.zero, i.size, i.bytes)) = some (some (.string ⟨#[]⟩), 1, 16) := by kernel_rfl
/-- A slice of strings of the call's own. -/
def OwnStr (B : Nat) (w : World) (v : Value) (ss : List ByteArray) : Prop := w.ownsRow B 9 1 v ss.length (ss.map Value.string)
theorem OwnStr.lt {B : Nat} {w : World} {v : Value} {ss : List ByteArray} (h : OwnStr B w v ss) {k : Nat} (hk : v.ownBlock = some k) : B ≤ k ∧ k < w.heap.size := World.ownsRow.lt h k hk
theorem OwnStr.frame {B B0 : Nat} {w0 w w' : World} {v : Value} {ss : List ByteArray} (h : OwnStr B w v ss) (hb : Below B0 w0 w) (hB : B0 ≤ B) (hs : B0 ≤ w.heap.size) (hk : Keep (fun b => v.ownBlock = some b) w w') : Below B0 w0 w' :=
  hb.trans (hk.below fun k hk' => ⟨by omega, fun e => by have := (h.lt e).1; omega⟩)
theorem OwnStr.made0 {B : Nat} (w : World) (hB : B ≤ w.heap.size) : OwnStr B (w.alloc (.cells #[] 9)) (.slice (some ⟨w.heap.size, 0, none⟩) 0 0) [] :=
  ⟨rfl, .inr ⟨w.heap.size, 0, _, rfl, hB, heap_alloc_new w _, Nat.le_refl _, by decide, by simp, by simp⟩⟩
theorem wpList_app_str {ops : Array Oper} {rest : List Oper} {o : Oper} {a : Act} {Q : Exit → Act → World → Prop} (B : Nat) (w : World) (v : Value) (ss : List ByteArray) (y : ByteArray) (s x : Operand) (hgd : o.guard = none)
    (ho : o.op = .call { callee := .builtin .append, args := #[s, x], argTypes := #[64, 64] })
    (hs : a.eval s = v) (hown : OwnStr B w v ss) (hx : a.eval x = .slice (some ⟨w.heap.size, 0, none⟩) 1 1) (hn : ss.length ≤ 1099511627776) (hbase : B ≤ w.heap.size)
    (h : ∀ a' c' w', OwnStr B w' (.slice a' (ss.length + 1) c') (ss ++ [y]) → Keep (fun b => v.ownBlock = some b) w w' → wpList Tryd.prog ops Q rest (a.put o.dst (.slice a' (ss.length + 1) c')) w') :
    wpList Tryd.prog ops Q (o :: rest) a (w.alloc (.cells #[.string y] 9)) :=
  wpList_app w hgd s x 64 ho B 9 (.string ⟨#[]⟩) 16 Tryd.underlying64 inf_strQ rfl (by decide) v ss.length _ hs hown (.string y) rfl hx (by omega) hbase
    fun a' c' w' h1 h2 => h a' c' w' (by simpa [OwnStr] using h1) h2
theorem OwnStr.under {B : Nat} {w w' : World} {v : Value} {ss : List ByteArray} (h : OwnStr B w v ss) (hb : Below w.heap.size w w') : OwnStr B w' v ss := by
  obtain ⟨hl, h | ⟨g, cap, cur, hv, hb', hg, r⟩⟩ := h
  · exact ⟨hl, .inl h⟩
  · exact ⟨hl, .inr ⟨g, cap, cur, hv, hb', by rw [hb.block g (Array.getElem?_eq_some_iff.1 hg).1]; exact hg, r⟩⟩
/-- A slice of strings over a block of strings. -/
def StrB (g : Nat) (w : World) (v : Value) (ss : List ByteArray) : Prop := ∃ cs c, v = .slice (some ⟨g, 0, none⟩) ss.length c ∧ Blk w g 9 (ss.map Value.string ++ cs)
theorem StrB.keep {g : Nat} {S : Nat → Prop} {w w' : World} {v : Value} {ss : List ByteArray} (h : StrB g w v ss) (k : Keep S w w') (hg : ¬ S g) : StrB g w' v ss := by
  obtain ⟨cs, c, hv, hb⟩ := h
  exact ⟨cs, c, hv, hb.of_block (k.block g hb.lt hg)⟩
theorem StrB.under {g : Nat} {w w' : World} {v : Value} {ss : List ByteArray} (h : StrB g w v ss) (hb : Below w.heap.size w w') : StrB g w' v ss := by
  obtain ⟨cs, c, hv, h1⟩ := h
  exact ⟨cs, c, hv, h1.under hb⟩
theorem StrB.cell {g n c : Nat} {a : Option Addr} {w : World} {ss : List ByteArray} (h : StrB g w (.slice a n c) ss) (i : Nat) (hi : i < ss.length) : w.cell? ⟨g, i, none⟩ = some (.string ss[i]) := by
  obtain ⟨cs, c, hv, hb⟩ := h
  have := hb.cell (i := i) (by simp; omega)
  rw [this, List.getElem_append_left (by simpa using hi)]
  simp
theorem OwnStr.strB {B : Nat} {w : World} {v : Value} {ss : List ByteArray} (h : OwnStr B w v ss) (h0 : 0 < ss.length) : ∃ g, StrB g w v ss ∧ B ≤ g := by
  obtain ⟨hl, h | ⟨g, cap, cur, rfl, hb, hg, hc, hm, hs, ht⟩⟩ := h
  · have := h.2; omega
  · refine ⟨g, ⟨cur.toList.drop ss.length, cap, rfl, ?_⟩, hb⟩
    have e : ss.map Value.string ++ cur.toList.drop ss.length = cur.toList := by
      rw [Nat.mul_one] at ht
      conv => lhs; lhs; rw [← ht]
      exact List.take_append_drop _ _
    unfold Blk
    rw [hg, e]
theorem StrB.apart {g B n : Nat} {w : World} {v u : Value} {ss : List ByteArray} {us : List Value} {t : TypeId} (h : StrB g w v ss) (ho : w.ownsRow B t 1 u n us) (ht : t ≠ 9) : ¬ u.ownBlock = some g := by
  obtain ⟨cs, c, hv, hb⟩ := h
  obtain ⟨hl, h | ⟨g', cap, cur, rfl, hb', hg', r⟩⟩ := ho
  · rw [h.1]; intro e; cases e
  · intro e
    simp [Value.ownBlock] at e
    subst e
    unfold Blk at hb
    rw [hg'] at hb
    simp at hb
    exact ht hb.2
theorem StrB.apartR {g B : Nat} {w : World} {v u : Value} {ss : List ByteArray} {X : List (List Int)} (h : StrB g w v ss) (ho : OwnRows B w u X) : ¬ u.ownBlock = some g := by
  obtain ⟨us, h1, _⟩ := ho
  exact h.apart h1 (by decide)

/-- What the loop has cut off: the parts ahead of place at', none of which c lies in, and no c from there on to k. -/
structure Cut (c : UInt8) (l : List UInt8) (ss : List ByteArray) (at' k : Nat) : Prop where
  le : at' ≤ k
  len : k ≤ l.length
  out : ss.map (fun s => s.data.toList) ++ parts c (l.drop at') = parts c l
  no : ∀ j : Nat, at' ≤ j → j < k → l[j]? ≠ some c
theorem Cut.start (c : UInt8) (l : List UInt8) : Cut c l [] 0 0 := ⟨Nat.le_refl _, Nat.zero_le _, by simp, fun j h1 h2 => by omega⟩
theorem Cut.skip {c : UInt8} {l : List UInt8} {ss : List ByteArray} {at' k : Nat} (h : Cut c l ss at' k) (hk : k < l.length) (hc : l[k] ≠ c) : Cut c l ss at' (k + 1) := by
  refine ⟨by have := h.le; omega, hk, h.out, fun j h1 h2 => ?_⟩
  rcases Nat.lt_or_ge j k with e | e
  · exact h.no j h1 e
  · have : j = k := by omega
    subst this
    rw [List.getElem?_eq_getElem hk]
    simpa using hc
theorem Cut.notin {c : UInt8} {l : List UInt8} {ss : List ByteArray} {at' k : Nat} (h : Cut c l ss at' k) : c ∉ (l.drop at').take (k - at') := by
  intro hin
  obtain ⟨j, hj, e⟩ := List.getElem_of_mem hin
  simp only [List.length_take, List.length_drop] at hj
  rw [List.getElem_take, List.getElem_drop] at e
  refine h.no (at' + j) (by omega) (by omega) ?_
  rw [List.getElem?_eq_getElem (by omega), e]
theorem Cut.hit {c : UInt8} {l : List UInt8} {ss : List ByteArray} {at' k : Nat} (h : Cut c l ss at' k) (hk : k < l.length) (hc : l[k] = c) {p : ByteArray} (hp : p.data.toList = (l.drop at').take (k - at')) : Cut c l (ss ++ [p]) (k + 1) (k + 1) := by
  have hle := h.le
  refine ⟨Nat.le_refl _, hk, ?_, fun j h1 h2 => by omega⟩
  have e : l.drop at' = (l.drop at').take (k - at') ++ c :: l.drop (k + 1) := by
    conv => lhs; rw [← List.take_append_drop (k - at') (l.drop at')]
    congr 1
    rw [List.drop_drop, show at' + (k - at') = k by omega, List.drop_eq_getElem_cons hk, hc]
  have := h.out
  rw [e, parts_hit _ h.notin] at this
  rw [List.map_append, List.append_assoc, ← this]
  simp [hp]
theorem Cut.last {c : UInt8} {l : List UInt8} {ss : List ByteArray} {at' : Nat} (h : Cut c l ss at' l.length) {p : ByteArray} (hp : p.data.toList = l.drop at') : (ss ++ [p]).map (fun s => s.data.toList) = parts c l := by
  have hn := h.notin
  rw [List.take_of_length_le (by rw [List.length_drop]; exact Nat.le_refl _)] at hn
  rw [← h.out, parts_none hn, List.map_append]
  simp [hp]

set_option maxHeartbeats 1600000 in
theorem c_l01Split (s : ByteArray) (c : UInt8) (w : World) (hn : s.size ≤ 1099511627776) :
    Calls Tryd.prog 50 #[.string s, .int .u8 (c.toNat : Int)] w (fun e w' => ∃ r ss, e = .returned r ∧ OwnStr w.heap.size w' r ss ∧ ss.map (fun s => s.data.toList) = parts c s.data.toList ∧ Below w.heap.size w w') := by
  have hsz : s.data.toList.length = s.size := by show s.data.toList.length = s.data.size; simp
  go_enter Tryd.func50, Tryd.ntmps50
  go_wp2
  go_loopw [5, 6, 7] (fun v a i wr => ∃ (k at' : Nat) (ss : List ByteArray) (sa : Option Addr) (sc : Nat), i = .int .i64 k ∧ a = .int .i64 at' ∧ at' ≤ k ∧ k ≤ s.size ∧ v = .slice sa ss.length sc ∧ Hid (Cut c s.data.toList ss at' k) ∧ Hid (ss.length ≤ k) ∧ Hid (Below w.heap.size w wr) ∧ Hid (OwnStr w.heap.size wr (.slice sa ss.length sc) ss)) (fun _ _ i _ => s.size - (intOf i).toNat)
  case atStart => exact ⟨0, 0, [], _, _, rfl, rfl, Nat.le_refl _, Nat.zero_le _, rfl, Lib.hid (Cut.start _ _), Lib.hid (Nat.le_refl _), Lib.hid ((Below.refl _ _).alloc (Nat.le_refl _) _), Lib.hid (OwnStr.made0 w (Nat.le_refl _))⟩
  case round =>
    obtain ⟨k, at', ss, sa, sc, rfl, rfl, hak, hk, rfl, HC, HL, HB, HO⟩ := hrel
    have HSz := Lib.hid HB.out.size
    by_cases hlt : k < s.size
    · have hat : s.data.toList[k]'(by omega) = s[k] := by simp [ByteArray.getElem_eq_getElem_data]
      by_cases hc : s[k] = c
      · have hd : ((s[k].toNat : Int) == (c.toNat : Int)) = true := by simp [hc]
        have HAt := Lib.hid (hat.trans hc)
        clear hc hat
        go_wp2_with (at_builtin; refine wpList_app_str w.heap.size wr _ ss (s.extract at' k) _ _ rfl rfl rfl HO.out rfl (by have := HL.out; omega) HSz.out ?_; intro a' c' w' hown' hkeep; have Hk := Lib.hid hkeep; have Ho' := Lib.hid hown'; clear hkeep hown')
        go_roundw
        case rel => exact ⟨k + 1, k + 1, ss ++ [s.extract at' k], a', c', by go_num, by go_num, Nat.le_refl _, hlt, by simp, Lib.hid (HC.out.hit (by omega) HAt.out (by simp [ByteArray.data_extract, List.drop_take])), Lib.hid (by have := HL.out; simp; omega), Lib.hid (HO.out.frame HB.out (Nat.le_refl _) HSz.out Hk.out), Lib.hid (by simpa using Ho'.out)⟩
        case measure => simp [intOf]; omega
      · have hd : ((s[k].toNat : Int) == (c.toNat : Int)) = false := by
          simp only [beq_eq_false_iff_ne]
          intro e
          exact hc (UInt8.toNat_inj.1 (by omega))
        have HAt := Lib.hid (show s.data.toList[k]'(by omega) ≠ c by rw [hat]; exact hc)
        clear hc hat
        go_wp2
        go_roundw
        case rel => exact ⟨k + 1, at', ss, sa, sc, by go_num, rfl, by omega, hlt, rfl, Lib.hid (HC.out.skip (by omega) HAt.out), Lib.hid (by have := HL.out; show _ ≤ _; omega), HB, HO⟩
        case measure => simp [intOf]; omega
    · obtain rfl : k = s.size := by omega
      have HC2 := Lib.hid (hsz ▸ HC.out)
      go_wp2_with (at_builtin; refine wpList_app_str w.heap.size wr _ ss (s.extract at' s.size) _ _ rfl rfl rfl HO.out rfl (by have := HL.out; omega) HSz.out ?_; intro a' c' w' hown' hkeep; have Hk := Lib.hid hkeep; have Ho' := Lib.hid hown'; clear hkeep hown')
      go_ret
      exact ⟨_, ss ++ [s.extract at' s.size], rfl, by simpa using Ho'.out, HC2.out.last (by have e := List.take_of_length_le (l := List.drop at' s.data.toList) (i := s.size - at') (by rw [List.length_drop]; omega); simpa [ByteArray.data_extract] using e), HO.out.frame HB.out (Nat.le_refl _) HSz.out Hk.out⟩

/-- A table read from a text, and whether there is one. -/
def RTab (w0 : World) (X : List (List Int)) (ok : Bool) (e : Ending) (w' : World) : Prop := ∃ r Y, e = .returned (.tuple #[r, .bool ok]) ∧ OwnRows w0.heap.size w' r Y ∧ (ok = true → Y = X) ∧ Below w0.heap.size w0 w'
theorem tOk_ss {l : List UInt8} {ss : List ByteArray} (h : ss.map (fun s => s.data.toList) = parts 47 l) : tOk l = (ss.all (fun s => okD (bsI s)) && isTab (ss.map fun s => readD (bsI s))) := by
  unfold tOk
  rw [← h, List.all_map, List.map_map]
  rfl
theorem tRes_ss {l : List UInt8} {ss : List ByteArray} (h : ss.map (fun s => s.data.toList) = parts 47 l) (hok : tOk l = true) : tRes l = ss.map fun s => readD (bsI s) := by
  rw [tRes_ok hok, ← h, List.map_map]
  rfl
theorem all_no {ss : List ByteArray} {k : Nat} (hk : k < ss.length) (h : okD (bsI ss[k]) = false) : ss.all (fun s => okD (bsI s)) = false := by
  rw [List.all_eq_false]
  exact ⟨ss[k], List.getElem_mem hk, by simp [h]⟩
theorem all_yes {ss : List ByteArray} (h : ∀ i (hi : i < ss.length), okD (bsI ss[i]) = true) : ss.all (fun s => okD (bsI s)) = true := by
  rw [List.all_eq_true]
  intro x hx
  obtain ⟨i, hi, rfl⟩ := List.getElem_of_mem hx
  exact h i hi
theorem le_sum : ∀ {l : List Nat} {x : Nat}, x ∈ l → x ≤ l.sum
  | a :: l, x, h => by
    rw [List.sum_cons]
    rcases List.mem_cons.1 h with rfl | h
    · omega
    · have := le_sum h; omega
theorem parts_size {l : List UInt8} {ss : List ByteArray} {c : UInt8} (h : ss.map (fun s => s.data.toList) = parts c l) : (∀ i (hi : i < ss.length), ss[i].size ≤ l.length) ∧ ss.length ≤ l.length + 1 := by
  have h1 := parts_len c l.length l (Nat.le_refl _)
  have hl : ss.length = (parts c l).length := by rw [← h]; simp
  refine ⟨fun i hi => ?_, by omega⟩
  have hm : ss[i].data.toList ∈ parts c l := by
    rw [← h]
    exact List.mem_map.2 ⟨ss[i], List.getElem_mem hi, rfl⟩
  have h2 : ss[i].data.toList.length ≤ ((parts c l).map List.length).sum := le_sum (List.mem_map.2 ⟨_, hm, rfl⟩)
  have h3 : ss[i].size = ss[i].data.toList.length := by show ss[i].data.size = _; simp
  have h4 : 1 ≤ (parts c l).length := List.length_pos_iff.2 (parts_ne c l)
  omega
theorem take_rows {ss : List ByteArray} {k : Nat} (hk : k < ss.length) : ((ss.take (k + 1)).map fun s => readD (bsI s)) = ((ss.take k).map fun s => readD (bsI s)) ++ [readD (bsI ss[k])] := by
  rw [List.take_succ_eq_append_getElem hk, List.map_append]; rfl

set_option maxHeartbeats 1600000 in
theorem c_l01Parse (s : ByteArray) (w : World) (hn : s.size ≤ 1099511627776) : Calls Tryd.prog 36 #[.string s] w (RTab w (tRes s.data.toList) (tOk s.data.toList)) := by
  have hl : s.data.toList.length = s.size := by show s.data.toList.length = s.data.size; simp
  have HN := Lib.hid hl; clear hl
  go_enter Tryd.func36, Tryd.ntmps36
  go_wp2_with fail
  refine (c_l01Split s 47 _ hn).mono ?_; rintro e w1 ⟨r, ss, rfl, ho, hss, hb1⟩
  obtain ⟨hp1, hp2⟩ := parts_size hss
  rw [HN.out] at hp1 hp2
  have hs0 : 0 < ss.length := by
    have := List.length_pos_iff.2 (parts_ne 47 s.data.toList)
    rw [← hss] at this; simpa using this
  obtain ⟨g, hsb, -⟩ := ho.strB hs0
  obtain ⟨cs, sc, rfl, hcs⟩ := hsb
  have HS := Lib.hid (show StrB g w1 (.slice (some ⟨g, 0, none⟩) ss.length sc) ss from ⟨cs, sc, rfl, hcs⟩)
  have HSS := Lib.hid hss; have HB1 := Lib.hid hb1; have HP := Lib.hid hp1
  have hsl : ss.length ≤ 1099511627777 := by omega
  clear ho hss hb1 hcs hp1 hp2
  have hbz : Below w1.heap.size w1 (w1.alloc (.cells #[] 32)) := (Below.refl _ _).alloc (Nat.le_refl _) _
  have HB2 := Lib.hid (bb HB1.out hbz); have HS2 := Lib.hid (HS.out.under hbz)
  have HT0 := Lib.hid ((OwnRows.made0 w1 (Nat.le_refl w1.heap.size)).mono HB1.out.size)
  clear hbz HB1 HS
  go_wp2
  go_loopw [5, 6, 7, 8] (fun t x _ _ wr => ∃ (k : Nat) (ra : Option Addr) (rc : Nat), k ≤ ss.length ∧ x = .int .i64 k ∧ t = .slice ra k rc ∧ Hid (Below w.heap.size w wr) ∧ Hid (StrB g wr (.slice (some ⟨g, 0, none⟩) ss.length sc) ss) ∧ Hid (OwnRows w.heap.size wr (.slice ra k rc) ((ss.take k).map fun s => readD (bsI s))) ∧ Hid (∀ i (hi : i < ss.length), i < k → okD (bsI ss[i]) = true)) (fun _ x _ _ _ => ss.length - (intOf x).toNat)
  case atStart => exact ⟨0, _, _, Nat.zero_le _, rfl, rfl, HB2, HS2, Lib.hid (by simpa using HT0.out), Lib.hid fun i hi h => by omega⟩
  case round =>
    clear HB2 HS2 HT0
    obtain ⟨k, ra, rc, hk, rfl, rfl, HB, HS, HO, HA⟩ := hrel
    obtain ⟨wo, rfl⟩ : ∃ wo : World, wo = wr := ⟨_, rfl⟩
    by_cases hlt : k < ss.length
    · have h1 := HS.out.cell k hlt
      have hsz : ss[k].size ≤ 1099511627776 := by have := HP.out k hlt; omega
      go_wp2_with fail
      refine (c_l01Read ss[k] _ hsz).mono ?_; rintro e w2 ⟨r2, rfl, ho2, hb2⟩
      obtain ⟨a2, c2, rfl, -⟩ := ho2.shape
      have HO2 := Lib.hid ho2; have HBs := Lib.hid hb2; have HBw := Lib.hid (bb HB.out hb2); have HSr := Lib.hid (HS.out.under hb2); have HI := Lib.hid (HO.out.inn.under hb2)
      have HSz := Lib.hid HB.out.size
      clear ho2 hb2 h1
      by_cases hok : okD (bsI ss[k]) = true
      · have HOk := Lib.hid hok
        rw [hok]
        clear hok
        have hln : ((ss.take k).map fun s => readD (bsI s)).length = k := by simp; omega
        have HL := Lib.hid hln
        clear hln
        go_wp2_with (at_builtin; refine wpList_app_row w.heap.size wo w2 _ ((ss.take k).map fun s => readD (bsI s)) _ (readD (bsI ss[k])) _ _ rfl rfl rfl HO.out HBs.out HO2.out rfl (by rw [HL.out]; omega) HSz.out ?_; intro a9 c9 w9 hown hkeep; rw [HL.out]; have HOwn := Lib.hid hown; have HKp := Lib.hid hkeep; clear hown hkeep)
        go_roundw
        case rel =>
          have h9 := HOwn.out
          rw [HL.out, ← take_rows hlt] at h9
          refine ⟨k + 1, a9, c9, hlt, by go_num, rfl, Lib.hid (HO.out.frame HBw.out (Nat.le_refl _) (Nat.le_trans HSz.out HBs.out.size) HKp.out), ?_, Lib.hid h9, Lib.hid fun i hi h => ?_⟩
          · exact Lib.hid (HSr.out.keep HKp.out (HSr.out.apartR (HO.out.under HBs.out)))
          · rcases Nat.lt_or_ge i k with e | e
            · exact HA.out i hi e
            · have : i = k := by omega
              subst this; exact HOk.out
        case measure => simp [intOf]; omega
      · have hok2 : okD (bsI ss[k]) = false := by simpa using hok
        have hno : tOk s.data.toList = false := by rw [tOk_ss HSS.out, all_no hlt hok2]; rfl
        have HNo := Lib.hid hno
        rw [hok2]
        clear hok hok2 hno
        go_wp2
        go_ret2
        exact ⟨.slice none 0 0, [], by rw [HNo.out]; rfl, OwnRows.nil _ _, fun h => (by rw [HNo.out] at h; cases h), HBw.out⟩
    · obtain rfl : k = ss.length := by omega
      have hall := all_yes fun i hi => HA.out i hi hi
      have HAll := Lib.hid hall
      have h9 := HO.out
      rw [List.take_of_length_le (Nat.le_refl _)] at h9
      have HO9 := Lib.hid h9
      clear hall h9
      go_wp2_with fail
      refine (c_l01Table _ (ss.map fun s => readD (bsI s)) _ (by have := HO9.out.rows; exact this)).mono ?_; rintro e w' ⟨rfl, rfl⟩
      by_cases ht : isTab (ss.map fun s => readD (bsI s)) = true
      · have hyes : tOk s.data.toList = true := by rw [tOk_ss HSS.out, HAll.out, ht]; rfl
        have HYes := Lib.hid hyes
        rw [ht]
        clear ht hyes
        go_wp2
        go_ret2
        exact ⟨_, _, by rw [HYes.out]; rfl, HO9.out, fun _ => (tRes_ss HSS.out HYes.out).symm, HB.out⟩
      · have ht2 : isTab (ss.map fun s => readD (bsI s)) = false := by simpa using ht
        have hno : tOk s.data.toList = false := by rw [tOk_ss HSS.out, HAll.out, ht2]; rfl
        have HNo := Lib.hid hno
        rw [ht2]
        clear ht ht2 hno
        go_wp2
        go_ret2
        exact ⟨.slice none 0 0, [], by rw [HNo.out]; rfl, OwnRows.nil _ _, fun h => (by rw [HNo.out] at h; cases h), HB.out⟩

theorem split_ss (s : ByteArray) : ((Lib.splitB ⟨#[47]⟩ 0 (Lib.countB s ⟨#[47]⟩) s).map fun p => p.data.toList) = parts 47 s.data.toList := Lib.splitB_data _ _ _ _
set_option maxHeartbeats 1600000 in
theorem c_readTable (s : ByteArray) (m : Int) (w : World) (hm : w.cell? ⟨0, 0, none⟩ = some (.int .i64 m)) (hn : s.size ≤ 1099511627776) : Calls Tryd.prog 30 #[.string s] w (RTab w (tRes s.data.toList) (tOk s.data.toList)) := by
  have hl : s.data.toList.length = s.size := by show s.data.toList.length = s.data.size; simp
  have HN := Lib.hid hl; have HM := Lib.hid hm; clear hl hm
  by_cases hbig : 156 < s.size
  · have hno : tOk s.data.toList = false := by
      cases h : tOk s.data.toList
      · rfl
      · have := tOk_short h
        rw [HN.out] at this; omega
    have HNo := Lib.hid hno
    have hbI : (156 : Int) < s.size := by omega
    clear hno hbig
    go_enter Tryd.func30, Tryd.ntmps30
    go_wp2
    go_ret2
    exact ⟨.slice none 0 0, [], by rw [HNo.out]; rfl, OwnRows.nil _ _, fun h => (by rw [HNo.out] at h; cases h), Below.refl _ _⟩
  have hbI : ¬ (156 : Int) < s.size := by omega
  obtain ⟨ss, hss'⟩ : ∃ ss, Lib.splitB ⟨#[47]⟩ 0 (Lib.countB s ⟨#[47]⟩) s = ss := ⟨_, rfl⟩
  have hss := split_ss s
  rw [hss'] at hss
  have hsl : ss.length = Lib.countB s ⟨#[47]⟩ + 1 := by rw [← hss']; exact Lib.splitB_all _ (by decide) 0 _ s rfl
  obtain ⟨hp1, hp2⟩ := parts_size hss
  rw [HN.out] at hp1 hp2
  have HSp := Lib.hid hss'; have HSl := Lib.hid hsl; have HSS := Lib.hid hss; have HP := Lib.hid hp1
  have hsn : s.size < 4294967281 := by omega
  have hln : ss.length ≤ 1099511627777 := by omega
  clear hss hss' hsl hp1 hp2
  go_enter Tryd.func30, Tryd.ntmps30
  go_wp2_with fail
  refine (Tryd.strings_Split s ⟨#[47]⟩ m _ hsn HM.out (by decide)).mono ?_; rintro e w1 ⟨rfl, hw1⟩
  rw [HSp.out] at hw1
  rw [← HSl.out]
  have hb1 : Below w.heap.size w w1 := by rw [hw1]; exact (Below.refl _ _).alloc (Nat.le_refl _) _
  have hst : StrB w.heap.size w1 (.slice (some ⟨w.heap.size, 0, none⟩) ss.length ss.length) ss := by
    refine ⟨[], ss.length, rfl, ?_⟩
    rw [hw1, List.append_nil]
    exact Blk.new w (ss.map Value.string) 9
  have HB1 := Lib.hid hb1; have HS1 := Lib.hid hst
  clear hw1 hb1 hst
  go_wp2
  go_loopw [4, 6, 7, 8, 15] (fun t _ _ _ x wr => ∃ (k : Nat) (ra : Option Addr) (rc : Nat), k ≤ ss.length ∧ x = .int .i64 k ∧ t = .slice ra k rc ∧ Hid (Below w.heap.size w wr) ∧ Hid (StrB w.heap.size wr (.slice (some ⟨w.heap.size, 0, none⟩) ss.length ss.length) ss) ∧ Hid (OwnRows w.heap.size wr (.slice ra k rc) ((ss.take k).map fun s => readD (bsI s))) ∧ Hid (∀ i (hi : i < ss.length), i < k → okD (bsI ss[i]) = true)) (fun _ _ _ _ x _ => ss.length - (intOf x).toNat)
  case atStart => exact ⟨0, _, _, Nat.zero_le _, rfl, rfl, HB1, HS1, Lib.hid (by simpa using OwnRows.nil _ _), Lib.hid fun i hi h => by omega⟩
  case round =>
    clear HB1 HS1
    obtain ⟨k, ra, rc, hk, rfl, rfl, HB, HS, HO, HA⟩ := hrel
    obtain ⟨wo, rfl⟩ : ∃ wo : World, wo = wr := ⟨_, rfl⟩
    by_cases hlt : k < ss.length
    · have h1 := HS.out.cell k hlt
      have hsz : ss[k].size ≤ 1099511627776 := by have := HP.out k hlt; omega
      go_wp2_with fail
      refine (c_readDigits ss[k] _ hsz).mono ?_; rintro e w2 ⟨r2, rfl, ho2, hb2⟩
      obtain ⟨a2, c2, rfl, -⟩ := ho2.shape
      have HO2 := Lib.hid ho2; have HBs := Lib.hid hb2; have HBw := Lib.hid (bb HB.out hb2); have HSr := Lib.hid (HS.out.under hb2)
      have HSz := Lib.hid HB.out.size
      clear ho2 hb2 h1
      by_cases hok : okD (bsI ss[k]) = true
      · have HOk := Lib.hid hok
        rw [hok]
        clear hok
        have hln : ((ss.take k).map fun s => readD (bsI s)).length = k := by simp; omega
        have HL := Lib.hid hln
        clear hln
        go_wp2_with (at_builtin; refine wpList_app_row w.heap.size wo w2 _ ((ss.take k).map fun s => readD (bsI s)) _ (readD (bsI ss[k])) _ _ rfl rfl rfl HO.out HBs.out HO2.out rfl (by rw [HL.out]; omega) HSz.out ?_; intro a9 c9 w9 hown hkeep; rw [HL.out]; have HOwn := Lib.hid hown; have HKp := Lib.hid hkeep; clear hown hkeep)
        go_roundw
        case rel =>
          have h9 := HOwn.out
          rw [HL.out, ← take_rows hlt] at h9
          refine ⟨k + 1, a9, c9, hlt, by go_num, rfl, Lib.hid (HO.out.frame HBw.out (Nat.le_refl _) (Nat.le_trans HSz.out HBs.out.size) HKp.out), ?_, Lib.hid h9, Lib.hid fun i hi h => ?_⟩
          · exact Lib.hid (HSr.out.keep HKp.out (HSr.out.apartR (HO.out.under HBs.out)))
          · rcases Nat.lt_or_ge i k with e | e
            · exact HA.out i hi e
            · have : i = k := by omega
              subst this; exact HOk.out
        case measure => simp [intOf]; omega
      · have hok2 : okD (bsI ss[k]) = false := by simpa using hok
        have hno : tOk s.data.toList = false := by rw [tOk_ss HSS.out, all_no hlt hok2]; rfl
        have HNo := Lib.hid hno
        rw [hok2]
        clear hok hok2 hno
        go_wp2
        go_ret2
        exact ⟨.slice none 0 0, [], by rw [HNo.out]; rfl, OwnRows.nil _ _, fun h => (by rw [HNo.out] at h; cases h), HBw.out⟩
    · obtain rfl : k = ss.length := by omega
      have hall := all_yes fun i hi => HA.out i hi hi
      have HAll := Lib.hid hall
      have h9 := HO.out
      rw [List.take_of_length_le (Nat.le_refl _)] at h9
      have HO9 := Lib.hid h9
      have hfin : tOk s.data.toList = isTab (ss.map fun s => readD (bsI s)) := by rw [tOk_ss HSS.out, hall]; rfl
      have HFin := Lib.hid hfin
      clear hall h9 hfin
      go_wp2_with fail
      refine (c_IsTable _ (ss.map fun s => readD (bsI s)) _ (by have := HO9.out.rows; exact this)).mono ?_; rintro e w' ⟨rfl, hb9⟩
      have HO10 := Lib.hid (HO9.out.under hb9); have HB10 := Lib.hid (bb HB.out hb9)
      clear hb9
      go_wp2
      go_ret2
      exact ⟨_, _, by rw [HFin.out]; rfl, HO10.out, fun h => (tRes_ss HSS.out h).symm, HB10.out⟩
end Go.Proofs.YtnbhghgkjcfcmaaDoor

namespace Go.Proofs.YtnbhghgkjcfcmaaDoor
set_option linter.unusedVariables false
set_option linter.unusedSimpArgs false
open Go Go.RowKit

def ptCode (l : List UInt8) : Int := if tOk l then 0 else 6
theorem tRes_no {l : List UInt8} (h : tOk l = false) : tRes l = [] := by simp [tRes, h]
theorem rtab_end {w : World} {l : List UInt8} {r : Value} {Y : List (List Int)} {w' : World} (ho : OwnRows w.heap.size w' r Y) (hY : tOk l = true → Y = tRes l) (h : tOk l = true) : OwnRows w.heap.size w' r (tRes l) := by
  rw [← hY h]; exact ho

set_option maxHeartbeats 400000 in
theorem c_specParseTable (s : ByteArray) (w : World) (hn : s.size ≤ 1099511627776) :
    Calls Tryd.prog 12 #[.string s] w (RRowsC w (tRes s.data.toList) (ptCode s.data.toList)) := by
  go_enter Tryd.func12, Tryd.ntmps12
  go_wp2_with fail
  refine (c_l01Parse _ _ hn).mono ?_; rintro e w1 ⟨r, Y, rfl, ho, hY, hb⟩
  have HB := Lib.hid hb
  by_cases h1 : tOk s.data.toList = true
  · have HO := Lib.hid (rtab_end ho hY h1)
    obtain ⟨ra, rc, hr, -⟩ := HO.out.rows.shape
    subst hr
    have H1 := Lib.hid h1
    rw [h1]
    clear ho hY hb h1
    go_wp2
    go_ret2
    exact ⟨_, by simp [ptCode, H1.out], HO.out, HB.out⟩
  · have h2 : tOk s.data.toList = false := by simpa using h1
    have H1 := Lib.hid h2
    obtain ⟨ra, rc, hr, -⟩ := ho.rows.shape
    subst hr
    rw [h2]
    clear ho hY hb h1 h2
    go_wp2
    go_ret2
    exact ⟨.slice none 0 0, by simp [ptCode, H1.out], by rw [tRes_no H1.out]; exact OwnRows.nil _ _, HB.out⟩

set_option maxHeartbeats 400000 in
theorem c_ParseTable (s : ByteArray) (m : Int) (w : World) (hm : w.cell? ⟨0, 0, none⟩ = some (.int .i64 m)) (hn : s.size ≤ 1099511627776) :
    Calls Tryd.prog 9 #[.string s] w (RRowsC w (tRes s.data.toList) (ptCode s.data.toList)) := by
  have HM := Lib.hid hm; clear hm
  go_enter Tryd.func9, Tryd.ntmps9
  go_wp2_with fail
  refine (c_readTable _ m _ HM.out hn).mono ?_; rintro e w1 ⟨r, Y, rfl, ho, hY, hb⟩
  have HB := Lib.hid hb
  by_cases h1 : tOk s.data.toList = true
  · have HO := Lib.hid (rtab_end ho hY h1)
    obtain ⟨ra, rc, hr, -⟩ := HO.out.rows.shape
    subst hr
    have H1 := Lib.hid h1
    rw [h1]
    clear ho hY hb h1
    go_wp2
    go_ret2
    exact ⟨_, by simp [ptCode, H1.out], HO.out, HB.out⟩
  · have h2 : tOk s.data.toList = false := by simpa using h1
    have H1 := Lib.hid h2
    obtain ⟨ra, rc, hr, -⟩ := ho.rows.shape
    subst hr
    rw [h2]
    clear ho hY hb h1 h2
    go_wp2
    go_ret2
    exact ⟨.slice none 0 0, by simp [ptCode, H1.out], by rw [tRes_no H1.out]; exact OwnRows.nil _ _, HB.out⟩
theorem total_le12 : ∀ (t : List (List Int)), (∀ r ∈ t, r.length ≤ 12) → total t ≤ t.length * 12
  | [], _ => by simp [total]
  | a :: t, h => by
    have h1 := h a (by simp)
    have h2 := total_le12 t fun x hx => h x (by simp [hx])
    simp [total, Nat.add_mul]; omega
theorem tRes_total (l : List UInt8) : total (tRes l) ≤ 144 := by
  cases h : tOk l
  · rw [tRes_no h]; simp [total]
  · have h2 := h
    unfold tOk at h2
    rw [Bool.and_eq_true] at h2
    have ht := h2.2
    rw [← tRes_ok h] at ht
    have hl := isTab_len ht
    have h1 := total_le12 (tRes l) fun r hr => by
      obtain ⟨i, hi, rfl⟩ := List.getElem_of_mem hr
      have := isTab_row ht (x := (i : Int)) (by omega) (by omega)
      rw [row_nat _ _ hi] at this; omega
    omega
end Go.Proofs.YtnbhghgkjcfcmaaDoor

namespace Go.Proofs.YtnbhghgkjcfcmaaDoor
set_option linter.unusedVariables false
set_option linter.unusedSimpArgs false
open Go Go.RowKit

theorem tt_facts {A : List (List Int)} {S : ByteArray} {q : Int} (hS : ttRes A = S) (hq : ttCode A = q) : q = 0 → tRes S.data.toList = A ∧ ptCode S.data.toList = 0 ∧ S.size ≤ 1099511627776 := fun h0 => by
  subst hq
  have ht : isTab A = true := by
    unfold ttCode at h0
    split at h0
    · assumption
    · simp at h0
  have e : S = tabText A := by rw [← hS]; simp [ttRes, ht]
  obtain ⟨h1, h2, _⟩ := tab_read ht
  have h3 := tOk_short h1
  have h4 : (tabText A).data.toList.length = (tabText A).size := rfl
  rw [e]
  exact ⟨h2, by simp [ptCode, h1], by omega⟩
theorem pt_facts {s : ByteArray} {U : List (List Int)} {q : Int} (hU : tRes s.data.toList = U) (hq : ptCode s.data.toList = q) : q = 0 → ttRes U = s ∧ ttCode U = 0 := fun h0 => by
  subst hq
  have ht : tOk s.data.toList = true := by
    unfold ptCode at h0
    split at h0
    · assumption
    · simp at h0
  obtain ⟨h1, h2⟩ := tab_text ht
  rw [hU] at h1 h2
  exact ⟨by simp only [ttRes, h1, if_true]; exact bytes_ext h2, by simp [ttCode, h1]⟩
theorem pp_facts {s : ByteArray} {P : List Int} {q : Int} (hP : ppRes s = P) (hq : ppCode s = q) : q = 0 → permText P = s ∧ permCode P = 0 := fun h0 => by
  subst hq
  have ht : ppOk s = true := by
    unfold ppCode at h0
    split at h0
    · assumption
    · simp at h0
  obtain ⟨h1, h2⟩ := perm_text ht
  rw [hP] at h1 h2
  exact ⟨h2, by simp [permCode, h1]⟩

set_option maxRecDepth 100000 in
set_option maxHeartbeats 16000000 in
theorem law_TableTexts (v : Value) (bs : List Int) (m : Int) (w : World) (hm : w.cell? ⟨0, 0, none⟩ = some (.int .i64 m)) (hv : Bytes w v bs) : Calls Tryd.prog 3 #[v] w (RVal w (.bool true)) := by
  have HM := Lib.hid hm; clear hm
  have HV : Hid (BytesR w v bs.length) := Lib.hid hv
  obtain ⟨a, c, hva, -⟩ := hv
  subst hva
  go_enter Tryd.func3, Tryd.ntmps3
  go_wp2_with fail
  refine (c_big a bs.length c _).mono ?_; rintro e w' ⟨rfl, rfl⟩
  by_cases hbig : 4096 < bs.length
  case pos =>
    have hd : decide (4096 < bs.length) = true := by simpa using hbig
    rw [hd]; clear hd hbig
    go_wp2
    go_ret
    exact ⟨rfl, Below.refl _ _⟩
  have hd : decide (4096 < bs.length) = false := by simpa using hbig
  rw [hd]; clear hd
  go_wp2_with fail
  refine (c_DrawTableText _ bs.length _ HV.out (by omega)).mono ?_; rintro e w1 ⟨v1, A, rfl, hr, hb⟩
  obtain ⟨a1, c1, hr1, -⟩ := hr.shape
  subst hr1
  have H1 := Lib.hid (LS.addR (w := w) (L := []) (M := []) (Bx := []) ⟨fun e he => by simp at he, fun e he => by simp at he, fun e he => by simp at he, hb⟩ hr)
  clear hr hb
  obtain ⟨S, hS⟩ : ∃ S, ttRes A = S := ⟨_, rfl⟩
  obtain ⟨q1, hq1⟩ : ∃ q, ttCode A = q := ⟨_, rfl⟩
  have E := Lib.hid (And.intro hS hq1)
  have hqq1 : (q1 != q1) = false := by simp
  have FT := Lib.hid (tt_facts hS hq1)
  clear hS hq1
  go_wp2_with fail
  refine (c_TableText _ A _ (H1.out.getR (X := A) (by simp))).mono ?_; rintro e w2 ⟨rfl, hb⟩
  rw [E.out.1, E.out.2]
  have H2 := Lib.hid (H1.out.under hb)
  clear hb
  go_wp2_with fail
  refine (c_specTableText _ A _ (H2.out.getR (X := A) (by simp))).mono ?_; rintro e w3 ⟨rfl, hb⟩
  rw [E.out.1, E.out.2]
  have H3 := Lib.hid (H2.out.under hb)
  clear hb
  by_cases h1 : q1 = 0
  · subst h1
    have FT2 := Lib.hid (FT.out rfl)
    clear hqq1
    go_wp2_with fail
    refine (c_ParseTable S m _ (cell_under H3.out.2.2.2 HM.out) FT2.out.2.2).mono ?_; rintro e w4 ⟨back, rfl, hs, hb⟩
    rw [FT2.out.1] at hs
    rw [FT2.out.2.1]
    have H4 := Lib.hid ((H3.out.under hb).addR hs.rows)
    clear hs hb
    go_wp2_with fail
    refine (c_likeRows5 _ _ A A _ (H4.out.getR (X := A) (by simp)) (H4.out.getR (X := A) (by simp))).mono ?_; rintro e w5 ⟨rfl, hb⟩
    rw [show decide (A = A) = true from by simp]
    have H5 := Lib.hid (H4.out.under hb)
    clear hb
    have HVo := Lib.hid (HV.out.below H5.out.2.2.2)
    go_wp2_with fail
    refine (c_DrawParseTable _ bs.length _ HVo.out (by omega)).mono ?_; rintro e w6 ⟨ot, rfl, hot, hb⟩
    have HOt := Lib.hid hot
    have H6 := Lib.hid (H5.out.under hb)
    clear hb hot
    obtain ⟨U, hU⟩ : ∃ U, tRes ot.data.toList = U := ⟨_, rfl⟩
    obtain ⟨q2, hq2⟩ : ∃ q, ptCode ot.data.toList = q := ⟨_, rfl⟩
    have EU := Lib.hid (And.intro hU hq2)
    have hqq2 : (q2 != q2) = false := by simp
    have FU := Lib.hid (pt_facts hU hq2)
    clear hU hq2
    go_wp2_with fail
    refine (c_ParseTable ot m _ (cell_under H6.out.2.2.2 HM.out) HOt.out).mono ?_; rintro e w7 ⟨uu, rfl, hs, hb⟩
    rw [EU.out.1] at hs
    rw [EU.out.2]
    have H7 := Lib.hid ((H6.out.under hb).addR hs.rows)
    clear hs hb
    go_wp2_with fail
    refine (c_specParseTable ot _ HOt.out).mono ?_; rintro e w8 ⟨du, rfl, hs, hb⟩
    rw [EU.out.1] at hs
    rw [EU.out.2]
    have H8 := Lib.hid ((H7.out.under hb).addR hs.rows)
    clear hs hb
    go_wp2_with fail
    refine (c_likeRows5 _ _ U U _ (H8.out.getR (X := U) (by simp)) (H8.out.getR (X := U) (by simp))).mono ?_; rintro e w9 ⟨rfl, hb⟩
    rw [show decide (U = U) = true from by simp]
    have H9 := Lib.hid (H8.out.under hb)
    clear hb
    by_cases h2 : q2 = 0
    · subst h2
      have FU2 := Lib.hid (FU.out rfl)
      clear hqq2
      go_wp2_with fail
      refine (c_TableText _ U _ (H9.out.getR (X := U) (by simp))).mono ?_; rintro e w10 ⟨rfl, hb⟩
      rw [FU2.out.1, FU2.out.2]
      have H10 := Lib.hid (H9.out.under hb)
      clear hb
      have HVl := Lib.hid (HV.out.below H10.out.2.2.2)
      go_wp2_with fail
      refine (c_DrawParsePermutation _ bs.length _ HVl.out (by omega)).mono ?_; rintro e w11 ⟨ln, rfl, hln, hb⟩
      have HLn := Lib.hid hln
      have H11 := Lib.hid (H10.out.under hb)
      clear hb hln
      obtain ⟨P, hP⟩ : ∃ P, ppRes ln = P := ⟨_, rfl⟩
      obtain ⟨q3, hq3⟩ : ∃ q, ppCode ln = q := ⟨_, rfl⟩
      have EP := Lib.hid (And.intro hP hq3)
      have hqq3 : (q3 != q3) = false := by simp
      have FP := Lib.hid (pp_facts hP hq3)
      clear hP hq3
      go_wp2_with fail
      refine (c_ParsePermutation ln _ HLn.out).mono ?_; rintro e w12 ⟨pp, rfl, hs, hb⟩
      rw [EP.out.1] at hs
      rw [EP.out.2]
      have H12 := Lib.hid ((H11.out.under hb).addI hs.ints)
      clear hs hb
      go_wp2_with fail
      refine (c_specParsePermutation ln _ HLn.out).mono ?_; rintro e w13 ⟨qq, rfl, hs, hb⟩
      rw [EP.out.1] at hs
      rw [EP.out.2]
      have H13 := Lib.hid ((H12.out.under hb).addI hs.ints)
      clear hs hb
      go_wp2_with fail
      refine (c_likeInts _ _ P P _ (H13.out.getI (xs := P) (by simp)) (H13.out.getI (xs := P) (by simp))).mono ?_; rintro e w14 ⟨rfl, hb⟩
      rw [show decide (P = P) = true from by simp]
      have H14 := Lib.hid (H13.out.under (below_of_drewN hb))
      clear hb
      by_cases h3 : q3 = 0
      case neg =>
        have hb3 : (q3 != 0) = true := by simpa using h3
        go_wp2
        go_ret
        exact ⟨rfl, H14.out.2.2.2⟩
      subst h3
      have FP2 := Lib.hid (FP.out rfl)
      clear hqq3
      go_wp2_with fail
      refine (c_PermutationText _ P _ (H14.out.getI (xs := P) (by simp))).mono ?_; rintro e w15 ⟨rfl, hb⟩
      rw [FP2.out.1, FP2.out.2]
      have H15 := Lib.hid (H14.out.under hb)
      clear hb
      go_wp2
      go_ret
      exact ⟨rfl, H15.out.2.2.2⟩
    · have hb2 : (q2 == 0) = false := by simpa using h2
      clear h2
      have HVl := Lib.hid (HV.out.below H9.out.2.2.2)
      go_wp2_with fail
      refine (c_DrawParsePermutation _ bs.length _ HVl.out (by omega)).mono ?_; rintro e w10 ⟨ln, rfl, hln, hb⟩
      have HLn := Lib.hid hln
      have H10 := Lib.hid (H9.out.under hb)
      clear hb hln
      obtain ⟨P, hP⟩ : ∃ P, ppRes ln = P := ⟨_, rfl⟩
      obtain ⟨q3, hq3⟩ : ∃ q, ppCode ln = q := ⟨_, rfl⟩
      have EP := Lib.hid (And.intro hP hq3)
      have hqq3 : (q3 != q3) = false := by simp
      have FP := Lib.hid (pp_facts hP hq3)
      clear hP hq3
      go_wp2_with fail
      refine (c_ParsePermutation ln _ HLn.out).mono ?_; rintro e w11 ⟨pp, rfl, hs, hb⟩
      rw [EP.out.1] at hs
      rw [EP.out.2]
      have H11 := Lib.hid ((H10.out.under hb).addI hs.ints)
      clear hs hb
      go_wp2_with fail
      refine (c_specParsePermutation ln _ HLn.out).mono ?_; rintro e w12 ⟨qq, rfl, hs, hb⟩
      rw [EP.out.1] at hs
      rw [EP.out.2]
      have H12 := Lib.hid ((H11.out.under hb).addI hs.ints)
      clear hs hb
      go_wp2_with fail
      refine (c_likeInts _ _ P P _ (H12.out.getI (xs := P) (by simp)) (H12.out.getI (xs := P) (by simp))).mono ?_; rintro e w13 ⟨rfl, hb⟩
      rw [show decide (P = P) = true from by simp]
      have H13 := Lib.hid (H12.out.under (below_of_drewN hb))
      clear hb
      by_cases h3 : q3 = 0
      case neg =>
        have hb3 : (q3 != 0) = true := by simpa using h3
        go_wp2
        go_ret
        exact ⟨rfl, H13.out.2.2.2⟩
      subst h3
      have FP2 := Lib.hid (FP.out rfl)
      clear hqq3
      go_wp2_with fail
      refine (c_PermutationText _ P _ (H13.out.getI (xs := P) (by simp))).mono ?_; rintro e w14 ⟨rfl, hb⟩
      rw [FP2.out.1, FP2.out.2]
      have H14 := Lib.hid (H13.out.under hb)
      clear hb
      go_wp2
      go_ret
      exact ⟨rfl, H14.out.2.2.2⟩
  · have hb1 : (q1 == 0) = false := by simpa using h1
    clear h1
    have HVo := Lib.hid (HV.out.below H3.out.2.2.2)
    go_wp2_with fail
    refine (c_DrawParseTable _ bs.length _ HVo.out (by omega)).mono ?_; rintro e w4 ⟨ot, rfl, hot, hb⟩
    have HOt := Lib.hid hot
    have H4 := Lib.hid (H3.out.under hb)
    clear hb hot
    obtain ⟨U, hU⟩ : ∃ U, tRes ot.data.toList = U := ⟨_, rfl⟩
    obtain ⟨q2, hq2⟩ : ∃ q, ptCode ot.data.toList = q := ⟨_, rfl⟩
    have EU := Lib.hid (And.intro hU hq2)
    have hqq2 : (q2 != q2) = false := by simp
    have FU := Lib.hid (pt_facts hU hq2)
    clear hU hq2
    go_wp2_with fail
    refine (c_ParseTable ot m _ (cell_under H4.out.2.2.2 HM.out) HOt.out).mono ?_; rintro e w5 ⟨uu, rfl, hs, hb⟩
    rw [EU.out.1] at hs
    rw [EU.out.2]
    have H5 := Lib.hid ((H4.out.under hb).addR hs.rows)
    clear hs hb
    go_wp2_with fail
    refine (c_specParseTable ot _ HOt.out).mono ?_; rintro e w6 ⟨du, rfl, hs, hb⟩
    rw [EU.out.1] at hs
    rw [EU.out.2]
    have H6 := Lib.hid ((H5.out.under hb).addR hs.rows)
    clear hs hb
    go_wp2_with fail
    refine (c_likeRows5 _ _ U U _ (H6.out.getR (X := U) (by simp)) (H6.out.getR (X := U) (by simp))).mono ?_; rintro e w7 ⟨rfl, hb⟩
    rw [show decide (U = U) = true from by simp]
    have H7 := Lib.hid (H6.out.under hb)
    clear hb
    by_cases h2 : q2 = 0
    · subst h2
      have FU2 := Lib.hid (FU.out rfl)
      clear hqq2
      go_wp2_with fail
      refine (c_TableText _ U _ (H7.out.getR (X := U) (by simp))).mono ?_; rintro e w8 ⟨rfl, hb⟩
      rw [FU2.out.1, FU2.out.2]
      have H8 := Lib.hid (H7.out.under hb)
      clear hb
      have HVl := Lib.hid (HV.out.below H8.out.2.2.2)
      go_wp2_with fail
      refine (c_DrawParsePermutation _ bs.length _ HVl.out (by omega)).mono ?_; rintro e w9 ⟨ln, rfl, hln, hb⟩
      have HLn := Lib.hid hln
      have H9 := Lib.hid (H8.out.under hb)
      clear hb hln
      obtain ⟨P, hP⟩ : ∃ P, ppRes ln = P := ⟨_, rfl⟩
      obtain ⟨q3, hq3⟩ : ∃ q, ppCode ln = q := ⟨_, rfl⟩
      have EP := Lib.hid (And.intro hP hq3)
      have hqq3 : (q3 != q3) = false := by simp
      have FP := Lib.hid (pp_facts hP hq3)
      clear hP hq3
      go_wp2_with fail
      refine (c_ParsePermutation ln _ HLn.out).mono ?_; rintro e w10 ⟨pp, rfl, hs, hb⟩
      rw [EP.out.1] at hs
      rw [EP.out.2]
      have H10 := Lib.hid ((H9.out.under hb).addI hs.ints)
      clear hs hb
      go_wp2_with fail
      refine (c_specParsePermutation ln _ HLn.out).mono ?_; rintro e w11 ⟨qq, rfl, hs, hb⟩
      rw [EP.out.1] at hs
      rw [EP.out.2]
      have H11 := Lib.hid ((H10.out.under hb).addI hs.ints)
      clear hs hb
      go_wp2_with fail
      refine (c_likeInts _ _ P P _ (H11.out.getI (xs := P) (by simp)) (H11.out.getI (xs := P) (by simp))).mono ?_; rintro e w12 ⟨rfl, hb⟩
      rw [show decide (P = P) = true from by simp]
      have H12 := Lib.hid (H11.out.under (below_of_drewN hb))
      clear hb
      by_cases h3 : q3 = 0
      case neg =>
        have hb3 : (q3 != 0) = true := by simpa using h3
        go_wp2
        go_ret
        exact ⟨rfl, H12.out.2.2.2⟩
      subst h3
      have FP2 := Lib.hid (FP.out rfl)
      clear hqq3
      go_wp2_with fail
      refine (c_PermutationText _ P _ (H12.out.getI (xs := P) (by simp))).mono ?_; rintro e w13 ⟨rfl, hb⟩
      rw [FP2.out.1, FP2.out.2]
      have H13 := Lib.hid (H12.out.under hb)
      clear hb
      go_wp2
      go_ret
      exact ⟨rfl, H13.out.2.2.2⟩
    · have hb2 : (q2 == 0) = false := by simpa using h2
      clear h2
      have HVl := Lib.hid (HV.out.below H7.out.2.2.2)
      go_wp2_with fail
      refine (c_DrawParsePermutation _ bs.length _ HVl.out (by omega)).mono ?_; rintro e w8 ⟨ln, rfl, hln, hb⟩
      have HLn := Lib.hid hln
      have H8 := Lib.hid (H7.out.under hb)
      clear hb hln
      obtain ⟨P, hP⟩ : ∃ P, ppRes ln = P := ⟨_, rfl⟩
      obtain ⟨q3, hq3⟩ : ∃ q, ppCode ln = q := ⟨_, rfl⟩
      have EP := Lib.hid (And.intro hP hq3)
      have hqq3 : (q3 != q3) = false := by simp
      have FP := Lib.hid (pp_facts hP hq3)
      clear hP hq3
      go_wp2_with fail
      refine (c_ParsePermutation ln _ HLn.out).mono ?_; rintro e w9 ⟨pp, rfl, hs, hb⟩
      rw [EP.out.1] at hs
      rw [EP.out.2]
      have H9 := Lib.hid ((H8.out.under hb).addI hs.ints)
      clear hs hb
      go_wp2_with fail
      refine (c_specParsePermutation ln _ HLn.out).mono ?_; rintro e w10 ⟨qq, rfl, hs, hb⟩
      rw [EP.out.1] at hs
      rw [EP.out.2]
      have H10 := Lib.hid ((H9.out.under hb).addI hs.ints)
      clear hs hb
      go_wp2_with fail
      refine (c_likeInts _ _ P P _ (H10.out.getI (xs := P) (by simp)) (H10.out.getI (xs := P) (by simp))).mono ?_; rintro e w11 ⟨rfl, hb⟩
      rw [show decide (P = P) = true from by simp]
      have H11 := Lib.hid (H10.out.under (below_of_drewN hb))
      clear hb
      by_cases h3 : q3 = 0
      case neg =>
        have hb3 : (q3 != 0) = true := by simpa using h3
        go_wp2
        go_ret
        exact ⟨rfl, H11.out.2.2.2⟩
      subst h3
      have FP2 := Lib.hid (FP.out rfl)
      clear hqq3
      go_wp2_with fail
      refine (c_PermutationText _ P _ (H11.out.getI (xs := P) (by simp))).mono ?_; rintro e w12 ⟨rfl, hb⟩
      rw [FP2.out.1, FP2.out.2]
      have H12 := Lib.hid (H11.out.under hb)
      clear hb
      go_wp2
      go_ret
      exact ⟨rfl, H12.out.2.2.2⟩
end Go.Proofs.YtnbhghgkjcfcmaaDoor
