/-
  Draws of texts, texts there and back, and the law FnSolutionTexts.
-/
import Derived.Test.YtnbhghgkjcfcmaaDoorSTX2
import Derived.Shelf.Strings.OnBuilder
import Derived.Test.YtnbhghgkjcfcmaaDoorProg
import Derived.Test.YtnbhghgkjcfcmaaDoorSTX1
import Derived.Test.YtnbhghgkjcfcmaaDoorLTables
import Derived.Deep.RegionHeld3
import Derived.Shelf.Strings.Cut
import Derived.Shelf.Strings.Split
import Derived.Shelf.LaysM
import Derived.Shelf.Strings.Shaped
import Derived.Shelf.Strings.SplitShaped
import Derived.Test.YtnbhghgkjcfcmaaDoorI3c
import Derived.Test.YtnbhghgkjcfcmaaDoorI2
import Derived.Test.YtnbhghgkjcfcmaaDoorLawC
namespace Go.Proofs.YtnbhghgkjcfcmaaDoor
set_option linter.unusedVariables false
set_option linter.unusedSimpArgs false
open Go Go.RowKit

/-- What a draw of a pair map leaves. -/
def RDraw (b most : Nat) (w : World) (e : Ending) (w' : World) : Prop :=
  ∃ (r1 r2 : Value) (A B : List (List Int)), e = .returned (.agg #[r1, r2]) ∧ SolAt w.heap.size w' r1 r2 A B ∧ isPM A B = true ∧ A.length ≤ most ∧ Drew b w w'
theorem any_end {b most lo : Nat} {w w9 : World} {r1 r2 : Value} {A B : List (List Int)} (hsa : SolAt lo w9 r1 r2 A B) (hlo : w.heap.size < lo) (hbl : b < w.heap.size) (hp : isPM A B = true) (hl : A.length ≤ most) (hd : Drew b w w9) :
    RDraw b most w (.returned (.agg #[r1, r2])) ((w9.setCell ⟨w.heap.size, 0, none⟩ r1).setCell ⟨w.heap.size, 1, none⟩ r2) := by
  have kz : Keep (fun x => x = w.heap.size) w9 ((w9.setCell ⟨w.heap.size, 0, none⟩ r1).setCell ⟨w.heap.size, 1, none⟩ r2) := keep_early _ _ _ _
  exact ⟨_, _, A, B, rfl, ⟨(hsa.1.keep kz (fun x hx e => by have e : x = w.heap.size := e; omega)).mono (by omega), (hsa.2.keep kz (fun x hx e => by have e : x = w.heap.size := e; omega)).mono (by omega)⟩, hp, hl,
    drew_set (drew_set hd (p := ⟨w.heap.size, 0, none⟩) (Nat.le_refl _) hbl _) (p := ⟨w.heap.size, 1, none⟩) (Nat.le_refl _) hbl _⟩
theorem SolAt.any {lo : Nat} {w : World} {v1 v2 : Value} {A B : List (List Int)} (h : SolAt lo w v1 v2 A B) : ∃ a1 l1 c1 a2 l2 c2, v1 = .slice a1 l1 c1 ∧ v2 = .slice a2 l2 c2 := by
  obtain ⟨a1, l1, c1, e1⟩ := h.sol.1.any
  obtain ⟨a2, l2, c2, e2⟩ := h.sol.2.any
  exact ⟨a1, l1, c1, a2, l2, c2, e1, e2⟩
theorem SolAt.under {lo : Nat} {w1 w2 : World} {v1 v2 : Value} {A B : List (List Int)} (h : SolAt lo w1 v1 v2 A B) (hb : Below w1.heap.size w1 w2) : SolAt lo w2 v1 v2 A B := by
  exact ⟨h.1.under hb, h.2.under hb⟩

theorem hsz_alloc (w : World) (o : Obj) : (w.alloc o).heap.size = w.heap.size + 1 := by simp
theorem ints_blk {w : World} {g : Nat} (xs : List Int) (hg : Blk w g 2 (xs.map (Value.int .i64))) (hm : xs.length ≤ maxLen) : Ints w (.slice (some ⟨g, 0, none⟩) xs.length xs.length) xs :=
  ⟨_, _, rfl, Nat.le_refl _, hm, fun i hi => ⟨g, 0, rfl, by
    have := hg.cell (i := i) (by simpa using hi)
    rw [Nat.zero_add, this]; simp⟩⟩
theorem rows_blk {w : World} {g : Nat} (vs : List Value) (X : List (List Int)) (hg : Blk w g 32 vs) (hl : vs.length = X.length) (hm : X.length ≤ maxLen) (h : ∀ i (h1 : i < vs.length) (h2 : i < X.length), Ints w vs[i] X[i]) : Rows w (.slice (some ⟨g, 0, none⟩) X.length X.length) X :=
  ⟨_, _, rfl, Nat.le_refl _, hm, fun i hi => ⟨g, 0, vs[i], rfl, by
    have := hg.cell (i := i) (by omega)
    rw [Nat.zero_add, this], h i (by omega) hi⟩⟩
theorem nv4_rows (w : World) (W : World) (hW : W = (((((w.alloc (.cells #[.int .i64 0, .int .i64 1, .int .i64 3, .int .i64 2] 2)).alloc (.cells #[.int .i64 0, .int .i64 1, .int .i64 3, .int .i64 2] 2)).alloc (.cells #[.int .i64 1, .int .i64 0, .int .i64 2, .int .i64 3] 2)).alloc (.cells #[.int .i64 1, .int .i64 0, .int .i64 2, .int .i64 3] 2)).alloc (.cells #[.slice (some ⟨w.heap.size, 0, none⟩) 4 4, .slice (some ⟨w.heap.size + 1, 0, none⟩) 4 4, .slice (some ⟨w.heap.size + 1 + 1, 0, none⟩) 4 4, .slice (some ⟨w.heap.size + 1 + 1 + 1, 0, none⟩) 4 4] 32))) :
    Rows W (.slice (some ⟨w.heap.size + 1 + 1 + 1 + 1, 0, none⟩) 4 4) nv4 ∧ Below w.heap.size w W := by
  subst hW
  have hb1 := (Blk.new w [.int .i64 0, .int .i64 1, .int .i64 3, .int .i64 2] 2)
  have hb2 := (Blk.new (w.alloc (.cells [.int .i64 0, .int .i64 1, .int .i64 3, .int .i64 2].toArray 2)) [.int .i64 0, .int .i64 1, .int .i64 3, .int .i64 2] 2)
  have hb3 := (Blk.new ((w.alloc (.cells [.int .i64 0, .int .i64 1, .int .i64 3, .int .i64 2].toArray 2)).alloc (.cells [.int .i64 0, .int .i64 1, .int .i64 3, .int .i64 2].toArray 2)) [.int .i64 1, .int .i64 0, .int .i64 2, .int .i64 3] 2)
  have hb4 := (Blk.new (((w.alloc (.cells [.int .i64 0, .int .i64 1, .int .i64 3, .int .i64 2].toArray 2)).alloc (.cells [.int .i64 0, .int .i64 1, .int .i64 3, .int .i64 2].toArray 2)).alloc (.cells [.int .i64 1, .int .i64 0, .int .i64 2, .int .i64 3].toArray 2)) [.int .i64 1, .int .i64 0, .int .i64 2, .int .i64 3] 2)
  have hb5 := (Blk.new ((((w.alloc (.cells [.int .i64 0, .int .i64 1, .int .i64 3, .int .i64 2].toArray 2)).alloc (.cells [.int .i64 0, .int .i64 1, .int .i64 3, .int .i64 2].toArray 2)).alloc (.cells [.int .i64 1, .int .i64 0, .int .i64 2, .int .i64 3].toArray 2)).alloc (.cells [.int .i64 1, .int .i64 0, .int .i64 2, .int .i64 3].toArray 2)) [.slice (some ⟨w.heap.size, 0, none⟩) 4 4, .slice (some ⟨w.heap.size + 1, 0, none⟩) 4 4, .slice (some ⟨w.heap.size + 1 + 1, 0, none⟩) 4 4, .slice (some ⟨w.heap.size + 1 + 1 + 1, 0, none⟩) 4 4] 32)
  simp only [hsz_alloc] at hb2 hb3 hb4 hb5
  refine ⟨rows_blk _ nv4 hb5 rfl (by decide) fun i h1 h2 => ?_, (((((Below.refl w.heap.size w).alloc (Nat.le_refl _) _).alloc (by simp) _).alloc (by simp; omega) _).alloc (by simp; omega) _).alloc (by simp; omega) _⟩
  match i, h1, h2 with
  | 0, _, _ => exact ints_blk [0, 1, 3, 2] ((((hb1.alloc _).alloc _).alloc _).alloc _) (by decide)
  | 1, _, _ => exact ints_blk [0, 1, 3, 2] (((hb2.alloc _).alloc _).alloc _) (by decide)
  | 2, _, _ => exact ints_blk [1, 0, 2, 3] ((hb3.alloc _).alloc _) (by decide)
  | 3, _, _ => exact ints_blk [1, 0, 2, 3] (hb4.alloc _) (by decide)
theorem nv3_rows (w : World) (W : World) (hW : W = ((((w.alloc (.cells #[.int .i64 0, .int .i64 1, .int .i64 2] 2)).alloc (.cells #[.int .i64 0, .int .i64 1, .int .i64 2] 2)).alloc (.cells #[.int .i64 1, .int .i64 0, .int .i64 2] 2)).alloc (.cells #[.slice (some ⟨w.heap.size, 0, none⟩) 3 3, .slice (some ⟨w.heap.size + 1, 0, none⟩) 3 3, .slice (some ⟨w.heap.size + 1 + 1, 0, none⟩) 3 3] 32))) :
    Rows W (.slice (some ⟨w.heap.size + 1 + 1 + 1, 0, none⟩) 3 3) nv3 ∧ Below w.heap.size w W := by
  subst hW
  have hb1 := (Blk.new w [.int .i64 0, .int .i64 1, .int .i64 2] 2)
  have hb2 := (Blk.new (w.alloc (.cells [.int .i64 0, .int .i64 1, .int .i64 2].toArray 2)) [.int .i64 0, .int .i64 1, .int .i64 2] 2)
  have hb3 := (Blk.new ((w.alloc (.cells [.int .i64 0, .int .i64 1, .int .i64 2].toArray 2)).alloc (.cells [.int .i64 0, .int .i64 1, .int .i64 2].toArray 2)) [.int .i64 1, .int .i64 0, .int .i64 2] 2)
  have hb5 := (Blk.new (((w.alloc (.cells [.int .i64 0, .int .i64 1, .int .i64 2].toArray 2)).alloc (.cells [.int .i64 0, .int .i64 1, .int .i64 2].toArray 2)).alloc (.cells [.int .i64 1, .int .i64 0, .int .i64 2].toArray 2)) [.slice (some ⟨w.heap.size, 0, none⟩) 3 3, .slice (some ⟨w.heap.size + 1, 0, none⟩) 3 3, .slice (some ⟨w.heap.size + 1 + 1, 0, none⟩) 3 3] 32)
  simp only [hsz_alloc] at hb2 hb3 hb5
  refine ⟨rows_blk _ nv3 hb5 rfl (by decide) fun i h1 h2 => ?_, ((((Below.refl w.heap.size w).alloc (Nat.le_refl _) _).alloc (by simp) _).alloc (by simp; omega) _).alloc (by simp; omega) _⟩
  match i, h1, h2 with
  | 0, _, _ => exact ints_blk [0, 1, 2] (((hb1.alloc _).alloc _).alloc _) (by decide)
  | 1, _, _ => exact ints_blk [0, 1, 2] ((hb2.alloc _).alloc _) (by decide)
  | 2, _, _ => exact ints_blk [1, 0, 2] (hb3.alloc _) (by decide)

set_option maxRecDepth 100000 in
set_option maxHeartbeats 4000000 in
theorem c_l02Any (b : Nat) : ∀ (most : Nat) (w : World), Src w b → 1 ≤ most → most ≤ 12 → Calls Tryd.prog 66 #[.pointer (some ⟨b, 0, none⟩), .int .i64 most] w (RDraw b most w) := by
  intro most
  induction most using Nat.strongRecOn with
  | _ most ih =>
  intro w hs h1 h2
  have HIH := Lib.hid ih
  have HS := Lib.hid hs; have hbl := hs.lt; clear hs ih
  have HF0 : Hid (Blk (w.alloc (.cells #[.slice none 0 0, .slice none 0 0] 38)) w.heap.size 38 [.slice none 0 0, .slice none 0 0]) := Lib.hid (Blk.new w [.slice none 0 0, .slice none 0 0] 38)
  have HB0 : Hid (Below w.heap.size w (w.alloc (.cells #[.slice none 0 0, .slice none 0 0] 38))) := Lib.hid ((Below.refl _ _).alloc (Nat.le_refl _) _)
  go_enter Tryd.func66, Tryd.ntmps66
  have HS0 := Lib.hid (HS.out.under HB0.out)
  have HD0 := Lib.hid ((Drew.refl HS.out).under HB0.out)
  go_wp2_with fail
  refine (c_l01Next b most _ HS0.out (by omega) (by omega)).mono ?_; rintro e w1 ⟨t, rfl, t0, t1, hd1⟩
  obtain ⟨m, rfl⟩ : ∃ m : Nat, t = m := ⟨t.toNat, by omega⟩
  have hm : m < most := by omega
  have HF1 := Lib.hid (hd1.blk HF0.out (by omega)); have HD1 := Lib.hid (HD0.out.trans hd1)
  clear hd1 HF0 HD0 t0 t1
  go_wp2_with fail
  refine (c_l01Next b 8 _ HD1.out.1 (by omega) (by omega)).mono ?_; rintro e w2 ⟨kd, rfl, k0, k8, hd2⟩
  have HF2 := Lib.hid (hd2.blk HF1.out (by omega)); have HD2 := Lib.hid (HD1.out.trans hd2)
  clear hd2 HF1 HD1
  have HS2 := Lib.hid (show w.heap.size < w2.heap.size from HF2.out.lt)
  obtain ⟨n, hn⟩ : ∃ n : Nat, n = m + 1 := ⟨_, rfl⟩
  have hnI : 1 + (m : Int) = n := by omega
  have hn1 : 1 ≤ n := by omega
  have hnm : n ≤ most := by omega
  clear hn hm

  by_cases e0 : kd = 0
  · subst e0
    go_wp2_with fail
    refine (c_l02Flip n _ (by omega)).mono ?_; rintro e w9 hz
    obtain ⟨r8, r9, he, hsa, hb9⟩ := rsolR_at hz
    subst he
    obtain ⟨sa1, sl1, sc1, sa2, sl2, sc2, hv1, hv2⟩ := hsa.any
    subst hv1 hv2
    have hf := HF2.out.under hb9
    obtain ⟨z0, z1, z2, z3⟩ := two_cells hf
    have HSA := Lib.hid hsa; have HD9 := Lib.hid (HD2.out.under hb9); have HLT := HF2.out.lt
    have HPM := Lib.hid (tw_pm (permuted_iota n) (permuted_iota n) rfl (by simpa using hn1) (by simp; omega)); have HLN := Lib.hid (show (twA (iota n)).length ≤ most by simp [twA]; omega)
    clear hsa hf
    go_wp2
    exact bodyPost_ret (v := .agg #[.slice sa1 sl1 sc1, .slice sa2 sl2 sc2]) (by simp [results, Tryd.results66, go_sem, z0, z1]) rfl (any_end HSA.out HLT hbl HPM.out HLN.out HD9.out)
  have y0 : (kd == 0) = false := by simp [e0]
  by_cases e1 : kd = 1
  · subst e1
    go_wp2_with fail
    refine (c_l02Polygon n _ hn1 (by omega)).mono ?_; rintro e w9 hz
    obtain ⟨r8, r9, he, hsa, hb9⟩ := rsolR_at hz
    subst he
    obtain ⟨sa1, sl1, sc1, sa2, sl2, sc2, hv1, hv2⟩ := hsa.any
    subst hv1 hv2
    have hf := HF2.out.under hb9
    obtain ⟨z0, z1, z2, z3⟩ := two_cells hf
    have HSA := Lib.hid hsa; have HD9 := Lib.hid (HD2.out.under hb9); have HLT := HF2.out.lt
    have HPM := Lib.hid (pg_pm hn1 (by omega)); have HLN := Lib.hid (show (pgA n).length ≤ most by simp; omega)
    clear hsa hf
    go_wp2
    exact bodyPost_ret (v := .agg #[.slice sa1 sl1 sc1, .slice sa2 sl2 sc2]) (by simp [results, Tryd.results66, go_sem, z0, z1]) rfl (any_end HSA.out HLT hbl HPM.out HLN.out HD9.out)
  have y1 : (kd == 1) = false := by simp [e1]
  by_cases e2 : kd = 2
  · subst e2
    by_cases h4 : 4 ≤ n
    · have h4I : (4 : Int) ≤ n := by omega
      by_cases hev : n % 2 = 0
      · obtain ⟨k, hk⟩ : ∃ k : Nat, k = n / 2 := ⟨_, rfl⟩
        have u1 : Int.tmod (n : Int) 2 = 0 := by rw [Int.tmod_eq_emod_of_nonneg (by omega)]; omega
        have u2 : IntKind.i64.wrap ((n : Int) / 2) = k := by rw [IntKind.wrap_i64]; omega
        have hk2 : 2 ≤ k ∧ k ≤ 6 ∧ k * 2 ≤ most := by omega
        clear hk hev
        go_wp2_with fail
        refine (c_l02Twisted b k _ HD2.out.1 (by omega) (by omega)).mono ?_; rintro e w3 ⟨r3, r4, XA, XB, rfl, hsa3, hpm3, hln3, hd3⟩
        have HF3 := Lib.hid (hd3.blk HF2.out (by omega)); have HD3 := Lib.hid (HD2.out.trans hd3); have HSA3 := Lib.hid hsa3; have HP3 := Lib.hid (And.intro hpm3 hln3)
        have hbw2 := HD2.out.2.size
        clear hd3 hsa3 hpm3 hln3
        go_wp2_with fail
        refine (c_l02Twisted b 2 _ HD3.out.1 (by omega) (by omega)).mono ?_; rintro e w4 ⟨r5, r6, YA, YB, rfl, hsa4, hpm4, hln4, hd4⟩
        have HF4 := Lib.hid (hd4.blk HF3.out (by omega)); have HD4 := Lib.hid (HD3.out.trans hd4); have HSA4 := Lib.hid hsa4; have HP4 := Lib.hid (And.intro hpm4 hln4)
        have HSA3' := Lib.hid (HSA3.out.drew hd4 (by omega))
        clear hd4 hsa4 hpm4 hln4
        go_wp2_with fail
        refine (c_l02Product _ _ XA XB _ _ YA YB _ HSA3'.out.sol HSA4.out.sol HP3.out.1 HP4.out.1 (by rw [HP3.out.2, HP4.out.2]; omega)).mono ?_; rintro e w9 hz
        obtain ⟨r8, r9, he, hsa, hb9⟩ := rsolR_at hz
        subst he
        obtain ⟨sa1, sl1, sc1, sa2, sl2, sc2, hv1, hv2⟩ := hsa.any
        subst hv1 hv2
        have hf := HF4.out.under hb9
        obtain ⟨z0, z1, z2, z3⟩ := two_cells hf
        have HSA := Lib.hid hsa; have HD9 := Lib.hid (HD4.out.under hb9); have HLT := HF4.out.lt
        have HPM := Lib.hid (pr_pm HP3.out.1 HP4.out.1 (by rw [HP3.out.2, HP4.out.2]; omega)); have HLN := Lib.hid (show (prT XA YA).length ≤ most by rw [prT_length, HP3.out.2, HP4.out.2]; omega)
        clear hsa hf
        go_wp2
        exact bodyPost_ret (v := .agg #[.slice sa1 sl1 sc1, .slice sa2 sl2 sc2]) (by simp [results, Tryd.results66, go_sem, z0, z1]) rfl (any_end HSA.out HLT hbl HPM.out HLN.out HD9.out)
      · have u1 : ¬ Int.tmod (n : Int) 2 = 0 := by rw [Int.tmod_eq_emod_of_nonneg (by omega)]; omega
        go_wp2_with fail
        refine (c_l02Twisted b n _ HD2.out.1 hn1 (by omega)).mono ?_; rintro e w9 ⟨r8, r9, XA, XB, rfl, hsa, hpm, hln, hd9⟩
        obtain ⟨sa1, sl1, sc1, sa2, sl2, sc2, hv1, hv2⟩ := hsa.any
        subst hv1 hv2
        have hf := hd9.blk HF2.out (by omega)
        obtain ⟨z0, z1, z2, z3⟩ := two_cells hf
        have HSA := Lib.hid hsa; have HD9 := Lib.hid (HD2.out.trans hd9); have HLT := HF2.out.lt
        have HPM := Lib.hid (hpm); have HLN := Lib.hid (show XA.length ≤ most by omega)
        clear hsa hf
        go_wp2
        exact bodyPost_ret (v := .agg #[.slice sa1 sl1 sc1, .slice sa2 sl2 sc2]) (by simp [results, Tryd.results66, go_sem, z0, z1]) rfl (any_end HSA.out HLT hbl HPM.out HLN.out HD9.out)
    · have h4I : ¬ ((4 : Int) ≤ n) := by omega
      go_wp2_with fail
      refine (c_l02Twisted b n _ HD2.out.1 hn1 (by omega)).mono ?_; rintro e w9 ⟨r8, r9, XA, XB, rfl, hsa, hpm, hln, hd9⟩
      obtain ⟨sa1, sl1, sc1, sa2, sl2, sc2, hv1, hv2⟩ := hsa.any
      subst hv1 hv2
      have hf := hd9.blk HF2.out (by omega)
      obtain ⟨z0, z1, z2, z3⟩ := two_cells hf
      have HSA := Lib.hid hsa; have HD9 := Lib.hid (HD2.out.trans hd9); have HLT := HF2.out.lt
      have HPM := Lib.hid (hpm); have HLN := Lib.hid (show XA.length ≤ most by omega)
      clear hsa hf
      go_wp2
      exact bodyPost_ret (v := .agg #[.slice sa1 sl1 sc1, .slice sa2 sl2 sc2]) (by simp [results, Tryd.results66, go_sem, z0, z1]) rfl (any_end HSA.out HLT hbl HPM.out HLN.out HD9.out)
  have y2 : (kd == 2) = false := by simp [e2]
  by_cases e3 : kd = 3
  · subst e3
    by_cases hn2 : 2 ≤ n
    · have hn2I : (2 : Int) ≤ n := by omega
      go_wp2_with fail
      refine (c_l01Next b ((n : Int) - 1) _ HD2.out.1 (by omega) (by omega)).mono ?_; rintro e w3 ⟨t, rfl, t0, t1, hd3⟩
      obtain ⟨q, hq⟩ : ∃ q : Nat, q = t.toNat + 1 := ⟨_, rfl⟩
      have hqI : 1 + t = q := by omega
      have hq1 : 1 ≤ q ∧ q < n := by omega
      have hqr : (n : Int) - q = (n - q : Nat) := by omega
      have HF3 := Lib.hid (hd3.blk HF2.out (by omega)); have HD3 := Lib.hid (HD2.out.trans hd3)
      have hbw2 := HD3.out.2.size
      clear hd3 hq
      go_wp2_with fail
      refine (HIH.out q (by omega) _ HD3.out.1 (by omega) (by omega)).mono ?_; rintro e w4 ⟨r3, r4, XA, XB, rfl, hsa3, hpm3, hln3, hd4⟩
      have HF4 := Lib.hid (hd4.blk HF3.out (by omega)); have HD4 := Lib.hid (HD3.out.trans hd4); have HSA3 := Lib.hid hsa3; have HP3 := Lib.hid (And.intro hpm3 hln3)
      clear hd4 hsa3 hpm3 hln3
      go_wp2_with fail
      refine (c_l02Twisted b (n - q) _ HD4.out.1 (by omega) (by omega)).mono ?_; rintro e w5 ⟨r5, r6, YA, YB, rfl, hsa4, hpm4, hln4, hd5⟩
      have HF5 := Lib.hid (hd5.blk HF4.out (by omega)); have HD5 := Lib.hid (HD4.out.trans hd5); have HSA4 := Lib.hid hsa4; have HP4 := Lib.hid (And.intro hpm4 hln4)
      have HSA3' := Lib.hid (HSA3.out.drew hd5 (by omega))
      clear hd5 hsa4 hpm4 hln4
      have hsz : XA.length + YA.length ≤ most := by have := HP3.out.2; have := HP4.out.2; omega
      go_wp2_with fail
      refine (c_l02Union _ _ XA XB _ _ YA YB _ HSA3'.out.sol HSA4.out.sol HP3.out.1 HP4.out.1 (by omega)).mono ?_; rintro e w9 hz
      obtain ⟨r8, r9, he, hsa, hb9⟩ := rsolR_at hz
      subst he
      obtain ⟨sa1, sl1, sc1, sa2, sl2, sc2, hv1, hv2⟩ := hsa.any
      subst hv1 hv2
      have hf := HF5.out.under hb9
      obtain ⟨z0, z1, z2, z3⟩ := two_cells hf
      have HSA := Lib.hid hsa; have HD9 := Lib.hid (HD5.out.under hb9); have HLT := HF5.out.lt
      have HPM := Lib.hid (un_pm HP3.out.1 HP4.out.1 (by omega)); have HLN := Lib.hid (show (unTA XA YA).length ≤ most by rw [unTA_length]; omega)
      clear hsa hf
      go_wp2
      exact bodyPost_ret (v := .agg #[.slice sa1 sl1 sc1, .slice sa2 sl2 sc2]) (by simp [results, Tryd.results66, go_sem, z0, z1]) rfl (any_end HSA.out HLT hbl HPM.out HLN.out HD9.out)
    · have hn2I : ¬ ((2 : Int) ≤ n) := by omega
      go_wp2_with fail
      refine (c_l02Twisted b n _ HD2.out.1 hn1 (by omega)).mono ?_; rintro e w9 ⟨r8, r9, XA, XB, rfl, hsa, hpm, hln, hd9⟩
      obtain ⟨sa1, sl1, sc1, sa2, sl2, sc2, hv1, hv2⟩ := hsa.any
      subst hv1 hv2
      have hf := hd9.blk HF2.out (by omega)
      obtain ⟨z0, z1, z2, z3⟩ := two_cells hf
      have HSA := Lib.hid hsa; have HD9 := Lib.hid (HD2.out.trans hd9); have HLT := HF2.out.lt
      have HPM := Lib.hid (hpm); have HLN := Lib.hid (show XA.length ≤ most by omega)
      clear hsa hf
      go_wp2
      exact bodyPost_ret (v := .agg #[.slice sa1 sl1 sc1, .slice sa2 sl2 sc2]) (by simp [results, Tryd.results66, go_sem, z0, z1]) rfl (any_end HSA.out HLT hbl HPM.out HLN.out HD9.out)
  have y3 : (kd == 3) = false := by simp [e3]
  by_cases e4 : kd = 4
  · subst e4
    by_cases hm4 : 4 ≤ most
    · have hmI : (4 : Int) ≤ most := by omega
      go_wp2_with fail
      obtain ⟨W8, hW8⟩ : ∃ W, W = (((((w2.alloc (.cells #[.int .i64 0, .int .i64 1, .int .i64 3, .int .i64 2] 2)).alloc (.cells #[.int .i64 0, .int .i64 1, .int .i64 3, .int .i64 2] 2)).alloc (.cells #[.int .i64 1, .int .i64 0, .int .i64 2, .int .i64 3] 2)).alloc (.cells #[.int .i64 1, .int .i64 0, .int .i64 2, .int .i64 3] 2)).alloc (.cells #[.slice (some ⟨w2.heap.size, 0, none⟩) 4 4, .slice (some ⟨w2.heap.size + 1, 0, none⟩) 4 4, .slice (some ⟨w2.heap.size + 1 + 1, 0, none⟩) 4 4, .slice (some ⟨w2.heap.size + 1 + 1 + 1, 0, none⟩) 4 4] 32)) := ⟨_, rfl⟩
      obtain ⟨hr8, hb8⟩ := nv4_rows w2 W8 hW8
      rw [← hW8]
      have HF8 := Lib.hid (HF2.out.under hb8); have HD8 := Lib.hid (HD2.out.under hb8); have HR8 := Lib.hid hr8
      clear hr8 hb8 hW8
      refine (c_l02Involutive _ nv4 _ HR8.out nv4_pm.1).mono ?_; rintro e w9 hz
      obtain ⟨r8, r9, he, hsa, hb9⟩ := rsolR_at hz
      subst he
      obtain ⟨sa1, sl1, sc1, sa2, sl2, sc2, hv1, hv2⟩ := hsa.any
      subst hv1 hv2
      have hf := HF8.out.under hb9
      obtain ⟨z0, z1, z2, z3⟩ := two_cells hf
      have HSA := Lib.hid hsa; have HD9 := Lib.hid (HD8.out.under hb9); have HLT := HF8.out.lt
      have HPM := Lib.hid (nv4_pm.2); have HLN := Lib.hid (show nv4.length ≤ most by simp [nv4]; omega)
      clear hsa hf
      go_wp2
      exact bodyPost_ret (v := .agg #[.slice sa1 sl1 sc1, .slice sa2 sl2 sc2]) (by simp [results, Tryd.results66, go_sem, z0, z1]) rfl (any_end HSA.out HLT hbl HPM.out HLN.out HD9.out)
    · have hmI : ¬ ((4 : Int) ≤ most) := by omega
      go_wp2_with fail
      refine (c_l02Twisted b n _ HD2.out.1 hn1 (by omega)).mono ?_; rintro e w9 ⟨r8, r9, XA, XB, rfl, hsa, hpm, hln, hd9⟩
      obtain ⟨sa1, sl1, sc1, sa2, sl2, sc2, hv1, hv2⟩ := hsa.any
      subst hv1 hv2
      have hf := hd9.blk HF2.out (by omega)
      obtain ⟨z0, z1, z2, z3⟩ := two_cells hf
      have HSA := Lib.hid hsa; have HD9 := Lib.hid (HD2.out.trans hd9); have HLT := HF2.out.lt
      have HPM := Lib.hid (hpm); have HLN := Lib.hid (show XA.length ≤ most by omega)
      clear hsa hf
      go_wp2
      exact bodyPost_ret (v := .agg #[.slice sa1 sl1 sc1, .slice sa2 sl2 sc2]) (by simp [results, Tryd.results66, go_sem, z0, z1]) rfl (any_end HSA.out HLT hbl HPM.out HLN.out HD9.out)
  have y4 : (kd == 4) = false := by simp [e4]
  by_cases e5 : kd = 5
  · subst e5
    by_cases hn2 : 2 ≤ n
    · have hn2I : (2 : Int) ≤ n := by omega
      go_wp2_with fail
      refine (c_l02Polygon n _ hn1 (by omega)).mono ?_; rintro e w3 hz
      obtain ⟨r3, r4, he, hsa3, hb3⟩ := rsolR_at hz
      subst he
      have HF3 := Lib.hid (HF2.out.under hb3); have HD3 := Lib.hid (HD2.out.under hb3); have HSA3 := Lib.hid hsa3
      clear hz hsa3 hb3
      go_wp2_with fail
      refine (c_l02InverseC _ _ (pgA n) (pgB n) _ HSA3.out.sol (pg_coll hn1 (by omega)) (pg_pm hn1 (by omega))).mono ?_; rintro e w9 hz
      obtain ⟨r8, r9, he, hsa, hb9⟩ := rsolR_at hz
      subst he
      obtain ⟨sa1, sl1, sc1, sa2, sl2, sc2, hv1, hv2⟩ := hsa.any
      subst hv1 hv2
      have hf := HF3.out.under hb9
      obtain ⟨z0, z1, z2, z3⟩ := two_cells hf
      have HSA := Lib.hid hsa; have HD9 := Lib.hid (HD3.out.under hb9); have HLT := HF3.out.lt
      have HPM := Lib.hid (iv_pm (pg_pm hn1 (by omega)) (pg_coll hn1 (by omega))); have HLN := Lib.hid (show (ivA (pgA n) (pgB n) (pgA n).length).length ≤ most by simp; omega)
      clear hsa hf
      go_wp2
      exact bodyPost_ret (v := .agg #[.slice sa1 sl1 sc1, .slice sa2 sl2 sc2]) (by simp [results, Tryd.results66, go_sem, z0, z1]) rfl (any_end HSA.out HLT hbl HPM.out HLN.out HD9.out)
    · have hn2I : ¬ ((2 : Int) ≤ n) := by omega
      go_wp2_with fail
      refine (c_l02Twisted b n _ HD2.out.1 hn1 (by omega)).mono ?_; rintro e w9 ⟨r8, r9, XA, XB, rfl, hsa, hpm, hln, hd9⟩
      obtain ⟨sa1, sl1, sc1, sa2, sl2, sc2, hv1, hv2⟩ := hsa.any
      subst hv1 hv2
      have hf := hd9.blk HF2.out (by omega)
      obtain ⟨z0, z1, z2, z3⟩ := two_cells hf
      have HSA := Lib.hid hsa; have HD9 := Lib.hid (HD2.out.trans hd9); have HLT := HF2.out.lt
      have HPM := Lib.hid (hpm); have HLN := Lib.hid (show XA.length ≤ most by omega)
      clear hsa hf
      go_wp2
      exact bodyPost_ret (v := .agg #[.slice sa1 sl1 sc1, .slice sa2 sl2 sc2]) (by simp [results, Tryd.results66, go_sem, z0, z1]) rfl (any_end HSA.out HLT hbl HPM.out HLN.out HD9.out)
  have y5 : (kd == 5) = false := by simp [e5]
  by_cases e6 : kd = 6
  · subst e6
    by_cases hm3 : 3 ≤ most
    · have hmI : (3 : Int) ≤ most := by omega
      go_wp2_with fail
      obtain ⟨W8, hW8⟩ : ∃ W, W = ((((w2.alloc (.cells #[.int .i64 0, .int .i64 1, .int .i64 2] 2)).alloc (.cells #[.int .i64 0, .int .i64 1, .int .i64 2] 2)).alloc (.cells #[.int .i64 1, .int .i64 0, .int .i64 2] 2)).alloc (.cells #[.slice (some ⟨w2.heap.size, 0, none⟩) 3 3, .slice (some ⟨w2.heap.size + 1, 0, none⟩) 3 3, .slice (some ⟨w2.heap.size + 1 + 1, 0, none⟩) 3 3] 32)) := ⟨_, rfl⟩
      obtain ⟨hr8, hb8⟩ := nv3_rows w2 W8 hW8
      rw [← hW8]
      have HF8 := Lib.hid (HF2.out.under hb8); have HD8 := Lib.hid (HD2.out.under hb8); have HR8 := Lib.hid hr8
      clear hr8 hb8 hW8
      refine (c_l02Involutive _ nv3 _ HR8.out nv3_pm.1).mono ?_; rintro e w9 hz
      obtain ⟨r8, r9, he, hsa, hb9⟩ := rsolR_at hz
      subst he
      obtain ⟨sa1, sl1, sc1, sa2, sl2, sc2, hv1, hv2⟩ := hsa.any
      subst hv1 hv2
      have hf := HF8.out.under hb9
      obtain ⟨z0, z1, z2, z3⟩ := two_cells hf
      have HSA := Lib.hid hsa; have HD9 := Lib.hid (HD8.out.under hb9); have HLT := HF8.out.lt
      have HPM := Lib.hid (nv3_pm.2); have HLN := Lib.hid (show nv3.length ≤ most by simp [nv3]; omega)
      clear hsa hf
      go_wp2
      exact bodyPost_ret (v := .agg #[.slice sa1 sl1 sc1, .slice sa2 sl2 sc2]) (by simp [results, Tryd.results66, go_sem, z0, z1]) rfl (any_end HSA.out HLT hbl HPM.out HLN.out HD9.out)
    · have hmI : ¬ ((3 : Int) ≤ most) := by omega
      go_wp2_with fail
      refine (c_l02Twisted b n _ HD2.out.1 hn1 (by omega)).mono ?_; rintro e w9 ⟨r8, r9, XA, XB, rfl, hsa, hpm, hln, hd9⟩
      obtain ⟨sa1, sl1, sc1, sa2, sl2, sc2, hv1, hv2⟩ := hsa.any
      subst hv1 hv2
      have hf := hd9.blk HF2.out (by omega)
      obtain ⟨z0, z1, z2, z3⟩ := two_cells hf
      have HSA := Lib.hid hsa; have HD9 := Lib.hid (HD2.out.trans hd9); have HLT := HF2.out.lt
      have HPM := Lib.hid (hpm); have HLN := Lib.hid (show XA.length ≤ most by omega)
      clear hsa hf
      go_wp2
      exact bodyPost_ret (v := .agg #[.slice sa1 sl1 sc1, .slice sa2 sl2 sc2]) (by simp [results, Tryd.results66, go_sem, z0, z1]) rfl (any_end HSA.out HLT hbl HPM.out HLN.out HD9.out)
  have y6 : (kd == 6) = false := by simp [e6]
  go_wp2_with fail
  refine (c_l02Twisted b n _ HD2.out.1 hn1 (by omega)).mono ?_; rintro e w9 ⟨r8, r9, XA, XB, rfl, hsa, hpm, hln, hd9⟩
  obtain ⟨sa1, sl1, sc1, sa2, sl2, sc2, hv1, hv2⟩ := hsa.any
  subst hv1 hv2
  have hf := hd9.blk HF2.out (by omega)
  obtain ⟨z0, z1, z2, z3⟩ := two_cells hf
  have HSA := Lib.hid hsa; have HD9 := Lib.hid (HD2.out.trans hd9); have HLT := HF2.out.lt
  have HPM := Lib.hid (hpm); have HLN := Lib.hid (show XA.length ≤ most by omega)
  clear hsa hf
  go_wp2
  exact bodyPost_ret (v := .agg #[.slice sa1 sl1 sc1, .slice sa2 sl2 sc2]) (by simp [results, Tryd.results66, go_sem, z0, z1]) rfl (any_end HSA.out HLT hbl HPM.out HLN.out HD9.out)
end Go.Proofs.YtnbhghgkjcfcmaaDoor

namespace Go.Proofs.YtnbhghgkjcfcmaaDoor
set_option linter.unusedVariables false
set_option linter.unusedSimpArgs false
open Go Go.RowKit

theorem OwnSol.atW {lo hi : Nat} {w : World} {v1 v2 : Value} {A B : List (List Int)} (h : OwnSol lo hi w v1 v2 A B) : SolAt lo w v1 v2 A B := by
  obtain ⟨l1, h1, l2, h2, a, b, c, d, e, f, g⟩ := h
  exact ⟨f.out.wr.mono a, g.out.wr.mono c⟩
theorem SolAt.shape {lo : Nat} {w : World} {v1 v2 : Value} {A B : List (List Int)} (h : SolAt lo w v1 v2 A B) : ∃ a1 c1 a2 c2, v1 = .slice a1 A.length c1 ∧ v2 = .slice a2 B.length c2 := by
  obtain ⟨a1, c1, e1, _⟩ := h.1
  obtain ⟨a2, c2, e2, _⟩ := h.2
  exact ⟨a1, c1, a2, c2, e1, e2⟩
theorem SolAt.keep {lo : Nat} {S : Nat → Prop} {w w' : World} {v1 v2 : Value} {A B : List (List Int)} (h : SolAt lo w v1 v2 A B) (k : Keep S w w') (hS : ∀ b, lo ≤ b → ¬ S b) : SolAt lo w' v1 v2 A B := ⟨h.1.keep k hS, h.2.keep k hS⟩

set_option maxRecDepth 100000 in
set_option maxHeartbeats 4000000 in
theorem c_l02Draw (b most : Nat) (w : World) (hs : Src w b) (h1 : 1 ≤ most) (h2 : most ≤ 12) : Calls Tryd.prog 49 #[.pointer (some ⟨b, 0, none⟩), .int .i64 most] w (RDraw b most w) := by
  have HS := Lib.hid hs; have hbl := hs.lt; clear hs
  have HF0 : Hid (Blk (w.alloc (.cells #[.slice none 0 0, .slice none 0 0] 38)) w.heap.size 38 [.slice none 0 0, .slice none 0 0]) := Lib.hid (Blk.new w [.slice none 0 0, .slice none 0 0] 38)
  have HB0 : Hid (Below w.heap.size w (w.alloc (.cells #[.slice none 0 0, .slice none 0 0] 38))) := Lib.hid ((Below.refl _ _).alloc (Nat.le_refl _) _)
  go_enter Tryd.func49, Tryd.ntmps49
  have HS0 := Lib.hid (HS.out.under HB0.out)
  have HD0 := Lib.hid ((Drew.refl HS.out).under HB0.out)
  go_wp2_with fail
  refine (c_l02Any b most _ HS0.out h1 h2).mono ?_; rintro e w1 ⟨r1, r2, A, B, rfl, hsa, hpm, hln, hd1⟩
  obtain ⟨sa1, sc1, sa2, sc2, hv1, hv2⟩ := hsa.shape
  subst hv1 hv2
  have hba : Below w1.heap.size w1 (w1.alloc (.cells #[.slice sa1 A.length sc1, .slice sa2 B.length sc2] 38)) := (Below.refl _ _).alloc (Nat.le_refl _) _
  have hq : w.heap.size < w1.heap.size := by have := hd1.2.size; simp at this; omega
  have HBX := Lib.hid (show Blk (w1.alloc (.cells #[.slice sa1 A.length sc1, .slice sa2 B.length sc2] 38)) w1.heap.size 38 [.slice sa1 A.length sc1, .slice sa2 B.length sc2] from Blk.new w1 [.slice sa1 A.length sc1, .slice sa2 B.length sc2] 38)
  have HF1 := Lib.hid ((hd1.blk HF0.out (by omega)).under hba); have HD1 := Lib.hid ((HD0.out.trans hd1).under hba)
  have HSA1 := Lib.hid ((hsa.under hba).mono (show w.heap.size + 1 ≤ _ by simp)); have HPM := Lib.hid hpm; have HLN := Lib.hid hln
  have hl1 := (isTab_len (isPM_parts hpm).1).1
  clear hd1 hsa hpm hln hba HD0 HF0 HS0 HB0
  go_wp2_with fail
  refine (c_l01Next b 4 _ HD1.out.1 (by omega) (by omega)).mono ?_; rintro e w2 ⟨t, rfl, t0, t1, hd2⟩
  have HF2 := Lib.hid (hd2.blk HF1.out (by omega)); have HD2 := Lib.hid (HD1.out.trans hd2)
  have HSA2 := Lib.hid (HSA1.out.drew hd2 (by omega)); have HBX2 := Lib.hid (hd2.blk HBX.out (by omega))
  have hw2 : w1.heap.size < w2.heap.size := HBX2.out.lt
  clear hd2 HF1 HD1 HSA1 HBX
  by_cases ht : 0 < t
  · have HK : Hid (∀ w' : World, Keep (fun k => k = b ∨ k = w.heap.size ∨ w2.heap.size ≤ k) w2 w' → w'.cell? ⟨w1.heap.size, 0, none⟩ = some (.slice sa1 A.length sc1) ∧ w'.cell? ⟨w1.heap.size, 1, none⟩ = some (.slice sa2 B.length sc2)) := Lib.hid (fun w' k => by
      have := HBX2.out.of_block (k.block w1.heap.size hw2 (by omega))
      obtain ⟨x0, x1, -, -⟩ := two_cells this
      exact ⟨x0, x1⟩)
    have K0 : Keep (fun k => k = b ∨ k = w.heap.size ∨ w2.heap.size ≤ k) w2 w2.drew := (Keep.refl _ w2).drew
    have HDw := Lib.hid (HD2.out.under ((Below.refl w2.heap.size w2).drew))
    have HSrc := Lib.hid HDw.out.1
    have HFw := Lib.hid (HF2.out.under ((Below.refl w2.heap.size w2).drew))
    have HSAw := Lib.hid (HSA2.out.under ((Below.refl w2.heap.size w2).drew))
    have HRW := Lib.hid (show ∀ p : List Int, p.length = A.length → Permuted p → RenOk A p ∧ RenOk B p from fun p e1 e2 => ⟨⟨(isPM_parts HPM.out).1, e2, e1⟩, (isPM_parts HPM.out).2.1, e2, e1.trans (isPM_parts HPM.out).2.2⟩)
    have hl2 : A.length ≤ 1000 := by have := HLN.out; omega
    have hws : w2.drew.heap.size = w2.heap.size := rfl
    obtain ⟨zc0, zc1⟩ := HK.out _ K0
    go_wp2
    go_region_held3 (fun w' => w'.cell? ⟨w1.heap.size, 0, none⟩ = some (.slice sa1 A.length sc1) ∧ w'.cell? ⟨w1.heap.size, 1, none⟩ = some (.slice sa2 B.length sc2))
      (first | exact HK.out _ K0 | exact HK.out _ K3 | exact HK.out _ K4 | exact HK.out _ K5)
      (first
        | (go_at_call 38; (with_reducible refine (c_l01DrawP b A.length _ HSrc.out hl1 hl2).mono ?_); rintro e w3 ⟨r, p, rfl, hpl, hpp, hop, hd3⟩; have K3 := K0.trans (keep_mono hd3.2 (T := fun k => k = b ∨ k = w.heap.size ∨ w2.heap.size ≤ k) (fun x hx => .inl hx)); have HD3 := Lib.hid (HDw.out.trans hd3); have HF3 := Lib.hid (hd3.blk HFw.out (by omega)); have HS3 := Lib.hid (HSAw.out.drew hd3 (by omega)).sol; have HRA := Lib.hid (HRW.out p hpl hpp).1; have HRB := Lib.hid (HRW.out p hpl hpp).2; have HP3 := Lib.hid hop.ints; have HPP := Lib.hid (And.intro hpl hpp); obtain ⟨zd0, zd1⟩ := HK.out _ K3; clear hd3 hop hpl hpp)
        | (go_at_call 67; (with_reducible refine (c_l02Rename _ _ _ A B p _ HS3.out HP3.out HRA.out HRB.out).mono ?_); rintro e w4 ⟨u1, u2, rfl, hos, hb4⟩; obtain ⟨ua1, uc1, ua2, uc2, hu1, hu2⟩ := hos.atW.shape; rw [renL_length] at hu1 hu2; subst hu1 hu2; have K4 := K3.trans (keep_mono (Keep.of_below hb4) (T := fun k => k = b ∨ k = w.heap.size ∨ w2.heap.size ≤ k) (fun x hx => .inr (.inr (Nat.le_trans K3.size hx)))); obtain ⟨ze0, ze1⟩ := HK.out _ K4; have K5 := (K4.setCell (p := ⟨w.heap.size, 0, none⟩) (.inl (.inr (.inl rfl))) (.slice ua1 A.length uc1)).setCell (p := ⟨w.heap.size, 1, none⟩) (.inl (.inr (.inl rfl))) (.slice ua2 B.length uc2); have HD4 := Lib.hid (HD3.out.under hb4); have hf4 := HF3.out.under hb4; obtain ⟨y0, y1, y2, y3⟩ := two_cells hf4; have HSO := Lib.hid hos.atW; have HSZ := Lib.hid (show w.heap.size < w3.heap.size from HF3.out.lt); clear hos hb4))
    all_goals
      have HPM4 := Lib.hid (ren_pm HPM.out HPP.out.2 HPP.out.1)
      have HLN4 : Hid ((renL A p).length ≤ most) := Lib.hid (by rw [renL_length]; exact HLN.out)
      rename_i hHz
      clear hHz
      go_wp2
      exact bodyPost_ret (v := .agg #[.slice ua1 A.length uc1, .slice ua2 B.length uc2]) (by simp [results, Tryd.results49, go_sem, y0, y1]) rfl (any_end HSO.out HSZ.out hbl HPM4.out HLN4.out HD4.out)
  · have HFin := Lib.hid HD2.out
    obtain ⟨x0, x1, -, -⟩ := two_cells HBX2.out
    obtain ⟨z0, z1, z2, z3⟩ := two_cells HF2.out
    go_wp2
    exact bodyPost_ret (v := .agg #[.slice sa1 A.length sc1, .slice sa2 B.length sc2]) (by simp [results, Tryd.results49, go_sem, z0, z1]) rfl (any_end HSA2.out (Nat.lt_succ_self _) hbl HPM.out HLN.out HFin.out)
end Go.Proofs.YtnbhghgkjcfcmaaDoor

namespace Go.Proofs.YtnbhghgkjcfcmaaDoor
set_option linter.unusedVariables false
set_option linter.unusedSimpArgs false
open Go Go.RowKit

/-- The table can be read now, and after all changes that leave the blocks from lo on as they are. -/
def RdR (lo : Nat) (w : World) (v : Value) (X : List (List Int)) : Prop :=
  ∀ (S : Nat → Prop) (w' : World), Keep S w w' → (∀ b, lo ≤ b → b < w.heap.size → ¬ S b) → Rows w' v X
theorem keep_low {S : Nat → Prop} {w w' : World} (k : Keep S w w') : Keep (fun b => S b ∧ b < w.heap.size) w w' := ⟨k.os, k.tape, k.output, k.size, fun x hx hn => k.block x hx (fun e => hn ⟨e, hx⟩)⟩
theorem RowsW.rd {lo : Nat} {w : World} {v : Value} {X : List (List Int)} (h : RowsW lo w v X) : RdR lo w v X := fun _ _ k hS => (h.keepB k hS).rows
theorem RowsAt.rd {lo : Nat} {w : World} {v : Value} {X : List (List Int)} (h : RowsAt lo w v X) : RdR lo w v X := fun _ _ k hS => (h.keep (keep_low k) (fun b hb e => hS b hb e.2 e.1)).rows
namespace RdR
variable {lo : Nat} {w w' : World} {v : Value} {X : List (List Int)}
theorem rows (h : RdR lo w v X) : Rows w v X := h (fun _ => False) w (Keep.refl _ _) (fun _ _ _ e => e)
theorem keep (h : RdR lo w v X) {S : Nat → Prop} (k : Keep S w w') (hS : ∀ b, lo ≤ b → b < w.heap.size → ¬ S b) : RdR lo w' v X := by
  intro S2 w2 k2 h2
  refine h (fun b => S b ∨ S2 b) w2 ?_ ?_
  · refine ⟨k2.os.trans k.os, k2.tape.trans k.tape, k2.output.trans k.output, Nat.le_trans k.size k2.size, fun x hx hn => ?_⟩
    have e1 := k.block x hx (fun e => hn (.inl e))
    have e2 := k2.block x (Nat.lt_of_lt_of_le hx k.size) (fun e => hn (.inr e))
    exact e2.trans e1
  · intro b h3 h4 h5
    rcases h5 with h5 | h5
    · exact hS b h3 h4 h5
    · exact h2 b h3 (Nat.lt_of_lt_of_le h4 k.size) h5
theorem drew {b : Nat} (h : RdR lo w v X) (hd : Drew b w w') (hb : b < lo) : RdR lo w' v X := h.keep hd.2 (fun x hx _ e => by have e : x = b := e; omega)
theorem under (h : RdR lo w v X) (hb : Below w.heap.size w w') : RdR lo w' v X :=
  h.keep (S := fun b => w.heap.size ≤ b) (Keep.of_below hb) fun b _ h1 h2 => by have h2 : w.heap.size ≤ b := h2; omega
theorem mono {lo' : Nat} (h : RdR lo w v X) (hl : lo' ≤ lo) : RdR lo' w v X := fun S w' k hS => h S w' k (fun b hb h2 => hS b (Nat.le_trans hl hb) h2)
end RdR
/-- A pair of tables that can be read, in blocks from lo on. -/
def RdS (lo : Nat) (w : World) (v1 v2 : Value) (A B : List (List Int)) : Prop := RdR lo w v1 A ∧ RdR lo w v2 B
namespace RdS
variable {lo : Nat} {w w' : World} {v1 v2 : Value} {A B : List (List Int)}
theorem sol (h : RdS lo w v1 v2 A B) : Sol w v1 v2 A B := ⟨h.1.rows, h.2.rows⟩
theorem keep (h : RdS lo w v1 v2 A B) {S : Nat → Prop} (k : Keep S w w') (hS : ∀ b, lo ≤ b → b < w.heap.size → ¬ S b) : RdS lo w' v1 v2 A B := ⟨h.1.keep k hS, h.2.keep k hS⟩
theorem drew {b : Nat} (h : RdS lo w v1 v2 A B) (hd : Drew b w w') (hb : b < lo) : RdS lo w' v1 v2 A B := ⟨h.1.drew hd hb, h.2.drew hd hb⟩
theorem under (h : RdS lo w v1 v2 A B) (hb : Below w.heap.size w w') : RdS lo w' v1 v2 A B := ⟨h.1.under hb, h.2.under hb⟩
theorem mono {lo' : Nat} (h : RdS lo w v1 v2 A B) (hl : lo' ≤ lo) : RdS lo' w v1 v2 A B := ⟨h.1.mono hl, h.2.mono hl⟩
end RdS
/-- What a draw of a pair of tables leaves, which need be no pair map. -/
def RSpoil (b : Nat) (w : World) (e : Ending) (w' : World) : Prop :=
  ∃ (r1 r2 : Value) (A B : List (List Int)), e = .returned (.agg #[r1, r2]) ∧ RdS w.heap.size w' r1 r2 A B ∧ A.length ≤ 101 ∧ Drew b w w'
theorem spoil_end {b lo : Nat} {w w9 : World} {r1 r2 : Value} {A B : List (List Int)} (hsa : RdS lo w9 r1 r2 A B) (hlo : w.heap.size < lo) (hbl : b < w.heap.size) (hl : A.length ≤ 101) (hd : Drew b w w9) :
    RSpoil b w (.returned (.agg #[r1, r2])) ((w9.setCell ⟨w.heap.size, 0, none⟩ r1).setCell ⟨w.heap.size, 1, none⟩ r2) := by
  have kz : Keep (fun x => x = w.heap.size) w9 ((w9.setCell ⟨w.heap.size, 0, none⟩ r1).setCell ⟨w.heap.size, 1, none⟩ r2) := keep_early _ _ _ _
  exact ⟨_, _, A, B, rfl, (hsa.keep kz (fun x hx _ e => by have e : x = w.heap.size := e; omega)).mono (by omega), hl,
    drew_set (drew_set hd (p := ⟨w.heap.size, 0, none⟩) (Nat.le_refl _) hbl _) (p := ⟨w.heap.size, 1, none⟩) (Nat.le_refl _) hbl _⟩
end Go.Proofs.YtnbhghgkjcfcmaaDoor

namespace Go.Proofs.YtnbhghgkjcfcmaaDoor
set_option linter.unusedVariables false
set_option linter.unusedSimpArgs false
open Go Go.RowKit

theorem wide_tab {A : List (List Int)} (h : isTab A = true) : Wide A.length A := fun r hr => by
  obtain ⟨i, hi, rfl⟩ := List.getElem_of_mem hr
  have := isTab_row h (x := (i : Int)) (by omega) (by omega)
  rw [row_nat _ _ hi] at this; omega
theorem SolAt.rd {lo : Nat} {w : World} {v1 v2 : Value} {A B : List (List Int)} (h : SolAt lo w v1 v2 A B) : RdS lo w v1 v2 A B := ⟨h.1.rd, h.2.rd⟩
theorem RowsAt.monoB {lo lo' : Nat} {w : World} {v : Value} {X : List (List Int)} (h : RowsAt lo w v X) (hl : lo' ≤ lo) : RowsAt lo' w v X := h.mono hl
/-- A store of a slice into a table of a pair. -/
theorem SolAt.putS {lo m n1 c1 n2 c2 : Nat} {w : World} {a1 a2 : Option Addr} {A B : List (List Int)} (h : SolAt lo w (.slice a1 n1 c1) (.slice a2 n2 c2) A B) (hA : Wide m A) (hB : Wide m B) {p : Addr} {a0 : Option Addr} {n0 c0 : Nat} (hp : w.cell? p = some (.slice a0 n0 c0)) {u : Value} {ys : List Int} (hu : IntsW lo w u ys) (hy : ys.length ≤ m) :
    ∃ Y Z, Y.length = A.length ∧ SolAt lo (w.setCell p u) (.slice a1 n1 c1) (.slice a2 n2 c2) Y Z := by
  obtain ⟨Y, h1, _, h2⟩ := h.1.putS hA hp hu hy
  obtain ⟨Z, _, _, h4⟩ := h.2.putS hB hp hu hy
  exact ⟨Y, Z, h1, h2, h4⟩
theorem SolAt.putI {lo m n1 c1 n2 c2 : Nat} {w : World} {a1 a2 : Option Addr} {A B : List (List Int)} (h : SolAt lo w (.slice a1 n1 c1) (.slice a2 n2 c2) A B) (hA : Wide m A) (hB : Wide m B) {p : Addr} {y0 : Int} (hp : w.cell? p = some (.int .i64 y0)) (z : Int) :
    ∃ Y Z, Y.length = A.length ∧ SolAt lo (w.setCell p (.int .i64 z)) (.slice a1 n1 c1) (.slice a2 n2 c2) Y Z := by
  obtain ⟨Y, h1, _, h2⟩ := h.1.putI hA hp z
  obtain ⟨Z, _, _, h4⟩ := h.2.putI hB hp z
  exact ⟨Y, Z, h1, h2, h4⟩
/-- Where a table's cells lie. -/
theorem RowsW.home {lo : Nat} {w : World} {a : Option Addr} {n c : Nat} {X : List (List Int)} (h : RowsW lo w (.slice a n c) X) (hX : 0 < X.length) : ∃ tb, a = some ⟨tb, 0, none⟩ ∧ lo ≤ tb ∧ tb < w.heap.size := by
  obtain ⟨b, a', c', ha, hlo, hc, _⟩ := h.at 0 hX
  exact ⟨b, ha, hlo, cell_lt hc⟩
theorem RowsW.cellAt {lo : Nat} {w : World} {tb n c : Nat} {X : List (List Int)} (h : RowsW lo w (.slice (some ⟨tb, 0, none⟩) n c) X) (k : Nat) (hk : k < X.length) :
    ∃ a' c', w.cell? ⟨tb, k, none⟩ = some (.slice a' (row X k).length c') ∧ w.frozen? ⟨tb, k, none⟩ = false ∧ IntsW lo w (.slice a' (row X k).length c') (row X k) := by
  obtain ⟨b, a', c', ha, hlo, hc, hf, hi⟩ := h.at k hk
  injection ha with ha; injection ha with ha; subst ha
  exact ⟨a', c', hc, hf, hi⟩
theorem RowsW.rowAt {lo m : Nat} {w : World} {tb n c : Nat} {X : List (List Int)} (h : RowsW lo w (.slice (some ⟨tb, 0, none⟩) n c) X) (k : Nat) (hk : k < X.length) (hl : (row X k).length = m) (hm : 0 < m) :
    ∃ rb c', w.cell? ⟨tb, k, none⟩ = some (.slice (some ⟨rb, 0, none⟩) m c') ∧ lo ≤ rb ∧ rb < w.heap.size ∧ IntsW lo w (.slice (some ⟨rb, 0, none⟩) m c') (row X k) := by
  obtain ⟨a', c', hc, _, hi⟩ := h.cellAt k hk
  obtain ⟨rb, ha, hlo, h0, _⟩ := hi.at0 0 (by omega)
  subst ha
  rw [hl] at hc hi
  exact ⟨rb, c', hc, hlo, cell_lt h0, hi⟩
theorem IntsW.cellAt {lo : Nat} {w : World} {rb n c : Nat} {xs : List Int} (h : IntsW lo w (.slice (some ⟨rb, 0, none⟩) n c) xs) (k : Nat) (hk : k < xs.length) : w.cell? ⟨rb, k, none⟩ = some (.int .i64 (nth xs k)) ∧ w.frozen? ⟨rb, k, none⟩ = false := by
  obtain ⟨b, ha, hlo, hc, hf⟩ := h.at0 k hk
  injection ha with ha; injection ha with ha; subst ha
  exact ⟨hc, hf⟩
theorem RowsAt.isSlice {lo : Nat} {w : World} {v : Value} {X : List (List Int)} (h : RowsAt lo w v X) : ∃ a c, v = .slice a X.length c := by
  obtain ⟨a, c, hv, _⟩ := h
  exact ⟨a, c, hv⟩

set_option maxRecDepth 100000 in
set_option maxHeartbeats 8000000 in
theorem c_l02Spoil (b most : Nat) (w : World) (hs : Src w b) (h1 : 1 ≤ most) (h2 : most ≤ 12) : Calls Tryd.prog 44 #[.pointer (some ⟨b, 0, none⟩), .int .i64 most] w (RSpoil b w) := by
  have HS := Lib.hid hs; have hbl := hs.lt; clear hs
  have HF0 : Hid (Blk (w.alloc (.cells #[.slice none 0 0, .slice none 0 0] 38)) w.heap.size 38 [.slice none 0 0, .slice none 0 0]) := Lib.hid (Blk.new w [.slice none 0 0, .slice none 0 0] 38)
  have HB0 : Hid (Below w.heap.size w (w.alloc (.cells #[.slice none 0 0, .slice none 0 0] 38))) := Lib.hid ((Below.refl _ _).alloc (Nat.le_refl _) _)
  go_enter Tryd.func44, Tryd.ntmps44
  have HS0 := Lib.hid (HS.out.under HB0.out)
  have HD0 := Lib.hid ((Drew.refl HS.out).under HB0.out)
  go_wp2_with fail
  refine (c_l02Draw b most _ HS0.out h1 h2).mono ?_; rintro e w1 ⟨r1, r2, A, B, rfl, hsa, hpm, hln, hd1⟩
  obtain ⟨sa1, sc1, sa2, sc2, hv1, hv2⟩ := hsa.shape
  subst hv1 hv2
  obtain ⟨n, hnA⟩ : ∃ n, A.length = n := ⟨_, rfl⟩
  have hnB : B.length = n := by rw [← hnA]; exact (isPM_parts hpm).2.2.symm
  have hn1 : 1 ≤ n := by have := (isTab_len (isPM_parts hpm).1).1; omega
  have hn12 : n ≤ 12 := by omega
  rw [hnA, hnB] at hsa ⊢
  obtain ⟨tb, hsa1, tb0, tb1⟩ := hsa.1.home (by omega)
  obtain ⟨tc, hsa2, tc0, tc1⟩ := hsa.2.home (by omega)
  subst hsa1 hsa2
  have hwA : Wide n A := by rw [← hnA]; exact wide_tab (isPM_parts hpm).1
  have hwB : Wide n B := by rw [← hnB]; exact wide_tab (isPM_parts hpm).2.1
  have hrB : ∀ k : Nat, k < n → (row B k).length = n := fun k hk => by rw [← hnB]; exact isTab_row (isPM_parts hpm).2.1 (by omega) (by omega)
  have HRow : Hid (∀ k : Nat, k < n → ∃ rb c', w1.cell? ⟨tc, k, none⟩ = some (.slice (some ⟨rb, 0, none⟩) n c') ∧ w.heap.size < rb ∧ rb < w1.heap.size ∧ IntsW (w.heap.size + 1) w1 (.slice (some ⟨rb, 0, none⟩) n c') (row B k)) := Lib.hid fun k hk => by
    obtain ⟨rb, c', q1, q2, q3, q4⟩ := hsa.2.rowAt k (by omega) (hrB k hk) hn1
    simp at q2
    exact ⟨rb, c', q1, by omega, q3, q4.mono (by simp)⟩
  have HN := Lib.hid (And.intro hnA hnB); have HW := Lib.hid (And.intro hwA hwB); have HRB := Lib.hid hrB
  have hba : Below w1.heap.size w1 (w1.alloc (.cells #[.slice (some ⟨tb, 0, none⟩) n sc1, .slice (some ⟨tc, 0, none⟩) n sc2] 38)) := (Below.refl _ _).alloc (Nat.le_refl _) _
  have hq : w.heap.size < w1.heap.size := by have := hd1.2.size; simp at this; omega
  have HBX := Lib.hid (show Blk (w1.alloc (.cells #[.slice (some ⟨tb, 0, none⟩) n sc1, .slice (some ⟨tc, 0, none⟩) n sc2] 38)) w1.heap.size 38 [.slice (some ⟨tb, 0, none⟩) n sc1, .slice (some ⟨tc, 0, none⟩) n sc2] from Blk.new w1 [.slice (some ⟨tb, 0, none⟩) n sc1, .slice (some ⟨tc, 0, none⟩) n sc2] 38)
  have HF1 := Lib.hid ((hd1.blk HF0.out (by omega)).under hba); have HD1 := Lib.hid ((HD0.out.trans hd1).under hba)
  have HSA1 := Lib.hid ((hsa.under hba).mono (show w.heap.size + 1 ≤ _ by simp))
  have HKA : Hid (Keep (fun k => w1.heap.size ≤ k) w1 (w1.alloc (.cells #[.slice (some ⟨tb, 0, none⟩) n sc1, .slice (some ⟨tc, 0, none⟩) n sc2] 38))) := Lib.hid (Keep.of_below hba)
  have HRd1 := Lib.hid ((hsa.mono (show w.heap.size + 1 ≤ _ by simp)).rd)
  simp at tb0 tc0
  have htb : w.heap.size < tb := by omega
  have htc : w.heap.size < tc := by omega
  clear hd1 hsa hpm hln hba HD0 HF0 HS0 HB0 hnA hnB hwA hwB hrB tb0 tc0
  go_wp2_with fail
  refine (c_l01Next b 24 _ HD1.out.1 (by omega) (by omega)).mono ?_; rintro e w2 ⟨kd, rfl, kd0, kd1, hd2⟩
  have HF2 := Lib.hid (hd2.blk HF1.out (by omega)); have HD2 := Lib.hid (HD1.out.trans hd2)
  have HSA2 := Lib.hid (HSA1.out.drew hd2 (by omega)); have HBX2 := Lib.hid (hd2.blk HBX.out (by omega))
  have hw2 : w1.heap.size < w2.heap.size := HBX2.out.lt
  have HKW2 : Hid (Keep (fun k => k = b ∨ w1.heap.size ≤ k) w1 w2) := Lib.hid ((keep_mono HKA.out (fun x h => .inr h)).trans (keep_mono hd2.2 (fun x h => .inl h)))
  -- the cells of the second table's rows, at w2 and later
  have HRow2 : Hid (∀ k : Nat, k < n → ∃ rb c', rb < w1.heap.size ∧ w.heap.size < rb ∧ ∀ w' : World, Keep (fun j => j = b ∨ w2.heap.size ≤ j) w2 w' → w'.cell? ⟨tc, k, none⟩ = some (.slice (some ⟨rb, 0, none⟩) n c') ∧ IntsW (w.heap.size + 1) w' (.slice (some ⟨rb, 0, none⟩) n c') (row B k)) := Lib.hid fun k hk => by
    obtain ⟨rb, c', q1, q2, q3, q4⟩ := HRow.out k hk
    have q5 := cell_of_block (HKA.out.block tc tc1 (by omega)) q1
    have q6 := cell_of_block (hd2.2.block tc (cell_lt q5) (by omega)) q5
    have q7 : IntsW (w.heap.size + 1) _ _ _ := (q4.keep HKA.out (fun x _ h e => by omega)).keep hd2.2 (fun x h _ e => by have e : x = b := e; omega)
    refine ⟨rb, c', q3, q2, fun w' k' => ⟨cell_of_block (k'.block tc (cell_lt q6) (by omega)) q6, q7.keep k' (fun x h h2 e => by rcases e with e | e <;> omega)⟩⟩
  obtain ⟨rbF, rcF, hrF⟩ : ∃ (rbF rcF : Nat → Nat), ∀ k : Nat, k < n → rbF k < w1.heap.size ∧ w.heap.size < rbF k ∧ ∀ w' : World, Keep (fun j => j = b ∨ w2.heap.size ≤ j) w2 w' → w'.cell? ⟨tc, k, none⟩ = some (.slice (some ⟨rbF k, 0, none⟩) n (rcF k)) ∧ IntsW (w.heap.size + 1) w' (.slice (some ⟨rbF k, 0, none⟩) n (rcF k)) (row B k) := by
    refine ⟨fun k => if h : k < n then Classical.choose (HRow2.out k h) else 0, fun k => if h : k < n then Classical.choose (Classical.choose_spec (HRow2.out k h)) else 0, fun k hk => ?_⟩
    simp only [hk, dite_true]
    exact Classical.choose_spec (Classical.choose_spec (HRow2.out k hk))
  have HRF := Lib.hid hrF
  clear hd2 HF1 HD1 HSA1 HBX HRow HKA HRow2 hrF
  have HK : Hid (∀ w' : World, Keep (fun k => k = b ∨ w2.heap.size ≤ k ∨ (k < w1.heap.size ∧ w.heap.size < k)) w2 w' → w'.cell? ⟨w1.heap.size, 0, none⟩ = some (.slice (some ⟨tb, 0, none⟩) n sc1) ∧ w'.cell? ⟨w1.heap.size, 1, none⟩ = some (.slice (some ⟨tc, 0, none⟩) n sc2)) := Lib.hid (fun w' k => by
      have := HBX2.out.of_block (k.block w1.heap.size hw2 (by omega))
      obtain ⟨x0, x1, -, -⟩ := two_cells this
      exact ⟨x0, x1⟩)
  have K0 : Keep (fun j => j = b ∨ w2.heap.size ≤ j) w2 w2.drew := (Keep.refl _ w2).drew
  have HUP : Hid (∀ w' : World, Keep (fun j => j = b ∨ w2.heap.size ≤ j) w2 w' → Keep (fun k => k = b ∨ w2.heap.size ≤ k ∨ (k < w1.heap.size ∧ w.heap.size < k)) w2 w') := Lib.hid fun w' k => keep_mono k (fun x hx => by rcases hx with h | h; exact .inl h; exact .inr (.inl h))
  have HDw := Lib.hid (HD2.out.under ((Below.refl w2.heap.size w2).drew))
  have HSrc := Lib.hid HDw.out.1
  have HFw := Lib.hid (HF2.out.under ((Below.refl w2.heap.size w2).drew))
  have HSAw := Lib.hid (HSA2.out.under ((Below.refl w2.heap.size w2).drew))
  have hnI : (1 : Int) ≤ n := by omega
  have hbI : (n : Int) ≤ 9223372036854775807 := by omega
  by_cases e0 : kd = 0
  · subst e0
    obtain ⟨zc0, zc1⟩ := HK.out _ (HUP.out _ K0)
    go_wp2
    go_region_held3 (fun w' => w'.cell? ⟨w1.heap.size, 0, none⟩ = some (.slice (some ⟨tb, 0, none⟩) n sc1) ∧ w'.cell? ⟨w1.heap.size, 1, none⟩ = some (.slice (some ⟨tc, 0, none⟩) n sc2))
      (first | exact HK.out _ (HUP.out _ K0) | exact HK.out _ (HUP.out _ K3) | exact HK.out _ (HUP.out _ K4) | exact HK.out _ K5)
      (first
        | (go_at_call 34; (with_reducible refine (c_l01Next b n _ HSrc.out hnI hbI).mono ?_); rintro e w3 ⟨x, rfl, x0, x1, hd3⟩; obtain ⟨X, rfl⟩ : ∃ X : Nat, x = X := ⟨x.toNat, by omega⟩; have K3 := K0.trans (keep_mono hd3.2 (T := fun j => j = b ∨ w2.heap.size ≤ j) (fun x hx => .inl hx)); have HD3 := Lib.hid (HDw.out.trans hd3); have HSrc3 := Lib.hid hd3.1; have HF3 := Lib.hid (hd3.blk HFw.out (by omega)); have HSA3 := Lib.hid (HSAw.out.drew hd3 (by omega)); obtain ⟨zd0, zd1⟩ := HK.out _ (HUP.out _ K3); have hXn : X < n := (by omega); clear hd3)
        | (go_at_call 38; (with_reducible refine (c_l01DrawP b n _ HSrc3.out hn1 (by omega)).mono ?_); rintro e w4 ⟨r, p, rfl, hpl, hpp, hop, hd4⟩; obtain ⟨ra, rc, hr, -⟩ := hop.shape; rw [hpl] at hr; subst hr; have hsz3 := K3.size; have K4 := K3.trans (keep_mono hd4.2 (T := fun j => j = b ∨ w2.heap.size ≤ j) (fun x hx => .inl hx)); have HD4 := Lib.hid (HD3.out.trans hd4); have HF4 := Lib.hid (hd4.blk HF3.out (by omega)); have HSA4 := Lib.hid (HSA3.out.drew hd4 (by omega)); obtain ⟨ze0, ze1⟩ := HK.out _ (HUP.out _ K4); obtain ⟨xa, xc, hcell, hfrz, -⟩ := HSA4.out.1.cellAt X (by rw [HN.out.1]; exact hXn); have HPut := Lib.hid (HSA4.out.putS HW.out.1 HW.out.2 hcell (hop.wr.mono (show w.heap.size + 1 ≤ _ by have := HSA3.out; have := HF3.out.lt; omega)) (by rw [hpl]; exact Nat.le_refl _)); have K5 := (HUP.out _ K4).setCell (p := ⟨tb, X, none⟩) (.inl (.inr (.inr ⟨tb1, htb⟩))) (.slice ra n rc); clear hd4 hpp hop))
    all_goals
      rename_i hHz
      clear hHz
      obtain ⟨Y, Z, hYl, hput⟩ := HPut.out
      have HP := Lib.hid hput; have HYl := Lib.hid (show Y.length ≤ 101 by rw [hYl, HN.out.1]; omega)
      have HD6 := Lib.hid (drew_set HD4.out (p := ⟨tb, X, none⟩) (show w.heap.size ≤ tb by omega) (show b < tb by omega) (.slice ra n rc))
      obtain ⟨y0, y1⟩ := HK.out _ K5
      obtain ⟨z0, z1, -, -⟩ := two_cells (HF4.out.other (a := ⟨tb, X, none⟩) (show w.heap.size ≠ tb by omega) (.slice ra n rc))
      obtain ⟨-, -, x4, x5⟩ := two_cells HF4.out
      clear hput hYl
      go_wp2
      exact bodyPost_ret (v := .agg #[.slice (some ⟨tb, 0, none⟩) n sc1, .slice (some ⟨tc, 0, none⟩) n sc2]) (by simp [results, Tryd.results44, go_sem, z0, z1]) rfl (spoil_end HP.out.rd (Nat.lt_succ_self _) hbl HYl.out HD6.out)
  have s0 : (kd == 0) = false := by simp [e0]
  by_cases e1 : kd = 1
  · subst e1
    obtain ⟨zc0, zc1⟩ := HK.out _ (HUP.out _ K0)
    go_wp2
    have HRc : Hid (∀ w' : World, Keep (fun j => j = b ∨ w2.heap.size ≤ j) w2 w' → ∀ k : Nat, k < n → w'.cell? ⟨tc, k, none⟩ = some (.slice (some ⟨rbF k, 0, none⟩) n (rcF k))) := Lib.hid fun w' k' k hk => ((HRF.out k hk).2.2 w' k').1
    go_region_held3 (fun w' => (w'.cell? ⟨w1.heap.size, 0, none⟩ = some (.slice (some ⟨tb, 0, none⟩) n sc1) ∧ w'.cell? ⟨w1.heap.size, 1, none⟩ = some (.slice (some ⟨tc, 0, none⟩) n sc2)) ∧ ∀ k : Nat, k < n → w'.cell? ⟨tc, k, none⟩ = some (.slice (some ⟨rbF k, 0, none⟩) n (rcF k)))
      (first | exact ⟨HK.out _ (HUP.out _ K0), HRc.out _ K0⟩ | exact ⟨HK.out _ (HUP.out _ K3), HRc.out _ K3⟩)
      ((go_at_call 34; (with_reducible refine (c_l01Next b n _ HSrc.out hnI hbI).mono ?_); rintro e w3 ⟨x, rfl, x0, x1, hd3⟩; obtain ⟨X, rfl⟩ : ∃ X : Nat, x = X := ⟨x.toNat, by omega⟩; have K3 := K0.trans (keep_mono hd3.2 (T := fun j => j = b ∨ w2.heap.size ≤ j) (fun x hx => .inl hx)); have HD3 := Lib.hid (HDw.out.trans hd3); have HSrc3 := Lib.hid hd3.1; have HF3 := Lib.hid (hd3.blk HFw.out (by omega)); have HSA3 := Lib.hid (HSAw.out.drew hd3 (by omega)); obtain ⟨zd0, zd1⟩ := HK.out _ (HUP.out _ K3); have hXn : X < n := (by omega); have zx := HRc.out _ K3 X hXn; clear hd3))
    all_goals
      rename_i hHz
      clear hHz
      obtain ⟨rb1, rb0, hrow⟩ := HRF.out X hXn
      have HRw := Lib.hid hrow
      clear hrow
      obtain ⟨rb, hrb⟩ : ∃ rb, rbF X = rb := ⟨_, rfl⟩
      obtain ⟨rc, hrc⟩ : ∃ rc, rcF X = rc := ⟨_, rfl⟩
      rw [hrb] at rb1 rb0
      rw [hrb, hrc] at HRw
      go_wp2_with fail
      refine (c_l01Next b n _ HSrc3.out hnI hbI).mono ?_; rintro e w4 ⟨y, rfl, y0, y1, hd4⟩
      obtain ⟨Y, rfl⟩ : ∃ Y : Nat, y = Y := ⟨y.toNat, by omega⟩
      have K4 := K3.trans (keep_mono hd4.2 (T := fun j => j = b ∨ w2.heap.size ≤ j) (fun x hx => .inl hx))
      have HD4 := Lib.hid (HD3.out.trans hd4); have HF4 := Lib.hid (hd4.blk HF3.out (by omega)); have HSA4 := Lib.hid (HSA3.out.drew hd4 (by omega))
      clear hd4 zx zd0 zd1
      go_wp2_with fail
      refine (c_l01Next b n _ HD4.out.1 hnI hbI).mono ?_; rintro e w5 ⟨t, rfl, t0, t1, hd5⟩
      have K5 := K4.trans (keep_mono hd5.2 (T := fun j => j = b ∨ w2.heap.size ≤ j) (fun x hx => .inl hx))
      have HD5 := Lib.hid (HD4.out.trans hd5); have HF5 := Lib.hid (hd5.blk HF4.out (by omega)); have HSA5 := Lib.hid (HSA4.out.drew hd5 (by omega))
      have hYn : Y < n := by omega
      obtain ⟨hcell, hfrz⟩ := (HRw.out _ K5).2.cellAt Y (by rw [HRB.out X hXn]; exact hYn)
      obtain ⟨Y', Z', hYl, hput⟩ := HSA5.out.putI HW.out.1 HW.out.2 hcell t
      have HP := Lib.hid hput; have HYl := Lib.hid (show Y'.length ≤ 101 by rw [hYl, HN.out.1]; omega)
      have HD6 := Lib.hid (drew_set HD5.out (p := ⟨rb, Y, none⟩) (show w.heap.size ≤ rb by omega) (show b < rb by omega) (.int .i64 t))
      have K6 := (HUP.out _ K5).setCell (p := ⟨rb, Y, none⟩) (.inl (.inr (.inr ⟨rb1, rb0⟩))) (.int .i64 t)
      obtain ⟨y0, y1⟩ := HK.out _ K6
      obtain ⟨z0, z1, -, -⟩ := two_cells (HF5.out.other (a := ⟨rb, Y, none⟩) (show w.heap.size ≠ rb by omega) (.int .i64 t))
      obtain ⟨-, -, x4, x5⟩ := two_cells HF5.out
      clear hput hYl hd5
      go_wp2
      exact bodyPost_ret (v := .agg #[.slice (some ⟨tb, 0, none⟩) n sc1, .slice (some ⟨tc, 0, none⟩) n sc2]) (by simp [results, Tryd.results44, go_sem, z0, z1]) rfl (spoil_end HP.out.rd (Nat.lt_succ_self _) hbl HYl.out HD6.out)
  have s1 : (kd == 1) = false := by simp [e1]
  by_cases e2 : kd = 2
  · subst e2
    go_wp2_with fail
    refine (c_l01Tables b n _ HD2.out.1 hn1 (by omega)).mono ?_; rintro e w3 ⟨r3, X, rfl, hXl, hXr, hor, hd3⟩
    obtain ⟨ra, rc, hr, -⟩ := OwnRows.shape' hor
    rw [hXl] at hr
    subst hr
    have HO3 := Lib.hid hor.wr; have HD3 := Lib.hid (HD2.out.trans hd3); have HX := Lib.hid (show X.length ≤ 101 by omega)
    have HF3 := Lib.hid (hd3.blk HF2.out (by omega)); have HBX3 := Lib.hid (hd3.blk HBX2.out (by omega))
    have hw3 : w2.heap.size ≤ w3.heap.size := hd3.2.size
    clear hor hd3 hXl hXr
    go_wp2_with fail
    refine (c_l01Tables b n _ HD3.out.1 hn1 (by omega)).mono ?_; rintro e w4 ⟨r4, X2, rfl, hXl, hXr, hor, hd4⟩
    obtain ⟨ra4, rc4, hr, -⟩ := OwnRows.shape' hor
    rw [hXl] at hr
    subst hr
    have HO4 := Lib.hid (hor.wr.mono hw3); have HD4 := Lib.hid (HD3.out.trans hd4)
    have HO34 := Lib.hid (drew_w hd4 HO3.out (by omega))
    have HF4 := Lib.hid (hd4.blk HF3.out (by omega)); have HBX4 := Lib.hid (hd4.blk HBX3.out (by omega))
    clear hor hd4 hXl hXr
    obtain ⟨x0, x1, x2, x3⟩ := two_cells HBX4.out
    obtain ⟨-, -, x4, x5⟩ := two_cells HF4.out
    have HBX5 := Lib.hid ((HBX4.out.set 0 (.slice ra n rc)).set 1 (.slice ra4 n rc4))
    have kz : Keep (fun x => x = w1.heap.size) w4 ((w4.setCell ⟨w1.heap.size, 0, none⟩ (.slice ra n rc)).setCell ⟨w1.heap.size, 1, none⟩ (.slice ra4 n rc4)) := keep_early _ _ _ _
    obtain ⟨z0, z1, -, -⟩ := two_cells (HF4.out.of_block (kz.block w.heap.size HF4.out.lt (by omega)))
    obtain ⟨y0, y1, -, -⟩ := two_cells HBX5.out
    have HD6 := Lib.hid (drew_set (drew_set HD4.out (p := ⟨w1.heap.size, 0, none⟩) (show w.heap.size ≤ w1.heap.size by omega) (show b < w1.heap.size by omega) (.slice ra n rc)) (p := ⟨w1.heap.size, 1, none⟩) (show w.heap.size ≤ w1.heap.size by omega) (show b < w1.heap.size by omega) (.slice ra4 n rc4))
    have HRd := Lib.hid (RdS.keep (v1 := .slice ra n rc) (v2 := .slice ra4 n rc4) ⟨HO34.out.rd, HO4.out.rd⟩ kz (fun x hx _ e => by have e : x = w1.heap.size := e; omega))
    have hwq : w.heap.size < w2.heap.size := by omega
    clear kz HBX5 HBX4 HBX3 HBX2 HF2 HF3
    go_wp2
    exact bodyPost_ret (v := .agg #[.slice ra n rc, .slice ra4 n rc4]) (by simp [results, Tryd.results44, go_sem, z0, z1]) rfl (spoil_end HRd.out hwq hbl HX.out HD6.out)
  have s2 : (kd == 2) = false := by simp [e2]
  by_cases e3 : kd = 3
  · subst e3
    go_wp2_with fail
    refine (c_l01Bad b n _ HD2.out.1 hn1 (by omega)).mono ?_; rintro e w3 ⟨r3, X, rfl, hXl, hXr, hor, hd3⟩
    obtain ⟨ra, rc, hr⟩ := hor.isSlice
    subst hr
    have HO3 := Lib.hid hor; have HD3 := Lib.hid (HD2.out.trans hd3); have HX := Lib.hid hXl
    have HF3 := Lib.hid (hd3.blk HF2.out (by omega)); have HBX3 := Lib.hid (hd3.blk HBX2.out (by omega))
    have K3 := HKW2.out.trans (keep_mono hd3.2 (T := fun k => k = b ∨ w1.heap.size ≤ k) (fun x h => .inl h))
    have K9 := K3.setCell (p := ⟨w1.heap.size, 1, none⟩) (.inl (.inr (Nat.le_refl _))) (.slice ra X.length rc)
    have HO9 := Lib.hid ((HO3.out.rd.keep ((Keep.refl (fun x => x = w1.heap.size) w3).setCell (p := ⟨w1.heap.size, 1, none⟩) (.inl rfl) (.slice ra X.length rc)) (fun x hx _ e => by have e : x = w1.heap.size := e; omega)).mono (show w.heap.size + 1 ≤ w2.heap.size by omega))
    have HRd : Hid (RdS (w.heap.size + 1) (w3.setCell ⟨w1.heap.size, 1, none⟩ (.slice ra X.length rc)) (.slice (some ⟨tb, 0, none⟩) n sc1) (.slice ra X.length rc) _ _) := Lib.hid ⟨HRd1.out.1.keep K9 (fun x hx h2 e => by rcases e with e | e <;> omega), HO9.out⟩
    have HD6 := Lib.hid (drew_set HD3.out (p := ⟨w1.heap.size, 1, none⟩) (show w.heap.size ≤ w1.heap.size by omega) (show b < w1.heap.size by omega) (.slice ra X.length rc))
    have HLn := Lib.hid (show A.length ≤ 101 by rw [HN.out.1]; omega)
    obtain ⟨x0, x1, x2, x3⟩ := two_cells HBX3.out
    obtain ⟨-, -, x4, x5⟩ := two_cells HF3.out
    obtain ⟨y0, y1, -, -⟩ := two_cells (HBX3.out.set 1 (.slice ra X.length rc))
    obtain ⟨z0, z1, -, -⟩ := two_cells (HF3.out.other (a := ⟨w1.heap.size, 1, none⟩) (show w.heap.size ≠ w1.heap.size by omega) (.slice ra X.length rc))
    clear hor hd3 hXl hXr K3 K9
    go_wp2
    exact bodyPost_ret (v := .agg #[.slice (some ⟨tb, 0, none⟩) n sc1, .slice ra X.length rc]) (by simp [results, Tryd.results44, go_sem, z0, z1]) rfl (spoil_end HRd.out (Nat.lt_succ_self _) hbl HLn.out HD6.out)
  have s3 : (kd == 3) = false := by simp [e3]
  by_cases e4 : kd = 4
  · subst e4
    go_wp2_with fail
    refine (c_l01Bad b n _ HD2.out.1 hn1 (by omega)).mono ?_; rintro e w3 ⟨r3, X, rfl, hXl, hXr, hor, hd3⟩
    obtain ⟨ra, rc, hr⟩ := hor.isSlice
    subst hr
    have HO3 := Lib.hid hor; have HD3 := Lib.hid (HD2.out.trans hd3); have HX := Lib.hid hXl
    have HF3 := Lib.hid (hd3.blk HF2.out (by omega)); have HBX3 := Lib.hid (hd3.blk HBX2.out (by omega))
    have K3 := HKW2.out.trans (keep_mono hd3.2 (T := fun k => k = b ∨ w1.heap.size ≤ k) (fun x h => .inl h))
    have K9 := K3.setCell (p := ⟨w1.heap.size, 0, none⟩) (.inl (.inr (Nat.le_refl _))) (.slice ra X.length rc)
    have HO9 := Lib.hid ((HO3.out.rd.keep ((Keep.refl (fun x => x = w1.heap.size) w3).setCell (p := ⟨w1.heap.size, 0, none⟩) (.inl rfl) (.slice ra X.length rc)) (fun x hx _ e => by have e : x = w1.heap.size := e; omega)).mono (show w.heap.size + 1 ≤ w2.heap.size by omega))
    have HRd : Hid (RdS (w.heap.size + 1) (w3.setCell ⟨w1.heap.size, 0, none⟩ (.slice ra X.length rc)) (.slice ra X.length rc) (.slice (some ⟨tc, 0, none⟩) n sc2) _ _) := Lib.hid ⟨HO9.out, HRd1.out.2.keep K9 (fun x hx h2 e => by rcases e with e | e <;> omega)⟩
    have HD6 := Lib.hid (drew_set HD3.out (p := ⟨w1.heap.size, 0, none⟩) (show w.heap.size ≤ w1.heap.size by omega) (show b < w1.heap.size by omega) (.slice ra X.length rc))
    have HLn := Lib.hid HX.out
    obtain ⟨x0, x1, x2, x3⟩ := two_cells HBX3.out
    obtain ⟨-, -, x4, x5⟩ := two_cells HF3.out
    obtain ⟨y0, y1, -, -⟩ := two_cells (HBX3.out.set 0 (.slice ra X.length rc))
    obtain ⟨z0, z1, -, -⟩ := two_cells (HF3.out.other (a := ⟨w1.heap.size, 0, none⟩) (show w.heap.size ≠ w1.heap.size by omega) (.slice ra X.length rc))
    clear hor hd3 hXl hXr K3 K9
    go_wp2
    exact bodyPost_ret (v := .agg #[.slice ra X.length rc, .slice (some ⟨tc, 0, none⟩) n sc2]) (by simp [results, Tryd.results44, go_sem, z0, z1]) rfl (spoil_end HRd.out (Nat.lt_succ_self _) hbl HLn.out HD6.out)
  have s4 : (kd == 4) = false := by simp [e4]
  obtain ⟨x0, x1, -, -⟩ := two_cells HBX2.out
  obtain ⟨z0, z1, x4, x5⟩ := two_cells HF2.out
  have HYl := Lib.hid (show A.length ≤ 101 by rw [HN.out.1]; omega)
  go_wp2
  exact bodyPost_ret (v := .agg #[.slice (some ⟨tb, 0, none⟩) n sc1, .slice (some ⟨tc, 0, none⟩) n sc2]) (by simp [results, Tryd.results44, go_sem, z0, z1]) rfl (spoil_end HSA2.out.rd (Nat.lt_succ_self _) hbl HYl.out HD2.out)


end Go.Proofs.YtnbhghgkjcfcmaaDoor

namespace Go.Proofs
open Go.Shelf
def Tryd.lays156_ren : Go.Shelf.Ren := ⟨fun | 156 => 56 | 165 => 69 | 166 => 70 | 169 => 71 | 240 => 84 | 241 => 85 | 276 => 97 | 277 => 98 | n => n, fun | 31 => 64 | 9 => 9 | 3 => 3 | 4 => 4 | 0 => 0 | 20 => 20 | 72 => 84 | 76 => 88 | 70 => 82 | 37 => 22 | 75 => 87 | 127 => 100 | 164 => 106 | 5 => 5 | 80 => 90 | n => n, fun | n => n⟩
theorem Tryd.lays156 : Go.Proofs.Lays.n156 Tryd.prog Tryd.lays156_ren := {
  mixed := by kernel_rfl
  f156 := Tryd.func56.trans (congrArg some (by kernel_rfl))
  f165 := Tryd.func69.trans (congrArg some (by kernel_rfl))
  f166 := Tryd.func70.trans (congrArg some (by kernel_rfl))
  f169 := Tryd.func71.trans (congrArg some (by kernel_rfl))
  f240 := Tryd.func84.trans (congrArg some (by kernel_rfl))
  f241 := Tryd.func85.trans (congrArg some (by kernel_rfl))
  f276 := Tryd.func97.trans (congrArg some (by kernel_rfl))
  f277 := Tryd.func98.trans (congrArg some (by kernel_rfl))
  t0 := Tryd.underlying0
  a0 := Tryd.isAgg0
  z0 := Tryd.sizeOf0
  v0 := Tryd.zeroValue0
  t3 := Tryd.underlying3
  a3 := Tryd.isAgg3
  z3 := Tryd.sizeOf3
  v3 := Tryd.zeroValue3
  t4 := Tryd.underlying4
  a4 := Tryd.isAgg4
  z4 := Tryd.sizeOf4
  v4 := Tryd.zeroValue4
  t9 := Tryd.underlying9
  a9 := Tryd.isAgg9
  z9 := Tryd.sizeOf9
  v9 := Tryd.zeroValue9
  t20 := Tryd.underlying20
  a20 := Tryd.isAgg20
  z20 := Tryd.sizeOf20
  v20 := Tryd.zeroValue20
  t31 := Tryd.underlying64
  a31 := Tryd.isAgg64
  z31 := Tryd.sizeOf64
  v31 := Tryd.zeroValue64
  t37 := Tryd.underlying22
  a37 := Tryd.isAgg22
  z37 := Tryd.sizeOf22
  v37 := Tryd.zeroValue22
  t70 := Tryd.underlying82
  a70 := Tryd.isAgg82
  z70 := Tryd.sizeOf82
  v70 := Tryd.zeroValue82
  t72 := Tryd.underlying84
  a72 := Tryd.isAgg84
  z72 := Tryd.sizeOf84
  v72 := Tryd.zeroValue84
  t75 := Tryd.underlying87
  a75 := Tryd.isAgg87
  z75 := Tryd.sizeOf87
  v75 := Tryd.zeroValue87
  t76 := Tryd.underlying88
  a76 := Tryd.isAgg88
  z76 := Tryd.sizeOf88
  v76 := Tryd.zeroValue88
  t127 := Tryd.underlying100
  a127 := Tryd.isAgg100
  z127 := Tryd.sizeOf100
  v127 := Tryd.zeroValue100
  t164 := Tryd.underlying106
  a164 := Tryd.isAgg106
  z164 := Tryd.sizeOf106
  v164 := Tryd.zeroValue106 }
theorem Tryd.Builder_Extra_156 : Builder.Extra Tryd.prog Tryd.lays156_ren := {
  sizeBuilder := by kernel_rfl
  liesBuilder := by kernel_rfl
  t5 := Tryd.underlying5
  a5 := Tryd.isAgg5
  z5 := Tryd.sizeOf5
  v5 := Tryd.zeroValue5
  infoByte := by kernel_rfl
  cellsByte := by kernel_rfl
  sizeByte := by kernel_rfl
  neB5 := by decide }
open Go.RowKit in
/-- No element: the empty string; the world is as it was. (Whatever the slice's address and capacity: a nil slice too.) (LAID: no walk: one application.) -/
theorem Tryd.strings_Join_none (a : Option Addr) (c : Nat) (sep : ByteArray) (w : World) :
    Calls Tryd.prog 56 #[.slice a 0 c, .string sep] w fun e w' => e = .returned (.string ⟨#[]⟩) ∧ w' = w := Any.strings_Join_none Tryd.lays156 Tryd.Builder_Extra_156 a c sep w
open Go.RowKit in
/-- strings.Join: "Join concatenates the elements of its first argument to create a single string. The separator string sep is placed between elements in the resulting string.": HOWEVER MANY ELEMENTS. Below the heap's end the world is as it was. (LAID: no walk: one application.) -/
theorem Tryd.strings_Join (bk o c : Nat) (xs : List ByteArray) (sep : ByteArray) (w : World) (hcells : ∀ (j : Nat) x, xs[j]? = some x → w.cell? ⟨bk, o + j, none⟩ = some (.string x)) (hbk : bk < w.heap.size) (hN : xs.length ≤ 140737488355328) (hcap : xs.length ≤ c) (hlen : (Lib.join (xs.map (·.data.toList)) sep.data.toList).length ≤ 140737488355328) :
    Calls Tryd.prog 56 #[.slice (some ⟨bk, o, none⟩) xs.length c, .string sep] w fun e w' => e = .returned (.string ⟨(Lib.join (xs.map (·.data.toList)) sep.data.toList).toArray⟩) ∧ Below w.heap.size w w' := Any.strings_Join Tryd.lays156 Tryd.Builder_Extra_156 bk o c xs sep w hcells hbk hN hcap hlen
end Go.Proofs

namespace Go.Proofs.YtnbhghgkjcfcmaaDoor
set_option linter.unusedVariables false
set_option linter.unusedSimpArgs false
open Go.RowKit

theorem ret_str {a b : ByteArray} (h : a = b) : Ending.returned (.string a) = Ending.returned (.string b) := by rw [h]
theorem inf_string : (Tryd.prog.info? 9).map (fun i => (i.zero, i.size, i.bytes)) = some (some (.string ⟨#[]⟩), 1, 16) := by kernel_rfl
set_option maxHeartbeats 1600000 in
theorem c_tableText (v : Value) (t : List (List Int)) (w : World) (hx : Rows w v t) (ht : isTab t = true) :
    Calls Tryd.prog 27 #[v] w (RVal w (.string (tabText t))) := by
  obtain ⟨a, c, rfl, hc, hm⟩ := hx.shape
  obtain ⟨h1, h12⟩ := isTab_len ht
  have HT := Lib.hid ht; clear ht
  have hmk := run_make_row' (P := Tryd.prog) 64 9 (.string ⟨#[]⟩) 16 Tryd.underlying64 inf_string rfl .i64 .i64 t.length (by omega) (by omega)
  have hb0 : Hid (Below w.heap.size w (w.alloc (.cells (madeCells #[.string ⟨#[]⟩] t.length) 9))) := Lib.hid ((Below.refl _ _).alloc (Nat.le_refl _) _)
  have hk0 : Hid (Blk (w.alloc (.cells (madeCells #[.string ⟨#[]⟩] t.length) 9)) w.heap.size 9 (((t.map textOf).take 0).map Value.string ++ (List.replicate t.length (Value.string ⟨#[]⟩)).drop 0)) := by
    have := Blk.made w (.string ⟨#[]⟩) t.length 9
    show Blk _ _ _ _
    simpa using this
  go_enter Tryd.func27, Tryd.ntmps27
  go_wp2
  clear hmk
  go_loopw [4, 5, 11] (fun _ _ i wr => ∃ k : Nat, k ≤ t.length ∧ i = .int .i64 k ∧ Hid (Below w.heap.size w wr) ∧ Hid (Blk wr w.heap.size 9 (((t.map textOf).take k).map Value.string ++ (List.replicate t.length (Value.string ⟨#[]⟩)).drop k))) (fun _ _ i _ => t.length - (intOf i).toNat)
  case atStart => exact ⟨0, Nat.zero_le _, rfl, hb0, hk0⟩
  case round =>
    clear hb0 hk0
    obtain ⟨k, hk, rfl, HB, HBk⟩ := hrel
    obtain ⟨wo, rfl⟩ : ∃ wo : World, wo = wr := ⟨_, rfl⟩
    by_cases hlt : k < t.length
    · obtain ⟨b, o, ra, rc, rfl, hcell, hu⟩ := (hx.below HB.out).getS k hlt
      have hrow := isTab_row HT.out (x := k) (by omega) (by omega)
      have hin : ∀ x ∈ row t k, 0 ≤ x ∧ x < 12 := fun x hx => by
        have := isTab_val HT.out (row_mem (t := t) (x := k) (by omega) (by omega)) hx
        omega
      have HU := Lib.hid hu; have HIn := Lib.hid hin
      have hrl : (row t k).length ≤ 1048576 := by omega
      clear hu hin hrow
      go_wp2_with fail
      refine (c_digitsText _ _ _ HU.out HIn.out hrl).mono ?_; rintro e w1 ⟨rfl, hb1⟩
      have hbk1 := HBk.out.under hb1
      have hcell1 := hbk1.cell (i := k) (by simp; omega)
      obtain ⟨z, hz⟩ : ∃ z, w1.cell? ⟨w.heap.size, k, none⟩ = some z := ⟨_, hcell1⟩
      have hfr := hbk1.frozen k
      have HB1 := Lib.hid (bb HB.out hb1)
      have hset := hbk1.set k (.string (textOf (row t k)))
      have hset2 : Hid (Blk (w1.setCell ⟨w.heap.size, k, none⟩ (.string (textOf (row t k)))) w.heap.size 9 (((t.map textOf).take (k + 1)).map Value.string ++ (List.replicate t.length (Value.string ⟨#[]⟩)).drop (k + 1))) := by
        show Blk _ _ _ _
        have hl : (((t.map textOf).take k).map Value.string).length = k := by simp; omega
        rw [List.set_append, if_neg (by omega), hl, Nat.sub_self, List.drop_eq_getElem_cons (by simpa using hlt)] at hset
        rw [List.take_succ_eq_append_getElem (by simpa using hlt), List.map_append, List.append_assoc]
        rw [row_nat _ _ hlt] at hset ⊢
        simpa using hset
      have HBk1 := hset2
      clear hb1 hbk1 hcell1 hset hset2 hcell
      go_wp2
      go_roundw
      case rel => exact ⟨k + 1, by omega, by go_num, Lib.hid (HB1.out.setCell (p := ⟨w.heap.size, k, none⟩) (Nat.le_refl _) _), HBk1⟩
      case measure => simp [intOf]; omega
    · obtain rfl : k = t.length := by omega
      have hbk := HBk.out
      rw [List.take_of_length_le (by simp), List.drop_eq_nil_of_le (by simp), List.append_nil] at hbk
      have hcells : Hid (∀ (j : Nat) (x : ByteArray), (t.map textOf)[j]? = some x → wo.cell? ⟨w.heap.size, 0 + j, none⟩ = some (.string x)) := by
        intro j x hj
        obtain ⟨hj1, rfl⟩ := List.getElem?_eq_some_iff.1 hj
        rw [Nat.zero_add, hbk.cell (by simpa using hj1)]
        simp
      have HLt := Lib.hid hbk.lt
      have hml : (t.map textOf).length = t.length := by simp
      have hjl : Hid ((Lib.join ((t.map textOf).map (·.data.toList)) [47]).length ≤ 140737488355328) := by
        have := tabText_size (t := t) (n := 12) (fun r hr => by
          obtain ⟨j, hj, rfl⟩ := List.getElem_of_mem hr
          have := isTab_row HT.out (x := j) (by omega) (by omega)
          rw [row_nat _ _ hj] at this; omega)
        have h3 := Nat.mul_le_mul h12 (show 12 + 1 ≤ 13 by omega)
        have e : (Lib.join ((t.map textOf).map (·.data.toList)) [47]).length = (tabText t).size := by
          unfold tabText
          rw [List.map_map]
          rfl
        show _ ≤ _
        rw [e]; omega
      have hj := Tryd.strings_Join w.heap.size 0 (t.map textOf).length (t.map textOf) ⟨#[47]⟩ wo hcells.out HLt.out (by rw [hml]; omega) (Nat.le_refl _) hjl.out
      rw [hml] at hj
      have HJ := Lib.hid hj
      clear hbk hj hml
      go_wp2_with fail
      refine HJ.out.mono ?_; rintro e w2 ⟨rfl, hb2⟩
      have HB2 := Lib.hid (bb HB.out hb2); clear hb2
      go_wp2
      go_ret
      refine ⟨ret_str ?_, HB2.out⟩
      unfold tabText
      rfl
end Go.Proofs.YtnbhghgkjcfcmaaDoor

namespace Go.Proofs.YtnbhghgkjcfcmaaDoor
set_option linter.unusedVariables false
set_option linter.unusedSimpArgs false
open Go.RowKit

def stTxt (A B : List (List Int)) : ByteArray := tabText A ++ ⟨#[124]⟩ ++ tabText B
def stRes (A B : List (List Int)) : ByteArray := if isPM A B then stTxt A B else ⟨#[]⟩
def stCode (A B : List (List Int)) : Int := if isPM A B then 0 else 1
theorem tabText_small {t : List (List Int)} (ht : isTab t = true) : (tabText t).size ≤ 156 := by
  obtain ⟨_, h12⟩ := isTab_len ht
  have := tabText_size (t := t) (n := 12) (fun r hr => by
    obtain ⟨j, hj, rfl⟩ := List.getElem_of_mem hr
    have := isTab_row ht (x := j) (by omega) (by omega)
    rw [row_nat _ _ hj] at this; omega)
  have h3 := Nat.mul_le_mul h12 (show 12 + 1 ≤ 13 by omega)
  omega

set_option maxRecDepth 100000 in
set_option maxHeartbeats 2000000 in
theorem c_SolutionText (v0 u0 : Value) (A B : List (List Int)) (w : World) (hA : Sol w v0 u0 A B)  :
    Calls Tryd.prog 19 #[.agg #[v0, u0]] w (RVal w (.tuple #[.string (stRes A B), .int .i64 (stCode A B)])) := by
  by_cases hp0 : isPM A B = true
  case neg =>
    have hq0 : isPM A B = false := by simpa using hp0
    have HQ := Lib.hid hq0; clear hp0
    obtain ⟨a0, c0, rfl, _, _⟩ := hA.1.shape
    obtain ⟨a0s, c0s, rfl, _, _⟩ := hA.2.shape
    go_enter Tryd.func19, Tryd.ntmps19
    go_wp2_with fail
    obtain ⟨f0, hW0, hsz⟩ := boxes1 w [.slice a0 A.length c0, .slice a0s B.length c0s] 38
    obtain ⟨W0, hW⟩ : ∃ W, (w.alloc (.cells #[.slice a0 A.length c0, .slice a0s B.length c0s] 38)) = W := ⟨_, rfl⟩
    rw [hW] at f0 hW0 hsz ⊢
    clear hW hsz
    refine (c_IsPairMap _ _ _ _ _ (hA.below hW0)).mono ?_; rintro e g0 ⟨rfl, hbg0⟩
    have hB0 := bb hW0 hbg0
    replace f0 := f0.under hbg0
    obtain ⟨cA0, cB0, -, -⟩ := two_cells f0
    clear hbg0
    have HB := Lib.hid hB0
    clear hB0 hW0
    go_wp2
    go_ret2
    exact ⟨by simp [stRes, stCode, HQ.out], HB.out⟩
  have HP0 := Lib.hid hp0
  obtain ⟨a0, c0, rfl, _, _⟩ := hA.1.shape
  obtain ⟨a0s, c0s, rfl, _, _⟩ := hA.2.shape
  go_enter Tryd.func19, Tryd.ntmps19
  go_wp2_with fail
  obtain ⟨f0, hW0, hsz⟩ := boxes1 w [.slice a0 A.length c0, .slice a0s B.length c0s] 38
  obtain ⟨W0, hW⟩ : ∃ W, (w.alloc (.cells #[.slice a0 A.length c0, .slice a0s B.length c0s] 38)) = W := ⟨_, rfl⟩
  rw [hW] at f0 hW0 hsz ⊢
  clear hW hsz
  refine (c_IsPairMap _ _ _ _ _ (hA.below hW0)).mono ?_; rintro e g0 ⟨rfl, hbg0⟩
  have hB0 := bb hW0 hbg0
  replace f0 := f0.under hbg0
  obtain ⟨cA0, cB0, -, -⟩ := two_cells f0
  clear hbg0
  obtain ⟨q1, q2, -⟩ := isPM_parts HP0.out
  have hs1 := tabText_small q1; have hs2 := tabText_small q2
  have hs3 : (tabText A ++ ⟨#[124]⟩).size ≤ 157 := by rw [ByteArray.size_append]; have : (ByteArray.mk #[124]).size = 1 := rfl; omega
  have hbar : (ByteArray.mk #[124]).size = 1 := rfl
  have hq1 : ¬ ((tabText A).size + (ByteArray.mk #[124]).size > 9223372036854775807) := by omega
  have hq2 : ¬ (9223372036854775807 < (tabText A).size + 1) := by omega
  have hq3 : ¬ ((tabText A ++ ⟨#[124]⟩).size + (tabText B).size > 9223372036854775807) := by omega
  have hq4 : ¬ (9223372036854775807 < (tabText A).size + 1 + (tabText B).size) := by omega
  have HRA := Lib.hid ((hA.1.below hB0).below (Below.refl _ _).drew); have HRB := Lib.hid ((hA.2.below hB0).below (Below.refl _ _).drew)
  have HFc := Lib.hid f0.drew; have HBc := Lib.hid hB0.drew
  clear hA hB0 hW0 f0
  go_wp2
  go_region_held3 (fun w' => w'.cell? ⟨w.heap.size, 0, none⟩ = some (.slice a0 A.length c0) ∧ w'.cell? ⟨w.heap.size, 1, none⟩ = some (.slice a0s B.length c0s))
    (first | go_keep | exact ⟨(two_cells HFc.out).1, (two_cells HFc.out).2.1⟩)
    ((first | (go_at_call 27; (with_reducible refine (c_tableText _ A _ HRA.out q1).mono ?_); rintro e w1 ⟨rfl, hb1⟩; replace HFc := Lib.hid (HFc.out.under hb1); replace HBc := Lib.hid (bb HBc.out hb1); replace HRB := Lib.hid (HRB.out.below hb1); clear hb1) | (go_at_call 27; (with_reducible refine (c_tableText _ B _ HRB.out q2).mono ?_); rintro e w2 ⟨rfl, hb2⟩; replace HFc := Lib.hid (HFc.out.under hb2); have HB2 := Lib.hid (bb HBc.out hb2); clear hb2)))
  all_goals
    go_wp2
    go_ret2
    exact ⟨by simp [stRes, stCode, stTxt, HP0.out], HB2.out⟩

set_option maxRecDepth 100000 in
set_option maxHeartbeats 2000000 in
theorem c_l02Text (v0 u0 : Value) (A B : List (List Int)) (w : World) (hA : Sol w v0 u0 A B) (hp : isPM A B = true) :
    Calls Tryd.prog 47 #[.agg #[v0, u0]] w (RVal w (.string (stTxt A B))) := by
  obtain ⟨a0, c0, rfl, _, _⟩ := hA.1.shape
  obtain ⟨a0s, c0s, rfl, _, _⟩ := hA.2.shape
  go_enter Tryd.func47, Tryd.ntmps47
  go_wp2
  obtain ⟨f0, hW0, hsz⟩ := boxes1 w [.slice a0 A.length c0, .slice a0s B.length c0s] 38
  obtain ⟨W0, hW⟩ : ∃ W, (w.alloc (.cells #[.slice a0 A.length c0, .slice a0s B.length c0s] 38)) = W := ⟨_, rfl⟩
  rw [hW] at f0 hW0 hsz ⊢
  have HSZ := Lib.hid hsz
  clear hW hsz
  obtain ⟨cA0, cB0, -, -⟩ := two_cells f0
  obtain ⟨q1, q2, -⟩ := isPM_parts hp
  have hs1 := tabText_small q1; have hs2 := tabText_small q2
  have hs3 : (tabText A ++ ⟨#[124]⟩).size ≤ 157 := by rw [ByteArray.size_append]; have : (ByteArray.mk #[124]).size = 1 := rfl; omega
  have hbar : (ByteArray.mk #[124]).size = 1 := rfl
  have hq1 : ¬ ((tabText A).size + (ByteArray.mk #[124]).size > 9223372036854775807) := by omega
  have hq2 : ¬ (9223372036854775807 < (tabText A).size + 1) := by omega
  have hq3 : ¬ ((tabText A ++ ⟨#[124]⟩).size + (tabText B).size > 9223372036854775807) := by omega
  have hq4 : ¬ (9223372036854775807 < (tabText A).size + 1 + (tabText B).size) := by omega
  have HRA := Lib.hid ((hA.1.below hW0).below (Below.refl _ _).drew); have HRB := Lib.hid ((hA.2.below hW0).below (Below.refl _ _).drew)
  have HFc := Lib.hid f0.drew; have HBc := Lib.hid hW0.drew
  clear hA hW0 f0
  go_region_held3 (fun w' => w'.cell? ⟨w.heap.size, 0, none⟩ = some (.slice a0 A.length c0) ∧ w'.cell? ⟨w.heap.size, 1, none⟩ = some (.slice a0s B.length c0s))
    (first | go_keep | exact ⟨(two_cells HFc.out).1, (two_cells HFc.out).2.1⟩)
    ((first | (go_at_call 29; (with_reducible refine (c_l01Text _ A _ HRA.out q1).mono ?_); rintro e w1 ⟨rfl, hb1⟩; replace HFc := Lib.hid (HFc.out.under hb1); replace HBc := Lib.hid (bb HBc.out hb1); replace HRB := Lib.hid (HRB.out.below hb1); clear hb1) | (go_at_call 29; (with_reducible refine (c_l01Text _ B _ HRB.out q2).mono ?_); rintro e w2 ⟨rfl, hb2⟩; replace HFc := Lib.hid (HFc.out.under hb2); have HB2 := Lib.hid (bb HBc.out hb2); clear hb2)))
  all_goals
    go_wp2
    go_ret
    exact ⟨rfl, HB2.out⟩

set_option maxRecDepth 100000 in
set_option maxHeartbeats 2000000 in
theorem c_specSolutionText (v0 u0 : Value) (A B : List (List Int)) (w : World) (hA : Sol w v0 u0 A B)  :
    Calls Tryd.prog 20 #[.agg #[v0, u0]] w (RVal w (.tuple #[.string (stRes A B), .int .i64 (stCode A B)])) := by
  by_cases hp0 : isPM A B = true
  case neg =>
    have hq0 : isPM A B = false := by simpa using hp0
    have HQ := Lib.hid hq0; clear hp0
    obtain ⟨a0, c0, rfl, _, _⟩ := hA.1.shape
    obtain ⟨a0s, c0s, rfl, _, _⟩ := hA.2.shape
    go_enter Tryd.func20, Tryd.ntmps20
    go_wp2_with fail
    obtain ⟨f0, hW0, hsz⟩ := boxes1 w [.slice a0 A.length c0, .slice a0s B.length c0s] 38
    obtain ⟨W0, hW⟩ : ∃ W, (w.alloc (.cells #[.slice a0 A.length c0, .slice a0s B.length c0s] 38)) = W := ⟨_, rfl⟩
    rw [hW] at f0 hW0 hsz ⊢
    clear hW hsz
    refine (c_l02Map _ _ _ _ _ (hA.below hW0)).mono ?_; rintro e g0 ⟨rfl, hbg0⟩
    have hB0 := bb hW0 hbg0
    replace f0 := f0.under hbg0
    obtain ⟨cA0, cB0, -, -⟩ := two_cells f0
    clear hbg0
    have HB := Lib.hid hB0
    clear hB0 hW0
    go_wp2
    go_ret2
    exact ⟨by simp [stRes, stCode, HQ.out], HB.out⟩
  have HP0 := Lib.hid hp0
  obtain ⟨a0, c0, rfl, _, _⟩ := hA.1.shape
  obtain ⟨a0s, c0s, rfl, _, _⟩ := hA.2.shape
  go_enter Tryd.func20, Tryd.ntmps20
  go_wp2_with fail
  obtain ⟨f0, hW0, hsz⟩ := boxes1 w [.slice a0 A.length c0, .slice a0s B.length c0s] 38
  obtain ⟨W0, hW⟩ : ∃ W, (w.alloc (.cells #[.slice a0 A.length c0, .slice a0s B.length c0s] 38)) = W := ⟨_, rfl⟩
  rw [hW] at f0 hW0 hsz ⊢
  clear hW hsz
  refine (c_l02Map _ _ _ _ _ (hA.below hW0)).mono ?_; rintro e g0 ⟨rfl, hbg0⟩
  have hB0 := bb hW0 hbg0
  replace f0 := f0.under hbg0
  obtain ⟨cA0, cB0, -, -⟩ := two_cells f0
  clear hbg0
  go_wp2_with fail
  refine (c_l02Text _ _ _ _ _ (hA.below hB0) HP0.out).mono ?_; rintro e w2 ⟨rfl, hb⟩
  have HB := Lib.hid (bb hB0 hb); clear hb hB0 hW0 f0 hA
  go_wp2
  go_ret2
  exact ⟨by simp [stRes, stCode, HP0.out], HB.out⟩
end Go.Proofs.YtnbhghgkjcfcmaaDoor

namespace Go.Proofs.YtnbhghgkjcfcmaaDoor
set_option linter.unusedVariables false
set_option linter.unusedSimpArgs false
open Go Go.RowKit

theorem stTxt_small {A B : List (List Int)} (hp : isPM A B = true) : (stTxt A B).size ≤ 1000 := by
  obtain ⟨q1, q2, -⟩ := isPM_parts hp
  have h1 := tabText_little q1; have h2 := tabText_little q2
  have hb : (ByteArray.mk #[124]).size = 1 := rfl
  unfold stTxt
  rw [ByteArray.size_append, ByteArray.size_append]
  omega

set_option maxRecDepth 100000 in
set_option maxHeartbeats 1600000 in
theorem c_DrawSolutionText (v : Value) (n : Nat) (w : World) (hv : BytesR w v n) (hn : n ≤ 4096) :
    Calls Tryd.prog 18 #[v] w (fun e w' => ∃ (v1 v2 : Value) (A B : List (List Int)), e = .returned (.agg #[v1, v2]) ∧ Sol w' v1 v2 A B ∧ Below w.heap.size w w') := by
  obtain ⟨HF0, HB0, hsz⟩ := boxes1' w [.slice none 0 0, .slice none 0 0] 38
  have HV := Lib.hid (hv.below HB0); have HF := Lib.hid HF0; have HB := Lib.hid HB0
  obtain ⟨a, c, hva, -⟩ := hv
  subst hva
  clear HF0 HB0
  go_enter Tryd.func18, Tryd.ntmps18
  go_wp2_with fail
  refine (c_l01From _ n _ HV.out hn).mono ?_; rintro e w1 ⟨b, rfl, hwb, hs, hb1⟩
  have HS := Lib.hid hs; have HB1 := Lib.hid (below_under HB.out (by rw [hsz]; omega) hb1); have HF1 := Lib.hid (HF.out.under hb1)
  have hs1 : w.heap.size + 1 ≤ w1.heap.size := by have := hb1.size; rw [hsz] at this; exact this
  rw [hsz] at hwb
  clear hs hb1 HV
  go_wp2_with fail
  refine (c_l02Spoil b 12 _ HS.out (by omega) (by omega)).mono ?_; rintro e w2 ⟨r1, r2, A, B, rfl, hrd, hl, hd⟩
  obtain ⟨sa1, sl1, sc1, hv1⟩ := hrd.sol.1.any
  obtain ⟨sa2, sl2, sc2, hv2⟩ := hrd.sol.2.any
  subst hv1 hv2
  have hf := hd.blk HF1.out (by omega)
  obtain ⟨z0, z1, z2, z3⟩ := two_cells hf
  have kz : Keep (fun x => x = w.heap.size) w2 ((w2.setCell ⟨w.heap.size, 0, none⟩ (.slice sa1 sl1 sc1)).setCell ⟨w.heap.size, 1, none⟩ (.slice sa2 sl2 sc2)) := keep_early _ _ _ _
  have HR := Lib.hid (hrd.keep kz (fun x hx _ e => by have e : x = w.heap.size := e; omega)).sol
  have HB2 := Lib.hid ((hd.below HB1.out (by omega) (by omega)).trans (kz.below (B := w.heap.size) fun k hk => ⟨by have := hd.2.size; omega, fun e => by have e : k = w.heap.size := e; omega⟩))
  clear hrd hd hf kz HB HS HB1 HF HF1
  go_wp2
  exact bodyPost_ret (v := .agg #[.slice sa1 sl1 sc1, .slice sa2 sl2 sc2]) (by simp [results, Tryd.results18, go_sem, z0, z1]) rfl ⟨_, _, A, B, rfl, HR.out, HB2.out⟩
set_option maxRecDepth 100000 in
set_option maxHeartbeats 4000000 in
theorem c_DrawParseSolution (v : Value) (n : Nat) (w : World) (hv : BytesR w v n) (hn : n ≤ 4096) :
    Calls Tryd.prog 23 #[v] w (fun e w' => ∃ t : ByteArray, e = .returned (.string t) ∧ t.size ≤ 1099511627776 ∧ Below w.heap.size w w') := by
  have HV := Lib.hid hv
  obtain ⟨a, c, hva, -⟩ := hv
  subst hva
  go_enter Tryd.func23, Tryd.ntmps23
  go_wp2_with fail
  refine (c_l01From _ n _ HV.out hn).mono ?_; rintro e w1 ⟨b, rfl, hwb, hs, hb1⟩
  have HS := Lib.hid hs; have HB1 := Lib.hid hb1; clear hs hb1
  go_wp2_with fail
  refine (c_l02Draw b 6 _ HS.out (by omega) (by omega)).mono ?_; rintro e w2 ⟨r1, r2, A, B, rfl, hsa, hpm, hln, hd2⟩
  have HD3 := Lib.hid hd2; have HO := Lib.hid hsa.sol
  have HPm := Lib.hid hpm
  clear hsa hln hd2
  go_wp2_with fail
  refine (c_l02Text _ _ A B _ HO.out hpm).mono ?_; rintro e w4 ⟨rfl, hb4⟩
  have HSt := Lib.hid (HD3.out.under hb4).1
  have HBe := Lib.hid ((HD3.out.under hb4).below HB1.out hwb HB1.out.size)
  have HTs := Lib.hid (stTxt_small hpm)
  clear hb4 hpm
  obtain ⟨m, i, h, hsx⟩ := HSt.out.x
  have HX := Lib.hid hsx
  have HGs := Lib.hid (show (stTxt A B).size + pot m i h ≤ 549755900000 by have := pot_le (i := i) (h := h) hsx.m4; have := HTs.out; omega)
  clear hsx
  go_wp2
  go_loopg [4] (pot m i h) (fun gn s wr => ∃ (t : ByteArray) (i h : Nat), s = .string t ∧ Hid (t.size + gn ≤ 549755900000) ∧ Hid (gn = pot m i h) ∧ Hid (SrcX wr b m i h) ∧ Hid (Below w.heap.size w wr))
  case atStart => exact ⟨stTxt A B, i, h, rfl, HGs, Lib.hid rfl, HX, HBe⟩
  case round =>
    clear HX HGs HBe HSt HTs
    obtain ⟨t, i, h, rfl, HSz, HG, HX, HB⟩ := hrel
    obtain ⟨wo, rfl⟩ : ∃ wo : World, wo = wr := ⟨_, rfl⟩
    go_wp2_with fail
    refine (c_l01NextX b m i h 3 _ HX.out (by omega) (by omega)).mono ?_; rintro e w3 ⟨r, i1, rfl, r0, r1, hs1, hi1, hm1, hk1⟩
    have hwo : w.heap.size ≤ wo.heap.size := HB.out.size
    have HB3 := Lib.hid (HB.out.trans (hk1.below (B := w.heap.size) fun k hk => ⟨by omega, fun e => by have e : k = b := e; omega⟩))
    have HS1 := Lib.hid hs1
    have HN := Lib.hid (And.intro hi1 hm1)
    clear hs1 hi1 hm1 hk1
    by_cases hr : r = 0
    · subst hr
      have hts : t.size ≤ 1099511627776 := by have := HSz.out; omega
      go_wp2_with fail
      refine (c_l01Damage b m i1 (lcg h) t _ HS1.out hts).mono ?_; rintro e w4 ⟨t', i2, h2, rfl, hsz, hs2, hi2, hm2, hk2⟩
      have hw3 : w.heap.size ≤ w3.heap.size := HB3.out.size
      have HB4 := Lib.hid (HB3.out.trans (hk2.below (B := w.heap.size) fun k hk => ⟨by omega, fun e => by have e : k = b := e; omega⟩))
      have HP := Lib.hid (round_pot HN.out hi2 hm2)
      have HS2 := Lib.hid hs2; have HZ := Lib.hid hsz
      clear hs2 hi2 hm2 hk2 hsz
      go_wp2
      go_roundg (pot m i2 h2)
      case measure => have := HP.out; have := HG.out; omega
      case rel => exact ⟨t', i2, h2, rfl, Lib.hid (by have := HP.out; have := HG.out; have := HSz.out; have := HZ.out; omega), Lib.hid rfl, HS2, HB4⟩
    · have hrb : (r == 0) = false := by simpa using hr
      go_wp2
      go_ret
      exact ⟨t, rfl, by have := HSz.out; omega, HB3.out⟩
end Go.Proofs.YtnbhghgkjcfcmaaDoor

namespace Go.Proofs
open Go.Shelf
def Tryd.lays145_ren : Go.Shelf.Ren := ⟨fun | 145 => 48 | 220 => 65 | 219 => 75 | 217 => 73 | 225 => 90 | 224 => 91 | 267 => 92 | 266 => 89 | 314 => 102 | n => n, fun | 9 => 9 | 4 => 4 | 59 => 62 | 3 => 3 | 5 => 5 | 46 => 75 | 146 => 113 | 51 => 112 | n => n, fun | 1 => 0 | n => n⟩
theorem Tryd.lays145 : Go.Proofs.Lays.n145 Tryd.prog Tryd.lays145_ren := {
  mixed := by kernel_rfl
  f145 := Tryd.func48.trans (congrArg some (by kernel_rfl))
  f217 := Tryd.func73.trans (congrArg some (by kernel_rfl))
  f219 := Tryd.func75.trans (congrArg some (by kernel_rfl))
  f220 := Tryd.func65.trans (congrArg some (by kernel_rfl))
  f224 := Tryd.func91.trans (congrArg some (by kernel_rfl))
  f225 := Tryd.func90.trans (congrArg some (by kernel_rfl))
  f266 := Tryd.func89.trans (congrArg some (by kernel_rfl))
  f267 := Tryd.func92.trans (congrArg some (by kernel_rfl))
  f314 := Tryd.func102.trans (congrArg some (by kernel_rfl))
  t3 := Tryd.underlying3
  a3 := Tryd.isAgg3
  z3 := Tryd.sizeOf3
  v3 := Tryd.zeroValue3
  t4 := Tryd.underlying4
  a4 := Tryd.isAgg4
  z4 := Tryd.sizeOf4
  v4 := Tryd.zeroValue4
  t5 := Tryd.underlying5
  a5 := Tryd.isAgg5
  z5 := Tryd.sizeOf5
  v5 := Tryd.zeroValue5
  t9 := Tryd.underlying9
  a9 := Tryd.isAgg9
  z9 := Tryd.sizeOf9
  v9 := Tryd.zeroValue9
  t46 := Tryd.underlying75
  a46 := Tryd.isAgg75
  z46 := Tryd.sizeOf75
  v46 := Tryd.zeroValue75
  t51 := Tryd.underlying112
  a51 := Tryd.isAgg112
  z51 := Tryd.sizeOf112
  v51 := Tryd.zeroValue112
  t59 := Tryd.underlying62
  a59 := Tryd.isAgg62
  z59 := Tryd.sizeOf62
  v59 := Tryd.zeroValue62
  t146 := Tryd.underlying113
  a146 := Tryd.isAgg113
  z146 := Tryd.sizeOf113
  v146 := Tryd.zeroValue113
  g1 := by kernel_rfl }
open Go.RowKit Go.Lib in
/-- strings.Cut: "Cut slices s around the first instance of sep, returning the text before and after sep. The found result reports whether sep appears in s. If sep does not appear in s, cut returns s, "", false.": IT RETURNS 'Lib.cut s sep'; the world is as it was but for the count of draws. (LAID: no walk: one application.) -/
theorem Tryd.strings_Cut (s sep : ByteArray) (m : Int) (w : World) (hs : s.size < 4294967281) (hm : w.cell? ⟨0, 0, none⟩ = some (.int .i64 m)) :
    Calls Tryd.prog 48 #[.string s, .string sep] w fun e w' => e = .returned (.tuple #[.string ⟨(Lib.cut s.data.toList sep.data.toList).1.toArray⟩, .string ⟨(Lib.cut s.data.toList sep.data.toList).2.1.toArray⟩, .bool (Lib.cut s.data.toList sep.data.toList).2.2]) ∧ ∃ n, w' = w.drewN n := Any.strings_Cut Tryd.lays145 s sep m w hs hm
def Tryd.lays146_ren : Go.Shelf.Ren := ⟨fun | 146 => 58 | 221 => 72 | 268 => 86 | 138 => 87 | 143 => 88 | 195 => 99 | 197 => 100 | 218 => 101 | 219 => 75 | 260 => 104 | 217 => 73 | 225 => 90 | 224 => 91 | 267 => 92 | 266 => 89 | 314 => 102 | n => n, fun | 9 => 9 | 31 => 64 | 3 => 3 | 4 => 4 | 0 => 0 | 105 => 110 | 21 => 21 | 5 => 5 | 46 => 75 | 119 => 116 | 139 => 119 | 138 => 118 | 146 => 113 | 51 => 112 | n => n, fun | 1 => 0 | 3 => 1 | 4 => 2 | n => n⟩
theorem Tryd.lays146 : Go.Proofs.Lays.n146 Tryd.prog Tryd.lays146_ren := {
  mixed := by kernel_rfl
  f138 := Tryd.func87.trans (congrArg some (by kernel_rfl))
  f143 := Tryd.func88.trans (congrArg some (by kernel_rfl))
  f146 := Tryd.func58.trans (congrArg some (by kernel_rfl))
  f195 := Tryd.func99.trans (congrArg some (by kernel_rfl))
  f197 := Tryd.func100.trans (congrArg some (by kernel_rfl))
  f217 := Tryd.func73.trans (congrArg some (by kernel_rfl))
  f218 := Tryd.func101.trans (congrArg some (by kernel_rfl))
  f219 := Tryd.func75.trans (congrArg some (by kernel_rfl))
  f221 := Tryd.func72.trans (congrArg some (by kernel_rfl))
  f224 := Tryd.func91.trans (congrArg some (by kernel_rfl))
  f225 := Tryd.func90.trans (congrArg some (by kernel_rfl))
  f260 := Tryd.func104.trans (congrArg some (by kernel_rfl))
  f266 := Tryd.func89.trans (congrArg some (by kernel_rfl))
  f267 := Tryd.func92.trans (congrArg some (by kernel_rfl))
  f268 := Tryd.func86.trans (congrArg some (by kernel_rfl))
  f314 := Tryd.func102.trans (congrArg some (by kernel_rfl))
  t0 := Tryd.underlying0
  a0 := Tryd.isAgg0
  z0 := Tryd.sizeOf0
  v0 := Tryd.zeroValue0
  t3 := Tryd.underlying3
  a3 := Tryd.isAgg3
  z3 := Tryd.sizeOf3
  v3 := Tryd.zeroValue3
  t4 := Tryd.underlying4
  a4 := Tryd.isAgg4
  z4 := Tryd.sizeOf4
  v4 := Tryd.zeroValue4
  t5 := Tryd.underlying5
  a5 := Tryd.isAgg5
  z5 := Tryd.sizeOf5
  v5 := Tryd.zeroValue5
  t9 := Tryd.underlying9
  a9 := Tryd.isAgg9
  z9 := Tryd.sizeOf9
  v9 := Tryd.zeroValue9
  t21 := Tryd.underlying21
  a21 := Tryd.isAgg21
  z21 := Tryd.sizeOf21
  v21 := Tryd.zeroValue21
  t31 := Tryd.underlying64
  a31 := Tryd.isAgg64
  z31 := Tryd.sizeOf64
  v31 := Tryd.zeroValue64
  t46 := Tryd.underlying75
  a46 := Tryd.isAgg75
  z46 := Tryd.sizeOf75
  v46 := Tryd.zeroValue75
  t51 := Tryd.underlying112
  a51 := Tryd.isAgg112
  z51 := Tryd.sizeOf112
  v51 := Tryd.zeroValue112
  t105 := Tryd.underlying110
  a105 := Tryd.isAgg110
  z105 := Tryd.sizeOf110
  v105 := Tryd.zeroValue110
  t119 := Tryd.underlying116
  a119 := Tryd.isAgg116
  z119 := Tryd.sizeOf116
  t138 := Tryd.underlying118
  a138 := Tryd.isAgg118
  z138 := Tryd.sizeOf118
  v138 := Tryd.zeroValue118
  t139 := Tryd.underlying119
  a139 := Tryd.isAgg119
  z139 := Tryd.sizeOf119
  v139 := Tryd.zeroValue119
  t146 := Tryd.underlying113
  a146 := Tryd.isAgg113
  z146 := Tryd.sizeOf113
  v146 := Tryd.zeroValue113
  g1 := by kernel_rfl
  g3 := by kernel_rfl
  g4 := by kernel_rfl }
open Go.RowKit Go.Lib in
/-- strings.Split. (LAID: no walk: one application.) -/
theorem Tryd.strings_Split (s sep : ByteArray) (m : Int) (w : World) (hs : s.size < 4294967281) (hm : w.cell? ⟨0, 0, none⟩ = some (.int .i64 m)) (h1 : 1 ≤ sep.size) :
    Calls Tryd.prog 58 #[.string s, .string sep] w fun e w' =>
      e = .returned (.slice (some ⟨w.heap.size, 0, none⟩) (Lib.countB s sep + 1) (Lib.countB s sep + 1)) ∧ w' = w.alloc (.cells ((Lib.splitB sep 0 (Lib.countB s sep) s).map Value.string).toArray 9) := Any.strings_Split Tryd.lays146 (by kernel_rfl) s sep m w hs hm h1
def Tryd.laysM146_ren : Go.Shelf.Ren := ⟨fun | 146 => 58 | 221 => 72 | 268 => 86 | 138 => 87 | 143 => 88 | 195 => 99 | 197 => 100 | 218 => 101 | 219 => 75 | 260 => 104 | 217 => 73 | 225 => 90 | 224 => 91 | 267 => 92 | 266 => 89 | 314 => 102 | n => n, fun | 9 => 9 | 31 => 64 | 3 => 3 | 4 => 4 | 0 => 0 | 105 => 110 | 21 => 21 | 5 => 5 | 46 => 75 | 119 => 116 | 139 => 119 | 138 => 118 | 146 => 113 | 51 => 112 | n => n, fun | 1 => 0 | 3 => 1 | 4 => 2 | n => n⟩
theorem Tryd.laysM146 : Go.Proofs.LaysM.n146 Tryd.prog Tryd.laysM146_ren := {
  mixed := by kernel_rfl
  f138 := Tryd.func87.trans (congrArg some (by kernel_rfl))
  f143 := Tryd.func88.trans (congrArg some (by kernel_rfl))
  f146 := Tryd.func58.trans (congrArg some (by kernel_rfl))
  f195 := Tryd.func99.trans (congrArg some (by kernel_rfl))
  f197 := Tryd.func100.trans (congrArg some (by kernel_rfl))
  f217 := Tryd.func73.trans (congrArg some (by kernel_rfl))
  f218 := Tryd.func101.trans (congrArg some (by kernel_rfl))
  f219 := Tryd.func75.trans (congrArg some (by kernel_rfl))
  f221 := Tryd.func72.trans (congrArg some (by kernel_rfl))
  f224 := Tryd.func91.trans (congrArg some (by kernel_rfl))
  f225 := Tryd.func90.trans (congrArg some (by kernel_rfl))
  f260 := Tryd.func104.trans (congrArg some (by kernel_rfl))
  f266 := Tryd.func89.trans (congrArg some (by kernel_rfl))
  f267 := Tryd.func92.trans (congrArg some (by kernel_rfl))
  f268 := Tryd.func86.trans (congrArg some (by kernel_rfl))
  f314 := Tryd.func102.trans (congrArg some (by kernel_rfl))
  t0 := Tryd.underlying0
  a0 := Tryd.isAgg0
  z0 := Tryd.sizeOf0
  v0 := Tryd.zeroValue0
  t3 := Tryd.underlying3
  a3 := Tryd.isAgg3
  z3 := Tryd.sizeOf3
  v3 := Tryd.zeroValue3
  t4 := Tryd.underlying4
  a4 := Tryd.isAgg4
  z4 := Tryd.sizeOf4
  v4 := Tryd.zeroValue4
  t5 := Tryd.underlying5
  a5 := Tryd.isAgg5
  z5 := Tryd.sizeOf5
  v5 := Tryd.zeroValue5
  t9 := Tryd.underlying9
  a9 := Tryd.isAgg9
  z9 := Tryd.sizeOf9
  v9 := Tryd.zeroValue9
  t21 := Tryd.underlying21
  a21 := Tryd.isAgg21
  z21 := Tryd.sizeOf21
  v21 := Tryd.zeroValue21
  t31 := Tryd.underlying64
  a31 := Tryd.isAgg64
  z31 := Tryd.sizeOf64
  v31 := Tryd.zeroValue64
  t46 := Tryd.underlying75
  a46 := Tryd.isAgg75
  z46 := Tryd.sizeOf75
  v46 := Tryd.zeroValue75
  t51 := Tryd.underlying112
  a51 := Tryd.isAgg112
  z51 := Tryd.sizeOf112
  v51 := Tryd.zeroValue112
  t105 := Tryd.underlying110
  a105 := Tryd.isAgg110
  z105 := Tryd.sizeOf110
  v105 := Tryd.zeroValue110
  t119 := Tryd.underlying116
  a119 := Tryd.isAgg116
  z119 := Tryd.sizeOf116
  t138 := Tryd.underlying118
  a138 := Tryd.isAgg118
  z138 := Tryd.sizeOf118
  v138 := Tryd.zeroValue118
  t139 := Tryd.underlying119
  a139 := Tryd.isAgg119
  z139 := Tryd.sizeOf119
  v139 := Tryd.zeroValue119
  t146 := Tryd.underlying113
  a146 := Tryd.isAgg113
  z146 := Tryd.sizeOf113
  v146 := Tryd.zeroValue113
  g1 := by kernel_rfl
  g3 := by kernel_rfl
  g4 := by kernel_rfl
  i0 := by kernel_rfl
  i3 := by kernel_rfl
  i4 := by kernel_rfl
  i5 := by kernel_rfl
  i9 := by kernel_rfl
  i21 := by kernel_rfl
  i31 := by kernel_rfl
  i46 := by kernel_rfl
  i51 := by kernel_rfl
  i105 := by kernel_rfl
  i138 := by kernel_rfl
  i139 := by kernel_rfl
  i146 := by kernel_rfl
  m1 := by kernel_rfl
  s1_3 := fun w h => Go.Proofs.cell_of_shapedOpen_int (zero := #[.int .i64 0]) (t := 3) h (of_decide_eq_true (by kernel_rfl)) (by kernel_rfl) rfl (by kernel_rfl) (by kernel_rfl) Tryd.underlying3
  m3 := by kernel_rfl
  m4 := by kernel_rfl }
open Go.RowKit Go.Lib in
/-- strings.Split, sep not empty. (LAID: no walk: one application.) -/
theorem Tryd.strings_Split_shaped (s sep : ByteArray) (w : World) (h : w.ShapedOpen Tryd.prog) (hs : s.size < 4294967281) (h1 : 1 ≤ sep.size) :
    Calls Tryd.prog 58 #[.string s, .string sep] w fun e w' =>
      e = .returned (.slice (some ⟨w.heap.size, 0, none⟩) (Lib.countB s sep + 1) (Lib.countB s sep + 1)) ∧ w' = w.alloc (.cells ((Lib.splitB sep 0 (Lib.countB s sep) s).map Value.string).toArray 9) := Any.strings_Split_shaped Tryd.laysM146 s sep w h hs h1
end Go.Proofs

namespace Go.Proofs.YtnbhghgkjcfcmaaDoor
set_option linter.unusedVariables false
set_option linter.unusedSimpArgs false
open Go Go.RowKit

theorem inf_strQ : (Tryd.prog.info? 9).map (fun i => (i.zero, i.size, i.bytes)) = some (some (.string ⟨#[]⟩), 1, 16) := by kernel_rfl
/-- A slice of strings of the call's own. -/
def OwnStr (B : Nat) (w : World) (v : Value) (ss : List ByteArray) : Prop := w.ownsRow B 9 1 v ss.length (ss.map Value.string)
theorem OwnStr.lt {B : Nat} {w : World} {v : Value} {ss : List ByteArray} (h : OwnStr B w v ss) {k : Nat} (hk : v.ownBlock = some k) : B ≤ k ∧ k < w.heap.size := World.ownsRow.lt h k hk
theorem OwnStr.frame {B B0 : Nat} {w0 w w' : World} {v : Value} {ss : List ByteArray} (h : OwnStr B w v ss) (hb : Below B0 w0 w) (hB : B0 ≤ B) (hs : B0 ≤ w.heap.size) (hk : Keep (fun b => v.ownBlock = some b) w w') : Below B0 w0 w' :=
  hb.trans (hk.below fun k hk' => ⟨by omega, fun e => by have := (h.lt e).1; omega⟩)
theorem OwnStr.made0 {B : Nat} (w : World) (hB : B ≤ w.heap.size) : OwnStr B (w.alloc (.cells #[] 9)) (.slice (some ⟨w.heap.size, 0, none⟩) 0 0) [] :=
  ⟨rfl, .inr ⟨w.heap.size, 0, _, rfl, hB, heap_alloc_new w _, Nat.le_refl _, by decide, by simp, by simp⟩⟩
theorem wpList_app_str {ops : Array Oper} {rest : List Oper} {o : Oper} {a : Act} {Q : Exit → Act → World → Prop} (B : Nat) (w : World) (v : Value) (ss : List ByteArray) (y : ByteArray) (s x : Operand) (hgd : o.guard = none)
    (ho : o.op = .call { callee := .builtin .append, args := #[s, x], argTypes := #[64, 64] })
    (hs : a.eval s = v) (hown : OwnStr B w v ss) (hx : a.eval x = .slice (some ⟨w.heap.size, 0, none⟩) 1 1) (hn : ss.length ≤ 1099511627776) (hbase : B ≤ w.heap.size)
    (h : ∀ a' c' w', OwnStr B w' (.slice a' (ss.length + 1) c') (ss ++ [y]) → Keep (fun b => v.ownBlock = some b) w w' → wpList Tryd.prog ops Q rest (a.put o.dst (.slice a' (ss.length + 1) c')) w') :
    wpList Tryd.prog ops Q (o :: rest) a (w.alloc (.cells #[.string y] 9)) :=
  wpList_app w hgd s x 64 ho B 9 (.string ⟨#[]⟩) 16 Tryd.underlying64 inf_strQ rfl (by decide) v ss.length _ hs hown (.string y) rfl hx (by omega) hbase
    fun a' c' w' h1 h2 => h a' c' w' (by simpa [OwnStr] using h1) h2
theorem OwnStr.under {B : Nat} {w w' : World} {v : Value} {ss : List ByteArray} (h : OwnStr B w v ss) (hb : Below w.heap.size w w') : OwnStr B w' v ss := by
  obtain ⟨hl, h | ⟨g, cap, cur, hv, hb', hg, r⟩⟩ := h
  · exact ⟨hl, .inl h⟩
  · exact ⟨hl, .inr ⟨g, cap, cur, hv, hb', by rw [hb.block g (Array.getElem?_eq_some_iff.1 hg).1]; exact hg, r⟩⟩
/-- A slice of strings over a block of strings. -/
def StrB (g : Nat) (w : World) (v : Value) (ss : List ByteArray) : Prop := ∃ cs c, v = .slice (some ⟨g, 0, none⟩) ss.length c ∧ Blk w g 9 (ss.map Value.string ++ cs)
theorem StrB.keep {g : Nat} {S : Nat → Prop} {w w' : World} {v : Value} {ss : List ByteArray} (h : StrB g w v ss) (k : Keep S w w') (hg : ¬ S g) : StrB g w' v ss := by
  obtain ⟨cs, c, hv, hb⟩ := h
  exact ⟨cs, c, hv, hb.of_block (k.block g hb.lt hg)⟩
theorem StrB.under {g : Nat} {w w' : World} {v : Value} {ss : List ByteArray} (h : StrB g w v ss) (hb : Below w.heap.size w w') : StrB g w' v ss := by
  obtain ⟨cs, c, hv, h1⟩ := h
  exact ⟨cs, c, hv, h1.under hb⟩
theorem StrB.cell {g n c : Nat} {a : Option Addr} {w : World} {ss : List ByteArray} (h : StrB g w (.slice a n c) ss) (i : Nat) (hi : i < ss.length) : w.cell? ⟨g, i, none⟩ = some (.string ss[i]) := by
  obtain ⟨cs, c, hv, hb⟩ := h
  have := hb.cell (i := i) (by simp; omega)
  rw [this, List.getElem_append_left (by simpa using hi)]
  simp
theorem OwnStr.strB {B : Nat} {w : World} {v : Value} {ss : List ByteArray} (h : OwnStr B w v ss) (h0 : 0 < ss.length) : ∃ g, StrB g w v ss ∧ B ≤ g := by
  obtain ⟨hl, h | ⟨g, cap, cur, rfl, hb, hg, hc, hm, hs, ht⟩⟩ := h
  · have := h.2; omega
  · refine ⟨g, ⟨cur.toList.drop ss.length, cap, rfl, ?_⟩, hb⟩
    have e : ss.map Value.string ++ cur.toList.drop ss.length = cur.toList := by
      rw [Nat.mul_one] at ht
      conv => lhs; lhs; rw [← ht]
      exact List.take_append_drop _ _
    unfold Blk
    rw [hg, e]
theorem StrB.apart {g B n : Nat} {w : World} {v u : Value} {ss : List ByteArray} {us : List Value} {t : TypeId} (h : StrB g w v ss) (ho : w.ownsRow B t 1 u n us) (ht : t ≠ 9) : ¬ u.ownBlock = some g := by
  obtain ⟨cs, c, hv, hb⟩ := h
  obtain ⟨hl, h | ⟨g', cap, cur, rfl, hb', hg', r⟩⟩ := ho
  · rw [h.1]; intro e; cases e
  · intro e
    simp [Value.ownBlock] at e
    subst e
    unfold Blk at hb
    rw [hg'] at hb
    simp at hb
    exact ht hb.2
theorem StrB.apartR {g B : Nat} {w : World} {v u : Value} {ss : List ByteArray} {X : List (List Int)} (h : StrB g w v ss) (ho : OwnRows B w u X) : ¬ u.ownBlock = some g := by
  obtain ⟨us, h1, _⟩ := ho
  exact h.apart h1 (by decide)

/-- What the loop has cut off: the parts ahead of place at', none of which c lies in, and no c from there on to k. -/
structure Cut (c : UInt8) (l : List UInt8) (ss : List ByteArray) (at' k : Nat) : Prop where
  le : at' ≤ k
  len : k ≤ l.length
  out : ss.map (fun s => s.data.toList) ++ parts c (l.drop at') = parts c l
  no : ∀ j : Nat, at' ≤ j → j < k → l[j]? ≠ some c
theorem Cut.start (c : UInt8) (l : List UInt8) : Cut c l [] 0 0 := ⟨Nat.le_refl _, Nat.zero_le _, by simp, fun j h1 h2 => by omega⟩
theorem Cut.skip {c : UInt8} {l : List UInt8} {ss : List ByteArray} {at' k : Nat} (h : Cut c l ss at' k) (hk : k < l.length) (hc : l[k] ≠ c) : Cut c l ss at' (k + 1) := by
  refine ⟨by have := h.le; omega, hk, h.out, fun j h1 h2 => ?_⟩
  rcases Nat.lt_or_ge j k with e | e
  · exact h.no j h1 e
  · have : j = k := by omega
    subst this
    rw [List.getElem?_eq_getElem hk]
    simpa using hc
theorem Cut.notin {c : UInt8} {l : List UInt8} {ss : List ByteArray} {at' k : Nat} (h : Cut c l ss at' k) : c ∉ (l.drop at').take (k - at') := by
  intro hin
  obtain ⟨j, hj, e⟩ := List.getElem_of_mem hin
  simp only [List.length_take, List.length_drop] at hj
  rw [List.getElem_take, List.getElem_drop] at e
  refine h.no (at' + j) (by omega) (by omega) ?_
  rw [List.getElem?_eq_getElem (by omega), e]
theorem Cut.hit {c : UInt8} {l : List UInt8} {ss : List ByteArray} {at' k : Nat} (h : Cut c l ss at' k) (hk : k < l.length) (hc : l[k] = c) {p : ByteArray} (hp : p.data.toList = (l.drop at').take (k - at')) : Cut c l (ss ++ [p]) (k + 1) (k + 1) := by
  have hle := h.le
  refine ⟨Nat.le_refl _, hk, ?_, fun j h1 h2 => by omega⟩
  have e : l.drop at' = (l.drop at').take (k - at') ++ c :: l.drop (k + 1) := by
    conv => lhs; rw [← List.take_append_drop (k - at') (l.drop at')]
    congr 1
    rw [List.drop_drop, show at' + (k - at') = k by omega, List.drop_eq_getElem_cons hk, hc]
  have := h.out
  rw [e, parts_hit _ h.notin] at this
  rw [List.map_append, List.append_assoc, ← this]
  simp [hp]
theorem Cut.last {c : UInt8} {l : List UInt8} {ss : List ByteArray} {at' : Nat} (h : Cut c l ss at' l.length) {p : ByteArray} (hp : p.data.toList = l.drop at') : (ss ++ [p]).map (fun s => s.data.toList) = parts c l := by
  have hn := h.notin
  rw [List.take_of_length_le (by rw [List.length_drop]; exact Nat.le_refl _)] at hn
  rw [← h.out, parts_none hn, List.map_append]
  simp [hp]

set_option maxHeartbeats 1600000 in
theorem c_l01Split (s : ByteArray) (c : UInt8) (w : World) (hn : s.size ≤ 1099511627776) :
    Calls Tryd.prog 50 #[.string s, .int .u8 (c.toNat : Int)] w (fun e w' => ∃ r ss, e = .returned r ∧ OwnStr w.heap.size w' r ss ∧ ss.map (fun s => s.data.toList) = parts c s.data.toList ∧ Below w.heap.size w w') := by
  have hsz : s.data.toList.length = s.size := by show s.data.toList.length = s.data.size; simp
  go_enter Tryd.func50, Tryd.ntmps50
  go_wp2
  go_loopw [5, 6, 7] (fun v a i wr => ∃ (k at' : Nat) (ss : List ByteArray) (sa : Option Addr) (sc : Nat), i = .int .i64 k ∧ a = .int .i64 at' ∧ at' ≤ k ∧ k ≤ s.size ∧ v = .slice sa ss.length sc ∧ Hid (Cut c s.data.toList ss at' k) ∧ Hid (ss.length ≤ k) ∧ Hid (Below w.heap.size w wr) ∧ Hid (OwnStr w.heap.size wr (.slice sa ss.length sc) ss)) (fun _ _ i _ => s.size - (intOf i).toNat)
  case atStart => exact ⟨0, 0, [], _, _, rfl, rfl, Nat.le_refl _, Nat.zero_le _, rfl, Lib.hid (Cut.start _ _), Lib.hid (Nat.le_refl _), Lib.hid ((Below.refl _ _).alloc (Nat.le_refl _) _), Lib.hid (OwnStr.made0 w (Nat.le_refl _))⟩
  case round =>
    obtain ⟨k, at', ss, sa, sc, rfl, rfl, hak, hk, rfl, HC, HL, HB, HO⟩ := hrel
    have HSz := Lib.hid HB.out.size
    by_cases hlt : k < s.size
    · have hat : s.data.toList[k]'(by omega) = s[k] := by simp [ByteArray.getElem_eq_getElem_data]
      by_cases hc : s[k] = c
      · have hd : ((s[k].toNat : Int) == (c.toNat : Int)) = true := by simp [hc]
        have HAt := Lib.hid (hat.trans hc)
        clear hc hat
        go_wp2_with (at_builtin; refine wpList_app_str w.heap.size wr _ ss (s.extract at' k) _ _ rfl rfl rfl HO.out rfl (by have := HL.out; omega) HSz.out ?_; intro a' c' w' hown' hkeep; have Hk := Lib.hid hkeep; have Ho' := Lib.hid hown'; clear hkeep hown')
        go_roundw
        case rel => exact ⟨k + 1, k + 1, ss ++ [s.extract at' k], a', c', by go_num, by go_num, Nat.le_refl _, hlt, by simp, Lib.hid (HC.out.hit (by omega) HAt.out (by simp [ByteArray.data_extract, List.drop_take])), Lib.hid (by have := HL.out; simp; omega), Lib.hid (HO.out.frame HB.out (Nat.le_refl _) HSz.out Hk.out), Lib.hid (by simpa using Ho'.out)⟩
        case measure => simp [intOf]; omega
      · have hd : ((s[k].toNat : Int) == (c.toNat : Int)) = false := by
          simp only [beq_eq_false_iff_ne]
          intro e
          exact hc (UInt8.toNat_inj.1 (by omega))
        have HAt := Lib.hid (show s.data.toList[k]'(by omega) ≠ c by rw [hat]; exact hc)
        clear hc hat
        go_wp2
        go_roundw
        case rel => exact ⟨k + 1, at', ss, sa, sc, by go_num, rfl, by omega, hlt, rfl, Lib.hid (HC.out.skip (by omega) HAt.out), Lib.hid (by have := HL.out; show _ ≤ _; omega), HB, HO⟩
        case measure => simp [intOf]; omega
    · obtain rfl : k = s.size := by omega
      have HC2 := Lib.hid (hsz ▸ HC.out)
      go_wp2_with (at_builtin; refine wpList_app_str w.heap.size wr _ ss (s.extract at' s.size) _ _ rfl rfl rfl HO.out rfl (by have := HL.out; omega) HSz.out ?_; intro a' c' w' hown' hkeep; have Hk := Lib.hid hkeep; have Ho' := Lib.hid hown'; clear hkeep hown')
      go_ret
      exact ⟨_, ss ++ [s.extract at' s.size], rfl, by simpa using Ho'.out, HC2.out.last (by have e := List.take_of_length_le (l := List.drop at' s.data.toList) (i := s.size - at') (by rw [List.length_drop]; omega); simpa [ByteArray.data_extract] using e), HO.out.frame HB.out (Nat.le_refl _) HSz.out Hk.out⟩

/-- A table read from a text, and whether there is one. -/
def RTab (w0 : World) (X : List (List Int)) (ok : Bool) (e : Ending) (w' : World) : Prop := ∃ r Y, e = .returned (.tuple #[r, .bool ok]) ∧ OwnRows w0.heap.size w' r Y ∧ (ok = true → Y = X) ∧ Below w0.heap.size w0 w'
theorem tOk_ss {l : List UInt8} {ss : List ByteArray} (h : ss.map (fun s => s.data.toList) = parts 47 l) : tOk l = (ss.all (fun s => okD (bsI s)) && isTab (ss.map fun s => readD (bsI s))) := by
  unfold tOk
  rw [← h, List.all_map, List.map_map]
  rfl
theorem tRes_ss {l : List UInt8} {ss : List ByteArray} (h : ss.map (fun s => s.data.toList) = parts 47 l) (hok : tOk l = true) : tRes l = ss.map fun s => readD (bsI s) := by
  rw [tRes_ok hok, ← h, List.map_map]
  rfl
theorem all_no {ss : List ByteArray} {k : Nat} (hk : k < ss.length) (h : okD (bsI ss[k]) = false) : ss.all (fun s => okD (bsI s)) = false := by
  rw [List.all_eq_false]
  exact ⟨ss[k], List.getElem_mem hk, by simp [h]⟩
theorem all_yes {ss : List ByteArray} (h : ∀ i (hi : i < ss.length), okD (bsI ss[i]) = true) : ss.all (fun s => okD (bsI s)) = true := by
  rw [List.all_eq_true]
  intro x hx
  obtain ⟨i, hi, rfl⟩ := List.getElem_of_mem hx
  exact h i hi
theorem le_sum : ∀ {l : List Nat} {x : Nat}, x ∈ l → x ≤ l.sum
  | a :: l, x, h => by
    rw [List.sum_cons]
    rcases List.mem_cons.1 h with rfl | h
    · omega
    · have := le_sum h; omega
theorem parts_size {l : List UInt8} {ss : List ByteArray} {c : UInt8} (h : ss.map (fun s => s.data.toList) = parts c l) : (∀ i (hi : i < ss.length), ss[i].size ≤ l.length) ∧ ss.length ≤ l.length + 1 := by
  have h1 := parts_len c l.length l (Nat.le_refl _)
  have hl : ss.length = (parts c l).length := by rw [← h]; simp
  refine ⟨fun i hi => ?_, by omega⟩
  have hm : ss[i].data.toList ∈ parts c l := by
    rw [← h]
    exact List.mem_map.2 ⟨ss[i], List.getElem_mem hi, rfl⟩
  have h2 : ss[i].data.toList.length ≤ ((parts c l).map List.length).sum := le_sum (List.mem_map.2 ⟨_, hm, rfl⟩)
  have h3 : ss[i].size = ss[i].data.toList.length := by show ss[i].data.size = _; simp
  have h4 : 1 ≤ (parts c l).length := List.length_pos_iff.2 (parts_ne c l)
  omega
theorem take_rows {ss : List ByteArray} {k : Nat} (hk : k < ss.length) : ((ss.take (k + 1)).map fun s => readD (bsI s)) = ((ss.take k).map fun s => readD (bsI s)) ++ [readD (bsI ss[k])] := by
  rw [List.take_succ_eq_append_getElem hk, List.map_append]; rfl

set_option maxHeartbeats 1600000 in
theorem c_l01Parse (s : ByteArray) (w : World) (hn : s.size ≤ 1099511627776) : Calls Tryd.prog 36 #[.string s] w (RTab w (tRes s.data.toList) (tOk s.data.toList)) := by
  have hl : s.data.toList.length = s.size := by show s.data.toList.length = s.data.size; simp
  have HN := Lib.hid hl; clear hl
  go_enter Tryd.func36, Tryd.ntmps36
  go_wp2_with fail
  refine (c_l01Split s 47 _ hn).mono ?_; rintro e w1 ⟨r, ss, rfl, ho, hss, hb1⟩
  obtain ⟨hp1, hp2⟩ := parts_size hss
  rw [HN.out] at hp1 hp2
  have hs0 : 0 < ss.length := by
    have := List.length_pos_iff.2 (parts_ne 47 s.data.toList)
    rw [← hss] at this; simpa using this
  obtain ⟨g, hsb, -⟩ := ho.strB hs0
  obtain ⟨cs, sc, rfl, hcs⟩ := hsb
  have HS := Lib.hid (show StrB g w1 (.slice (some ⟨g, 0, none⟩) ss.length sc) ss from ⟨cs, sc, rfl, hcs⟩)
  have HSS := Lib.hid hss; have HB1 := Lib.hid hb1; have HP := Lib.hid hp1
  have hsl : ss.length ≤ 1099511627777 := by omega
  clear ho hss hb1 hcs hp1 hp2
  have hbz : Below w1.heap.size w1 (w1.alloc (.cells #[] 32)) := (Below.refl _ _).alloc (Nat.le_refl _) _
  have HB2 := Lib.hid (bb HB1.out hbz); have HS2 := Lib.hid (HS.out.under hbz)
  have HT0 := Lib.hid ((OwnRows.made0 w1 (Nat.le_refl w1.heap.size)).mono HB1.out.size)
  clear hbz HB1 HS
  go_wp2
  go_loopw [5, 6, 7, 8] (fun t x _ _ wr => ∃ (k : Nat) (ra : Option Addr) (rc : Nat), k ≤ ss.length ∧ x = .int .i64 k ∧ t = .slice ra k rc ∧ Hid (Below w.heap.size w wr) ∧ Hid (StrB g wr (.slice (some ⟨g, 0, none⟩) ss.length sc) ss) ∧ Hid (OwnRows w.heap.size wr (.slice ra k rc) ((ss.take k).map fun s => readD (bsI s))) ∧ Hid (∀ i (hi : i < ss.length), i < k → okD (bsI ss[i]) = true)) (fun _ x _ _ _ => ss.length - (intOf x).toNat)
  case atStart => exact ⟨0, _, _, Nat.zero_le _, rfl, rfl, HB2, HS2, Lib.hid (by simpa using HT0.out), Lib.hid fun i hi h => by omega⟩
  case round =>
    clear HB2 HS2 HT0
    obtain ⟨k, ra, rc, hk, rfl, rfl, HB, HS, HO, HA⟩ := hrel
    obtain ⟨wo, rfl⟩ : ∃ wo : World, wo = wr := ⟨_, rfl⟩
    by_cases hlt : k < ss.length
    · have h1 := HS.out.cell k hlt
      have hsz : ss[k].size ≤ 1099511627776 := by have := HP.out k hlt; omega
      go_wp2_with fail
      refine (c_l01Read ss[k] _ hsz).mono ?_; rintro e w2 ⟨r2, rfl, ho2, hb2⟩
      obtain ⟨a2, c2, rfl, -⟩ := ho2.shape
      have HO2 := Lib.hid ho2; have HBs := Lib.hid hb2; have HBw := Lib.hid (bb HB.out hb2); have HSr := Lib.hid (HS.out.under hb2); have HI := Lib.hid (HO.out.inn.under hb2)
      have HSz := Lib.hid HB.out.size
      clear ho2 hb2 h1
      by_cases hok : okD (bsI ss[k]) = true
      · have HOk := Lib.hid hok
        rw [hok]
        clear hok
        have hln : ((ss.take k).map fun s => readD (bsI s)).length = k := by simp; omega
        have HL := Lib.hid hln
        clear hln
        go_wp2_with (at_builtin; refine wpList_app_row w.heap.size wo w2 _ ((ss.take k).map fun s => readD (bsI s)) _ (readD (bsI ss[k])) _ _ rfl rfl rfl HO.out HBs.out HO2.out rfl (by rw [HL.out]; omega) HSz.out ?_; intro a9 c9 w9 hown hkeep; rw [HL.out]; have HOwn := Lib.hid hown; have HKp := Lib.hid hkeep; clear hown hkeep)
        go_roundw
        case rel =>
          have h9 := HOwn.out
          rw [HL.out, ← take_rows hlt] at h9
          refine ⟨k + 1, a9, c9, hlt, by go_num, rfl, Lib.hid (HO.out.frame HBw.out (Nat.le_refl _) (Nat.le_trans HSz.out HBs.out.size) HKp.out), ?_, Lib.hid h9, Lib.hid fun i hi h => ?_⟩
          · exact Lib.hid (HSr.out.keep HKp.out (HSr.out.apartR (HO.out.under HBs.out)))
          · rcases Nat.lt_or_ge i k with e | e
            · exact HA.out i hi e
            · have : i = k := by omega
              subst this; exact HOk.out
        case measure => simp [intOf]; omega
      · have hok2 : okD (bsI ss[k]) = false := by simpa using hok
        have hno : tOk s.data.toList = false := by rw [tOk_ss HSS.out, all_no hlt hok2]; rfl
        have HNo := Lib.hid hno
        rw [hok2]
        clear hok hok2 hno
        go_wp2
        go_ret2
        exact ⟨.slice none 0 0, [], by rw [HNo.out]; rfl, OwnRows.nil _ _, fun h => (by rw [HNo.out] at h; cases h), HBw.out⟩
    · obtain rfl : k = ss.length := by omega
      have hall := all_yes fun i hi => HA.out i hi hi
      have HAll := Lib.hid hall
      have h9 := HO.out
      rw [List.take_of_length_le (Nat.le_refl _)] at h9
      have HO9 := Lib.hid h9
      clear hall h9
      go_wp2_with fail
      refine (c_l01Table _ (ss.map fun s => readD (bsI s)) _ (by have := HO9.out.rows; exact this)).mono ?_; rintro e w' ⟨rfl, rfl⟩
      by_cases ht : isTab (ss.map fun s => readD (bsI s)) = true
      · have hyes : tOk s.data.toList = true := by rw [tOk_ss HSS.out, HAll.out, ht]; rfl
        have HYes := Lib.hid hyes
        rw [ht]
        clear ht hyes
        go_wp2
        go_ret2
        exact ⟨_, _, by rw [HYes.out]; rfl, HO9.out, fun _ => (tRes_ss HSS.out HYes.out).symm, HB.out⟩
      · have ht2 : isTab (ss.map fun s => readD (bsI s)) = false := by simpa using ht
        have hno : tOk s.data.toList = false := by rw [tOk_ss HSS.out, HAll.out, ht2]; rfl
        have HNo := Lib.hid hno
        rw [ht2]
        clear ht ht2 hno
        go_wp2
        go_ret2
        exact ⟨.slice none 0 0, [], by rw [HNo.out]; rfl, OwnRows.nil _ _, fun h => (by rw [HNo.out] at h; cases h), HB.out⟩

theorem split_ss (s : ByteArray) : ((Lib.splitB ⟨#[47]⟩ 0 (Lib.countB s ⟨#[47]⟩) s).map fun p => p.data.toList) = parts 47 s.data.toList := Lib.splitB_data _ _ _ _
set_option maxHeartbeats 1600000 in
theorem c_readTable (s : ByteArray) (m : Int) (w : World) (hm : w.cell? ⟨0, 0, none⟩ = some (.int .i64 m)) (hn : s.size ≤ 1099511627776) : Calls Tryd.prog 30 #[.string s] w (RTab w (tRes s.data.toList) (tOk s.data.toList)) := by
  have hl : s.data.toList.length = s.size := by show s.data.toList.length = s.data.size; simp
  have HN := Lib.hid hl; have HM := Lib.hid hm; clear hl hm
  by_cases hbig : 156 < s.size
  · have hno : tOk s.data.toList = false := by
      cases h : tOk s.data.toList
      · rfl
      · have := tOk_short h
        rw [HN.out] at this; omega
    have HNo := Lib.hid hno
    have hbI : (156 : Int) < s.size := by omega
    clear hno hbig
    go_enter Tryd.func30, Tryd.ntmps30
    go_wp2
    go_ret2
    exact ⟨.slice none 0 0, [], by rw [HNo.out]; rfl, OwnRows.nil _ _, fun h => (by rw [HNo.out] at h; cases h), Below.refl _ _⟩
  have hbI : ¬ (156 : Int) < s.size := by omega
  obtain ⟨ss, hss'⟩ : ∃ ss, Lib.splitB ⟨#[47]⟩ 0 (Lib.countB s ⟨#[47]⟩) s = ss := ⟨_, rfl⟩
  have hss := split_ss s
  rw [hss'] at hss
  have hsl : ss.length = Lib.countB s ⟨#[47]⟩ + 1 := by rw [← hss']; exact Lib.splitB_all _ (by decide) 0 _ s rfl
  obtain ⟨hp1, hp2⟩ := parts_size hss
  rw [HN.out] at hp1 hp2
  have HSp := Lib.hid hss'; have HSl := Lib.hid hsl; have HSS := Lib.hid hss; have HP := Lib.hid hp1
  have hsn : s.size < 4294967281 := by omega
  have hln : ss.length ≤ 1099511627777 := by omega
  clear hss hss' hsl hp1 hp2
  go_enter Tryd.func30, Tryd.ntmps30
  go_wp2_with fail
  refine (Tryd.strings_Split s ⟨#[47]⟩ m _ hsn HM.out (by decide)).mono ?_; rintro e w1 ⟨rfl, hw1⟩
  rw [HSp.out] at hw1
  rw [← HSl.out]
  have hb1 : Below w.heap.size w w1 := by rw [hw1]; exact (Below.refl _ _).alloc (Nat.le_refl _) _
  have hst : StrB w.heap.size w1 (.slice (some ⟨w.heap.size, 0, none⟩) ss.length ss.length) ss := by
    refine ⟨[], ss.length, rfl, ?_⟩
    rw [hw1, List.append_nil]
    exact Blk.new w (ss.map Value.string) 9
  have HB1 := Lib.hid hb1; have HS1 := Lib.hid hst
  clear hw1 hb1 hst
  go_wp2
  go_loopw [4, 6, 7, 8, 15] (fun t _ _ _ x wr => ∃ (k : Nat) (ra : Option Addr) (rc : Nat), k ≤ ss.length ∧ x = .int .i64 k ∧ t = .slice ra k rc ∧ Hid (Below w.heap.size w wr) ∧ Hid (StrB w.heap.size wr (.slice (some ⟨w.heap.size, 0, none⟩) ss.length ss.length) ss) ∧ Hid (OwnRows w.heap.size wr (.slice ra k rc) ((ss.take k).map fun s => readD (bsI s))) ∧ Hid (∀ i (hi : i < ss.length), i < k → okD (bsI ss[i]) = true)) (fun _ _ _ _ x _ => ss.length - (intOf x).toNat)
  case atStart => exact ⟨0, _, _, Nat.zero_le _, rfl, rfl, HB1, HS1, Lib.hid (by simpa using OwnRows.nil _ _), Lib.hid fun i hi h => by omega⟩
  case round =>
    clear HB1 HS1
    obtain ⟨k, ra, rc, hk, rfl, rfl, HB, HS, HO, HA⟩ := hrel
    obtain ⟨wo, rfl⟩ : ∃ wo : World, wo = wr := ⟨_, rfl⟩
    by_cases hlt : k < ss.length
    · have h1 := HS.out.cell k hlt
      have hsz : ss[k].size ≤ 1099511627776 := by have := HP.out k hlt; omega
      go_wp2_with fail
      refine (c_readDigits ss[k] _ hsz).mono ?_; rintro e w2 ⟨r2, rfl, ho2, hb2⟩
      obtain ⟨a2, c2, rfl, -⟩ := ho2.shape
      have HO2 := Lib.hid ho2; have HBs := Lib.hid hb2; have HBw := Lib.hid (bb HB.out hb2); have HSr := Lib.hid (HS.out.under hb2)
      have HSz := Lib.hid HB.out.size
      clear ho2 hb2 h1
      by_cases hok : okD (bsI ss[k]) = true
      · have HOk := Lib.hid hok
        rw [hok]
        clear hok
        have hln : ((ss.take k).map fun s => readD (bsI s)).length = k := by simp; omega
        have HL := Lib.hid hln
        clear hln
        go_wp2_with (at_builtin; refine wpList_app_row w.heap.size wo w2 _ ((ss.take k).map fun s => readD (bsI s)) _ (readD (bsI ss[k])) _ _ rfl rfl rfl HO.out HBs.out HO2.out rfl (by rw [HL.out]; omega) HSz.out ?_; intro a9 c9 w9 hown hkeep; rw [HL.out]; have HOwn := Lib.hid hown; have HKp := Lib.hid hkeep; clear hown hkeep)
        go_roundw
        case rel =>
          have h9 := HOwn.out
          rw [HL.out, ← take_rows hlt] at h9
          refine ⟨k + 1, a9, c9, hlt, by go_num, rfl, Lib.hid (HO.out.frame HBw.out (Nat.le_refl _) (Nat.le_trans HSz.out HBs.out.size) HKp.out), ?_, Lib.hid h9, Lib.hid fun i hi h => ?_⟩
          · exact Lib.hid (HSr.out.keep HKp.out (HSr.out.apartR (HO.out.under HBs.out)))
          · rcases Nat.lt_or_ge i k with e | e
            · exact HA.out i hi e
            · have : i = k := by omega
              subst this; exact HOk.out
        case measure => simp [intOf]; omega
      · have hok2 : okD (bsI ss[k]) = false := by simpa using hok
        have hno : tOk s.data.toList = false := by rw [tOk_ss HSS.out, all_no hlt hok2]; rfl
        have HNo := Lib.hid hno
        rw [hok2]
        clear hok hok2 hno
        go_wp2
        go_ret2
        exact ⟨.slice none 0 0, [], by rw [HNo.out]; rfl, OwnRows.nil _ _, fun h => (by rw [HNo.out] at h; cases h), HBw.out⟩
    · obtain rfl : k = ss.length := by omega
      have hall := all_yes fun i hi => HA.out i hi hi
      have HAll := Lib.hid hall
      have h9 := HO.out
      rw [List.take_of_length_le (Nat.le_refl _)] at h9
      have HO9 := Lib.hid h9
      have hfin : tOk s.data.toList = isTab (ss.map fun s => readD (bsI s)) := by rw [tOk_ss HSS.out, hall]; rfl
      have HFin := Lib.hid hfin
      clear hall h9 hfin
      go_wp2_with fail
      refine (c_IsTable _ (ss.map fun s => readD (bsI s)) _ (by have := HO9.out.rows; exact this)).mono ?_; rintro e w' ⟨rfl, hb9⟩
      have HO10 := Lib.hid (HO9.out.under hb9); have HB10 := Lib.hid (bb HB.out hb9)
      clear hb9
      go_wp2
      go_ret2
      exact ⟨_, _, by rw [HFin.out]; rfl, HO10.out, fun h => (tRes_ss HSS.out h).symm, HB10.out⟩
end Go.Proofs.YtnbhghgkjcfcmaaDoor

namespace Go.Proofs.YtnbhghgkjcfcmaaDoor
set_option linter.unusedVariables false
set_option linter.unusedSimpArgs false
open Go Go.RowKit

def ptCode (l : List UInt8) : Int := if tOk l then 0 else 6
theorem tRes_no {l : List UInt8} (h : tOk l = false) : tRes l = [] := by simp [tRes, h]
theorem rtab_end {w : World} {l : List UInt8} {r : Value} {Y : List (List Int)} {w' : World} (ho : OwnRows w.heap.size w' r Y) (hY : tOk l = true → Y = tRes l) (h : tOk l = true) : OwnRows w.heap.size w' r (tRes l) := by
  rw [← hY h]; exact ho

set_option maxHeartbeats 400000 in
theorem c_specParseTable (s : ByteArray) (w : World) (hn : s.size ≤ 1099511627776) :
    Calls Tryd.prog 12 #[.string s] w (RRowsC w (tRes s.data.toList) (ptCode s.data.toList)) := by
  go_enter Tryd.func12, Tryd.ntmps12
  go_wp2_with fail
  refine (c_l01Parse _ _ hn).mono ?_; rintro e w1 ⟨r, Y, rfl, ho, hY, hb⟩
  have HB := Lib.hid hb
  by_cases h1 : tOk s.data.toList = true
  · have HO := Lib.hid (rtab_end ho hY h1)
    obtain ⟨ra, rc, hr, -⟩ := HO.out.rows.shape
    subst hr
    have H1 := Lib.hid h1
    rw [h1]
    clear ho hY hb h1
    go_wp2
    go_ret2
    exact ⟨_, by simp [ptCode, H1.out], HO.out, HB.out⟩
  · have h2 : tOk s.data.toList = false := by simpa using h1
    have H1 := Lib.hid h2
    obtain ⟨ra, rc, hr, -⟩ := ho.rows.shape
    subst hr
    rw [h2]
    clear ho hY hb h1 h2
    go_wp2
    go_ret2
    exact ⟨.slice none 0 0, by simp [ptCode, H1.out], by rw [tRes_no H1.out]; exact OwnRows.nil _ _, HB.out⟩

set_option maxHeartbeats 400000 in
theorem c_ParseTable (s : ByteArray) (m : Int) (w : World) (hm : w.cell? ⟨0, 0, none⟩ = some (.int .i64 m)) (hn : s.size ≤ 1099511627776) :
    Calls Tryd.prog 9 #[.string s] w (RRowsC w (tRes s.data.toList) (ptCode s.data.toList)) := by
  have HM := Lib.hid hm; clear hm
  go_enter Tryd.func9, Tryd.ntmps9
  go_wp2_with fail
  refine (c_readTable _ m _ HM.out hn).mono ?_; rintro e w1 ⟨r, Y, rfl, ho, hY, hb⟩
  have HB := Lib.hid hb
  by_cases h1 : tOk s.data.toList = true
  · have HO := Lib.hid (rtab_end ho hY h1)
    obtain ⟨ra, rc, hr, -⟩ := HO.out.rows.shape
    subst hr
    have H1 := Lib.hid h1
    rw [h1]
    clear ho hY hb h1
    go_wp2
    go_ret2
    exact ⟨_, by simp [ptCode, H1.out], HO.out, HB.out⟩
  · have h2 : tOk s.data.toList = false := by simpa using h1
    have H1 := Lib.hid h2
    obtain ⟨ra, rc, hr, -⟩ := ho.rows.shape
    subst hr
    rw [h2]
    clear ho hY hb h1 h2
    go_wp2
    go_ret2
    exact ⟨.slice none 0 0, by simp [ptCode, H1.out], by rw [tRes_no H1.out]; exact OwnRows.nil _ _, HB.out⟩
theorem total_le12 : ∀ (t : List (List Int)), (∀ r ∈ t, r.length ≤ 12) → total t ≤ t.length * 12
  | [], _ => by simp [total]
  | a :: t, h => by
    have h1 := h a (by simp)
    have h2 := total_le12 t fun x hx => h x (by simp [hx])
    simp [total, Nat.add_mul]; omega
theorem tRes_total (l : List UInt8) : total (tRes l) ≤ 144 := by
  cases h : tOk l
  · rw [tRes_no h]; simp [total]
  · have h2 := h
    unfold tOk at h2
    rw [Bool.and_eq_true] at h2
    have ht := h2.2
    rw [← tRes_ok h] at ht
    have hl := isTab_len ht
    have h1 := total_le12 (tRes l) fun r hr => by
      obtain ⟨i, hi, rfl⟩ := List.getElem_of_mem hr
      have := isTab_row ht (x := (i : Int)) (by omega) (by omega)
      rw [row_nat _ _ hi] at this; omega
    omega
end Go.Proofs.YtnbhghgkjcfcmaaDoor

namespace Go.Proofs.YtnbhghgkjcfcmaaDoor
set_option linter.unusedVariables false
set_option linter.unusedSimpArgs false
open Go Go.RowKit

theorem cut_bar_hit {a : List UInt8} (r : List UInt8) (h : (124 : UInt8) ∉ a) : Lib.cut (a ++ 124 :: r) [124] = (a, r, true) := by
  have hi := index_app r h
  unfold Lib.cut
  rw [hi]
  simp
theorem cut_bar_miss {l : List UInt8} (h : (124 : UInt8) ∉ l) : Lib.cut l [124] = (l, [], false) := by
  have hi := index_not h
  unfold Lib.cut
  rw [hi]
  simp
theorem cut_bytes {s : ByteArray} {a r : List UInt8} (h : s.data.toList = a ++ 124 :: r) : s.extract 0 a.length = ⟨a.toArray⟩ ∧ s.extract (a.length + 1) s.size = ⟨r.toArray⟩ := by
  have hs : s = ⟨(a ++ 124 :: r).toArray⟩ := by
    apply ByteArray.ext
    apply Array.ext'
    simpa using h
  subst hs
  constructor
  · apply ByteArray.ext; apply Array.ext'
    simp [ByteArray.data_extract]
  · apply ByteArray.ext; apply Array.ext'
    simp [ByteArray.data_extract, ByteArray.size]
    rw [List.take_of_length_le (by omega)]
set_option maxHeartbeats 2000000 in
theorem c_stringsliteCut (s : ByteArray) (w : World) (hn : s.size ≤ 1099511627776) :
    Calls Tryd.prog 65 #[.string s, .string ⟨#[124]⟩] w fun e w' => e = .returned (.tuple #[.string ⟨(Lib.cut s.data.toList [124]).1.toArray⟩, .string ⟨(Lib.cut s.data.toList [124]).2.1.toArray⟩, .bool (Lib.cut s.data.toList [124]).2.2]) ∧ ∃ n, w' = w.drewN n := by
  have hbar : (ByteArray.mk #[124]).size = 1 := rfl
  by_cases h : (124 : UInt8) ∈ s.data.toList
  · obtain ⟨a, r, he, ha⟩ := List.eq_append_cons_of_mem h
    have hc := cut_bar_hit r ha
    have hi : Lib.indexByte s.data.toList 124 = a.length := by rw [← Lib.index_one, he]; exact index_app r ha
    rw [← he] at hc
    rw [hc]
    obtain ⟨b1, b2⟩ := cut_bytes he
    have hsz : s.size = a.length + (r.length + 1) := by show s.data.size = _; rw [← Array.length_toList, he]; simp
    have c1 : (0 : Int) ≤ a.length := by omega
    have c2 : (a.length : Int) ≤ s.size := by omega
    have c3 : (0 : Int) ≤ a.length + 1 := by omega
    have c4 : (a.length + 1 : Int) ≤ s.size := by omega
    have c5 : (a.length : Int) + 1 ≤ 9223372036854775807 := by omega
    have HI := Lib.hid hi; have HBs := Lib.hid (And.intro b1 b2)
    have HSz := Lib.hid hsz
    clear hi b1 b2 hc he ha h hsz
    go_enter Tryd.func65, Tryd.ntmps65
    go_wp2_with fail
    refine (Any.stringslite_Index_one { Tryd.lays145 with } s 124 _).mono ?_; rintro e w' ⟨rfl, rfl⟩
    rw [HI.out]
    go_wp2_with fail
    have mixed : Tryd.prog.follows .mixedOrders = true := by kernel_rfl
    go_region_o
    go_wp2
    go_ret3
    refine ⟨?_, 1, rfl⟩
    rw [HBs.out.1, HBs.out.2]
    rfl
  · have hc := cut_bar_miss h
    have hi : Lib.indexByte s.data.toList 124 = -1 := by rw [← Lib.index_one]; exact index_not h
    rw [hc]
    have hs : (⟨s.data.toList.toArray⟩ : ByteArray) = s := by apply ByteArray.ext; simp
    have HI := Lib.hid hi
    clear hi hc
    go_enter Tryd.func65, Tryd.ntmps65
    go_wp2_with fail
    refine (Any.stringslite_Index_one { Tryd.lays145 with } s 124 _).mono ?_; rintro e w' ⟨rfl, rfl⟩
    rw [HI.out]
    go_wp2
    go_ret3
    refine ⟨?_, 0, rfl⟩
    simp
theorem c_Cut (s : ByteArray) (w : World) (hn : s.size ≤ 1099511627776) :
    Calls Tryd.prog 48 #[.string s, .string ⟨#[124]⟩] w fun e w' => e = .returned (.tuple #[.string ⟨(Lib.cut s.data.toList [124]).1.toArray⟩, .string ⟨(Lib.cut s.data.toList [124]).2.1.toArray⟩, .bool (Lib.cut s.data.toList [124]).2.2]) ∧ ∃ n, w' = w.drewN n := by
  go_enter Tryd.func48, Tryd.ntmps48
  go_wp2_with fail
  refine (c_stringsliteCut s _ hn).mono ?_; rintro e w' ⟨rfl, n, rfl⟩
  go_wp2
  go_ret3
  exact ⟨rfl, n, rfl⟩
end Go.Proofs.YtnbhghgkjcfcmaaDoor

namespace Go.Proofs.YtnbhghgkjcfcmaaDoor
set_option linter.unusedVariables false
set_option linter.unusedSimpArgs false
open Go Go.RowKit

theorem cut_hit' {a : List UInt8} (r : List UInt8) (h : (124 : UInt8) ∉ a) : Lib.cut (a ++ 124 :: r) [124] = (a, r, true) := by
  have hi := index_app r h
  unfold Lib.cut
  rw [hi]
  simp
theorem cut_miss' {l : List UInt8} (h : (124 : UInt8) ∉ l) : Lib.cut l [124] = (l, [], false) := by
  have hi := index_not h
  unfold Lib.cut
  rw [hi]
  simp
/-- What is read behind the cut. -/
theorem cut_ok (l : List UInt8) : ∃ a r b, Lib.cut l [124] = (a, r, b) ∧ sOk l = (tOk a && tOk r && isPM (tRes a) (tRes r)) ∧ (sOk l = true → sRA l = tRes a ∧ sRB l = tRes r) ∧ a.length ≤ l.length ∧ r.length ≤ l.length := by
  by_cases h : (124 : UInt8) ∈ l
  · obtain ⟨a, r, rfl, ha⟩ := List.eq_append_cons_of_mem h
    refine ⟨a, r, true, cut_hit' r ha, ?_, ?_, by simp, by simp; omega⟩
    · by_cases hr : (124 : UInt8) ∈ r
      · obtain ⟨h1, h2⟩ := cut_more ha hr
        rw [h1, h2]; simp
      · exact (cut_one ha hr).1
    · intro hs
      by_cases hr : (124 : UInt8) ∈ r
      · rw [(cut_more ha hr).1] at hs; cases hs
      · exact (cut_one ha hr).2 hs
  · refine ⟨l, [], false, cut_miss' h, ?_, ?_, Nat.le_refl _, by simp⟩
    · rw [cut_no h, tOk_nil]; simp
    · intro hs; rw [cut_no h] at hs; cases hs
theorem bytes_toList (a : List UInt8) : (⟨a.toArray⟩ : ByteArray).data.toList = a := by simp
theorem bytes_size (a : List UInt8) : (⟨a.toArray⟩ : ByteArray).size = a.length := by show a.toArray.size = _; simp
theorem sR_no {l : List UInt8} (h : sOk l = false) : sRA l = [] := by simp [sRA, h]
theorem sR_no2 {l : List UInt8} (h : sOk l = false) : sRB l = [] := by simp [sRB, h]
def psCode (l : List UInt8) : Int := if sOk l then 0 else 6

set_option maxHeartbeats 4000000 in
theorem c_ParseSolution (s : ByteArray) (m : Int) (w : World) (hm : w.cell? ⟨0, 0, none⟩ = some (.int .i64 m)) (hn : s.size ≤ 1099511627776) :
    Calls Tryd.prog 21 #[.string s] w (RSolC w (sRA s.data.toList) (sRB s.data.toList) (psCode s.data.toList)) := by
  obtain ⟨HF0, HB0, hsz⟩ := boxes1' w [.slice none 0 0, .slice none 0 0] 38
  obtain ⟨a, r, b, hcut, hok, hres, hla, hlr⟩ := cut_ok s.data.toList
  have hl : s.data.toList.length = s.size := by show s.data.toList.length = s.data.size; simp
  rw [hl] at hla hlr
  have HM := Lib.hid (cell_under HB0 hm); have HF := Lib.hid HF0; have HB := Lib.hid HB0; have HCut := Lib.hid hcut; have HOk := Lib.hid hok; have HRes := Lib.hid hres
  have HSz := Lib.hid hsz
  have hsa : (⟨a.toArray⟩ : ByteArray).size ≤ 1099511627776 := by rw [bytes_size]; omega
  have hsr : (⟨r.toArray⟩ : ByteArray).size ≤ 1099511627776 := by rw [bytes_size]; omega
  clear HF0 HB0 hcut hok hres hm hsz hl
  go_enter Tryd.func21, Tryd.ntmps21
  go_wp2_with fail
  refine (c_Cut s _ hn).mono ?_; rintro e w1 ⟨he, nq, hw1⟩
  have he2 : e = .returned (.tuple #[.string ⟨a.toArray⟩, .string ⟨r.toArray⟩, .bool b]) := by rw [he]; have := HCut.out; simp only [this]
  subst he2
  have hb1 : Below (w.alloc (.cells #[.slice none 0 0, .slice none 0 0] 38)).heap.size (w.alloc (.cells #[.slice none 0 0, .slice none 0 0] 38)) w1 := by rw [hw1]; exact below_drewN (Below.refl _ _) _
  have HB1 := Lib.hid hb1; have HM1 := Lib.hid (cell_under hb1 HM.out); have HF1 := Lib.hid (HF.out.under hb1)
  have HBw1 := Lib.hid (below_under HB.out (by rw [HSz.out]; omega) hb1)
  have hs1 : w.heap.size + 1 ≤ w1.heap.size := by have := hb1.size; rw [HSz.out] at this; exact this
  clear hb1 hw1 he HM HF HB HCut HB1
  go_wp2_with fail
  refine (c_readTable _ m _ HM1.out hsa).mono ?_; rintro e w2 ⟨r1, Y1, rfl, ho1, hY1, hb2⟩
  rw [bytes_toList] at hY1 ⊢
  obtain ⟨ra1, rc1, hr, -⟩ := ho1.rows.shape
  subst hr
  have HO1 := Lib.hid ho1; have HY1 := Lib.hid hY1; have HM2 := Lib.hid (cell_under hb2 HM1.out); have HF2 := Lib.hid (HF1.out.under hb2); have HBw2 := Lib.hid (below_under HBw1.out (by omega) hb2)
  have hs2 := hb2.size
  clear ho1 hY1 hb2 HM1 HF1 HBw1
  go_wp2_with fail
  refine (c_readTable _ m _ HM2.out hsr).mono ?_; rintro e w3 ⟨r2, Y2, rfl, ho2, hY2, hb3⟩
  rw [bytes_toList] at hY2 ⊢
  obtain ⟨ra2, rc2, hr, -⟩ := ho2.rows.shape
  subst hr
  have HOS := Lib.hid (OwnSol.mk HO1.out hb3 ho2 hs2); have HY2 := Lib.hid hY2; have HF3 := Lib.hid (HF2.out.under hb3); have HBw3 := Lib.hid (below_under HBw2.out (by omega) hb3)
  have hs3 := hb3.size
  clear ho2 hY2 hb3 HM2 HF2 HBw2 HO1
  obtain ⟨bx, hbx, hsx⟩ := boxes1' w3 [.slice ra1 Y1.length rc1, .slice ra2 Y2.length rc2] 38
  have HBx := Lib.hid bx; have HBbx := Lib.hid hbx
  have HF4 := Lib.hid (HF3.out.under hbx); have HBw4 := Lib.hid (below_under HBw3.out (by omega) hbx); have HOS4 := Lib.hid (HOS.out.under hbx)
  obtain ⟨x0, x1, x2, x3⟩ := two_cells bx
  obtain ⟨z0, z1, z2, z3⟩ := two_cells HF4.out
  clear bx hbx
  by_cases k1 : tOk a = true
  · by_cases k2 : tOk r = true
    · have e1 := HY1.out k1
      have e2 := HY2.out k2
      subst e1 e2
      have hkk : sOk s.data.toList = isPM (tRes a) (tRes r) := by rw [HOk.out, k1, k2]; rfl
      have HK := Lib.hid hkk
      rw [k1, k2]
      clear k1 k2 hkk
      go_wp2_with fail
      refine (c_IsPairMap _ _ (tRes a) (tRes r) _ HOS4.out.sol).mono ?_; rintro e w5 ⟨rfl, hb5⟩
      have HOS5 := Lib.hid (HOS4.out.under hb5); have HF5 := Lib.hid (HF4.out.under hb5); have HBx5 := Lib.hid (HBx.out.under hb5); have HBw5 := Lib.hid (below_under HBw4.out (by rw [hsx]; omega) hb5)
      clear x0 x1 x2 x3 z0 z1 z2 z3
      obtain ⟨x0, x1, x2, x3⟩ := two_cells HBx5.out
      obtain ⟨z0, z1, z2, z3⟩ := two_cells HF5.out
      have hs5 := hb5.size
      clear hb5 HBx HBbx HF3 HBw3 HOS HF4 HBw4 HOS4 HBx5
      by_cases k3 : isPM (tRes a) (tRes r) = true
      · have HK3 := Lib.hid (show sOk s.data.toList = true by rw [HK.out]; exact k3)
        rw [k3]
        clear k3
        go_wp2
        have kz : Keep (fun x => x = w.heap.size) w5 ((w5.setCell ⟨w.heap.size, 0, none⟩ (.slice ra1 (tRes a).length rc1)).setCell ⟨w.heap.size, 1, none⟩ (.slice ra2 (tRes r).length rc2)) := (keep1 _ _ 0 _).trans (keep1 _ _ 1 _)
        refine bodyPost_ret (v := .tuple #[.agg #[.slice ra1 (tRes a).length rc1, .slice ra2 (tRes r).length rc2], .int .i64 0]) (by simp [results, Tryd.results21, go_sem, z0, z1]) rfl ⟨.slice ra1 (tRes a).length rc1, .slice ra2 (tRes r).length rc2, by simp [psCode, HK3.out], ?_, ?_⟩
        · have h9 := HOS5.out.keep kz (fun x hx _ e => by have e : x = w.heap.size := e; omega)
          rw [(HRes.out HK3.out).1, (HRes.out HK3.out).2]
          exact h9.widen (by omega) (by simp [World.setCell]; omega)
        · exact (HBw5.out.setCell (p := ⟨w.heap.size, 0, none⟩) (Nat.le_refl _) _).setCell (p := ⟨w.heap.size, 1, none⟩) (Nat.le_refl _) _
      · have k3' : isPM (tRes a) (tRes r) = false := by simpa using k3
        have HK3 := Lib.hid (show sOk s.data.toList = false by rw [HK.out]; exact k3')
        rw [k3']
        clear k3 k3'
        have HBf := Lib.hid ((HBw5.out.setCell (p := ⟨w.heap.size, 0, none⟩) (Nat.le_refl _) (.slice none 0 0)).setCell (p := ⟨w.heap.size, 1, none⟩) (Nat.le_refl _) (.slice none 0 0))
        go_wp2
        refine bodyPost_ret (v := .tuple #[.agg #[.slice none 0 0, .slice none 0 0], .int .i64 6]) (by simp [results, Tryd.results21, go_sem, z0, z1]) rfl ⟨.slice none 0 0, .slice none 0 0, by simp [psCode, HK3.out], ?_, ?_⟩
        · rw [sR_no HK3.out, sR_no2 HK3.out]; exact OwnSol.nil0 HBf.out.size
        · exact (HBw5.out.setCell (p := ⟨w.heap.size, 0, none⟩) (Nat.le_refl _) _).setCell (p := ⟨w.heap.size, 1, none⟩) (Nat.le_refl _) _
    · have k2' : tOk r = false := by simpa using k2
      have HK3 := Lib.hid (show sOk s.data.toList = false by rw [HOk.out, k1, k2']; rfl)
      rw [k1, k2']
      clear k1 k2 k2'
      have HBf := Lib.hid ((HBw4.out.setCell (p := ⟨w.heap.size, 0, none⟩) (Nat.le_refl _) (.slice none 0 0)).setCell (p := ⟨w.heap.size, 1, none⟩) (Nat.le_refl _) (.slice none 0 0))
      go_wp2
      refine bodyPost_ret (v := .tuple #[.agg #[.slice none 0 0, .slice none 0 0], .int .i64 6]) (by simp [results, Tryd.results21, go_sem, z0, z1]) rfl ⟨.slice none 0 0, .slice none 0 0, by simp [psCode, HK3.out], ?_, ?_⟩
      · rw [sR_no HK3.out, sR_no2 HK3.out]; exact OwnSol.nil0 HBf.out.size
      · exact (HBw4.out.setCell (p := ⟨w.heap.size, 0, none⟩) (Nat.le_refl _) _).setCell (p := ⟨w.heap.size, 1, none⟩) (Nat.le_refl _) _
  · have k1' : tOk a = false := by simpa using k1
    have HK3 := Lib.hid (show sOk s.data.toList = false by rw [HOk.out, k1']; rfl)
    rw [k1']
    clear k1 k1'
    have HBf := Lib.hid ((HBw4.out.setCell (p := ⟨w.heap.size, 0, none⟩) (Nat.le_refl _) (.slice none 0 0)).setCell (p := ⟨w.heap.size, 1, none⟩) (Nat.le_refl _) (.slice none 0 0))
    go_wp2
    refine bodyPost_ret (v := .tuple #[.agg #[.slice none 0 0, .slice none 0 0], .int .i64 6]) (by simp [results, Tryd.results21, go_sem, z0, z1]) rfl ⟨.slice none 0 0, .slice none 0 0, by simp [psCode, HK3.out], ?_, ?_⟩
    · rw [sR_no HK3.out, sR_no2 HK3.out]; exact OwnSol.nil0 HBf.out.size
    · exact (HBw4.out.setCell (p := ⟨w.heap.size, 0, none⟩) (Nat.le_refl _) _).setCell (p := ⟨w.heap.size, 1, none⟩) (Nat.le_refl _) _

theorem sOk_two {l : List UInt8} {p q : ByteArray} (h : [p, q].map (fun s => s.data.toList) = parts 124 l) : sOk l = (tOk p.data.toList && tOk q.data.toList && isPM (tRes p.data.toList) (tRes q.data.toList)) ∧ (sOk l = true → sRA l = tRes p.data.toList ∧ sRB l = tRes q.data.toList) := by
  have e : parts 124 l = [p.data.toList, q.data.toList] := h.symm
  refine ⟨by unfold sOk; rw [e]; simp, fun h2 => ?_⟩
  unfold sRA sRB
  rw [h2, e]; simp
theorem sOk_len {l : List UInt8} {ss : List ByteArray} (h : ss.map (fun s => s.data.toList) = parts 124 l) (hl : ss.length ≠ 2) : sOk l = false := by
  have e : (parts 124 l).length = ss.length := by rw [← h]; simp
  unfold sOk
  rw [e, decide_eq_false hl]; rfl
set_option maxHeartbeats 4000000 in
theorem c_specParseSolution (s : ByteArray) (w : World) (hn : s.size ≤ 1099511627776) :
    Calls Tryd.prog 24 #[.string s] w (RSolRC w (sRA s.data.toList) (sRB s.data.toList) (psCode s.data.toList)) := by
  obtain ⟨HF0, HB0, hsz⟩ := boxes1' w [.slice none 0 0, .slice none 0 0] 38
  have hl : s.data.toList.length = s.size := by show s.data.toList.length = s.data.size; simp
  have HF := Lib.hid HF0; have HB := Lib.hid HB0; have HSz := Lib.hid hsz
  clear HF0 HB0 hsz
  go_enter Tryd.func24, Tryd.ntmps24
  go_wp2_with fail
  refine (c_l01Split s 124 _ hn).mono ?_; rintro e w1 ⟨r, ss, rfl, ho, hss, hb1⟩
  obtain ⟨hp1, hp2⟩ := parts_size hss
  rw [hl] at hp1
  have hs0 : 0 < ss.length := by
    have := List.length_pos_iff.2 (parts_ne 124 s.data.toList)
    rw [← hss] at this; simpa using this
  obtain ⟨g, hsb, -⟩ := ho.strB hs0
  obtain ⟨cs, sc, rfl, hcs⟩ := hsb
  have HS := Lib.hid (show StrB g w1 (.slice (some ⟨g, 0, none⟩) ss.length sc) ss from ⟨cs, sc, rfl, hcs⟩)
  have HF1 := Lib.hid (HF.out.under hb1); have HBw1 := Lib.hid (below_under HB.out (by rw [HSz.out]; omega) hb1)
  have hs1 : w.heap.size + 1 ≤ w1.heap.size := by have := hb1.size; rw [HSz.out] at this; exact this
  obtain ⟨z0, z1, z2, z3⟩ := two_cells HF1.out
  by_cases h2 : ss.length = 2
  case neg =>
    have HK3 := Lib.hid (sOk_len hss h2)
    have hne : ((ss.length : Int) != 2) = true := by simp; omega
    clear hb1 hcs hss HF HB ho hp1 hp2 h2 hl
    have HBf := Lib.hid ((HBw1.out.setCell (p := ⟨w.heap.size, 0, none⟩) (Nat.le_refl _) (.slice none 0 0)).setCell (p := ⟨w.heap.size, 1, none⟩) (Nat.le_refl _) (.slice none 0 0))
    go_wp2
    refine bodyPost_ret (v := .tuple #[.agg #[.slice none 0 0, .slice none 0 0], .int .i64 6]) (by simp [results, Tryd.results24, go_sem, z0, z1]) rfl ⟨.slice none 0 0, .slice none 0 0, by simp [psCode, HK3.out], ?_, ?_⟩
    · refine ⟨_, rfl, ?_, Nat.le_refl _, Below.refl _ _⟩
      rw [sR_no HK3.out, sR_no2 HK3.out]; exact ⟨Rows.nil _, Rows.nil _⟩
    · exact (HBw1.out.setCell (p := ⟨w.heap.size, 0, none⟩) (Nat.le_refl _) _).setCell (p := ⟨w.heap.size, 1, none⟩) (Nat.le_refl _) _
  obtain ⟨p, q, rfl⟩ : ∃ p q, ss = [p, q] := by
    match ss, h2 with
    | [p, q], _ => exact ⟨p, q, rfl⟩
  obtain ⟨hok, hres⟩ := sOk_two hss
  have HOk := Lib.hid hok; have HRes := Lib.hid hres
  have hsp : p.size ≤ 1099511627776 := by have := hp1 0 (by simp); simp at this; omega
  have hsq : q.size ≤ 1099511627776 := by have := hp1 1 (by simp); simp at this; omega
  have hc0 := HS.out.cell 0 (by simp)
  simp only [List.getElem_cons_zero] at hc0
  have HS' := Lib.hid (HS.out.cell 1 (by simp))
  simp only [List.getElem_cons_succ, List.getElem_cons_zero] at HS'
  have hbs := hb1
  clear hb1 hcs hss HF HB ho hp1 hp2 h2 hl hok hres HS hbs
  have HC1 : Hid (w1.cell? ⟨g, 1, none⟩ = some (.string q)) := HS'
  clear HS'
  go_wp2_with fail
  refine (c_l01Parse p _ hsp).mono ?_; rintro e w2 ⟨r1, Y1, rfl, ho1, hY1, hb2⟩
  obtain ⟨ra1, rc1, hr, -⟩ := ho1.rows.shape
  subst hr
  have HO1 := Lib.hid ho1; have HY1 := Lib.hid hY1; have HF2 := Lib.hid (HF1.out.under hb2); have HBw2 := Lib.hid (below_under HBw1.out (by omega) hb2)
  have hc1 := cell_under hb2 HC1.out
  have hs2 := hb2.size
  clear ho1 hY1 hb2 HF1 HBw1 hc0 z0 z1 z2 z3 HC1
  go_wp2_with fail
  refine (c_l01Parse q _ hsq).mono ?_; rintro e w3 ⟨r2, Y2, rfl, ho2, hY2, hb3⟩
  obtain ⟨ra2, rc2, hr, -⟩ := ho2.rows.shape
  subst hr
  have HOS := Lib.hid (OwnSol.mk HO1.out hb3 ho2 hs2); have HY2 := Lib.hid hY2; have HF3 := Lib.hid (HF2.out.under hb3); have HBw3 := Lib.hid (below_under HBw2.out (by omega) hb3)
  have hs3 := hb3.size
  clear ho2 hY2 hb3 HF2 HBw2 HO1 hc1
  obtain ⟨bx, hbx, hsx⟩ := boxes1' w3 [.slice ra1 Y1.length rc1, .slice ra2 Y2.length rc2] 38
  have HBx := Lib.hid bx; have HBbx := Lib.hid hbx
  have HF4 := Lib.hid (HF3.out.under hbx); have HBw4 := Lib.hid (below_under HBw3.out (by omega) hbx); have HOS4 := Lib.hid (HOS.out.under hbx)
  obtain ⟨x0, x1, x2, x3⟩ := two_cells bx
  obtain ⟨z0, z1, z2, z3⟩ := two_cells HF4.out
  clear bx hbx
  by_cases k1 : tOk p.data.toList = true
  · by_cases k2 : tOk q.data.toList = true
    · have e1 := HY1.out k1
      have e2 := HY2.out k2
      subst e1 e2
      have hkk : sOk s.data.toList = isPM (tRes p.data.toList) (tRes q.data.toList) := by rw [HOk.out, k1, k2]; rfl
      have HK := Lib.hid hkk
      rw [k1, k2]
      clear k1 k2 hkk
      go_wp2_with fail
      refine (c_l02Map _ _ (tRes p.data.toList) (tRes q.data.toList) _ HOS4.out.sol).mono ?_; rintro e w5 ⟨rfl, hb5⟩
      have HOS5 := Lib.hid (HOS4.out.under hb5); have HF5 := Lib.hid (HF4.out.under hb5); have HBx5 := Lib.hid (HBx.out.under hb5); have HBw5 := Lib.hid (below_under HBw4.out (by rw [hsx]; omega) hb5)
      clear x0 x1 x2 x3 z0 z1 z2 z3
      obtain ⟨x0, x1, x2, x3⟩ := two_cells HBx5.out
      obtain ⟨z0, z1, z2, z3⟩ := two_cells HF5.out
      have hs5 := hb5.size
      clear hb5 HBx HBbx HF3 HBw3 HOS HF4 HBw4 HOS4 HBx5
      by_cases k3 : isPM (tRes p.data.toList) (tRes q.data.toList) = true
      · have HK3 := Lib.hid (show sOk s.data.toList = true by rw [HK.out]; exact k3)
        rw [k3]
        clear k3
        go_wp2
        have kz : Keep (fun x => x = w.heap.size) w5 ((w5.setCell ⟨w.heap.size, 0, none⟩ (.slice ra1 (tRes p.data.toList).length rc1)).setCell ⟨w.heap.size, 1, none⟩ (.slice ra2 (tRes q.data.toList).length rc2)) := (keep1 _ _ 0 _).trans (keep1 _ _ 1 _)
        refine bodyPost_ret (v := .tuple #[.agg #[.slice ra1 (tRes p.data.toList).length rc1, .slice ra2 (tRes q.data.toList).length rc2], .int .i64 0]) (by simp [results, Tryd.results24, go_sem, z0, z1]) rfl ⟨.slice ra1 (tRes p.data.toList).length rc1, .slice ra2 (tRes q.data.toList).length rc2, by simp [psCode, HK3.out], ?_, ?_⟩
        · have h9 := HOS5.out.keep kz (fun x hx _ e => by have e : x = w.heap.size := e; omega)
          rw [(HRes.out HK3.out).1, (HRes.out HK3.out).2]
          exact ⟨_, rfl, h9.sol, Nat.le_refl _, Below.refl _ _⟩
        · exact (HBw5.out.setCell (p := ⟨w.heap.size, 0, none⟩) (Nat.le_refl _) _).setCell (p := ⟨w.heap.size, 1, none⟩) (Nat.le_refl _) _
      · have k3' : isPM (tRes p.data.toList) (tRes q.data.toList) = false := by simpa using k3
        have HK3 := Lib.hid (show sOk s.data.toList = false by rw [HK.out]; exact k3')
        rw [k3']
        clear k3 k3'
        have HBf := Lib.hid ((HBw5.out.setCell (p := ⟨w.heap.size, 0, none⟩) (Nat.le_refl _) (.slice none 0 0)).setCell (p := ⟨w.heap.size, 1, none⟩) (Nat.le_refl _) (.slice none 0 0))
        go_wp2
        refine bodyPost_ret (v := .tuple #[.agg #[.slice none 0 0, .slice none 0 0], .int .i64 6]) (by simp [results, Tryd.results24, go_sem, z0, z1]) rfl ⟨.slice none 0 0, .slice none 0 0, by simp [psCode, HK3.out], ?_, ?_⟩
        · refine ⟨_, rfl, ?_, Nat.le_refl _, Below.refl _ _⟩
          rw [sR_no HK3.out, sR_no2 HK3.out]; exact ⟨Rows.nil _, Rows.nil _⟩
        · exact (HBw5.out.setCell (p := ⟨w.heap.size, 0, none⟩) (Nat.le_refl _) _).setCell (p := ⟨w.heap.size, 1, none⟩) (Nat.le_refl _) _
    · have k2' : tOk q.data.toList = false := by simpa using k2
      have HK3 := Lib.hid (show sOk s.data.toList = false by rw [HOk.out, k1, k2']; rfl)
      rw [k1, k2']
      clear k1 k2 k2'
      have HBf := Lib.hid ((HBw4.out.setCell (p := ⟨w.heap.size, 0, none⟩) (Nat.le_refl _) (.slice none 0 0)).setCell (p := ⟨w.heap.size, 1, none⟩) (Nat.le_refl _) (.slice none 0 0))
      go_wp2
      refine bodyPost_ret (v := .tuple #[.agg #[.slice none 0 0, .slice none 0 0], .int .i64 6]) (by simp [results, Tryd.results24, go_sem, z0, z1]) rfl ⟨.slice none 0 0, .slice none 0 0, by simp [psCode, HK3.out], ?_, ?_⟩
      · refine ⟨_, rfl, ?_, Nat.le_refl _, Below.refl _ _⟩
        rw [sR_no HK3.out, sR_no2 HK3.out]; exact ⟨Rows.nil _, Rows.nil _⟩
      · exact (HBw4.out.setCell (p := ⟨w.heap.size, 0, none⟩) (Nat.le_refl _) _).setCell (p := ⟨w.heap.size, 1, none⟩) (Nat.le_refl _) _
  · have k1' : tOk p.data.toList = false := by simpa using k1
    have HK3 := Lib.hid (show sOk s.data.toList = false by rw [HOk.out, k1']; rfl)
    rw [k1']
    clear k1 k1'
    have HBf := Lib.hid ((HBw4.out.setCell (p := ⟨w.heap.size, 0, none⟩) (Nat.le_refl _) (.slice none 0 0)).setCell (p := ⟨w.heap.size, 1, none⟩) (Nat.le_refl _) (.slice none 0 0))
    go_wp2
    refine bodyPost_ret (v := .tuple #[.agg #[.slice none 0 0, .slice none 0 0], .int .i64 6]) (by simp [results, Tryd.results24, go_sem, z0, z1]) rfl ⟨.slice none 0 0, .slice none 0 0, by simp [psCode, HK3.out], ?_, ?_⟩
    · refine ⟨_, rfl, ?_, Nat.le_refl _, Below.refl _ _⟩
      rw [sR_no HK3.out, sR_no2 HK3.out]; exact ⟨Rows.nil _, Rows.nil _⟩
    · exact (HBw4.out.setCell (p := ⟨w.heap.size, 0, none⟩) (Nat.le_refl _) _).setCell (p := ⟨w.heap.size, 1, none⟩) (Nat.le_refl _) _
theorem sR_total (l : List UInt8) : total (sRA l) ≤ 144 ∧ total (sRB l) ≤ 144 := by
  unfold sRA sRB
  split
  · exact ⟨tRes_total _, tRes_total _⟩
  · simp [total]
end Go.Proofs.YtnbhghgkjcfcmaaDoor

namespace Go.Proofs.YtnbhghgkjcfcmaaDoor
set_option linter.unusedVariables false
set_option linter.unusedSimpArgs false
open Go Go.RowKit

theorem st_data (A B : List (List Int)) : (stTxt A B).data.toList = (tabText A).data.toList ++ 124 :: (tabText B).data.toList := by
  unfold stTxt
  simp [ByteArray.append_eq, ByteArray.data_append]
theorem st_facts {A B : List (List Int)} {S : ByteArray} {q : Int} (hS : stRes A B = S) (hq : stCode A B = q) : q = 0 → sRA S.data.toList = A ∧ sRB S.data.toList = B ∧ psCode S.data.toList = 0 ∧ S.size ≤ 1099511627776 := fun h0 => by
  subst hq
  have hp : isPM A B = true := by
    unfold stCode at h0
    split at h0
    · assumption
    · simp at h0
  have e : S = stTxt A B := by rw [← hS]; simp [stRes, hp]
  obtain ⟨tA, tB, _⟩ := isPM_parts hp
  obtain ⟨h1, h2, h3⟩ := tab_read tA
  obtain ⟨h4, h5, h6⟩ := tab_read tB
  obtain ⟨c1, c2⟩ := cut_one h3 h6
  have hok : sOk S.data.toList = true := by rw [e, st_data, c1, h1, h2, h4, h5, hp]; rfl
  obtain ⟨r1, r2⟩ := c2 (by rw [← st_data, ← e]; exact hok)
  have hs := stTxt_small hp
  refine ⟨?_, ?_, by simp [psCode, hok], by rw [e]; omega⟩
  · rw [e, st_data, r1, h2]
  · rw [e, st_data, r2, h5]
theorem pst_facts {s : ByteArray} {U V : List (List Int)} {q : Int} (hU : sRA s.data.toList = U) (hV : sRB s.data.toList = V) (hq : psCode s.data.toList = q) : q = 0 → stRes U V = s ∧ stCode U V = 0 := fun h0 => by
  subst hq
  have ht : sOk s.data.toList = true := by
    unfold psCode at h0
    split at h0
    · assumption
    · simp at h0
  have hm : (124 : UInt8) ∈ s.data.toList := by
    refine Classical.byContradiction fun h => ?_
    rw [cut_no h] at ht; cases ht
  obtain ⟨a, r, he, ha⟩ := List.eq_append_cons_of_mem hm
  have hr : (124 : UInt8) ∉ r := fun h => by
    rw [he, (cut_more ha h).1] at ht; cases ht
  obtain ⟨c1, c2⟩ := cut_one ha hr
  rw [he] at ht hU hV
  obtain ⟨r1, r2⟩ := c2 ht
  rw [c1] at ht
  simp only [Bool.and_eq_true] at ht
  rw [r1] at hU
  rw [r2] at hV
  subst hU hV
  obtain ⟨t1, t2⟩ := tab_text ht.1.1
  obtain ⟨t3, t4⟩ := tab_text ht.1.2
  refine ⟨?_, by simp [stCode, ht.2]⟩
  simp only [stRes, ht.2, if_true]
  refine bytes_ext ?_
  rw [st_data, t2, t4, he]

set_option maxRecDepth 100000 in
set_option maxHeartbeats 16000000 in
theorem law_SolutionTexts (v : Value) (bs : List Int) (m : Int) (w : World) (hm : w.cell? ⟨0, 0, none⟩ = some (.int .i64 m)) (hv : Bytes w v bs) : Calls Tryd.prog 4 #[v] w (RVal w (.bool true)) := by
  have HM := Lib.hid hm; clear hm
  have HV : Hid (BytesR w v bs.length) := Lib.hid hv
  obtain ⟨a, c, hva, -⟩ := hv
  subst hva
  go_enter Tryd.func4, Tryd.ntmps4
  go_wp2_with fail
  refine (c_big a bs.length c _).mono ?_; rintro e w' ⟨rfl, rfl⟩
  by_cases hbig : 4096 < bs.length
  case pos =>
    have hd : decide (4096 < bs.length) = true := by simpa using hbig
    rw [hd]; clear hd hbig
    go_wp2
    go_ret
    exact ⟨rfl, Below.refl _ _⟩
  have hd : decide (4096 < bs.length) = false := by simpa using hbig
  rw [hd]; clear hd
  go_wp2_with fail
  refine (c_DrawSolutionText _ bs.length _ HV.out (by omega)).mono ?_; rintro e w1 ⟨v1, v2, A, B, rfl, hs, hb⟩
  obtain ⟨a1, l1, c1, hr1⟩ := hs.1.any
  obtain ⟨d1, m1, k1, hr2⟩ := hs.2.any
  subst hr1 hr2
  have H1 := Lib.hid (((LS.addS (w := w) (L := []) (M := []) (Bx := []) ⟨fun e he => by simp at he, fun e he => by simp at he, fun e he => by simp at he, hb⟩ hs)).box (.slice a1 l1 c1) (.slice d1 m1 k1))
  clear hs hb
  obtain ⟨S, hS⟩ : ∃ S, stRes A B = S := ⟨_, rfl⟩
  obtain ⟨q1, hq1⟩ : ∃ q, stCode A B = q := ⟨_, rfl⟩
  have E := Lib.hid (And.intro hS hq1)
  have hqq1 : (q1 != q1) = false := by simp
  have FT := Lib.hid (st_facts hS hq1)
  clear hS hq1
  obtain ⟨x00, x01, -, -⟩ := two_cells (LS.getB (q := w1.heap.size) (a := .slice a1 l1 c1) (b := .slice d1 m1 k1) H1.out (by simp))
  go_wp2_with fail
  refine (c_SolutionText _ _ A B _ ⟨H1.out.getR (X := A) (by simp), H1.out.getR (X := B) (by simp)⟩).mono ?_; rintro e w2 ⟨rfl, hb⟩
  rw [E.out.1, E.out.2]
  have H2 := Lib.hid (H1.out.under hb)
  clear hb x00 x01
  obtain ⟨x00, x01, -, -⟩ := two_cells (LS.getB (q := w1.heap.size) (a := .slice a1 l1 c1) (b := .slice d1 m1 k1) H2.out (by simp))
  go_wp2_with fail
  refine (c_specSolutionText _ _ A B _ ⟨H2.out.getR (X := A) (by simp), H2.out.getR (X := B) (by simp)⟩).mono ?_; rintro e w3 ⟨rfl, hb⟩
  rw [E.out.1, E.out.2]
  have H3 := Lib.hid (H2.out.under hb)
  clear hb x00 x01
  by_cases h1 : q1 = 0
  · subst h1
    have FT2 := Lib.hid (FT.out rfl)
    clear hqq1
    go_wp2_with fail
    refine (c_ParseSolution S m _ (cell_under H3.out.2.2.2 HM.out) FT2.out.2.2.2).mono ?_; rintro e w4 ⟨r1, r2, rfl, hs, hb⟩
    rw [FT2.out.1, FT2.out.2.1] at hs
    rw [FT2.out.2.2.1]
    obtain ⟨a4, l4, c4, hr1⟩ := (hs.sol).1.any
    obtain ⟨d4, m4, k4, hr2⟩ := (hs.sol).2.any
    subst hr1 hr2
    have H4 := Lib.hid (((H3.out.under hb).addS hs.sol).box (.slice a4 l4 c4) (.slice d4 m4 k4))
    clear hs hb
    obtain ⟨x00, x01, -, -⟩ := two_cells (LS.getB (q := w4.heap.size) (a := .slice a4 l4 c4) (b := .slice d4 m4 k4) H4.out (by simp))
    obtain ⟨x10, x11, -, -⟩ := two_cells (LS.getB (q := w1.heap.size) (a := .slice a1 l1 c1) (b := .slice d1 m1 k1) H4.out (by simp))
    go_wp2_with fail
    refine (c_likeSolution5 _ _ _ _ A B A B _ ⟨H4.out.getR (X := A) (by simp), H4.out.getR (X := B) (by simp)⟩ ⟨H4.out.getR (X := A) (by simp), H4.out.getR (X := B) (by simp)⟩).mono ?_; rintro e w5 ⟨rfl, hb⟩
    rw [show (decide (A = A) && decide (B = B)) = true from by simp]
    have H5 := Lib.hid (H4.out.under hb)
    clear hb x00 x01 x10 x11
    have HVo := Lib.hid (HV.out.below H5.out.2.2.2)
    go_wp2_with fail
    refine (c_DrawParseSolution _ bs.length _ HVo.out (by omega)).mono ?_; rintro e w6 ⟨ot, rfl, hot, hb⟩
    have HOt := Lib.hid hot
    have H6 := Lib.hid (H5.out.under hb)
    clear hb hot
    obtain ⟨U, hU⟩ : ∃ U, sRA ot.data.toList = U := ⟨_, rfl⟩
    obtain ⟨V, hV⟩ : ∃ V, sRB ot.data.toList = V := ⟨_, rfl⟩
    obtain ⟨q2, hq2⟩ : ∃ q, psCode ot.data.toList = q := ⟨_, rfl⟩
    have EU := Lib.hid (And.intro hU (And.intro hV hq2))
    have hqq2 : (q2 != q2) = false := by simp
    have FU := Lib.hid (pst_facts hU hV hq2)
    clear hU hV hq2
    go_wp2_with fail
    refine (c_ParseSolution ot m _ (cell_under H6.out.2.2.2 HM.out) HOt.out).mono ?_; rintro e w7 ⟨r1, r2, rfl, hs, hb⟩
    rw [EU.out.1, EU.out.2.1] at hs
    rw [EU.out.2.2]
    obtain ⟨a7, l7, c7, hr1⟩ := (hs.sol).1.any
    obtain ⟨d7, m7, k7, hr2⟩ := (hs.sol).2.any
    subst hr1 hr2
    have H7 := Lib.hid (((H6.out.under hb).addS hs.sol).box (.slice a7 l7 c7) (.slice d7 m7 k7))
    clear hs hb
    go_wp2_with fail
    refine (c_specParseSolution ot _ HOt.out).mono ?_; rintro e w8 ⟨r1, r2, rfl, hs, hb⟩
    rw [EU.out.1, EU.out.2.1] at hs
    rw [EU.out.2.2]
    obtain ⟨a8, l8, c8, hr1⟩ := (hs.sol).1.any
    obtain ⟨d8, m8, k8, hr2⟩ := (hs.sol).2.any
    subst hr1 hr2
    have H8 := Lib.hid (((H7.out.under hb).addS hs.sol).box (.slice a8 l8 c8) (.slice d8 m8 k8))
    clear hs hb
    obtain ⟨x00, x01, -, -⟩ := two_cells (LS.getB (q := w7.heap.size) (a := .slice a7 l7 c7) (b := .slice d7 m7 k7) H8.out (by simp))
    obtain ⟨x10, x11, -, -⟩ := two_cells (LS.getB (q := w8.heap.size) (a := .slice a8 l8 c8) (b := .slice d8 m8 k8) H8.out (by simp))
    go_wp2_with fail
    refine (c_likeSolution5 _ _ _ _ U V U V _ ⟨H8.out.getR (X := U) (by simp), H8.out.getR (X := V) (by simp)⟩ ⟨H8.out.getR (X := U) (by simp), H8.out.getR (X := V) (by simp)⟩).mono ?_; rintro e w9 ⟨rfl, hb⟩
    rw [show (decide (U = U) && decide (V = V)) = true from by simp]
    have H9 := Lib.hid (H8.out.under hb)
    clear hb x00 x01 x10 x11
    by_cases h2 : q2 = 0
    case neg =>
      have hb2 : (q2 != 0) = true := by simpa using h2
      go_wp2
      go_ret
      exact ⟨rfl, H9.out.2.2.2⟩
    subst h2
    have FU2 := Lib.hid (FU.out rfl)
    clear hqq2
    obtain ⟨x00, x01, -, -⟩ := two_cells (LS.getB (q := w7.heap.size) (a := .slice a7 l7 c7) (b := .slice d7 m7 k7) H9.out (by simp))
    go_wp2_with fail
    refine (c_SolutionText _ _ U V _ ⟨H9.out.getR (X := U) (by simp), H9.out.getR (X := V) (by simp)⟩).mono ?_; rintro e w10 ⟨rfl, hb⟩
    rw [FU2.out.1, FU2.out.2]
    have H10 := Lib.hid (H9.out.under hb)
    clear hb x00 x01
    go_wp2
    go_ret
    exact ⟨rfl, H10.out.2.2.2⟩
  · have hb1 : (q1 == 0) = false := by simpa using h1
    clear h1
    have HVo := Lib.hid (HV.out.below H3.out.2.2.2)
    go_wp2_with fail
    refine (c_DrawParseSolution _ bs.length _ HVo.out (by omega)).mono ?_; rintro e w4 ⟨ot, rfl, hot, hb⟩
    have HOt := Lib.hid hot
    have H4 := Lib.hid (H3.out.under hb)
    clear hb hot
    obtain ⟨U, hU⟩ : ∃ U, sRA ot.data.toList = U := ⟨_, rfl⟩
    obtain ⟨V, hV⟩ : ∃ V, sRB ot.data.toList = V := ⟨_, rfl⟩
    obtain ⟨q2, hq2⟩ : ∃ q, psCode ot.data.toList = q := ⟨_, rfl⟩
    have EU := Lib.hid (And.intro hU (And.intro hV hq2))
    have hqq2 : (q2 != q2) = false := by simp
    have FU := Lib.hid (pst_facts hU hV hq2)
    clear hU hV hq2
    go_wp2_with fail
    refine (c_ParseSolution ot m _ (cell_under H4.out.2.2.2 HM.out) HOt.out).mono ?_; rintro e w5 ⟨r1, r2, rfl, hs, hb⟩
    rw [EU.out.1, EU.out.2.1] at hs
    rw [EU.out.2.2]
    obtain ⟨a5, l5, c5, hr1⟩ := (hs.sol).1.any
    obtain ⟨d5, m5, k5, hr2⟩ := (hs.sol).2.any
    subst hr1 hr2
    have H5 := Lib.hid (((H4.out.under hb).addS hs.sol).box (.slice a5 l5 c5) (.slice d5 m5 k5))
    clear hs hb
    go_wp2_with fail
    refine (c_specParseSolution ot _ HOt.out).mono ?_; rintro e w6 ⟨r1, r2, rfl, hs, hb⟩
    rw [EU.out.1, EU.out.2.1] at hs
    rw [EU.out.2.2]
    obtain ⟨a6, l6, c6, hr1⟩ := (hs.sol).1.any
    obtain ⟨d6, m6, k6, hr2⟩ := (hs.sol).2.any
    subst hr1 hr2
    have H6 := Lib.hid (((H5.out.under hb).addS hs.sol).box (.slice a6 l6 c6) (.slice d6 m6 k6))
    clear hs hb
    obtain ⟨x00, x01, -, -⟩ := two_cells (LS.getB (q := w5.heap.size) (a := .slice a5 l5 c5) (b := .slice d5 m5 k5) H6.out (by simp))
    obtain ⟨x10, x11, -, -⟩ := two_cells (LS.getB (q := w6.heap.size) (a := .slice a6 l6 c6) (b := .slice d6 m6 k6) H6.out (by simp))
    go_wp2_with fail
    refine (c_likeSolution5 _ _ _ _ U V U V _ ⟨H6.out.getR (X := U) (by simp), H6.out.getR (X := V) (by simp)⟩ ⟨H6.out.getR (X := U) (by simp), H6.out.getR (X := V) (by simp)⟩).mono ?_; rintro e w7 ⟨rfl, hb⟩
    rw [show (decide (U = U) && decide (V = V)) = true from by simp]
    have H7 := Lib.hid (H6.out.under hb)
    clear hb x00 x01 x10 x11
    by_cases h2 : q2 = 0
    case neg =>
      have hb2 : (q2 != 0) = true := by simpa using h2
      go_wp2
      go_ret
      exact ⟨rfl, H7.out.2.2.2⟩
    subst h2
    have FU2 := Lib.hid (FU.out rfl)
    clear hqq2
    obtain ⟨x00, x01, -, -⟩ := two_cells (LS.getB (q := w5.heap.size) (a := .slice a5 l5 c5) (b := .slice d5 m5 k5) H7.out (by simp))
    go_wp2_with fail
    refine (c_SolutionText _ _ U V _ ⟨H7.out.getR (X := U) (by simp), H7.out.getR (X := V) (by simp)⟩).mono ?_; rintro e w8 ⟨rfl, hb⟩
    rw [FU2.out.1, FU2.out.2]
    have H8 := Lib.hid (H7.out.under hb)
    clear hb x00 x01
    go_wp2
    go_ret
    exact ⟨rfl, H8.out.2.2.2⟩
end Go.Proofs.YtnbhghgkjcfcmaaDoor
