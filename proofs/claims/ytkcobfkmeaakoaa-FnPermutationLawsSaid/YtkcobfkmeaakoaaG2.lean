/-
  The draws, the laws' own helpers, and the law FnPermutationLaws: it answers true, and leaves what was there as it was.
-/
import Derived.Test.YtkcobfkmeaakoaaT1
import Derived.Test.YtkcobfkmeaakoaaLTables
import Derived.Test.YtkcobfkmeaakoaaI3c
import Derived.Test.YtkcobfkmeaakoaaS1c
import Derived.Test.YtkcobfkmeaakoaaI17
import Derived.Laws.Bits64b
import Derived.BigQuiet
import Derived.StillTailTactics
import Derived.Test.YtkcobfkmeaakoaaLThenPermutation
import Derived.Test.YtkcobfkmeaakoaaI11
import Derived.Test.YtkcobfkmeaakoaaI24
import Derived.Test.YtkcobfkmeaakoaaT2
import Derived.Test.YtkcobfkmeaakoaaI5
import Derived.Deep.RegionHeld3
import Derived.Test.YtkcobfkmeaakoaaS2b
import Derived.Test.YtkcobfkmeaakoaaLawC
import Derived.Test.YtkcobfkmeaakoaaI20
import Derived.Test.YtkcobfkmeaakoaaC0
import Derived.Test.YtkcobfkmeaakoaaArg
import Derived.Test.YtkcobfkmeaakoaaLInversePermutation
import Derived.Test.YtkcobfkmeaakoaaLPermutationOrder
import Derived.Test.YtkcobfkmeaakoaaLCycleLengths
namespace Go.Proofs.Ytkcobfkmeaakoaa
open Go.RowKit

def nondegL (A B : List (List Int)) : Bool := permRows A && permRows (transL B)

set_option maxRecDepth 100000 in
set_option maxHeartbeats 800000 in
theorem c_isNondegenerate (v0 u0 : Value) (A B : List (List Int)) (w : World) (hA : Sol w v0 u0 A B) (hp : isPM A B = true) :
    Calls Try.prog 106 #[.agg #[v0, u0]] w (RVal w (.bool (nondegL A B))) := by
  obtain ⟨q1, q2, -⟩ := isPM_parts hp
  by_cases hp0 : permRows A = true
  case neg =>
    have hq0 : permRows A = false := by simpa using hp0
    have HQ := Lib.hid hq0; clear hp0
    obtain ⟨a0, c0, rfl, _, _⟩ := hA.1.shape
    obtain ⟨a0s, c0s, rfl, _, _⟩ := hA.2.shape
    go_enter Try.func106, Try.ntmps106
    go_wp2_with fail
    obtain ⟨f0, hW0, hsz⟩ := boxes1 w [.slice a0 A.length c0, .slice a0s B.length c0s] 27
    obtain ⟨W0, hW⟩ : ∃ W, (w.alloc (.cells #[.slice a0 A.length c0, .slice a0s B.length c0s] 27)) = W := ⟨_, rfl⟩
    rw [hW] at f0 hW0 hsz ⊢
    clear hW hsz
    refine (c_permutationRows _ _ _ (hA.1.below hW0) q1).mono ?_; rintro e g0 ⟨rfl, hbg0⟩
    have hB0 := bb hW0 hbg0
    replace f0 := f0.under hbg0
    obtain ⟨cA0, cB0, -, -⟩ := two_cells f0
    clear hbg0
    have HB := Lib.hid hB0
    clear hB0 hW0
    go_wp2
    go_ret
    exact ⟨ret_bool (by simp [nondegL, HQ.out]), HB.out⟩
  have HP0 := Lib.hid hp0
  obtain ⟨a0, c0, rfl, _, _⟩ := hA.1.shape
  obtain ⟨a0s, c0s, rfl, _, _⟩ := hA.2.shape
  go_enter Try.func106, Try.ntmps106
  go_wp2_with fail
  obtain ⟨f0, hW0, hsz⟩ := boxes1 w [.slice a0 A.length c0, .slice a0s B.length c0s] 27
  obtain ⟨W0, hW⟩ : ∃ W, (w.alloc (.cells #[.slice a0 A.length c0, .slice a0s B.length c0s] 27)) = W := ⟨_, rfl⟩
  rw [hW] at f0 hW0 hsz ⊢
  clear hW hsz
  refine (c_permutationRows _ _ _ (hA.1.below hW0) q1).mono ?_; rintro e g0 ⟨rfl, hbg0⟩
  have hB0 := bb hW0 hbg0
  replace f0 := f0.under hbg0
  obtain ⟨cA0, cB0, -, -⟩ := two_cells f0
  clear hbg0
  go_wp2_with fail
  refine (c_transposed _ _ _ (hA.2.below hB0) (isTab_sq q2)).mono ?_; rintro e w2 ⟨r, rfl, ho, hb⟩
  have HB := Lib.hid (bb hB0 hb); have HR := Lib.hid ho.rows; have HT := Lib.hid (isTab_transL q2)
  clear ho hb hB0 hW0 f0 hA q1 q2 hp
  go_wp2_with fail
  refine (c_permutationRows _ _ _ HR.out HT.out).mono ?_; rintro e w3 ⟨rfl, hb⟩
  have HB2 := Lib.hid (bb HB.out hb); clear hb
  go_wp2
  go_ret
  exact ⟨ret_bool (by simp [nondegL, HP0.out]), HB2.out⟩

end Go.Proofs.Ytkcobfkmeaakoaa

namespace Go.Proofs.Ytkcobfkmeaakoaa
open Go.RowKit

/-- A slice of bytes that can be read. -/
def BytesR (w : World) (v : Value) (n : Nat) : Prop :=
  ∃ (a : Option Addr) (c : Nat), v = .slice a n c ∧ n ≤ c ∧ c ≤ maxLen ∧ ∀ i, i < n → ∃ b o x, a = some ⟨b, o, none⟩ ∧ w.cell? ⟨b, o + i, none⟩ = some (.int .u8 x) ∧ 0 ≤ x ∧ x < 256
def Bytes (w : World) (v : Value) (bs : List Int) : Prop := BytesR w v bs.length
theorem BytesR.below {w w' : World} {v : Value} {n : Nat} (h : BytesR w v n) (hb : Below w.heap.size w w') : BytesR w' v n := by
  obtain ⟨a, c, hv, h1, h2, hc⟩ := h
  refine ⟨a, c, hv, h1, h2, fun i hi => ?_⟩
  obtain ⟨b, o, x, ha, hcell, hx⟩ := hc i hi
  exact ⟨b, o, x, ha, cell_under hb hcell, hx⟩
/-- .. all of it in blocks below b. -/
def BytesB (w : World) (v : Value) (n b : Nat) : Prop :=
  ∃ (a : Option Addr) (c : Nat), v = .slice a n c ∧ n ≤ c ∧ c ≤ maxLen ∧ ∀ i, i < n → ∃ p o x, a = some ⟨p, o, none⟩ ∧ p < b ∧ w.cell? ⟨p, o + i, none⟩ = some (.int .u8 x) ∧ 0 ≤ x ∧ x < 256
theorem BytesR.b {w : World} {v : Value} {n b : Nat} (h : BytesR w v n) (hb : w.heap.size ≤ b) : BytesB w v n b := by
  obtain ⟨a, c, hv, h1, h2, hc⟩ := h
  refine ⟨a, c, hv, h1, h2, fun i hi => ?_⟩
  obtain ⟨p, o, x, ha, hcell, hx⟩ := hc i hi
  exact ⟨p, o, x, ha, Nat.lt_of_lt_of_le (cell_lt hcell) hb, hcell, hx⟩
theorem cell_of_block {w w' : World} {b o : Nat} {v : Value} (e : w'.heap[b]? = w.heap[b]?) (h : w.cell? ⟨b, o, none⟩ = some v) : w'.cell? ⟨b, o, none⟩ = some v := by
  simp only [World.cell?] at h ⊢
  rw [e]; exact h
theorem BytesB.keep {S : Nat → Prop} {w w' : World} {v : Value} {n b : Nat} (h : BytesB w v n b) (k : Keep S w w') (hs : ∀ p, p < b → ¬ S p) : BytesB w' v n b := by
  obtain ⟨a, c, hv, h1, h2, hc⟩ := h
  refine ⟨a, c, hv, h1, h2, fun i hi => ?_⟩
  obtain ⟨p, o, x, ha, hp, hcell, hx⟩ := hc i hi
  exact ⟨p, o, x, ha, hp, cell_of_block (k.block p (cell_lt hcell) (hs p hp)) hcell, hx⟩

/-- The source at block b. -/
def Src (w : World) (b : Nat) : Prop :=
  ∃ (v : Value) (n i : Nat) (h : Int), Blk w b 119 [v, .int .i64 i, .int .u64 h] ∧ BytesB w v n b ∧ i ≤ n ∧ 0 ≤ h ∧ h ≤ 18446744073709551615
theorem Src.keep {S : Nat → Prop} {w w' : World} {b : Nat} (h : Src w b) (k : Keep S w w') (hs : ∀ p, p ≤ b → ¬ S p) : Src w' b := by
  obtain ⟨v, n, i, x, h1, h2, h3⟩ := h
  exact ⟨v, n, i, x, h1.of_block (k.block b h1.lt (hs b (Nat.le_refl _))), h2.keep k (fun p hp => hs p (by omega)), h3⟩
theorem Src.lt {w : World} {b : Nat} (h : Src w b) : b < w.heap.size := by
  obtain ⟨v, n, i, x, h1, _⟩ := h; exact h1.lt
theorem Src.under {w w' : World} {b : Nat} (h : Src w b) (hb : Below w.heap.size w w') : Src w' b :=
  h.keep (S := fun k => w.heap.size ≤ k) (Keep.of_below hb) (fun p hp e => by have := h.lt; omega)

/-- A draw leaves all but the source as it was. -/
def Drew (b : Nat) (w w' : World) : Prop := Src w' b ∧ Keep (fun k => k = b) w w'
theorem Drew.refl {b : Nat} {w : World} (h : Src w b) : Drew b w w := ⟨h, Keep.refl _ _⟩
theorem Drew.trans {b : Nat} {w w' w'' : World} (h : Drew b w w') (k : Drew b w' w'') : Drew b w w'' := ⟨k.1, h.2.trans k.2⟩
theorem Drew.under {b : Nat} {w w' w'' : World} (h : Drew b w w') (k : Below w'.heap.size w' w'') : Drew b w w'' := ⟨h.1.under k, h.2.under k⟩
theorem Drew.own {b B : Nat} {w w' : World} {v : Value} {xs : List Int} (h : Drew b w w') (ho : Own B w v xs) (hB : b < B) : Own B w' v xs := ho.keep h.2 (fun k h1 h2 e => by have e : k = b := e; omega)
theorem Drew.below {b B : Nat} {w0 w w' : World} (h : Drew b w w') (hb : Below B w0 w) (hB : B ≤ b) (hs : B ≤ w.heap.size) : Below B w0 w' := hb.trans (h.2.below fun k hk => ⟨by omega, fun e => by have e : k = b := e; omega⟩)
theorem Drew.blk {b g : Nat} {w w' : World} {t : TypeId} {cs : List Value} (h : Drew b w w') (hk : Blk w g t cs) (hg : g ≠ b) : Blk w' g t cs := hk.of_block (h.2.block g hk.lt hg)

theorem and_24 (E : Int) (h0 : 0 ≤ E) (h1 : E ≤ 18446744073709551615) : bits BinOp.and IntKind.u64 E 16777215 = E % 16777216 := by
  have h := bits_and_u64_nat E.toNat 16777215 (by omega) (by omega)
  rw [show (16777215 : Nat) = 2 ^ 24 - 1 from rfl, Nat.and_two_pow_sub_one_eq_mod, Int.toNat_of_nonneg h0] at h
  have h2 : ((E.toNat % 2 ^ 24 : Nat) : Int) = E % 16777216 := by omega
  exact h.trans h2
theorem wrap64 (E : Int) : 0 ≤ IntKind.u64.wrap E ∧ IntKind.u64.wrap E ≤ 18446744073709551615 := by
  rw [IntKind.wrap_u64]; omega

set_option maxRecDepth 100000 in
set_option maxHeartbeats 1600000 in
theorem c_l01Next (b : Nat) (n : Int) (w : World) (hs : Src w b) (h1 : 1 ≤ n) (h2 : n ≤ 9223372036854775807) :
    Calls Try.prog 96 #[.pointer (some ⟨b, 0, none⟩), .int .i64 n] w (fun e w' => ∃ r : Int, e = .returned (.int .i64 r) ∧ 0 ≤ r ∧ r < n ∧ Drew b w w') := by
  obtain ⟨v, m, i, h, hblk, hby, him, hh0, hh1⟩ := hs
  have HBy := Lib.hid hby
  obtain ⟨a, c, hv, hmc, hcm, hcell⟩ := hby
  subst hv
  obtain ⟨W, hW⟩ : ∃ W : Int, IntKind.u64.wrap (IntKind.u64.wrap (h * 6364136223846793005) + 1442695040888963407) = W := ⟨_, rfl⟩
  have hWr := wrap64 (IntKind.u64.wrap (h * 6364136223846793005) + 1442695040888963407)
  rw [hW] at hWr
  obtain ⟨hW0, hW1⟩ := hWr
  obtain ⟨X, hX⟩ : ∃ X : Int, bits BinOp.and IntKind.u64 (W / 8589934592) 16777215 = X := ⟨_, rfl⟩
  have hXr : 0 ≤ X ∧ X < 16777216 := by
    rw [and_24 _ (by omega) (by omega)] at hX; omega
  obtain ⟨hX0, hX1⟩ := hXr
  have hXw : IntKind.i64.wrap X = X := by rw [IntKind.wrap_i64]; omega
  have hb2 := hblk.set 2 (.int .u64 W)
  have hk2 : Keep (fun k => k = b) w (w.setCell ⟨b, 2, none⟩ (.int .u64 W)) := (Keep.refl (fun k => k = b) w).setCell (p := ⟨b, 2, none⟩) (.inl rfl) _
  have hBy2 := HBy.out.keep hk2 (fun p hp e => by have e : p = b := e; omega)
  go_enter Try.func96, Try.ntmps96
  have c0 := hblk.cell (i := 0) (by simp); have c1 := hblk.cell (i := 1) (by simp); have c2 := hblk.cell (i := 2) (by simp)
  have f2 := hblk.frozen 2
  have d0 := hb2.cell (i := 0) (by simp); have d1 := hb2.cell (i := 1) (by simp)
  simp only [List.getElem_cons_zero, List.getElem_cons_succ, List.set_cons_succ, List.set_cons_zero] at c0 c1 c2 d0 d1 hb2
  have HB2 := Lib.hid hb2; have HK2 := Lib.hid hk2; have HBY2 := Lib.hid hBy2
  clear hb2 hk2 hBy2 hblk
  by_cases hlt : i < m
  · obtain ⟨p0, o0, x, ha0, hpb, hcx, hx0, hx1⟩ := hcell i hlt
    subst ha0
    go_wp2
    go_quiet (fail)
    rename_i nq
    have hbq : Below (w.setCell ⟨b, 2, none⟩ (.int .u64 W)).heap.size (w.setCell ⟨b, 2, none⟩ (.int .u64 W)) ((w.setCell ⟨b, 2, none⟩ (.int .u64 W)).drewN nq) := below_drewN (Below.refl _ _) nq
    generalize (w.setCell ⟨b, 2, none⟩ (.int .u64 W)).drewN nq = wq at hbq ⊢
    have hBq := HB2.out.under hbq
    have e0 := hBq.cell (i := 0) (by simp); have e1 := hBq.cell (i := 1) (by simp)
    simp only [List.getElem_cons_zero, List.getElem_cons_succ] at e0 e1
    have g1 := hBq.frozen 1
    have hcx2 := cell_of_block (HK2.out.block p0 (cell_lt hcx) (fun e => by have e : p0 = b := e; omega)) hcx
    have hcq := cell_under hbq hcx2
    have HBq := Lib.hid hBq; have hKq := Lib.hid (HK2.out.under hbq)
    clear hBq c0 c1 c2 f2 d0 d1 hcx hcx2 hbq hW hX hXw
    go_wp2
    go_quiet (fail)
    have hbq : Below wq.heap.size wq (wq.drewN nq) := below_drewN (Below.refl _ _) nq
    have hBr := HBq.out.under hbq
    have hKr := hKq.out.under hbq
    generalize wq.drewN nq = wr at hbq hBr hKr ⊢
    have k1 := hBr.cell (i := 1) (by simp)
    simp only [List.getElem_cons_zero, List.getElem_cons_succ] at k1
    have g2 := hBr.frozen 1
    have hBs := hBr.set 1 (.int .i64 ((i + 1 : Nat) : Int))
    have hKs := hKr.setCell (p := ⟨b, 1, none⟩) (.inl rfl) (.int .i64 ((i + 1 : Nat) : Int))
    have HBs := Lib.hid hBs; have HKs := Lib.hid hKs
    have hmm : i + 1 ≤ m := hlt
    have hi63 : m ≤ 9223372036854775807 := by unfold maxLen at hcm; omega
    clear e0 e1 g1 hcq hbq hBr hKr hBs hKs
    have hn0 : 0 < n := by omega
    have hv0 := Int.emod_nonneg (X + x) (show n ≠ 0 by omega)
    have hv1 := Int.emod_lt_of_pos (X + x) hn0
    have HR := Lib.hid (And.intro hv0 hv1)
    clear hv0 hv1
    go_wp2
    go_ret
    exact ⟨(X + x) % n, rfl, HR.out.1, HR.out.2, ⟨_, m, i + 1, W, HBs.out, HBy.out.keep HKs.out (fun p hp e => by have e : p = b := e; omega), hmm, hW0, hW1⟩, HKs.out⟩
  · have hlt' : ¬ ((i : Int) < m) := by omega
    clear hlt
    go_wp2
    go_quiet (fail)
    have hbq : Below (w.setCell ⟨b, 2, none⟩ (.int .u64 W)).heap.size (w.setCell ⟨b, 2, none⟩ (.int .u64 W)) ((w.setCell ⟨b, 2, none⟩ (.int .u64 W)).drewN nq) := below_drewN (Below.refl _ _) nq
    generalize (w.setCell ⟨b, 2, none⟩ (.int .u64 W)).drewN nq = wq at hbq ⊢
    have HBs := Lib.hid (HB2.out.under hbq); have HKs := Lib.hid (HK2.out.under hbq)
    have hn0 : 0 < n := by omega
    have hv0 := Int.emod_nonneg X (show n ≠ 0 by omega)
    have hv1 := Int.emod_lt_of_pos X hn0
    have HR := Lib.hid (And.intro hv0 hv1)
    clear hv0 hv1 c0 c1 c2 f2 d0 d1 hbq hW hX hXw
    go_wp2
    go_ret
    exact ⟨X % n, rfl, HR.out.1, HR.out.2, ⟨_, m, i, W, HBs.out, HBy.out.keep HKs.out (fun p hp e => by have e : p = b := e; omega), him, hW0, hW1⟩, HKs.out⟩
end Go.Proofs.Ytkcobfkmeaakoaa

namespace Go.Proofs.Ytkcobfkmeaakoaa
open Go Go.RowKit

set_option maxHeartbeats 800000 in
theorem c_l01Pick (b B : Nat) (v : Value) (xs : List Int) (w : World) (hs : Src w b) (hx : Own B w v xs) (hB : b < B) (h1 : 1 ≤ xs.length) (h2 : xs.length ≤ 1000) :
    Calls Try.prog 153 #[.pointer (some ⟨b, 0, none⟩), v] w (fun e w' => ∃ r : Int, e = .returned (.int .i64 r) ∧ r ∈ xs ∧ Drew b w w') := by
  obtain ⟨a, c, rfl, hc, hm⟩ := hx.ints.shape
  have HX := Lib.hid hx; have HS := Lib.hid hs; clear hx hs
  go_enter Try.func153, Try.ntmps153
  go_wp2_with fail
  refine (c_l01Next b xs.length _ HS.out (by omega) (by omega)).mono ?_; rintro e w1 ⟨r, rfl, r0, r1, hd⟩
  obtain ⟨k, rfl⟩ : ∃ k : Nat, r = k := ⟨r.toNat, by omega⟩
  have hkl : k < xs.length := by omega
  obtain ⟨g, o, rfl, hcell⟩ := (hd.own HX.out hB).ints.get k hkl
  have HD := Lib.hid hd; clear hd
  go_wp2
  go_ret
  exact ⟨_, rfl, nth_mem (by omega) (by omega), HD.out⟩

set_option maxHeartbeats 800000 in
theorem c_l01Size (b : Nat) (w : World) (hs : Src w b) :
    Calls Try.prog 93 #[.pointer (some ⟨b, 0, none⟩)] w (fun e w' => ∃ n : Nat, e = .returned (.int .i64 n) ∧ 1 ≤ n ∧ n ≤ 12 ∧ Drew b w w') := by
  have HS := Lib.hid hs; clear hs
  go_enter Try.func93, Try.ntmps93
  go_wp2_with fail
  refine (c_l01Next b 5 _ HS.out (by omega) (by omega)).mono ?_; rintro e w1 ⟨r, rfl, r0, r1, hd1⟩
  have HD1 := Lib.hid hd1; clear hd1
  go_wp2_with fail
  refine (c_l01Next b 7 _ HD1.out.1 (by omega) (by omega)).mono ?_; rintro e w2 ⟨s, rfl, s0, s1, hd2⟩
  have HD2 := Lib.hid (HD1.out.trans hd2); clear hd2
  go_wp2_with fail
  refine (c_l01Next b 12 _ HD2.out.1 (by omega) (by omega)).mono ?_; rintro e w3 ⟨t, rfl, t0, t1, hd3⟩
  have HD3 := Lib.hid (HD2.out.trans hd3); clear hd3
  have hbel : Below w3.heap.size w3 (w3.alloc (.cells #[.int .i64 r, .int .i64 s, .int .i64 t] 2)) := (Below.refl _ _).alloc (Nat.le_refl _) _
  have HD4 := Lib.hid (HD3.out.under hbel)
  have hlt := HD3.out.1.lt
  have hown : Own w3.heap.size (w3.alloc (.cells #[.int .i64 r, .int .i64 s, .int .i64 t] 2)) (.slice (some ⟨w3.heap.size, 0, none⟩) 3 3) [r, s, t] :=
    Own.shut (cs := []) (by simpa using Blk.new w3 [.int .i64 r, .int .i64 s, .int .i64 t] 2) (Nat.le_refl _) (by simp [maxLen]) (by simp) (by simp)
  have HO := Lib.hid hown
  clear hbel hown
  go_wp2_with fail
  refine (c_l01Pick b w3.heap.size _ [r, s, t] _ HD4.out.1 HO.out hlt (by simp) (by simp)).mono ?_; rintro e w5 ⟨x, rfl, hx, hd5⟩
  have HD5 := Lib.hid (HD4.out.trans hd5)
  have hxr : 0 ≤ x ∧ x < 12 := by simp at hx; omega
  obtain ⟨k, rfl⟩ : ∃ k : Nat, x = k := ⟨x.toNat, by omega⟩
  have hk12 : k < 12 := by omega
  clear hx hd5 hxr
  go_wp2
  go_ret
  exact ⟨k + 1, by first | rfl | (congr 2; omega) | (simp; omega), by omega, by omega, HD5.out⟩

set_option maxRecDepth 100000 in
set_option maxHeartbeats 1600000 in
theorem c_l01Draw (b n : Nat) (w : World) (hs : Src w b) (h1 : 1 ≤ n) (h2 : n ≤ 1000) :
    Calls Try.prog 154 #[.pointer (some ⟨b, 0, none⟩), .int .i64 n] w (fun e w' => ∃ (r : Value) (xs : List Int), e = .returned r ∧ xs.length = n ∧ Own w.heap.size w' r xs ∧ Drew b w w') := by
  have HS := Lib.hid hs; have hbl := hs.lt; clear hs
  go_enter Try.func154, Try.ntmps154
  go_wp2_with fail
  refine (c_l01Unit n _ (by omega)).mono ?_; rintro e w1 ⟨r, rfl, ho, hb1⟩
  rcases ho.open with ⟨_, h0⟩ | ⟨g, cs, hv, hg, hblk, hmx⟩
  · have := congrArg List.length h0; simp at this; omega
  rw [iota_length] at hv hmx
  subst hv
  have HB0 := Lib.hid hblk; have HD0 := Lib.hid ((Drew.refl HS.out).under hb1)
  have HMX := Lib.hid hmx
  clear ho hblk hmx hb1
  go_wp2
  go_loopw [6, 7, 8] (fun i _ _ wr => ∃ (k : Nat) (xs : List Int), k < n ∧ i = .int .i64 k ∧ Hid (xs.length = n) ∧ Hid (Blk wr g 2 (xs.map (Value.int .i64) ++ cs)) ∧ Hid (Drew b w wr)) (fun i _ _ _ => (intOf i).toNat)
  case atStart => exact ⟨n - 1, iota n, by omega, by go_num, Lib.hid (by simp), HB0, HD0⟩
  case round =>
    clear HB0 HD0
    obtain ⟨k, xs, hk, rfl, HL, HB, HD⟩ := hrel
    obtain ⟨wo, rfl⟩ : ∃ wo : World, wo = wr := ⟨_, rfl⟩
    by_cases hk0 : 0 < k
    · go_wp2_with fail
      refine (c_l01Next b ((k : Int) + 1) _ HD.out.1 (by omega) (by omega)).mono ?_; rintro e w2 ⟨r, rfl, r0, r1, hd⟩
      obtain ⟨u, rfl⟩ : ∃ u : Nat, r = u := ⟨r.toNat, by omega⟩
      have hun : u < n := by omega
      have hB2 := hd.blk HB.out (by omega)
      have HD2 := Lib.hid (HD.out.trans hd)
      have hl := HL.out
      have l1 := hB2.labN k (by omega)
      have l2 := hB2.labN u (by omega)
      have f1 := hB2.frozen k
      have f2 := hB2.frozen u
      have s1 := hB2.labSet (k : Int) (by omega) (by omega) (nth xs (u : Int))
      rw [Int.toNat_natCast] at s1
      have s2 := s1.labSet (u : Int) (by omega) (by rw [List.length_set]; omega) (nth xs (k : Int))
      rw [Int.toNat_natCast] at s2
      have hg2 := s1.frozen u
      obtain ⟨z, hz⟩ : ∃ z, (w2.setCell ⟨g, k, none⟩ (.int .i64 (nth xs (u : Int)))).cell? ⟨g, u, none⟩ = some z := ⟨_, s1.labN u (by rw [List.length_set]; omega)⟩
      have HS2 := Lib.hid s2
      have hgb : b < g := by omega
      clear s1 s2 hd hl
      go_wp2
      go_roundw
      case rel =>
        refine ⟨k - 1, _, by omega, by go_num, Lib.hid ?_, HS2, Lib.hid ?_⟩
        · simpa using HL.out
        · have kk := (HD2.out.2.setCell (p := ⟨g, k, none⟩) (.inr ?_) (.int .i64 (nth xs (u : Int)))).setCell (p := ⟨g, u, none⟩) (.inr ?_) (.int .i64 (nth xs (k : Int)))
          · refine ⟨?_, kk⟩
            exact HD2.out.1.keep (S := fun x => x = g) (((Keep.refl (fun x => x = g) w2).setCell (p := ⟨g, k, none⟩) (.inl rfl) _).setCell (p := ⟨g, u, none⟩) (.inl rfl) _) (fun p hp e => by have e : p = g := e; omega)
          · show w.heap.size ≤ g; omega
          · show w.heap.size ≤ g; omega
      case measure => simp [intOf]; omega
    · obtain rfl : k = 0 := by omega
      go_wp2
      go_ret
      exact ⟨_, xs, rfl, HL.out, Own.shut HB.out (by omega) (by rw [HL.out]; exact HMX.out) HL.out.symm (by rw [HL.out]), HD.out⟩

set_option maxRecDepth 100000 in
set_option maxHeartbeats 1600000 in
theorem c_l01Spoil (b n : Nat) (w : World) (hs : Src w b) (h1 : 1 ≤ n) (h2 : n ≤ 1000) :
    Calls Try.prog 94 #[.pointer (some ⟨b, 0, none⟩), .int .i64 n] w (fun e w' => ∃ (r : Value) (xs : List Int), e = .returned r ∧ xs.length = n ∧ Own w.heap.size w' r xs ∧ Drew b w w') := by
  have HS := Lib.hid hs; have hbl := hs.lt; clear hs
  go_enter Try.func94, Try.ntmps94
  go_wp2_with fail
  refine (c_l01Draw b n _ HS.out h1 h2).mono ?_; rintro e w1 ⟨r, xs, rfl, hl, ho, hd⟩
  have HO := Lib.hid ho; have HD := Lib.hid hd; have HL := Lib.hid hl
  clear ho hd hl
  go_wp2_with fail
  refine (c_l01Next b 20 _ HD.out.1 (by omega) (by omega)).mono ?_; rintro e w2 ⟨t, rfl, t0, t1, hd2⟩
  have HD2 := Lib.hid (HD.out.trans hd2)
  have HO2 := Lib.hid (hd2.own HO.out hbl)
  clear hd2
  by_cases ht : t = 0
  case neg =>
    have HT := Lib.hid ht
    go_wp2
    go_ret
    exact ⟨_, xs, rfl, HL.out, HO2.out, HD2.out⟩
  subst ht
  go_wp2_with fail
  refine (c_l01Next b n _ HD2.out.1 (by omega) (by omega)).mono ?_; rintro e w3 ⟨s, rfl, s0, s1, hd3⟩
  obtain ⟨u, rfl⟩ : ∃ u : Nat, s = u := ⟨s.toNat, by omega⟩
  have hun : u < n := by omega
  have HD3 := Lib.hid (HD2.out.trans hd3)
  have HO3 := Lib.hid (hd3.own HO2.out hbl)
  clear hd3
  have hbel : Below w3.heap.size w3 (w3.alloc (.cells #[.int .i64 (-1), .int .i64 n, .int .i64 0, .int .i64 1099511627776] 2)) := (Below.refl _ _).alloc (Nat.le_refl _) _
  have HD4 := Lib.hid (HD3.out.under hbel)
  have HO4 := Lib.hid (HO3.out.under hbel)
  have hlt := HD3.out.1.lt
  have hown : Own w3.heap.size (w3.alloc (.cells #[.int .i64 (-1), .int .i64 n, .int .i64 0, .int .i64 1099511627776] 2)) (.slice (some ⟨w3.heap.size, 0, none⟩) 4 4) [-1, (n : Int), 0, 1099511627776] :=
    Own.shut (cs := []) (by simpa using Blk.new w3 [.int .i64 (-1), .int .i64 n, .int .i64 0, .int .i64 1099511627776] 2) (Nat.le_refl _) (by simp [maxLen]) (by simp) (by simp)
  have HW := Lib.hid hown
  clear hbel hown
  go_wp2_with fail
  refine (c_l01Pick b w3.heap.size _ [-1, (n : Int), 0, 1099511627776] _ HD4.out.1 HW.out hlt (by simp) (by simp)).mono ?_; rintro e w5 ⟨x, rfl, hx, hd5⟩
  have HD5 := Lib.hid (HD4.out.trans hd5)
  have ho5 := hd5.own HO4.out hbl
  rcases ho5.open with ⟨_, h0⟩ | ⟨g, cs, hv, hg, hblk, hmx⟩
  · have e := HL.out; rw [h0] at e; simp at e; omega
  rw [HL.out] at hv hmx
  subst hv
  have l1 := hblk.labN u (by rw [HL.out]; exact hun)
  have f1 := hblk.frozen u
  have s1 := hblk.labSet (u : Int) (by omega) (by rw [HL.out]; omega) x
  rw [Int.toNat_natCast] at s1
  have HS1 := Lib.hid s1; have HMX := Lib.hid hmx
  clear hx hd5 ho5 hblk s1 hmx
  go_wp2
  go_ret
  refine ⟨_, xs.set u x, rfl, by simpa using HL.out, Own.shut HS1.out (by omega) (by rw [List.length_set, HL.out]; exact HMX.out) (by rw [List.length_set]; exact HL.out.symm) (by rw [List.length_set, HL.out]), ?_, HD5.out.2.setCell (p := ⟨g, u, none⟩) (.inr (by show w.heap.size ≤ g; omega)) _⟩
  exact HD5.out.1.keep (S := fun k => k = g) ((Keep.refl (fun k => k = g) _).setCell (p := ⟨g, u, none⟩) (.inl rfl) _) (fun p hp e => by have e : p = g := e; omega)

set_option maxRecDepth 100000 in
set_option maxHeartbeats 1600000 in
theorem c_l01From (v : Value) (n : Nat) (w : World) (hv : BytesR w v n) (hn : n ≤ 4096) :
    Calls Try.prog 92 #[v] w (fun e w' => ∃ b : Nat, e = .returned (.pointer (some ⟨b, 0, none⟩)) ∧ w.heap.size ≤ b ∧ Src w' b ∧ Below w.heap.size w w') := by
  have HV := Lib.hid hv
  obtain ⟨a, c, hva, hnc, hcm, hcell⟩ := hv
  subst hva
  clear hcell
  obtain ⟨h0, hh0⟩ : ∃ h : Int, IntKind.u64.wrap (6553 + (n : Int)) = h := ⟨_, rfl⟩
  have hr := wrap64 (6553 + (n : Int))
  rw [hh0] at hr
  have h00 : (6553 + (n : Int)) = h0 := by rw [← hh0, IntKind.wrap_u64]; omega
  have HR := Lib.hid hr
  have HB1 : Hid (Below w.heap.size w (w.alloc (.cells #[.slice a n c, .int .i64 0, .int .u64 h0] 119))) := Lib.hid ((Below.refl _ _).alloc (Nat.le_refl _) _)
  have HK1 : Hid (Blk (w.alloc (.cells #[.slice a n c, .int .i64 0, .int .u64 h0] 119)) w.heap.size 119 [.slice a n c, .int .i64 0, .int .u64 h0]) := Lib.hid (Blk.new w [.slice a n c, .int .i64 0, .int .u64 h0] 119)
  go_enter Try.func92, Try.ntmps92
  have HR0 : Hid (0 ≤ h0 ∧ h0 ≤ 18446744073709551615) := HR
  go_wp2
  go_loopw [4] (fun i wr => ∃ (k : Nat) (h : Int), k ≤ n ∧ i = .int .i64 k ∧ Hid (Blk wr w.heap.size 119 [.slice a n c, .int .i64 0, .int .u64 h]) ∧ Hid (0 ≤ h ∧ h ≤ 18446744073709551615) ∧ Hid (Below w.heap.size w wr)) (fun i _ => n - (intOf i).toNat)
  case atStart => exact ⟨0, h0, Nat.zero_le _, rfl, HK1, HR0, HB1⟩
  case round =>
    clear HB1 HK1 HR0 HR hr
    obtain ⟨k, h, hk, rfl, HK, HH, HB⟩ := hrel
    by_cases hlt : k < n
    · obtain ⟨a', c', hva', -, -, hc⟩ := HV.out.below HB.out
      injection hva' with e1 e2 e3
      subst e1 e3
      clear e2
      obtain ⟨p0, o0, x, ha0, hcell, hx0, hx1⟩ := hc k hlt
      subst ha0
      clear hc
      have hk4 : (k : Int) < 4096 := by omega
      have c0 := HK.out.cell (i := 2) (by simp)
      simp only [List.getElem_cons_zero, List.getElem_cons_succ] at c0
      have f0 := HK.out.frozen 2
      obtain ⟨W, hW⟩ : ∃ W : Int, IntKind.u64.wrap (IntKind.u64.wrap (IntKind.u64.wrap (h * 1099511628211) + IntKind.u64.wrap x) + 11) = W := ⟨_, rfl⟩
      have hWr := wrap64 (IntKind.u64.wrap (IntKind.u64.wrap (h * 1099511628211) + IntKind.u64.wrap x) + 11)
      rw [hW] at hWr
      have HWr := Lib.hid hWr
      have HKs := Lib.hid (HK.out.set 2 (.int .u64 W))
      clear hWr
      go_wp2
      go_still_tail 15, (by kernel_rfl)
      change wpList _ _ _ _ _ wr.drew
      go_wp2
      go_roundw
      case rel => exact ⟨k + 1, W, by omega, by go_num, by first | exact HKs | exact Lib.hid HKs.out.drew, HWr, by first | exact Lib.hid (HB.out.setCell (p := ⟨w.heap.size, 2, none⟩) (Nat.le_refl _) _) | exact Lib.hid (HB.out.setCell (p := ⟨w.heap.size, 2, none⟩) (Nat.le_refl _) _).drew⟩
      case measure => simp [intOf]; omega
    · go_wp2
      go_ret
      exact ⟨w.heap.size, rfl, Nat.le_refl _, ⟨_, n, 0, h, HK.out, (HV.out.b (Nat.le_refl _)).keep (Keep.of_below HB.out) (fun p hp e => by omega), Nat.zero_le _, HH.out.1, HH.out.2⟩, HB.out⟩
end Go.Proofs.Ytkcobfkmeaakoaa

namespace Go.Proofs.Ytkcobfkmeaakoaa
open Go Go.RowKit

theorem c_big (a : Option Addr) (n c : Nat) (w : World) :
    Calls Try.prog 25 #[.slice a n c] w (fun e w' => e = .returned (.bool (decide (4096 < n))) ∧ w = w') := by
  by_cases h : 4096 < n
  · have h' : (4096 : Int) < n := by omega
    go_enter Try.func25, Try.ntmps25
    go_wp2
    go_ret
    exact ⟨ret_bool (by simp [h]), rfl⟩
  · have h' : ¬ (4096 : Int) < n := by omega
    go_enter Try.func25, Try.ntmps25
    go_wp2
    go_ret
    exact ⟨ret_bool (by simp [h]), rfl⟩

theorem drewN_more {w wr : World} (h : ∃ n, wr = w.drewN n) (m : Nat) : ∃ n, wr.drewN m = w.drewN n := by
  obtain ⟨n, rfl⟩ := h
  exact ⟨n + m, drewN_drewN w n m⟩
set_option maxHeartbeats 800000 in
theorem c_likeInts (v1 v2 : Value) (xs ys : List Int) (w : World) (hx : Ints w v1 xs) (hy : Ints w v2 ys) :
    Calls Try.prog 30 #[v1, v2] w (QVal w (.bool (decide (xs = ys)))) := by
  obtain ⟨a, c, rfl, hc, hm⟩ := hx.shape
  obtain ⟨a2, c2, rfl, hc2, hm2⟩ := hy.shape
  by_cases hl : xs.length = ys.length
  case neg =>
    have hne : decide (xs = ys) = false := by simp; intro e; exact hl (by rw [e])
    have hl' : ¬ ((xs.length : Int) = (ys.length : Int)) := by omega
    have HN := Lib.hid hne
    clear hne
    go_enter Try.func30, Try.ntmps30
    go_wp2
    go_ret
    exact ⟨ret_bool HN.out.symm, 0, rfl⟩
  have HL := Lib.hid hl; clear hl
  have hl' : ((xs.length : Int) = (ys.length : Int)) := by have := HL.out; omega
  go_enter Try.func30, Try.ntmps30
  go_wp2
  go_loopw [5] (fun i wr => ∃ k : Nat, k ≤ xs.length ∧ i = .int .i64 k ∧ Hid (∃ n, wr = w.drewN n) ∧ Hid (xs.take k = ys.take k)) (fun i _ => xs.length - (intOf i).toNat)
  case atStart => exact ⟨0, Nat.zero_le _, rfl, Lib.hid ⟨0, rfl⟩, Lib.hid (by simp)⟩
  case round =>
    obtain ⟨k, hk, rfl, HB, HT⟩ := hrel
    by_cases hlt : k < xs.length
    · have hlt2 : k < ys.length := by have := HL.out; omega
      obtain ⟨b, o, rfl, hcell⟩ := (hx.below (below_of_drewN HB.out)).get k hlt
      obtain ⟨b2, o2, rfl, hcell2⟩ := (hy.below (below_of_drewN HB.out)).get k hlt2
      by_cases he : nth xs k = nth ys k
      · have HE := Lib.hid he
        have he' : (nth xs k != nth ys k) = false := by simp [he]
        go_wp2
        go_quiet (fail)
        go_wp2
        go_roundw
        case rel => exact ⟨k + 1, by omega, by go_num, Lib.hid (drewN_more HB.out _), Lib.hid (by rw [take_snoc _ _ hlt, take_snoc _ _ hlt2, HT.out, HE.out])⟩
        case measure => simp [intOf]; omega
      · have HE := Lib.hid he
        have he' : (nth xs k != nth ys k) = true := by simp [he]
        go_wp2
        go_quiet (fail)
        go_wp2
        go_ret
        refine ⟨ret_bool ?_, drewN_more HB.out _⟩
        simp
        intro e
        exact HE.out (by rw [e])
    · go_wp2
      go_ret
      refine ⟨ret_bool ?_, HB.out⟩
      have h := HT.out
      rw [List.take_of_length_le (by omega), List.take_of_length_le (by have := HL.out; omega)] at h
      simp [h]

theorem quiet_more {P : Program} {f : FuncId} {args : Array Value} {w : World} {n : Nat} {v : Value} (h : Calls P f args (w.drewN n) (QVal (w.drewN n) v)) : Calls P f args (w.drewN n) fun e w'' => e = .returned v ∧ ∃ m, w'' = w.drewN m :=
  h.mono fun _ _ ⟨he, hm⟩ => ⟨he, by obtain ⟨m, hm⟩ := hm; subst hm; exact drewN_more ⟨n, rfl⟩ m⟩
set_option maxHeartbeats 800000 in
theorem c_likeRows5 (v1 v2 : Value) (xs ys : List (List Int)) (w : World) (hx : Rows w v1 xs) (hy : Rows w v2 ys) :
    Calls Try.prog 47 #[v1, v2] w (RVal w (.bool (decide (xs = ys)))) := by
  obtain ⟨a, c, rfl, hc, hm⟩ := hx.shape
  obtain ⟨a2, c2, rfl, hc2, hm2⟩ := hy.shape
  by_cases hl : xs.length = ys.length
  case neg =>
    have hne : decide (xs = ys) = false := by simp; intro e; exact hl (by rw [e])
    have hl' : ¬ ((xs.length : Int) = (ys.length : Int)) := by omega
    have HN := Lib.hid hne
    clear hne
    go_enter Try.func47, Try.ntmps47
    go_wp2
    go_ret
    exact ⟨ret_bool HN.out.symm, Below.refl _ _⟩
  have HL := Lib.hid hl; clear hl
  have hl' : ((xs.length : Int) = (ys.length : Int)) := by have := HL.out; omega
  go_enter Try.func47, Try.ntmps47
  go_wp2
  go_loopw [5] (fun i wr => ∃ k : Nat, k ≤ xs.length ∧ i = .int .i64 k ∧ Hid (Below w.heap.size w wr) ∧ Hid (xs.take k = ys.take k)) (fun i _ => xs.length - (intOf i).toNat)
  case atStart => exact ⟨0, Nat.zero_le _, rfl, Lib.hid (Below.refl _ _), Lib.hid (by simp)⟩
  case round =>
    obtain ⟨k, hk, rfl, HB, HT⟩ := hrel
    obtain ⟨wo, rfl⟩ : ∃ wo : World, wo = wr := ⟨_, rfl⟩
    by_cases hlt : k < xs.length
    · have hlt2 : k < ys.length := by have := HL.out; omega
      obtain ⟨b, o, u1, u2, rfl, hcell, hu⟩ := (hx.below HB.out).getS k hlt
      obtain ⟨b2, o2, y1, y2, rfl, hcell2, hy2⟩ := (hy.below HB.out).getS k hlt2
      have HU := Lib.hid hu; have HY := Lib.hid hy2
      clear hu hy2
      by_cases he : row xs k = row ys k
      · have hd : decide (row xs k = row ys k) = true := by simp [he]
        have HD := Lib.hid hd
        have HE := Lib.hid he; clear he
        go_wp2
        go_quiet ((go_at_call 30; exact quiet_more (c_likeInts _ _ (row xs k) (row ys k) _ (HU.out.below (below_drewN (Below.refl _ _) _)) (HY.out.below (below_drewN (Below.refl _ _) _)))))
        go_wp2
        go_roundw
        case rel => exact ⟨k + 1, by omega, by go_num, Lib.hid (below_drewN HB.out _), Lib.hid (by rw [take_snoc_row _ _ hlt, take_snoc_row _ _ hlt2, HT.out, HE.out])⟩
        case measure => simp [intOf]; omega
      · have hd : decide (row xs k = row ys k) = false := by simp [he]
        have HD := Lib.hid hd
        have HE := Lib.hid he; clear he
        go_wp2
        go_quiet ((go_at_call 30; exact quiet_more (c_likeInts _ _ (row xs k) (row ys k) _ (HU.out.below (below_drewN (Below.refl _ _) _)) (HY.out.below (below_drewN (Below.refl _ _) _)))))
        go_wp2
        go_ret
        refine ⟨ret_bool ?_, below_drewN HB.out _⟩
        simp
        intro e
        exact HE.out (by rw [e])
    · go_wp2
      go_ret
      refine ⟨ret_bool ?_, HB.out⟩
      have h := HT.out
      rw [List.take_of_length_le (by omega), List.take_of_length_le (by have := HL.out; omega)] at h
      simp [h]

set_option maxHeartbeats 800000 in
theorem c_likeSolution5 (v0 u0 v1 u1 : Value) (A B C D : List (List Int)) (w : World) (h1 : Sol w v0 u0 A B) (h2 : Sol w v1 u1 C D) :
    Calls Try.prog 29 #[.agg #[v0, u0], .agg #[v1, u1]] w (RVal w (.bool (decide (A = C) && decide (B = D)))) := by
  obtain ⟨a0, c0, rfl, _, _⟩ := h1.1.shape
  obtain ⟨a0s, c0s, rfl, _, _⟩ := h1.2.shape
  obtain ⟨a1, c1, rfl, _, _⟩ := h2.1.shape
  obtain ⟨a1s, c1s, rfl, _, _⟩ := h2.2.shape
  obtain ⟨f0, f1, hW0, hsz⟩ := boxes2 w [.slice a0 A.length c0, .slice a0s B.length c0s] [.slice a1 C.length c1, .slice a1s D.length c1s] 27 27
  obtain ⟨g0, g1, -, -⟩ := two_cells f0
  obtain ⟨g2, g3, -, -⟩ := two_cells f1
  have HF0 := Lib.hid f0; have HF1 := Lib.hid f1; have HW := Lib.hid hW0
  have H1 := Lib.hid (h1.below hW0); have H2 := Lib.hid (h2.below hW0)
  clear f0 f1 hW0 hsz h1 h2
  go_enter Try.func29, Try.ntmps29
  go_wp2_with fail
  refine (c_likeRows5 _ _ A C _ H1.out.1 H2.out.1).mono ?_; rintro e w2 ⟨rfl, hb⟩
  have HB := Lib.hid (HW.out.trans (hb.mono HW.out.size))
  have HS1 := Lib.hid (H1.out.2.below hb); have HS2 := Lib.hid (H2.out.2.below hb)
  clear g0 g1 g2 g3
  obtain ⟨g0, g1, -, -⟩ := two_cells (HF0.out.under hb)
  obtain ⟨g2, g3, -, -⟩ := two_cells (HF1.out.under hb)
  clear hb
  by_cases hac : A = C
  case neg =>
    have hd : decide (A = C) = false := by simp [hac]
    rw [hd]
    have HD := Lib.hid hd; clear hd hac
    go_wp2
    go_ret
    exact ⟨ret_bool (by rw [HD.out]; rfl), HB.out⟩
  have hd : decide (A = C) = true := by simp [hac]
  rw [hd]
  have HD := Lib.hid hd
  clear hd hac
  go_wp2_with fail
  refine (c_likeRows5 _ _ B D _ HS1.out HS2.out).mono ?_; rintro e w3 ⟨rfl, hb⟩
  have HB3 := Lib.hid (HB.out.trans (hb.mono HB.out.size))
  clear hb
  go_wp2
  go_ret
  exact ⟨ret_bool (by rw [HD.out]; simp), HB3.out⟩

set_option maxHeartbeats 800000 in
theorem c_then5 (v1 v2 : Value) (p q : List Int) (w : World) (hp : Ints w v1 p) (hq : Ints w v2 q) :
    Calls Try.prog 31 #[v1, v2] w (RInts w (thenRes p q)) := by
  by_cases h : okThen p q = true
  · have HC := Lib.hid (show thenCode p q = 0 by simp [thenCode, h])
    go_enter Try.func31, Try.ntmps31
    go_wp2_with fail
    refine (c_ThenPermutation _ _ p q _ hp hq).mono ?_; rintro e w1 ⟨r, rfl, ho, hb⟩
    rw [HC.out]
    have HO := Lib.hid ho; have HB := Lib.hid hb; clear ho hb
    go_wp2
    go_ret
    exact ⟨r, rfl, HO.out, HB.out⟩
  · have HC := Lib.hid (show thenCode p q = 1 by simp [thenCode, h])
    have HE := Lib.hid (show thenRes p q = [] by simp [thenRes, h])
    go_enter Try.func31, Try.ntmps31
    go_wp2_with fail
    refine (c_ThenPermutation _ _ p q _ hp hq).mono ?_; rintro e w1 ⟨r, rfl, ho, hb⟩
    rw [HC.out]
    have HB := Lib.hid hb; clear ho hb
    go_wp2
    go_ret
    exact ⟨_, rfl, by rw [HE.out]; exact Own.nil _ _, HB.out⟩

theorem isPerm_in' {p : List Int} (h : isPerm p = true) : (1 ≤ p.length ∧ p.length ≤ 12) ∧ Permuted p := by
  simp only [isPerm, Bool.and_eq_true, inR, decide_eq_true_eq] at h
  exact ⟨by omega, h.2⟩
set_option maxRecDepth 100000 in
set_option maxHeartbeats 1600000 in
theorem c_DrawTwist (v : Value) (n : Nat) (w : World) (hv : BytesR w v n) (hn : n ≤ 4096) :
    Calls Try.prog 26 #[v] w (fun e w' => ∃ (v1 v2 : Value) (p q : List Int), e = .returned (.tuple #[v1, v2]) ∧ Ints w' v1 p ∧ Ints w' v2 q ∧ p.length ≤ 12 ∧ q.length ≤ 12 ∧ Below w.heap.size w w') := by
  have HV := Lib.hid hv
  obtain ⟨a, c, hva, -⟩ := hv
  subst hva
  go_enter Try.func26, Try.ntmps26
  go_wp2_with fail
  refine (c_l01From _ n _ HV.out hn).mono ?_; rintro e w1 ⟨b, rfl, hwb, hs, hb1⟩
  have HS := Lib.hid hs; have HB1 := Lib.hid hb1; clear hs hb1
  go_wp2_with fail
  refine (c_l01Size b _ HS.out).mono ?_; rintro e w2 ⟨m, rfl, m1, m12, hd2⟩
  have HD2 := Lib.hid hd2; clear hd2
  go_wp2_with fail
  refine (c_l01Spoil b m _ HD2.out.1 m1 (by omega)).mono ?_; rintro e w3 ⟨r, p, rfl, hpl, hop, hd3⟩
  have HD3 := Lib.hid (HD2.out.trans hd3); have HP := Lib.hid hop; have HPL := Lib.hid hpl
  have hb2 : Hid (b < w2.heap.size) := Lib.hid HD2.out.1.lt
  have HBel := Lib.hid (HD3.out.below HB1.out hwb HB1.out.size)
  clear hd3 hop hpl
  go_wp2_with fail
  refine (c_l01Perm _ p _ HP.out.ints).mono ?_; rintro e w' ⟨rfl, rfl⟩
  have other : ∀ (u : Unit), True := fun _ => trivial
  by_cases hp : isPerm p = true
  case neg =>
    have hp' : isPerm p = false := by simpa using hp
    rw [hp']
    clear hp hp' other
    go_wp2_with fail
    refine (c_l01Spoil b m _ HD3.out.1 m1 (by omega)).mono ?_; rintro e w4 ⟨r4, q, rfl, hql, hoq, hd4⟩
    have HQ := Lib.hid hoq; have HQL := Lib.hid hql
    have HP4 := Lib.hid (hd4.own HP.out hb2.out)
    have HB4 := Lib.hid (hd4.below HBel.out hwb HBel.out.size)
    clear hd4 hoq hql
    go_wp2
    go_ret2
    exact ⟨_, _, p, q, rfl, HP4.out.ints, HQ.out.ints, by rw [HPL.out]; exact m12, by rw [HQL.out]; exact m12, HB4.out⟩
  rw [hp]
  have HPm := Lib.hid hp
  clear hp other
  go_wp2_with fail
  refine (c_l01Next b 3 _ HD3.out.1 (by omega) (by omega)).mono ?_; rintro e w4 ⟨t, rfl, t0, t1, hd4⟩
  have HD4 := Lib.hid hd4
  have HP4 := Lib.hid (hd4.own HP.out hb2.out)
  have HB4 := Lib.hid (hd4.below HBel.out hwb HBel.out.size)
  clear hd4
  by_cases ht : 0 < t
  case neg =>
    go_wp2_with fail
    refine (c_l01Spoil b m _ HD4.out.1 m1 (by omega)).mono ?_; rintro e w5 ⟨r5, q, rfl, hql, hoq, hd5⟩
    have HQ := Lib.hid hoq; have HQL := Lib.hid hql
    have HP5 := Lib.hid (hd5.own HP4.out hb2.out)
    have HB5 := Lib.hid (hd5.below HB4.out hwb HB4.out.size)
    clear hd5 hoq hql
    go_wp2
    go_ret2
    exact ⟨_, _, p, q, rfl, HP5.out.ints, HQ.out.ints, by rw [HPL.out]; exact m12, by rw [HQL.out]; exact m12, HB5.out⟩
  go_wp2_with fail
  refine (c_l01Unit m _ (by omega)).mono ?_; rintro e w5 ⟨r5, rfl, ho5, hb5⟩
  have HS5 := Lib.hid (HD4.out.1.under hb5)
  have HP5 := Lib.hid (HP4.out.under hb5)
  have HB5 := Lib.hid (HB4.out.trans (hb5.mono HB4.out.size))
  have HQ5 := Lib.hid ho5
  have hb4 : Hid (b < w4.heap.size) := Lib.hid HD4.out.1.lt
  clear ho5 hb5
  go_wp2_with fail
  refine (c_l01Next b 5 _ HS5.out (by omega) (by omega)).mono ?_; rintro e w6 ⟨s, rfl, s0, s1, hd6⟩
  obtain ⟨k0, rfl⟩ : ∃ k0 : Nat, s = k0 := ⟨s.toNat, by omega⟩
  have HQ6 := Lib.hid (hd6.own HQ5.out hb4.out).ints
  have HP6 := Lib.hid (hd6.own HP5.out hb2.out).ints
  have HB6 := Lib.hid (hd6.below HB5.out hwb HB5.out.size)
  clear hd6
  go_wp2
  go_loopw [7, 8] (fun q k wr => ∃ (s : Nat) (qs : List Int), s ≤ 4 ∧ k = .int .i64 s ∧ Hid (Ints wr q qs) ∧ Hid (qs.length = m ∧ ∀ x ∈ qs, 0 ≤ x ∧ x < (m : Int)) ∧ Hid (Ints wr r p) ∧ Hid (Below w.heap.size w wr)) (fun _ k _ => (intOf k).toNat)
  case atStart => exact ⟨k0, iota m, by omega, rfl, HQ6, Lib.hid ⟨by simp, fun x hx => by simpa using (mem_iota m x).1 hx⟩, HP6, HB6⟩
  case round =>
    clear HQ6 HP6 HB6
    obtain ⟨s, qs, hs4, rfl, HQ, HR, HP7, HB7⟩ := hrel
    by_cases hs0 : 0 < s
    · go_wp2_with fail
      refine (c_l01Then _ _ qs p _ HQ.out HP7.out (fun x hx => by rw [HPL.out]; exact HR.out.2 x hx) (by rw [HR.out.1]; omega)).mono ?_; rintro e w8 ⟨r8, rfl, ho8, hb8⟩
      have HQ8 := Lib.hid ho8.ints; have HP8 := Lib.hid (HP7.out.below hb8); have HB8 := Lib.hid (HB7.out.trans (hb8.mono HB7.out.size))
      have hpr := (isPerm_in' HPm.out).2
      have HR8 : Hid ((thenL qs p).length = m ∧ ∀ x ∈ thenL qs p, 0 ≤ x ∧ x < (m : Int)) := Lib.hid ⟨by rw [thenL_length]; exact HR.out.1, fun x hx => by
        unfold thenL at hx
        rw [List.mem_map] at hx
        obtain ⟨y, hy, rfl⟩ := hx
        have hyr := HR.out.2 y hy
        have := hpr.lt hyr.1 (by rw [HPL.out]; exact hyr.2)
        rw [HPL.out] at this; exact this⟩
      clear ho8 hb8 hpr
      go_wp2
      go_roundw
      case rel => exact ⟨s - 1, thenL qs p, by omega, by go_num, HQ8, HR8, HP8, HB8⟩
      case measure => simp [intOf]; omega
    · obtain rfl : s = 0 := by omega
      go_wp2
      go_ret2
      exact ⟨_, _, p, qs, rfl, HP7.out, HQ.out, by rw [HPL.out]; exact m12, by rw [HR.out.1]; exact m12, HB7.out⟩
end Go.Proofs.Ytkcobfkmeaakoaa

namespace Go.Proofs.Ytkcobfkmeaakoaa
open Go.RowKit

def twOk (p q : List Int) : Bool := isPerm p && isPerm q && decide (p.length = q.length)
def twCm (p q : List Int) : Bool := decide (thenL p q = thenL q p)
def twRA (p q : List Int) : List (List Int) := if twOk p q && twCm p q then twA p else []
def twRB (p q : List Int) : List (List Int) := if twOk p q && twCm p q then twB p q else []
def twCode (p q : List Int) : Int := if twOk p q then (if twCm p q then 0 else 5) else 2
theorem twOk_of {p q : List Int} (h1 : isPerm p = true) (h2 : isPerm q = true) (h3 : p.length = q.length) : twOk p q = true := by simp [twOk, h1, h2, h3]
theorem twOk_no1 {p q : List Int} (h1 : isPerm p = false) : twOk p q = false := by simp [twOk, h1]
theorem twOk_no2 {p q : List Int} (h1 : isPerm q = false) : twOk p q = false := by simp [twOk, h1]
theorem twOk_no3 {p q : List Int} (h1 : p.length ≠ q.length) : twOk p q = false := by simp [twOk, h1]
theorem perm_inT {xs : List Int} (h : isPerm xs = true) : (∀ x ∈ xs, 0 ≤ x ∧ x < xs.length) ∧ xs.length ≤ 12 := by
  simp [isPerm, inR] at h; exact ⟨h.2.2, by omega⟩
set_option maxRecDepth 100000 in
set_option maxHeartbeats 4000000 in
theorem c_specTwistSolution (v0 : Value) (p : List Int) (v1 : Value) (q : List Int) (w : World) (hp : Ints w v0 p) (hq : Ints w v1 q)  :
    Calls Try.prog 28 #[v0, v1] w (RSolRC w (twRA p q) (twRB p q) (twCode p q)) := by
  by_cases hp0 : isPerm p = true
  case neg =>
    have hq0 : isPerm p = false := by simpa using hp0
    have HQ := Lib.hid hq0; clear hp0
    obtain ⟨a0, c0, rfl, hc0, hm0⟩ := hp.shape
    obtain ⟨a1, c1, rfl, hc1, hm1⟩ := hq.shape
    go_enter Try.func28, Try.ntmps28
    go_wp2_with fail
    obtain ⟨f2, hW0, hsz⟩ := boxes1 w [.slice none 0 0, .slice none 0 0] 27
    obtain ⟨W0, hW⟩ : ∃ W, (w.alloc (.cells #[.slice none 0 0, .slice none 0 0] 27)) = W := ⟨_, rfl⟩
    rw [hW] at f2 hW0 hsz ⊢
    clear hW hsz
    refine (c_l01PermV _ _ _ (hp.below hW0)).mono ?_; rintro e g0 ⟨rfl, hbg0⟩
    have hB0 := bb hW0 hbg0
    replace f2 := f2.under hbg0
    obtain ⟨cA2, cB2, fA2, fB2⟩ := two_cells f2
    clear hbg0
    have HB := Lib.hid hB0
    clear hB0 hW0
    go_wp2
    refine bodyPost_ret (v := .tuple #[.agg #[.slice none 0 0, .slice none 0 0], .int .i64 2]) (by simp [results, Try.results28, go_sem, cA2, cB2]) rfl ⟨.slice none 0 0, .slice none 0 0, by simp [twRA, twRB, twCode, twOk, HQ.out], ?_, ?_⟩
    · exact ⟨_, rfl, ⟨by simpa [twRA, twRB, twCode, twOk, HQ.out] using (OwnRowsIn.nil0 0 0 _).rows, by simpa [twRA, twRB, twCode, twOk, HQ.out] using (OwnRowsIn.nil0 0 0 _).rows⟩, Nat.le_refl _, Below.refl _ _⟩
    · first | exact HB.out | exact (HB.out.setCell (p := ⟨w.heap.size, 0, none⟩) (by show _ ≤ w.heap.size; omega) _).setCell (p := ⟨w.heap.size, 1, none⟩) (by show _ ≤ w.heap.size; omega) _
  have HP0 := Lib.hid hp0
  by_cases hp1 : isPerm q = true
  case neg =>
    have hq1 : isPerm q = false := by simpa using hp1
    have HQ := Lib.hid hq1; clear hp1
    obtain ⟨a0, c0, rfl, hc0, hm0⟩ := hp.shape
    obtain ⟨a1, c1, rfl, hc1, hm1⟩ := hq.shape
    go_enter Try.func28, Try.ntmps28
    go_wp2_with fail
    obtain ⟨f2, hW0, hsz⟩ := boxes1 w [.slice none 0 0, .slice none 0 0] 27
    obtain ⟨W0, hW⟩ : ∃ W, (w.alloc (.cells #[.slice none 0 0, .slice none 0 0] 27)) = W := ⟨_, rfl⟩
    rw [hW] at f2 hW0 hsz ⊢
    clear hW hsz
    refine (c_l01PermV _ _ _ (hp.below hW0)).mono ?_; rintro e g0 ⟨rfl, hbg0⟩
    have hB0 := bb hW0 hbg0
    replace f2 := f2.under hbg0
    obtain ⟨cA2, cB2, fA2, fB2⟩ := two_cells f2
    clear hbg0
    go_wp2_with fail
    refine (c_l01PermV _ _ _ (hq.below hB0)).mono ?_; rintro e g1 ⟨rfl, hbg1⟩
    have hB1 := bb hB0 hbg1
    replace f2 := f2.under hbg1
    clear cA2 cB2 fA2 fB2
    obtain ⟨cA2, cB2, fA2, fB2⟩ := two_cells f2
    clear hbg1
    have HB := Lib.hid hB1
    clear hB0 hB1 hW0
    go_wp2
    refine bodyPost_ret (v := .tuple #[.agg #[.slice none 0 0, .slice none 0 0], .int .i64 2]) (by simp [results, Try.results28, go_sem, cA2, cB2]) rfl ⟨.slice none 0 0, .slice none 0 0, by simp [twRA, twRB, twCode, twOk, HQ.out, HP0.out], ?_, ?_⟩
    · exact ⟨_, rfl, ⟨by simpa [twRA, twRB, twCode, twOk, HQ.out, HP0.out] using (OwnRowsIn.nil0 0 0 _).rows, by simpa [twRA, twRB, twCode, twOk, HQ.out, HP0.out] using (OwnRowsIn.nil0 0 0 _).rows⟩, Nat.le_refl _, Below.refl _ _⟩
    · first | exact HB.out | exact (HB.out.setCell (p := ⟨w.heap.size, 0, none⟩) (by show _ ≤ w.heap.size; omega) _).setCell (p := ⟨w.heap.size, 1, none⟩) (by show _ ≤ w.heap.size; omega) _
  have HP1 := Lib.hid hp1
  by_cases hp2 : decide (p.length = q.length) = true
  case neg =>
    have hq2 : decide (p.length = q.length) = false := by simpa using hp2
    have hlen : ((p.length : Int) != (q.length : Int)) = true := by have h := hq2; simp at h ⊢; omega
    have HQ := Lib.hid hq2; clear hp2
    obtain ⟨a0, c0, rfl, hc0, hm0⟩ := hp.shape
    obtain ⟨a1, c1, rfl, hc1, hm1⟩ := hq.shape
    go_enter Try.func28, Try.ntmps28
    go_wp2_with fail
    obtain ⟨f2, hW0, hsz⟩ := boxes1 w [.slice none 0 0, .slice none 0 0] 27
    obtain ⟨W0, hW⟩ : ∃ W, (w.alloc (.cells #[.slice none 0 0, .slice none 0 0] 27)) = W := ⟨_, rfl⟩
    rw [hW] at f2 hW0 hsz ⊢
    clear hW hsz
    refine (c_l01PermV _ _ _ (hp.below hW0)).mono ?_; rintro e g0 ⟨rfl, hbg0⟩
    have hB0 := bb hW0 hbg0
    replace f2 := f2.under hbg0
    obtain ⟨cA2, cB2, fA2, fB2⟩ := two_cells f2
    clear hbg0
    go_wp2_with fail
    refine (c_l01PermV _ _ _ (hq.below hB0)).mono ?_; rintro e g1 ⟨rfl, hbg1⟩
    have hB1 := bb hB0 hbg1
    replace f2 := f2.under hbg1
    clear cA2 cB2 fA2 fB2
    obtain ⟨cA2, cB2, fA2, fB2⟩ := two_cells f2
    clear hbg1
    obtain ⟨g2, rfl⟩ : ∃ W : World, W = g1 := ⟨_, rfl⟩
    have hB2 := hB1
    have HB := Lib.hid hB2
    clear hB0 hB1 hB2 hW0
    go_wp2
    refine bodyPost_ret (v := .tuple #[.agg #[.slice none 0 0, .slice none 0 0], .int .i64 2]) (by simp [results, Try.results28, go_sem, cA2, cB2]) rfl ⟨.slice none 0 0, .slice none 0 0, by simp [twRA, twRB, twCode, twOk, HQ.out, HP0.out, HP1.out], ?_, ?_⟩
    · exact ⟨_, rfl, ⟨by simpa [twRA, twRB, twCode, twOk, HQ.out, HP0.out, HP1.out] using (OwnRowsIn.nil0 0 0 _).rows, by simpa [twRA, twRB, twCode, twOk, HQ.out, HP0.out, HP1.out] using (OwnRowsIn.nil0 0 0 _).rows⟩, Nat.le_refl _, Below.refl _ _⟩
    · first | exact HB.out | exact (HB.out.setCell (p := ⟨w.heap.size, 0, none⟩) (by show _ ≤ w.heap.size; omega) _).setCell (p := ⟨w.heap.size, 1, none⟩) (by show _ ≤ w.heap.size; omega) _
  have HP2 := Lib.hid hp2
  have hlen2 : ((p.length : Int) != (q.length : Int)) = false := by have h := hp2; simp at h ⊢; omega
  clear hp2
  obtain ⟨a0, c0, rfl, hc0, hm0⟩ := hp.shape
  obtain ⟨a1, c1, rfl, hc1, hm1⟩ := hq.shape
  go_enter Try.func28, Try.ntmps28
  go_wp2_with fail
  obtain ⟨f2, hW0, hsz⟩ := boxes1 w [.slice none 0 0, .slice none 0 0] 27
  obtain ⟨W0, hW⟩ : ∃ W, (w.alloc (.cells #[.slice none 0 0, .slice none 0 0] 27)) = W := ⟨_, rfl⟩
  rw [hW] at f2 hW0 hsz ⊢
  clear hW hsz
  refine (c_l01PermV _ _ _ (hp.below hW0)).mono ?_; rintro e g0 ⟨rfl, hbg0⟩
  have hB0 := bb hW0 hbg0
  replace f2 := f2.under hbg0
  obtain ⟨cA2, cB2, fA2, fB2⟩ := two_cells f2
  clear hbg0
  go_wp2_with fail
  refine (c_l01PermV _ _ _ (hq.below hB0)).mono ?_; rintro e g1 ⟨rfl, hbg1⟩
  have hB1 := bb hB0 hbg1
  replace f2 := f2.under hbg1
  clear cA2 cB2 fA2 fB2
  obtain ⟨cA2, cB2, fA2, fB2⟩ := two_cells f2
  clear hbg1
  obtain ⟨g2, rfl⟩ : ∃ W : World, W = g1 := ⟨_, rfl⟩
  have hB2 := hB1
  have HOK := Lib.hid (twOk_of HP0.out HP1.out (by simpa using HP2.out))
  obtain ⟨hin, hn⟩ := perm_inT HP0.out
  obtain ⟨hin2, hn2⟩ := perm_inT HP1.out
  have hlen : p.length = q.length := by simpa using HP2.out
  have HI := Lib.hid hin; have HI2 := Lib.hid hin2; have HLn := Lib.hid hlen
  clear hin hin2 hlen
  go_wp2_with fail
  refine (c_l01Then _ _ p q _ (hp.below hB2) (hq.below hB2) (by rw [← HLn.out]; exact HI.out) (by omega)).mono ?_; rintro e w1 ⟨r1, rfl, ho1, hb1⟩
  obtain ⟨x1, y1, hv1, _⟩ := ho1.shape
  rw [thenL_length] at hv1; subst hv1
  have k1 := bb hB2 hb1
  have HF1 := Lib.hid (f2.under hb1)
  have HO1 := Lib.hid ho1; clear ho1 hb1 f2 cA2 cB2 fA2 fB2
  go_wp2_with fail
  refine (c_l01Then _ _ q p _ (hq.below k1) (hp.below k1) (by rw [HLn.out]; exact HI2.out) (by omega)).mono ?_; rintro e w2 ⟨r2, rfl, ho2, hb2⟩
  obtain ⟨x2, y2, hv2, _⟩ := ho2.shape
  rw [thenL_length] at hv2; subst hv2
  have k2 := bb k1 hb2
  have HF2 := Lib.hid (HF1.out.under hb2)
  have HI1 := Lib.hid (HO1.out.ints.below hb2); have HO2 := Lib.hid ho2; clear ho2 hb2
  go_wp2_with fail
  refine (c_l01Same _ _ _ _ _ HI1.out HO2.out.ints).mono ?_; rintro e W3 hh
  obtain ⟨rfl, hb3⟩ := hh.r
  have HB3 := Lib.hid (bb k2 hb3)
  have HF3 := Lib.hid (HF2.out.under hb3)
  clear hh k1 k2 hb3 hB0 hB1 hB2 hW0
  obtain ⟨z0, z1, z2, z3⟩ := two_cells HF3.out
  by_cases hc : twCm p q = true
  case neg =>
    have hc' : twCm p q = false := by simpa using hc
    have hd : decide (thenL p q = thenL q p) = false := hc'
    have HC := Lib.hid hc'; clear hc hc'
    go_wp2
    refine bodyPost_ret (v := .tuple #[.agg #[.slice none 0 0, .slice none 0 0], .int .i64 5]) (by simp [results, Try.results28, go_sem, z0, z1]) rfl ⟨.slice none 0 0, .slice none 0 0, by simp [twCode, HOK.out, HC.out], ?_, ?_⟩
    · exact ⟨_, rfl, ⟨by simpa [twRA, HOK.out, HC.out] using (OwnRowsIn.nil0 0 0 _).rows, by simpa [twRB, HOK.out, HC.out] using (OwnRowsIn.nil0 0 0 _).rows⟩, Nat.le_refl _, Below.refl _ _⟩
    · first | exact HB3.out | exact (HB3.out.setCell (p := ⟨w.heap.size, 0, none⟩) (Nat.le_refl _) _).setCell (p := ⟨w.heap.size, 1, none⟩) (Nat.le_refl _) _
  have hd : decide (thenL p q = thenL q p) = true := hc
  have HC := Lib.hid hc; clear hc
  go_wp2_with fail
  refine (c_l02Twist _ _ p q _ (hp.below HB3.out) (hq.below HB3.out) HLn.out.symm (by omega)).mono ?_; rintro e wz ⟨s1, s2, rfl, hs, hbz⟩
  obtain ⟨sa1, sl1, sc1, rfl⟩ := hs.1.any
  obtain ⟨sa2, sl2, sc2, rfl⟩ := hs.2.any
  clear z0 z1 z2 z3
  obtain ⟨z0, z1, z2, z3⟩ := two_cells (HF3.out.under hbz)
  have HLo := Lib.hid HF3.out.lt; have HS := Lib.hid hs; have HBz := Lib.hid (bb HB3.out hbz)
  clear hs hbz
  go_wp2
  obtain ⟨hA, hB⟩ := storedR (q := w.heap.size) HBz.out HS.out (Nat.le_refl _) HLo.out
  refine bodyPost_ret (v := .tuple #[.agg #[.slice sa1 sl1 sc1, .slice sa2 sl2 sc2], .int .i64 0]) (by simp [results, Try.results28, go_sem, z0, z1]) rfl ⟨_, _, by simp [twCode, HOK.out, HC.out]; exact ⟨rfl, rfl⟩, by simpa [twRA, twRB, HOK.out, HC.out] using hA, hB⟩

set_option maxRecDepth 100000 in
set_option maxHeartbeats 4000000 in
theorem c_TwistSolution (v0 : Value) (p : List Int) (v1 : Value) (q : List Int) (w : World) (hp : Ints w v0 p) (hq : Ints w v1 q)  :
    Calls Try.prog 27 #[v0, v1] w (RSolC w (twRA p q) (twRB p q) (twCode p q)) := by
  by_cases hp0 : isPerm p = true
  case neg =>
    have hq0 : isPerm p = false := by simpa using hp0
    have HQ := Lib.hid hq0; clear hp0
    obtain ⟨a0, c0, rfl, hc0, hm0⟩ := hp.shape
    obtain ⟨a1, c1, rfl, hc1, hm1⟩ := hq.shape
    go_enter Try.func27, Try.ntmps27
    go_wp2_with fail
    obtain ⟨f2, hW0, hsz⟩ := boxes1 w [.slice none 0 0, .slice none 0 0] 27
    obtain ⟨W0, hW⟩ : ∃ W, (w.alloc (.cells #[.slice none 0 0, .slice none 0 0] 27)) = W := ⟨_, rfl⟩
    rw [hW] at f2 hW0 hsz ⊢
    clear hW hsz
    refine (c_IsPermutation _ _ _ (hp.below hW0)).mono ?_; rintro e g0 ⟨rfl, hbg0⟩
    have hB0 := bb hW0 hbg0
    replace f2 := f2.under hbg0
    obtain ⟨cA2, cB2, fA2, fB2⟩ := two_cells f2
    clear hbg0
    have HB := Lib.hid hB0
    clear hB0 hW0
    go_wp2
    refine bodyPost_ret (v := .tuple #[.agg #[.slice none 0 0, .slice none 0 0], .int .i64 2]) (by simp [results, Try.results27, go_sem, cA2, cB2]) rfl ⟨.slice none 0 0, .slice none 0 0, by simp [twRA, twRB, twCode, twOk, HQ.out], ?_, ?_⟩
    · have hz : w.heap.size ≤ g0.heap.size := HB.out.size
      rw [show twRA p q = [] from by simp [twRA, twRB, twCode, twOk, HQ.out], show twRB p q = [] from by simp [twRA, twRB, twCode, twOk, HQ.out]]
      exact OwnSol.nil0 (by first | exact hz | (simp [World.setCell]; exact hz))
    · first | exact HB.out | exact (HB.out.setCell (p := ⟨w.heap.size, 0, none⟩) (by show _ ≤ w.heap.size; omega) _).setCell (p := ⟨w.heap.size, 1, none⟩) (by show _ ≤ w.heap.size; omega) _
  have HP0 := Lib.hid hp0
  by_cases hp1 : isPerm q = true
  case neg =>
    have hq1 : isPerm q = false := by simpa using hp1
    have HQ := Lib.hid hq1; clear hp1
    obtain ⟨a0, c0, rfl, hc0, hm0⟩ := hp.shape
    obtain ⟨a1, c1, rfl, hc1, hm1⟩ := hq.shape
    go_enter Try.func27, Try.ntmps27
    go_wp2_with fail
    obtain ⟨f2, hW0, hsz⟩ := boxes1 w [.slice none 0 0, .slice none 0 0] 27
    obtain ⟨W0, hW⟩ : ∃ W, (w.alloc (.cells #[.slice none 0 0, .slice none 0 0] 27)) = W := ⟨_, rfl⟩
    rw [hW] at f2 hW0 hsz ⊢
    clear hW hsz
    refine (c_IsPermutation _ _ _ (hp.below hW0)).mono ?_; rintro e g0 ⟨rfl, hbg0⟩
    have hB0 := bb hW0 hbg0
    replace f2 := f2.under hbg0
    obtain ⟨cA2, cB2, fA2, fB2⟩ := two_cells f2
    clear hbg0
    go_wp2_with fail
    refine (c_IsPermutation _ _ _ (hq.below hB0)).mono ?_; rintro e g1 ⟨rfl, hbg1⟩
    have hB1 := bb hB0 hbg1
    replace f2 := f2.under hbg1
    clear cA2 cB2 fA2 fB2
    obtain ⟨cA2, cB2, fA2, fB2⟩ := two_cells f2
    clear hbg1
    have HB := Lib.hid hB1
    clear hB0 hB1 hW0
    go_wp2
    refine bodyPost_ret (v := .tuple #[.agg #[.slice none 0 0, .slice none 0 0], .int .i64 2]) (by simp [results, Try.results27, go_sem, cA2, cB2]) rfl ⟨.slice none 0 0, .slice none 0 0, by simp [twRA, twRB, twCode, twOk, HQ.out, HP0.out], ?_, ?_⟩
    · have hz : w.heap.size ≤ g1.heap.size := HB.out.size
      rw [show twRA p q = [] from by simp [twRA, twRB, twCode, twOk, HQ.out, HP0.out], show twRB p q = [] from by simp [twRA, twRB, twCode, twOk, HQ.out, HP0.out]]
      exact OwnSol.nil0 (by first | exact hz | (simp [World.setCell]; exact hz))
    · first | exact HB.out | exact (HB.out.setCell (p := ⟨w.heap.size, 0, none⟩) (by show _ ≤ w.heap.size; omega) _).setCell (p := ⟨w.heap.size, 1, none⟩) (by show _ ≤ w.heap.size; omega) _
  have HP1 := Lib.hid hp1
  by_cases hp2 : decide (p.length = q.length) = true
  case neg =>
    have hq2 : decide (p.length = q.length) = false := by simpa using hp2
    have hlen : ((p.length : Int) != (q.length : Int)) = true := by have h := hq2; simp at h ⊢; omega
    have HQ := Lib.hid hq2; clear hp2
    obtain ⟨a0, c0, rfl, hc0, hm0⟩ := hp.shape
    obtain ⟨a1, c1, rfl, hc1, hm1⟩ := hq.shape
    go_enter Try.func27, Try.ntmps27
    go_wp2_with fail
    obtain ⟨f2, hW0, hsz⟩ := boxes1 w [.slice none 0 0, .slice none 0 0] 27
    obtain ⟨W0, hW⟩ : ∃ W, (w.alloc (.cells #[.slice none 0 0, .slice none 0 0] 27)) = W := ⟨_, rfl⟩
    rw [hW] at f2 hW0 hsz ⊢
    clear hW hsz
    refine (c_IsPermutation _ _ _ (hp.below hW0)).mono ?_; rintro e g0 ⟨rfl, hbg0⟩
    have hB0 := bb hW0 hbg0
    replace f2 := f2.under hbg0
    obtain ⟨cA2, cB2, fA2, fB2⟩ := two_cells f2
    clear hbg0
    go_wp2_with fail
    refine (c_IsPermutation _ _ _ (hq.below hB0)).mono ?_; rintro e g1 ⟨rfl, hbg1⟩
    have hB1 := bb hB0 hbg1
    replace f2 := f2.under hbg1
    clear cA2 cB2 fA2 fB2
    obtain ⟨cA2, cB2, fA2, fB2⟩ := two_cells f2
    clear hbg1
    obtain ⟨g2, rfl⟩ : ∃ W : World, W = g1 := ⟨_, rfl⟩
    have hB2 := hB1
    have HB := Lib.hid hB2
    clear hB0 hB1 hB2 hW0
    go_wp2
    refine bodyPost_ret (v := .tuple #[.agg #[.slice none 0 0, .slice none 0 0], .int .i64 2]) (by simp [results, Try.results27, go_sem, cA2, cB2]) rfl ⟨.slice none 0 0, .slice none 0 0, by simp [twRA, twRB, twCode, twOk, HQ.out, HP0.out, HP1.out], ?_, ?_⟩
    · have hz : w.heap.size ≤ g2.heap.size := HB.out.size
      rw [show twRA p q = [] from by simp [twRA, twRB, twCode, twOk, HQ.out, HP0.out, HP1.out], show twRB p q = [] from by simp [twRA, twRB, twCode, twOk, HQ.out, HP0.out, HP1.out]]
      exact OwnSol.nil0 (by first | exact hz | (simp [World.setCell]; exact hz))
    · first | exact HB.out | exact (HB.out.setCell (p := ⟨w.heap.size, 0, none⟩) (by show _ ≤ w.heap.size; omega) _).setCell (p := ⟨w.heap.size, 1, none⟩) (by show _ ≤ w.heap.size; omega) _
  have HP2 := Lib.hid hp2
  have hlen2 : ((p.length : Int) != (q.length : Int)) = false := by have h := hp2; simp at h ⊢; omega
  clear hp2
  obtain ⟨a0, c0, rfl, hc0, hm0⟩ := hp.shape
  obtain ⟨a1, c1, rfl, hc1, hm1⟩ := hq.shape
  go_enter Try.func27, Try.ntmps27
  go_wp2_with fail
  obtain ⟨f2, hW0, hsz⟩ := boxes1 w [.slice none 0 0, .slice none 0 0] 27
  obtain ⟨W0, hW⟩ : ∃ W, (w.alloc (.cells #[.slice none 0 0, .slice none 0 0] 27)) = W := ⟨_, rfl⟩
  rw [hW] at f2 hW0 hsz ⊢
  clear hW hsz
  refine (c_IsPermutation _ _ _ (hp.below hW0)).mono ?_; rintro e g0 ⟨rfl, hbg0⟩
  have hB0 := bb hW0 hbg0
  replace f2 := f2.under hbg0
  obtain ⟨cA2, cB2, fA2, fB2⟩ := two_cells f2
  clear hbg0
  go_wp2_with fail
  refine (c_IsPermutation _ _ _ (hq.below hB0)).mono ?_; rintro e g1 ⟨rfl, hbg1⟩
  have hB1 := bb hB0 hbg1
  replace f2 := f2.under hbg1
  clear cA2 cB2 fA2 fB2
  obtain ⟨cA2, cB2, fA2, fB2⟩ := two_cells f2
  clear hbg1
  obtain ⟨g2, rfl⟩ : ∃ W : World, W = g1 := ⟨_, rfl⟩
  have hB2 := hB1
  have HOK := Lib.hid (twOk_of HP0.out HP1.out (by simpa using HP2.out))
  obtain ⟨hin, hn⟩ := perm_inT HP0.out
  obtain ⟨hin2, hn2⟩ := perm_inT HP1.out
  have hlen : p.length = q.length := by simpa using HP2.out
  have HI := Lib.hid hin; have HI2 := Lib.hid hin2; have HLn := Lib.hid hlen
  clear hin hin2 hlen
  go_wp2_with fail
  refine (c_then _ _ p q _ (hp.below hB2) (hq.below hB2) (by rw [← HLn.out]; exact HI.out) (by omega)).mono ?_; rintro e w1 ⟨r1, rfl, ho1, hb1⟩
  obtain ⟨x1, y1, hv1, _⟩ := ho1.shape
  rw [thenL_length] at hv1; subst hv1
  have k1 := bb hB2 hb1
  have HF1 := Lib.hid (f2.under hb1)
  have HO1 := Lib.hid ho1; clear ho1 hb1 f2 cA2 cB2 fA2 fB2
  go_wp2_with fail
  refine (c_then _ _ q p _ (hq.below k1) (hp.below k1) (by rw [HLn.out]; exact HI2.out) (by omega)).mono ?_; rintro e w2 ⟨r2, rfl, ho2, hb2⟩
  obtain ⟨x2, y2, hv2, _⟩ := ho2.shape
  rw [thenL_length] at hv2; subst hv2
  have k2 := bb k1 hb2
  have HF2 := Lib.hid (HF1.out.under hb2)
  have HI1 := Lib.hid (HO1.out.ints.below hb2); have HO2 := Lib.hid ho2; clear ho2 hb2
  go_wp2_with fail
  refine (c_slicesEqual _ _ _ _ _ HI1.out HO2.out.ints).mono ?_; rintro e W3 hh
  obtain ⟨rfl, hb3⟩ := hh.r
  have HB3 := Lib.hid (bb k2 hb3)
  have HF3 := Lib.hid (HF2.out.under hb3)
  clear hh k1 k2 hb3 hB0 hB1 hB2 hW0
  obtain ⟨z0, z1, z2, z3⟩ := two_cells HF3.out
  by_cases hc : twCm p q = true
  case neg =>
    have hc' : twCm p q = false := by simpa using hc
    have hd : decide (thenL p q = thenL q p) = false := hc'
    have HC := Lib.hid hc'; clear hc hc'
    go_wp2
    refine bodyPost_ret (v := .tuple #[.agg #[.slice none 0 0, .slice none 0 0], .int .i64 5]) (by simp [results, Try.results27, go_sem, z0, z1]) rfl ⟨.slice none 0 0, .slice none 0 0, by simp [twCode, HOK.out, HC.out], ?_, ?_⟩
    · have hz : w.heap.size ≤ W3.heap.size := HB3.out.size
      rw [show twRA p q = [] from by simp [twRA, HC.out], show twRB p q = [] from by simp [twRB, HC.out]]
      exact OwnSol.nil0 (by first | exact hz | (simp [World.setCell]; exact hz))
    · first | exact HB3.out | exact (HB3.out.setCell (p := ⟨w.heap.size, 0, none⟩) (Nat.le_refl _) _).setCell (p := ⟨w.heap.size, 1, none⟩) (Nat.le_refl _) _
  have hd : decide (thenL p q = thenL q p) = true := hc
  have HC := Lib.hid hc; clear hc
  go_wp2_with fail
  refine (c_twist _ _ p q _ (hp.below HB3.out) (hq.below HB3.out) HLn.out.symm (by omega)).mono ?_; rintro e wz ⟨s1, s2, rfl, hs, hbz⟩
  obtain ⟨sa1, sl1, sc1, rfl⟩ := hs.sol.1.any
  obtain ⟨sa2, sl2, sc2, rfl⟩ := hs.sol.2.any
  clear z0 z1 z2 z3
  obtain ⟨z0, z1, z2, z3⟩ := two_cells (HF3.out.under hbz)
  have HLo := Lib.hid HF3.out.lt; have HS := Lib.hid hs; have HBz := Lib.hid (bb HB3.out hbz)
  clear hs hbz
  go_wp2
  obtain ⟨hA, hB⟩ := stored (q := w.heap.size) HBz.out HS.out (Nat.le_refl _) HLo.out
  refine bodyPost_ret (v := .tuple #[.agg #[.slice sa1 sl1 sc1, .slice sa2 sl2 sc2], .int .i64 0]) (by simp [results, Try.results27, go_sem, z0, z1]) rfl ⟨_, _, by simp [twCode, HOK.out, HC.out]; exact ⟨rfl, rfl⟩, by simpa [twRA, twRB, HOK.out, HC.out] using hA, hB⟩

theorem tw_total (p q : List Int) : total (twRA p q) ≤ 144 ∧ total (twRB p q) ≤ 144 := by
  unfold twRA twRB
  split
  · rename_i h
    have hl : p.length ≤ 12 := by simp [twOk, isPerm, inR] at h; omega
    have h1 := total_le _ (tab_rows (g := fun _ y => nth p y) hl)
    have h2 := total_le _ (tab_rows (g := fun x _ => nth q x) hl)
    rw [tabOf_length] at h1 h2
    unfold twA twB
    omega
  · simp [total]
end Go.Proofs.Ytkcobfkmeaakoaa

namespace Go.Proofs.Ytkcobfkmeaakoaa
open Go.RowKit

def ivF (A B : List (List Int)) (x y : Nat) : Bool := decide (val2 A (val2 A x y) (val2 B x y) = x) && decide (val2 B (val2 A x y) (val2 B x y) = y)
def involL (A B : List (List Int)) : Bool := all2 A.length (ivF A B)


set_option maxRecDepth 100000 in
set_option maxHeartbeats 800000 in
theorem c_isInvolutive (v0 u0 : Value) (A B : List (List Int)) (w : World) (hA : Sol w v0 u0 A B) (hp : isPM A B = true) :
    Calls Try.prog 105 #[.agg #[v0, u0]] w (RVal w (.bool (involL A B))) := by
  obtain ⟨n0, b0, o0, c0, rb0, ro0, rc0, b0s, o0s, c0s, rb0s, ro0s, rc0s, rfl, rfl, hl0, hl0s, hn0, hx0, hc0, hm0, hc0s, hm0s, t0, t0s⟩ := hA.tabs hp
  have HL0 := Lib.hid hl0; clear hl0
  have HL0s := Lib.hid hl0s; clear hl0s
  go_enter Try.func105, Try.ntmps105
  go_wp2
  obtain ⟨f0, hW0, hsz⟩ := boxes1 w [.slice (some ⟨b0, o0, none⟩) n0 c0, .slice (some ⟨b0s, o0s, none⟩) n0 c0s] 27
  obtain ⟨W0, hW⟩ : ∃ W, (w.alloc (.cells #[.slice (some ⟨b0, o0, none⟩) n0 c0, .slice (some ⟨b0s, o0s, none⟩) n0 c0s] 27)) = W := ⟨_, rfl⟩
  rw [hW] at f0 hW0 hsz ⊢
  have HSZ := Lib.hid hsz
  clear hW hsz
  obtain ⟨cA0, cB0, -, -⟩ := two_cells f0
  replace t0 := t0.below hW0; replace t0s := t0s.below hW0
  have HT := Lib.hid t0; have HTs := Lib.hid t0s; have HW := Lib.hid hW0; have HF := Lib.hid f0
  clear t0 t0s hA hp hW0 f0
  go_loop [11, 3, 4, 5, 6, 7] (fun i _ _ _ _ _ => ∃ k : Nat, k ≤ n0 ∧ i = .int .i64 k ∧ Hid (∀ x, x < k → ∀ y, y < n0 → ivF A B x y = true)) (fun i _ _ _ _ _ => n0 - (intOf i).toNat)
  case atStart => exact ⟨0, Nat.zero_le _, rfl, Lib.hid (by intro x hx; omega)⟩
  case round =>
    obtain ⟨k, hk, rfl, HA⟩ := hrel
    by_cases hlt : k < n0
    · have r1 := HT.out.row k hlt
      go_wp2
      go_loop [18, 5, 6, 7] (fun i _ _ _ => ∃ j : Nat, j ≤ n0 ∧ i = .int .i64 j ∧ Hid (∀ y, y < j → ivF A B k y = true)) (fun i _ _ _ => n0 - (intOf i).toNat)
      case atStart => exact ⟨0, Nat.zero_le _, rfl, Lib.hid (by intro x hx; omega)⟩
      case round =>
        obtain ⟨j, hj, rfl, HA2⟩ := hrel
        by_cases hlj : j < n0
        · have T := HT.out; have Ts := HTs.out
          have x1 := T.val k j hlt hlj; have r2 := Ts.row k hlt; have x2 := Ts.val k j hlt hlj
          obtain ⟨hu0, hu1⟩ := T.rng k j (by omega) (by omega) (by omega) (by omega)
          obtain ⟨hv0, hv1⟩ := Ts.rng k j (by omega) (by omega) (by omega) (by omega)
          have r3 := T.rowi (val2 A k j) hu0 hu1; have x3 := T.vali (val2 A k j) (val2 B k j) hu0 hu1 hv0 hv1
          have r4 := Ts.rowi (val2 A k j) hu0 hu1; have x4 := Ts.vali (val2 A k j) (val2 B k j) hu0 hu1 hv0 hv1
          clear T Ts
          by_cases h1 : val2 A (val2 A k j) (val2 B k j) = k
          · have e1 : (val2 A (val2 A k j) (val2 B k j) != (k : Int)) = false := by simp [h1]
            by_cases h2 : val2 B (val2 A k j) (val2 B k j) = j
            · have e2 : (val2 B (val2 A k j) (val2 B k j) != (j : Int)) = false := by simp [h2]
              have H1 := Lib.hid h1; have H2 := Lib.hid h2; clear h1 h2
              go_wp2
              go_round
              case rel => exact ⟨j + 1, by omega, by go_num, Lib.hid (lt_snoc HA2.out (by simp [ivF, H1.out, H2.out]))⟩
              case measure => simp [intOf]; omega
            · have e2 : (val2 B (val2 A k j) (val2 B k j) != (j : Int)) = true := by simp [h2]
              have H2 := Lib.hid h2; clear h1 h2
              go_wp2
              go_ret
              exact ⟨ret_bool (by simp [involL, HL0.out, all2_no hlt hlj (P := ivF A B) (by simp [ivF, H2.out])]), HW.out⟩
          · have e1 : (val2 A (val2 A k j) (val2 B k j) != (k : Int)) = true := by simp [h1]
            have H1 := Lib.hid h1; clear h1
            go_wp2
            go_ret
            exact ⟨ret_bool (by simp [involL, HL0.out, all2_no hlt hlj (P := ivF A B) (by simp [ivF, H1.out])]), HW.out⟩
        · obtain rfl : j = n0 := by omega
          go_wp2
          go_round
          case rel => exact ⟨k + 1, by omega, by go_num, Lib.hid (lt_snoc HA.out HA2.out)⟩
          case measure => simp [intOf]; omega
    · obtain rfl : k = n0 := by omega
      go_wp2
      go_ret
      exact ⟨ret_bool (by simp [involL, HL0.out, all2_iff.2 HA.out]), HW.out⟩

def pmCode' (A B : List (List Int)) : Int := if isPM A B then 0 else 1
def involRes (A B : List (List Int)) : Bool := if isPM A B then involL A B else false
set_option maxHeartbeats 800000 in
theorem c_IsInvolutive (v0 u0 : Value) (A B : List (List Int)) (w : World) (hA : Sol w v0 u0 A B) :
    Calls Try.prog 33 #[.agg #[v0, u0]] w (RVal w (.tuple #[.bool (involRes A B), .int .i64 (pmCode' A B)])) := by
  obtain ⟨a0, c0, rfl, _, _⟩ := hA.1.shape
  obtain ⟨a0s, c0s, rfl, _, _⟩ := hA.2.shape
  by_cases hp0 : isPM A B = true
  case neg =>
    have hq0 : isPM A B = false := by simpa using hp0
    have HQ := Lib.hid hq0; clear hp0
    go_enter Try.func33, Try.ntmps33
    go_wp2_with fail
    obtain ⟨f0, hW0, hsz⟩ := boxes1 w [.slice a0 A.length c0, .slice a0s B.length c0s] 27
    obtain ⟨W0, hW⟩ : ∃ W, (w.alloc (.cells #[.slice a0 A.length c0, .slice a0s B.length c0s] 27)) = W := ⟨_, rfl⟩
    rw [hW] at f0 hW0 hsz ⊢
    clear hW hsz
    refine (c_IsPairMap _ _ _ _ _ (hA.below hW0)).mono ?_; rintro e g0 ⟨rfl, hbg0⟩
    have hB0 := bb hW0 hbg0
    replace f0 := f0.under hbg0
    obtain ⟨cA0, cB0, -, -⟩ := two_cells f0
    clear hbg0
    have HB := Lib.hid hB0
    clear hB0 f0 hW0 hA
    go_wp2
    go_ret2
    exact ⟨by simp [involRes, pmCode', HQ.out], HB.out⟩
  have HP0 := Lib.hid hp0
  go_enter Try.func33, Try.ntmps33
  go_wp2_with fail
  obtain ⟨f0, hW0, hsz⟩ := boxes1 w [.slice a0 A.length c0, .slice a0s B.length c0s] 27
  obtain ⟨W0, hW⟩ : ∃ W, (w.alloc (.cells #[.slice a0 A.length c0, .slice a0s B.length c0s] 27)) = W := ⟨_, rfl⟩
  rw [hW] at f0 hW0 hsz ⊢
  clear hW hsz
  refine (c_IsPairMap _ _ _ _ _ (hA.below hW0)).mono ?_; rintro e g0 ⟨rfl, hbg0⟩
  have hB0 := bb hW0 hbg0
  replace f0 := f0.under hbg0
  obtain ⟨cA0, cB0, -, -⟩ := two_cells f0
  clear hbg0
  go_wp2_with fail
  refine (c_isInvolutive _ _ _ _ _ (hA.below hB0) HP0.out).mono ?_; rintro e wz ⟨rfl, hb⟩
  have HB := Lib.hid (bb hB0 hb)
  clear hb hB0 f0 hW0 hA
  go_wp2
  go_ret2
  exact ⟨by simp [involRes, pmCode', HP0.out], HB.out⟩
end Go.Proofs.Ytkcobfkmeaakoaa

namespace Go.Proofs.Ytkcobfkmeaakoaa
open Go.RowKit

def flN (n : Int) : List Int := iota n.toNat
def flA (n : Int) : List (List Int) := if inR n 1 12 then twA (flN n) else []
def flB (n : Int) : List (List Int) := if inR n 1 12 then twB (flN n) (flN n) else []
def flCode (n : Int) : Int := if inR n 1 12 then 0 else 2

set_option maxHeartbeats 400000 in
theorem c_l02Flip (n : Nat) (w : World) (hn : n ≤ 1048576) :
    Calls Try.prog 196 #[.int .i64 n] w (RSolR w (twA (iota n)) (twB (iota n) (iota n))) := by
  obtain ⟨f0, hW0, hsz⟩ := boxes1 w [.slice none 0 0, .slice none 0 0] 27
  have HF := Lib.hid f0; have HW := Lib.hid hW0; clear f0 hW0
  go_enter Try.func196, Try.ntmps196
  go_wp2_with fail
  refine (c_l01Unit n _ hn).mono ?_; rintro e w1 ⟨r1, rfl, ho1, hb1⟩
  have HO := Lib.hid ho1; have HB1 := Lib.hid hb1; clear ho1 hb1
  go_wp2_with fail
  refine (c_l02Twist _ _ (iota n) (iota n) _ HO.out.ints HO.out.ints rfl (by rw [iota_length]; exact hn)).mono ?_; rintro e w2 ⟨s1, s2, rfl, hs, hb2⟩
  obtain ⟨a1, c1, rfl, _⟩ := OwnRows.shape' hs.1
  obtain ⟨a2, c2, rfl, _⟩ := OwnRows.shape' hs.2
  obtain ⟨g0, g1, g2, g3⟩ := two_cells ((HF.out.under HB1.out).under hb2)
  have HS := Lib.hid hs; have HB2 := Lib.hid hb2; have HZ := Lib.hid hsz; clear hs hb2 hsz
  go_wp2
  have hz := HZ.out
  have hs1 : (w.alloc (.cells #[.slice none 0 0, .slice none 0 0] 27)).heap.size ≤ w1.heap.size := HB1.out.size
  refine bodyPost_ret (v := .agg #[.slice a1 (twA (iota n)).length c1, .slice a2 (twB (iota n) (iota n)).length c2]) (by simp [results, Try.results196, go_sem, g0, g1]) rfl ⟨_, _, rfl, ⟨?_, ?_⟩, ((bb (bb HW.out HB1.out) HB2.out).setCell (p := ⟨w.heap.size, 0, none⟩) (Nat.le_refl _) _).setCell (p := ⟨w.heap.size, 1, none⟩) (Nat.le_refl _) _⟩
  · exact ((HS.out.1.keep (keep1 _ w.heap.size 0 _) (fun b h1 h2 h3 => by have h3 : b = w.heap.size := h3; omega)).keep (keep1 _ w.heap.size 1 _) (fun b h1 h2 h3 => by have h3 : b = w.heap.size := h3; omega)).mono (by omega)
  · exact ((HS.out.2.keep (keep1 _ w.heap.size 0 _) (fun b h1 h2 h3 => by have h3 : b = w.heap.size := h3; omega)).keep (keep1 _ w.heap.size 1 _) (fun b h1 h2 h3 => by have h3 : b = w.heap.size := h3; omega)).mono (by omega)

set_option maxHeartbeats 400000 in
theorem c_FlipSolution (n : Int) (w : World) (hlo : -9223372036854775808 ≤ n) (hhi : n ≤ 9223372036854775807) :
    Calls Try.prog 36 #[.int .i64 n] w (RSolC w (flA n) (flB n) (flCode n)) := by
  obtain ⟨f0, hW0, hsz⟩ := boxes1 w [.slice none 0 0, .slice none 0 0] 27
  have HF := Lib.hid f0; have HW := Lib.hid hW0; have HZ := Lib.hid hsz; clear f0 hW0 hsz
  by_cases h : inR n 1 12 = true
  · have HN := Lib.hid h
    obtain ⟨m, rfl⟩ : ∃ m : Nat, n = m := ⟨n.toNat, by simp [inR] at h; omega⟩
    have hm : m ≤ 1048576 := by simp [inR] at h; omega
    go_enter Try.func36, Try.ntmps36
    go_wp2_with fail
    refine (c_within _ _ _ _).mono ?_; rintro e w' ⟨rfl, rfl⟩
    clear h
    have h := HN.out
    go_wp2_with fail
    refine (c_identity m _ hm).mono ?_; rintro e w1 ⟨r1, rfl, ho1, hb1⟩
    have HO1 := Lib.hid ho1; have HB1 := Lib.hid hb1; clear ho1 hb1
    go_wp2_with fail
    refine (c_identity m _ hm).mono ?_; rintro e w2 ⟨r2, rfl, ho2, hb2⟩
    have HO2 := Lib.hid ho2; have HB2 := Lib.hid hb2; clear ho2 hb2
    go_wp2_with fail
    refine (c_twist _ _ (iota m) (iota m) _ (HO1.out.ints.below HB2.out) HO2.out.ints rfl (by rw [iota_length]; exact hm)).mono ?_; rintro e w3 ⟨s1, s2, rfl, hs, hb3⟩
    obtain ⟨a1, c1, rfl, _, _⟩ := hs.sol.1.shape
    obtain ⟨a2, c2, rfl, _, _⟩ := hs.sol.2.shape
    obtain ⟨g0, g1, g2, g3⟩ := two_cells (((HF.out.under HB1.out).under HB2.out).under hb3)
    have HS := Lib.hid hs; have HB3 := Lib.hid hb3; clear hs hb3
    go_wp2
    have hz := HZ.out
    have hs1 := HB1.out.size
    have hs2 := HB2.out.size
    obtain ⟨hA, hB⟩ := stored (q := w.heap.size) (bb (bb (bb HW.out HB1.out) HB2.out) HB3.out) HS.out (Nat.le_refl _) (by omega)
    refine bodyPost_ret (v := .tuple #[.agg #[.slice a1 (twA (iota m)).length c1, .slice a2 (twB (iota m) (iota m)).length c2], .int .i64 0]) (by simp [results, Try.results36, go_sem, g0, g1]) rfl ⟨.slice a1 (twA (iota m)).length c1, .slice a2 (twB (iota m) (iota m)).length c2, by simp [flCode, HN.out], ?_, hB⟩
    have e1 : flA m = twA (iota m) := by simp [flA, flN, HN.out]
    have e2 : flB m = twB (iota m) (iota m) := by simp [flB, flN, HN.out]
    rw [e1, e2]
    exact hA
  · have h' : inR n 1 12 = false := by simpa using h
    have HN := Lib.hid h'
    clear h
    go_enter Try.func36, Try.ntmps36
    go_wp2_with fail
    refine (c_within _ _ _ _).mono ?_; rintro e w' ⟨rfl, rfl⟩
    clear h'
    have h' := HN.out
    obtain ⟨g0, g1, g2, g3⟩ := two_cells HF.out
    go_wp2
    refine bodyPost_ret (v := .tuple #[.agg #[.slice none 0 0, .slice none 0 0], .int .i64 2]) (by simp [results, Try.results36, go_sem, g0, g1]) rfl ⟨.slice none 0 0, .slice none 0 0, by simp [flCode, HN.out], ?_, ?_⟩
    · rw [show flA n = [] from by simp [flA, HN.out], show flB n = [] from by simp [flB, HN.out]]
      exact OwnSol.nil0 (by simp [World.setCell])
    · first | exact HW.out | exact (HW.out.setCell (p := ⟨w.heap.size, 0, none⟩) (Nat.le_refl _) _).setCell (p := ⟨w.heap.size, 1, none⟩) (Nat.le_refl _) _

theorem fl_total (n : Int) : total (flA n) ≤ 144 ∧ total (flB n) ≤ 144 := by
  unfold flA flB
  split
  · rename_i h
    have hl : (flN n).length ≤ 12 := by simp [inR] at h; simp [flN]; omega
    have h1 := total_le _ (tab_rows (g := fun _ y => nth (flN n) y) hl)
    have h2 := total_le _ (tab_rows (g := fun x _ => nth (flN n) x) hl)
    rw [tabOf_length] at h1 h2
    unfold twA twB
    omega
  · simp [total]

end Go.Proofs.Ytkcobfkmeaakoaa

namespace Go.Proofs.Ytkcobfkmeaakoaa
open Go.RowKit

def pmCodeN (A B : List (List Int)) : Int := if isPM A B then 0 else 1
def ndRes (A B : List (List Int)) : Bool := if isPM A B then nondegL A B else false
set_option maxHeartbeats 800000 in
theorem c_IsNondegenerate (v0 u0 : Value) (A B : List (List Int)) (w : World) (hA : Sol w v0 u0 A B) :
    Calls Try.prog 34 #[.agg #[v0, u0]] w (RVal w (.tuple #[.bool (ndRes A B), .int .i64 (pmCodeN A B)])) := by
  obtain ⟨a0, c0, rfl, _, _⟩ := hA.1.shape
  obtain ⟨a0s, c0s, rfl, _, _⟩ := hA.2.shape
  by_cases hp0 : isPM A B = true
  case neg =>
    have hq0 : isPM A B = false := by simpa using hp0
    have HQ := Lib.hid hq0; clear hp0
    go_enter Try.func34, Try.ntmps34
    go_wp2_with fail
    obtain ⟨f0, hW0, hsz⟩ := boxes1 w [.slice a0 A.length c0, .slice a0s B.length c0s] 27
    obtain ⟨W0, hW⟩ : ∃ W, (w.alloc (.cells #[.slice a0 A.length c0, .slice a0s B.length c0s] 27)) = W := ⟨_, rfl⟩
    rw [hW] at f0 hW0 hsz ⊢
    clear hW hsz
    refine (c_IsPairMap _ _ _ _ _ (hA.below hW0)).mono ?_; rintro e g0 ⟨rfl, hbg0⟩
    have hB0 := bb hW0 hbg0
    replace f0 := f0.under hbg0
    obtain ⟨cA0, cB0, -, -⟩ := two_cells f0
    clear hbg0
    have HB := Lib.hid hB0
    clear hB0 f0 hW0 hA
    go_wp2
    go_ret2
    exact ⟨by simp [ndRes, pmCodeN, HQ.out], HB.out⟩
  have HP0 := Lib.hid hp0
  go_enter Try.func34, Try.ntmps34
  go_wp2_with fail
  obtain ⟨f0, hW0, hsz⟩ := boxes1 w [.slice a0 A.length c0, .slice a0s B.length c0s] 27
  obtain ⟨W0, hW⟩ : ∃ W, (w.alloc (.cells #[.slice a0 A.length c0, .slice a0s B.length c0s] 27)) = W := ⟨_, rfl⟩
  rw [hW] at f0 hW0 hsz ⊢
  clear hW hsz
  refine (c_IsPairMap _ _ _ _ _ (hA.below hW0)).mono ?_; rintro e g0 ⟨rfl, hbg0⟩
  have hB0 := bb hW0 hbg0
  replace f0 := f0.under hbg0
  obtain ⟨cA0, cB0, -, -⟩ := two_cells f0
  clear hbg0
  go_wp2_with fail
  refine (c_isNondegenerate _ _ _ _ _ (hA.below hB0) HP0.out).mono ?_; rintro e wz ⟨rfl, hb⟩
  have HB := Lib.hid (bb hB0 hb)
  clear hb hB0 f0 hW0 hA
  go_wp2
  go_ret2
  exact ⟨by simp [ndRes, pmCodeN, HP0.out], HB.out⟩
end Go.Proofs.Ytkcobfkmeaakoaa

namespace Go.Proofs.Ytkcobfkmeaakoaa
open Go.RowKit

theorem val2_tabOf' {n : Nat} {g : Int → Int → Int} {x y : Int} (hx0 : 0 ≤ x) (hx : x < n) (hy0 : 0 ≤ y) (hy : y < n) : val2 (tabOf n g) x y = g x y := by
  show nth (row (tabOf n g) x) y = _
  rw [row_tabOfi _ _ _ hx0 hx, nth_rowOfi _ _ _ hy0 hy]
theorem perm_lt {p : List Int} (h : Permuted p) {x : Int} (h0 : 0 ≤ x) (h1 : x < p.length) : 0 ≤ nth p x ∧ nth p x < p.length := h.2 _ (nth_mem h0 h1)
theorem perm_inj {p : List Int} (h : Permuted p) {x y : Int} (h0 : 0 ≤ x) (h1 : x < p.length) (g0 : 0 ≤ y) (g1 : y < p.length) (e : nth p x = nth p y) : x = y := by
  rw [← nth_invL h h0 h1, e, nth_invL h g0 g1]
theorem isPerm_parts {p : List Int} (h : isPerm p = true) : 1 ≤ p.length ∧ p.length ≤ 12 ∧ Permuted p := by
  simp only [isPerm, Bool.and_eq_true, inR, decide_eq_true_eq] at h
  exact ⟨by omega, by omega, h.2⟩

section
variable {p q : List Int} (hp : Permuted p) (hq : Permuted q) (hl : q.length = p.length) (h1 : 1 ≤ p.length) (h12 : p.length ≤ 12)
include hp hq hl h1 h12
omit hp hq hl h1 h12 in
theorem tw_A0 {x y : Int} (hx0 : 0 ≤ x) (hx : x < p.length) (hy0 : 0 ≤ y) (hy : y < p.length) : val2 (twA p) x y = nth p y := val2_tabOf' hx0 hx hy0 hy
omit hp hq hl h1 h12 in
theorem tw_B0 {x y : Int} (hx0 : 0 ≤ x) (hx : x < p.length) (hy0 : 0 ≤ y) (hy : y < p.length) : val2 (twB p q) x y = nth q x := val2_tabOf' hx0 hx hy0 hy
theorem tw_pm : isPM (twA p) (twB p q) = true := by
  have ha : isTab (twA p) = true := isTab_tabOf h1 h12 fun x y hx hy => perm_lt hp (by omega) (by omega)
  have hb : isTab (twB p q) = true := isTab_tabOf h1 h12 fun x y hx hy => by have := perm_lt hq (x := x) (by omega) (by omega); omega
  have hab : (twA p).length = (twB p q).length := by simp [twA, twB]
  simp [isPM, ha, hb, hab]
theorem tw_coll : collL (twA p) (twB p q) = [] := by
  have hla : (twA p).length = p.length := by simp [twA]
  unfold collL
  refine quad_none (find2_none fun a ha b hb => ?_)
  rw [hla] at ha hb ⊢
  unfold colP
  have a1 := div_lt_sq ha; have a2 := Nat.mod_lt a (show 0 < p.length by omega)
  have b1 := div_lt_sq hb; have b2 := Nat.mod_lt b (show 0 < p.length by omega)
  have g1 := Nat.div_add_mod a p.length
  have g2 := Nat.div_add_mod b p.length
  generalize a / p.length = x1 at a1 g1 ⊢
  generalize a % p.length = y1 at a2 g1 ⊢
  generalize b / p.length = x2 at b1 g2 ⊢
  generalize b % p.length = y2 at b2 g2 ⊢
  rw [tw_A0 (by omega) (by omega) (by omega) (by omega), tw_A0 (by omega) (by omega) (by omega) (by omega), tw_B0 (by omega) (by omega) (by omega) (by omega), tw_B0 (by omega) (by omega) (by omega) (by omega)]
  by_cases e1 : nth p (y1 : Int) = nth p (y2 : Int)
  · by_cases e2 : nth q (x1 : Int) = nth q (x2 : Int)
    · have f1 := perm_inj hp (by omega) (by omega) (by omega) (by omega) e1
      have f2 := perm_inj hq (by omega) (by omega) (by omega) (by omega) e2
      have : a = b := by
        rw [← g1, ← g2, show x1 = x2 by omega, show y1 = y2 by omega]
      simp [this]
    · simp [e2]
  · simp [e1]
theorem tw_nd : nondegL (twA p) (twB p q) = true := by
  have e : ∀ {n : Nat} {g : Int → Int → Int} {r : List Int}, isPerm r = true → (∀ x : Nat, x < n → rowOf n (g x) = r) → permRows (tabOf n g) = true := by
    intro n g r hr hg
    unfold permRows tabOf
    rw [List.all_eq_true]
    intro s hs
    rw [List.mem_map] at hs
    obtain ⟨x, hx, rfl⟩ := hs
    have e := hg x (by simpa using hx)
    show isPerm (rowOf n (g x)) = true
    rw [e]; exact hr
  have ip : isPerm p = true := by simp [isPerm, inR, hp]; omega
  have iq : isPerm q = true := by simp [isPerm, inR, hq]; omega
  unfold nondegL
  rw [Bool.and_eq_true]
  refine ⟨e ip fun x hx => rowOf_self p, ?_⟩
  have hlb : (twB p q).length = p.length := by simp [twB]
  unfold transL
  rw [hlb]
  refine e iq fun x hx => ?_
  have : rowOf p.length (fun y => val2 (twB p q) y x) = rowOf p.length (nth q) := rowOf_congr fun y hy => tw_B0 (by omega) (by omega) (by omega) (by omega)
  rw [this, ← hl, rowOf_self]
theorem tw_inv : involL (twA p) (twB p q) = decide (invL p = q) := by
  have hla : (twA p).length = p.length := by simp [twA]
  have key : ∀ x y : Nat, x < p.length → y < p.length → ivF (twA p) (twB p q) x y = (decide (nth p (nth q x) = x) && decide (nth q (nth p y) = y)) := by
    intro x y hx hy
    have a := perm_lt hp (x := y) (by omega) (by omega)
    have b := perm_lt hq (x := x) (by omega) (by omega)
    unfold ivF
    rw [tw_A0 (x := x) (y := y) (by omega) (by omega) (by omega) (by omega), tw_B0 (x := x) (y := y) (by omega) (by omega) (by omega) (by omega),
      tw_A0 (by omega) (by omega) (by omega) (by omega), tw_B0 (by omega) (by omega) (by omega) (by omega)]
  rw [Bool.eq_iff_iff]
  unfold involL
  rw [all2_iff, hla, decide_eq_true_eq]
  constructor
  · intro h
    apply ext_nth (by simp; omega)
    intro k hk
    simp at hk
    obtain ⟨x, x0, x1, ex⟩ := ex_pre hp (y := (k : Int)) (by omega) (by omega)
    have := h 0 (by omega) x.toNat (by omega)
    rw [key _ _ (by omega) (by omega)] at this
    simp only [Bool.and_eq_true, decide_eq_true_eq] at this
    have e := this.2
    rw [show ((x.toNat : Nat) : Int) = x by omega, ex] at e
    rw [e, ← ex, nth_invL hp x0 x1]
  · intro h x hx y hy
    rw [key x y hx hy, ← h]
    have e2 := nth_invL hp (x := (y : Int)) (by omega) (by omega)
    obtain ⟨z, z0, z1, ez⟩ := ex_pre hp (y := (x : Int)) (by omega) (by omega)
    have e1 : nth p (nth (invL p) x) = x := by rw [← ez, nth_invL hp z0 z1]
    simp [e1, e2]
theorem tw_sol (hc : thenL p q = thenL q p) : isSol (twA p) (twB p q) = true := by
  have hla : (twA p).length = p.length := by simp [twA]
  have hcom : ∀ y : Int, 0 ≤ y → y < p.length → nth q (nth p y) = nth p (nth q y) := by
    intro y y0 y1
    have e : nth (thenL p q) y = nth (thenL q p) y := by rw [hc]
    rw [nth_thenL _ _ _ y0 y1, nth_thenL _ _ _ y0 (by omega)] at e
    exact e
  have hyF : yF (twA p) (twB p q) = [] := by
    unfold yF
    have : find3 (twA p).length (yP (twA p) (twB p q)) = none := find3_none fun x hx y hy z hz => by
      rw [hla] at hx hy hz
      have px := perm_lt hp (x := x) (by omega) (by omega)
      have py := perm_lt hp (x := y) (by omega) (by omega)
      have pz := perm_lt hp (x := z) (by omega) (by omega)
      have qx := perm_lt hq (x := x) (by omega) (by omega)
      have qy := perm_lt hq (x := y) (by omega) (by omega)
      have tA := fun (x y : Int) (a : 0 ≤ x) (b : x < p.length) (c : 0 ≤ y) (d : y < p.length) => tw_A0 (p := p) (x := x) (y := y) a b c d
      have tB := fun (x y : Int) (a : 0 ≤ x) (b : x < p.length) (c : 0 ≤ y) (d : y < p.length) => tw_B0 (p := p) (q := q) (x := x) (y := y) a b c d
      unfold yP yL yR
      rw [tA x y (by omega) (by omega) (by omega) (by omega), tB x y (by omega) (by omega) (by omega) (by omega), tA y z (by omega) (by omega) (by omega) (by omega), tB y z (by omega) (by omega) (by omega) (by omega),
        tA (nth q x) z (by omega) (by omega) (by omega) (by omega), tB (nth q x) z (by omega) (by omega) (by omega) (by omega), tA x (nth p z) (by omega) (by omega) (by omega) (by omega), tB x (nth p z) (by omega) (by omega) (by omega) (by omega),
        tA (nth p y) (nth p z) (by omega) (by omega) (by omega) (by omega), tB (nth p y) (nth p z) (by omega) (by omega) (by omega) (by omega), tA (nth q x) (nth q y) (by omega) (by omega) (by omega) (by omega), tB (nth q x) (nth q y) (by omega) (by omega) (by omega) (by omega), hcom y (by omega) (by omega)]
      simp
    rw [this]; rfl
  simp [isSol, tw_pm hp hq hl h1 h12, tw_coll hp hq hl h1 h12, hyF]
end
theorem then_back {p : List Int} (hp : Permuted p) : thenL p (invL p) = iota p.length := by
  apply ext_nth (by simp)
  intro k hk
  simp at hk
  rw [nth_thenL _ _ _ (by omega) (by omega), nth_invL hp (by omega) (by omega)]
  rw [nth_nat _ _ (by simpa using hk)]
  simp [iota]
end Go.Proofs.Ytkcobfkmeaakoaa

namespace Go.Proofs.Ytkcobfkmeaakoaa

/-- The least number of steps that lead x back. -/
def MinPer (p : List Int) (x : Int) (c : Nat) : Prop := 1 ≤ c ∧ iter (nth p) c x = x ∧ ∀ r, 1 ≤ r → r < c → iter (nth p) r x ≠ x
theorem minPer_ex {p : List Int} (hp : Permuted p) {x : Int} (h0 : 0 ≤ x) (h1 : x < p.length) : ∃ c, MinPer p x c ∧ c ≤ p.length := by
  obtain ⟨r, r1, r2, r3⟩ := comes_back hp h0 h1
  have key : ∀ d, d ≤ p.length + 1 → (∃ c, MinPer p x c ∧ c ≤ p.length) ∨ (∀ j, 1 ≤ j → j < d → iter (nth p) j x ≠ x) := by
    intro d
    induction d with
    | zero => exact fun _ => .inr fun j h1 h2 => by omega
    | succ d ih =>
      intro hd1
      rcases ih (by omega) with h | h
      · exact .inl h
      · by_cases hd : 1 ≤ d ∧ iter (nth p) d x = x
        · exact .inl ⟨d, ⟨hd.1, hd.2, h⟩, by omega⟩
        · refine .inr fun j h1 h2 => ?_
          by_cases e : j = d
          · subst e; exact fun e2 => hd ⟨h1, e2⟩
          · exact h j h1 (by omega)
  rcases key (p.length + 1) (Nat.le_refl _) with h | h
  · exact h
  · exact absurd r3 (h r r1 (by omega))
theorem MinPer.uniq {p : List Int} {x : Int} {a b : Nat} (ha : MinPer p x a) (hb : MinPer p x b) : a = b := by
  rcases Nat.lt_trichotomy a b with h | h | h
  · exact absurd ha.2.1 (hb.2.2 a ha.1 h)
  · exact h
  · exact absurd hb.2.1 (ha.2.2 b hb.1 h)
theorem iter_comm (f : Int → Int) (a b : Nat) (x : Int) : iter f a (iter f b x) = iter f b (iter f a x) := by rw [← iter_add, ← iter_add, Nat.add_comm]
theorem MinPer.step {p : List Int} (hp : Permuted p) {x : Int} (h0 : 0 ≤ x) (h1 : x < p.length) {c : Nat} (h : MinPer p x c) (k : Nat) : MinPer p (iter (nth p) k x) c := by
  refine ⟨h.1, by rw [iter_comm, h.2.1], fun r r1 r2 e => ?_⟩
  rw [iter_comm] at e
  exact h.2.2 r r1 r2 (iter_inj hp (iter_lt hp h0 h1 r).1 (iter_lt hp h0 h1 r).2 h0 h1 k e)
theorem MinPer.nodup {p : List Int} (hp : Permuted p) {x : Int} (h0 : 0 ≤ x) (h1 : x < p.length) {c : Nat} (h : MinPer p x c) : ((List.range c).map fun k => iter (nth p) k x).Nodup := by
  rw [List.Nodup, List.pairwise_map, List.pairwise_iff_getElem]
  intro i j hi hj hij e
  simp only [List.getElem_range] at e
  simp at hj
  refine h.2.2 (j - i) (by omega) (by omega) ?_
  have e2 : iter (nth p) i (iter (nth p) (j - i) x) = iter (nth p) i x := by rw [← iter_add, show i + (j - i) = j from by omega, e]
  exact iter_inj hp (iter_lt hp h0 h1 _).1 (iter_lt hp h0 h1 _).2 h0 h1 i e2

/-- Sums and least common multiples of the numbers of D from 1 to k. -/
def sumD (D : Nat → Bool) : Nat → Nat
  | 0 => 0
  | k + 1 => sumD D k + if D (k + 1) then k + 1 else 0
def lcmD (D : Nat → Bool) : Nat → Nat → Nat
  | 0, l => l
  | k + 1, l => lcmD D k (if D (k + 1) then Nat.lcm l (k + 1) else l)
def chkD : Nat → Nat → Nat → Bool
  | 0, _, l => decide (l ≤ 60)
  | k + 1, b, l => chkD k b l && (if k + 1 ≤ b then chkD k (b - (k + 1)) (Nat.lcm l (k + 1)) else true)
theorem chkD_ok (D : Nat → Bool) : ∀ (k b l : Nat), chkD k b l = true → sumD D k ≤ b → lcmD D k l ≤ 60
  | 0, b, l, h, _ => by simpa [chkD, lcmD] using h
  | k + 1, b, l, h, hs => by
    simp only [chkD, Bool.and_eq_true] at h
    unfold lcmD
    unfold sumD at hs
    by_cases hd : D (k + 1) = true
    · rw [if_pos hd] at hs ⊢
      have h2 := h.2
      rw [if_pos (show k + 1 ≤ b by omega)] at h2
      exact chkD_ok D k _ _ h2 (by omega)
    · rw [if_neg hd] at hs ⊢
      exact chkD_ok D k b l h.1 (by omega)
theorem chk12 : chkD 12 12 1 = true := by decide +kernel
theorem lcmD_dvd (D : Nat → Bool) : ∀ (k l : Nat), l ∣ lcmD D k l
  | 0, l => Nat.dvd_refl _
  | k + 1, l => by
    unfold lcmD
    refine Nat.dvd_trans ?_ (lcmD_dvd D k _)
    split
    · exact Nat.dvd_lcm_left _ _
    · exact Nat.dvd_refl _
theorem lcmD_mem (D : Nat → Bool) : ∀ (k l d : Nat), 1 ≤ d → d ≤ k → D d = true → d ∣ lcmD D k l
  | 0, l, d, h1, h2, _ => by omega
  | k + 1, l, d, h1, h2, hd => by
    unfold lcmD
    by_cases e : d = k + 1
    · subst e
      rw [if_pos hd]
      exact Nat.dvd_trans (Nat.dvd_lcm_right _ _) (lcmD_dvd D k _)
    · exact lcmD_mem D k _ d h1 (by omega) hd
theorem lcmD_pos (D : Nat → Bool) : ∀ (k l : Nat), 0 < l → 0 < lcmD D k l
  | 0, l, h => h
  | k + 1, l, h => by
    unfold lcmD
    refine lcmD_pos D k _ ?_
    split
    · exact Nat.lcm_pos h (by omega)
    · exact h

open Classical in
theorem ord_le {p : List Int} (hp : Permuted p) (hn : p.length ≤ 12) : ∃ L, 1 ≤ L ∧ L ≤ 60 ∧ pw p (L - 1) = iota p.length := by
  let D : Nat → Bool := fun d => decide (∃ x : Int, 0 ≤ x ∧ x < p.length ∧ MinPer p x d)
  have hD : ∀ d, D d = true → ∃ x : Int, 0 ≤ x ∧ x < p.length ∧ MinPer p x d := fun d h => by simpa [D] using h
  have hx : ∀ d, ∃ x : Int, D d = true → 0 ≤ x ∧ x < p.length ∧ MinPer p x d := fun d => by
    by_cases h : D d = true
    · obtain ⟨x, hx⟩ := hD d h; exact ⟨x, fun _ => hx⟩
    · exact ⟨0, fun h2 => absurd h2 h⟩
  let X : Nat → Int := fun d => Classical.choose (hx d)
  have hX : ∀ d, D d = true → 0 ≤ X d ∧ X d < p.length ∧ MinPer p (X d) d := fun d => Classical.choose_spec (hx d)
  -- the orbits, one for each length
  have key : ∀ k, ∃ U : List Int, U.length = sumD D k ∧ U.Nodup ∧ (∀ y ∈ U, 0 ≤ y ∧ y < p.length ∧ ∃ d, d ≤ k ∧ MinPer p y d) := by
    intro k
    induction k with
    | zero => exact ⟨[], rfl, List.nodup_nil, by simp⟩
    | succ k ih =>
      obtain ⟨U, h1, h2, h3⟩ := ih
      by_cases hd : D (k + 1) = true
      · obtain ⟨x0, x1, hm⟩ := hX (k + 1) hd
        refine ⟨U ++ (List.range (k + 1)).map fun j => iter (nth p) j (X (k + 1)), ?_, ?_, ?_⟩
        · unfold sumD; rw [if_pos hd, List.length_append, h1]; simp
        · rw [List.nodup_append]
          refine ⟨h2, hm.nodup hp x0 x1, fun a ha b hb e => ?_⟩
          rw [List.mem_map] at hb
          obtain ⟨j, _, rfl⟩ := hb
          obtain ⟨_, _, d, hdk, hmd⟩ := h3 a ha
          rw [e] at hmd
          have := hmd.uniq (hm.step hp x0 x1 j)
          omega
        · intro y hy
          rcases List.mem_append.1 hy with hy | hy
          · obtain ⟨a, b, d, c, e⟩ := h3 y hy; exact ⟨a, b, d, by omega, e⟩
          · rw [List.mem_map] at hy
            obtain ⟨j, _, rfl⟩ := hy
            have := iter_lt hp x0 x1 j
            exact ⟨this.1, this.2, k + 1, Nat.le_refl _, hm.step hp x0 x1 j⟩
      · refine ⟨U, ?_, h2, fun y hy => ?_⟩
        · unfold sumD; rw [if_neg hd, h1]; rfl
        · obtain ⟨a, b, d, c, e⟩ := h3 y hy; exact ⟨a, b, d, by omega, e⟩
  obtain ⟨U, u1, u2, u3⟩ := key 12
  have hsum : sumD D 12 ≤ 12 := by
    have hsub : U ⊆ iota p.length := fun y hy => (mem_iota _ _).2 ⟨(u3 y hy).1, (u3 y hy).2.1⟩
    have := List.Nodup.length_le_of_subset u2 hsub
    rw [iota_length] at this; omega
  have hL := chkD_ok D 12 12 1 chk12 hsum
  have hpos := lcmD_pos D 12 1 (by omega)
  refine ⟨lcmD D 12 1, hpos, hL, ?_⟩
  apply ext_nth (by simp)
  intro k hk
  have hk' : k < p.length := by simpa using hk
  rw [nth_pw p k (by omega) (by omega), nth_iota _ _ (by omega) (by omega)]
  obtain ⟨c, hc, hcl⟩ := minPer_ex hp (x := (k : Int)) (by omega) (by omega)
  have hDc : D c = true := by
    have : ∃ x : Int, 0 ≤ x ∧ x < p.length ∧ MinPer p x c := ⟨k, by omega, by omega, hc⟩
    simpa [D] using this
  obtain ⟨m, hm⟩ := lcmD_mem D 12 1 c hc.1 (by omega) hDc
  rw [show lcmD D 12 1 - 1 + 1 = c * m by omega]
  exact iter_mul _ _ _ hc.2.1 m

theorem sum_perm {l m : List Int} (h : l.Perm m) : l.sum = m.sum := by
  induction h with
  | nil => rfl
  | cons x _ ih => simp [ih]
  | swap x y l => simp; omega
  | trans _ _ ih1 ih2 => exact ih1.trans ih2
theorem sum_set : ∀ (l : List Int) (i : Nat) (v : Int) (h : i < l.length), (l.set i v).sum = l.sum - l[i] + v
  | a :: l, 0, v, h => by simp; omega
  | a :: l, i + 1, v, h => by
    have := sum_set l i v (by simpa using h)
    simp only [List.set_cons_succ, List.sum_cons, this, List.getElem_cons_succ]; omega
  | [], i, v, h => by simp at h
theorem cnt_sum {X : List Int} {n : Nat} (hX : ∀ x ∈ X, 0 ≤ x ∧ x < n) : ∀ k, k ≤ X.length → (cnt X n k).sum = k
  | 0, _ => by rw [cnt_zero]; simp
  | k + 1, h => by
    have hx := hX _ (nth_mem (p := X) (x := k) (by omega) (by omega))
    rw [← cnt_step (by omega) hx.1 hx.2, sum_set _ _ _ (by simp; omega), cnt_sum hX k (by omega)]
    have := nth_nat (cnt X n k) (nth X k).toNat (by simp; omega)
    rw [show (((nth X k).toNat : Nat) : Int) = nth X k by omega] at this
    rw [this]; omega
theorem cyL_sum {p : List Int} (hs : SysOk p.length [p]) : (cyL p).sum = p.length := by
  have h1 := sum_perm (csort_perm (cyM_range p))
  rw [csort_cyc, List.sum_append] at h1
  have h2 : (List.replicate ((cyM p).count 0) (0 : Int)).sum = 0 := by simp
  have h3 : (cyM p).sum = p.length := cnt_sum (fun x hx => orbL_mem hs hx) p.length (by rw [orbL_len]; exact Nat.le_refl _)
  unfold cyL; omega
theorem inv_then {p q : List Int} (hp : Permuted p) (hq : Permuted q) (hl : q.length = p.length) (hpq : Permuted (thenL p q)) : invL (thenL p q) = thenL (invL q) (invL p) := by
  apply ext_nth (by simp; omega)
  intro k hk
  simp at hk
  obtain ⟨x, x0, x1, e⟩ := ex_pre hpq (y := (k : Int)) (by omega) (by simpa using hk)
  simp at x1
  have hx := perm_lt hp x0 x1
  rw [nth_thenL _ _ _ (by omega) (by simp; omega), ← e, nth_invL hpq x0 (by simpa using x1), nth_thenL _ _ _ x0 x1, nth_invL hq hx.1 (by omega), nth_invL hp x0 x1]
theorem then_perm {p q : List Int} (hp : Permuted p) (hq : Permuted q) (hl : q.length = p.length) : Permuted (thenL p q) := by
  rw [permuted_iff]
  intro x x0 x1
  rw [thenL_length] at x1
  obtain ⟨y, y0, y1, e⟩ := ex_pre hq (y := x) x0 (by omega)
  obtain ⟨z, z0, z1, e2⟩ := ex_pre hp (y := y) y0 (by omega)
  rw [← e, ← e2, ← nth_thenL p q z z0 z1]
  exact nth_mem z0 (by simpa using z1)
end Go.Proofs.Ytkcobfkmeaakoaa

namespace Go.Proofs.Ytkcobfkmeaakoaa
open Go Go.RowKit Go.ChangeShapes Go.WideShapes Go.ChangeAt

section
variable {H : Type} {enc : TypeId × Value → H} {w : World} {base : Nat} {spare : Nat → Bool} {held : Bool}
theorem cells_u8 : Try.prog.cellsOf 5 = 1 := by kernel_rfl
theorem bytes_of_trod {fuel : Nat} {u : Value} {x : DataW H × List MemPlace} (h : DataW.trod enc Try.prog w base spare held fuel 39 [u] = some x) : ∃ bs, Bytes w u bs := by
  rcases open_ints Try.underlying39 Try.underlying5 cells_u8 h with ⟨hcs, _⟩ | ⟨a, len, cap, zs, hcs, _, hl, hm, hz, _, hcell, hwf⟩
  · simp at hcs; subst hcs
    exact ⟨[], none, 0, rfl, Nat.le_refl _, by decide, fun i hi => absurd hi (by simp)⟩
  · simp at hcs; subst hcs
    have hge : len ≤ zs.length := by rw [hz]; split <;> omega
    have hlen : (zs.take len).length = len := by simp; omega
    refine ⟨zs.take len, some a, cap, by rw [hlen], by rw [hlen]; exact hl, hm, fun i hi => ?_⟩
    have hi' : i < zs.length := by omega
    obtain ⟨b, off, rfl, hc⟩ := ints_at hcell (by omega)
    have hr := hwf (zs.getD i 0) (by simp [List.getD, hi'])
    have hci := hc i hi'
    generalize zs.getD i 0 = z at hr hci
    simp [Lit.wf, IntKind.min, IntKind.max, IntKind.signed, IntKind.bits] at hr
    exact ⟨b, off, z, rfl, hci, by omega, by omega⟩
end

structure TwF (w W : World) (v1 v2 : Value) (p q : List Int) (sb : Nat) (r1 r2 : Value) (A B : List (List Int)) : Prop where
  hp : Ints W v1 p
  hq : Ints W v2 q
  hs : Blk W sb 27 [r1, r2]
  hsol : Sol W r1 r2 A B
  hb : Below w.heap.size w W
theorem TwF.under {w W W' : World} {v1 v2 : Value} {p q : List Int} {sb : Nat} {r1 r2 : Value} {A B : List (List Int)} (h : TwF w W v1 v2 p q sb r1 r2 A B) (k : Below W.heap.size W W') : TwF w W' v1 v2 p q sb r1 r2 A B :=
  ⟨h.hp.below k, h.hq.below k, h.hs.under k, h.hsol.below k, h.hb.trans (k.mono h.hb.size)⟩
theorem TwF.new {w W : World} {v1 v2 : Value} {p q : List Int} {sb : Nat} {r1 r2 : Value} {A B : List (List Int)} (h : TwF w W v1 v2 p q sb r1 r2 A B) (o : Obj) : TwF w (W.alloc o) v1 v2 p q sb r1 r2 A B := h.under ((Below.refl _ _).alloc (Nat.le_refl _) o)

theorem tw_cases (p q : List Int) : twCode p q = 2 ∨ (twCode p q = 5 ∧ thenRes p q ≠ thenRes q p) ∨
    (twCode p q = 0 ∧ isPerm p = true ∧ isPerm q = true ∧ q.length = p.length ∧ thenL p q = thenL q p ∧ twRA p q = twA p ∧ twRB p q = twB p q) := by
  by_cases h1 : isPerm p = true
  · by_cases h2 : isPerm q = true
    · by_cases h3 : p.length = q.length
      · by_cases h4 : thenL p q = thenL q p
        · exact .inr (.inr ⟨by simp [twCode, twOk, twCm, h1, h2, h3, h4], h1, h2, h3.symm, h4, by simp [twRA, twOk, twCm, h1, h2, h3, h4], by simp [twRB, twOk, twCm, h1, h2, h3, h4]⟩)
        · refine .inr (.inl ⟨by simp [twCode, twOk, twCm, h1, h2, h3, h4], ?_⟩)
          simp [thenRes, okThen, h1, h2, h3, h4]
      · exact .inl (by simp [twCode, twOk, h3])
    · exact .inl (by simp [twCode, twOk, h2])
  · exact .inl (by simp [twCode, twOk, h1])

theorem inv_perm {p : List Int} (h : isPerm p = true) : isPerm (invL p) = true := by
  obtain ⟨⟨h1, h2⟩, hp⟩ := isPerm_in' h
  have : Permuted (invL p) := by
    rw [permuted_iff]
    intro x x0 x1
    rw [invL_length] at x1
    have := perm_lt hp x0 x1
    rw [← nth_invL hp x0 x1]
    exact nth_mem this.1 (by rw [invL_length]; exact this.2)
  simp [isPerm, inR, this]; omega
theorem iota_perm {n : Nat} (h1 : 1 ≤ n) (h2 : n ≤ 12) : isPerm (iota n) = true := by
  have : Permuted (iota n) := ⟨iota_nodup n, fun x hx => by simpa using (mem_iota n x).1 hx⟩
  simp [isPerm, inR, this]; omega
theorem then_unit {p : List Int} (h : isPerm p = true) : thenRes p (invL p) = iota p.length := by
  have h2 := inv_perm h
  simp only [thenRes, okThen, h, h2, invL_length]
  simpa using then_back (isPerm_in' h).2
theorem flip_unit {n : Nat} (h1 : 1 ≤ n) (h2 : n ≤ 12) : flA n = twA (iota n) ∧ flB n = twB (iota n) (iota n) ∧ flCode n = 0 := by
  have h : inR n 1 12 = true := by simp [inR]; omega
  exact ⟨by simp [flA, flN, h], by simp [flB, flN, h], by simp [flCode, h]⟩
theorem twist_unit {n : Nat} (h1 : 1 ≤ n) (h2 : n ≤ 12) : twRA (iota n) (iota n) = twA (iota n) ∧ twRB (iota n) (iota n) = twB (iota n) (iota n) ∧ twCode (iota n) (iota n) = 0 := by
  have h := iota_perm h1 h2
  exact ⟨by simp [twRA, twOk, twCm, h], by simp [twRB, twOk, twCm, h], by simp [twCode, twOk, twCm, h]⟩
set_option maxRecDepth 100000 in
set_option maxHeartbeats 8000000 in
theorem law_Twists (v : Value) (bs : List Int) (w : World) (hv : Bytes w v bs) : Calls Try.prog 5 #[v] w (RVal w (.bool true)) := by
  have HV : Hid (BytesR w v bs.length) := Lib.hid hv
  obtain ⟨a, c, hva, -⟩ := hv
  subst hva
  go_enter Try.func5, Try.ntmps5
  go_wp2_with fail
  refine (c_big a bs.length c _).mono ?_; rintro e w' ⟨rfl, rfl⟩
  by_cases hbig : 4096 < bs.length
  case pos =>
    have hd : decide (4096 < bs.length) = true := by simpa using hbig
    rw [hd]; clear hd hbig
    go_wp2
    go_ret
    exact ⟨rfl, Below.refl _ _⟩
  have hd : decide (4096 < bs.length) = false := by simpa using hbig
  rw [hd]; clear hd
  go_wp2_with fail
  refine (c_DrawTwist _ bs.length _ HV.out (by omega)).mono ?_; rintro e w1 ⟨v1, v2, p, q, rfl, hp, hq, hpl, hql, hb1⟩
  have HP := Lib.hid hp; have HQ := Lib.hid hq; have HB1 := Lib.hid hb1
  clear hp hq hb1 HV hbig
  go_wp2_with fail
  refine (c_TwistSolution _ p _ q _ HP.out HQ.out).mono ?_; rintro e w2 ⟨r1, r2, rfl, hs2, hb2⟩
  have HF := Lib.hid (TwF.mk (w := w) (W := w2.alloc (.cells #[r1, r2] 27)) (sb := w2.heap.size) ((HP.out.below hb2).below ((Below.refl _ _).alloc (Nat.le_refl _) _)) ((HQ.out.below hb2).below ((Below.refl _ _).alloc (Nat.le_refl _) _)) (Blk.new w2 [r1, r2] 27) (hs2.sol.below ((Below.refl _ _).alloc (Nat.le_refl _) _)) ((HB1.out.trans (hb2.mono HB1.out.size)).alloc (by have := HB1.out.size; have := hb2.size; omega) _))
  clear hs2 hb2
  obtain ⟨ra1, rl1, rc1, hr1⟩ := HF.out.hsol.1.any
  obtain ⟨ra2, rl2, rc2, hr2⟩ := HF.out.hsol.2.any
  subst hr1 hr2
  obtain ⟨cd, hcd⟩ : ∃ cd, twCode p q = cd := ⟨_, rfl⟩
  have hcc : (cd != cd) = false := by simp
  have HCd := Lib.hid hcd
  rw [hcd]
  clear hcd
  go_wp2_with fail
  refine (c_specTwistSolution _ p _ q _ HF.out.hp HF.out.hq).mono ?_; rintro e w3 ⟨t1, t2, rfl, hs3, hb3⟩
  rw [HCd.out]
  obtain ⟨ta1, tl1, tc1, ht1⟩ := hs3.sol.1.any
  obtain ⟨ta2, tl2, tc2, ht2⟩ := hs3.sol.2.any
  subst ht1 ht2
  have HF3 := Lib.hid ((HF.out.under hb3).new (.cells #[.slice ta1 tl1 tc1, .slice ta2 tl2 tc2] 27))
  have HT3 := Lib.hid (hs3.sol.below ((Below.refl _ _).alloc (Nat.le_refl _) (.cells #[.slice ta1 tl1 tc1, .slice ta2 tl2 tc2] 27)))
  have HQ3 := Lib.hid (Blk.new w3 [.slice ta1 tl1 tc1, .slice ta2 tl2 tc2] 27)
  clear hs3 hb3
  obtain ⟨x0, x1, -, -⟩ := two_cells HF3.out.hs
  obtain ⟨y0, y1, -, -⟩ := two_cells HQ3.out
  go_wp2_with fail
  refine (c_likeSolution5 _ _ _ _ _ _ _ _ _ HF3.out.hsol HT3.out).mono ?_; rintro e w4 ⟨rfl, hb4⟩
  rw [show (decide (twRA p q = twRA p q) && decide (twRB p q = twRB p q)) = true from by simp]
  have HF4 := Lib.hid (HF3.out.under hb4)
  clear hb4 x0 x1 y0 y1 hcc
  rcases tw_cases p q with h2 | ⟨h5, hne⟩ | ⟨h0, hip, hiq, hlq, hcom, hRA, hRB⟩
  · have e : cd = 2 := by rw [← HCd.out]; exact h2
    subst e
    clear h2
    go_wp2
    go_ret
    exact ⟨rfl, HF4.out.hb⟩
  · have e : cd = 5 := by rw [← HCd.out]; exact h5
    subst e
    have HNE := Lib.hid hne
    clear h5 hne
    go_wp2_with fail
    refine (c_then5 _ _ p q _ HF4.out.hp HF4.out.hq).mono ?_; rintro e w5 ⟨r5, rfl, ho5, hb5⟩
    have HF5 := Lib.hid (HF4.out.under hb5); have HO5 := Lib.hid ho5
    clear ho5 hb5
    go_wp2_with fail
    refine (c_then5 _ _ q p _ HF5.out.hq HF5.out.hp).mono ?_; rintro e w6 ⟨r6, rfl, ho6, hb6⟩
    have HF6 := Lib.hid (HF5.out.under hb6); have HO6 := Lib.hid ho6; have HO5' := Lib.hid (HO5.out.ints.below hb6)
    clear ho6 hb6
    go_wp2_with fail
    refine (c_likeInts _ _ (thenRes p q) (thenRes q p) _ HO5'.out HO6.out.ints).mono ?_; rintro e w7 ⟨rfl, hb7⟩
    rw [show decide (thenRes p q = thenRes q p) = false from by simp [HNE.out]]
    have HF7 := Lib.hid (HF6.out.under (below_of_drewN hb7))
    clear hb7
    go_wp2
    go_ret
    exact ⟨rfl, HF7.out.hb⟩
  have e : cd = 0 := by rw [← HCd.out]; exact h0
  subst e
  obtain ⟨⟨hl1, hl12⟩, hpp⟩ := isPerm_in' hip
  obtain ⟨-, hpq⟩ := isPerm_in' hiq
  rw [hRA, hRB] at HF4
  have HPP := Lib.hid hpp; have HPQ := Lib.hid hpq; have HLQ := Lib.hid hlq; have HCom := Lib.hid hcom; have HIP := Lib.hid hip; have HIQ := Lib.hid hiq
  have HPM := Lib.hid (tw_pm hpp hpq hlq hl1 hl12)
  have HInv := Lib.hid (show involRes (twA p) (twB p q) = decide (invL p = q) by rw [involRes, if_pos HPM.out]; exact tw_inv hpp hpq hlq hl1 hl12)
  have HNd := Lib.hid (show ndRes (twA p) (twB p q) = true by rw [ndRes, if_pos HPM.out]; exact tw_nd hpp hpq hlq hl1 hl12)
  have HSol := Lib.hid (tw_sol hpp hpq hlq hl1 hl12 hcom)
  have HC1 := Lib.hid (show pmCode' (twA p) (twB p q) = 0 by simp [pmCode', HPM.out])
  have HC2 := Lib.hid (show pmCodeN (twA p) (twB p q) = 0 by simp [pmCodeN, HPM.out])
  have HIv := Lib.hid (show invRes p = invL p by simp [invRes, hip])
  have HIc := Lib.hid (show invCode p = 0 by simp [invCode, hip])
  clear h0 hip hiq hpp hpq hlq hcom hRA hRB HF3 HT3 HQ3
  go_wp2_with fail
  refine (c_InversePermutation _ p _ HF4.out.hp).mono ?_; rintro e w5 ⟨bk, rfl, ho5, hb5⟩
  rw [HIv.out] at ho5
  rw [HIc.out]
  have HF5 := Lib.hid (HF4.out.under hb5); have HK5 := Lib.hid ho5.ints
  clear ho5 hb5
  obtain ⟨x0, x1, -, -⟩ := two_cells HF5.out.hs
  go_wp2_with fail
  refine (c_IsInvolutive _ _ _ _ _ HF5.out.hsol).mono ?_; rintro e w6 ⟨rfl, hb6⟩
  rw [HInv.out, HC1.out]
  have HF6 := Lib.hid (HF5.out.under hb6); have HK6 := Lib.hid (HK5.out.below hb6)
  clear hb6 x0 x1
  obtain ⟨x0, x1, -, -⟩ := two_cells HF6.out.hs
  go_wp2_with fail
  refine (c_IsNondegenerate _ _ _ _ _ HF6.out.hsol).mono ?_; rintro e w7 ⟨rfl, hb7⟩
  rw [HNd.out, HC2.out]
  have HF7 := Lib.hid (HF6.out.under hb7); have HK7 := Lib.hid (HK6.out.below hb7)
  clear hb7 x0 x1
  obtain ⟨x0, x1, -, -⟩ := two_cells HF7.out.hs
  go_wp2_with fail
  refine (c_IsSolution _ _ _ _ _ HF7.out.hsol).mono ?_; rintro e w8 ⟨rfl, hb8⟩
  rw [HSol.out]
  have HF8 := Lib.hid (HF7.out.under hb8); have HK8 := Lib.hid (HK7.out.below hb8)
  clear hb8 x0 x1
  obtain ⟨dv, hdv⟩ : ∃ d, decide (invL p = q) = d := ⟨_, rfl⟩
  have HDv := Lib.hid hdv
  rw [hdv]
  have hdd : (dv != dv) = false := by simp
  clear hdv
  go_wp2_with fail
  refine (c_likeInts _ _ (invL p) q _ HK8.out HF8.out.hq).mono ?_; rintro e w9 ⟨rfl, hb9⟩
  rw [HDv.out]
  have HF9 := Lib.hid (HF8.out.under (below_of_drewN hb9)); have HK9 := Lib.hid (HK8.out.below (below_of_drewN hb9))
  clear hb9
  obtain ⟨pa, pc, hv1, _, _⟩ := HF9.out.hp.shape
  subst hv1
  obtain ⟨N, hN⟩ : ∃ N, p.length = N := ⟨_, rfl⟩
  have HN := Lib.hid hN
  rw [hN] at hl1 hl12
  have HTU := Lib.hid (then_unit HIP.out)
  have HFU := Lib.hid (flip_unit hl1 hl12); have HWU := Lib.hid (twist_unit hl1 hl12)
  clear hN hdd
  go_wp2_with fail
  refine (c_then5 _ _ p (invL p) _ HF9.out.hp HK9.out).mono ?_; rintro e w10 ⟨un, rfl, ho10, hb10⟩
  rw [HTU.out, HN.out] at ho10
  have HF10 := Lib.hid (HF9.out.under hb10); have HU10 := Lib.hid ho10.ints
  clear ho10 hb10
  go_wp2_with fail
  rw [HN.out]
  refine (c_FlipSolution (N : Int) _ (by omega) (by omega)).mono ?_; rintro e w11 ⟨f1, f2, rfl, hs11, hb11⟩
  rw [HFU.out.1, HFU.out.2.1] at hs11
  rw [HFU.out.2.2]
  obtain ⟨fa1, fl1, fc1, hf1⟩ := hs11.sol.1.any
  obtain ⟨fa2, fl2, fc2, hf2⟩ := hs11.sol.2.any
  subst hf1 hf2
  have HB11 := Lib.hid (((HF10.out.under hb11).new (.cells #[.slice fa1 fl1 fc1, .slice fa2 fl2 fc2] 27)).hb)
  have HU11 := Lib.hid ((HU10.out.below hb11).below ((Below.refl _ _).alloc (Nat.le_refl _) (.cells #[.slice fa1 fl1 fc1, .slice fa2 fl2 fc2] 27)))
  have HS11 := Lib.hid (hs11.sol.below ((Below.refl _ _).alloc (Nat.le_refl _) (.cells #[.slice fa1 fl1 fc1, .slice fa2 fl2 fc2] 27)))
  have HQ11 := Lib.hid (Blk.new w11 [.slice fa1 fl1 fc1, .slice fa2 fl2 fc2] 27)
  clear hs11 hb11
  go_wp2_with fail
  refine (c_TwistSolution _ (iota N) _ (iota N) _ HU11.out HU11.out).mono ?_; rintro e w12 ⟨g1, g2, rfl, hs12, hb12⟩
  rw [HWU.out.1, HWU.out.2.1] at hs12
  rw [HWU.out.2.2]
  obtain ⟨ga1, gl1, gc1, hg1⟩ := hs12.sol.1.any
  obtain ⟨ga2, gl2, gc2, hg2⟩ := hs12.sol.2.any
  subst hg1 hg2
  have HB12 := Lib.hid ((HB11.out.trans (hb12.mono HB11.out.size)).alloc (by have := HB11.out.size; have := hb12.size; omega) (.cells #[.slice ga1 gl1 gc1, .slice ga2 gl2 gc2] 27))
  have HS12 := Lib.hid (hs12.sol.below ((Below.refl _ _).alloc (Nat.le_refl _) (.cells #[.slice ga1 gl1 gc1, .slice ga2 gl2 gc2] 27)))
  have HS11b := Lib.hid ((HS11.out.below hb12).below ((Below.refl _ _).alloc (Nat.le_refl _) (.cells #[.slice ga1 gl1 gc1, .slice ga2 gl2 gc2] 27)))
  have HQ12 := Lib.hid (Blk.new w12 [.slice ga1 gl1 gc1, .slice ga2 gl2 gc2] 27)
  have HQ11b := Lib.hid ((HQ11.out.under hb12).alloc (.cells #[.slice ga1 gl1 gc1, .slice ga2 gl2 gc2] 27))
  clear hs12 hb12
  obtain ⟨x0, x1, -, -⟩ := two_cells HQ11b.out
  obtain ⟨y0, y1, -, -⟩ := two_cells HQ12.out
  go_wp2_with fail
  refine (c_likeSolution5 _ _ _ _ _ _ _ _ _ HS11b.out HS12.out).mono ?_; rintro e w13 ⟨rfl, hb13⟩
  rw [show (decide (twA (iota N) = twA (iota N)) && decide (twB (iota N) (iota N) = twB (iota N) (iota N))) = true from by simp]
  have HB13 := Lib.hid (HB12.out.trans (hb13.mono HB12.out.size))
  clear hb13 x0 x1 y0 y1
  go_wp2
  go_ret
  exact ⟨rfl, HB13.out⟩
end Go.Proofs.Ytkcobfkmeaakoaa

namespace Go.Proofs.Ytkcobfkmeaakoaa
open Go Go.RowKit

set_option maxHeartbeats 400000 in
theorem c_specIsPermutation (v : Value) (xs : List Int) (w : World) (hx : Ints w v xs) :
    Calls Try.prog 74 #[v] w fun e w' => e = .returned (.bool (isPerm xs)) ∧ w = w' := by
  go_enter Try.func74, Try.ntmps74
  go_wp2_with fail
  refine (c_l01Perm _ _ _ hx).mono ?_; rintro e w' ⟨rfl, rfl⟩
  go_wp2
  go_ret
  exact ⟨rfl, rfl⟩
/-- Lists that can be read, side by side. -/
def AI (w W : World) (L : List (Value × List Int)) : Prop := (∀ e ∈ L, Ints W e.1 e.2) ∧ Below w.heap.size w W
theorem AI.under {w W W' : World} {L : List (Value × List Int)} (h : AI w W L) (k : Below W.heap.size W W') : AI w W' L := ⟨fun e he => (h.1 e he).below k, h.2.trans (k.mono h.2.size)⟩
theorem AI.add {w W : World} {L : List (Value × List Int)} (h : AI w W L) {v : Value} {xs : List Int} (hi : Ints W v xs) : AI w W ((v, xs) :: L) :=
  ⟨fun e he => by rcases List.mem_cons.1 he with rfl | he; exact hi; exact h.1 e he, h.2⟩
theorem AI.get {w W : World} {L : List (Value × List Int)} (h : AI w W L) {v : Value} {xs : List Int} (he : (v, xs) ∈ L) : Ints W v xs := h.1 _ he

set_option maxHeartbeats 400000 in
theorem c_sum (v : Value) (xs : List Int) (w : World) (hx : Ints w v xs) (h0 : ∀ x ∈ xs, 0 ≤ x ∧ x ≤ 12) (hl : xs.length ≤ 12) :
    Calls Try.prog 76 #[v] w (fun e w' => e = .returned (.int .i64 xs.sum) ∧ w = w') := by
  obtain ⟨a, c, rfl, hc, hm⟩ := hx.shape
  have H0 := Lib.hid h0; clear h0
  go_enter Try.func76, Try.ntmps76
  go_wp2
  go_loopw [3, 4] (fun s i wr => ∃ (k : Nat) (t : Int), k ≤ xs.length ∧ i = .int .i64 k ∧ s = .int .i64 t ∧ Hid (t = (xs.take k).sum) ∧ 0 ≤ t ∧ t ≤ 12 * k ∧ wr = w) (fun _ i _ => xs.length - (intOf i).toNat)
  case atStart => exact ⟨0, 0, Nat.zero_le _, rfl, rfl, Lib.hid (by simp), by omega, by omega, rfl⟩
  case round =>
    obtain ⟨k, t, hk, rfl, rfl, HT, ht0, ht1, rfl⟩ := hrel
    by_cases hlt : k < xs.length
    · obtain ⟨b, o, rfl, hcell⟩ := hx.get k hlt
      have h2 := H0.out _ (nth_mem (p := xs) (x := k) (by omega) (by omega))
      obtain ⟨h20, h21⟩ := h2
      have HS := Lib.hid (show (xs.take (k + 1)).sum = (xs.take k).sum + nth xs k by rw [take_snoc _ _ hlt, List.sum_append]; simp)
      generalize nth xs k = z at *
      go_wp2
      go_roundw
      case rel => exact ⟨k + 1, t + z, by omega, by go_num, rfl, Lib.hid (by rw [HS.out, HT.out]), by omega, by omega, by first | rfl | trivial⟩
      case measure => simp [intOf]; omega
    · go_wp2
      go_ret
      exact ⟨ret_int (by rw [HT.out, List.take_of_length_le (by omega)]), rfl⟩

set_option maxRecDepth 100000 in
set_option maxHeartbeats 1600000 in
theorem c_DrawThen (v : Value) (n : Nat) (w : World) (hv : BytesR w v n) (hn : n ≤ 4096) :
    Calls Try.prog 70 #[v] w (fun e w' => ∃ (v1 v2 : Value) (p q : List Int), e = .returned (.tuple #[v1, v2]) ∧ Ints w' v1 p ∧ Ints w' v2 q ∧ p.length ≤ 13 ∧ q.length ≤ 13 ∧ Below w.heap.size w w') := by
  have HV := Lib.hid hv
  obtain ⟨a, c, hva, -⟩ := hv
  subst hva
  go_enter Try.func70, Try.ntmps70
  go_wp2_with fail
  refine (c_l01From _ n _ HV.out hn).mono ?_; rintro e w1 ⟨b, rfl, hwb, hs, hb1⟩
  have HS := Lib.hid hs; have HB1 := Lib.hid hb1; clear hs hb1
  go_wp2_with fail
  refine (c_l01Size b _ HS.out).mono ?_; rintro e w2 ⟨m, rfl, m1, m12, hd2⟩
  have HD2 := Lib.hid hd2; clear hd2
  go_wp2_with fail
  refine (c_l01Spoil b m _ HD2.out.1 m1 (by omega)).mono ?_; rintro e w3 ⟨r, p, rfl, hpl, hop, hd3⟩
  have HD3 := Lib.hid (HD2.out.trans hd3); have HP := Lib.hid hop; have HPL := Lib.hid hpl
  have hb2 : Hid (b < w2.heap.size) := Lib.hid HD2.out.1.lt
  have HBel := Lib.hid (HD3.out.below HB1.out hwb HB1.out.size)
  clear hd3 hop hpl
  go_wp2_with fail
  refine (c_l01Next b 20 _ HD3.out.1 (by omega) (by omega)).mono ?_; rintro e w4 ⟨t, rfl, t0, t1, hd4⟩
  have HD4 := Lib.hid hd4
  have HP4 := Lib.hid (hd4.own HP.out hb2.out)
  have HB4 := Lib.hid (hd4.below HBel.out hwb HBel.out.size)
  clear hd4
  by_cases ht : t = 0
  · subst ht
    go_wp2_with fail
    refine (c_l01Spoil b (m + 1) _ HD4.out.1 (by omega) (by omega)).mono ?_; rintro e w5 ⟨r5, q, rfl, hql, hoq, hd5⟩
    have HQ := Lib.hid hoq; have HQL := Lib.hid hql
    have HP5 := Lib.hid (hd5.own HP4.out hb2.out)
    have HB5 := Lib.hid (hd5.below HB4.out hwb HB4.out.size)
    clear hd5 hoq hql
    go_wp2
    go_ret2
    exact ⟨_, _, p, q, rfl, HP5.out.ints, HQ.out.ints, by rw [HPL.out]; omega, by rw [HQL.out]; omega, HB5.out⟩
  · go_wp2_with fail
    refine (c_l01Spoil b m _ HD4.out.1 m1 (by omega)).mono ?_; rintro e w5 ⟨r5, q, rfl, hql, hoq, hd5⟩
    have HQ := Lib.hid hoq; have HQL := Lib.hid hql
    have HP5 := Lib.hid (hd5.own HP4.out hb2.out)
    have HB5 := Lib.hid (hd5.below HB4.out hwb HB4.out.size)
    clear hd5 hoq hql
    go_wp2
    go_ret2
    exact ⟨_, _, p, q, rfl, HP5.out.ints, HQ.out.ints, by rw [HPL.out]; omega, by rw [HQL.out]; omega, HB5.out⟩

theorem pl_ok {p q : List Int} (h : okThen p q = true) : isPerm p = true ∧ isPerm q = true ∧ q.length = p.length := by
  simp [okThen] at h
  exact ⟨h.1.1, h.1.2, h.2.symm⟩
theorem pw_isPerm {p : List Int} (h : isPerm p = true) (k : Nat) : isPerm (pw p k) = true := by
  obtain ⟨⟨h1, h2⟩, hp⟩ := isPerm_in' h
  simp [isPerm, inR, pw_perm hp k]; omega
theorem pw_next {p : List Int} (h : isPerm p = true) (k : Nat) : thenRes (pw p k) p = pw p (k + 1) := by
  have := pw_isPerm h k
  simp [thenRes, okThen, h, this, pw]
theorem ord_ex {p : List Int} (h : isPerm p = true) : ∃ N, IsOrd p N ∧ N + 1 ≤ 60 := by
  obtain ⟨⟨h1, h2⟩, hp⟩ := isPerm_in' h
  obtain ⟨N, hN, -⟩ := ord_bound hp h2
  obtain ⟨L, l1, l2, l3⟩ := ord_le hp h2
  refine ⟨N, hN, ?_⟩
  rcases Nat.lt_or_ge (L - 1) N with h | h
  · exact absurd l3 (hN.2 _ h)
  · omega
theorem cyL_in {p : List Int} (h : isPerm p = true) : (∀ x ∈ cyL p, 0 ≤ x ∧ x ≤ 12) ∧ (cyL p).length ≤ 12 := by
  obtain ⟨⟨h1, h2⟩, hp⟩ := isPerm_in' h
  refine ⟨fun x hx => ?_, ?_⟩
  · unfold cyL cycS at hx
    simp only [List.mem_flatMap, List.mem_range] at hx
    obtain ⟨s, hs, hx⟩ := hx
    have := List.eq_of_mem_replicate hx
    omega
  · have h3 := cycS_length (cyM p) p.length
    have hl : (cyM p).length = p.length := by simp [cyM]
    unfold cyL; omega

set_option maxRecDepth 100000 in
set_option maxHeartbeats 8000000 in
theorem law_PermutationLaws (v : Value) (bs : List Int) (w : World) (hv : Bytes w v bs) : Calls Try.prog 11 #[v] w (RVal w (.bool true)) := by
  have HV : Hid (BytesR w v bs.length) := Lib.hid hv
  obtain ⟨a, c, hva, -⟩ := hv
  subst hva
  go_enter Try.func11, Try.ntmps11
  go_wp2_with fail
  refine (c_big a bs.length c _).mono ?_; rintro e w' ⟨rfl, rfl⟩
  by_cases hbig : 4096 < bs.length
  case pos =>
    have hd : decide (4096 < bs.length) = true := by simpa using hbig
    rw [hd]; clear hd hbig
    go_wp2
    go_ret
    exact ⟨rfl, Below.refl _ _⟩
  have hd : decide (4096 < bs.length) = false := by simpa using hbig
  rw [hd]; clear hd
  go_wp2_with fail
  refine (c_DrawThen _ bs.length _ HV.out (by omega)).mono ?_; rintro e w1 ⟨v1, v2, p, q, rfl, hp, hq, hpl, hql, hb1⟩
  obtain ⟨pa, pc, hv1, _, _⟩ := hp.shape
  subst hv1
  have H1 := Lib.hid (show AI w w1 [(.slice pa p.length pc, p), (v2, q)] from ⟨fun e he => by simp at he; rcases he with rfl | rfl; exact hp; exact hq, hb1⟩)
  clear hp hq hb1 HV hbig
  go_wp2_with fail
  refine (c_ThenPermutation _ _ p q _ (H1.out.get (by simp)) (H1.out.get (by simp))).mono ?_; rintro e w2 ⟨r5, rfl, ho, hb⟩
  have H2 := Lib.hid ((H1.out.under hb).add ho.ints)
  clear ho hb
  obtain ⟨cd, hcd⟩ : ∃ cd, thenCode p q = cd := ⟨_, rfl⟩
  have hcc : (cd != cd) = false := by simp
  have HCd := Lib.hid hcd
  rw [hcd]
  clear hcd
  go_wp2_with fail
  refine (c_specThenPermutation _ _ p q _ (H2.out.get (by simp)) (H2.out.get (by simp))).mono ?_; rintro e w3 ⟨r7, rfl, ho, hb⟩
  rw [HCd.out]
  have H3 := Lib.hid ((H2.out.under hb).add ho.ints)
  clear ho hb
  go_wp2_with fail
  refine (c_likeInts _ _ (thenRes p q) (thenRes p q) _ (H3.out.get (by simp)) (H3.out.get (by simp))).mono ?_; rintro e w4 ⟨rfl, hb⟩
  rw [show decide (thenRes p q = thenRes p q) = true from by simp]
  have H4 := Lib.hid (H3.out.under (below_of_drewN hb))
  clear hb hcc
  go_wp2_with fail
  refine (c_IsPermutation _ p _ (H4.out.get (by simp))).mono ?_; rintro e w5 ⟨rfl, hb⟩
  have H5 := Lib.hid (H4.out.under hb)
  clear hb
  obtain ⟨bp, hbp⟩ : ∃ b, isPerm p = b := ⟨_, rfl⟩
  have hbb : (bp != bp) = false := by simp
  have HBp := Lib.hid hbp
  rw [hbp]
  clear hbp
  go_wp2_with fail
  refine (c_specIsPermutation _ p _ (H5.out.get (by simp))).mono ?_; rintro e w' ⟨rfl, rfl⟩
  rw [HBp.out]
  by_cases hok : okThen p q = true
  case neg =>
    have h1 : thenCode p q = 1 := by simp [thenCode, hok]
    have e1 : cd = 1 := by rw [← HCd.out]; exact h1
    subst e1
    clear h1 hok
    go_wp2
    go_ret
    exact ⟨rfl, H5.out.2⟩
  have h0 : thenCode p q = 0 := by simp [thenCode, hok]
  have e0 : cd = 0 := by rw [← HCd.out]; exact h0
  subst e0
  obtain ⟨hip, hiq, hlq⟩ := pl_ok hok
  obtain ⟨⟨hl1, hl12⟩, hpp⟩ := isPerm_in' hip
  obtain ⟨-, hpq⟩ := isPerm_in' hiq
  have htr : thenRes p q = thenL p q := by simp [thenRes, hok]
  have hpt := then_perm hpp hpq hlq
  have hit : isPerm (thenL p q) = true := by simp [isPerm, inR, hpt]; omega
  obtain ⟨N, hN, hN60⟩ := ord_ex hip
  obtain ⟨O, hO⟩ : ∃ O, N + 1 = O := ⟨_, rfl⟩
  have HOO := Lib.hid hO
  obtain ⟨hsys, -, -⟩ := sys_one hip
  rw [htr] at H5
  have HIP := Lib.hid hip; have HIQ := Lib.hid hiq; have HIT := Lib.hid hit
  have HPP := Lib.hid hpp; have HPQ := Lib.hid hpq; have HPT := Lib.hid hpt; have HLQ := Lib.hid hlq
  have HN := Lib.hid hN
  have HO := Lib.hid (show ordRes p = (O : Int) by simp only [ordRes, hip, if_true]; rw [hN.eq, hO])
  have HOc := Lib.hid (show ordCode p = 0 by simp [ordCode, hip])
  have HCl := Lib.hid (show clRes p = cyL p by simp [clRes, hip])
  have HCc := Lib.hid (show clCode p = 0 by simp [clCode, hip])
  have HSum := Lib.hid (cyL_sum hsys)
  have HCin := Lib.hid (cyL_in hip)
  have HU := Lib.hid (then_unit hip)
  have HFin := Lib.hid (show thenRes (invL q) (invL p) = invL (thenL p q) by
    have a1 := inv_perm hip; have a2 := inv_perm hiq
    simp only [thenRes, okThen, a1, a2, invL_length, hlq]
    simpa using (inv_then hpp hpq hlq hpt).symm)
  have HI1 := Lib.hid (show invRes p = invL p ∧ invCode p = 0 by simp [invRes, invCode, hip])
  have HI2 := Lib.hid (show invRes (thenL p q) = invL (thenL p q) ∧ invCode (thenL p q) = 0 by simp [invRes, invCode, hit])
  have HI3 := Lib.hid (show invRes q = invL q ∧ invCode q = 0 by simp [invRes, invCode, hiq])
  have hO60 : O ≤ 60 := by omega
  have hO11 : 1 ≤ O := by omega
  clear h0 hok hip hiq hlq hpp hpq htr hpt hit hN hsys hbb hO hN60
  go_wp2_with fail
  refine (c_InversePermutation _ p _ (H5.out.get (by simp))).mono ?_; rintro e w6 ⟨bk, rfl, ho, hb⟩
  rw [HI1.out.1] at ho
  rw [HI1.out.2]
  have H6 := Lib.hid ((H5.out.under hb).add ho.ints)
  clear ho hb
  go_wp2_with fail
  refine (c_InversePermutation _ (thenL p q) _ (H6.out.get (by simp))).mono ?_; rintro e w7 ⟨fi, rfl, ho, hb⟩
  rw [HI2.out.1] at ho
  rw [HI2.out.2]
  have H7 := Lib.hid ((H6.out.under hb).add ho.ints)
  clear ho hb
  go_wp2_with fail
  refine (c_InversePermutation _ q _ (H7.out.get (by simp))).mono ?_; rintro e w8 ⟨ot, rfl, ho, hb⟩
  rw [HI3.out.1] at ho
  rw [HI3.out.2]
  have H8 := Lib.hid ((H7.out.under hb).add ho.ints)
  clear ho hb
  go_wp2_with fail
  refine (c_PermutationOrder _ p _ (H8.out.get (by simp))).mono ?_; rintro e w9 ⟨rfl, hb⟩
  rw [HO.out, HOc.out]
  have H9 := Lib.hid (H8.out.under hb)
  clear hb
  go_wp2_with fail
  refine (c_CycleLengths _ p _ (H9.out.get (by simp))).mono ?_; rintro e w10 ⟨le, rfl, ho, hb⟩
  rw [HCl.out] at ho
  rw [HCc.out]
  have H10 := Lib.hid ((H9.out.under hb).add ho.ints)
  clear ho hb
  go_wp2_with fail
  refine (c_sum _ (cyL p) _ (H10.out.get (by simp)) HCin.out.1 HCin.out.2).mono ?_; rintro e w' ⟨rfl, rfl⟩
  rw [HSum.out]
  have hnn : ((p.length : Int) != (p.length : Int)) = false := by simp
  have hOb := HOO.out
  have hO1 : ¬ ((O : Int) < 1) := by omega
  have hO2 : ¬ ((60 : Int) < (O : Int)) := by omega
  clear hOb
  go_wp2_with fail
  refine (c_then5 _ _ p (invL p) _ (H10.out.get (by simp)) (H10.out.get (by simp))).mono ?_; rintro e w11 ⟨un, rfl, ho, hb⟩
  rw [HU.out] at ho
  have H11 := Lib.hid ((H10.out.under hb).add ho.ints)
  obtain ⟨ua, uc, hun, _, _⟩ := ho.ints.shape
  rw [iota_length] at hun
  subst hun
  clear ho hb
  go_wp2
  go_loopw [20] (fun x wr => ∃ k : Nat, k ≤ p.length ∧ x = .int .i64 k ∧ wr = w11) (fun x _ => p.length - (intOf x).toNat)
  case atStart => exact ⟨0, Nat.zero_le _, rfl, rfl⟩
  case round =>
    obtain ⟨k, hk, rfl, rfl⟩ := hrel
    by_cases hlt : k < p.length
    · obtain ⟨ub, uo, hua, hcell⟩ := (H11.out.get (v := .slice ua p.length uc) (xs := iota p.length) (by simp)).get k (by simpa using hlt)
      subst hua
      rw [nth_iota _ _ (by omega) (by omega)] at hcell
      have hkk : ((k : Int) != (k : Int)) = false := by simp
      go_wp2
      go_roundw
      case rel => exact ⟨k + 1, by omega, by go_num, by first | rfl | trivial⟩
      case measure => simp [intOf]; omega
    · go_wp2
      go_loopw [21, 22] (fun now m wr => ∃ m' : Nat, 1 ≤ m' ∧ m' ≤ O ∧ m = .int .i64 m' ∧ Hid (Ints wr now (pw p (m' - 1))) ∧ Hid (AI w wr [(.slice ua p.length uc, iota p.length), (le, cyL p), (ot, invL q), (fi, invL (thenL p q)), (bk, invL p), (.slice pa p.length pc, p)])) (fun _ m _ => O - (intOf m).toNat)
      case atStart => exact ⟨1, Nat.le_refl _, by omega, rfl, Lib.hid (show Ints _ _ p from H11.out.get (by simp)), Lib.hid ⟨fun e he => H11.out.1 e (by simp at he ⊢; rcases he with h | h | h | h | h | h <;> simp [h]), H11.out.2⟩⟩
      case round =>
        clear H11
        obtain ⟨m, hm1, hmO, rfl, HNow, HA⟩ := hrel
        by_cases hmlt : m < O
        · have hne : decide (pw p (m - 1) = iota p.length) = false := by
            have h1 := HN.out.2 (m - 1) (by have := HOO.out; omega)
            simp [h1]
          have HNe := Lib.hid hne
          clear hne
          go_wp2_with fail
          refine (c_likeInts _ _ (pw p (m - 1)) (iota p.length) _ HNow.out (HA.out.get (by simp))).mono ?_; rintro e w12 ⟨rfl, hb⟩
          rw [HNe.out]
          have HA2 := Lib.hid (HA.out.under (below_of_drewN hb)); have HNow2 := Lib.hid (HNow.out.below (below_of_drewN hb))
          clear hb
          go_wp2_with fail
          refine (c_then5 _ _ (pw p (m - 1)) p _ HNow2.out (HA2.out.get (by simp))).mono ?_; rintro e w13 ⟨nx, rfl, ho, hb⟩
          rw [pw_next HIP.out] at ho
          have HA3 := Lib.hid (HA2.out.under hb); have HNow3 := Lib.hid ho.ints
          clear ho hb
          go_wp2
          go_roundw
          case rel => exact ⟨m + 1, by omega, by omega, by go_num, Lib.hid (by have h := HNow3.out; rw [show m - 1 + 1 = m + 1 - 1 by omega] at h; exact h), HA3⟩
          case measure => simp [intOf]; omega
        · have hmeq : m = O := by omega
          have heq : decide (pw p (m - 1) = iota p.length) = true := by
            have h1 := HN.out.1
            rw [show m - 1 = N by have := HOO.out; omega]
            simp [h1]
          have HEq := Lib.hid heq; have HMO := Lib.hid hmeq
          clear heq hmeq
          go_wp2_with fail
          refine (c_likeInts _ _ (pw p (m - 1)) (iota p.length) _ HNow.out (HA.out.get (by simp))).mono ?_; rintro e w12 ⟨rfl, hb⟩
          rw [HEq.out]
          have HA2 := Lib.hid (HA.out.under (below_of_drewN hb))
          clear hb
          go_wp2_with fail
          refine (c_then5 _ _ (invL q) (invL p) _ (HA2.out.get (by simp)) (HA2.out.get (by simp))).mono ?_; rintro e w13 ⟨nx, rfl, ho, hb⟩
          rw [HFin.out] at ho
          have HA3 := Lib.hid ((HA2.out.under hb).add ho.ints)
          clear ho hb
          go_wp2_with fail
          refine (c_likeInts _ _ (invL (thenL p q)) (invL (thenL p q)) _ (HA3.out.get (by simp)) (HA3.out.get (by simp))).mono ?_; rintro e w14 ⟨rfl, hb⟩
          rw [show decide (invL (thenL p q) = invL (thenL p q)) = true from by simp]
          have HB14 := Lib.hid (HA3.out.under (below_of_drewN hb)).2
          clear hb
          go_wp2
          go_ret
          exact ⟨rfl, HB14.out⟩
end Go.Proofs.Ytkcobfkmeaakoaa
