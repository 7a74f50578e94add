/-
  The law FnExactTwistSolution answers true, and leaves what was there as it was: at every two lists of integers.
-/
import Derived.Test.YtkcobfkmeaakoaaT2
import Derived.Test.YtkcobfkmeaakoaaI5
import Derived.Test.YtkcobfkmeaakoaaLTables
namespace Go.Proofs.Ytkcobfkmeaakoaa
open Go.RowKit

def twOk (p q : List Int) : Bool := isPerm p && isPerm q && decide (p.length = q.length)
def twCm (p q : List Int) : Bool := decide (thenL p q = thenL q p)
def twRA (p q : List Int) : List (List Int) := if twOk p q && twCm p q then twA p else []
def twRB (p q : List Int) : List (List Int) := if twOk p q && twCm p q then twB p q else []
def twCode (p q : List Int) : Int := if twOk p q then (if twCm p q then 0 else 5) else 2
theorem twOk_of {p q : List Int} (h1 : isPerm p = true) (h2 : isPerm q = true) (h3 : p.length = q.length) : twOk p q = true := by simp [twOk, h1, h2, h3]
theorem twOk_no1 {p q : List Int} (h1 : isPerm p = false) : twOk p q = false := by simp [twOk, h1]
theorem twOk_no2 {p q : List Int} (h1 : isPerm q = false) : twOk p q = false := by simp [twOk, h1]
theorem twOk_no3 {p q : List Int} (h1 : p.length ≠ q.length) : twOk p q = false := by simp [twOk, h1]
theorem perm_inT {xs : List Int} (h : isPerm xs = true) : (∀ x ∈ xs, 0 ≤ x ∧ x < xs.length) ∧ xs.length ≤ 12 := by
  simp [isPerm, inR] at h; exact ⟨h.2.2, by omega⟩
set_option maxRecDepth 100000 in
set_option maxHeartbeats 4000000 in
theorem c_specTwistSolution (v0 : Value) (p : List Int) (v1 : Value) (q : List Int) (w : World) (hp : Ints w v0 p) (hq : Ints w v1 q)  :
    Calls Try.prog 28 #[v0, v1] w (RSolRC w (twRA p q) (twRB p q) (twCode p q)) := by
  by_cases hp0 : isPerm p = true
  case neg =>
    have hq0 : isPerm p = false := by simpa using hp0
    have HQ := Lib.hid hq0; clear hp0
    obtain ⟨a0, c0, rfl, hc0, hm0⟩ := hp.shape
    obtain ⟨a1, c1, rfl, hc1, hm1⟩ := hq.shape
    go_enter Try.func28, Try.ntmps28
    go_wp2_with fail
    obtain ⟨f2, hW0, hsz⟩ := boxes1 w [.slice none 0 0, .slice none 0 0] 27
    obtain ⟨W0, hW⟩ : ∃ W, (w.alloc (.cells #[.slice none 0 0, .slice none 0 0] 27)) = W := ⟨_, rfl⟩
    rw [hW] at f2 hW0 hsz ⊢
    clear hW hsz
    refine (c_l01PermV _ _ _ (hp.below hW0)).mono ?_; rintro e g0 ⟨rfl, hbg0⟩
    have hB0 := bb hW0 hbg0
    replace f2 := f2.under hbg0
    obtain ⟨cA2, cB2, fA2, fB2⟩ := two_cells f2
    clear hbg0
    have HB := Lib.hid hB0
    clear hB0 hW0
    go_wp2
    refine bodyPost_ret (v := .tuple #[.agg #[.slice none 0 0, .slice none 0 0], .int .i64 2]) (by simp [results, Try.results28, go_sem, cA2, cB2]) rfl ⟨.slice none 0 0, .slice none 0 0, by simp [twRA, twRB, twCode, twOk, HQ.out], ?_, ?_⟩
    · exact ⟨_, rfl, ⟨by simpa [twRA, twRB, twCode, twOk, HQ.out] using (OwnRowsIn.nil0 0 0 _).rows, by simpa [twRA, twRB, twCode, twOk, HQ.out] using (OwnRowsIn.nil0 0 0 _).rows⟩, Nat.le_refl _, Below.refl _ _⟩
    · first | exact HB.out | exact (HB.out.setCell (p := ⟨w.heap.size, 0, none⟩) (by show _ ≤ w.heap.size; omega) _).setCell (p := ⟨w.heap.size, 1, none⟩) (by show _ ≤ w.heap.size; omega) _
  have HP0 := Lib.hid hp0
  by_cases hp1 : isPerm q = true
  case neg =>
    have hq1 : isPerm q = false := by simpa using hp1
    have HQ := Lib.hid hq1; clear hp1
    obtain ⟨a0, c0, rfl, hc0, hm0⟩ := hp.shape
    obtain ⟨a1, c1, rfl, hc1, hm1⟩ := hq.shape
    go_enter Try.func28, Try.ntmps28
    go_wp2_with fail
    obtain ⟨f2, hW0, hsz⟩ := boxes1 w [.slice none 0 0, .slice none 0 0] 27
    obtain ⟨W0, hW⟩ : ∃ W, (w.alloc (.cells #[.slice none 0 0, .slice none 0 0] 27)) = W := ⟨_, rfl⟩
    rw [hW] at f2 hW0 hsz ⊢
    clear hW hsz
    refine (c_l01PermV _ _ _ (hp.below hW0)).mono ?_; rintro e g0 ⟨rfl, hbg0⟩
    have hB0 := bb hW0 hbg0
    replace f2 := f2.under hbg0
    obtain ⟨cA2, cB2, fA2, fB2⟩ := two_cells f2
    clear hbg0
    go_wp2_with fail
    refine (c_l01PermV _ _ _ (hq.below hB0)).mono ?_; rintro e g1 ⟨rfl, hbg1⟩
    have hB1 := bb hB0 hbg1
    replace f2 := f2.under hbg1
    clear cA2 cB2 fA2 fB2
    obtain ⟨cA2, cB2, fA2, fB2⟩ := two_cells f2
    clear hbg1
    have HB := Lib.hid hB1
    clear hB0 hB1 hW0
    go_wp2
    refine bodyPost_ret (v := .tuple #[.agg #[.slice none 0 0, .slice none 0 0], .int .i64 2]) (by simp [results, Try.results28, go_sem, cA2, cB2]) rfl ⟨.slice none 0 0, .slice none 0 0, by simp [twRA, twRB, twCode, twOk, HQ.out, HP0.out], ?_, ?_⟩
    · exact ⟨_, rfl, ⟨by simpa [twRA, twRB, twCode, twOk, HQ.out, HP0.out] using (OwnRowsIn.nil0 0 0 _).rows, by simpa [twRA, twRB, twCode, twOk, HQ.out, HP0.out] using (OwnRowsIn.nil0 0 0 _).rows⟩, Nat.le_refl _, Below.refl _ _⟩
    · first | exact HB.out | exact (HB.out.setCell (p := ⟨w.heap.size, 0, none⟩) (by show _ ≤ w.heap.size; omega) _).setCell (p := ⟨w.heap.size, 1, none⟩) (by show _ ≤ w.heap.size; omega) _
  have HP1 := Lib.hid hp1
  by_cases hp2 : decide (p.length = q.length) = true
  case neg =>
    have hq2 : decide (p.length = q.length) = false := by simpa using hp2
    have hlen : ((p.length : Int) != (q.length : Int)) = true := by have h := hq2; simp at h ⊢; omega
    have HQ := Lib.hid hq2; clear hp2
    obtain ⟨a0, c0, rfl, hc0, hm0⟩ := hp.shape
    obtain ⟨a1, c1, rfl, hc1, hm1⟩ := hq.shape
    go_enter Try.func28, Try.ntmps28
    go_wp2_with fail
    obtain ⟨f2, hW0, hsz⟩ := boxes1 w [.slice none 0 0, .slice none 0 0] 27
    obtain ⟨W0, hW⟩ : ∃ W, (w.alloc (.cells #[.slice none 0 0, .slice none 0 0] 27)) = W := ⟨_, rfl⟩
    rw [hW] at f2 hW0 hsz ⊢
    clear hW hsz
    refine (c_l01PermV _ _ _ (hp.below hW0)).mono ?_; rintro e g0 ⟨rfl, hbg0⟩
    have hB0 := bb hW0 hbg0
    replace f2 := f2.under hbg0
    obtain ⟨cA2, cB2, fA2, fB2⟩ := two_cells f2
    clear hbg0
    go_wp2_with fail
    refine (c_l01PermV _ _ _ (hq.below hB0)).mono ?_; rintro e g1 ⟨rfl, hbg1⟩
    have hB1 := bb hB0 hbg1
    replace f2 := f2.under hbg1
    clear cA2 cB2 fA2 fB2
    obtain ⟨cA2, cB2, fA2, fB2⟩ := two_cells f2
    clear hbg1
    obtain ⟨g2, rfl⟩ : ∃ W : World, W = g1 := ⟨_, rfl⟩
    have hB2 := hB1
    have HB := Lib.hid hB2
    clear hB0 hB1 hB2 hW0
    go_wp2
    refine bodyPost_ret (v := .tuple #[.agg #[.slice none 0 0, .slice none 0 0], .int .i64 2]) (by simp [results, Try.results28, go_sem, cA2, cB2]) rfl ⟨.slice none 0 0, .slice none 0 0, by simp [twRA, twRB, twCode, twOk, HQ.out, HP0.out, HP1.out], ?_, ?_⟩
    · exact ⟨_, rfl, ⟨by simpa [twRA, twRB, twCode, twOk, HQ.out, HP0.out, HP1.out] using (OwnRowsIn.nil0 0 0 _).rows, by simpa [twRA, twRB, twCode, twOk, HQ.out, HP0.out, HP1.out] using (OwnRowsIn.nil0 0 0 _).rows⟩, Nat.le_refl _, Below.refl _ _⟩
    · first | exact HB.out | exact (HB.out.setCell (p := ⟨w.heap.size, 0, none⟩) (by show _ ≤ w.heap.size; omega) _).setCell (p := ⟨w.heap.size, 1, none⟩) (by show _ ≤ w.heap.size; omega) _
  have HP2 := Lib.hid hp2
  have hlen2 : ((p.length : Int) != (q.length : Int)) = false := by have h := hp2; simp at h ⊢; omega
  clear hp2
  obtain ⟨a0, c0, rfl, hc0, hm0⟩ := hp.shape
  obtain ⟨a1, c1, rfl, hc1, hm1⟩ := hq.shape
  go_enter Try.func28, Try.ntmps28
  go_wp2_with fail
  obtain ⟨f2, hW0, hsz⟩ := boxes1 w [.slice none 0 0, .slice none 0 0] 27
  obtain ⟨W0, hW⟩ : ∃ W, (w.alloc (.cells #[.slice none 0 0, .slice none 0 0] 27)) = W := ⟨_, rfl⟩
  rw [hW] at f2 hW0 hsz ⊢
  clear hW hsz
  refine (c_l01PermV _ _ _ (hp.below hW0)).mono ?_; rintro e g0 ⟨rfl, hbg0⟩
  have hB0 := bb hW0 hbg0
  replace f2 := f2.under hbg0
  obtain ⟨cA2, cB2, fA2, fB2⟩ := two_cells f2
  clear hbg0
  go_wp2_with fail
  refine (c_l01PermV _ _ _ (hq.below hB0)).mono ?_; rintro e g1 ⟨rfl, hbg1⟩
  have hB1 := bb hB0 hbg1
  replace f2 := f2.under hbg1
  clear cA2 cB2 fA2 fB2
  obtain ⟨cA2, cB2, fA2, fB2⟩ := two_cells f2
  clear hbg1
  obtain ⟨g2, rfl⟩ : ∃ W : World, W = g1 := ⟨_, rfl⟩
  have hB2 := hB1
  have HOK := Lib.hid (twOk_of HP0.out HP1.out (by simpa using HP2.out))
  obtain ⟨hin, hn⟩ := perm_inT HP0.out
  obtain ⟨hin2, hn2⟩ := perm_inT HP1.out
  have hlen : p.length = q.length := by simpa using HP2.out
  have HI := Lib.hid hin; have HI2 := Lib.hid hin2; have HLn := Lib.hid hlen
  clear hin hin2 hlen
  go_wp2_with fail
  refine (c_l01Then _ _ p q _ (hp.below hB2) (hq.below hB2) (by rw [← HLn.out]; exact HI.out) (by omega)).mono ?_; rintro e w1 ⟨r1, rfl, ho1, hb1⟩
  obtain ⟨x1, y1, hv1, _⟩ := ho1.shape
  rw [thenL_length] at hv1; subst hv1
  have k1 := bb hB2 hb1
  have HF1 := Lib.hid (f2.under hb1)
  have HO1 := Lib.hid ho1; clear ho1 hb1 f2 cA2 cB2 fA2 fB2
  go_wp2_with fail
  refine (c_l01Then _ _ q p _ (hq.below k1) (hp.below k1) (by rw [HLn.out]; exact HI2.out) (by omega)).mono ?_; rintro e w2 ⟨r2, rfl, ho2, hb2⟩
  obtain ⟨x2, y2, hv2, _⟩ := ho2.shape
  rw [thenL_length] at hv2; subst hv2
  have k2 := bb k1 hb2
  have HF2 := Lib.hid (HF1.out.under hb2)
  have HI1 := Lib.hid (HO1.out.ints.below hb2); have HO2 := Lib.hid ho2; clear ho2 hb2
  go_wp2_with fail
  refine (c_l01Same _ _ _ _ _ HI1.out HO2.out.ints).mono ?_; rintro e W3 hh
  obtain ⟨rfl, hb3⟩ := hh.r
  have HB3 := Lib.hid (bb k2 hb3)
  have HF3 := Lib.hid (HF2.out.under hb3)
  clear hh k1 k2 hb3 hB0 hB1 hB2 hW0
  obtain ⟨z0, z1, z2, z3⟩ := two_cells HF3.out
  by_cases hc : twCm p q = true
  case neg =>
    have hc' : twCm p q = false := by simpa using hc
    have hd : decide (thenL p q = thenL q p) = false := hc'
    have HC := Lib.hid hc'; clear hc hc'
    go_wp2
    refine bodyPost_ret (v := .tuple #[.agg #[.slice none 0 0, .slice none 0 0], .int .i64 5]) (by simp [results, Try.results28, go_sem, z0, z1]) rfl ⟨.slice none 0 0, .slice none 0 0, by simp [twCode, HOK.out, HC.out], ?_, ?_⟩
    · exact ⟨_, rfl, ⟨by simpa [twRA, HOK.out, HC.out] using (OwnRowsIn.nil0 0 0 _).rows, by simpa [twRB, HOK.out, HC.out] using (OwnRowsIn.nil0 0 0 _).rows⟩, Nat.le_refl _, Below.refl _ _⟩
    · first | exact HB3.out | exact (HB3.out.setCell (p := ⟨w.heap.size, 0, none⟩) (Nat.le_refl _) _).setCell (p := ⟨w.heap.size, 1, none⟩) (Nat.le_refl _) _
  have hd : decide (thenL p q = thenL q p) = true := hc
  have HC := Lib.hid hc; clear hc
  go_wp2_with fail
  refine (c_l02Twist _ _ p q _ (hp.below HB3.out) (hq.below HB3.out) HLn.out.symm (by omega)).mono ?_; rintro e wz ⟨s1, s2, rfl, hs, hbz⟩
  obtain ⟨sa1, sl1, sc1, rfl⟩ := hs.1.any
  obtain ⟨sa2, sl2, sc2, rfl⟩ := hs.2.any
  clear z0 z1 z2 z3
  obtain ⟨z0, z1, z2, z3⟩ := two_cells (HF3.out.under hbz)
  have HLo := Lib.hid HF3.out.lt; have HS := Lib.hid hs; have HBz := Lib.hid (bb HB3.out hbz)
  clear hs hbz
  go_wp2
  obtain ⟨hA, hB⟩ := storedR (q := w.heap.size) HBz.out HS.out (Nat.le_refl _) HLo.out
  refine bodyPost_ret (v := .tuple #[.agg #[.slice sa1 sl1 sc1, .slice sa2 sl2 sc2], .int .i64 0]) (by simp [results, Try.results28, go_sem, z0, z1]) rfl ⟨_, _, by simp [twCode, HOK.out, HC.out]; exact ⟨rfl, rfl⟩, by simpa [twRA, twRB, HOK.out, HC.out] using hA, hB⟩

set_option maxRecDepth 100000 in
set_option maxHeartbeats 4000000 in
theorem c_TwistSolution (v0 : Value) (p : List Int) (v1 : Value) (q : List Int) (w : World) (hp : Ints w v0 p) (hq : Ints w v1 q)  :
    Calls Try.prog 27 #[v0, v1] w (RSolC w (twRA p q) (twRB p q) (twCode p q)) := by
  by_cases hp0 : isPerm p = true
  case neg =>
    have hq0 : isPerm p = false := by simpa using hp0
    have HQ := Lib.hid hq0; clear hp0
    obtain ⟨a0, c0, rfl, hc0, hm0⟩ := hp.shape
    obtain ⟨a1, c1, rfl, hc1, hm1⟩ := hq.shape
    go_enter Try.func27, Try.ntmps27
    go_wp2_with fail
    obtain ⟨f2, hW0, hsz⟩ := boxes1 w [.slice none 0 0, .slice none 0 0] 27
    obtain ⟨W0, hW⟩ : ∃ W, (w.alloc (.cells #[.slice none 0 0, .slice none 0 0] 27)) = W := ⟨_, rfl⟩
    rw [hW] at f2 hW0 hsz ⊢
    clear hW hsz
    refine (c_IsPermutation _ _ _ (hp.below hW0)).mono ?_; rintro e g0 ⟨rfl, hbg0⟩
    have hB0 := bb hW0 hbg0
    replace f2 := f2.under hbg0
    obtain ⟨cA2, cB2, fA2, fB2⟩ := two_cells f2
    clear hbg0
    have HB := Lib.hid hB0
    clear hB0 hW0
    go_wp2
    refine bodyPost_ret (v := .tuple #[.agg #[.slice none 0 0, .slice none 0 0], .int .i64 2]) (by simp [results, Try.results27, go_sem, cA2, cB2]) rfl ⟨.slice none 0 0, .slice none 0 0, by simp [twRA, twRB, twCode, twOk, HQ.out], ?_, ?_⟩
    · have hz : w.heap.size ≤ g0.heap.size := HB.out.size
      rw [show twRA p q = [] from by simp [twRA, twRB, twCode, twOk, HQ.out], show twRB p q = [] from by simp [twRA, twRB, twCode, twOk, HQ.out]]
      exact OwnSol.nil0 (by first | exact hz | (simp [World.setCell]; exact hz))
    · first | exact HB.out | exact (HB.out.setCell (p := ⟨w.heap.size, 0, none⟩) (by show _ ≤ w.heap.size; omega) _).setCell (p := ⟨w.heap.size, 1, none⟩) (by show _ ≤ w.heap.size; omega) _
  have HP0 := Lib.hid hp0
  by_cases hp1 : isPerm q = true
  case neg =>
    have hq1 : isPerm q = false := by simpa using hp1
    have HQ := Lib.hid hq1; clear hp1
    obtain ⟨a0, c0, rfl, hc0, hm0⟩ := hp.shape
    obtain ⟨a1, c1, rfl, hc1, hm1⟩ := hq.shape
    go_enter Try.func27, Try.ntmps27
    go_wp2_with fail
    obtain ⟨f2, hW0, hsz⟩ := boxes1 w [.slice none 0 0, .slice none 0 0] 27
    obtain ⟨W0, hW⟩ : ∃ W, (w.alloc (.cells #[.slice none 0 0, .slice none 0 0] 27)) = W := ⟨_, rfl⟩
    rw [hW] at f2 hW0 hsz ⊢
    clear hW hsz
    refine (c_IsPermutation _ _ _ (hp.below hW0)).mono ?_; rintro e g0 ⟨rfl, hbg0⟩
    have hB0 := bb hW0 hbg0
    replace f2 := f2.under hbg0
    obtain ⟨cA2, cB2, fA2, fB2⟩ := two_cells f2
    clear hbg0
    go_wp2_with fail
    refine (c_IsPermutation _ _ _ (hq.below hB0)).mono ?_; rintro e g1 ⟨rfl, hbg1⟩
    have hB1 := bb hB0 hbg1
    replace f2 := f2.under hbg1
    clear cA2 cB2 fA2 fB2
    obtain ⟨cA2, cB2, fA2, fB2⟩ := two_cells f2
    clear hbg1
    have HB := Lib.hid hB1
    clear hB0 hB1 hW0
    go_wp2
    refine bodyPost_ret (v := .tuple #[.agg #[.slice none 0 0, .slice none 0 0], .int .i64 2]) (by simp [results, Try.results27, go_sem, cA2, cB2]) rfl ⟨.slice none 0 0, .slice none 0 0, by simp [twRA, twRB, twCode, twOk, HQ.out, HP0.out], ?_, ?_⟩
    · have hz : w.heap.size ≤ g1.heap.size := HB.out.size
      rw [show twRA p q = [] from by simp [twRA, twRB, twCode, twOk, HQ.out, HP0.out], show twRB p q = [] from by simp [twRA, twRB, twCode, twOk, HQ.out, HP0.out]]
      exact OwnSol.nil0 (by first | exact hz | (simp [World.setCell]; exact hz))
    · first | exact HB.out | exact (HB.out.setCell (p := ⟨w.heap.size, 0, none⟩) (by show _ ≤ w.heap.size; omega) _).setCell (p := ⟨w.heap.size, 1, none⟩) (by show _ ≤ w.heap.size; omega) _
  have HP1 := Lib.hid hp1
  by_cases hp2 : decide (p.length = q.length) = true
  case neg =>
    have hq2 : decide (p.length = q.length) = false := by simpa using hp2
    have hlen : ((p.length : Int) != (q.length : Int)) = true := by have h := hq2; simp at h ⊢; omega
    have HQ := Lib.hid hq2; clear hp2
    obtain ⟨a0, c0, rfl, hc0, hm0⟩ := hp.shape
    obtain ⟨a1, c1, rfl, hc1, hm1⟩ := hq.shape
    go_enter Try.func27, Try.ntmps27
    go_wp2_with fail
    obtain ⟨f2, hW0, hsz⟩ := boxes1 w [.slice none 0 0, .slice none 0 0] 27
    obtain ⟨W0, hW⟩ : ∃ W, (w.alloc (.cells #[.slice none 0 0, .slice none 0 0] 27)) = W := ⟨_, rfl⟩
    rw [hW] at f2 hW0 hsz ⊢
    clear hW hsz
    refine (c_IsPermutation _ _ _ (hp.below hW0)).mono ?_; rintro e g0 ⟨rfl, hbg0⟩
    have hB0 := bb hW0 hbg0
    replace f2 := f2.under hbg0
    obtain ⟨cA2, cB2, fA2, fB2⟩ := two_cells f2
    clear hbg0
    go_wp2_with fail
    refine (c_IsPermutation _ _ _ (hq.below hB0)).mono ?_; rintro e g1 ⟨rfl, hbg1⟩
    have hB1 := bb hB0 hbg1
    replace f2 := f2.under hbg1
    clear cA2 cB2 fA2 fB2
    obtain ⟨cA2, cB2, fA2, fB2⟩ := two_cells f2
    clear hbg1
    obtain ⟨g2, rfl⟩ : ∃ W : World, W = g1 := ⟨_, rfl⟩
    have hB2 := hB1
    have HB := Lib.hid hB2
    clear hB0 hB1 hB2 hW0
    go_wp2
    refine bodyPost_ret (v := .tuple #[.agg #[.slice none 0 0, .slice none 0 0], .int .i64 2]) (by simp [results, Try.results27, go_sem, cA2, cB2]) rfl ⟨.slice none 0 0, .slice none 0 0, by simp [twRA, twRB, twCode, twOk, HQ.out, HP0.out, HP1.out], ?_, ?_⟩
    · have hz : w.heap.size ≤ g2.heap.size := HB.out.size
      rw [show twRA p q = [] from by simp [twRA, twRB, twCode, twOk, HQ.out, HP0.out, HP1.out], show twRB p q = [] from by simp [twRA, twRB, twCode, twOk, HQ.out, HP0.out, HP1.out]]
      exact OwnSol.nil0 (by first | exact hz | (simp [World.setCell]; exact hz))
    · first | exact HB.out | exact (HB.out.setCell (p := ⟨w.heap.size, 0, none⟩) (by show _ ≤ w.heap.size; omega) _).setCell (p := ⟨w.heap.size, 1, none⟩) (by show _ ≤ w.heap.size; omega) _
  have HP2 := Lib.hid hp2
  have hlen2 : ((p.length : Int) != (q.length : Int)) = false := by have h := hp2; simp at h ⊢; omega
  clear hp2
  obtain ⟨a0, c0, rfl, hc0, hm0⟩ := hp.shape
  obtain ⟨a1, c1, rfl, hc1, hm1⟩ := hq.shape
  go_enter Try.func27, Try.ntmps27
  go_wp2_with fail
  obtain ⟨f2, hW0, hsz⟩ := boxes1 w [.slice none 0 0, .slice none 0 0] 27
  obtain ⟨W0, hW⟩ : ∃ W, (w.alloc (.cells #[.slice none 0 0, .slice none 0 0] 27)) = W := ⟨_, rfl⟩
  rw [hW] at f2 hW0 hsz ⊢
  clear hW hsz
  refine (c_IsPermutation _ _ _ (hp.below hW0)).mono ?_; rintro e g0 ⟨rfl, hbg0⟩
  have hB0 := bb hW0 hbg0
  replace f2 := f2.under hbg0
  obtain ⟨cA2, cB2, fA2, fB2⟩ := two_cells f2
  clear hbg0
  go_wp2_with fail
  refine (c_IsPermutation _ _ _ (hq.below hB0)).mono ?_; rintro e g1 ⟨rfl, hbg1⟩
  have hB1 := bb hB0 hbg1
  replace f2 := f2.under hbg1
  clear cA2 cB2 fA2 fB2
  obtain ⟨cA2, cB2, fA2, fB2⟩ := two_cells f2
  clear hbg1
  obtain ⟨g2, rfl⟩ : ∃ W : World, W = g1 := ⟨_, rfl⟩
  have hB2 := hB1
  have HOK := Lib.hid (twOk_of HP0.out HP1.out (by simpa using HP2.out))
  obtain ⟨hin, hn⟩ := perm_inT HP0.out
  obtain ⟨hin2, hn2⟩ := perm_inT HP1.out
  have hlen : p.length = q.length := by simpa using HP2.out
  have HI := Lib.hid hin; have HI2 := Lib.hid hin2; have HLn := Lib.hid hlen
  clear hin hin2 hlen
  go_wp2_with fail
  refine (c_then _ _ p q _ (hp.below hB2) (hq.below hB2) (by rw [← HLn.out]; exact HI.out) (by omega)).mono ?_; rintro e w1 ⟨r1, rfl, ho1, hb1⟩
  obtain ⟨x1, y1, hv1, _⟩ := ho1.shape
  rw [thenL_length] at hv1; subst hv1
  have k1 := bb hB2 hb1
  have HF1 := Lib.hid (f2.under hb1)
  have HO1 := Lib.hid ho1; clear ho1 hb1 f2 cA2 cB2 fA2 fB2
  go_wp2_with fail
  refine (c_then _ _ q p _ (hq.below k1) (hp.below k1) (by rw [HLn.out]; exact HI2.out) (by omega)).mono ?_; rintro e w2 ⟨r2, rfl, ho2, hb2⟩
  obtain ⟨x2, y2, hv2, _⟩ := ho2.shape
  rw [thenL_length] at hv2; subst hv2
  have k2 := bb k1 hb2
  have HF2 := Lib.hid (HF1.out.under hb2)
  have HI1 := Lib.hid (HO1.out.ints.below hb2); have HO2 := Lib.hid ho2; clear ho2 hb2
  go_wp2_with fail
  refine (c_slicesEqual _ _ _ _ _ HI1.out HO2.out.ints).mono ?_; rintro e W3 hh
  obtain ⟨rfl, hb3⟩ := hh.r
  have HB3 := Lib.hid (bb k2 hb3)
  have HF3 := Lib.hid (HF2.out.under hb3)
  clear hh k1 k2 hb3 hB0 hB1 hB2 hW0
  obtain ⟨z0, z1, z2, z3⟩ := two_cells HF3.out
  by_cases hc : twCm p q = true
  case neg =>
    have hc' : twCm p q = false := by simpa using hc
    have hd : decide (thenL p q = thenL q p) = false := hc'
    have HC := Lib.hid hc'; clear hc hc'
    go_wp2
    refine bodyPost_ret (v := .tuple #[.agg #[.slice none 0 0, .slice none 0 0], .int .i64 5]) (by simp [results, Try.results27, go_sem, z0, z1]) rfl ⟨.slice none 0 0, .slice none 0 0, by simp [twCode, HOK.out, HC.out], ?_, ?_⟩
    · have hz : w.heap.size ≤ W3.heap.size := HB3.out.size
      rw [show twRA p q = [] from by simp [twRA, HC.out], show twRB p q = [] from by simp [twRB, HC.out]]
      exact OwnSol.nil0 (by first | exact hz | (simp [World.setCell]; exact hz))
    · first | exact HB3.out | exact (HB3.out.setCell (p := ⟨w.heap.size, 0, none⟩) (Nat.le_refl _) _).setCell (p := ⟨w.heap.size, 1, none⟩) (Nat.le_refl _) _
  have hd : decide (thenL p q = thenL q p) = true := hc
  have HC := Lib.hid hc; clear hc
  go_wp2_with fail
  refine (c_twist _ _ p q _ (hp.below HB3.out) (hq.below HB3.out) HLn.out.symm (by omega)).mono ?_; rintro e wz ⟨s1, s2, rfl, hs, hbz⟩
  obtain ⟨sa1, sl1, sc1, rfl⟩ := hs.sol.1.any
  obtain ⟨sa2, sl2, sc2, rfl⟩ := hs.sol.2.any
  clear z0 z1 z2 z3
  obtain ⟨z0, z1, z2, z3⟩ := two_cells (HF3.out.under hbz)
  have HLo := Lib.hid HF3.out.lt; have HS := Lib.hid hs; have HBz := Lib.hid (bb HB3.out hbz)
  clear hs hbz
  go_wp2
  obtain ⟨hA, hB⟩ := stored (q := w.heap.size) HBz.out HS.out (Nat.le_refl _) HLo.out
  refine bodyPost_ret (v := .tuple #[.agg #[.slice sa1 sl1 sc1, .slice sa2 sl2 sc2], .int .i64 0]) (by simp [results, Try.results27, go_sem, z0, z1]) rfl ⟨_, _, by simp [twCode, HOK.out, HC.out]; exact ⟨rfl, rfl⟩, by simpa [twRA, twRB, HOK.out, HC.out] using hA, hB⟩

theorem tw_total (p q : List Int) : total (twRA p q) ≤ 144 ∧ total (twRB p q) ≤ 144 := by
  unfold twRA twRB
  split
  · rename_i h
    have hl : p.length ≤ 12 := by simp [twOk, isPerm, inR] at h; omega
    have h1 := total_le _ (tab_rows (g := fun _ y => nth p y) hl)
    have h2 := total_le _ (tab_rows (g := fun x _ => nth q x) hl)
    rw [tabOf_length] at h1 h2
    unfold twA twB
    omega
  · simp [total]
end Go.Proofs.Ytkcobfkmeaakoaa
