/-
  The law FnExactTwistSolution answers true, and leaves what was there as it was: at every two lists of integers.
-/
import Derived.Test.YtbljjjhppojnaaaT2
import Derived.Test.YtbljjjhppojnaaaI5
import Derived.Test.YtbljjjhppojnaaaLTables
namespace Go.Proofs.Ytbljjjhppojnaaa
open Go.RowKit

def twOk (p q : List Int) : Bool := isPerm p && isPerm q && decide (p.length = q.length)
def twCm (p q : List Int) : Bool := decide (thenL p q = thenL q p)
def twRA (p q : List Int) : List (List Int) := if twOk p q && twCm p q then twA p else []
def twRB (p q : List Int) : List (List Int) := if twOk p q && twCm p q then twB p q else []
def twCode (p q : List Int) : Int := if twOk p q then (if twCm p q then 0 else 5) else 2
theorem twOk_of {p q : List Int} (h1 : isPerm p = true) (h2 : isPerm q = true) (h3 : p.length = q.length) : twOk p q = true := by simp [twOk, h1, h2, h3]
theorem twOk_no1 {p q : List Int} (h1 : isPerm p = false) : twOk p q = false := by simp [twOk, h1]
theorem twOk_no2 {p q : List Int} (h1 : isPerm q = false) : twOk p q = false := by simp [twOk, h1]
theorem twOk_no3 {p q : List Int} (h1 : p.length ≠ q.length) : twOk p q = false := by simp [twOk, h1]
theorem perm_in {xs : List Int} (h : isPerm xs = true) : (∀ x ∈ xs, 0 ≤ x ∧ x < xs.length) ∧ xs.length ≤ 12 := by
  simp [isPerm, inR] at h; exact ⟨h.2.2, by omega⟩
set_option maxRecDepth 100000 in
set_option maxHeartbeats 4000000 in
theorem c_specTwistSolution (v0 : Value) (p : List Int) (v1 : Value) (q : List Int) (w : World) (hp : Ints w v0 p) (hq : Ints w v1 q)  :
    Calls Try.prog 51 #[v0, v1] w (RSolRC w (twRA p q) (twRB p q) (twCode p q)) := by
  by_cases hp0 : isPerm p = true
  case neg =>
    have hq0 : isPerm p = false := by simpa using hp0
    have HQ := Lib.hid hq0; clear hp0
    obtain ⟨a0, c0, rfl, hc0, hm0⟩ := hp.shape
    obtain ⟨a1, c1, rfl, hc1, hm1⟩ := hq.shape
    go_enter Try.func51, Try.ntmps51
    go_wp2_with fail
    obtain ⟨f2, hW0, hsz⟩ := boxes1 w [.slice none 0 0, .slice none 0 0] 28
    obtain ⟨W0, hW⟩ : ∃ W, (w.alloc (.cells #[.slice none 0 0, .slice none 0 0] 28)) = W := ⟨_, rfl⟩
    rw [hW] at f2 hW0 hsz ⊢
    clear hW hsz
    refine (c_l01PermV _ _ _ (hp.below hW0)).mono ?_; rintro e g0 ⟨rfl, hbg0⟩
    have hB0 := bb hW0 hbg0
    replace f2 := f2.under hbg0
    obtain ⟨cA2, cB2, fA2, fB2⟩ := two_cells f2
    clear hbg0
    have HB := Lib.hid hB0
    clear hB0 hW0
    go_wp2
    refine bodyPost_ret (v := .tuple #[.agg #[.slice none 0 0, .slice none 0 0], .int .i64 2]) (by simp [results, Try.results51, go_sem, cA2, cB2]) rfl ⟨.slice none 0 0, .slice none 0 0, by simp [twRA, twRB, twCode, twOk, HQ.out], ?_, ?_⟩
    · exact ⟨_, rfl, ⟨by simpa [twRA, twRB, twCode, twOk, HQ.out] using (OwnRowsIn.nil0 0 0 _).rows, by simpa [twRA, twRB, twCode, twOk, HQ.out] using (OwnRowsIn.nil0 0 0 _).rows⟩, Nat.le_refl _, Below.refl _ _⟩
    · first | exact HB.out | exact (HB.out.setCell (p := ⟨w.heap.size, 0, none⟩) (by show _ ≤ w.heap.size; omega) _).setCell (p := ⟨w.heap.size, 1, none⟩) (by show _ ≤ w.heap.size; omega) _
  have HP0 := Lib.hid hp0
  by_cases hp1 : isPerm q = true
  case neg =>
    have hq1 : isPerm q = false := by simpa using hp1
    have HQ := Lib.hid hq1; clear hp1
    obtain ⟨a0, c0, rfl, hc0, hm0⟩ := hp.shape
    obtain ⟨a1, c1, rfl, hc1, hm1⟩ := hq.shape
    go_enter Try.func51, Try.ntmps51
    go_wp2_with fail
    obtain ⟨f2, hW0, hsz⟩ := boxes1 w [.slice none 0 0, .slice none 0 0] 28
    obtain ⟨W0, hW⟩ : ∃ W, (w.alloc (.cells #[.slice none 0 0, .slice none 0 0] 28)) = W := ⟨_, rfl⟩
    rw [hW] at f2 hW0 hsz ⊢
    clear hW hsz
    refine (c_l01PermV _ _ _ (hp.below hW0)).mono ?_; rintro e g0 ⟨rfl, hbg0⟩
    have hB0 := bb hW0 hbg0
    replace f2 := f2.under hbg0
    obtain ⟨cA2, cB2, fA2, fB2⟩ := two_cells f2
    clear hbg0
    go_wp2_with fail
    refine (c_l01PermV _ _ _ (hq.below hB0)).mono ?_; rintro e g1 ⟨rfl, hbg1⟩
    have hB1 := bb hB0 hbg1
    replace f2 := f2.under hbg1
    clear cA2 cB2 fA2 fB2
    obtain ⟨cA2, cB2, fA2, fB2⟩ := two_cells f2
    clear hbg1
    have HB := Lib.hid hB1
    clear hB0 hB1 hW0
    go_wp2
    refine bodyPost_ret (v := .tuple #[.agg #[.slice none 0 0, .slice none 0 0], .int .i64 2]) (by simp [results, Try.results51, go_sem, cA2, cB2]) rfl ⟨.slice none 0 0, .slice none 0 0, by simp [twRA, twRB, twCode, twOk, HQ.out, HP0.out], ?_, ?_⟩
    · exact ⟨_, rfl, ⟨by simpa [twRA, twRB, twCode, twOk, HQ.out, HP0.out] using (OwnRowsIn.nil0 0 0 _).rows, by simpa [twRA, twRB, twCode, twOk, HQ.out, HP0.out] using (OwnRowsIn.nil0 0 0 _).rows⟩, Nat.le_refl _, Below.refl _ _⟩
    · first | exact HB.out | exact (HB.out.setCell (p := ⟨w.heap.size, 0, none⟩) (by show _ ≤ w.heap.size; omega) _).setCell (p := ⟨w.heap.size, 1, none⟩) (by show _ ≤ w.heap.size; omega) _
  have HP1 := Lib.hid hp1
  by_cases hp2 : decide (p.length = q.length) = true
  case neg =>
    have hq2 : decide (p.length = q.length) = false := by simpa using hp2
    have hlen : ((p.length : Int) != (q.length : Int)) = true := by have h := hq2; simp at h ⊢; omega
    have HQ := Lib.hid hq2; clear hp2
    obtain ⟨a0, c0, rfl, hc0, hm0⟩ := hp.shape
    obtain ⟨a1, c1, rfl, hc1, hm1⟩ := hq.shape
    go_enter Try.func51, Try.ntmps51
    go_wp2_with fail
    obtain ⟨f2, hW0, hsz⟩ := boxes1 w [.slice none 0 0, .slice none 0 0] 28
    obtain ⟨W0, hW⟩ : ∃ W, (w.alloc (.cells #[.slice none 0 0, .slice none 0 0] 28)) = W := ⟨_, rfl⟩
    rw [hW] at f2 hW0 hsz ⊢
    clear hW hsz
    refine (c_l01PermV _ _ _ (hp.below hW0)).mono ?_; rintro e g0 ⟨rfl, hbg0⟩
    have hB0 := bb hW0 hbg0
    replace f2 := f2.under hbg0
    obtain ⟨cA2, cB2, fA2, fB2⟩ := two_cells f2
    clear hbg0
    go_wp2_with fail
    refine (c_l01PermV _ _ _ (hq.below hB0)).mono ?_; rintro e g1 ⟨rfl, hbg1⟩
    have hB1 := bb hB0 hbg1
    replace f2 := f2.under hbg1
    clear cA2 cB2 fA2 fB2
    obtain ⟨cA2, cB2, fA2, fB2⟩ := two_cells f2
    clear hbg1
    obtain ⟨g2, rfl⟩ : ∃ W : World, W = g1 := ⟨_, rfl⟩
    have hB2 := hB1
    have HB := Lib.hid hB2
    clear hB0 hB1 hB2 hW0
    go_wp2
    refine bodyPost_ret (v := .tuple #[.agg #[.slice none 0 0, .slice none 0 0], .int .i64 2]) (by simp [results, Try.results51, go_sem, cA2, cB2]) rfl ⟨.slice none 0 0, .slice none 0 0, by simp [twRA, twRB, twCode, twOk, HQ.out, HP0.out, HP1.out], ?_, ?_⟩
    · exact ⟨_, rfl, ⟨by simpa [twRA, twRB, twCode, twOk, HQ.out, HP0.out, HP1.out] using (OwnRowsIn.nil0 0 0 _).rows, by simpa [twRA, twRB, twCode, twOk, HQ.out, HP0.out, HP1.out] using (OwnRowsIn.nil0 0 0 _).rows⟩, Nat.le_refl _, Below.refl _ _⟩
    · first | exact HB.out | exact (HB.out.setCell (p := ⟨w.heap.size, 0, none⟩) (by show _ ≤ w.heap.size; omega) _).setCell (p := ⟨w.heap.size, 1, none⟩) (by show _ ≤ w.heap.size; omega) _
  have HP2 := Lib.hid hp2
  have hlen2 : ((p.length : Int) != (q.length : Int)) = false := by have h := hp2; simp at h ⊢; omega
  clear hp2
  obtain ⟨a0, c0, rfl, hc0, hm0⟩ := hp.shape
  obtain ⟨a1, c1, rfl, hc1, hm1⟩ := hq.shape
  go_enter Try.func51, Try.ntmps51
  go_wp2_with fail
  obtain ⟨f2, hW0, hsz⟩ := boxes1 w [.slice none 0 0, .slice none 0 0] 28
  obtain ⟨W0, hW⟩ : ∃ W, (w.alloc (.cells #[.slice none 0 0, .slice none 0 0] 28)) = W := ⟨_, rfl⟩
  rw [hW] at f2 hW0 hsz ⊢
  clear hW hsz
  refine (c_l01PermV _ _ _ (hp.below hW0)).mono ?_; rintro e g0 ⟨rfl, hbg0⟩
  have hB0 := bb hW0 hbg0
  replace f2 := f2.under hbg0
  obtain ⟨cA2, cB2, fA2, fB2⟩ := two_cells f2
  clear hbg0
  go_wp2_with fail
  refine (c_l01PermV _ _ _ (hq.below hB0)).mono ?_; rintro e g1 ⟨rfl, hbg1⟩
  have hB1 := bb hB0 hbg1
  replace f2 := f2.under hbg1
  clear cA2 cB2 fA2 fB2
  obtain ⟨cA2, cB2, fA2, fB2⟩ := two_cells f2
  clear hbg1
  obtain ⟨g2, rfl⟩ : ∃ W : World, W = g1 := ⟨_, rfl⟩
  have hB2 := hB1
  have HOK := Lib.hid (twOk_of HP0.out HP1.out (by simpa using HP2.out))
  obtain ⟨hin, hn⟩ := perm_in HP0.out
  obtain ⟨hin2, hn2⟩ := perm_in HP1.out
  have hlen : p.length = q.length := by simpa using HP2.out
  have HI := Lib.hid hin; have HI2 := Lib.hid hin2; have HLn := Lib.hid hlen
  clear hin hin2 hlen
  go_wp2_with fail
  refine (c_l01Then _ _ p q _ (hp.below hB2) (hq.below hB2) (by rw [← HLn.out]; exact HI.out) (by omega)).mono ?_; rintro e w1 ⟨r1, rfl, ho1, hb1⟩
  obtain ⟨x1, y1, hv1, _⟩ := ho1.shape
  rw [thenL_length] at hv1; subst hv1
  have k1 := bb hB2 hb1
  have HF1 := Lib.hid (f2.under hb1)
  have HO1 := Lib.hid ho1; clear ho1 hb1 f2 cA2 cB2 fA2 fB2
  go_wp2_with fail
  refine (c_l01Then _ _ q p _ (hq.below k1) (hp.below k1) (by rw [HLn.out]; exact HI2.out) (by omega)).mono ?_; rintro e w2 ⟨r2, rfl, ho2, hb2⟩
  obtain ⟨x2, y2, hv2, _⟩ := ho2.shape
  rw [thenL_length] at hv2; subst hv2
  have k2 := bb k1 hb2
  have HF2 := Lib.hid (HF1.out.under hb2)
  have HI1 := Lib.hid (HO1.out.ints.below hb2); have HO2 := Lib.hid ho2; clear ho2 hb2
  go_wp2_with fail
  refine (c_l01Same _ _ _ _ _ HI1.out HO2.out.ints).mono ?_; rintro e W3 hh
  obtain ⟨rfl, hb3⟩ := hh.r
  have HB3 := Lib.hid (bb k2 hb3)
  have HF3 := Lib.hid (HF2.out.under hb3)
  clear hh k1 k2 hb3 hB0 hB1 hB2 hW0
  obtain ⟨z0, z1, z2, z3⟩ := two_cells HF3.out
  by_cases hc : twCm p q = true
  case neg =>
    have hc' : twCm p q = false := by simpa using hc
    have hd : decide (thenL p q = thenL q p) = false := hc'
    have HC := Lib.hid hc'; clear hc hc'
    go_wp2
    refine bodyPost_ret (v := .tuple #[.agg #[.slice none 0 0, .slice none 0 0], .int .i64 5]) (by simp [results, Try.results51, go_sem, z0, z1]) rfl ⟨.slice none 0 0, .slice none 0 0, by simp [twCode, HOK.out, HC.out], ?_, ?_⟩
    · exact ⟨_, rfl, ⟨by simpa [twRA, HOK.out, HC.out] using (OwnRowsIn.nil0 0 0 _).rows, by simpa [twRB, HOK.out, HC.out] using (OwnRowsIn.nil0 0 0 _).rows⟩, Nat.le_refl _, Below.refl _ _⟩
    · first | exact HB3.out | exact (HB3.out.setCell (p := ⟨w.heap.size, 0, none⟩) (Nat.le_refl _) _).setCell (p := ⟨w.heap.size, 1, none⟩) (Nat.le_refl _) _
  have hd : decide (thenL p q = thenL q p) = true := hc
  have HC := Lib.hid hc; clear hc
  go_wp2_with fail
  refine (c_l02Twist _ _ p q _ (hp.below HB3.out) (hq.below HB3.out) HLn.out.symm (by omega)).mono ?_; rintro e wz ⟨s1, s2, rfl, hs, hbz⟩
  obtain ⟨sa1, sl1, sc1, rfl⟩ := hs.1.any
  obtain ⟨sa2, sl2, sc2, rfl⟩ := hs.2.any
  clear z0 z1 z2 z3
  obtain ⟨z0, z1, z2, z3⟩ := two_cells (HF3.out.under hbz)
  have HLo := Lib.hid HF3.out.lt; have HS := Lib.hid hs; have HBz := Lib.hid (bb HB3.out hbz)
  clear hs hbz
  go_wp2
  obtain ⟨hA, hB⟩ := storedR (q := w.heap.size) HBz.out HS.out (Nat.le_refl _) HLo.out
  refine bodyPost_ret (v := .tuple #[.agg #[.slice sa1 sl1 sc1, .slice sa2 sl2 sc2], .int .i64 0]) (by simp [results, Try.results51, go_sem, z0, z1]) rfl ⟨_, _, by simp [twCode, HOK.out, HC.out]; exact ⟨rfl, rfl⟩, by simpa [twRA, twRB, HOK.out, HC.out] using hA, hB⟩

set_option maxRecDepth 100000 in
set_option maxHeartbeats 4000000 in
theorem c_TwistSolution (v0 : Value) (p : List Int) (v1 : Value) (q : List Int) (w : World) (hp : Ints w v0 p) (hq : Ints w v1 q)  :
    Calls Try.prog 52 #[v0, v1] w (RSolC w (twRA p q) (twRB p q) (twCode p q)) := by
  by_cases hp0 : isPerm p = true
  case neg =>
    have hq0 : isPerm p = false := by simpa using hp0
    have HQ := Lib.hid hq0; clear hp0
    obtain ⟨a0, c0, rfl, hc0, hm0⟩ := hp.shape
    obtain ⟨a1, c1, rfl, hc1, hm1⟩ := hq.shape
    go_enter Try.func52, Try.ntmps52
    go_wp2_with fail
    obtain ⟨f2, hW0, hsz⟩ := boxes1 w [.slice none 0 0, .slice none 0 0] 28
    obtain ⟨W0, hW⟩ : ∃ W, (w.alloc (.cells #[.slice none 0 0, .slice none 0 0] 28)) = W := ⟨_, rfl⟩
    rw [hW] at f2 hW0 hsz ⊢
    clear hW hsz
    refine (c_IsPermutation _ _ _ (hp.below hW0)).mono ?_; rintro e g0 ⟨rfl, hbg0⟩
    have hB0 := bb hW0 hbg0
    replace f2 := f2.under hbg0
    obtain ⟨cA2, cB2, fA2, fB2⟩ := two_cells f2
    clear hbg0
    have HB := Lib.hid hB0
    clear hB0 hW0
    go_wp2
    refine bodyPost_ret (v := .tuple #[.agg #[.slice none 0 0, .slice none 0 0], .int .i64 2]) (by simp [results, Try.results52, go_sem, cA2, cB2]) rfl ⟨.slice none 0 0, .slice none 0 0, by simp [twRA, twRB, twCode, twOk, HQ.out], ?_, ?_⟩
    · have hz : w.heap.size ≤ g0.heap.size := HB.out.size
      rw [show twRA p q = [] from by simp [twRA, twRB, twCode, twOk, HQ.out], show twRB p q = [] from by simp [twRA, twRB, twCode, twOk, HQ.out]]
      exact OwnSol.nil0 (by first | exact hz | (simp [World.setCell]; exact hz))
    · first | exact HB.out | exact (HB.out.setCell (p := ⟨w.heap.size, 0, none⟩) (by show _ ≤ w.heap.size; omega) _).setCell (p := ⟨w.heap.size, 1, none⟩) (by show _ ≤ w.heap.size; omega) _
  have HP0 := Lib.hid hp0
  by_cases hp1 : isPerm q = true
  case neg =>
    have hq1 : isPerm q = false := by simpa using hp1
    have HQ := Lib.hid hq1; clear hp1
    obtain ⟨a0, c0, rfl, hc0, hm0⟩ := hp.shape
    obtain ⟨a1, c1, rfl, hc1, hm1⟩ := hq.shape
    go_enter Try.func52, Try.ntmps52
    go_wp2_with fail
    obtain ⟨f2, hW0, hsz⟩ := boxes1 w [.slice none 0 0, .slice none 0 0] 28
    obtain ⟨W0, hW⟩ : ∃ W, (w.alloc (.cells #[.slice none 0 0, .slice none 0 0] 28)) = W := ⟨_, rfl⟩
    rw [hW] at f2 hW0 hsz ⊢
    clear hW hsz
    refine (c_IsPermutation _ _ _ (hp.below hW0)).mono ?_; rintro e g0 ⟨rfl, hbg0⟩
    have hB0 := bb hW0 hbg0
    replace f2 := f2.under hbg0
    obtain ⟨cA2, cB2, fA2, fB2⟩ := two_cells f2
    clear hbg0
    go_wp2_with fail
    refine (c_IsPermutation _ _ _ (hq.below hB0)).mono ?_; rintro e g1 ⟨rfl, hbg1⟩
    have hB1 := bb hB0 hbg1
    replace f2 := f2.under hbg1
    clear cA2 cB2 fA2 fB2
    obtain ⟨cA2, cB2, fA2, fB2⟩ := two_cells f2
    clear hbg1
    have HB := Lib.hid hB1
    clear hB0 hB1 hW0
    go_wp2
    refine bodyPost_ret (v := .tuple #[.agg #[.slice none 0 0, .slice none 0 0], .int .i64 2]) (by simp [results, Try.results52, go_sem, cA2, cB2]) rfl ⟨.slice none 0 0, .slice none 0 0, by simp [twRA, twRB, twCode, twOk, HQ.out, HP0.out], ?_, ?_⟩
    · have hz : w.heap.size ≤ g1.heap.size := HB.out.size
      rw [show twRA p q = [] from by simp [twRA, twRB, twCode, twOk, HQ.out, HP0.out], show twRB p q = [] from by simp [twRA, twRB, twCode, twOk, HQ.out, HP0.out]]
      exact OwnSol.nil0 (by first | exact hz | (simp [World.setCell]; exact hz))
    · first | exact HB.out | exact (HB.out.setCell (p := ⟨w.heap.size, 0, none⟩) (by show _ ≤ w.heap.size; omega) _).setCell (p := ⟨w.heap.size, 1, none⟩) (by show _ ≤ w.heap.size; omega) _
  have HP1 := Lib.hid hp1
  by_cases hp2 : decide (p.length = q.length) = true
  case neg =>
    have hq2 : decide (p.length = q.length) = false := by simpa using hp2
    have hlen : ((p.length : Int) != (q.length : Int)) = true := by have h := hq2; simp at h ⊢; omega
    have HQ := Lib.hid hq2; clear hp2
    obtain ⟨a0, c0, rfl, hc0, hm0⟩ := hp.shape
    obtain ⟨a1, c1, rfl, hc1, hm1⟩ := hq.shape
    go_enter Try.func52, Try.ntmps52
    go_wp2_with fail
    obtain ⟨f2, hW0, hsz⟩ := boxes1 w [.slice none 0 0, .slice none 0 0] 28
    obtain ⟨W0, hW⟩ : ∃ W, (w.alloc (.cells #[.slice none 0 0, .slice none 0 0] 28)) = W := ⟨_, rfl⟩
    rw [hW] at f2 hW0 hsz ⊢
    clear hW hsz
    refine (c_IsPermutation _ _ _ (hp.below hW0)).mono ?_; rintro e g0 ⟨rfl, hbg0⟩
    have hB0 := bb hW0 hbg0
    replace f2 := f2.under hbg0
    obtain ⟨cA2, cB2, fA2, fB2⟩ := two_cells f2
    clear hbg0
    go_wp2_with fail
    refine (c_IsPermutation _ _ _ (hq.below hB0)).mono ?_; rintro e g1 ⟨rfl, hbg1⟩
    have hB1 := bb hB0 hbg1
    replace f2 := f2.under hbg1
    clear cA2 cB2 fA2 fB2
    obtain ⟨cA2, cB2, fA2, fB2⟩ := two_cells f2
    clear hbg1
    obtain ⟨g2, rfl⟩ : ∃ W : World, W = g1 := ⟨_, rfl⟩
    have hB2 := hB1
    have HB := Lib.hid hB2
    clear hB0 hB1 hB2 hW0
    go_wp2
    refine bodyPost_ret (v := .tuple #[.agg #[.slice none 0 0, .slice none 0 0], .int .i64 2]) (by simp [results, Try.results52, go_sem, cA2, cB2]) rfl ⟨.slice none 0 0, .slice none 0 0, by simp [twRA, twRB, twCode, twOk, HQ.out, HP0.out, HP1.out], ?_, ?_⟩
    · have hz : w.heap.size ≤ g2.heap.size := HB.out.size
      rw [show twRA p q = [] from by simp [twRA, twRB, twCode, twOk, HQ.out, HP0.out, HP1.out], show twRB p q = [] from by simp [twRA, twRB, twCode, twOk, HQ.out, HP0.out, HP1.out]]
      exact OwnSol.nil0 (by first | exact hz | (simp [World.setCell]; exact hz))
    · first | exact HB.out | exact (HB.out.setCell (p := ⟨w.heap.size, 0, none⟩) (by show _ ≤ w.heap.size; omega) _).setCell (p := ⟨w.heap.size, 1, none⟩) (by show _ ≤ w.heap.size; omega) _
  have HP2 := Lib.hid hp2
  have hlen2 : ((p.length : Int) != (q.length : Int)) = false := by have h := hp2; simp at h ⊢; omega
  clear hp2
  obtain ⟨a0, c0, rfl, hc0, hm0⟩ := hp.shape
  obtain ⟨a1, c1, rfl, hc1, hm1⟩ := hq.shape
  go_enter Try.func52, Try.ntmps52
  go_wp2_with fail
  obtain ⟨f2, hW0, hsz⟩ := boxes1 w [.slice none 0 0, .slice none 0 0] 28
  obtain ⟨W0, hW⟩ : ∃ W, (w.alloc (.cells #[.slice none 0 0, .slice none 0 0] 28)) = W := ⟨_, rfl⟩
  rw [hW] at f2 hW0 hsz ⊢
  clear hW hsz
  refine (c_IsPermutation _ _ _ (hp.below hW0)).mono ?_; rintro e g0 ⟨rfl, hbg0⟩
  have hB0 := bb hW0 hbg0
  replace f2 := f2.under hbg0
  obtain ⟨cA2, cB2, fA2, fB2⟩ := two_cells f2
  clear hbg0
  go_wp2_with fail
  refine (c_IsPermutation _ _ _ (hq.below hB0)).mono ?_; rintro e g1 ⟨rfl, hbg1⟩
  have hB1 := bb hB0 hbg1
  replace f2 := f2.under hbg1
  clear cA2 cB2 fA2 fB2
  obtain ⟨cA2, cB2, fA2, fB2⟩ := two_cells f2
  clear hbg1
  obtain ⟨g2, rfl⟩ : ∃ W : World, W = g1 := ⟨_, rfl⟩
  have hB2 := hB1
  have HOK := Lib.hid (twOk_of HP0.out HP1.out (by simpa using HP2.out))
  obtain ⟨hin, hn⟩ := perm_in HP0.out
  obtain ⟨hin2, hn2⟩ := perm_in HP1.out
  have hlen : p.length = q.length := by simpa using HP2.out
  have HI := Lib.hid hin; have HI2 := Lib.hid hin2; have HLn := Lib.hid hlen
  clear hin hin2 hlen
  go_wp2_with fail
  refine (c_then _ _ p q _ (hp.below hB2) (hq.below hB2) (by rw [← HLn.out]; exact HI.out) (by omega)).mono ?_; rintro e w1 ⟨r1, rfl, ho1, hb1⟩
  obtain ⟨x1, y1, hv1, _⟩ := ho1.shape
  rw [thenL_length] at hv1; subst hv1
  have k1 := bb hB2 hb1
  have HF1 := Lib.hid (f2.under hb1)
  have HO1 := Lib.hid ho1; clear ho1 hb1 f2 cA2 cB2 fA2 fB2
  go_wp2_with fail
  refine (c_then _ _ q p _ (hq.below k1) (hp.below k1) (by rw [HLn.out]; exact HI2.out) (by omega)).mono ?_; rintro e w2 ⟨r2, rfl, ho2, hb2⟩
  obtain ⟨x2, y2, hv2, _⟩ := ho2.shape
  rw [thenL_length] at hv2; subst hv2
  have k2 := bb k1 hb2
  have HF2 := Lib.hid (HF1.out.under hb2)
  have HI1 := Lib.hid (HO1.out.ints.below hb2); have HO2 := Lib.hid ho2; clear ho2 hb2
  go_wp2_with fail
  refine (c_slicesEqual _ _ _ _ _ HI1.out HO2.out.ints).mono ?_; rintro e W3 hh
  obtain ⟨rfl, hb3⟩ := hh.r
  have HB3 := Lib.hid (bb k2 hb3)
  have HF3 := Lib.hid (HF2.out.under hb3)
  clear hh k1 k2 hb3 hB0 hB1 hB2 hW0
  obtain ⟨z0, z1, z2, z3⟩ := two_cells HF3.out
  by_cases hc : twCm p q = true
  case neg =>
    have hc' : twCm p q = false := by simpa using hc
    have hd : decide (thenL p q = thenL q p) = false := hc'
    have HC := Lib.hid hc'; clear hc hc'
    go_wp2
    refine bodyPost_ret (v := .tuple #[.agg #[.slice none 0 0, .slice none 0 0], .int .i64 5]) (by simp [results, Try.results52, go_sem, z0, z1]) rfl ⟨.slice none 0 0, .slice none 0 0, by simp [twCode, HOK.out, HC.out], ?_, ?_⟩
    · have hz : w.heap.size ≤ W3.heap.size := HB3.out.size
      rw [show twRA p q = [] from by simp [twRA, HC.out], show twRB p q = [] from by simp [twRB, HC.out]]
      exact OwnSol.nil0 (by first | exact hz | (simp [World.setCell]; exact hz))
    · first | exact HB3.out | exact (HB3.out.setCell (p := ⟨w.heap.size, 0, none⟩) (Nat.le_refl _) _).setCell (p := ⟨w.heap.size, 1, none⟩) (Nat.le_refl _) _
  have hd : decide (thenL p q = thenL q p) = true := hc
  have HC := Lib.hid hc; clear hc
  go_wp2_with fail
  refine (c_twist _ _ p q _ (hp.below HB3.out) (hq.below HB3.out) HLn.out.symm (by omega)).mono ?_; rintro e wz ⟨s1, s2, rfl, hs, hbz⟩
  obtain ⟨sa1, sl1, sc1, rfl⟩ := hs.sol.1.any
  obtain ⟨sa2, sl2, sc2, rfl⟩ := hs.sol.2.any
  clear z0 z1 z2 z3
  obtain ⟨z0, z1, z2, z3⟩ := two_cells (HF3.out.under hbz)
  have HLo := Lib.hid HF3.out.lt; have HS := Lib.hid hs; have HBz := Lib.hid (bb HB3.out hbz)
  clear hs hbz
  go_wp2
  obtain ⟨hA, hB⟩ := stored (q := w.heap.size) HBz.out HS.out (Nat.le_refl _) HLo.out
  refine bodyPost_ret (v := .tuple #[.agg #[.slice sa1 sl1 sc1, .slice sa2 sl2 sc2], .int .i64 0]) (by simp [results, Try.results52, go_sem, z0, z1]) rfl ⟨_, _, by simp [twCode, HOK.out, HC.out]; exact ⟨rfl, rfl⟩, by simpa [twRA, twRB, HOK.out, HC.out] using hA, hB⟩

theorem tw_total (p q : List Int) : total (twRA p q) ≤ 144 ∧ total (twRB p q) ≤ 144 := by
  unfold twRA twRB
  split
  · rename_i h
    have hl : p.length ≤ 12 := by simp [twOk, isPerm, inR] at h; omega
    have h1 := total_le _ (tab_rows (g := fun _ y => nth p y) hl)
    have h2 := total_le _ (tab_rows (g := fun x _ => nth q x) hl)
    rw [tabOf_length] at h1 h2
    unfold twA twB
    omega
  · simp [total]
set_option maxHeartbeats 4000000 in
theorem law_TwistSolution (v0 : Value) (x0 : List Int) (v1 : Value) (x1 : List Int) (w : World) (hx0 : Ints w v0 x0) (hx1 : Ints w v1 x1) :
    Calls Try.prog 13 #[v0, v1] w (RVal w (.bool true)) := by
  obtain ⟨a0, c0, rfl, hc0, hm0⟩ := hx0.shape
  obtain ⟨a1, c1, rfl, hc1, hm1⟩ := hx1.shape
  by_cases hn0 : x0.length ≤ 1048576
  case neg =>
    go_enter Try.func13, Try.ntmps13
    go_wp2
    go_ret
    exact ⟨rfl, by first | exact Below.refl _ _ | exact (Below.refl _ _).alloc (Nat.le_refl _) _ | exact ((Below.refl _ _).alloc (Nat.le_refl _) _).alloc (by simp) _⟩
  by_cases hn1 : x1.length ≤ 1048576
  case neg =>
    go_enter Try.func13, Try.ntmps13
    go_wp2
    go_ret
    exact ⟨rfl, by first | exact Below.refl _ _ | exact (Below.refl _ _).alloc (Nat.le_refl _) _ | exact ((Below.refl _ _).alloc (Nat.le_refl _) _).alloc (by simp) _⟩
  go_enter Try.func13, Try.ntmps13
  have BW : Below w.heap.size w w := Below.refl _ _
  have hB0 : total (twRA x0 x1) + total (twRB x0 x1) ≤ 1152921504606846976 := by have := tw_total x0 x1; omega
  obtain ⟨RA0, hRA0⟩ : ∃ z, z = twRA x0 x1 := ⟨_, rfl⟩
  obtain ⟨RB0, hRB0⟩ : ∃ z, z = twRB x0 x1 := ⟨_, rfl⟩
  obtain ⟨R1, hR1⟩ : ∃ z, z = twCode x0 x1 := ⟨_, rfl⟩
  rw [← hRA0, ← hRB0] at hB0
  have HRA0 := Lib.hid hRA0
  clear hRA0
  have HRB0 := Lib.hid hRB0
  clear hRB0
  have HR1 := Lib.hid hR1
  clear hR1
  have hd0 : decide (RA0 = RA0 ∧ RB0 = RB0) = true := by simp
  have hk1 : (R1 != R1) = false := by simp
  have hda0 : decide (x0 = x0) = true := by simp
  have hda1 : decide (x1 = x1) = true := by simp
  have hq0 : ((1 + (total RA0 : Int) + (total RB0 : Int)) != (1 + (total RA0 : Int) + (total RB0 : Int))) = false := by simp
  go_wp2_with fail
  refine (c_toInt64S _ _ _ (hx0.below BW) (by omega)).mono ?_; rintro e w1 ⟨t1, rfl, ot1r, hb1⟩
  have hs1 := hb1.size
  replace BW := bb BW hb1
  have ot1 := ot1r.inn
  clear ot1r
  clear hb1
  go_wp2_with fail
  refine (c_toInt64S _ _ _ (hx1.below BW) (by omega)).mono ?_; rintro e w2 ⟨t2, rfl, ot2r, hb2⟩
  have hs2 := hb2.size
  replace ot1 := ot1.under hb2
  replace BW := bb BW hb2
  have ot2 := ot2r.inn
  clear ot2r
  clear hb2
  go_wp2_with fail
  refine (c_specTwistSolution _ _ _ _ _ (ot1.ints) (ot2.ints)).mono ?_
  rw [← HRA0.out, ← HRB0.out, ← HR1.out]
  rintro e w3 ⟨s01, s02, rfl, os0, hb3⟩
  have hs3 := hb3.size
  replace ot1 := ot1.under hb3
  replace ot2 := ot2.under hb3
  replace BW := bb BW hb3
  clear ot1
  clear ot2
  have hS := os0.sol
  clear os0
  obtain ⟨sas0, scs0, hvs0, _, _⟩ := hS.1.shape
  subst hvs0
  obtain ⟨sbs0, sds0, hvs0, _, _⟩ := hS.2.shape
  subst hvs0
  have BS : Below w3.heap.size w3 w3 := Below.refl _ _
  clear hb3
  go_wp2_with fail
  obtain ⟨bxs0, hb4, hz4⟩ := boxes1 w3 [.slice sas0 RA0.length scs0, .slice sbs0 RB0.length sds0] 28
  obtain ⟨w4, hW4⟩ : ∃ W, w3.alloc (.cells #[.slice sas0 RA0.length scs0, .slice sbs0 RB0.length sds0] 28) = W := ⟨_, rfl⟩
  rw [hW4] at bxs0 hb4 hz4 ⊢
  have hs4 : w3.heap.size + 1 ≤ w4.heap.size := by omega
  clear hW4 hz4
  replace BW := bb BW hb4
  replace BS := bb BS hb4
  obtain ⟨cAs0, cBs0, -, -⟩ := two_cells bxs0
  clear hb4
  refine (c_toInt64S _ _ _ (hx0.below BW) (by omega)).mono ?_; rintro e w5 ⟨z0, rfl, oz0r, hb5⟩
  have hs5 := hb5.size
  replace BW := bb BW hb5
  replace BS := bb BS hb5
  replace bxs0 := bxs0.under hb5
  clear cAs0 cBs0
  obtain ⟨cAs0, cBs0, -, -⟩ := two_cells bxs0
  have oz0 := oz0r.inn
  clear oz0r
  clear hb5
  go_wp2_with fail
  refine (c_toInt64S _ _ _ (hx1.below BW) (by omega)).mono ?_; rintro e w6 ⟨z1, rfl, oz1r, hb6⟩
  have hs6 := hb6.size
  replace oz0 := oz0.under hb6
  replace BW := bb BW hb6
  replace BS := bb BS hb6
  replace bxs0 := bxs0.under hb6
  clear cAs0 cBs0
  obtain ⟨cAs0, cBs0, -, -⟩ := two_cells bxs0
  have oz1 := oz1r.inn
  clear oz1r
  clear hb6
  go_wp2_with fail
  refine (c_TwistSolution _ _ _ _ _ (oz0.ints) (oz1.ints)).mono ?_
  rw [← HRA0.out, ← HRB0.out, ← HR1.out]
  rintro e w7 ⟨g01, g02, rfl, og0, hb7⟩
  have hs7 := hb7.size
  replace oz0 := oz0.under hb7
  replace oz1 := oz1.under hb7
  replace BW := bb BW hb7
  replace BS := bb BS hb7
  replace bxs0 := bxs0.under hb7
  clear cAs0 cBs0
  obtain ⟨cAs0, cBs0, -, -⟩ := two_cells bxs0
  obtain ⟨sag0, scg0, hvg0, _, _⟩ := og0.sol.1.shape
  subst hvg0
  obtain ⟨sbg0, sdg0, hvg0, _, _⟩ := og0.sol.2.shape
  subst hvg0
  clear hb7
  obtain ⟨cAs0z, cBs0z, -, -⟩ := two_cells (bxs0.alloc (.cells #[.slice sag0 RA0.length scg0, .slice sbg0 RB0.length sdg0] 28))
  go_wp2_with fail
  clear cAs0z cBs0z
  obtain ⟨bxg0, hb8, hz8⟩ := boxes1 w7 [.slice sag0 RA0.length scg0, .slice sbg0 RB0.length sdg0] 28
  obtain ⟨w8, hW8⟩ : ∃ W, w7.alloc (.cells #[.slice sag0 RA0.length scg0, .slice sbg0 RB0.length sdg0] 28) = W := ⟨_, rfl⟩
  rw [hW8] at bxg0 hb8 hz8 ⊢
  have hs8 : w7.heap.size + 1 ≤ w8.heap.size := by omega
  clear hW8 hz8
  replace oz0 := oz0.under hb8
  replace oz1 := oz1.under hb8
  replace og0 := og0.under hb8
  replace BW := bb BW hb8
  replace BS := bb BS hb8
  replace bxs0 := bxs0.under hb8
  clear cAs0 cBs0
  obtain ⟨cAs0, cBs0, -, -⟩ := two_cells bxs0
  obtain ⟨cAg0, cBg0, -, -⟩ := two_cells bxg0
  clear hb8
  refine (c_eqS _ _ _ _ _ _ _ _ _ (og0.sol) (hS.below BS)).mono ?_; rintro e w9 ⟨rfl, hb9⟩
  have hs9 := hb9.size
  replace oz0 := oz0.under hb9
  replace oz1 := oz1.under hb9
  replace og0 := og0.under hb9
  replace BW := bb BW hb9
  replace BS := bb BS hb9
  replace bxs0 := bxs0.under hb9
  clear cAs0 cBs0
  obtain ⟨cAs0, cBs0, -, -⟩ := two_cells bxs0
  replace bxg0 := bxg0.under hb9
  clear cAg0 cBg0
  obtain ⟨cAg0, cBg0, -, -⟩ := two_cells bxg0
  clear hb9
  go_wp2_with fail
  refine (c_toInt64S _ _ _ (hx0.below BW) (by omega)).mono ?_; rintro e w10 ⟨t3, rfl, ot3r, hb10⟩
  have hs10 := hb10.size
  replace oz0 := oz0.under hb10
  replace oz1 := oz1.under hb10
  replace og0 := og0.under hb10
  replace BW := bb BW hb10
  replace BS := bb BS hb10
  replace bxs0 := bxs0.under hb10
  clear cAs0 cBs0
  obtain ⟨cAs0, cBs0, -, -⟩ := two_cells bxs0
  replace bxg0 := bxg0.under hb10
  clear cAg0 cBg0
  obtain ⟨cAg0, cBg0, -, -⟩ := two_cells bxg0
  have ot3 := ot3r.inn
  clear ot3r
  clear hb10
  go_wp2_with fail
  refine (c_eqI _ _ _ _ _ (oz0.ints) (ot3.ints)).mono ?_; rintro e w11 ⟨rfl, hb11⟩
  have hs11 := hb11.size
  replace oz0 := oz0.under hb11
  replace oz1 := oz1.under hb11
  replace og0 := og0.under hb11
  replace ot3 := ot3.under hb11
  replace BW := bb BW hb11
  replace BS := bb BS hb11
  replace bxs0 := bxs0.under hb11
  clear cAs0 cBs0
  obtain ⟨cAs0, cBs0, -, -⟩ := two_cells bxs0
  replace bxg0 := bxg0.under hb11
  clear cAg0 cBg0
  obtain ⟨cAg0, cBg0, -, -⟩ := two_cells bxg0
  clear hb11
  clear ot3
  go_wp2_with fail
  refine (c_toInt64S _ _ _ (hx1.below BW) (by omega)).mono ?_; rintro e w12 ⟨t4, rfl, ot4r, hb12⟩
  have hs12 := hb12.size
  replace oz0 := oz0.under hb12
  replace oz1 := oz1.under hb12
  replace og0 := og0.under hb12
  replace BW := bb BW hb12
  replace BS := bb BS hb12
  replace bxs0 := bxs0.under hb12
  clear cAs0 cBs0
  obtain ⟨cAs0, cBs0, -, -⟩ := two_cells bxs0
  replace bxg0 := bxg0.under hb12
  clear cAg0 cBg0
  obtain ⟨cAg0, cBg0, -, -⟩ := two_cells bxg0
  have ot4 := ot4r.inn
  clear ot4r
  clear hb12
  go_wp2_with fail
  refine (c_eqI _ _ _ _ _ (oz1.ints) (ot4.ints)).mono ?_; rintro e w13 ⟨rfl, hb13⟩
  have hs13 := hb13.size
  replace oz0 := oz0.under hb13
  replace oz1 := oz1.under hb13
  replace og0 := og0.under hb13
  replace ot4 := ot4.under hb13
  replace BW := bb BW hb13
  replace BS := bb BS hb13
  replace bxs0 := bxs0.under hb13
  clear cAs0 cBs0
  obtain ⟨cAs0, cBs0, -, -⟩ := two_cells bxs0
  replace bxg0 := bxg0.under hb13
  clear cAg0 cBg0
  obtain ⟨cAg0, cBg0, -, -⟩ := two_cells bxg0
  clear hb13
  clear ot4
  go_wp2_with fail
  refine (c_markI _ _ _ _ _ _ oz0 (by omega) (by omega)).mono ?_; rintro e w14 ⟨rfl, oz0m, hkw14⟩
  have hs14 := hkw14.size
  replace oz1 := oz1.keep hkw14 (fun b p q r => by omega)
  replace og0 := og0.keep hkw14 (fun b p q r => by omega)
  replace bxs0 := bxs0.of_block (hkw14.block _ (by omega) (by omega))
  clear cAs0 cBs0
  obtain ⟨cAs0, cBs0, -, -⟩ := two_cells bxs0
  replace bxg0 := bxg0.of_block (hkw14.block _ (by omega) (by omega))
  clear cAg0 cBg0
  obtain ⟨cAg0, cBg0, -, -⟩ := two_cells bxg0
  replace BW := below_keep BW hkw14 (by omega)
  replace BS := below_keep BS hkw14 (by omega)
  clear oz0
  have oz0 := oz0m
  clear oz0m hkw14
  clear oz0
  go_wp2_with fail
  refine (c_markI _ _ _ _ _ _ oz1 (by omega) (by omega)).mono ?_; rintro e w15 ⟨rfl, oz1m, hkw15⟩
  have hs15 := hkw15.size
  replace og0 := og0.keep hkw15 (fun b p q r => by omega)
  replace bxs0 := bxs0.of_block (hkw15.block _ (by omega) (by omega))
  clear cAs0 cBs0
  obtain ⟨cAs0, cBs0, -, -⟩ := two_cells bxs0
  replace bxg0 := bxg0.of_block (hkw15.block _ (by omega) (by omega))
  clear cAg0 cBg0
  obtain ⟨cAg0, cBg0, -, -⟩ := two_cells bxg0
  replace BW := below_keep BW hkw15 (by omega)
  replace BS := below_keep BS hkw15 (by omega)
  clear oz1
  have oz1 := oz1m
  clear oz1m hkw15
  clear oz1
  go_wp2_with fail
  refine (c_eqS _ _ _ _ _ _ _ _ _ (og0.sol) (hS.below BS)).mono ?_; rintro e w16 ⟨rfl, hb16⟩
  have hs16 := hb16.size
  replace og0 := og0.under hb16
  replace BW := bb BW hb16
  replace BS := bb BS hb16
  replace bxs0 := bxs0.under hb16
  clear cAs0 cBs0
  obtain ⟨cAs0, cBs0, -, -⟩ := two_cells bxs0
  replace bxg0 := bxg0.under hb16
  clear cAg0 cBg0
  obtain ⟨cAg0, cBg0, -, -⟩ := two_cells bxg0
  clear hb16
  go_wp2_with fail
  refine (c_markS _ _ _ _ _ _ _ _ og0 (by omega) (by omega) (by omega)).mono ?_; rintro e w17 ⟨rfl, og0m, hkw17⟩
  have hs17 := hkw17.size
  replace bxs0 := bxs0.of_block (hkw17.block _ (by omega) (by omega))
  clear cAs0 cBs0
  obtain ⟨cAs0, cBs0, -, -⟩ := two_cells bxs0
  replace bxg0 := bxg0.of_block (hkw17.block _ (by omega) (by omega))
  clear cAg0 cBg0
  obtain ⟨cAg0, cBg0, -, -⟩ := two_cells bxg0
  replace BW := below_keep BW hkw17 (by omega)
  replace BS := below_keep BS hkw17 (by omega)
  clear og0
  have og0 := og0m
  clear og0m hkw17
  go_wp2_with fail
  refine (c_heldS _ _ _ _ _ _ (og0.sol) (by omega) (by omega)).mono ?_; rintro e w18 ⟨rfl, hb18⟩
  have hs18 := hb18.size
  replace og0 := og0.under hb18
  replace BW := bb BW hb18
  replace BS := bb BS hb18
  replace bxs0 := bxs0.under hb18
  clear cAs0 cBs0
  obtain ⟨cAs0, cBs0, -, -⟩ := two_cells bxs0
  replace bxg0 := bxg0.under hb18
  clear cAg0 cBg0
  obtain ⟨cAg0, cBg0, -, -⟩ := two_cells bxg0
  clear hb18
  go_wp2_with fail
  refine (c_toInt64S _ _ _ (hx0.below BW) (by omega)).mono ?_; rintro e w19 ⟨t5, rfl, ot5r, hb19⟩
  have hs19 := hb19.size
  replace og0 := og0.under hb19
  replace BW := bb BW hb19
  replace BS := bb BS hb19
  replace bxs0 := bxs0.under hb19
  clear cAs0 cBs0
  obtain ⟨cAs0, cBs0, -, -⟩ := two_cells bxs0
  replace bxg0 := bxg0.under hb19
  clear cAg0 cBg0
  obtain ⟨cAg0, cBg0, -, -⟩ := two_cells bxg0
  have ot5 := ot5r.inn
  clear ot5r
  clear hb19
  go_wp2_with fail
  refine (c_toInt64S _ _ _ (hx1.below BW) (by omega)).mono ?_; rintro e w20 ⟨t6, rfl, ot6r, hb20⟩
  have hs20 := hb20.size
  replace og0 := og0.under hb20
  replace ot5 := ot5.under hb20
  replace BW := bb BW hb20
  replace BS := bb BS hb20
  replace bxs0 := bxs0.under hb20
  clear cAs0 cBs0
  obtain ⟨cAs0, cBs0, -, -⟩ := two_cells bxs0
  replace bxg0 := bxg0.under hb20
  clear cAg0 cBg0
  obtain ⟨cAg0, cBg0, -, -⟩ := two_cells bxg0
  have ot6 := ot6r.inn
  clear ot6r
  clear hb20
  go_wp2_with fail
  refine (c_TwistSolution _ _ _ _ _ (ot5.ints) (ot6.ints)).mono ?_
  rw [← HRA0.out, ← HRB0.out, ← HR1.out]
  rintro e w21 ⟨h01, h02, rfl, oh0, hb21⟩
  have hs21 := hb21.size
  replace og0 := og0.under hb21
  replace ot5 := ot5.under hb21
  replace ot6 := ot6.under hb21
  replace BW := bb BW hb21
  replace BS := bb BS hb21
  replace bxs0 := bxs0.under hb21
  clear cAs0 cBs0
  obtain ⟨cAs0, cBs0, -, -⟩ := two_cells bxs0
  replace bxg0 := bxg0.under hb21
  clear cAg0 cBg0
  obtain ⟨cAg0, cBg0, -, -⟩ := two_cells bxg0
  obtain ⟨sah0, sch0, hvh0, _, _⟩ := oh0.sol.1.shape
  subst hvh0
  obtain ⟨sbh0, sdh0, hvh0, _, _⟩ := oh0.sol.2.shape
  subst hvh0
  clear ot5
  clear ot6
  clear hb21
  obtain ⟨cAs0z, cBs0z, -, -⟩ := two_cells (bxs0.alloc (.cells #[.slice sah0 RA0.length sch0, .slice sbh0 RB0.length sdh0] 28))
  go_wp2_with fail
  clear cAs0z cBs0z
  obtain ⟨bxh0, hb22, hz22⟩ := boxes1 w21 [.slice sah0 RA0.length sch0, .slice sbh0 RB0.length sdh0] 28
  obtain ⟨w22, hW22⟩ : ∃ W, w21.alloc (.cells #[.slice sah0 RA0.length sch0, .slice sbh0 RB0.length sdh0] 28) = W := ⟨_, rfl⟩
  rw [hW22] at bxh0 hb22 hz22 ⊢
  have hs22 : w21.heap.size + 1 ≤ w22.heap.size := by omega
  clear hW22 hz22
  replace og0 := og0.under hb22
  replace oh0 := oh0.under hb22
  replace BW := bb BW hb22
  replace BS := bb BS hb22
  replace bxs0 := bxs0.under hb22
  clear cAs0 cBs0
  obtain ⟨cAs0, cBs0, -, -⟩ := two_cells bxs0
  replace bxg0 := bxg0.under hb22
  clear cAg0 cBg0
  obtain ⟨cAg0, cBg0, -, -⟩ := two_cells bxg0
  obtain ⟨cAh0, cBh0, -, -⟩ := two_cells bxh0
  clear hb22
  refine (c_eqS _ _ _ _ _ _ _ _ _ (oh0.sol) (hS.below BS)).mono ?_; rintro e w23 ⟨rfl, hb23⟩
  have hs23 := hb23.size
  replace og0 := og0.under hb23
  replace oh0 := oh0.under hb23
  replace BW := bb BW hb23
  replace BS := bb BS hb23
  replace bxs0 := bxs0.under hb23
  clear cAs0 cBs0
  obtain ⟨cAs0, cBs0, -, -⟩ := two_cells bxs0
  replace bxg0 := bxg0.under hb23
  clear cAg0 cBg0
  obtain ⟨cAg0, cBg0, -, -⟩ := two_cells bxg0
  replace bxh0 := bxh0.under hb23
  clear cAh0 cBh0
  obtain ⟨cAh0, cBh0, -, -⟩ := two_cells bxh0
  clear hb23
  go_wp2_with fail
  refine (c_heldS _ _ _ _ _ _ (og0.sol) (by omega) (by omega)).mono ?_; rintro e w24 ⟨rfl, hb24⟩
  have hs24 := hb24.size
  replace og0 := og0.under hb24
  replace oh0 := oh0.under hb24
  replace BW := bb BW hb24
  replace BS := bb BS hb24
  replace bxs0 := bxs0.under hb24
  clear cAs0 cBs0
  obtain ⟨cAs0, cBs0, -, -⟩ := two_cells bxs0
  replace bxg0 := bxg0.under hb24
  clear cAg0 cBg0
  obtain ⟨cAg0, cBg0, -, -⟩ := two_cells bxg0
  replace bxh0 := bxh0.under hb24
  clear cAh0 cBh0
  obtain ⟨cAh0, cBh0, -, -⟩ := two_cells bxh0
  clear hb24
  have HB := Lib.hid BW
  clear BW BS hS og0 oh0 hx0 hx1 bxs0 bxg0 bxh0
  go_wp2
  go_ret
  exact ⟨rfl, HB.out⟩
end Go.Proofs.Ytbljjjhppojnaaa
