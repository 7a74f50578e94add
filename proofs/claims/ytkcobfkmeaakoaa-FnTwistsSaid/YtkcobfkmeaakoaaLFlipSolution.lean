/-
  The law FnExactFlipSolution answers true, and leaves what was there as it was: at every number.
-/
import Derived.Test.YtkcobfkmeaakoaaS2b
import Derived.Test.YtkcobfkmeaakoaaLawC
namespace Go.Proofs.Ytkcobfkmeaakoaa
open Go.RowKit

def flN (n : Int) : List Int := iota n.toNat
def flA (n : Int) : List (List Int) := if inR n 1 12 then twA (flN n) else []
def flB (n : Int) : List (List Int) := if inR n 1 12 then twB (flN n) (flN n) else []
def flCode (n : Int) : Int := if inR n 1 12 then 0 else 2

set_option maxHeartbeats 400000 in
theorem c_l02Flip (n : Nat) (w : World) (hn : n ≤ 1048576) :
    Calls Try.prog 196 #[.int .i64 n] w (RSolR w (twA (iota n)) (twB (iota n) (iota n))) := by
  obtain ⟨f0, hW0, hsz⟩ := boxes1 w [.slice none 0 0, .slice none 0 0] 27
  have HF := Lib.hid f0; have HW := Lib.hid hW0; clear f0 hW0
  go_enter Try.func196, Try.ntmps196
  go_wp2_with fail
  refine (c_l01Unit n _ hn).mono ?_; rintro e w1 ⟨r1, rfl, ho1, hb1⟩
  have HO := Lib.hid ho1; have HB1 := Lib.hid hb1; clear ho1 hb1
  go_wp2_with fail
  refine (c_l02Twist _ _ (iota n) (iota n) _ HO.out.ints HO.out.ints rfl (by rw [iota_length]; exact hn)).mono ?_; rintro e w2 ⟨s1, s2, rfl, hs, hb2⟩
  obtain ⟨a1, c1, rfl, _⟩ := OwnRows.shape' hs.1
  obtain ⟨a2, c2, rfl, _⟩ := OwnRows.shape' hs.2
  obtain ⟨g0, g1, g2, g3⟩ := two_cells ((HF.out.under HB1.out).under hb2)
  have HS := Lib.hid hs; have HB2 := Lib.hid hb2; have HZ := Lib.hid hsz; clear hs hb2 hsz
  go_wp2
  have hz := HZ.out
  have hs1 : (w.alloc (.cells #[.slice none 0 0, .slice none 0 0] 27)).heap.size ≤ w1.heap.size := HB1.out.size
  refine bodyPost_ret (v := .agg #[.slice a1 (twA (iota n)).length c1, .slice a2 (twB (iota n) (iota n)).length c2]) (by simp [results, Try.results196, go_sem, g0, g1]) rfl ⟨_, _, rfl, ⟨?_, ?_⟩, ((bb (bb HW.out HB1.out) HB2.out).setCell (p := ⟨w.heap.size, 0, none⟩) (Nat.le_refl _) _).setCell (p := ⟨w.heap.size, 1, none⟩) (Nat.le_refl _) _⟩
  · exact ((HS.out.1.keep (keep1 _ w.heap.size 0 _) (fun b h1 h2 h3 => by have h3 : b = w.heap.size := h3; omega)).keep (keep1 _ w.heap.size 1 _) (fun b h1 h2 h3 => by have h3 : b = w.heap.size := h3; omega)).mono (by omega)
  · exact ((HS.out.2.keep (keep1 _ w.heap.size 0 _) (fun b h1 h2 h3 => by have h3 : b = w.heap.size := h3; omega)).keep (keep1 _ w.heap.size 1 _) (fun b h1 h2 h3 => by have h3 : b = w.heap.size := h3; omega)).mono (by omega)

set_option maxHeartbeats 400000 in
theorem c_FlipSolution (n : Int) (w : World) (hlo : -9223372036854775808 ≤ n) (hhi : n ≤ 9223372036854775807) :
    Calls Try.prog 36 #[.int .i64 n] w (RSolC w (flA n) (flB n) (flCode n)) := by
  obtain ⟨f0, hW0, hsz⟩ := boxes1 w [.slice none 0 0, .slice none 0 0] 27
  have HF := Lib.hid f0; have HW := Lib.hid hW0; have HZ := Lib.hid hsz; clear f0 hW0 hsz
  by_cases h : inR n 1 12 = true
  · have HN := Lib.hid h
    obtain ⟨m, rfl⟩ : ∃ m : Nat, n = m := ⟨n.toNat, by simp [inR] at h; omega⟩
    have hm : m ≤ 1048576 := by simp [inR] at h; omega
    go_enter Try.func36, Try.ntmps36
    go_wp2_with fail
    refine (c_within _ _ _ _).mono ?_; rintro e w' ⟨rfl, rfl⟩
    clear h
    have h := HN.out
    go_wp2_with fail
    refine (c_identity m _ hm).mono ?_; rintro e w1 ⟨r1, rfl, ho1, hb1⟩
    have HO1 := Lib.hid ho1; have HB1 := Lib.hid hb1; clear ho1 hb1
    go_wp2_with fail
    refine (c_identity m _ hm).mono ?_; rintro e w2 ⟨r2, rfl, ho2, hb2⟩
    have HO2 := Lib.hid ho2; have HB2 := Lib.hid hb2; clear ho2 hb2
    go_wp2_with fail
    refine (c_twist _ _ (iota m) (iota m) _ (HO1.out.ints.below HB2.out) HO2.out.ints rfl (by rw [iota_length]; exact hm)).mono ?_; rintro e w3 ⟨s1, s2, rfl, hs, hb3⟩
    obtain ⟨a1, c1, rfl, _, _⟩ := hs.sol.1.shape
    obtain ⟨a2, c2, rfl, _, _⟩ := hs.sol.2.shape
    obtain ⟨g0, g1, g2, g3⟩ := two_cells (((HF.out.under HB1.out).under HB2.out).under hb3)
    have HS := Lib.hid hs; have HB3 := Lib.hid hb3; clear hs hb3
    go_wp2
    have hz := HZ.out
    have hs1 := HB1.out.size
    have hs2 := HB2.out.size
    obtain ⟨hA, hB⟩ := stored (q := w.heap.size) (bb (bb (bb HW.out HB1.out) HB2.out) HB3.out) HS.out (Nat.le_refl _) (by omega)
    refine bodyPost_ret (v := .tuple #[.agg #[.slice a1 (twA (iota m)).length c1, .slice a2 (twB (iota m) (iota m)).length c2], .int .i64 0]) (by simp [results, Try.results36, go_sem, g0, g1]) rfl ⟨.slice a1 (twA (iota m)).length c1, .slice a2 (twB (iota m) (iota m)).length c2, by simp [flCode, HN.out], ?_, hB⟩
    have e1 : flA m = twA (iota m) := by simp [flA, flN, HN.out]
    have e2 : flB m = twB (iota m) (iota m) := by simp [flB, flN, HN.out]
    rw [e1, e2]
    exact hA
  · have h' : inR n 1 12 = false := by simpa using h
    have HN := Lib.hid h'
    clear h
    go_enter Try.func36, Try.ntmps36
    go_wp2_with fail
    refine (c_within _ _ _ _).mono ?_; rintro e w' ⟨rfl, rfl⟩
    clear h'
    have h' := HN.out
    obtain ⟨g0, g1, g2, g3⟩ := two_cells HF.out
    go_wp2
    refine bodyPost_ret (v := .tuple #[.agg #[.slice none 0 0, .slice none 0 0], .int .i64 2]) (by simp [results, Try.results36, go_sem, g0, g1]) rfl ⟨.slice none 0 0, .slice none 0 0, by simp [flCode, HN.out], ?_, ?_⟩
    · rw [show flA n = [] from by simp [flA, HN.out], show flB n = [] from by simp [flB, HN.out]]
      exact OwnSol.nil0 (by simp [World.setCell])
    · first | exact HW.out | exact (HW.out.setCell (p := ⟨w.heap.size, 0, none⟩) (Nat.le_refl _) _).setCell (p := ⟨w.heap.size, 1, none⟩) (Nat.le_refl _) _

theorem fl_total (n : Int) : total (flA n) ≤ 144 ∧ total (flB n) ≤ 144 := by
  unfold flA flB
  split
  · rename_i h
    have hl : (flN n).length ≤ 12 := by simp [inR] at h; simp [flN]; omega
    have h1 := total_le _ (tab_rows (g := fun _ y => nth (flN n) y) hl)
    have h2 := total_le _ (tab_rows (g := fun x _ => nth (flN n) x) hl)
    rw [tabOf_length] at h1 h2
    unfold twA twB
    omega
  · simp [total]

end Go.Proofs.Ytkcobfkmeaakoaa
