/-
  Contracts of the laws' own helpers for racks: size, copy, compare. No condition but sizes.
-/
import Derived.Test.YtdhbleiioagmlaaI4
namespace Go.Proofs.Ytdhbleiioagmlaa
open Go.RowKit

def RRk (w0 : World) (t : List (List Int)) (e : Ending) (w' : World) : Prop := ∃ r, e = .returned (.agg #[r]) ∧ OwnRows w0.heap.size w' r t ∧ Below w0.heap.size w0 w'

set_option maxHeartbeats 400000 in
theorem c_szRack (v : Value) (t : List (List Int)) (left : Int) (w : World) (hx : Rows w v t) (h0 : 0 ≤ left) (h1 : left ≤ 1048576) :
    Calls Try.prog 29 #[.agg #[v], .int .i64 left] w (RVal w (.int .i64 (leftR t left))) := by
  obtain ⟨a1, c1, rfl, _, _⟩ := hx.shape
  have hB0 : Below w.heap.size w (w.alloc (.cells #[.slice a1 t.length c1] 42)) := (Below.refl _ _).alloc (Nat.le_refl _) _
  have ha1 := hx.below hB0
  have hr := leftR_range t left h0
  have HB := Lib.hid hB0
  clear hx hB0
  go_enter Try.func29, Try.ntmps29
  go_wp2_with fail
  refine (c_szInt64SS _ _ _ _ ha1 h0 h1).mono ?_; rintro e w' ⟨rfl, rfl⟩
  by_cases hneg : leftR t left < 0
  · have hn1 := leftR_neg t left h0 hneg
    have HN := Lib.hid hn1; clear hn1
    go_wp2
    go_ret
    exact ⟨ret_int HN.out.symm, HB.out⟩
  · go_wp2
    go_ret
    exact ⟨rfl, HB.out⟩

set_option maxHeartbeats 400000 in
theorem c_toRack (v : Value) (t : List (List Int)) (w : World) (hx : Rows w v t) (hA : t.length ≤ 1048576) (hA2 : ∀ r ∈ t, r.length ≤ 1048576) :
    Calls Try.prog 31 #[.agg #[v]] w (RRk w t) := by
  obtain ⟨a1, c1, rfl, _, _⟩ := hx.shape
  have HA2 := Lib.hid hA2; clear hA2
  obtain ⟨f0, f1, f2, hW0, hsz⟩ := boxes3 w [.slice a1 t.length c1] [.slice none 0 0] [.slice none 0 0] 42 45 45
  go_enter Try.func31, Try.ntmps31
  go_wp2_with fail
  obtain ⟨W, hW⟩ : ∃ W, ((w.alloc (.cells #[.slice a1 t.length c1] 42)).alloc (.cells #[.slice none 0 0] 45)).alloc (.cells #[.slice none 0 0] 45) = W := ⟨_, rfl⟩
  rw [hW] at f0 f1 f2 hW0 hsz ⊢
  clear hW
  refine (c_toInt64SS _ _ _ (hx.below hW0) hA HA2.out).mono ?_; rintro e w1 ⟨r1, rfl, ho1, hb1⟩
  obtain ⟨ra1, rc1, rfl, _, _⟩ := ho1.rows.shape
  have g1 := one_cell (f1.under hb1)
  have g2 := one_cell (f2.under hb1)
  have k1 := (f1.under hb1).frozen 0
  have k2 := (f2.under hb1).frozen 0
  have HL := Lib.hid (bb hW0 hb1); have HO := Lib.hid ho1; have HS := Lib.hid hsz
  clear f0 f1 f2 hW0 hsz hb1 ho1 hx
  go_wp2
  refine bodyPost_ret (v := .agg #[.slice ra1 t.length rc1]) (by simp [results, Try.results31, go_sem, g1, g2]) rfl ⟨_, rfl, ?_, ?_⟩
  · refine (HO.out.keep (S := fun b => b < W.heap.size) (((Keep.refl _ w1).setCell (p := ⟨w.heap.size + 1 + 1, 0, none⟩) (.inl ?_) _).setCell (p := ⟨w.heap.size + 1, 0, none⟩) (.inl ?_) _) (fun b h1 h2 h3 => by omega)).mono ?_
    · show w.heap.size + 1 + 1 < W.heap.size; have := HS.out; omega
    · show w.heap.size + 1 < W.heap.size; have := HS.out; omega
    · have := HS.out; omega
  · exact (HL.out.setCell (p := ⟨w.heap.size + 1 + 1, 0, none⟩) (by show _ ≤ w.heap.size + 1 + 1; omega) _).setCell (p := ⟨w.heap.size + 1, 0, none⟩) (by show _ ≤ w.heap.size + 1; omega) _

set_option maxHeartbeats 400000 in
theorem c_eqK (v1 v2 : Value) (xs ys : List (List Int)) (w : World) (hx : Rows w v1 xs) (hy : Rows w v2 ys) :
    Calls Try.prog 33 #[.agg #[v1], .agg #[v2]] w (RVal w (.bool (decide (xs = ys)))) := by
  obtain ⟨a1, c1, rfl, _, _⟩ := hx.shape
  obtain ⟨a3, c3, rfl, _, _⟩ := hy.shape
  obtain ⟨f0, f1, hW0, hsz⟩ := boxes2 w [.slice a1 xs.length c1] [.slice a3 ys.length c3] 45 45
  go_enter Try.func33, Try.ntmps33
  go_wp2_with fail
  obtain ⟨W, hW⟩ : ∃ W, (w.alloc (.cells #[.slice a1 xs.length c1] 45)).alloc (.cells #[.slice a3 ys.length c3] 45) = W := ⟨_, rfl⟩
  rw [hW] at f0 f1 hW0 hsz ⊢
  clear hW
  refine (c_eqR _ _ _ _ _ (hx.below hW0) (hy.below hW0)).mono ?_; rintro e w1 ⟨rfl, hb1⟩
  have HB := Lib.hid (bb hW0 hb1)
  clear f0 f1 hW0 hsz hb1 hx hy
  by_cases h1 : xs = ys
  · have d1 : decide (xs = ys) = true := by simp [h1]
    have HE := Lib.hid h1; clear h1
    go_wp2
    go_ret
    exact ⟨ret_bool (by simp [HE.out]), HB.out⟩
  · have d1 : decide (xs = ys) = false := by simp [h1]
    have HE := Lib.hid h1; clear h1
    go_wp2
    go_ret
    exact ⟨ret_bool (by simp [HE.out]), HB.out⟩
end Go.Proofs.Ytdhbleiioagmlaa
