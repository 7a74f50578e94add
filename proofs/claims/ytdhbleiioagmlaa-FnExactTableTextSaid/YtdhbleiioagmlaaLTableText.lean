/-
  The law FnExactTableText answers true, and leaves what was there as it was.
-/
import Derived.Test.YtdhbleiioagmlaaI23
import Derived.Test.YtdhbleiioagmlaaLTables
namespace Go.Proofs.Ytdhbleiioagmlaa
open Go.RowKit

def ttRes (t : List (List Int)) : ByteArray := if isTab t then tabText t else ⟨#[]⟩
def ttCode (t : List (List Int)) : Int := if isTab t then 0 else 1

set_option maxRecDepth 100000 in
set_option maxHeartbeats 800000 in
theorem c_TableText (v0 : Value) (t : List (List Int)) (w : World) (ht : Rows w v0 t)  :
    Calls Try.prog 23 #[v0] w (RVal w (.tuple #[.string (ttRes t), .int .i64 (ttCode t)])) := by
  by_cases hp0 : isTab t = true
  case neg =>
    have hq0 : isTab t = false := by simpa using hp0
    have HQ := Lib.hid hq0; clear hp0
    obtain ⟨a0, c0, rfl, hc0, hm0⟩ := ht.shape
    go_enter Try.func23, Try.ntmps23
    go_wp2_with fail
    refine (c_IsTable _ _ _ (ht.below (Below.refl _ _))).mono ?_; rintro e g0 ⟨rfl, hbg0⟩
    have hB0 := hbg0
    clear hbg0
    have HB := Lib.hid hB0
    clear hB0
    go_wp2
    go_ret2
    exact ⟨by simp [ttRes, ttCode, HQ.out], HB.out⟩
  have HP0 := Lib.hid hp0
  obtain ⟨a0, c0, rfl, hc0, hm0⟩ := ht.shape
  go_enter Try.func23, Try.ntmps23
  go_wp2_with fail
  refine (c_IsTable _ _ _ (ht.below (Below.refl _ _))).mono ?_; rintro e g0 ⟨rfl, hbg0⟩
  have hB0 := hbg0
  clear hbg0
  go_wp2_with fail
  refine (c_tableText _ _ _ (ht.below hB0) HP0.out).mono ?_; rintro e w2 ⟨rfl, hb⟩
  have HB := Lib.hid (bb hB0 hb); clear hb hB0 ht
  go_wp2
  go_ret2
  exact ⟨by simp [ttRes, ttCode, HP0.out], HB.out⟩
set_option maxRecDepth 100000 in
set_option maxHeartbeats 800000 in
theorem c_specTableText (v0 : Value) (t : List (List Int)) (w : World) (ht : Rows w v0 t)  :
    Calls Try.prog 21 #[v0] w (RVal w (.tuple #[.string (ttRes t), .int .i64 (ttCode t)])) := by
  by_cases hp0 : isTab t = true
  case neg =>
    have hq0 : isTab t = false := by simpa using hp0
    have HQ := Lib.hid hq0; clear hp0
    obtain ⟨a0, c0, rfl, hc0, hm0⟩ := ht.shape
    go_enter Try.func21, Try.ntmps21
    go_wp2_with fail
    refine (c_l01TableV _ _ _ (ht.below (Below.refl _ _))).mono ?_; rintro e g0 ⟨rfl, hbg0⟩
    have hB0 := hbg0
    clear hbg0
    have HB := Lib.hid hB0
    clear hB0
    go_wp2
    go_ret2
    exact ⟨by simp [ttRes, ttCode, HQ.out], HB.out⟩
  have HP0 := Lib.hid hp0
  obtain ⟨a0, c0, rfl, hc0, hm0⟩ := ht.shape
  go_enter Try.func21, Try.ntmps21
  go_wp2_with fail
  refine (c_l01TableV _ _ _ (ht.below (Below.refl _ _))).mono ?_; rintro e g0 ⟨rfl, hbg0⟩
  have hB0 := hbg0
  clear hbg0
  go_wp2_with fail
  refine (c_l01Text _ _ _ (ht.below hB0) HP0.out).mono ?_; rintro e w2 ⟨rfl, hb⟩
  have HB := Lib.hid (bb hB0 hb); clear hb hB0 ht
  go_wp2
  go_ret2
  exact ⟨by simp [ttRes, ttCode, HP0.out], HB.out⟩

set_option maxHeartbeats 4000000 in
theorem law_TableText (v0 : Value) (x0 : List (List Int)) (w : World) (hx0 : Rows w v0 x0) :
    Calls Try.prog 4 #[v0] w (RVal w (.bool true)) := by
  obtain ⟨a0, c0, rfl, hc0, hm0⟩ := hx0.shape
  go_enter Try.func4, Try.ntmps4
  have BW : Below w.heap.size w w := Below.refl _ _
  go_wp2_with fail
  refine (c_szInt64SS _ _ _ _ (hx0.below BW) (by omega) (by omega)).mono ?_; rintro e w1 ⟨rfl, rfl⟩
  by_cases hg0 : leftR x0 (1048576) < 0
  case pos =>
    have HB := Lib.hid BW; clear BW
    go_wp2
    go_ret
    exact ⟨rfl, HB.out⟩
  have hf0 := leftR_fits (left := 1048576) (by omega) (by omega) hg0
  have Hf0 := Lib.hid hf0
  clear hf0
  have hf0 : x0.length ≤ 1048576 ∧ total x0 ≤ 1048576 ∧ 0 ≤ leftR x0 (1048576) ∧ leftR x0 (1048576) ≤ 1048576 := ⟨Hf0.out.1, Hf0.out.2.2⟩
  obtain ⟨R0, hR0⟩ : ∃ z, z = ttRes x0 := ⟨_, rfl⟩
  obtain ⟨R1, hR1⟩ : ∃ z, z = ttCode x0 := ⟨_, rfl⟩
  have HR0 := Lib.hid hR0
  clear hR0
  have HR1 := Lib.hid hR1
  clear hR1
  have hk1 : (R1 != R1) = false := by simp
  have hda0 : decide (x0 = x0) = true := by simp
  go_wp2_with fail
  refine (c_toInt64SS _ _ _ (hx0.below BW) hf0.1 Hf0.out.2.1).mono ?_; rintro e w1 ⟨t1, rfl, ot1r, hb1⟩
  have hs1 := hb1.size
  replace BW := bb BW hb1
  have ot1 := ot1r.inn
  clear ot1r
  clear hb1
  go_wp2_with fail
  refine (c_specTableText _ _ _ (ot1.rows)).mono ?_
  rw [← HR0.out, ← HR1.out]
  rintro e w2 ⟨rfl, hb2⟩
  have hs2 := hb2.size
  replace ot1 := ot1.under hb2
  replace BW := bb BW hb2
  clear ot1
  clear hb2
  go_wp2_with fail
  refine (c_toInt64SS _ _ _ (hx0.below BW) hf0.1 Hf0.out.2.1).mono ?_; rintro e w3 ⟨z0, rfl, oz0r, hb3⟩
  have hs3 := hb3.size
  replace BW := bb BW hb3
  have oz0 := oz0r.inn
  clear oz0r
  clear hb3
  go_wp2_with fail
  refine (c_TableText _ _ _ (oz0.rows)).mono ?_
  rw [← HR0.out, ← HR1.out]
  rintro e w4 ⟨rfl, hb4⟩
  have hs4 := hb4.size
  replace oz0 := oz0.under hb4
  replace BW := bb BW hb4
  clear hb4
  go_wp2_with fail
  refine (c_toInt64SS _ _ _ (hx0.below BW) hf0.1 Hf0.out.2.1).mono ?_; rintro e w5 ⟨t2, rfl, ot2r, hb5⟩
  have hs5 := hb5.size
  replace oz0 := oz0.under hb5
  replace BW := bb BW hb5
  have ot2 := ot2r.inn
  clear ot2r
  clear hb5
  go_wp2_with fail
  refine (c_eqR _ _ _ _ _ (oz0.rows) (ot2.rows)).mono ?_; rintro e w6 ⟨rfl, hb6⟩
  have hs6 := hb6.size
  replace oz0 := oz0.under hb6
  replace ot2 := ot2.under hb6
  replace BW := bb BW hb6
  clear hb6
  clear ot2
  have HB := Lib.hid BW
  clear BW oz0 hx0
  go_wp2
  go_ret
  exact ⟨rfl, HB.out⟩
end Go.Proofs.Ytdhbleiioagmlaa
