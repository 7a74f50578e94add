/-
  Whether a pair map is nondegenerate: the program's and the reference's functions. Condition: a pair map.
-/
import Derived.Test.YtkghonhghbcdlaaT1
import Derived.Test.YtkghonhghbcdlaaLTables
namespace Go.Proofs.Ytkghonhghbcdlaa
set_option linter.unusedVariables false
set_option linter.unusedSimpArgs false
open Go.RowKit

def nondegL (A B : List (List Int)) : Bool := permRows A && permRows (transL B)

set_option maxRecDepth 100000 in
set_option maxHeartbeats 800000 in
theorem c_isNondegenerate (v0 u0 : Value) (A B : List (List Int)) (w : World) (hA : Sol w v0 u0 A B) (hp : isPM A B = true) :
    Calls Try.prog 63 #[.agg #[v0, u0]] w (RVal w (.bool (nondegL A B))) := by
  obtain ⟨q1, q2, -⟩ := isPM_parts hp
  by_cases hp0 : permRows A = true
  case neg =>
    have hq0 : permRows A = false := by simpa using hp0
    have HQ := Lib.hid hq0; clear hp0
    obtain ⟨a0, c0, rfl, _, _⟩ := hA.1.shape
    obtain ⟨a0s, c0s, rfl, _, _⟩ := hA.2.shape
    go_enter Try.func63, Try.ntmps63
    go_wp2_with fail
    obtain ⟨f0, hW0, hsz⟩ := boxes1 w [.slice a0 A.length c0, .slice a0s B.length c0s] 26
    obtain ⟨W0, hW⟩ : ∃ W, (w.alloc (.cells #[.slice a0 A.length c0, .slice a0s B.length c0s] 26)) = W := ⟨_, rfl⟩
    rw [hW] at f0 hW0 hsz ⊢
    clear hW hsz
    refine (c_permutationRows _ _ _ (hA.1.below hW0) q1).mono ?_; rintro e g0 ⟨rfl, hbg0⟩
    have hB0 := bb hW0 hbg0
    replace f0 := f0.under hbg0
    obtain ⟨cA0, cB0, -, -⟩ := two_cells f0
    clear hbg0
    have HB := Lib.hid hB0
    clear hB0 hW0
    go_wp2
    go_ret
    exact ⟨ret_bool (by simp [nondegL, HQ.out]), HB.out⟩
  have HP0 := Lib.hid hp0
  obtain ⟨a0, c0, rfl, _, _⟩ := hA.1.shape
  obtain ⟨a0s, c0s, rfl, _, _⟩ := hA.2.shape
  go_enter Try.func63, Try.ntmps63
  go_wp2_with fail
  obtain ⟨f0, hW0, hsz⟩ := boxes1 w [.slice a0 A.length c0, .slice a0s B.length c0s] 26
  obtain ⟨W0, hW⟩ : ∃ W, (w.alloc (.cells #[.slice a0 A.length c0, .slice a0s B.length c0s] 26)) = W := ⟨_, rfl⟩
  rw [hW] at f0 hW0 hsz ⊢
  clear hW hsz
  refine (c_permutationRows _ _ _ (hA.1.below hW0) q1).mono ?_; rintro e g0 ⟨rfl, hbg0⟩
  have hB0 := bb hW0 hbg0
  replace f0 := f0.under hbg0
  obtain ⟨cA0, cB0, -, -⟩ := two_cells f0
  clear hbg0
  go_wp2_with fail
  refine (c_transposed _ _ _ (hA.2.below hB0) (isTab_sq q2)).mono ?_; rintro e w2 ⟨r, rfl, ho, hb⟩
  have HB := Lib.hid (bb hB0 hb); have HR := Lib.hid ho.rows; have HT := Lib.hid (isTab_transL q2)
  clear ho hb hB0 hW0 f0 hA q1 q2 hp
  go_wp2_with fail
  refine (c_permutationRows _ _ _ HR.out HT.out).mono ?_; rintro e w3 ⟨rfl, hb⟩
  have HB2 := Lib.hid (bb HB.out hb); clear hb
  go_wp2
  go_ret
  exact ⟨ret_bool (by simp [nondegL, HP0.out]), HB2.out⟩

end Go.Proofs.Ytkghonhghbcdlaa
