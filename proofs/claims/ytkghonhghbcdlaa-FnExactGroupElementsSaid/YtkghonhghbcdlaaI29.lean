/-
  Copies of tables and the order of tables: the program's and the reference's functions.
-/
import Derived.Test.YtkghonhghbcdlaaI24
import Derived.Test.YtkghonhghbcdlaaI21
import Derived.Test.YtkghonhghbcdlaaI3c
import Derived.Deep.RegionHeld3
namespace Go.Proofs.Ytkghonhghbcdlaa
set_option linter.unusedVariables false
set_option linter.unusedSimpArgs false
open Go.RowKit


set_option maxHeartbeats 1600000 in
theorem c_l01Own2 (v : Value) (t : List (List Int)) (w : World) (hx : Rows w v t) (hn : t.length ≤ 1048576) (hr : ∀ r ∈ t, r.length ≤ 1048576) :
    Calls Try.prog 102 #[v] w (RRows w t) := by
  obtain ⟨a, c, rfl, hc, hm⟩ := hx.shape
  have HR := Lib.hid hr; clear hr
  go_enter Try.func102, Try.ntmps102
  go_wp2
  go_loopw [3, 4] (fun s i wr => ∃ (k : Nat) (sa : Option Addr) (sc : Nat), k ≤ t.length ∧ i = .int .i64 k ∧ s = .slice sa k sc ∧ Below w.heap.size w wr ∧ OwnRows w.heap.size wr (.slice sa k sc) (t.take k)) (fun _ i _ => t.length - (intOf i).toNat)
  case atStart => exact ⟨0, _, _, Nat.zero_le _, rfl, rfl, (Below.refl _ _).alloc (Nat.le_refl _) _, OwnRows.made0 w (Nat.le_refl _)⟩
  case round =>
    obtain ⟨k, sa, sc, hk, rfl, rfl, hb, hown⟩ := hrel
    have hlen : (t.take k).length = k := by simp; omega
    by_cases hlt : k < t.length
    · obtain ⟨b, o, ra, rc, rfl, hcell, hu⟩ := (hx.below hb).getS k hlt
      have hrl : (row t k).length ≤ 1048576 := HR.out _ (row_mem (by omega) (by omega))
      have Hb := Lib.hid hb; have Ho := Lib.hid hown; have Hl := Lib.hid hlen; have Hs := Lib.hid hb.size; have HU := Lib.hid hu; clear hb hown hlen hu
      obtain ⟨wo, rfl⟩ : ∃ wo : World, wo = wr := ⟨_, rfl⟩
      go_wp2_with fail
      refine (c_l01Own _ _ _ HU.out hrl).mono ?_; rintro e w1 ⟨r, rfl, hor, hb1⟩
      obtain ⟨qa, qc, hqv, _⟩ := hor.shape
      subst hqv
      have HRr := Lib.hid hor; have HB1 := Lib.hid hb1; clear hor hb1 hcell
      go_wp2_with (at_builtin; refine wpList_app_row w.heap.size wo w1 _ (t.take k) _ (row t k) _ _ rfl rfl rfl Ho.out HB1.out HRr.out rfl (by rw [Hl.out]; omega) Hs.out ?_; intro a' c' w' hown' hkeep; rw [Hl.out]; have Hk := Lib.hid hkeep; have Ho' := Lib.hid hown'; clear hkeep hown')
      go_roundw
      case rel =>
        have h1 := Ho'.out
        rw [Hl.out, ← take_snoc_row _ _ hlt] at h1
        exact ⟨k + 1, a', c', by omega, by go_num, rfl, OwnRows.frame Ho.out (bb Hb.out HB1.out) (Nat.le_refl _) (Nat.le_trans Hs.out HB1.out.size) Hk.out, h1⟩
      case measure => simp [intOf]; omega
    · have Hb := Lib.hid hb; have Ho := Lib.hid hown; clear hb hown hlen
      obtain rfl : k = t.length := by omega
      go_wp2
      go_ret
      exact ⟨_, rfl, by have := Ho.out; rwa [List.take_of_length_le (Nat.le_refl _)] at this, Hb.out⟩

end Go.Proofs.Ytkghonhghbcdlaa
