/-
  Sorting at most twelve numbers: slices.Sort itself.
-/
import Derived.Test.YtkcobfkmeaakoaaC1
namespace Go.Proofs.Ytkcobfkmeaakoaa
open Go Go.RowKit

set_option maxRecDepth 100000 in
set_option maxHeartbeats 1600000 in
theorem c_bitsLen (n : Nat) (w : World) (hn : n ≤ 12) : Calls Try.prog 178 #[.int .u64 n] w (fun e w' => (∃ v : Int, e = .returned (.int .i64 v)) ∧ w = w') := by
  rcases (by omega : n = 0 ∨ n = 1 ∨ n = 2 ∨ n = 3 ∨ n = 4 ∨ n = 5 ∨ n = 6 ∨ n = 7 ∨ n = 8 ∨ n = 9 ∨ n = 10 ∨ n = 11 ∨ n = 12) with rfl | rfl | rfl | rfl | rfl | rfl | rfl | rfl | rfl | rfl | rfl | rfl | rfl
  all_goals
    go_enter Try.func178, Try.ntmps178
    go_wp2
    go_ret
    exact ⟨⟨_, rfl⟩, rfl⟩
set_option maxRecDepth 100000 in
set_option maxHeartbeats 1600000 in
theorem c_pdq (b c : Nat) (l : List Int) (z : Int) (w : World) (hb : Blk w b 2 (l.map (Value.int .i64) ++ [])) (hl : l.length ≤ 12) (hc : l.length ≤ c) (hc2 : c ≤ 1048576) :
    Calls Try.prog 177 #[.slice (some ⟨b, 0, none⟩) l.length c, .int .i64 0, .int .i64 l.length, .int .i64 z] w
      fun e w' => (∃ v, e = .returned v) ∧ ∃ S : List Int, S.Perm l ∧ S.Pairwise (· ≤ ·) ∧ Blk w' b 2 (S.map (Value.int .i64) ++ []) ∧ Keep (fun x => x = b) w w' := by
  have HB := Lib.hid hb; clear hb
  go_enter Try.func177, Try.ntmps177
  go_wp2
  go_loopw [1, 2] (fun a b' wr => a = .int .i64 0 ∧ b' = .int .i64 l.length ∧ wr = w) (fun _ _ _ => 0)
  case atStart => exact ⟨rfl, rfl, rfl⟩
  case round =>
    obtain ⟨rfl, rfl, rfl⟩ := hrel
    go_wp2_with fail
    refine (c_insertion b c l _ HB.out hl hc hc2).mono ?_; rintro e w' ⟨⟨v2, rfl⟩, hr⟩
    have HR := Lib.hid hr; clear hr
    go_wp2
    exact bodyPost_ret (results_none rfl _ _ _) rfl ⟨⟨_, rfl⟩, HR.out⟩
set_option maxRecDepth 100000 in
set_option maxHeartbeats 1600000 in
theorem c_Sort (b c : Nat) (l : List Int) (w : World) (hb : Blk w b 2 (l.map (Value.int .i64) ++ [])) (hl : l.length ≤ 12) (hc : l.length ≤ c) (hc2 : c ≤ 1048576) :
    Calls Try.prog 136 #[.slice (some ⟨b, 0, none⟩) l.length c] w
      fun e w' => (∃ v, e = .returned v) ∧ ∃ S : List Int, S.Perm l ∧ S.Pairwise (· ≤ ·) ∧ Blk w' b 2 (S.map (Value.int .i64) ++ []) ∧ Keep (fun x => x = b) w w' := by
  have HB := Lib.hid hb; clear hb
  go_enter Try.func136, Try.ntmps136
  go_wp2_with fail
  refine (c_bitsLen _ _ hl).mono ?_; rintro e w' ⟨⟨v, rfl⟩, rfl⟩
  go_wp2_with fail
  refine (c_pdq b c l v _ HB.out hl hc hc2).mono ?_; rintro e w' ⟨⟨v2, rfl⟩, hr⟩
  have HR := Lib.hid hr; clear hr
  go_wp2
  go_end0
  exact ⟨⟨_, rfl⟩, HR.out⟩
end Go.Proofs.Ytkcobfkmeaakoaa
