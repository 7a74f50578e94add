/-
  The reference's search for isomorphisms: l03Fits.
-/
import Derived.Test.YtgmhnjccgldddaaY1
namespace Go.Proofs.Ytgmhnjccgldddaa
set_option linter.unusedVariables false
set_option linter.unusedSimpArgs false
open Go Go.RowKit

/-- What is asked of a beginning of M + 1 images at one place of one table. -/
def FitAt (F G : List (List (List Int))) (f : List Int) (M : Nat) (k x y : Nat) : Prop :=
  (M : Int) < val2 (F.getD k []) x y ∨ (x < M ∧ y < M ∧ val2 (F.getD k []) x y < M) ∨ nth f (val2 (F.getD k []) x y) = val2 (G.getD k []) (nth f x) (nth f y)
def FitAll (F G : List (List (List Int))) (f : List Int) (M : Nat) : Prop := ∀ k, k < F.length → ∀ x, x < M + 1 → ∀ y, y < M + 1 → FitAt F G f M k x y

open Classical in
noncomputable def fitsB (F G : List (List (List Int))) (f : List Int) (M : Nat) : Bool := decide (FitAll F G f M)
set_option maxRecDepth 100000 in
set_option maxHeartbeats 4000000 in
theorem c_l03Fits {n K : Nat} {F G : List (List (List Int))} {fb fo fc gb go' gc : Nat} {tb to tc tb' to' tc' : Nat → Nat} {rb ro rc rb' ro' rc' : Nat → Nat → Nat} (M : Nat) (f : List Int) (u : Value) (w : World) (hF : Tb3 w fb fo n K F tb to tc rb ro rc) (hG : Tb3 w gb go' n K G tb' to' tc' rb' ro' rc')
    (hKF : K = F.length) (hn : n ≤ 12) (hK : K ≤ 12) (hfc : K ≤ fc) (hgc : K ≤ gc) (hu : Ints w u f) (hf : f.length = M + 1) (hM : M < n) (hr : ∀ x ∈ f, InN n x) :
    Calls Try.prog 70 #[.slice (some ⟨fb, fo, none⟩) K fc, .slice (some ⟨gb, go', none⟩) K gc, u] w (QVal w (.bool (fitsB F G f M))) := by
  obtain ⟨a, c, rfl, hc, hm⟩ := hu.shape
  rw [hf] at hc ⊢
  have hu0 : Ints w (.slice a (M + 1) c) f := by rw [← hf]; rw [← hf] at hc; exact hu
  obtain ⟨ub, uo, rfl, _⟩ := hu0.get 0 (by omega)
  have HFG := Lib.hid (And.intro hF (And.intro hG hu0)); have HKF := Lib.hid hKF; have HFl := Lib.hid hf
  have HR : Hid (∀ x : Nat, x < M + 1 → ∃ X : Nat, nth f x = X ∧ X < n) := Lib.hid fun x hx => by
    have := hr _ (nth_mem (p := f) (x := (x : Int)) (by omega) (by omega))
    have h1 := this.1; have h2 := this.2; exact ⟨(nth f x).toNat, by omega, by omega⟩
  have HV : Hid (∀ k x y : Nat, k < K → x < n → y < n → ∃ U : Nat, val2 (F.getD k []) x y = U ∧ U < n) := Lib.hid fun k x y hk hx hy => by
    have := (hF.at' k hk).rng x y (by omega) (by omega) (by omega) (by omega)
    exact ⟨(val2 (F.getD k []) x y).toNat, by omega, by omega⟩
  have hM1 : ((M + 1 : Nat) : Int) - 1 = M := by omega
  have hM2 : (M : Int) + 1 - 1 = M := by omega
  clear hF hG hu0 hKF hf hr hu
  go_enter Try.func70, Try.ntmps70
  go_wp2
  go_loopw [8, 9, 10, 11] (fun a _ _ _ wr => ∃ k : Nat, k ≤ K ∧ a = .int .i64 k ∧ Hid (∃ m, wr = w.drewN m) ∧ Hid (∀ k', k' < k → ∀ x, x < M + 1 → ∀ y, y < M + 1 → FitAt F G f M k' x y)) (fun a _ _ _ _ => K - (intOf a).toNat)
  case atStart => exact ⟨0, Nat.zero_le _, rfl, Lib.hid ⟨0, rfl⟩, Lib.hid (by intro x hx; omega)⟩
  case round =>
    obtain ⟨k, hk, rfl, HB1, HA1⟩ := hrel
    obtain ⟨wo, rfl⟩ : ∃ wo : World, wo = wr := ⟨_, rfl⟩
    by_cases hlt : k < K
    · go_wp2
      go_loopw [9, 10, 11] (fun a _ _ wr => ∃ x : Nat, x ≤ M + 1 ∧ a = .int .i64 x ∧ Hid (∃ m, wr = w.drewN m) ∧ Hid (∀ x', x' < x → ∀ y, y < M + 1 → FitAt F G f M k x' y)) (fun a _ _ _ => M + 1 - (intOf a).toNat)
      case atStart => exact ⟨0, Nat.zero_le _, rfl, HB1, Lib.hid (by intro x hx; omega)⟩
      case round =>
        obtain ⟨x, hx, rfl, HB2, HA2⟩ := hrel
        obtain ⟨wp, rfl⟩ : ∃ wp : World, wp = wr := ⟨_, rfl⟩
        by_cases hlx : x < M + 1
        · have hlx2 : (x : Int) ≤ M := by omega
          go_wp2
          go_loopw [10, 11] (fun a _ wr => ∃ y : Nat, y ≤ M + 1 ∧ a = .int .i64 y ∧ Hid (∃ m, wr = w.drewN m) ∧ Hid (∀ y', y' < y → FitAt F G f M k x y')) (fun a _ _ => M + 1 - (intOf a).toNat)
          case atStart => exact ⟨0, Nat.zero_le _, rfl, HB2, Lib.hid (by intro x hx; omega)⟩
          case round =>
            obtain ⟨y, hy, rfl, HB3, HA3⟩ := hrel
            obtain ⟨wq, rfl⟩ : ∃ wq : World, wq = wr := ⟨_, rfl⟩
            by_cases hly : y < M + 1
            · have hly2 : (y : Int) ≤ M := by omega
              obtain ⟨U, hU, hUn⟩ := HV.out k x y hlt (by omega) (by omega)
              obtain ⟨X, hX, hXn⟩ := HR.out x hlx
              obtain ⟨Y, hY, hYn⟩ := HR.out y hly
              have hbw : Below w.heap.size w wq := by obtain ⟨m, rfl⟩ := HB3.out; exact below_drewN (Below.refl _ _) m
              have tF := HFG.out.1.below hbw
              have tG := HFG.out.2.1.below hbw
              have tU := HFG.out.2.2.below hbw
              have q1 := tF.tab k hlt
              have q2 := (tF.at' k hlt).row x (by omega)
              have q3 := (tF.at' k hlt).val x y (by omega) (by omega)
              rw [hU] at q3
              have HU := Lib.hid hU
              have HNext : Hid (FitAt F G f M k x y → ∀ y', y' < y + 1 → FitAt F G f M k x y') := Lib.hid (lt_snoc HA3.out)
              by_cases c1 : (M : Int) < U
              · have HN := Lib.hid (HNext.out (by unfold FitAt; rw [HU.out]; exact .inl c1))
                clear HU HNext hU hX hY tF tG tU
                go_wp2
                go_roundw
                case rel => exact ⟨y + 1, by omega, by go_num, HB3, HN⟩
                case measure => simp [intOf]; omega
              · by_cases c2 : x < M ∧ y < M ∧ (U : Int) < M
                · have HN := Lib.hid (HNext.out (by unfold FitAt; rw [HU.out]; exact .inr (.inl c2)))
                  obtain ⟨c3, c4, c5⟩ := c2
                  clear HU HNext hU hX hY tF tG tU
                  go_wp2
                  go_roundw
                  case rel => exact ⟨y + 1, by omega, by go_num, HB3, HN⟩
                  case measure => simp [intOf]; omega
                · have hUM : U < M + 1 := by omega
                  obtain ⟨Z, hZ, hZn⟩ := HR.out U hUM
                  have q4 := tU.at U (by rw [HFl.out]; omega)
                  have q5 := tU.at x (by rw [HFl.out]; omega)
                  have q6 := tU.at y (by rw [HFl.out]; omega)
                  have q7 := tG.tab k hlt
                  have q8 := (tG.at' k hlt).row X hXn
                  have q9 := (tG.at' k hlt).val X Y hXn hYn
                  rw [hZ] at q4; rw [hX] at q5; rw [hY] at q6
                  have HIff : Hid (FitAt F G f M k x y ↔ (Z : Int) = val2 (G.getD k []) X Y) := Lib.hid (by
                    unfold FitAt
                    rw [HU.out, hZ, hX, hY]
                    constructor
                    · rintro (h | h | h)
                      · exact absurd h c1
                      · exact absurd h c2
                      · exact h
                    · intro h; exact .inr (.inr h))
                  have hcase : (¬ x < M) ∨ (x < M ∧ ¬ y < M) ∨ (x < M ∧ y < M ∧ ¬ (U : Int) < M) := by omega
                  obtain ⟨V, hV⟩ : ∃ V, val2 (G.getD k []) X Y = V := ⟨_, rfl⟩
                  rw [hV] at q9 HIff
                  have HHit : Hid (¬ (Z : Int) = V → ¬ FitAll F G f M) := Lib.hid fun h hall => h (HIff.out.1 (hall k (by rw [← HKF.out]; exact hlt) x hlx y hly))
                  clear HU hU hX hY hZ tF tG tU c2 hV
                  rcases hcase with c3 | ⟨c3, c4⟩ | ⟨c3, c4, c5⟩
                  all_goals
                    by_cases he : (Z : Int) = V
                    · have HN := Lib.hid (HNext.out (HIff.out.2 he))
                      have hb : ((Z : Int) != V) = false := by simp [he]
                      clear HNext HIff HHit
                      go_wp2
                      go_quiet (fail)
                      rename_i nq
                      have HB4 : Hid (∃ m, wq.drewN nq = w.drewN m) := by
                        obtain ⟨m, hm⟩ := HB3.out
                        exact Lib.hid ⟨m + nq, by rw [hm, World.drewN_drewN]⟩
                      go_wp2
                      go_roundw
                      case rel => exact ⟨y + 1, by omega, by go_num, HB4, HN⟩
                      case measure => simp [intOf]; omega
                    · have HN := Lib.hid (HHit.out he)
                      have hb : ((Z : Int) != V) = true := by simpa using he
                      clear HNext HIff HHit
                      go_wp2
                      go_quiet (fail)
                      rename_i nq
                      have HB4 : Hid (∃ m, wq.drewN nq = w.drewN m) := by
                        obtain ⟨m, hm⟩ := HB3.out
                        exact Lib.hid ⟨m + nq, by rw [hm, World.drewN_drewN]⟩
                      go_wp2
                      go_ret
                      exact ⟨ret_bool (by symm; unfold fitsB; simpa using HN.out), HB4.out⟩
            · obtain rfl : y = M + 1 := by omega
              go_wp2
              go_roundw
              case rel => exact ⟨x + 1, by omega, by go_num, HB3, Lib.hid (lt_snoc HA2.out HA3.out)⟩
              case measure => simp [intOf]; omega
        · obtain rfl : x = M + 1 := by omega
          go_wp2
          go_roundw
          case rel => exact ⟨k + 1, by omega, by go_num, HB2, Lib.hid (lt_snoc HA1.out HA2.out)⟩
          case measure => simp [intOf]; omega
    · obtain rfl : K = k := by omega
      go_wp2
      go_ret
      exact ⟨ret_bool (by symm; unfold fitsB; simp only [decide_eq_true_eq]; intro k hk; exact HA1.out k (by rw [HKF.out]; exact hk)), HB1.out⟩
end Go.Proofs.Ytgmhnjccgldddaa
