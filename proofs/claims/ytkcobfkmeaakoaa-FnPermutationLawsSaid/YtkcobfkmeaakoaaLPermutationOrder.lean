/-
  The law FnExactPermutationOrder answers true, and leaves what was there as it was: at every list of integers.
-/
import Derived.Test.YtkcobfkmeaakoaaLawB
import Derived.Test.YtkcobfkmeaakoaaI1c
import Derived.Test.YtkcobfkmeaakoaaS1c
namespace Go.Proofs.Ytkcobfkmeaakoaa
open Go.RowKit

noncomputable def ordRes (p : List Int) : Int := if isPerm p then (ordP p : Int) else 0
def ordCode (p : List Int) : Int := if isPerm p then 0 else 1
theorem isPerm_lt' {xs : List Int} (h : isPerm xs = true) : (1 ≤ xs.length ∧ xs.length ≤ 12) ∧ Permuted xs := by
  simp [isPerm, inR] at h; exact ⟨by omega, h.2⟩
theorem fac_mono : ∀ {a b : Nat}, a ≤ b → fac a ≤ fac b
  | 0, b, _ => fac_pos b
  | a+1, 0, h => by omega
  | a+1, b+1, h => Nat.mul_le_mul h (fac_mono (Nat.le_of_succ_le_succ h))
theorem ord_bound {p : List Int} (hp : Permuted p) (hn : p.length ≤ 12) : ∃ N, IsOrd p N ∧ N < 479001600 := by
  have h1 : pw p (fac p.length - 1) = iota p.length := fac_power hp
  have h2 := fac_mono hn
  have h3 := fac_pos p.length
  have e : fac 12 = 479001600 := by decide
  have : ∀ d, (∃ N, IsOrd p N ∧ N < 479001600) ∨ (∀ j, j < d → pw p j ≠ iota p.length) ∨ 479001600 < d := by
    intro d
    induction d with
    | zero => exact .inr (.inl fun j hj => by omega)
    | succ d ih =>
      rcases ih with h | h | h
      · exact .inl h
      · by_cases hd : pw p d = iota p.length
        · by_cases hlt : d < 479001600
          · exact .inl ⟨d, ⟨hd, h⟩, hlt⟩
          · exfalso
            exact h _ (show fac p.length - 1 < d by omega) h1
        · refine .inr (.inl fun j hj => ?_)
          by_cases ej : j = d
          · subst ej; exact hd
          · exact h j (by omega)
      · exact .inr (.inr (by omega))
  rcases this (fac p.length) with h | h | h
  · exact h
  · exact absurd h1 (h _ (by omega))
  · omega



set_option maxHeartbeats 400000 in
theorem c_PermutationOrder (v : Value) (p : List Int) (w : World) (hx : Ints w v p) :
    Calls Try.prog 75 #[v] w (RVal w (.tuple #[.int .i64 (ordRes p), .int .i64 (ordCode p)])) := by
  by_cases hp : isPerm p = true
  · have HP := Lib.hid hp
    obtain ⟨⟨h1, hn⟩, hperm⟩ := isPerm_lt' hp
    obtain ⟨N, hN, hN2⟩ := ord_bound hperm hn
    have HI : Hid (∀ k, ∀ x ∈ pw p k, 0 ≤ x ∧ x < p.length) := Lib.hid fun k => pw_in hperm k
    have HD : Hid (∀ k, incr (pw p k) = true ↔ pw p k = iota p.length) := Lib.hid fun k => by have := incr_iota (pw_perm hperm k); rwa [pw_length] at this
    have HN := Lib.hid hN; clear hN hperm h1
    go_enter Try.func75, Try.ntmps75
    go_wp2_with fail
    refine (c_IsPermutation _ _ _ hx).mono ?_; rintro e w2 ⟨rfl, hb1⟩
    have HB := Lib.hid hb1; have HX := Lib.hid (hx.below hb1)
    clear hb1 hx
    go_wp2
    go_loopw [4, 5] (fun i s wr => ∃ (k : Nat), i = .int .i64 (k + 1) ∧ k ≤ N ∧ Hid (Below w2.heap.size w2 wr) ∧ Hid (Ints wr s (pw p k)) ∧ Hid (∀ j, j < k → pw p j ≠ iota p.length)) (fun i _ _ => N + 2 - (intOf i).toNat)
    case atStart => exact ⟨0, rfl, by omega, Lib.hid (Below.refl _ _), Lib.hid HX.out, Lib.hid fun j hj => by omega⟩
    case round =>
      obtain ⟨k, rfl, hk, Hb, Hq, He⟩ := hrel
      by_cases heq : pw p k = iota p.length
      · have hd1 : incr (pw p k) = true := (HD.out k).2 heq
        have HE := Lib.hid heq; clear heq
        go_wp2_with fail
        refine (c_isIdentity _ _ _ Hq.out).mono ?_; rintro e w3 ⟨rfl, hb⟩
        have HB3 := Lib.hid (bb Hb.out hb); clear hb
        go_wp2
        go_ret2
        refine ⟨?_, bb HB.out HB3.out⟩
        simp [ordRes, ordCode, HP.out, IsOrd.eq ⟨HE.out, He.out⟩]
      · have hd1 : incr (pw p k) = false := by
          rw [Bool.eq_false_iff]; exact fun h => heq ((HD.out k).1 h)
        have hlt : k < N := by
          rcases Nat.lt_or_ge k N with h | h
          · exact h
          · obtain rfl : k = N := by omega
            exact absurd HN.out.1 heq
        have HE := Lib.hid heq; clear heq
        go_wp2_with fail
        refine (c_isIdentity _ _ _ Hq.out).mono ?_; rintro e w3 ⟨rfl, hb⟩
        have HB3 := Lib.hid (bb Hb.out hb); have HQ3 := Lib.hid (Hq.out.below hb); clear hb
        go_wp2_with fail
        refine (c_then _ _ _ _ _ HQ3.out (HX.out.below HB3.out) (HI.out k) (by rw [pw_length]; omega)).mono ?_; rintro e w4 ⟨r, rfl, ho, hb⟩
        have HB4 := Lib.hid (bb HB3.out hb); have HO := Lib.hid ho.ints; clear ho hb
        go_wp2
        go_roundw
        case rel =>
          refine ⟨k + 1, by go_num, by omega, Lib.hid HB4.out, Lib.hid HO.out, Lib.hid fun j hj => ?_⟩
          by_cases ej : j = k
          · subst ej; exact HE.out
          · exact He.out j (by omega)
        case measure => simp [intOf]; omega
  · have hp' : isPerm p = false := by simpa using hp
    have HP := Lib.hid hp'
    clear hp
    go_enter Try.func75, Try.ntmps75
    go_wp2_with fail
    refine (c_IsPermutation _ _ _ hx).mono ?_; rintro e w1 ⟨rfl, hb1⟩
    have HB := Lib.hid hb1; clear hb1
    go_wp2
    go_ret2
    exact ⟨by simp [ordRes, ordCode, HP.out], HB.out⟩

end Go.Proofs.Ytkcobfkmeaakoaa
