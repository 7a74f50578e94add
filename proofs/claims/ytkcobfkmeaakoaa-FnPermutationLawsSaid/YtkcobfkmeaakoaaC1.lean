/-
  Sorting at most twelve numbers: the library's slices.Sort (its insertion sort).
-/
import Derived.Test.YtkcobfkmeaakoaaP8
import Derived.Test.YtkcobfkmeaakoaaI24
import Derived.Test.YtkcobfkmeaakoaaI11
import Derived.Test.YtkcobfkmeaakoaaI17
import Derived.Test.YtkcobfkmeaakoaaI10
namespace Go.Proofs.Ytkcobfkmeaakoaa
open Go Go.RowKit

theorem swap_permA : ∀ (l : List Int) (k : Nat) (h : k + 1 < l.length), ((l.set (k + 1) l[k]).set k l[k + 1]).Perm l
  | a :: c :: l, 0, _ => by simpa using List.Perm.swap a c l
  | a :: l, k + 1, h => by
    have := swap_permA l k (by simp at h; omega)
    simpa using this
  | [a], 0, h => by simp at h
/-- The first i numbers stand in order, but for the one at place j, which may be too small. -/
def InsP (i j : Nat) (S : List Int) : Prop := ∀ a b : Nat, a < b → b ≤ i → b ≠ j → nth S a ≤ nth S b
def SorP (i : Nat) (S : List Int) : Prop := ∀ a b : Nat, a < b → b < i → nth S a ≤ nth S b
theorem InsP.start {i : Nat} {S : List Int} (h : SorP i S) : InsP i i S := fun a b h1 h2 h3 => h a b h1 (by omega)
theorem InsP.done {i j : Nat} {S : List Int} (h : InsP i j S) (hj : 0 < j → nth S ((j : Int) - 1) ≤ nth S j) : SorP (i + 1) S := by
  intro a b h1 h2
  by_cases e : b = j
  · subst e
    have h3 := hj (by omega)
    by_cases e2 : a + 1 = b
    · have : ((b : Int) - 1) = a := by omega
      rw [this] at h3; exact h3
    · have h4 := h a (b - 1) (by omega) (by omega) (by omega)
      rw [show (((b - 1 : Nat)) : Int) = (b : Int) - 1 from by omega] at h4
      omega
  · exact h a b h1 (by omega) e
def swp (S : List Int) (j : Nat) : List Int := (S.set j (nth S ((j : Int) - 1))).set (j - 1) (nth S j)
theorem swp_nth {S : List Int} {j : Nat} (hj : 0 < j) (hl : j < S.length) (y : Nat) : nth (swp S j) y = if y + 1 = j then nth S j else if y = j then nth S ((j : Int) - 1) else nth S y := by
  unfold swp
  have h1 := nth_set (S.set j (nth S ((j : Int) - 1))) ((j : Int) - 1) y (nth S j) (by omega) (by rw [List.length_set]; omega) (by omega)
  rw [show ((j : Int) - 1).toNat = j - 1 from by omega] at h1
  rw [h1]
  have h2 := nth_set S (j : Int) y (nth S ((j : Int) - 1)) (by omega) (by omega) (by omega)
  rw [Int.toNat_natCast] at h2
  rw [h2]
  by_cases e : y + 1 = j
  · rw [if_pos (by omega), if_pos e]
  · rw [if_neg (by omega), if_neg e]
    by_cases e2 : y = j
    · rw [if_pos (by omega), if_pos e2]
    · rw [if_neg (by omega), if_neg e2]
theorem swp_perm {S : List Int} {j : Nat} (hj : 0 < j) (hl : j < S.length) : (swp S j).Perm S := by
  obtain ⟨k, rfl⟩ : ∃ k, j = k + 1 := ⟨j - 1, by omega⟩
  have := swap_permA S k hl
  unfold swp
  rw [show (((k + 1 : Nat) : Int) - 1) = (k : Int) from by omega, nth_nat _ _ (by omega), nth_nat _ _ hl]
  exact this
theorem InsP.step {i j : Nat} {S : List Int} (h : InsP i j S) (hj : 0 < j) (hl : j < S.length) (hi : j ≤ i) (hlt : nth S j < nth S ((j : Int) - 1)) : InsP i (j - 1) (swp S j) := by
  intro a b h1 h2 h3
  rw [swp_nth hj hl, swp_nth hj hl]
  have e0 : ((j : Int) - 1) = ((j - 1 : Nat) : Int) := by omega
  rw [e0] at hlt ⊢
  rw [if_neg (show ¬ (b + 1 = j) by omega)]
  by_cases e1 : b = j
  · rw [if_pos e1]
    by_cases e2 : a + 1 = j
    · rw [if_pos e2]; omega
    · rw [if_neg e2, if_neg (by omega)]
      exact h a (j - 1) (by omega) (by omega) (by omega)
  · rw [if_neg e1]
    by_cases e2 : a + 1 = j
    · rw [if_pos e2]
      exact h j b (by omega) h2 e1
    · rw [if_neg e2]
      by_cases e3 : a = j
      · rw [if_pos e3]
        exact h (j - 1) b (by omega) h2 e1
      · rw [if_neg e3]
        exact h a b h1 h2 e1
theorem SorP.pairwise {S : List Int} (h : SorP S.length S) : S.Pairwise (· ≤ ·) := by
  rw [List.pairwise_iff_getElem]
  intro a b ha hb hab
  have := h a b hab hb
  rwa [nth_nat _ _ ha, nth_nat _ _ hb] at this

set_option maxHeartbeats 400000 in
theorem c_cmpLess (x y : Int) (w : World) : Calls Try.prog 190 #[.int .i64 x, .int .i64 y] w (fun e w' => e = .returned (.bool (decide (x < y))) ∧ w = w') := by
  go_enter Try.func190, Try.ntmps190
  go_wp2_with (go_at_call 195; refine (c_isNaN _ _).mono ?_; rintro e w' ⟨rfl, rfl⟩)
  go_ret
  exact ⟨rfl, rfl⟩

set_option maxRecDepth 100000 in
set_option maxHeartbeats 1600000 in
theorem c_insertion (b c : Nat) (l : List Int) (w : World) (hb : Blk w b 2 (l.map (Value.int .i64) ++ [])) (hl : l.length ≤ 12) (hc : l.length ≤ c) (hc2 : c ≤ 1048576) :
    Calls Try.prog 184 #[.slice (some ⟨b, 0, none⟩) l.length c, .int .i64 0, .int .i64 l.length] w
      fun e w' => (∃ v, e = .returned v) ∧ ∃ S : List Int, S.Perm l ∧ S.Pairwise (· ≤ ·) ∧ Blk w' b 2 (S.map (Value.int .i64) ++ []) ∧ Keep (fun x => x = b) w w' := by
  obtain ⟨n, hn⟩ : ∃ n, n = l.length := ⟨_, rfl⟩
  rw [← hn]
  have hl12 : n ≤ 12 := by omega
  have hnc : n ≤ c := by omega
  have HN := Lib.hid hn; have HB0 := Lib.hid hb
  clear hn hb hl hc
  go_enter Try.func184, Try.ntmps184
  go_wp2
  go_loopw [6, 7] (fun i _ wr => ∃ (k : Nat) (S : List Int), 1 ≤ k ∧ k ≤ n + 1 ∧ i = .int .i64 k ∧ Hid (S.Perm l) ∧ Hid (SorP k S) ∧ Hid (Blk wr b 2 (S.map (Value.int .i64) ++ [])) ∧ Hid (Keep (fun x => x = b) w wr)) (fun i _ _ => n + 1 - (intOf i).toNat)
  case atStart => exact ⟨1, l, Nat.le_refl _, by omega, rfl, Lib.hid (List.Perm.refl _), Lib.hid (fun a b h1 h2 => by omega), HB0, Lib.hid (Keep.refl _ _)⟩
  case round =>
    clear HB0
    obtain ⟨k, S, hk1, hk2, rfl, HP, HS, HB, HK⟩ := hrel
    have hSl : Hid (S.length = n) := Lib.hid (by rw [HN.out]; exact HP.out.length_eq)
    by_cases hlt : k < n
    · obtain ⟨wo, rfl⟩ : ∃ wo : World, wo = wr := ⟨_, rfl⟩
      go_wp2
      go_loopw [7] (fun j wi => ∃ (q : Nat) (T : List Int), q ≤ k ∧ j = .int .i64 q ∧ Hid (T.Perm l) ∧ Hid (InsP k q T) ∧ Hid (Blk wi b 2 (T.map (Value.int .i64) ++ [])) ∧ Hid (Keep (fun x => x = b) w wi)) (fun j _ => (intOf j).toNat)
      case atStart => exact ⟨k, S, Nat.le_refl _, rfl, HP, Lib.hid (InsP.start HS.out), HB, HK⟩
      case round =>
        clear HP HS HB HK hSl
        obtain ⟨q, T, hq, rfl, HP, HS, HB, HK⟩ := hrel
        obtain ⟨wi, rfl⟩ : ∃ wi : World, wi = wr := ⟨_, rfl⟩
        have hTl : Hid (T.length = n) := Lib.hid (by rw [HN.out]; exact HP.out.length_eq)
        by_cases hq0 : 0 < q
        · obtain ⟨m, rfl⟩ : ∃ m, q = m + 1 := ⟨q - 1, by omega⟩
          have h1 := HB.out.labN (m + 1) (by rw [hTl.out]; omega)
          have h2 := HB.out.labN m (by rw [hTl.out]; omega)
          have f1 := HB.out.frozen (m + 1)
          have f2 := HB.out.frozen m
          have em : (((m + 1 : Nat) : Int) - 1) = (m : Int) := by omega
          by_cases hle : nth T ((m + 1 : Nat) : Int) < nth T (m : Int)
          · have HLE := Lib.hid hle
            have hd : decide (nth T ((m + 1 : Nat) : Int) < nth T (m : Int)) = true := by simpa using hle
            clear hle
            go_wp2
            go_quiet ((go_at_call 190; exact quiet_left (by simpa [hd] using c_cmpLess _ _ _)))
            rename_i nq
            have hbq : Below wi.heap.size wi (wi.drewN nq) := below_drewN (Below.refl _ _) nq
            generalize wi.drewN nq = wq at hbq ⊢
            clear h1 h2 f1 f2
            have hBq := HB.out.under hbq
            have h1 := hBq.labN (m + 1) (by rw [hTl.out]; omega)
            have h2 := hBq.labN m (by rw [hTl.out]; omega)
            have f1 := hBq.frozen (m + 1)
            have f2 := hBq.frozen m
            have HBq := Lib.hid hBq
            have hkq := Lib.hid (HK.out.under hbq)
            have hd3 : nth T ((m : Int) + 1) < nth T (m : Int) := by have := HLE.out; simpa using this
            clear hBq hbq
            go_wp2
            go_region
            go_wp2
            go_roundw
            case rel =>
              have hset := HBq.out.labSet ((m + 1 : Nat) : Int) (by omega) (by rw [hTl.out]; omega) (nth T (m : Int))
              have hset2 := hset.labSet (m : Int) (by omega) (by rw [List.length_set, hTl.out]; omega) (nth T ((m + 1 : Nat) : Int))
              refine ⟨m, swp T (m + 1), by omega, by go_num, Lib.hid ((swp_perm (by omega) (by rw [hTl.out]; omega)).trans HP.out), Lib.hid ?_, Lib.hid ?_, Lib.hid ?_⟩
              · have := HS.out.step (by omega) (by rw [hTl.out]; omega) (by omega) (by rw [em]; exact HLE.out)
                simpa using this
              · have e := hset2.drew
                simp only [Int.toNat_natCast] at e
                unfold swp
                rw [em]
                exact e
              · exact ((hkq.out.setCell (p := ⟨b, m + 1, none⟩) (.inl rfl) _).setCell (p := ⟨b, m, none⟩) (.inl rfl) _).drew
            case measure => simp [intOf]
          · have HLE := Lib.hid hle
            have hd : decide (nth T ((m + 1 : Nat) : Int) < nth T (m : Int)) = false := by simpa using hle
            clear hle
            go_wp2
            go_quiet ((go_at_call 190; exact quiet_left (by simpa [hd] using c_cmpLess _ _ _)))
            rename_i nq
            have hbq : Below wi.heap.size wi (wi.drewN nq) := below_drewN (Below.refl _ _) nq
            generalize wi.drewN nq = wq at hbq ⊢
            have HBq := Lib.hid (HB.out.under hbq)
            have hkq := Lib.hid (HK.out.under hbq)
            have HD := Lib.hid (HS.out.done (fun _ => by rw [em]; have := HLE.out; omega))
            clear hbq h1 h2 f1 f2
            have hd3 : ¬ (nth T ((m : Int) + 1) < nth T (m : Int)) := by have := HLE.out; simpa using this
            go_wp2
            go_roundw
            case rel => exact ⟨k + 1, T, by omega, by omega, by go_num, HP, HD, HBq, hkq⟩
            case measure => simp [intOf]; omega
        · obtain rfl : q = 0 := by omega
          have HD := Lib.hid (HS.out.done (fun h => by omega))
          go_wp2
          go_quiet (fail)
          rename_i nq
          have hbq : Below wi.heap.size wi (wi.drewN nq) := below_drewN (Below.refl _ _) nq
          generalize wi.drewN nq = wq at hbq ⊢
          have HBq := Lib.hid (HB.out.under hbq)
          have hkq := Lib.hid (HK.out.under hbq)
          clear hbq
          go_wp2
          go_roundw
          case rel => exact ⟨k + 1, T, by omega, by omega, by go_num, HP, HD, HBq, hkq⟩
          case measure => simp [intOf]; omega
    · go_wp2
      go_end0
      refine ⟨⟨_, rfl⟩, S, HP.out, ?_, HB.out, HK.out⟩
      have hl := hSl.out
      exact SorP.pairwise (fun a b h1 h2 => HS.out a b h1 (by omega))
end Go.Proofs.Ytkcobfkmeaakoaa
