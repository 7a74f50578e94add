/-
  The library's reversal in place, and the program's 'nextPermutation': the lexicographically next one. Condition: a permutation in a block that is known whole.
-/
import Derived.Test.YtgmhnjccgldddaaP5
import Derived.Test.YtgmhnjccgldddaaI1c
import Derived.RegionTactic
import Derived.BigRegion
import Derived.ChangeAlike
namespace Go.Proofs.Ytgmhnjccgldddaa
set_option linter.unusedVariables false
set_option linter.unusedSimpArgs false
open Go.RowKit

theorem rowOf_set (n : Nat) (g : Int → Int) (k : Nat) (v : Int) : (rowOf n g).set k v = rowOf n (fun x => if x = k then v else g x) := by
  apply List.ext_getElem (by simp)
  intro i h1 h2
  have hi : i < n := by simpa using h2
  rw [List.getElem_set]
  simp only [rowOf, List.getElem_map, List.getElem_range]
  by_cases e : k = i
  · subst e; simp
  · rw [if_neg e, if_neg (by omega)]
/-- The list after r exchanges. -/
def revG (mid : List Int) (r : Nat) (x : Int) : Int := if x < r ∨ (mid.length : Int) - r ≤ x then nth mid (mid.length - 1 - x) else nth mid x
theorem revG_zero (mid : List Int) : rowOf mid.length (revG mid 0) = mid := by
  apply ext_nth (by simp)
  intro k hk
  have hk' : k < mid.length := by simpa using hk
  rw [nth_rowOf _ _ _ hk']
  unfold revG
  rw [if_neg (by omega)]
theorem revG_done (mid : List Int) (r : Nat) (h : (mid.length : Int) - 1 - r ≤ r) : rowOf mid.length (revG mid r) = mid.reverse := by
  apply ext_nth (by simp)
  intro k hk
  have hk' : k < mid.length := by simpa using hk
  rw [nth_rowOf _ _ _ hk', nth_nat _ _ (by simpa using hk'), List.getElem_reverse]
  have e : nth mid ((mid.length : Int) - 1 - k) = mid[mid.length - 1 - k] := by
    rw [show (mid.length : Int) - 1 - k = ((mid.length - 1 - k : Nat) : Int) from by omega, nth_nat]
  unfold revG
  by_cases c : (k : Int) < r ∨ (mid.length : Int) - r ≤ k
  · rw [if_pos c, e]
  · rw [if_neg c]
    have : (k : Int) = (mid.length : Int) - 1 - k := by omega
    rw [this, e]
theorem revG_step (mid : List Int) (r q : Nat) (hq : (q : Int) = (mid.length : Int) - 1 - r) (hlt : r < q) :
    rowOf mid.length (fun x => if x = q then revG mid r r else if x = r then revG mid r q else revG mid r x) = rowOf mid.length (revG mid (r + 1)) := by
  apply rowOf_congr
  intro y hy
  have e1 : revG mid r r = nth mid r := by unfold revG; rw [if_neg (by omega)]
  have e2 : revG mid r q = nth mid q := by unfold revG; rw [if_neg (by omega)]
  by_cases c1 : (y : Int) = q
  · rw [if_pos c1, e1]
    unfold revG
    rw [if_pos (by omega)]
    congr 1; omega
  · rw [if_neg c1]
    by_cases c2 : (y : Int) = r
    · rw [if_pos c2, e2]
      unfold revG
      rw [if_pos (by omega)]
      congr 1; omega
    · rw [if_neg c2]
      unfold revG
      by_cases c3 : (y : Int) < r ∨ (mid.length : Int) - r ≤ y
      · rw [if_pos c3, if_pos (by omega)]
      · rw [if_neg c3, if_neg (by omega)]

/-- The cell of the middle part of a block. -/
theorem Blk.mid {w : World} {b : Nat} {t : TypeId} {pre post : List Value} {m : Nat} {g : Int → Int} (h : Blk w b t (pre ++ ((rowOf m g).map (Value.int .i64) ++ post))) {o : Nat} (ho : o = pre.length) (k : Nat) (hk : k < m) :
    w.cell? ⟨b, o + k, none⟩ = some (.int .i64 (g k)) := by
  subst ho
  rw [h.cell (by simp; omega), List.getElem_append_right (by omega), List.getElem_append_left (by simp; omega)]
  simp [rowOf]
theorem Blk.midSet {w : World} {b : Nat} {t : TypeId} {pre post : List Value} {m : Nat} {g : Int → Int} (h : Blk w b t (pre ++ ((rowOf m g).map (Value.int .i64) ++ post))) {o : Nat} (ho : o = pre.length) (k : Nat) (hk : k < m) (v : Int) :
    Blk (w.setCell ⟨b, o + k, none⟩ (.int .i64 v)) b t (pre ++ ((rowOf m (fun x => if x = k then v else g x)).map (Value.int .i64) ++ post)) := by
  have := h.set (o + k) (.int .i64 v)
  subst ho
  rw [List.set_append, if_neg (by omega), show pre.length + k - pre.length = k from by omega, List.set_append, if_pos (by simp; omega), ← List.map_set, rowOf_set] at this
  exact this

set_option maxRecDepth 100000 in
set_option maxHeartbeats 1000000 in
theorem c_Reverse (b o c : Nat) (mid : List Int) (pre post : List Value) (w : World) (ho : o = pre.length) (hm : mid.length ≤ 1048576) (hc : mid.length ≤ c) (hc2 : c ≤ 1048576) (h : Blk w b 2 (pre ++ (mid.map (Value.int .i64) ++ post))) :
    Calls Try.prog 105 #[.slice (some ⟨b, o, none⟩) mid.length c] w fun e w' => (∃ v, e = .returned v) ∧ Blk w' b 2 (pre ++ (mid.reverse.map (Value.int .i64) ++ post)) ∧ Keep (fun x => x = b) w w' := by
  rw [← revG_zero mid] at h
  have HO := Lib.hid ho
  go_enter Try.func105, Try.ntmps105
  go_wp2
  have HB0 := Lib.hid h; clear h ho
  go_loopw [2, 3] (fun i j wr => ∃ (r : Nat) (J : Int), i = .int .i64 r ∧ j = .int .i64 J ∧ Hid (J = mid.length - 1 - r) ∧ r ≤ mid.length ∧ -2000000 ≤ J ∧ J ≤ 1048576 ∧ Hid (Blk wr b 2 (pre ++ ((rowOf mid.length (revG mid r)).map (Value.int .i64) ++ post))) ∧ Hid (Keep (fun x => x = b) w wr)) (fun i _ _ => mid.length - (intOf i).toNat)
  case atStart => exact ⟨0, _, rfl, rfl, Lib.hid (by omega), by omega, by omega, by omega, HB0, Lib.hid (Keep.refl _ _)⟩
  case round =>
    clear HB0
    obtain ⟨r, J, rfl, rfl, HJ, hr, hJ0, hJ1, HB, HK⟩ := hrel
    by_cases hlt : (r : Int) < J
    · obtain ⟨q, rfl⟩ : ∃ q : Nat, J = q := ⟨J.toNat, by omega⟩
      have hq1 : q < mid.length := by have := HJ.out; omega
      have hr1 : r < mid.length := by omega
      have h1 := HB.out.mid HO.out r hr1
      have h2 := HB.out.mid HO.out q hq1
      have f1 := HB.out.frozen (o + r)
      have f2 := HB.out.frozen (o + q)
      go_wp2
      go_region
      go_wp2
      go_roundw
      case rel =>
        refine ⟨r + 1, _, by go_num, rfl, Lib.hid (by have := HJ.out; omega), by omega, by omega, by omega, Lib.hid ?_, Lib.hid ?_⟩
        · have hb2 := (HB.out.midSet HO.out r hr1 (revG mid r q)).midSet HO.out q hq1 (revG mid r r)
          rw [revG_step mid r q HJ.out (by omega)] at hb2
          exact hb2
        · exact ((HK.out.setCell (p := ⟨b, o + r, none⟩) (.inl rfl) _).setCell (p := ⟨b, o + q, none⟩) (.inl rfl) _).drew
      case measure => simp [intOf]; omega
    · have hge : J ≤ (r : Int) := by omega
      clear hlt
      go_wp2
      go_end0
      refine ⟨⟨_, rfl⟩, ?_, HK.out⟩
      have := HB.out
      rwa [revG_done mid r (by have := HJ.out; omega)] at this
theorem c_Reverse' (b o c L : Nat) (mid : List Int) (pre post : List Value) (w : World) (hL : mid.length = L) (ho : o = pre.length) (hm : mid.length ≤ 1048576) (hc : mid.length ≤ c) (hc2 : c ≤ 1048576) (h : Blk w b 2 (pre ++ (mid.map (Value.int .i64) ++ post))) :
    Calls Try.prog 105 #[.slice (some ⟨b, o, none⟩) L c] w fun e w' => (∃ v, e = .returned v) ∧ Blk w' b 2 (pre ++ (mid.reverse.map (Value.int .i64) ++ post)) ∧ Keep (fun x => x = b) w w' := by
  subst hL; exact c_Reverse b o c mid pre post w ho hm hc hc2 h

theorem split_at (p : List Int) (m q : Nat) (h1 : m < q) (h2 : q < p.length) :
    ∃ (u d1 d2 : List Int) (a b : Int), p = u ++ a :: (d1 ++ b :: d2) ∧ u.length = m ∧ d1.length = q - m - 1 ∧ a = nth p m ∧ b = nth p q ∧ ∀ x ∈ d2, ∃ j : Nat, q < j ∧ j < p.length ∧ nth p j = x := by
  refine ⟨p.take m, (p.drop (m + 1)).take (q - m - 1), p.drop (q + 1), nth p m, nth p q, ?_, by simp; omega, by simp; omega, rfl, rfl, fun x hx => ?_⟩
  · have e1 : p = p.take m ++ p.drop m := (List.take_append_drop m p).symm
    have e2 : p.drop m = nth p m :: p.drop (m + 1) := by rw [List.drop_eq_getElem_cons (by omega), nth_nat _ _ (by omega)]
    have e3 : p.drop (m + 1) = (p.drop (m + 1)).take (q - m - 1) ++ (p.drop (m + 1)).drop (q - m - 1) := (List.take_append_drop _ _).symm
    have e4 : (p.drop (m + 1)).drop (q - m - 1) = nth p q :: p.drop (q + 1) := by
      rw [List.drop_drop, show m + 1 + (q - m - 1) = q from by omega, List.drop_eq_getElem_cons h2, nth_nat _ _ h2]
    rw [e4] at e3
    rw [e3] at e2
    rw [e2] at e1
    exact e1
  · obtain ⟨k, hk, rfl⟩ := List.getElem_of_mem hx
    have hk' : q + 1 + k < p.length := by simp at hk; omega
    refine ⟨q + 1 + k, by omega, hk', ?_⟩
    rw [nth_nat _ _ hk', List.getElem_drop]
theorem swap_split {p u d1 d2 : List Int} {a b : Int} {m q : Nat} (hpe : p = u ++ a :: (d1 ++ b :: d2)) (hu : u.length = m) (hd : d1.length = q - m - 1) (h : m < q) :
    ((p.map (Value.int .i64)).set m (.int .i64 b)).set q (.int .i64 a) = (u ++ [b]).map (Value.int .i64) ++ ((d1 ++ a :: d2).map (Value.int .i64) ++ []) := by
  subst hpe hu
  obtain rfl : q = u.length + (d1.length + 1) := by omega
  simp [List.set_append]
theorem drop_split {p u r : List Int} {a : Int} {m : Nat} (hpe : p = u ++ a :: r) (hu : u.length = m) : p.drop (m + 1) = r := by
  subst hpe hu
  rw [List.drop_append, List.drop_of_length_le (by omega), show u.length + 1 - u.length = 1 from by omega]
  rfl

def NextPost (b : Nat) (p : List Int) (w0 : World) (e : Ending) (w' : World) : Prop :=
  (∃ q, IsNext p q ∧ e = .returned (.bool true) ∧ Blk w' b 2 (q.map (Value.int .i64)) ∧ Keep (fun x => x = b) w0 w') ∨ (Desc p ∧ e = .returned (.bool false) ∧ Keep (fun x => x = b) w0 w')
theorem desc_step {p : List Int} {m : Nat} (h : m + 1 < p.length) (hd : Desc (p.drop (m + 1))) (hgt : nth p (m + 1 : Nat) < nth p m) : Desc (p.drop m) := by
  rw [List.drop_eq_getElem_cons (by omega)]
  refine List.pairwise_cons.2 ⟨fun x hx => ?_, hd⟩
  have h0 := hd
  rw [List.drop_eq_getElem_cons h] at hx h0
  rw [nth_nat _ _ h, nth_nat _ _ (by omega)] at hgt
  rcases List.mem_cons.1 hx with e | e
  · subst e; exact hgt
  · have := (List.pairwise_cons.1 h0).1 x e; omega

set_option maxRecDepth 100000 in
set_option maxHeartbeats 2000000 in
theorem c_nextPermutation (b : Nat) (p : List Int) (w : World) (hp : Permuted p) (h1 : 1 ≤ p.length) (hn : p.length ≤ 1048576) (h : Blk w b 2 (p.map (Value.int .i64))) :
    Calls Try.prog 87 #[.slice (some ⟨b, 0, none⟩) p.length p.length] w (NextPost b p w) := by
  have HP := Lib.hid hp; have HBk := Lib.hid h; clear h hp
  go_enter Try.func87, Try.ntmps87
  go_wp2
  go_loopw [3] (fun i wr => ∃ I : Int, i = .int .i64 I ∧ -1 ≤ I ∧ I ≤ (p.length : Int) - 2 ∧ Hid (∃ n, wr = w.drewN n) ∧ Hid (Desc (p.drop (I + 1).toNat))) (fun i _ => (intOf i + 1).toNat)
  case atStart =>
    refine ⟨_, rfl, by omega, by omega, Lib.hid ⟨0, rfl⟩, Lib.hid ?_⟩
    rw [show ((p.length : Int) - 2 + 1).toNat = p.length - 1 from by omega, List.drop_eq_getElem_cons (by omega), List.drop_of_length_le (by omega)]
    exact List.pairwise_singleton _ _
  case round =>
    obtain ⟨I, rfl, hI0, hI1, HN, HD⟩ := hrel
    by_cases h0 : 0 ≤ I
    · obtain ⟨m, rfl⟩ : ∃ m : Nat, I = m := ⟨I.toNat, by omega⟩
      have hb : Blk wr b 2 (p.map (Value.int .i64)) := by obtain ⟨n, hn⟩ := HN.out; rw [hn]; exact HBk.out.drewN n
      have k1 : wr.cell? ⟨b, m, none⟩ = some (.int .i64 (nth p m)) := by rw [hb.cell (by simp; omega)]; simp [nth_nat _ _ (show m < p.length by omega)]
      have k2 : wr.cell? ⟨b, m + 1, none⟩ = some (.int .i64 (nth p ((m : Int) + 1))) := by
        rw [hb.cell (by simp; omega), show (m : Int) + 1 = ((m + 1 : Nat) : Int) from by omega, nth_nat _ _ (show m + 1 < p.length by omega)]; simp
      have hm1 : (m : Int) < p.length := by omega
      have hm2 : (m : Int) + 1 < p.length := by omega
      have hm3 : (0 : Int) ≤ (m : Int) + 1 := by omega
      have Hb := Lib.hid hb
      clear hb
      obtain ⟨wo, rfl⟩ : ∃ wo : World, wo = wr := ⟨_, rfl⟩
      by_cases hc : nth p ((m : Int) + 1) < nth p m
      · have hc1 : decide (nth p ((m : Int) + 1) < nth p m) = true := by simp [hc]
        have HC := Lib.hid hc; clear hc
        go_wp2
        go_quiet (fail)
        go_wp2
        go_roundw
        case rel =>
          refine ⟨_, rfl, by omega, by omega, by obtain ⟨n, hn⟩ := HN.out; exact Lib.hid ⟨n + _, by rw [hn]; exact World.drewN_drewN w n _⟩, Lib.hid ?_⟩
          rw [show ((m : Int) - 1 + 1).toNat = m from by omega]
          refine desc_step (by omega) ?_ ?_
          · have h := HD.out; rwa [show ((m : Int) + 1).toNat = m + 1 from by omega] at h
          · have h := HC.out; rwa [show ((m + 1 : Nat) : Int) = (m : Int) + 1 from by omega]
        case measure => simp [intOf] <;> omega
      · have hc1 : decide (nth p ((m : Int) + 1) < nth p m) = false := by simp; omega
        have HC := Lib.hid hc; clear hc
        go_wp2
        go_quiet (fail)
        go_wp2
        go_loopw [4] (fun kk wr => ∃ q : Nat, kk = .int .i64 q ∧ m + 1 ≤ q ∧ q < p.length ∧ Hid (∃ n, wr = wo.drewN n) ∧ Hid (∀ j : Nat, q < j → j < p.length → nth p j < nth p m)) (fun kk _ => (intOf kk).toNat)
        case atStart => exact ⟨p.length - 1, by congr 1; omega, by omega, by omega, Lib.hid ⟨_, rfl⟩, Lib.hid (by intro j h1 h2; omega)⟩
        case round =>
          obtain ⟨q, rfl, hq0, hq1, HN2, HA⟩ := hrel
          have hb2 : Blk wr b 2 (p.map (Value.int .i64)) := by obtain ⟨n, hn⟩ := HN2.out; rw [hn]; exact Hb.out.drewN n
          have k1 : wr.cell? ⟨b, m, none⟩ = some (.int .i64 (nth p m)) := by rw [hb2.cell (by simp; omega)]; simp [nth_nat _ _ (show m < p.length by omega)]
          have k3 : wr.cell? ⟨b, q, none⟩ = some (.int .i64 (nth p q)) := by rw [hb2.cell (by simp; omega)]; simp [nth_nat _ _ (show q < p.length by omega)]
          have f1 := hb2.frozen m
          have f3 := hb2.frozen q
          have Hb2 := Lib.hid hb2; clear hb2
          by_cases hd : nth p q < nth p m
          · have hd1 : decide (nth p q < nth p m) = true := by simp [hd]
            have hq2 : m + 1 < q := by
              rcases Nat.lt_or_ge (m + 1) q with h | h
              · exact h
              · have : q = m + 1 := by omega
                subst this
                have h2 := HC.out
                rw [show ((m + 1 : Nat) : Int) = (m : Int) + 1 from by omega] at hd
                omega
            have HD2 := Lib.hid hd; clear hd
            go_wp2
            go_quiet (fail)
            go_wp2
            go_roundw
            case rel =>
              refine ⟨q - 1, by congr 1; omega, by omega, by omega, by obtain ⟨n, hn⟩ := HN2.out; exact Lib.hid ⟨n + _, by rw [hn]; exact World.drewN_drewN wo n _⟩, Lib.hid fun j h1 h2 => ?_⟩
              by_cases e : j = q
              · subst e; exact HD2.out
              · exact HA.out j (by omega) h2
            case measure => simp [intOf]; omega
          · have hd1 : decide (nth p q < nth p m) = false := by simp; omega
            have HD2 := Lib.hid hd; clear hd
            go_wp2
            go_quiet (fail)
            obtain ⟨W, hW⟩ : ∃ W, wr.drewN nq = W := ⟨_, rfl⟩
            have hbW : Blk W b 2 (p.map (Value.int .i64)) := by rw [← hW]; exact Hb2.out.drewN nq
            have hkW : Keep (fun x => x = b) w W := by
              obtain ⟨n1, e1⟩ := HN.out; obtain ⟨n2, e2⟩ := HN2.out
              rw [← hW, e2, e1]; exact (((Keep.refl _ w).drewN n1).drewN n2).drewN nq
            rw [hW]
            clear k1 k2 k3 f1 f3 hW
            have g1 : W.cell? ⟨b, m, none⟩ = some (.int .i64 (nth p m)) := by rw [hbW.cell (by simp; omega)]; simp [nth_nat _ _ (show m < p.length by omega)]
            have g3 : W.cell? ⟨b, q, none⟩ = some (.int .i64 (nth p q)) := by rw [hbW.cell (by simp; omega)]; simp [nth_nat _ _ (show q < p.length by omega)]
            have f1 := hbW.frozen m
            have f3 := hbW.frozen q
            have hqI : (q : Int) < p.length := by omega
            obtain ⟨u, d1, d2, a, c, hpe, hu, hdl, rfl, rfl, hlt⟩ := split_at p m q (by omega) hq1
            have hac : nth p m < nth p q := by
              have h1 := HD2.out
              have h2 : nth p m ≠ nth p q := fun e => by
                have := HP.out.inj (x := m) (y := q) (by omega) (by omega) (by omega) (by omega) e
                omega
              omega
            have hnext : IsNext p (u ++ nth p q :: (d1 ++ nth p m :: d2).reverse) := by
              refine ⟨u, d1, d2, _, _, hpe, rfl, ?_, hac, fun x hx => ?_⟩
              · have h := HD.out
                rw [show ((m : Int) + 1).toNat = m + 1 from by omega, drop_split hpe hu] at h
                exact h
              · obtain ⟨j, h1, h2, rfl⟩ := hlt x hx
                exact HA.out j h1 h2
            have hset := (hbW.set m (.int .i64 (nth p q))).set q (.int .i64 (nth p m))
            rw [swap_split hpe hu hdl (by omega)] at hset
            have hml : (d1 ++ nth p m :: d2).length = p.length - (m + 1) := by
              have := congrArg List.length hpe
              simp at this ⊢; omega
            have HX := Lib.hid hnext; have HS := Lib.hid hset.drew; have HM := Lib.hid hml; have HKW := Lib.hid hkW
            have hpl : ((u ++ [nth p q]).map (Value.int .i64)).length = m + 1 := by simp [hu]
            have HPL := Lib.hid hpl; skip
            clear hpe hu hdl hlt hac hnext hset hml hpl hbW hkW
            go_wp2
            go_region
            have e1 : p.length - (m + 1) = p.length - (m + 1) := rfl
            obtain ⟨W2, hW2⟩ : ∃ W2, ((W.setCell ⟨b, m, none⟩ (.int .i64 (nth p q))).setCell ⟨b, q, none⟩ (.int .i64 (nth p m))).drew = W2 := ⟨_, rfl⟩
            have HK2 : Hid (Keep (fun x => x = b) w W2) := by
              show Keep _ _ _
              rw [← hW2]
              exact ((HKW.out.setCell (p := ⟨b, m, none⟩) (.inl rfl) _).setCell (p := ⟨b, q, none⟩) (.inl rfl) _).drew
            rw [hW2] at HS ⊢
            clear hW2 g1 g3 f1 f3
            go_wp2_with fail
            refine (c_Reverse' b (m + 1) _ _ (d1 ++ nth p m :: d2) ((u ++ [nth p q]).map (Value.int .i64)) [] W2 HM.out HPL.out.symm (by rw [HM.out]; omega) (by rw [HM.out]; omega) (by omega) HS.out).mono ?_; rintro e w' ⟨⟨v, rfl⟩, hbk, hkk⟩
            have HBK := Lib.hid hbk; have HKK := Lib.hid hkk; clear hbk hkk
            go_wp2
            go_ret
            refine .inl ⟨_, HX.out, rfl, by simpa using HBK.out, HK2.out.trans ?_⟩
            exact HKK.out
    · have hd : decide (0 ≤ I) = false := by simp; omega
      have hlt : I < 0 := by omega
      have HI : Hid (I = -1) := by show _ = _; omega
      clear h0
      go_wp2
      go_quiet (fail)
      go_wp2
      go_ret
      refine .inr ⟨?_, rfl, ?_⟩
      · have h := HD.out; rw [HI.out] at h; simpa using h
      · obtain ⟨n1, e1⟩ := HN.out; rw [e1]; exact ((Keep.refl _ w).drewN n1).drewN _
end Go.Proofs.Ytgmhnjccgldddaa
