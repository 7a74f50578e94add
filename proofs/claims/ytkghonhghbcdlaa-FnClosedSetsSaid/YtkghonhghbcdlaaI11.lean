/-
  Sets of elements of a pair map and whether they are closed: the program's and the reference's functions. Conditions: a pair map; for 'closed': a set of its elements.
-/
import Derived.Test.YtkghonhghbcdlaaT1
import Derived.Test.YtkghonhghbcdlaaS1c
namespace Go.Proofs.Ytkghonhghbcdlaa
set_option linter.unusedVariables false
set_option linter.unusedSimpArgs false
open Go.RowKit

def setOk (n : Int) (l : List Int) : Bool := decide (0 < l.length) && (l.all fun x => inR x 0 (n - 1)) && incr l
theorem setOk_in {n : Int} {l : List Int} (h : setOk n l = true) {k : Nat} (hk : k < l.length) : 0 ≤ nth l k ∧ nth l k < n := by
  simp only [setOk, Bool.and_eq_true, List.all_eq_true] at h
  have := h.1.2 _ (nth_mem (p := l) (x := k) (by omega) (by omega))
  simp [inR] at this; omega
theorem setOk_len {n : Int} {l : List Int} (h : setOk n l = true) : 0 < l.length ∧ (l.length : Int) ≤ n := by
  have h' := h
  simp only [setOk, Bool.and_eq_true, decide_eq_true_eq] at h'
  refine ⟨h'.1.1, ?_⟩
  have hi := (incr_iff l).1 h'.2
  have hge : ∀ i : Nat, i < l.length → (i : Int) ≤ nth l i := by
    intro i
    induction i with
    | zero => intro hi; exact (setOk_in h (k := 0) hi).1
    | succ i ih =>
      intro h1
      have h2 := ih (by omega)
      have h3 := hi i h1
      have e : ((i + 1 : Nat) : Int) = (i : Int) + 1 := by omega
      rw [e]; omega
  have h1 := hge (l.length - 1) (by omega)
  have h2 := (setOk_in h (k := l.length - 1) (by omega)).2
  omega
def closF (A B : List (List Int)) (l : List Int) (a b : Nat) : Bool := decide (val2 A (nth l a) (nth l b) ∈ l) && decide (val2 B (nth l a) (nth l b) ∈ l)
def closL (A B : List (List Int)) (l : List Int) : Bool := all2 l.length (closF A B l)

set_option maxHeartbeats 400000 in
theorem c_areElements (n : Int) (v : Value) (xs : List Int) (w : World) (hx : Ints w v xs) (h0 : 0 ≤ n) (h1 : n ≤ 1048576) :
    Calls Try.prog 85 #[.int .i64 n, v] w fun e w' => e = .returned (.bool (xs.all fun x => inR x 0 (n - 1))) ∧ w = w' := by
  go_enter Try.func85, Try.ntmps85
  go_wp2_with fail
  refine (c_allWithin _ _ _ _ _ hx).mono ?_; rintro e w' ⟨rfl, rfl⟩
  go_wp2
  go_ret
  exact ⟨rfl, rfl⟩

set_option maxHeartbeats 400000 in
theorem c_slIndex (v : Value) (xs : List Int) (x : Int) (w : World) (hx : Ints w v xs) :
    Calls Try.prog 91 #[v, .int .i64 x] w fun e w' => e = .returned (.int .i64 (idx xs x)) ∧ w = w' := by
  obtain ⟨a, c, rfl, hc, hm⟩ := hx.shape
  go_enter Try.func91, Try.ntmps91
  go_wp2
  go_loop [8] (fun i => ∃ k : Nat, k ≤ xs.length ∧ i = .int .i64 k ∧ Hid (¬ x ∈ xs.take k)) (fun i => xs.length - (intOf i).toNat)
  case atStart => exact ⟨0, Nat.zero_le _, rfl, Lib.hid (by simp)⟩
  case round =>
    obtain ⟨k, hk, rfl, HA⟩ := hrel
    by_cases hlt : k < xs.length
    · obtain ⟨b, o, rfl, hcell⟩ := hx.get k hlt
      by_cases he : nth xs k = x
      · have he1 : (x == nth xs k) = true := by simp [he]
        have HE := Lib.hid he; clear he
        go_wp2
        go_ret
        exact ⟨ret_int (idx_first hlt HE.out HA.out).symm, rfl⟩
      · have he1 : (x == nth xs k) = false := by simp [Ne.symm he]
        have HE := Lib.hid he; clear he
        go_wp2
        go_round
        case rel =>
          refine ⟨k + 1, by omega, by go_num, Lib.hid ?_⟩
          rw [take_snoc _ _ hlt]
          intro hm
          rcases List.mem_append.1 hm with hm | hm
          · exact HA.out hm
          · simp at hm; exact HE.out hm.symm
        case measure => simp [intOf]; omega
    · go_wp2
      go_ret
      refine ⟨ret_int ?_, rfl⟩
      have := HA.out
      rw [List.take_of_length_le (by omega)] at this
      exact (idx_none this).symm

set_option maxHeartbeats 400000 in
theorem c_slContains (v : Value) (xs : List Int) (x : Int) (w : World) (hx : Ints w v xs) :
    Calls Try.prog 87 #[v, .int .i64 x] w fun e w' => e = .returned (.bool (decide (x ∈ xs))) ∧ w = w' := by
  go_enter Try.func87, Try.ntmps87
  go_wp2_with fail
  refine (c_slIndex _ _ _ _ hx).mono ?_; rintro e w' ⟨rfl, rfl⟩
  by_cases h : x ∈ xs
  · have h1 := (idx_mem h).1
    have H := Lib.hid h; clear h
    go_wp2
    go_ret
    exact ⟨ret_bool (by have := H.out; simp [this, h1]), rfl⟩
  · have h1 := idx_none h
    have H := Lib.hid h; clear h
    go_wp2
    go_ret
    exact ⟨ret_bool (by have := H.out; simp [this]), rfl⟩

set_option maxHeartbeats 800000 in
theorem c_isSet (n : Int) (v : Value) (xs : List Int) (w : World) (hx : Ints w v xs) (h0 : 0 ≤ n) (h1 : n ≤ 1048576) :
    Calls Try.prog 47 #[.int .i64 n, v] w (RVal w (.bool (setOk n xs))) := by
  obtain ⟨a, c, rfl, hc, hm⟩ := hx.shape
  by_cases p0 : 0 < xs.length
  · by_cases p1 : (xs.all fun x => inR x 0 (n - 1)) = true
    · have P1 := Lib.hid p1
      go_enter Try.func47, Try.ntmps47
      go_wp2_with fail
      refine (c_areElements _ _ _ _ hx h0 h1).mono ?_; rintro e w' ⟨rfl, rfl⟩
      rw [P1.out]
      clear p1
      go_wp2_with fail
      refine (c_increasing _ _ _ hx).mono ?_; rintro e w' h
      obtain ⟨rfl, hb⟩ := h.r
      have HB := Lib.hid hb; clear hb h
      go_wp2
      go_ret
      exact ⟨ret_bool (by simp only [setOk, P1.out, p0, decide_true, Bool.true_and]), HB.out⟩
    · have p1' : (xs.all fun x => inR x 0 (n - 1)) = false := by simpa using p1
      have P1 := Lib.hid p1'; clear p1 p1'
      go_enter Try.func47, Try.ntmps47
      go_wp2_with fail
      refine (c_areElements _ _ _ _ hx h0 h1).mono ?_; rintro e w' ⟨rfl, rfl⟩
      rw [P1.out]
      go_wp2
      go_ret
      exact ⟨ret_bool (by simp only [setOk, P1.out, Bool.and_false, Bool.false_and]), Below.refl _ _⟩
  · go_enter Try.func47, Try.ntmps47
    go_wp2
    go_ret
    exact ⟨ret_bool (by simp [setOk, p0]), Below.refl _ _⟩

set_option maxRecDepth 100000 in
set_option maxHeartbeats 800000 in
theorem c_isClosed (v0 u0 : Value) (A B : List (List Int)) (v1 : Value) (L : List Int) (w : World) (hA : Sol w v0 u0 A B) (hL : Ints w v1 L) (hp : isPM A B = true) (hs : setOk A.length L = true) :
    Calls Try.prog 48 #[.agg #[v0, u0], v1] w (RVal w (.bool (closL A B L))) := by
  obtain ⟨n0, b0, o0, c0, rb0, ro0, rc0, b0s, o0s, c0s, rb0s, ro0s, rc0s, rfl, rfl, hl0, hl0s, hn0, hx0, hc0, hm0, hc0s, hm0s, t0, t0s⟩ := hA.tabs hp
  have HL0 := Lib.hid hl0; clear hl0
  have HL0s := Lib.hid hl0s; clear hl0s
  obtain ⟨a1, c1, rfl, hc1, hm1⟩ := hL.shape
  go_enter Try.func48, Try.ntmps48
  go_wp2
  obtain ⟨f0, hW0, hsz⟩ := boxes1 w [.slice (some ⟨b0, o0, none⟩) n0 c0, .slice (some ⟨b0s, o0s, none⟩) n0 c0s] 26
  obtain ⟨W0, hW⟩ : ∃ W, (w.alloc (.cells #[.slice (some ⟨b0, o0, none⟩) n0 c0, .slice (some ⟨b0s, o0s, none⟩) n0 c0s] 26)) = W := ⟨_, rfl⟩
  rw [hW] at f0 hW0 hsz ⊢
  have HSZ := Lib.hid hsz
  clear hW hsz
  obtain ⟨cA0, cB0, -, -⟩ := two_cells f0
  replace t0 := t0.below hW0; replace t0s := t0s.below hW0
  have HT := Lib.hid t0; have HTs := Lib.hid t0s; have HW := Lib.hid hW0; have HS := Lib.hid hs
  have hLW := hL.below hW0
  have hl12 := (setOk_len hs).2
  have hlpos := (setOk_len hs).1
  rw [HL0.out] at hl12
  obtain ⟨bl, ol, rfl, _⟩ := hLW.get 0 hlpos
  clear t0 t0s hA hp hW0 f0 hs hL
  go_loop [11, 6, 8] (fun i _ _ => ∃ k : Nat, k ≤ L.length ∧ i = .int .i64 k ∧ Hid (∀ x, x < k → ∀ y, y < L.length → closF A B L x y = true)) (fun i _ _ => L.length - (intOf i).toNat)
  case atStart => exact ⟨0, Nat.zero_le _, rfl, Lib.hid (by intro x hx; omega)⟩
  case round =>
    obtain ⟨k, hk, rfl, HA1⟩ := hrel
    by_cases hlt : k < L.length
    · have hxx := setOk_in HS.out hlt
      rw [HL0.out] at hxx
      obtain ⟨hx0', hx1'⟩ := hxx
      have l1 := hLW.at k hlt
      go_wp2
      go_loop [17, 8] (fun i _ => ∃ j : Nat, j ≤ L.length ∧ i = .int .i64 j ∧ Hid (∀ y, y < j → closF A B L k y = true)) (fun i _ => L.length - (intOf i).toNat)
      case atStart => exact ⟨0, Nat.zero_le _, rfl, Lib.hid (by intro x hx; omega)⟩
      case round =>
        obtain ⟨j, hj, rfl, HA2⟩ := hrel
        by_cases hlj : j < L.length
        · have hyy := setOk_in HS.out hlj
          rw [HL0.out] at hyy
          obtain ⟨hy0', hy1'⟩ := hyy
          have l2 := hLW.at j hlj
          have r1 := HT.out.rowi (nth L k) hx0' hx1'; have v1 := HT.out.vali (nth L k) (nth L j) hx0' hx1' hy0' hy1'
          have r2 := HTs.out.rowi (nth L k) hx0' hx1'; have v2 := HTs.out.vali (nth L k) (nth L j) hx0' hx1' hy0' hy1'
          by_cases h1 : val2 A (nth L k) (nth L j) ∈ L
          · have d1 : decide (val2 A (nth L k) (nth L j) ∈ L) = true := by simp [h1]
            have H1 := Lib.hid h1; clear h1
            by_cases h2 : val2 B (nth L k) (nth L j) ∈ L
            · have d2 : decide (val2 B (nth L k) (nth L j) ∈ L) = true := by simp [h2]
              have H2 := Lib.hid h2; clear h2
              go_wp2_with fail
              refine (c_slContains _ _ _ _ hLW).mono ?_; rintro e w' ⟨rfl, rfl⟩
              go_wp2_with fail
              refine (c_slContains _ _ _ _ hLW).mono ?_; rintro e w' ⟨rfl, rfl⟩
              go_wp2
              go_round
              case rel => exact ⟨j + 1, by omega, by go_num, Lib.hid (lt_snoc HA2.out (by simp [closF, H1.out, H2.out]))⟩
              case measure => simp [intOf]; omega
            · have d2 : decide (val2 B (nth L k) (nth L j) ∈ L) = false := by simp [h2]
              have H2 := Lib.hid h2; clear h2
              go_wp2_with fail
              refine (c_slContains _ _ _ _ hLW).mono ?_; rintro e w' ⟨rfl, rfl⟩
              go_wp2_with fail
              refine (c_slContains _ _ _ _ hLW).mono ?_; rintro e w' ⟨rfl, rfl⟩
              go_wp2
              go_ret
              exact ⟨ret_bool (by simp [closL, all2_no hlt hlj (P := closF A B L) (by simp [closF, H2.out])]), HW.out⟩
          · have d1 : decide (val2 A (nth L k) (nth L j) ∈ L) = false := by simp [h1]
            have H1 := Lib.hid h1; clear h1
            go_wp2_with fail
            refine (c_slContains _ _ _ _ hLW).mono ?_; rintro e w' ⟨rfl, rfl⟩
            go_wp2
            go_ret
            exact ⟨ret_bool (by simp [closL, all2_no hlt hlj (P := closF A B L) (by simp [closF, H1.out])]), HW.out⟩
        · obtain rfl : j = L.length := by omega
          go_wp2
          go_round
          case rel => exact ⟨k + 1, by omega, by go_num, Lib.hid (lt_snoc HA1.out HA2.out)⟩
          case measure => simp [intOf]; omega
    · obtain rfl : k = L.length := by omega
      go_wp2
      go_ret
      exact ⟨ret_bool (by simp [closL, all2_iff.2 HA1.out]), HW.out⟩


theorem quiet_left {P : Program} {f : FuncId} {args : Array Value} {w : World} {n : Nat} {v : Value}
    (h : Calls P f args (w.drewN n) fun e w' => e = .returned v ∧ w.drewN n = w') : Calls P f args (w.drewN n) fun e w'' => e = .returned v ∧ ∃ m, w'' = w.drewN m :=
  h.mono fun _ _ ⟨he, hm⟩ => ⟨he, n, hm.symm⟩

set_option maxRecDepth 100000 in
set_option maxHeartbeats 800000 in
theorem c_l02Closed (v0 u0 : Value) (A B : List (List Int)) (v1 : Value) (L : List Int) (w : World) (hA : Sol w v0 u0 A B) (hL : Ints w v1 L) (hp : isPM A B = true) (hs : setOk A.length L = true) :
    Calls Try.prog 53 #[.agg #[v0, u0], v1] w (RVal w (.bool (closL A B L))) := by
  obtain ⟨n0, b0, o0, c0, rb0, ro0, rc0, b0s, o0s, c0s, rb0s, ro0s, rc0s, rfl, rfl, hl0, hl0s, hn0, hx0, hc0, hm0, hc0s, hm0s, t0, t0s⟩ := hA.tabs hp
  have HL0 := Lib.hid hl0; clear hl0
  have HL0s := Lib.hid hl0s; clear hl0s
  obtain ⟨a1, c1, rfl, hc1, hm1⟩ := hL.shape
  go_enter Try.func53, Try.ntmps53
  go_wp2
  obtain ⟨f0, hW0, hsz⟩ := boxes1 w [.slice (some ⟨b0, o0, none⟩) n0 c0, .slice (some ⟨b0s, o0s, none⟩) n0 c0s] 26
  obtain ⟨W0, hW⟩ : ∃ W, (w.alloc (.cells #[.slice (some ⟨b0, o0, none⟩) n0 c0, .slice (some ⟨b0s, o0s, none⟩) n0 c0s] 26)) = W := ⟨_, rfl⟩
  rw [hW] at f0 hW0 hsz ⊢
  have HSZ := Lib.hid hsz
  clear hW hsz
  obtain ⟨cA0, cB0, -, -⟩ := two_cells f0
  replace t0 := t0.below hW0; replace t0s := t0s.below hW0
  have HT := Lib.hid t0; have HTs := Lib.hid t0s; have HW := Lib.hid hW0; have HS := Lib.hid hs; have HF := Lib.hid f0
  have hLW := hL.below hW0
  have hl12 := (setOk_len hs).2
  have hlpos := (setOk_len hs).1
  rw [HL0.out] at hl12
  obtain ⟨bl, ol, rfl, _⟩ := hLW.get 0 hlpos
  have HLW := Lib.hid hLW
  clear t0 t0s hA hp hW0 f0 hs hL hLW cA0 cB0
  go_loopw [5, 6] (fun i _ wr => ∃ k : Nat, k ≤ L.length ∧ i = .int .i64 k ∧ Hid (Below W0.heap.size W0 wr) ∧ Hid (∀ x, x < k → ∀ y, y < L.length → closF A B L x y = true)) (fun i _ _ => L.length - (intOf i).toNat)
  case atStart => exact ⟨0, Nat.zero_le _, rfl, Lib.hid (Below.refl _ _), Lib.hid (by intro x hx; omega)⟩
  case round =>
    obtain ⟨k, hk, rfl, HB1, HA1⟩ := hrel
    obtain ⟨wo, rfl⟩ : ∃ wo : World, wo = wr := ⟨_, rfl⟩
    by_cases hlt : k < L.length
    · have hxx := setOk_in HS.out hlt
      rw [HL0.out] at hxx
      obtain ⟨hx0', hx1'⟩ := hxx
      go_wp2
      go_loopw [6] (fun i wr => ∃ j : Nat, j ≤ L.length ∧ i = .int .i64 j ∧ Hid (Below W0.heap.size W0 wr) ∧ Hid (∀ y, y < j → closF A B L k y = true)) (fun i _ => L.length - (intOf i).toNat)
      case atStart => exact ⟨0, Nat.zero_le _, rfl, HB1, Lib.hid (by intro x hx; omega)⟩
      case round =>
        obtain ⟨j, hj, rfl, HB2, HA2⟩ := hrel
        by_cases hlj : j < L.length
        · have hyy := setOk_in HS.out hlj
          rw [HL0.out] at hyy
          obtain ⟨hy0', hy1'⟩ := hyy
          have hLi := HLW.out.below HB2.out
          have l1 := hLi.at k hlt
          have l2 := hLi.at j hlj
          have T := HT.out.below HB2.out; have Ts := HTs.out.below HB2.out
          obtain ⟨cA2, cB2, -, -⟩ := two_cells (HF.out.under HB2.out)
          have r1 := T.rowi (nth L k) hx0' hx1'; have v1 := T.vali (nth L k) (nth L j) hx0' hx1' hy0' hy1'
          have r2 := Ts.rowi (nth L k) hx0' hx1'; have v2 := Ts.vali (nth L k) (nth L j) hx0' hx1' hy0' hy1'
          have HLi := Lib.hid hLi
          have hk0 : (0 : Int) ≤ k := by omega
          have hk1 : (k : Int) < L.length := by omega
          have hj0 : (0 : Int) ≤ j := by omega
          have hj1 : (j : Int) < L.length := by omega
          clear T Ts hLi
          by_cases h1 : val2 A (nth L k) (nth L j) ∈ L
          · have d1 : decide (val2 A (nth L k) (nth L j) ∈ L) = true := by simp [h1]
            have H1 := Lib.hid h1
            by_cases h2 : val2 B (nth L k) (nth L j) ∈ L
            · have d2 : decide (val2 B (nth L k) (nth L j) ∈ L) = true := by simp [h2]
              have H2 := Lib.hid h2
              go_wp2
              go_quiet ((go_at_call 45; exact quiet_left (c_l01Has _ _ _ _ (HLi.out.below (below_drewN (Below.refl _ _) _)))))
              go_wp2
              go_roundw
              case rel => exact ⟨j + 1, by omega, by go_num, Lib.hid (below_drewN HB2.out _), Lib.hid (lt_snoc HA2.out (by simp [closF, H1.out, H2.out]))⟩
              case measure => simp [intOf]; omega
            · have d2 : decide (val2 B (nth L k) (nth L j) ∈ L) = false := by simp [h2]
              have H2 := Lib.hid h2
              go_wp2
              go_quiet ((go_at_call 45; exact quiet_left (c_l01Has _ _ _ _ (HLi.out.below (below_drewN (Below.refl _ _) _)))))
              go_wp2
              go_ret
              exact ⟨ret_bool (by simp [closL, all2_no hlt hlj (P := closF A B L) (by simp [closF, H2.out])]), bb HW.out (below_drewN HB2.out _)⟩
          · have d1 : decide (val2 A (nth L k) (nth L j) ∈ L) = false := by simp [h1]
            have H1 := Lib.hid h1
            go_wp2
            go_quiet ((go_at_call 45; exact quiet_left (c_l01Has _ _ _ _ (HLi.out.below (below_drewN (Below.refl _ _) _)))))
            go_wp2
            go_ret
            exact ⟨ret_bool (by simp [closL, all2_no hlt hlj (P := closF A B L) (by simp [closF, H1.out])]), bb HW.out (below_drewN HB2.out _)⟩
        · obtain rfl : j = L.length := by omega
          go_wp2
          go_roundw
          case rel => exact ⟨k + 1, by omega, by go_num, HB2, Lib.hid (lt_snoc HA1.out HA2.out)⟩
          case measure => simp [intOf]; omega
    · obtain rfl : k = L.length := by omega
      go_wp2
      go_ret
      exact ⟨ret_bool (by simp [closL, all2_iff.2 HA1.out]), bb HW.out HB1.out⟩

theorem setOk_no1 {n : Int} {l : List Int} {k : Nat} (hk : k < l.length) (h : inR (nth l k) 0 (n - 1) = false) : setOk n l = false := by
  have : (l.all fun x => inR x 0 (n - 1)) = false := List.all_eq_false.2 ⟨_, nth_mem (p := l) (x := k) (by omega) (by omega), by simp [h]⟩
  simp only [setOk, this, Bool.and_false, Bool.false_and]
theorem setOk_no2 {n : Int} {l : List Int} {k : Nat} (hk : k + 1 < l.length) (h : nth l ((k : Int) + 1) ≤ nth l k) : setOk n l = false := by
  have : incr l = false := by
    rw [Bool.eq_false_iff, ne_eq, incr_iff]
    intro hall
    have := hall k hk
    omega
  simp only [setOk, this, Bool.and_false]
theorem setOk_yes {n : Int} {l : List Int} (h1 : ∀ k, k < l.length → inR (nth l k) 0 (n - 1) = true) (h2 : ∀ k, k + 1 < l.length → nth l k < nth l ((k : Int) + 1)) : setOk n l = decide (0 < l.length) := by
  have e1 : (l.all fun x => inR x 0 (n - 1)) = true := by
    refine List.all_eq_true.2 fun x hx => ?_
    obtain ⟨k, hk, rfl⟩ := List.getElem_of_mem hx
    have := h1 k hk
    rwa [nth_nat _ _ hk] at this
  have e2 : incr l = true := (incr_iff l).2 h2
  simp only [setOk, e1, e2, Bool.and_true]

set_option maxRecDepth 100000 in
set_option maxHeartbeats 1000000 in
theorem c_l02Set (n : Int) (v : Value) (xs : List Int) (w : World) (hx : Ints w v xs) (h0 : 0 ≤ n) (h1 : n ≤ 1048576) :
    Calls Try.prog 92 #[.int .i64 n, v] w (RVal w (.bool (setOk n xs))) := by
  obtain ⟨a, c, rfl, hc, hm⟩ := hx.shape
  have HX := Lib.hid hx; clear hx
  go_enter Try.func92, Try.ntmps92
  go_wp2
  go_loopw [5] (fun i wr => ∃ k : Nat, k ≤ xs.length ∧ i = .int .i64 k ∧ Hid (Below w.heap.size w wr) ∧ Hid (∀ j, j < k → inR (nth xs j) 0 (n - 1) = true) ∧ Hid (∀ j, j + 1 < k → nth xs j < nth xs ((j : Int) + 1))) (fun i _ => xs.length - (intOf i).toNat)
  case atStart => exact ⟨0, Nat.zero_le _, rfl, Lib.hid (Below.refl _ _), Lib.hid (by intro j hj; omega), Lib.hid (by intro j hj; omega)⟩
  case round =>
    obtain ⟨k, hk, rfl, HB, HA, HI⟩ := hrel
    by_cases hlt : k < xs.length
    · obtain ⟨b, o, rfl, l1⟩ := (HX.out.below HB.out).get k hlt
      by_cases hin : inR (nth xs k) 0 (n - 1) = true
      · have HN := Lib.hid hin
        by_cases hk0 : k = 0
        · subst hk0
          have l1' : wr.cell? ⟨b, o, none⟩ = some (.int .i64 (nth xs 0)) := by simpa using l1
          have hin0 : inR (nth xs 0) 0 (n - 1) = true := by simpa using hin
          have h0l : (0 : Int) < xs.length := by omega
          clear l1 hin
          go_wp2
          go_quiet ((go_at_call 97; exact quiet_left (c_l01In _ _ _ _)))
          go_wp2
          go_roundw
          case rel =>
            refine ⟨1, by omega, rfl, Lib.hid (below_drewN HB.out _), Lib.hid fun j hj => ?_, Lib.hid (by intro j hj; omega)⟩
            obtain rfl : j = 0 := by omega
            exact HN.out
          case measure => simp [intOf]; omega
        · obtain ⟨m, rfl⟩ : ∃ m, k = m + 1 := ⟨k - 1, by omega⟩
          have l2 := (HX.out.below HB.out).at m (by omega)
          rw [show ((m + 1 : Nat) : Int) = (m : Int) + 1 from by omega] at l1 hin HN
          have hm0 : (0 : Int) ≤ m := by omega
          have hm1 : (m : Int) < xs.length := by omega
          have hm2 : (m : Int) + 1 < xs.length := by omega
          have hm3 : (0 : Int) < (m : Int) + 1 := by omega
          have hm4 : decide ((0 : Int) < (m : Int) + 1) = true := decide_eq_true (by omega)
          by_cases hle : nth xs ((m : Int) + 1) ≤ nth xs m
          · have d1 : decide (nth xs ((m : Int) + 1) ≤ nth xs m) = true := by simp [hle]
            have HLe := Lib.hid hle; clear hle
            go_wp2
            go_quiet ((go_at_call 97; exact quiet_left (c_l01In _ _ _ _)))
            go_wp2
            go_ret
            exact ⟨ret_bool (setOk_no2 (n := n) hlt HLe.out).symm, below_drewN HB.out _⟩
          · have d1 : decide (nth xs ((m : Int) + 1) ≤ nth xs m) = false := by simp; omega
            have HLe := Lib.hid hle; clear hle
            go_wp2
            go_quiet ((go_at_call 97; exact quiet_left (c_l01In _ _ _ _)))
            go_wp2
            go_roundw
            case rel =>
              refine ⟨m + 1 + 1, by omega, by go_num, Lib.hid (below_drewN HB.out _), Lib.hid (lt_snoc HA.out HN.out), Lib.hid fun j hj => ?_⟩
              by_cases e : j + 1 < m + 1
              · exact HI.out j e
              · obtain rfl : j = m := by omega
                have := HLe.out; omega
            case measure => simp [intOf]; omega
      · have hin' : inR (nth xs k) 0 (n - 1) = false := by simpa using hin
        have HN := Lib.hid hin'; clear hin
        go_wp2
        go_quiet ((go_at_call 97; exact quiet_left (c_l01In _ _ _ _)))
        go_wp2
        go_ret
        exact ⟨ret_bool (setOk_no1 hlt HN.out).symm, below_drewN HB.out _⟩
    · have hk' : k = xs.length := by omega
      have HK := Lib.hid hk'; clear hk'
      go_wp2
      go_ret
      refine ⟨ret_bool ?_, HB.out⟩
      have e := setOk_yes (n := n) (l := xs) (fun j hj => HA.out j (by rw [HK.out]; exact hj)) (fun j hj => HI.out j (by rw [HK.out]; exact hj))
      rw [e]

def setCode (A B : List (List Int)) (L : List Int) : Int := if isPM A B then (if setOk A.length L then 0 else 2) else 1
set_option maxRecDepth 100000 in
set_option maxHeartbeats 800000 in
theorem c_l02SetCode (v0 u0 : Value) (A B : List (List Int)) (v1 : Value) (L : List Int) (w : World) (hA : Sol w v0 u0 A B) (hL : Ints w v1 L)  :
    Calls Try.prog 52 #[.agg #[v0, u0], v1] w (RVal w (.int .i64 (setCode A B L))) := by
  by_cases hp0 : isPM A B = true
  case neg =>
    have hq0 : isPM A B = false := by simpa using hp0
    have HQ := Lib.hid hq0; clear hp0
    obtain ⟨a0, c0, rfl, _, _⟩ := hA.1.shape
    obtain ⟨a0s, c0s, rfl, _, _⟩ := hA.2.shape
    obtain ⟨a1, c1, rfl, hc1, hm1⟩ := hL.shape
    go_enter Try.func52, Try.ntmps52
    go_wp2_with fail
    obtain ⟨f0, hW0, hsz⟩ := boxes1 w [.slice a0 A.length c0, .slice a0s B.length c0s] 26
    obtain ⟨W0, hW⟩ : ∃ W, (w.alloc (.cells #[.slice a0 A.length c0, .slice a0s B.length c0s] 26)) = W := ⟨_, rfl⟩
    rw [hW] at f0 hW0 hsz ⊢
    clear hW hsz
    refine (c_l02Map _ _ _ _ _ (hA.below hW0)).mono ?_; rintro e g0 ⟨rfl, hbg0⟩
    have hB0 := bb hW0 hbg0
    replace f0 := f0.under hbg0
    obtain ⟨cA0, cB0, -, -⟩ := two_cells f0
    clear hbg0
    have HB := Lib.hid hB0
    clear hB0 hW0
    go_wp2
    go_ret
    exact ⟨ret_int (by simp [setCode, HQ.out]), HB.out⟩
  have HP0 := Lib.hid hp0
  obtain ⟨a0, c0, rfl, _, _⟩ := hA.1.shape
  obtain ⟨a0s, c0s, rfl, _, _⟩ := hA.2.shape
  obtain ⟨a1, c1, rfl, hc1, hm1⟩ := hL.shape
  go_enter Try.func52, Try.ntmps52
  go_wp2_with fail
  obtain ⟨f0, hW0, hsz⟩ := boxes1 w [.slice a0 A.length c0, .slice a0s B.length c0s] 26
  obtain ⟨W0, hW⟩ : ∃ W, (w.alloc (.cells #[.slice a0 A.length c0, .slice a0s B.length c0s] 26)) = W := ⟨_, rfl⟩
  rw [hW] at f0 hW0 hsz ⊢
  clear hW hsz
  refine (c_l02Map _ _ _ _ _ (hA.below hW0)).mono ?_; rintro e g0 ⟨rfl, hbg0⟩
  have hB0 := bb hW0 hbg0
  replace f0 := f0.under hbg0
  obtain ⟨cA0, cB0, -, -⟩ := two_cells f0
  clear hbg0
  have hl12 := isTab_len (isPM_parts HP0.out).1
  by_cases hs : setOk A.length L = true
  · have HS := Lib.hid hs
    go_wp2_with fail
    refine (c_l02Set _ _ _ _ (hL.below hB0) (by omega) (by omega)).mono ?_; rintro e w2 ⟨rfl, hb⟩
    have HB := Lib.hid (bb hB0 hb); clear hb hB0 hW0 f0 hA hL
    go_wp2
    go_ret
    exact ⟨ret_int (by simp [setCode, HP0.out, HS.out]), HB.out⟩
  · have hs' : setOk A.length L = false := by simpa using hs
    have HS := Lib.hid hs'; clear hs
    go_wp2_with fail
    refine (c_l02Set _ _ _ _ (hL.below hB0) (by omega) (by omega)).mono ?_; rintro e w2 ⟨rfl, hb⟩
    have HB := Lib.hid (bb hB0 hb); clear hb hB0 hW0 f0 hA hL
    go_wp2
    go_ret
    exact ⟨ret_int (by simp [setCode, HP0.out, HS.out]), HB.out⟩
end Go.Proofs.Ytkghonhghbcdlaa
