/-
  The law FnSolutionForms answers true, and leaves what was there as it was: at every slice of bytes.
-/
import Derived.Deep.DeepCutAuto
import Derived.Test.YtgmhnjccgldddaaSFO1
import Derived.Test.YtgmhnjccgldddaaSFO2
import Derived.Test.YtgmhnjccgldddaaSFO3
import Derived.Test.YtgmhnjccgldddaaSFO4
import Derived.Test.YtgmhnjccgldddaaSFO5
namespace Go.Proofs.Ytgmhnjccgldddaa
set_option linter.unusedVariables false
set_option linter.unusedSimpArgs false
open Go Go.RowKit

def fsFrom (f : Nat → Value) (l : List Value) : Nat → Nat → List Value
  | _, 0 => l
  | k, n + 1 => f k :: fsFrom f l (k + 1) n
theorem fsFrom_is (l0 l : List Value) (f : Nat → Value) : ∀ n k, (∀ j, k ≤ j → j < k + n → l0[j]? = some (f j)) → k + n ≤ l0.length → fsFrom f (l0.drop (k + n)) k n = l0.drop k
  | 0, k, _, _ => rfl
  | n + 1, k, h, hl => by
    have ih := fsFrom_is l0 l f n (k + 1) (fun j h1 h2 => h j (by omega) (by omega)) (by omega)
    have hk : k < l0.length := by omega
    have h0 := h k (Nat.le_refl _) (by omega)
    rw [List.getElem?_eq_getElem hk] at h0
    injection h0 with h0
    simp only [fsFrom]
    rw [show k + (n + 1) = k + 1 + n from by omega, ih, ← h0]
    exact (List.drop_eq_getElem_cons hk).symm
theorem forgetF {Pd : Array Value → Prop} (l : List Value) (i n : Nat) (hl : i + n ≤ l.length) (h : ∀ f : Nat → Value, Pd (l.take i ++ fsFrom f (l.drop (i + n)) 0 n).toArray) : Pd l.toArray := by
  have h2 := h (fun k => (l.drop i).getD k undef)
  have e := fsFrom_is (l.drop i) [] (fun k => (l.drop i).getD k undef) n 0 (fun j _ hj => by
    have hj2 : j < (l.drop i).length := by simp; omega
    simp only [List.getD_eq_getElem?_getD, List.getElem?_eq_getElem hj2, Option.getD_some]) (by simp; omega)
  rw [Nat.zero_add, List.drop_drop, List.drop_zero] at e
  rw [e, List.take_append_drop] at h2
  exact h2
theorem forget6 {Pd : Array Value → Prop} (l : List Value) (i : Nat) (hl : i + 6 ≤ l.length) (h : ∀ f : Nat → Value, Pd (l.take i ++ (f 0 :: f 1 :: f 2 :: f 3 :: f 4 :: f 5 :: l.drop (i + 6))).toArray) : Pd l.toArray :=
  forgetF l i 6 hl h
theorem forget50 {Pd : Array Value → Prop} (l : List Value) (i : Nat) (hl : i + 50 ≤ l.length) (h : ∀ f : Nat → Value, Pd (l.take i ++ (f 0 :: f 1 :: f 2 :: f 3 :: f 4 :: f 5 :: f 6 :: f 7 :: f 8 :: f 9 :: f 10 :: f 11 :: f 12 :: f 13 :: f 14 :: f 15 :: f 16 :: f 17 :: f 18 :: f 19 :: f 20 :: f 21 :: f 22 :: f 23 :: f 24 :: f 25 :: f 26 :: f 27 :: f 28 :: f 29 :: f 30 :: f 31 :: f 32 :: f 33 :: f 34 :: f 35 :: f 36 :: f 37 :: f 38 :: f 39 :: f 40 :: f 41 :: f 42 :: f 43 :: f 44 :: f 45 :: f 46 :: f 47 :: f 48 :: f 49 :: l.drop (i + 50))).toArray) : Pd l.toArray :=
  forgetF l i 50 hl h
theorem LS.rebase {w W : World} {L : List (Value × List Int)} {M : List (Value × List (List Int))} {Bx : List (Nat × Value × Value)} (h : LS w W L M Bx) : LS W W L M Bx := ⟨h.1, h.2.1, h.2.2.1, Below.refl _ _⟩
theorem LS.fewer {w W : World} {L L' : List (Value × List Int)} {M M' : List (Value × List (List Int))} {Bx Bx' : List (Nat × Value × Value)} (h : LS w W L M Bx) (h1 : ∀ e ∈ L', e ∈ L) (h2 : ∀ e ∈ M', e ∈ M) (h3 : ∀ e ∈ Bx', e ∈ Bx) : LS w W L' M' Bx' := ⟨fun e he => h.1 e (h1 e he), fun e he => h.2.1 e (h2 e he), fun e he => h.2.2.1 e (h3 e he), h.2.2.2⟩
theorem cut_waysSF {p G : Prop} (k : Hid p → G) (h : p) : G := k (Lib.hid h)
set_option maxRecDepth 100000 in
set_option maxHeartbeats 16000000 in
theorem law_SolutionForms (v : Value) (bs : List Int) (w : World) (hv : Bytes w v bs) : Calls Try.prog 5 #[v] w (RVal w (.bool true)) := by
  have HV : Hid (BytesR w v bs.length) := Lib.hid hv
  obtain ⟨a, c, hva, -⟩ := hv
  subst hva
  go_enter Try.func5, Try.ntmps5
  go_wp2_with fail
  refine (c_big a bs.length c _).mono ?_; rintro e w' ⟨rfl, rfl⟩
  by_cases hbig : 4096 < bs.length
  case pos =>
    have hd : decide (4096 < bs.length) = true := by simpa using hbig
    rw [hd]; clear hd hbig
    go_wp2
    go_ret
    exact ⟨rfl, Below.refl _ _⟩
  have hd : decide (4096 < bs.length) = false := by simpa using hbig
  rw [hd]; clear hd
  go_wp2_with fail
  refine (c_DrawIso _ bs.length _ HV.out (by omega)).mono ?_; rintro e w1 ⟨v1, v2, v3, v4, A, B, C, D, rfl, hs, ht, hb⟩
  obtain ⟨a1, l1, c1, hr1⟩ := hs.1.any
  obtain ⟨d1, m1, k1, hr2⟩ := hs.2.any
  obtain ⟨a2, l2, c2, hr3⟩ := ht.1.any
  obtain ⟨d2, m2, k2, hr4⟩ := ht.2.any
  subst hr1 hr2 hr3 hr4
  have hl1 : l1 = A.length := by
    obtain ⟨_, _, h, _⟩ := hs.1.shape
    injection h with _ h
  have hl2 : l2 = C.length := by
    obtain ⟨_, _, h, _⟩ := ht.1.shape
    injection h with _ h
  have HLl := Lib.hid (And.intro hl1 hl2)
  clear hl1 hl2
  have H1 := Lib.hid (((((LS.addS (w := w) (L := []) (M := []) (Bx := []) ⟨fun e he => by simp at he, fun e he => by simp at he, fun e he => by simp at he, hb⟩ hs).addS ht)).box (.slice a1 l1 c1) (.slice d1 m1 k1)).box (.slice a2 l2 c2) (.slice d2 m2 k2))
  have HBig := Lib.hid (show bs.length ≤ 4096 by omega)
  clear hs ht hb hbig
  by_cases hpp : isPM A B = true ∧ isPM C D = true
  case neg =>
    obtain ⟨Q, I⟩ : ∃ Q, Hid (isoRes A B C D = Q ∧ isoCode A B C D = 1) := ⟨[], Lib.hid (sf_bad hpp)⟩
    clear hpp
    obtain ⟨x00, x01, -, -⟩ := two_cells (LS.getB (q := w1.heap.size) (a := .slice a1 l1 c1) (b := .slice d1 m1 k1) H1.out (by simp))
    obtain ⟨x10, x11, -, -⟩ := two_cells (LS.getB (q := w1.heap.size + 1) (a := .slice a2 l2 c2) (b := .slice d2 m2 k2) H1.out (by simp))
    go_wp2_with fail
    refine (c_SolutionIsomorphism _ _ _ _ A B C D _ ⟨H1.out.getR (X := A) (by simp), H1.out.getR (X := B) (by simp)⟩ ⟨H1.out.getR (X := C) (by simp), H1.out.getR (X := D) (by simp)⟩).mono ?_; rintro e w3 ⟨p, rfl, hs, hb⟩
    rw [I.out.1] at hs
    rw [I.out.2]
    have H3 := Lib.hid ((H1.out.under hb).addI hs.ints)
    clear hs hb x00 x01 x10 x11
    obtain ⟨x00, x01, -, -⟩ := two_cells (LS.getB (q := w1.heap.size) (a := .slice a1 l1 c1) (b := .slice d1 m1 k1) H3.out (by simp))
    obtain ⟨x10, x11, -, -⟩ := two_cells (LS.getB (q := w1.heap.size + 1) (a := .slice a2 l2 c2) (b := .slice d2 m2 k2) H3.out (by simp))
    go_wp2_with fail
    refine (c_specSolutionIsomorphism _ _ A B _ _ C D _ ⟨H3.out.getR (X := A) (by simp), H3.out.getR (X := B) (by simp)⟩ ⟨H3.out.getR (X := C) (by simp), H3.out.getR (X := D) (by simp)⟩).mono ?_; rintro e w4 ⟨want, rfl, hs, hb⟩
    rw [I.out.1] at hs
    rw [I.out.2]
    have H4 := Lib.hid ((H3.out.under hb).addI hs.ints)
    clear hs hb x00 x01 x10 x11
    go_wp2_with fail
    refine (c_likeInts _ _ Q Q _ (H4.out.getI (xs := Q) (by simp)) (H4.out.getI (xs := Q) (by simp))).mono ?_; rintro e w5 ⟨rfl, hb⟩
    rw [show decide (Q = Q) = true from by simp]
    have H5 := Lib.hid (H4.out.under (below_of_drewN hb))
    clear hb
    go_wp2
    go_ret
    exact ⟨rfl, H5.out.2.2.2⟩
  obtain ⟨Q, cd, hI⟩ := sf_iso hpp.1 hpp.2
  obtain ⟨L, ca, hA⟩ := sf_aut hpp.1
  have I := Lib.hid hI
  have S := Lib.hid hA
  have HP := Lib.hid hpp
  have hcc : (cd != cd) = false := by simp
  clear hI hA hpp
  obtain ⟨x00, x01, -, -⟩ := two_cells (LS.getB (q := w1.heap.size) (a := .slice a1 l1 c1) (b := .slice d1 m1 k1) H1.out (by simp))
  obtain ⟨x10, x11, -, -⟩ := two_cells (LS.getB (q := w1.heap.size + 1) (a := .slice a2 l2 c2) (b := .slice d2 m2 k2) H1.out (by simp))
  go_wp2_with fail
  refine (c_SolutionIsomorphism _ _ _ _ A B C D _ ⟨H1.out.getR (X := A) (by simp), H1.out.getR (X := B) (by simp)⟩ ⟨H1.out.getR (X := C) (by simp), H1.out.getR (X := D) (by simp)⟩).mono ?_; rintro e w3 ⟨p, rfl, hs, hb⟩
  rw [I.out.res] at hs
  rw [I.out.code]
  have H3 := Lib.hid ((H1.out.under hb).addI hs.ints)
  clear hs hb x00 x01 x10 x11
  obtain ⟨x00, x01, -, -⟩ := two_cells (LS.getB (q := w1.heap.size) (a := .slice a1 l1 c1) (b := .slice d1 m1 k1) H3.out (by simp))
  obtain ⟨x10, x11, -, -⟩ := two_cells (LS.getB (q := w1.heap.size + 1) (a := .slice a2 l2 c2) (b := .slice d2 m2 k2) H3.out (by simp))
  go_wp2_with fail
  refine (c_specSolutionIsomorphism _ _ A B _ _ C D _ ⟨H3.out.getR (X := A) (by simp), H3.out.getR (X := B) (by simp)⟩ ⟨H3.out.getR (X := C) (by simp), H3.out.getR (X := D) (by simp)⟩).mono ?_; rintro e w4 ⟨want, rfl, hs, hb⟩
  rw [I.out.res] at hs
  rw [I.out.code]
  have H4 := Lib.hid ((H3.out.under hb).addI hs.ints)
  clear hs hb x00 x01 x10 x11
  go_wp2_with fail
  refine (c_likeInts _ _ Q Q _ (H4.out.getI (xs := Q) (by simp)) (H4.out.getI (xs := Q) (by simp))).mono ?_; rintro e w5 ⟨rfl, hb⟩
  rw [show decide (Q = Q) = true from by simp]
  have H5 := Lib.hid (H4.out.under (below_of_drewN hb))
  clear hb
  clear hcc
  have h1 : (cd == 1) = false := by rcases I.out.way with h | h <;> (rw [h.1]; rfl)
  go_upto_region 10 with fail
  clear h1
  apply cut_waysSF
  · intro key
    rcases I.out.way with ⟨hc, hw, hle⟩ | ⟨hc, hle⟩
    · have IW := Lib.hid hw
      have HLe := Lib.hid hle
      have HC := Lib.hid hc
      clear hw hle hc
      have h0 : (cd == 0) = true := by rw [HC.out]; rfl
      obtain ⟨x00, x01, -, -⟩ := two_cells (LS.getB (q := w1.heap.size) (a := .slice a1 l1 c1) (b := .slice d1 m1 k1) H5.out (by simp))
      go_wp2_with fail
      refine (c_RenameSolution _ _ A B _ Q _ ⟨H5.out.getR (X := A) (by simp), H5.out.getR (X := B) (by simp)⟩ (H5.out.getI (xs := Q) (by simp))).mono ?_; rintro e w6 ⟨r1, r2, rfl, hs, hb⟩
      rw [IW.out.1, IW.out.2.1] at hs
      rw [IW.out.2.2]
      obtain ⟨a6, l6, c6, hr1⟩ := (hs.sol).1.any
      obtain ⟨d6, m6, k6, hr2⟩ := (hs.sol).2.any
      subst hr1 hr2
      have H6 := Lib.hid (((H5.out.under hb).addS hs.sol).box (.slice a6 l6 c6) (.slice d6 m6 k6))
      clear hs hb x00 x01
      obtain ⟨x00, x01, -, -⟩ := two_cells (LS.getB (q := w6.heap.size) (a := .slice a6 l6 c6) (b := .slice d6 m6 k6) H6.out (by simp))
      obtain ⟨x10, x11, -, -⟩ := two_cells (LS.getB (q := w1.heap.size + 1) (a := .slice a2 l2 c2) (b := .slice d2 m2 k2) H6.out (by simp))
      go_wp2_with fail
      refine (c_likeSolution5 _ _ _ _ C D C D _ ⟨H6.out.getR (X := C) (by simp), H6.out.getR (X := D) (by simp)⟩ ⟨H6.out.getR (X := C) (by simp), H6.out.getR (X := D) (by simp)⟩).mono ?_; rintro e w7 ⟨rfl, hb⟩
      rw [show (decide (C = C) && decide (D = D)) = true from by simp]
      have H7 := Lib.hid (H6.out.under hb)
      clear hb x00 x01 x10 x11
      by_cases h1 : l1 ≤ 5
      case neg =>
        have h1' : decide ((l1 : Int) ≤ 5) = false := by simp; omega
        clear h1
        obtain ⟨x00, x01, -, -⟩ := two_cells (LS.getB (q := w1.heap.size) (a := .slice a1 l1 c1) (b := .slice d1 m1 k1) H7.out (by simp))
        obtain ⟨x10, x11, -, -⟩ := two_cells (LS.getB (q := w1.heap.size + 1) (a := .slice a2 l2 c2) (b := .slice d2 m2 k2) H7.out (by simp))
        go_upto_region 19 with fail
        clear x00 x01 x10 x11 h1' h0
        have HW := Lib.hid (LS.fewer (L' := []) (M' := [(.slice a1 l1 c1, A), (.slice d1 m1 k1, B)]) (Bx' := [(w1.heap.size, .slice a1 l1 c1, .slice d1 m1 k1)]) H7.out (by simp) (by simp) (by simp))
        rename_i K19 hK19
        refine forget6 (Pd := fun T => Code.wp _ _ _ ⟨T, _⟩ _) _ 9 (by simp) ?_
        intro f
        simp only [List.take_succ_cons, List.take_zero, List.drop_succ_cons, List.drop_zero, List.cons_append, List.nil_append]
        refine forget50 (Pd := fun T => Code.wp _ _ _ ⟨T, _⟩ _) _ 56 (by simp) ?_
        intro g
        simp only [List.take_succ_cons, List.take_zero, List.drop_succ_cons, List.drop_zero, List.cons_append, List.nil_append]
        revert HW
        revert f
        revert g
        generalize w7 = wz
        revert wz
        revert hK19
        revert K19
        exact key.out
      have h1' : (l1 : Int) ≤ 5 := by omega
      by_cases h2 : l2 ≤ 5
      case neg =>
        have h2' : decide ((l2 : Int) ≤ 5) = false := by simp; omega
        clear h1 h2
        obtain ⟨x00, x01, -, -⟩ := two_cells (LS.getB (q := w1.heap.size) (a := .slice a1 l1 c1) (b := .slice d1 m1 k1) H7.out (by simp))
        obtain ⟨x10, x11, -, -⟩ := two_cells (LS.getB (q := w1.heap.size + 1) (a := .slice a2 l2 c2) (b := .slice d2 m2 k2) H7.out (by simp))
        go_upto_region 19 with fail
        clear x00 x01 x10 x11 h1' h2' h0
        have HW := Lib.hid (LS.fewer (L' := []) (M' := [(.slice a1 l1 c1, A), (.slice d1 m1 k1, B)]) (Bx' := [(w1.heap.size, .slice a1 l1 c1, .slice d1 m1 k1)]) H7.out (by simp) (by simp) (by simp))
        rename_i K19 hK19
        refine forget6 (Pd := fun T => Code.wp _ _ _ ⟨T, _⟩ _) _ 9 (by simp) ?_
        intro f
        simp only [List.take_succ_cons, List.take_zero, List.drop_succ_cons, List.drop_zero, List.cons_append, List.nil_append]
        refine forget50 (Pd := fun T => Code.wp _ _ _ ⟨T, _⟩ _) _ 56 (by simp) ?_
        intro g
        simp only [List.take_succ_cons, List.take_zero, List.drop_succ_cons, List.drop_zero, List.cons_append, List.nil_append]
        revert HW
        revert f
        revert g
        generalize w7 = wz
        revert wz
        revert hK19
        revert K19
        exact key.out
      have h2' : (l2 : Int) ≤ 5 := by omega
      have N1 := Lib.hid (sf_ls HP.out.1 (by have := HLl.out.1; omega))
      have N2 := Lib.hid (sf_ls HP.out.2 (by have := HLl.out.2; omega))
      clear h1 h2
      obtain ⟨x00, x01, -, -⟩ := two_cells (LS.getB (q := w1.heap.size) (a := .slice a1 l1 c1) (b := .slice d1 m1 k1) H7.out (by simp))
      obtain ⟨x10, x11, -, -⟩ := two_cells (LS.getB (q := w1.heap.size + 1) (a := .slice a2 l2 c2) (b := .slice d2 m2 k2) H7.out (by simp))
      go_wp2_with fail
      refine (c_LeastSolution _ _ A B _ ⟨H7.out.getR (X := A) (by simp), H7.out.getR (X := B) (by simp)⟩).mono ?_; rintro e w8 ⟨r1, r2, rfl, hs, hb⟩
      rw [N1.out.1, N1.out.2.1] at hs
      rw [N1.out.2.2]
      obtain ⟨a8, l8, c8, hr1⟩ := (hs.sol).1.any
      obtain ⟨d8, m8, k8, hr2⟩ := (hs.sol).2.any
      subst hr1 hr2
      have H8 := Lib.hid (((H7.out.under hb).addS hs.sol).box (.slice a8 l8 c8) (.slice d8 m8 k8))
      clear hs hb x00 x01 x10 x11
      obtain ⟨x00, x01, -, -⟩ := two_cells (LS.getB (q := w1.heap.size + 1) (a := .slice a2 l2 c2) (b := .slice d2 m2 k2) H8.out (by simp))
      go_wp2_with fail
      refine (c_LeastSolution _ _ C D _ ⟨H8.out.getR (X := C) (by simp), H8.out.getR (X := D) (by simp)⟩).mono ?_; rintro e w9 ⟨r1, r2, rfl, hs, hb⟩
      rw [N2.out.1, N2.out.2.1] at hs
      rw [N2.out.2.2]
      obtain ⟨a9, l9, c9, hr1⟩ := (hs.sol).1.any
      obtain ⟨d9, m9, k9, hr2⟩ := (hs.sol).2.any
      subst hr1 hr2
      have H9 := Lib.hid (((H8.out.under hb).addS hs.sol).box (.slice a9 l9 c9) (.slice d9 m9 k9))
      clear hs hb x00 x01
      obtain ⟨x00, x01, -, -⟩ := two_cells (LS.getB (q := w8.heap.size) (a := .slice a8 l8 c8) (b := .slice d8 m8 k8) H9.out (by simp))
      obtain ⟨x10, x11, -, -⟩ := two_cells (LS.getB (q := w9.heap.size) (a := .slice a9 l9 c9) (b := .slice d9 m9 k9) H9.out (by simp))
      go_wp2_with fail
      refine (c_likeSolution5 _ _ _ _ (lsSA A B) (lsSB A B) (lsSA C D) (lsSB C D) _ ⟨H9.out.getR (X := lsSA A B) (by simp), H9.out.getR (X := lsSB A B) (by simp)⟩ ⟨H9.out.getR (X := lsSA C D) (by simp), H9.out.getR (X := lsSB C D) (by simp)⟩).mono ?_; rintro e w10 ⟨rfl, hb⟩
      rw [HLe.out]
      have H10 := Lib.hid (H9.out.under hb)
      clear hb x00 x01 x10 x11
      go_upto_region 19 with fail
      clear h1' h2' h0
      have HW := Lib.hid (LS.fewer (L' := []) (M' := [(.slice a1 l1 c1, A), (.slice d1 m1 k1, B)]) (Bx' := [(w1.heap.size, .slice a1 l1 c1, .slice d1 m1 k1)]) H10.out (by simp) (by simp) (by simp))
      rename_i K19 hK19
      refine forget6 (Pd := fun T => Code.wp _ _ _ ⟨T, _⟩ _) _ 9 (by simp) ?_
      intro f
      simp only [List.take_succ_cons, List.take_zero, List.drop_succ_cons, List.drop_zero, List.cons_append, List.nil_append]
      refine forget50 (Pd := fun T => Code.wp _ _ _ ⟨T, _⟩ _) _ 56 (by simp) ?_
      intro g
      simp only [List.take_succ_cons, List.take_zero, List.drop_succ_cons, List.drop_zero, List.cons_append, List.nil_append]
      revert HW
      revert f
      revert g
      generalize w10 = wz
      revert wz
      revert hK19
      revert K19
      exact key.out
    · have IW := Lib.hid trivial
      have HLe := Lib.hid hle
      have HC := Lib.hid hc
      clear hle hc
      have h0 : (cd == 0) = false := by rw [HC.out]; rfl
      by_cases h1 : l1 ≤ 5
      case neg =>
        have h1' : decide ((l1 : Int) ≤ 5) = false := by simp; omega
        clear h1
        obtain ⟨x00, x01, -, -⟩ := two_cells (LS.getB (q := w1.heap.size) (a := .slice a1 l1 c1) (b := .slice d1 m1 k1) H5.out (by simp))
        obtain ⟨x10, x11, -, -⟩ := two_cells (LS.getB (q := w1.heap.size + 1) (a := .slice a2 l2 c2) (b := .slice d2 m2 k2) H5.out (by simp))
        go_upto_region 19 with fail
        clear x00 x01 x10 x11 h1' h0
        have HW := Lib.hid (LS.fewer (L' := []) (M' := [(.slice a1 l1 c1, A), (.slice d1 m1 k1, B)]) (Bx' := [(w1.heap.size, .slice a1 l1 c1, .slice d1 m1 k1)]) H5.out (by simp) (by simp) (by simp))
        rename_i K19 hK19
        refine forget6 (Pd := fun T => Code.wp _ _ _ ⟨T, _⟩ _) _ 9 (by simp) ?_
        intro f
        simp only [List.take_succ_cons, List.take_zero, List.drop_succ_cons, List.drop_zero, List.cons_append, List.nil_append]
        refine forget50 (Pd := fun T => Code.wp _ _ _ ⟨T, _⟩ _) _ 56 (by simp) ?_
        intro g
        simp only [List.take_succ_cons, List.take_zero, List.drop_succ_cons, List.drop_zero, List.cons_append, List.nil_append]
        revert HW
        revert f
        revert g
        generalize w5 = wz
        revert wz
        revert hK19
        revert K19
        exact key.out
      have h1' : (l1 : Int) ≤ 5 := by omega
      by_cases h2 : l2 ≤ 5
      case neg =>
        have h2' : decide ((l2 : Int) ≤ 5) = false := by simp; omega
        clear h1 h2
        obtain ⟨x00, x01, -, -⟩ := two_cells (LS.getB (q := w1.heap.size) (a := .slice a1 l1 c1) (b := .slice d1 m1 k1) H5.out (by simp))
        obtain ⟨x10, x11, -, -⟩ := two_cells (LS.getB (q := w1.heap.size + 1) (a := .slice a2 l2 c2) (b := .slice d2 m2 k2) H5.out (by simp))
        go_upto_region 19 with fail
        clear x00 x01 x10 x11 h1' h2' h0
        have HW := Lib.hid (LS.fewer (L' := []) (M' := [(.slice a1 l1 c1, A), (.slice d1 m1 k1, B)]) (Bx' := [(w1.heap.size, .slice a1 l1 c1, .slice d1 m1 k1)]) H5.out (by simp) (by simp) (by simp))
        rename_i K19 hK19
        refine forget6 (Pd := fun T => Code.wp _ _ _ ⟨T, _⟩ _) _ 9 (by simp) ?_
        intro f
        simp only [List.take_succ_cons, List.take_zero, List.drop_succ_cons, List.drop_zero, List.cons_append, List.nil_append]
        refine forget50 (Pd := fun T => Code.wp _ _ _ ⟨T, _⟩ _) _ 56 (by simp) ?_
        intro g
        simp only [List.take_succ_cons, List.take_zero, List.drop_succ_cons, List.drop_zero, List.cons_append, List.nil_append]
        revert HW
        revert f
        revert g
        generalize w5 = wz
        revert wz
        revert hK19
        revert K19
        exact key.out
      have h2' : (l2 : Int) ≤ 5 := by omega
      have N1 := Lib.hid (sf_ls HP.out.1 (by have := HLl.out.1; omega))
      have N2 := Lib.hid (sf_ls HP.out.2 (by have := HLl.out.2; omega))
      clear h1 h2
      obtain ⟨x00, x01, -, -⟩ := two_cells (LS.getB (q := w1.heap.size) (a := .slice a1 l1 c1) (b := .slice d1 m1 k1) H5.out (by simp))
      obtain ⟨x10, x11, -, -⟩ := two_cells (LS.getB (q := w1.heap.size + 1) (a := .slice a2 l2 c2) (b := .slice d2 m2 k2) H5.out (by simp))
      go_wp2_with fail
      refine (c_LeastSolution _ _ A B _ ⟨H5.out.getR (X := A) (by simp), H5.out.getR (X := B) (by simp)⟩).mono ?_; rintro e w6 ⟨r1, r2, rfl, hs, hb⟩
      rw [N1.out.1, N1.out.2.1] at hs
      rw [N1.out.2.2]
      obtain ⟨a6, l6, c6, hr1⟩ := (hs.sol).1.any
      obtain ⟨d6, m6, k6, hr2⟩ := (hs.sol).2.any
      subst hr1 hr2
      have H6 := Lib.hid (((H5.out.under hb).addS hs.sol).box (.slice a6 l6 c6) (.slice d6 m6 k6))
      clear hs hb x00 x01 x10 x11
      obtain ⟨x00, x01, -, -⟩ := two_cells (LS.getB (q := w1.heap.size + 1) (a := .slice a2 l2 c2) (b := .slice d2 m2 k2) H6.out (by simp))
      go_wp2_with fail
      refine (c_LeastSolution _ _ C D _ ⟨H6.out.getR (X := C) (by simp), H6.out.getR (X := D) (by simp)⟩).mono ?_; rintro e w7 ⟨r1, r2, rfl, hs, hb⟩
      rw [N2.out.1, N2.out.2.1] at hs
      rw [N2.out.2.2]
      obtain ⟨a7, l7, c7, hr1⟩ := (hs.sol).1.any
      obtain ⟨d7, m7, k7, hr2⟩ := (hs.sol).2.any
      subst hr1 hr2
      have H7 := Lib.hid (((H6.out.under hb).addS hs.sol).box (.slice a7 l7 c7) (.slice d7 m7 k7))
      clear hs hb x00 x01
      obtain ⟨x00, x01, -, -⟩ := two_cells (LS.getB (q := w6.heap.size) (a := .slice a6 l6 c6) (b := .slice d6 m6 k6) H7.out (by simp))
      obtain ⟨x10, x11, -, -⟩ := two_cells (LS.getB (q := w7.heap.size) (a := .slice a7 l7 c7) (b := .slice d7 m7 k7) H7.out (by simp))
      go_wp2_with fail
      refine (c_likeSolution5 _ _ _ _ (lsSA A B) (lsSB A B) (lsSA C D) (lsSB C D) _ ⟨H7.out.getR (X := lsSA A B) (by simp), H7.out.getR (X := lsSB A B) (by simp)⟩ ⟨H7.out.getR (X := lsSA C D) (by simp), H7.out.getR (X := lsSB C D) (by simp)⟩).mono ?_; rintro e w8 ⟨rfl, hb⟩
      rw [HLe.out]
      have H8 := Lib.hid (H7.out.under hb)
      clear hb x00 x01 x10 x11
      go_upto_region 19 with fail
      clear h1' h2' h0
      have HW := Lib.hid (LS.fewer (L' := []) (M' := [(.slice a1 l1 c1, A), (.slice d1 m1 k1, B)]) (Bx' := [(w1.heap.size, .slice a1 l1 c1, .slice d1 m1 k1)]) H8.out (by simp) (by simp) (by simp))
      rename_i K19 hK19
      refine forget6 (Pd := fun T => Code.wp _ _ _ ⟨T, _⟩ _) _ 9 (by simp) ?_
      intro f
      simp only [List.take_succ_cons, List.take_zero, List.drop_succ_cons, List.drop_zero, List.cons_append, List.nil_append]
      refine forget50 (Pd := fun T => Code.wp _ _ _ ⟨T, _⟩ _) _ 56 (by simp) ?_
      intro g
      simp only [List.take_succ_cons, List.take_zero, List.drop_succ_cons, List.drop_zero, List.cons_append, List.nil_append]
      revert HW
      revert f
      revert g
      generalize w8 = wz
      revert wz
      revert hK19
      revert K19
      exact key.out
  intro K19 hK19 w19 g f HW
  clear I HLl
  obtain ⟨x00, x01, -, -⟩ := two_cells (LS.getB (q := w1.heap.size) (a := .slice a1 l1 c1) (b := .slice d1 m1 k1) HW.out (by simp))
  go_wp2_with fail
  refine (c_SolutionAutomorphisms _ _ A B _ ⟨HW.out.getR (X := A) (by simp), HW.out.getR (X := B) (by simp)⟩).mono ?_; rintro e w20 ⟨all, rfl, hs, hb⟩
  rw [S.out.res] at hs
  rw [S.out.code]
  obtain ⟨aa, ac, hv, -, -⟩ := hs.rows.shape
  subst hv
  have H20 := Lib.hid ((HW.out.under hb).addR hs.rows)
  clear hs hb x00 x01
  have hcc : (ca != ca) = false := by simp
  obtain ⟨x00, x01, -, -⟩ := two_cells (LS.getB (q := w1.heap.size) (a := .slice a1 l1 c1) (b := .slice d1 m1 k1) H20.out (by simp))
  go_wp2_with fail
  refine (c_specSolutionAutomorphisms _ _ A B _ ⟨H20.out.getR (X := A) (by simp), H20.out.getR (X := B) (by simp)⟩).mono ?_; rintro e w21 ⟨due, rfl, hs, hb⟩
  rw [S.out.res] at hs
  rw [S.out.code]
  have H21 := Lib.hid ((H20.out.under hb).addR hs.rows)
  clear hs hb x00 x01
  go_wp2_with fail
  refine (c_likeRows5 _ _ L L _ (H21.out.getR (X := L) (by simp)) (H21.out.getR (X := L) (by simp))).mono ?_; rintro e w22 ⟨rfl, hb⟩
  rw [show decide (L = L) = true from by simp]
  have H22 := Lib.hid (H21.out.under hb)
  clear hb
  clear hcc
  rcases S.out.way with hca | ⟨hca, hL1, hL2, hL3, hL4⟩
  · subst hca
    go_wp2
    go_ret
    exact ⟨rfl, H22.out.2.2.2⟩
  subst hca
  have A3 := Lib.hid hL3
  have A4 := Lib.hid hL4
  have hn1 : (1 : Int) ≤ (L.length : Int) := by omega
  have hn2 : (L.length : Int) ≤ 9223372036854775807 := by omega
  have hn0 : ((L.length : Int) == 0) = false := by simp only [beq_eq_false_iff_ne, ne_eq]; omega
  clear hL3 hL4 S
  have HVr := Lib.hid (HV.out.below H22.out.2.2.2)
  go_wp2_with fail
  refine (c_roll _ bs.length 814 _ HVr.out (HBig.out)).mono ?_; rintro e w23 ⟨b, rfl, hwb, hdi, hb⟩
  have hbb : w22.heap.size ≤ b := hwb
  have HB0 := Lib.hid hb
  have HD0 := Lib.hid hdi
  clear hwb hdi hb HBig HVr
  obtain ⟨ab, ao, haa⟩ : ∃ ab ao, aa = some ⟨ab, ao, none⟩ := by
    obtain ⟨x, y, u, h, _⟩ := (H22.out.getR (v := .slice aa L.length ac) (X := L) (by simp)).get 0 hL1
    exact ⟨x, y, h⟩
  subst haa
  obtain ⟨V, hV⟩ : ∃ V : Nat → Value, ∀ k, k < L.length → w22.cell? ⟨ab, ao + k, none⟩ = some (V k) ∧ Ints w22 (V k) (row L k) := by
    have h : ∀ k, ∃ u, k < L.length → w22.cell? ⟨ab, ao + k, none⟩ = some u ∧ Ints w22 u (row L k) := fun k => by
      by_cases hk : k < L.length
      · obtain ⟨x, y, u, h, h1, h2⟩ := (H22.out.getR (v := .slice (some ⟨ab, ao, none⟩) L.length ac) (X := L) (by simp)).get k hk
        cases h
        exact ⟨u, fun _ => ⟨h1, h2⟩⟩
      · exact ⟨undef, fun h => absurd h hk⟩
    exact ⟨fun k => (h k).choose, fun k => (h k).choose_spec⟩
  have HZ : Hid (∀ w' : World, Below w22.heap.size w22 w' → ∀ k : Nat, k < L.length → w'.cell? ⟨ab, ao + k, none⟩ = some (V k)) := Lib.hid fun w' h k hk => cell_of_block ((Keep.of_below h).block ab (cell_lt (hV k hk).1) (by have := cell_lt (hV k hk).1; simp at this; omega)) (hV k hk).1
  have HVi := Lib.hid hV
  clear hV hL1 hL2
  go_wp2
  go_loopw [21] (fun x wr => ∃ k : Nat, k ≤ 3 ∧ x = .int .i64 k ∧ Hid (Below w22.heap.size w22 wr) ∧ Hid (Dice wr b)) (fun x _ => 3 - (intOf x).toNat)
  case atStart => exact ⟨0, by omega, rfl, HB0, HD0⟩
  case round =>
    clear HB0 HD0
    obtain ⟨k, hk, rfl, HB, HD⟩ := hrel
    obtain ⟨wo, rfl⟩ : ∃ wo : World, wo = wr := ⟨_, rfl⟩
    by_cases hlt : k < 3
    case neg =>
      have hltI : ¬ (k : Int) < 3 := by omega
      go_wp2
      go_ret
      exact ⟨rfl, bb H22.out.2.2.2 HB.out⟩
    have hltI : (k : Int) < 3 := by omega
    have HDd := Lib.hid (HD.out.under (Below.refl wo.heap.size wo).drew)
    have HBd : Hid (Below w22.heap.size w22 wo.drew) := Lib.hid (bb HB.out (Below.refl _ _).drew)
    have hwo : w22.heap.size ≤ wo.heap.size := HB.out.size
    go_wp2
    go_region_held3 (fun w' => ∀ k : Nat, k < L.length → w'.cell? ⟨ab, ao + k, none⟩ = some (V k))
      (first | exact HZ.out _ HBd.out | exact HZ.out _ HB3.out | exact HZ.out _ HB4.out)
      ((first
          | (go_at_call 28; (with_reducible refine (c_below b (L.length : Int) _ HDd.out hn1 hn2).mono ?_); rintro e w3 ⟨x, rfl, x0, x1, hr3⟩
             obtain ⟨X, rfl⟩ : ∃ X : Nat, x = X := ⟨x.toNat, by omega⟩
             have hX : X < L.length := by omega
             have HB3 : Hid (Below w22.heap.size w22 w3) := Lib.hid (hr3.below HBd.out hbb HBd.out.size)
             have HD3 := Lib.hid hr3.1
             have zx3 := HZ.out _ HB3.out X hX
             clear hr3)
          | (go_at_call 28; (with_reducible refine (c_below b (L.length : Int) _ HD3.out hn1 hn2).mono ?_); rintro e w4 ⟨y, rfl, y0, y1, hr4⟩
             obtain ⟨Y, rfl⟩ : ∃ Y : Nat, y = Y := ⟨y.toNat, by omega⟩
             have hY : Y < L.length := by omega
             have HB4 : Hid (Below w22.heap.size w22 w4) := Lib.hid (hr4.below HB3.out hbb HB3.out.size)
             have HD4 := Lib.hid hr4.1
             have zx4 := HZ.out _ HB4.out X hX
             have zy4 := HZ.out _ HB4.out Y hY
             clear hr4)))
    rename_i hHz
    clear hHz HB3 HD3 zx3 zx4 zy4 x0 x1 y0 y1
    clear w3
    obtain ⟨rx, hrx⟩ : ∃ r, row L X = r := ⟨_, rfl⟩
    obtain ⟨ry, hry⟩ : ∃ r, row L Y = r := ⟨_, rfl⟩
    have hmx : rx ∈ L := by rw [← hrx, row_nat _ _ hX]; exact List.getElem_mem _
    have hmy : ry ∈ L := by rw [← hry, row_nat _ _ hY]; exact List.getElem_mem _
    have hix := (HVi.out X hX).2.below HB4.out
    have hiy := (HVi.out Y hY).2.below HB4.out
    rw [hrx] at hix
    rw [hry] at hiy
    have HX := Lib.hid (A3.out rx hmx)
    have HXY := Lib.hid (A4.out rx hmx ry hmy)
    have hh := H22.out.under HB4.out
    obtain ⟨vx, hvx⟩ : ∃ u, V X = u := ⟨_, rfl⟩
    obtain ⟨vy, hvy⟩ : ∃ u, V Y = u := ⟨_, rfl⟩
    rw [hvx] at hix ⊢
    rw [hvy] at hiy ⊢
    have H24 := Lib.hid ((LS.rebase (hh.addI hix)).addI hiy)
    clear hrx hry hmx hmy hix hiy hh hvx hvy hX hY
    obtain ⟨x00, x01, -, -⟩ := two_cells (LS.getB (q := w1.heap.size) (a := .slice a1 l1 c1) (b := .slice d1 m1 k1) H24.out (by simp))
    go_wp2_with fail
    refine (c_RenameSolution _ _ A B _ rx _ ⟨H24.out.getR (X := A) (by simp), H24.out.getR (X := B) (by simp)⟩ (H24.out.getI (xs := rx) (by simp))).mono ?_; rintro e w25 ⟨r1, r2, rfl, hs, hb⟩
    rw [HX.out.1, HX.out.2.1] at hs
    rw [HX.out.2.2]
    obtain ⟨a25, l25, c25, hr1⟩ := (hs.sol).1.any
    obtain ⟨d25, m25, k25, hr2⟩ := (hs.sol).2.any
    subst hr1 hr2
    have H25 := Lib.hid (((H24.out.under hb).addS hs.sol).box (.slice a25 l25 c25) (.slice d25 m25 k25))
    clear hs hb x00 x01
    obtain ⟨x00, x01, -, -⟩ := two_cells (LS.getB (q := w25.heap.size) (a := .slice a25 l25 c25) (b := .slice d25 m25 k25) H25.out (by simp))
    obtain ⟨x10, x11, -, -⟩ := two_cells (LS.getB (q := w1.heap.size) (a := .slice a1 l1 c1) (b := .slice d1 m1 k1) H25.out (by simp))
    go_wp2_with fail
    refine (c_likeSolution5 _ _ _ _ A B A B _ ⟨H25.out.getR (X := A) (by simp), H25.out.getR (X := B) (by simp)⟩ ⟨H25.out.getR (X := A) (by simp), H25.out.getR (X := B) (by simp)⟩).mono ?_; rintro e w26 ⟨rfl, hb⟩
    rw [show (decide (A = A) && decide (B = B)) = true from by simp]
    have H26 := Lib.hid (H25.out.under hb)
    clear hb x00 x01 x10 x11
    go_wp2_with fail
    refine (c_then5 _ _ rx ry _ (H26.out.getI (xs := rx) (by simp)) (H26.out.getI (xs := ry) (by simp))).mono ?_; rintro e w27 ⟨rt, rfl, ho, hb⟩
    have H27 := Lib.hid ((H26.out.under hb).addI ho.ints)
    clear ho hb
    go_wp2_with fail
    refine (c_hasRow5 _ _ L (thenRes rx ry) _ (H27.out.getR (X := L) (by simp)) (H27.out.getI (xs := thenRes rx ry) (by simp))).mono ?_; rintro e w28 ⟨rfl, hb⟩
    rw [HXY.out]
    have H28 := Lib.hid (H27.out.under hb)
    clear hb
    have HBe := Lib.hid (bb HB4.out H28.out.2.2.2)
    have HDe := Lib.hid (HD4.out.under H28.out.2.2.2)
    go_wp2
    go_roundw
    case rel => exact ⟨k + 1, by omega, by go_num, HBe, HDe⟩
    case measure => simp [intOf]; omega
end Go.Proofs.Ytgmhnjccgldddaa
