/-
  The program's search for isomorphisms: slices.Index, and 'undo'.
-/
import Derived.Test.YtgmhnjccgldddaaY1
namespace Go.Proofs.Ytgmhnjccgldddaa
set_option linter.unusedVariables false
set_option linter.unusedSimpArgs false
open Go Go.RowKit

set_option maxHeartbeats 800000 in
theorem c_Index (v : Value) (l : List Int) (y : Int) (w : World) (hx : Ints w v l) (hl : l.length ≤ 1048576) :
    Calls Try.prog 76 #[v, .int .i64 y] w (fun e w' => ∃ r : Int, e = .returned (.int .i64 r) ∧ w = w' ∧ ((r = -1 ∧ ∀ j : Nat, j < l.length → nth l j ≠ y) ∨ ∃ k : Nat, r = k ∧ k < l.length ∧ nth l k = y ∧ ∀ j : Nat, j < k → nth l j ≠ y)) := by
  obtain ⟨a, c, rfl, hc, hm⟩ := hx.shape
  go_enter Try.func76, Try.ntmps76
  go_wp2
  go_loopw [8] (fun i wr => ∃ k : Nat, k ≤ l.length ∧ i = .int .i64 k ∧ wr = w ∧ Hid (∀ j : Nat, j < k → nth l j ≠ y)) (fun i _ => l.length - (intOf i).toNat)
  case atStart => exact ⟨0, Nat.zero_le _, rfl, rfl, Lib.hid (fun j hj => by omega)⟩
  case round =>
    obtain ⟨k, hk, rfl, rfl, HA⟩ := hrel
    by_cases hlt : k < l.length
    · obtain ⟨b, o, rfl, hcell⟩ := hx.get k hlt
      by_cases hp : y = nth l k
      · have HP := Lib.hid hp
        have hb : (y == nth l k) = true := by simpa using hp
        clear hp
        go_wp2
        go_ret
        exact ⟨k, rfl, rfl, .inr ⟨k, rfl, hlt, HP.out.symm, HA.out⟩⟩
      · have HP := Lib.hid hp
        have hb : (y == nth l k) = false := by simpa using hp
        clear hp
        go_wp2
        go_roundw
        case rel =>
          refine ⟨k + 1, by omega, by go_num, by first | rfl | trivial, Lib.hid fun j hj => ?_⟩
          rcases Nat.lt_or_ge j k with h | h
          · exact HA.out j h
          · have e : j = k := by omega
            subst e; exact fun h2 => HP.out h2.symm
        case measure => simp [intOf]; omega
    · obtain rfl : k = l.length := by omega
      go_wp2
      go_ret
      exact ⟨-1, rfl, rfl, .inl ⟨rfl, HA.out⟩⟩

def unIm (im l : List Int) : List Int := l.foldl (fun m x => m.set x.toNat (-1)) im
def unUs (im : List Int) (us : List Bool) (l : List Int) : List Bool := l.foldl (fun u x => u.set (nth im x).toNat false) us
theorem unIm_snoc (im l : List Int) (x : Int) : unIm im (l ++ [x]) = (unIm im l).set x.toNat (-1) := by simp [unIm]
theorem unUs_snoc (im : List Int) (us : List Bool) (l : List Int) (x : Int) : unUs im us (l ++ [x]) = (unUs im us l).set (nth im x).toNat false := by simp [unUs]
theorem unIm_len (im l : List Int) : (unIm im l).length = im.length := by
  induction l generalizing im with
  | nil => rfl
  | cons a l ih =>
    show (unIm (im.set a.toNat (-1)) l).length = _
    rw [ih]; simp
theorem unUs_len (im : List Int) (us : List Bool) (l : List Int) : (unUs im us l).length = us.length := by
  induction l generalizing us with
  | nil => rfl
  | cons a l ih =>
    show (unUs im (us.set (nth im a).toNat false) l).length = _
    rw [ih]; simp
theorem unIm_nth (n : Nat) : ∀ (l im : List Int), im.length = n → (∀ x ∈ l, InN n x) → ∀ y, InN n y → nth (unIm im l) y = if y ∈ l then -1 else nth im y
  | [], im, _, _, y, _ => by simp [unIm]
  | a :: l, im, hl, h, y, hy => by
    have ha := h a (by simp)
    show nth (unIm (im.set a.toNat (-1)) l) y = _
    rw [unIm_nth n l _ (by simpa using hl) (fun x hx => h x (by simp [hx])) y hy, nth_set _ _ _ _ ha.1 (by rw [hl]; exact ha.2) hy.1]
    by_cases e1 : y ∈ l
    · simp [e1]
    · by_cases e2 : y = a
      · simp [e1, e2]
      · simp [e1, e2]
theorem unUs_nth (n : Nat) (im : List Int) : ∀ (l : List Int) (us : List Bool), us.length = n → (∀ x ∈ l, InN n (nth im x)) → ∀ u, InN n u → nthB (unUs im us l) u = if ∃ y ∈ l, nth im y = u then false else nthB us u
  | [], us, _, _, u, _ => by simp [unUs]
  | a :: l, us, hl, h, u, hu => by
    have ha := h a (by simp)
    show nthB (unUs im (us.set (nth im a).toNat false) l) u = _
    rw [unUs_nth n im l _ (by simpa using hl) (fun x hx => h x (by simp [hx])) u hu, nthB_set _ _ _ _ ha.1 (by rw [hl]; exact ha.2) hu.1]
    by_cases e1 : ∃ y ∈ l, nth im y = u
    · have e3 : ∃ y ∈ a :: l, nth im y = u := by obtain ⟨y, h1, h2⟩ := e1; exact ⟨y, by simp [h1], h2⟩
      rw [if_pos e1, if_pos e3]
    · rw [if_neg e1]
      by_cases e2 : u = nth im a
      · have e3 : ∃ y ∈ a :: l, nth im y = u := ⟨a, by simp, e2.symm⟩
        rw [if_pos e2, if_pos e3]
      · have e3 : ¬ ∃ y ∈ a :: l, nth im y = u := by
          rintro ⟨y, h1, h2⟩
          rcases List.mem_cons.1 h1 with rfl | h1
          · exact e2 h2.symm
          · exact e1 ⟨y, h1, h2⟩
        rw [if_neg e2, if_neg e3]
/-- What 'undo' leaves is what was there. -/
theorem un_all {n : Nat} {s s' : MSt} (h : MpS n s) (h' : MpS n s') (hp : s.st <+: s'.st) (hm : More n s.im s'.im) : unIm s'.im (s'.st.drop s.st.length) = s.im ∧ unUs s'.im s'.us (s'.st.drop s.st.length) = s.us ∧ s'.st.take s.st.length = s.st := by
  have hr : ∀ x ∈ s'.st.drop s.st.length, InN n x ∧ InN n (nth s'.im x) := fun x hx => by
    have h1 := (Mp.mem h' x).1 (List.mem_of_mem_drop hx)
    exact ⟨h1.1, h1.2, (Mp.rng h' x h1.1).2⟩
  obtain ⟨e1, e2⟩ := undo_eq h h' hp hm (im2 := unIm s'.im (s'.st.drop s.st.length)) (us2 := unUs s'.im s'.us (s'.st.drop s.st.length)) (by rw [unIm_len]; exact Mp.imL h')
    (fun y hy => unIm_nth n _ _ (Mp.imL h') (fun x hx => (hr x hx).1) y hy) (by rw [unUs_len]; exact Mp.usL h') (fun u hu => unUs_nth n _ _ _ (Mp.usL h') (fun x hx => (hr x hx).2) u hu)
  exact ⟨e1, e2, by obtain ⟨r, hr⟩ := hp; rw [← hr]; simp⟩
/-- The slice cut at its end. -/
theorem Own.cutTo {B : Nat} {w : World} {a : Option Addr} {c m : Nat} {xs : List Int} (h : Own B w (.slice a xs.length c) xs) (hm : m ≤ xs.length) : Own B w (.slice a m c) (xs.take m) := by
  rcases h.open with ⟨e, h0⟩ | ⟨g, cs, e, hg, hblk, hc⟩
  · injection e with e1 e2 e3
    subst h0 e1 e3
    have : m = 0 := by simpa using hm
    subst this
    exact Own.nil B w
  · injection e with e1 e2 e3
    subst e1 e3
    have e4 : (xs.take m).length = m := by simp; omega
    refine Own.shut (g := g) (cs := (xs.drop m).map (Value.int .i64) ++ cs) ?_ hg (by simp; omega) e4.symm (by simp; omega)
    rw [← List.append_assoc, ← List.map_append, List.take_append_drop]
    exact hblk

set_option maxRecDepth 100000 in
set_option maxHeartbeats 2000000 in
theorem c_undo {n : Nat} {s s' : MSt} (mb ib ub L : Nat) (vF vG : Value) (a : Option Addr) (c : Nat) (w : World) (h : MpS n s) (h' : MpS n s') (hp : s.st <+: s'.st) (hm : More n s.im s'.im) (hn : n ≤ 1048576)
    (hM : MapAt w mb ib ub n L vF vG a c s'.im s'.us s'.st) :
    Calls Try.prog 78 #[.pointer (some ⟨mb, 0, none⟩), .int .i64 s.st.length] w (fun e w' => (∃ v, e = .returned v) ∧ MapAt w' mb ib ub n L vF vG a c s.im s.us s.st ∧ Keep (MBl mb ib ub (.slice a s'.st.length c)) w w') := by
  obtain ⟨N, hN⟩ : ∃ N, s.st.length = N := ⟨_, rfl⟩
  obtain ⟨M, hMl⟩ : ∃ M, s'.st.length = M := ⟨_, rfl⟩
  have hNM : N ≤ M := by have := hp.length_le; omega
  have hMn : M ≤ n := by have := Mp.len h'; omega
  have HU := Lib.hid (un_all h h' hp hm)
  have HMp := Lib.hid h'
  rw [hN] at HU ⊢
  have HML := Lib.hid hMl
  have HM := Lib.hid hM
  rw [hMl]
  obtain ⟨m0, m1, m2, m3, m4, m5⟩ := hM.cells
  rw [hMl] at m4
  have hI : Ints w (.slice a M c) s'.st := by rw [← hMl]; exact hM.own.ints
  obtain ⟨_, _, hv, hMc, hcm⟩ := hI.shape
  rw [hMl] at hMc hv
  injection hv with e1 e2 e3
  subst e1 e3
  clear e2
  have HI := Lib.hid hI
  have c1 : (0 : Int) ≤ N := by omega
  have c2 : (N : Int) ≤ M := by omega
  have c3 : (N : Int) ≤ c := by omega
  have c4 : (M : Int) ≤ c := by omega
  have HOc := Lib.hid (show Own L w (.slice a N c) (s'.st.take N) from by
    have := hM.own
    rw [hMl] at this
    have h2 : Own L w (.slice a s'.st.length c) s'.st := by rw [hMl]; exact this
    exact h2.cutTo (by omega))
  have hneL := hM.ne
  rcases Nat.lt_or_ge N M with hlt | hge
  case inr =>
    have hNM2 : N = M := by omega
    subst hNM2
    clear hI hM h hp hm h' hN hMl hge hNM
    by_cases hcN : c = N
    case' pos => have hcN2 := hcN.symm; subst hcN2; clear hcN
    all_goals
      go_enter Try.func78, Try.ntmps78
      go_wp2
      go_loopw [13] (fun i wr => i = .int .i64 0 ∧ wr = w) (fun _ _ => 0)
      case atStart => exact ⟨rfl, rfl⟩
      case round =>
        obtain ⟨rfl, rfl⟩ := hrel
        go_wp2
        go_end0
        have e1 := HU.out
        rw [List.drop_of_length_le (by rw [HML.out]; exact Nat.le_refl _)] at e1
        obtain ⟨e2, e3, e4⟩ := e1
        have e5 : s'.im = s.im := e2
        have e6 : s'.us = s.us := e3
        have HM2 := HM.out
        have HOc2 := HOc.out
        have hls : s.st.length = N := by rw [← e4, List.length_take, HML.out]; omega
        rw [e4, ← hls] at HOc2
        refine ⟨⟨_, rfl⟩, ?_, (Keep.refl _ _).setCell (p := ⟨mb, 4, none⟩) (.inl (.inl rfl)) _⟩
        have := HM2.reslice (Keep.refl _ _) HOc2
        rw [hls, e5, e6] at this
        simpa using this
  · have hcN : ¬ c = N := by omega
    obtain ⟨g, e⟩ : ∃ g, a = some ⟨g, 0, none⟩ := by
      rcases hM.own.open with ⟨e, h0⟩ | ⟨g, cs, e, hg, hblk, hc⟩
      · rw [h0] at hMl; simp at hMl; omega
      · injection e with e1 e2 e3; exact ⟨g, e1⟩
    subst e
    clear hI hM h hp hm h' hN hMl
    go_enter Try.func78, Try.ntmps78
    go_wp2
    go_loopw [13] (fun i wr => ∃ j : Nat, j ≤ M - N ∧ i = .int .i64 j ∧ Hid (MapAt wr mb ib ub n L vF vG (some ⟨g, 0, none⟩) c (unIm s'.im ((s'.st.drop N).take j)) (unUs s'.im s'.us ((s'.st.drop N).take j)) s'.st) ∧ Hid (Keep (MBl mb ib ub (.slice (some ⟨g, 0, none⟩) M c)) w wr)) (fun i _ => M - N - (intOf i).toNat)
    case atStart => exact ⟨0, Nat.zero_le _, rfl, HM, Lib.hid (Keep.refl _ _)⟩
    case round =>
      clear HM HI m0 m1 m2 m3 m4 m5
      obtain ⟨j, hj, rfl, HM, HK⟩ := hrel
      obtain ⟨wo, rfl⟩ : ∃ wo : World, wo = wr := ⟨_, rfl⟩
      obtain ⟨m0, m1, m2, m3, m4, m5⟩ := HM.out.cells
      rw [HML.out] at m4
      by_cases hjl : j < M - N
      · have hx := HMp.out.img (i := N + j) (by rw [HML.out]; omega)
        obtain ⟨X, hX⟩ : ∃ X : Nat, nth s'.st (N + j : Nat) = X := ⟨(nth s'.st (N + j : Nat)).toNat, by have := hx.1.1; omega⟩
        obtain ⟨V, hV⟩ : ∃ V : Nat, nth s'.im X = V := ⟨(nth s'.im X).toNat, by have := hx.2.1; rw [hX] at this; omega⟩
        rw [hX] at hx
        have hxn : (X : Int) < n := hx.1.2
        have hvn : (V : Int) < n := by have := hx.2.2; rw [hV] at this; exact this
        have gs : wo.cell? ⟨g, N + j, none⟩ = some (.int .i64 X) := by
          have := HM.out.own.ints.at (N + j) (by rw [HML.out]; omega)
          rw [hX] at this
          simpa using this
        have hnot : (X : Int) ∉ (s'.st.drop N).take j := by
          have hnd := (List.nodup_iff_pairwise_ne.1 (Mp.nodup HMp.out))
          intro hin
          obtain ⟨i, hi, he⟩ := List.getElem_of_mem hin
          simp at hi
          have h1 := List.pairwise_iff_getElem.1 hnd (N + i) (N + j) (by omega) (by rw [HML.out]; omega) (by omega)
          rw [List.getElem_take, List.getElem_drop] at he
          have h2 := nth_nat s'.st (N + j) (by rw [HML.out]; omega)
          rw [hX] at h2
          exact h1 (by rw [he, h2])
        have hall : ∀ x ∈ (s'.st.drop N).take j, InN n x := fun x hx => ((Mp.mem HMp.out x).1 (List.mem_of_mem_drop (List.mem_of_mem_take hx))).1
        have hiX : nth (unIm s'.im ((s'.st.drop N).take j)) X = V := by
          rw [unIm_nth n _ _ (Mp.imL HMp.out) hall X hx.1, if_neg hnot, hV]
        have gi := HM.out.imc X (by omega) (by rw [unIm_len, Mp.imL HMp.out]; exact hxn)
        have gu := HM.out.usc V (by omega) (by rw [unUs_len, Mp.usL HMp.out]; exact hvn)
        rw [hiX] at gi
        simp only [Int.toNat_natCast] at gi gu
        obtain ⟨gi1, gi2⟩ := gi
        obtain ⟨gu1, gu2⟩ := gu
        have HW := Lib.hid (HM.out.write2 X V false (-1))
        have HVX := Lib.hid hV
        have hdl : j < (s'.st.drop N).length := by rw [List.length_drop, HML.out]; omega
        have HTk := Lib.hid (show (s'.st.drop N).take (j + 1) = (s'.st.drop N).take j ++ [(X : Int)] by
          rw [take_snoc _ j hdl]
          congr 2
          rw [nth_nat _ _ hdl, List.getElem_drop]
          have h2 := nth_nat s'.st (N + j) (by rw [HML.out]; omega)
          rw [hX] at h2
          exact h2.symm)
        clear hdl
        obtain ⟨n1, n2, n3, n4, n5, n6⟩ := hneL
        have HN := Lib.hid (And.intro n1 (And.intro n2 n3))
        clear hnot hall hiX hX hV
        go_wp2
        go_region
        go_wp2
        go_roundw
        case rel =>
          refine ⟨j + 1, by omega, by go_num, ?_, ?_⟩
          · have h1 := HW.out.drew
            simp only [Int.toNat_natCast] at h1
            rw [HTk.out, unIm_snoc, unUs_snoc, HVX.out]
            simp only [Int.toNat_natCast]
            exact Lib.hid h1
          · exact Lib.hid (((HK.out.setCell (p := ⟨ub, V, none⟩) (.inl (.inr (.inr (.inl rfl)))) _).setCell (p := ⟨ib, X, none⟩) (.inl (.inr (.inl rfl))) _).drew)
        case measure => simp [intOf]; omega
      · have e0 : j = M - N := by omega
        subst e0
        go_wp2
        go_end0
        have e1 := HU.out
        have HM2 := HM.out
        rw [List.take_of_length_le (by rw [List.length_drop, HML.out]; exact Nat.le_refl _), e1.1, e1.2.1] at HM2
        have hls : s.st.length = N := by rw [← e1.2.2, List.length_take, HML.out]; omega
        have HOc2 := HOc.out
        refine ⟨⟨_, rfl⟩, ?_, HK.out.setCell (p := ⟨mb, 4, none⟩) (.inl (.inl rfl)) _⟩
        have HO3 := HM2.own.cutTo (m := N) (by rw [HML.out]; exact hNM)
        rw [e1.2.2, ← hls] at HO3
        have := HM2.reslice (Keep.refl _ _) HO3
        rw [hls] at this
        exact this
end Go.Proofs.Ytgmhnjccgldddaa
