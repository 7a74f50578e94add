/-
  What the law FnSolutionForms is proved of.
-/
import Derived.Test.YtgmhnjccgldddaaSFO4
import Derived.Test.YtgmhnjccgldddaaSFO1
import Derived.Test.YtgmhnjccgldddaaLawC
import Derived.Test.YtgmhnjccgldddaaT2
import Derived.Test.YtgmhnjccgldddaaSFO3
namespace Go.Proofs.Ytgmhnjccgldddaa
set_option linter.unusedVariables false
set_option linter.unusedSimpArgs false
open Go Go.RowKit

theorem IntsB.under {w w' : World} {v : Value} {xs : List Int} (h : IntsB w v xs) (hb : Below w.heap.size w w') : IntsB w' v xs := by
  obtain ⟨h1, b, o, c, cs, e, h2⟩ := h
  exact ⟨h1.below hb, b, o, c, cs, e, h2.under hb⟩
theorem IntsB.keepR {B0 : Nat} {w w' : World} {u v : Value} {xs : List Int} {yss : List (List Int)} (h : IntsB w u xs) (hv : OwnRows B0 w v yss) (k : Keep (fun b => v.ownBlock = some b) w w') : IntsB w' u xs := by
  obtain ⟨h1, b, o, c, cs, e, h2⟩ := h
  obtain ⟨us', h3, h4⟩ := hv
  have hk : w'.heap[b]? = w.heap[b]? := by
    refine k.block b h2.lt fun e2 => ?_
    obtain ⟨_, hnn | ⟨g', cap', cur', hv', _, hg', _⟩⟩ := h3
    · rw [hnn.1] at e2; cases e2
    · rw [hv'] at e2
      simp [Value.ownBlock] at e2
      subst e2
      have h5 : w.heap[g']? = _ := h2
      rw [h5] at hg'
      simp at hg'
  refine ⟨?_, b, o, c, cs, e, h2.of_block hk⟩
  obtain ⟨a, c', hv, hc, hm, hcell⟩ := h1
  refine ⟨a, c', hv, hc, hm, fun i hi => ?_⟩
  obtain ⟨b', o', ha, hcl⟩ := hcell i hi
  refine ⟨b', o', ha, ?_⟩
  have hb : b' = b := by
    rw [e] at hv
    injection hv with f1
    rw [ha] at f1
    injection f1 with f1
    injection f1 with f1
    exact f1.symm
  subst hb
  simp only [World.cell?] at hcl ⊢
  rw [hk]; exact hcl

theorem quiet_l {P : Program} {f : FuncId} {args : Array Value} {w : World} {n : Nat} {v : Value}
    (h : Calls P f args (w.drewN n) fun e w' => e = .returned v ∧ w.drewN n = w') : Calls P f args (w.drewN n) fun e w'' => e = .returned v ∧ ∃ m, w'' = w.drewN m :=
  h.mono fun _ _ ⟨he, hm⟩ => ⟨he, n, hm.symm⟩
/-- What 'l03Seek' does with m images to go. -/
def SeekOk (w0 : World) (n K : Nat) (F G : List (List (List Int))) (fb fo fc gb go' gc most m : Nat) : Prop :=
  ∀ (f C D : List Int) (u v1 v2 ov : Value) (xss : List (List Int)) (B hi : Nat) (w : World), f.length + m = n → f.Nodup → (∀ x ∈ f, InN n x) → FitUp F G f → ColsOk n C → ColsOk n D → (∀ p ∈ isoP n F G f, Keeps n C D p) →
    OwnRowsIn B hi w ov xss → Own hi w u f → IntsB w v1 C → IntsB w v2 D → w0.heap.size ≤ B → B ≤ hi → hi ≤ w.heap.size → Below w0.heap.size w0 w → xss.length < most →
    Calls Try.prog 72 #[.slice (some ⟨fb, fo, none⟩) K fc, .slice (some ⟨gb, go', none⟩) K gc, u, v1, v2, .int .i64 most, ov] w (GrowPost w ov B ((xss ++ isoP n F G f).take most))

set_option maxRecDepth 100000 in
set_option maxHeartbeats 16000000 in
theorem c_l03SeekS {n K : Nat} {F G : List (List (List Int))} (w0 : World) {fb fo fc gb go' gc : Nat} {tb to tc tb' to' tc' : Nat → Nat} {rb ro rc rb' ro' rc' : Nat → Nat → Nat} (hF : Tb3 w0 fb fo n K F tb to tc rb ro rc) (hG : Tb3 w0 gb go' n K G tb' to' tc' rb' ro' rc')
    (hKF : K = F.length) (hKG : K = G.length) (hn0 : 1 ≤ n) (hn : n ≤ 12) (hK : K ≤ 12) (hfc : K ≤ fc) (hgc : K ≤ gc) (most : Nat) (hmost : most ≤ 1048576) (m : Nat) (ih : SeekOk w0 n K F G fb fo fc gb go' gc most m) :
    SeekOk w0 n K F G fb fo fc gb go' gc most (m + 1) := by
  intro f C D u v1 v2 ov xss B hi w hm hnd hr hfit hC hD hkp hx hu hv1 hv2 hwB hB hhi hw hlt
  have HTab := Lib.hid (hF.tabs hKF)
  have hfn : f.length < n := by omega
  have HFit := Lib.hid (fun (W : World) (hb : Below w0.heap.size w0 W) (g : List Int) (u : Value) (hu : Ints W u g) (hl : g.length = f.length + 1) (hr : ∀ x ∈ g, InN n x) => c_l03Fits f.length g u W (hF.below hb) (hG.below hb) hKF hn hK hfc hgc hu hl hfn hr)
  have HRef := Lib.hid (fun (W : World) (hb : Below w0.heap.size w0 W) (C D : List Int) (u v : Value) (hu : Ints W u C) (hv : Ints W v D) (hC : ColsOk n C) (hD : ColsOk n D) => c_l03Refine C D u v W (hF.below hb) (hG.below hb) hKF hKG hn0 hn hK hfc hgc hu hv hC hD)
  obtain ⟨a, c, rfl, _⟩ := hu.shape
  obtain ⟨a2, c2, rfl, _⟩ := hx.rows.shape
  obtain ⟨_, b1, o1, c1, cs1, rfl, hbk1⟩ := id hv1
  obtain ⟨_, b2, o2, cc2, cs2, rfl, hbk2⟩ := id hv2
  have he : ((f.length : Int) == (n : Int)) = false := by simp; omega
  have HX := Lib.hid hx.out; have HU := Lib.hid hu; have IH := Lib.hid ih; have HV1 := Lib.hid hv1; have HV2 := Lib.hid hv2; have HMs := Lib.hid hm
  have HNd := Lib.hid hnd; have HR := Lib.hid hr; have HFu := Lib.hid hfit; have HC := Lib.hid hC; have HD := Lib.hid hD; have HKp := Lib.hid hkp; have HW := Lib.hid hw
  rw [hC.1, hD.1]
  rw [hC.1] at HV1; rw [hD.1] at HV2
  obtain ⟨L, hL⟩ : ∃ L, f.length = L := ⟨_, rfl⟩
  have HL := Lib.hid hL
  rw [hL] at he hfn ⊢
  have HBw : B ≤ w.heap.size := Nat.le_trans hB hhi
  clear hx hu hm ih hv1 hv2 hnd hr hfit hC hD hkp hw hF hG hKF hKG hbk1 hbk2 hL
  go_enter Try.func72, Try.ntmps72
  go_wp2
  go_loopw [6, 16, 17, 18, 19, 20, 21, 22] (fun s yy _ _ _ _ _ _ wr => ∃ (y : Nat) (ys : List (List Int)) (ra : Option Addr) (rc : Nat), y ≤ n ∧ yy = .int .i64 y ∧ s = .slice ra ys.length rc ∧ ys.length ≤ most ∧ Hid (ys = (xss ++ partP n F G f y).take most) ∧ Hid (OwnRows B wr (.slice ra ys.length rc) ys) ∧ Hid (Keep (fun b => (Value.slice a2 xss.length c2).ownBlock = some b) w wr) ∧ Hid (∀ b, (Value.slice ra ys.length rc).ownBlock = some b → (Value.slice a2 xss.length c2).ownBlock = some b ∨ w.heap.size ≤ b) ∧
    Hid (Own hi wr (.slice a L c) f) ∧ Hid (IntsB wr (.slice (some ⟨b1, o1, none⟩) n c1) C) ∧ Hid (IntsB wr (.slice (some ⟨b2, o2, none⟩) n cc2) D) ∧ Hid (Below w0.heap.size w0 wr)) (fun _ yy _ _ _ _ _ _ _ => n - (intOf yy).toNat)
  case atStart => exact ⟨0, xss, a2, c2, Nat.zero_le _, rfl, rfl, by omega, Lib.hid (by rw [partP_zero (by rw [HL.out]; exact hfn), List.append_nil, List.take_of_length_le (by omega)]), HX, Lib.hid (Keep.refl _ _), Lib.hid fun b e => .inl e, Lib.hid (by have := HU.out; rwa [HL.out] at this), HV1, HV2, HW⟩
  case round =>
    clear HU HX HV1 HV2 HW
    obtain ⟨y, ys, ra, rc, hy, rfl, rfl, hys, HY, HO, HK, HOB, HU, HV1, HV2, HW⟩ := hrel
    obtain ⟨wo, rfl⟩ : ∃ wo : World, wo = wr := ⟨_, rfl⟩
    by_cases hlt2 : y < n
    · by_cases hfull : ys.length < most
      · have HY2 : Hid (ys = xss ++ partP n F G f y) := Lib.hid (by rw [HY.out] at hfull ⊢; exact take_room hfull)
        have HSt : Hid (∀ zs : List (List Int), zs = ((xss ++ partP n F G f y) ++ isoP n F G (f ++ [(y : Int)])).take most → zs = (xss ++ partP n F G f (y + 1)).take most) := Lib.hid fun zs h => by rw [h, partP_succ _ (by rw [HL.out]; exact hfn), List.append_assoc]
        have hfull2 : ((ys.length : Nat) : Int) < (most : Int) := by omega
        go_wp2_with fail
        refine (c_l01Own _ f _ HU.out.ints (by rw [HL.out]; omega)).mono ?_; rintro e w1 ⟨r1, rfl, ho1, hb1⟩
        obtain ⟨a1, c1', rfl, _⟩ := ho1.shape
        have HO1 := Lib.hid ho1; have HB1 := Lib.hid hb1; have HSz := Lib.hid hb1.size
        have HSl : Hid (f.length ≤ 1099511627776) := Lib.hid (by rw [HL.out]; omega)
        rw [HL.out]
        clear ho1 hb1
        go_wp2_with (at_builtin; go_must (refine wpList_app_int wo.heap.size w1 _ f y _ _ rfl rfl (by rw [← HL.out]; rfl) HO1.out rfl HSl.out HSz.out ?_); intro a' c' w2 hown' hkeep; rw [HL.out]; rw [HL.out] at hown'; have Hk := Lib.hid hkeep; have Ho' := Lib.hid hown'; clear hkeep hown')
        have hb2 : Below wo.heap.size wo w2 := HO1.out.frame HB1.out (Nat.le_refl _) HSz.out Hk.out
        have HB2 := Lib.hid hb2
        have i1 := (HV1.out.under hb2).1.at L (by rw [HC.out.1]; exact hfn)
        have i2 := (HV2.out.under hb2).1.at y (by rw [HD.out.1]; exact hlt2)
        obtain ⟨P, hP⟩ : ∃ P, nth C L = P := ⟨_, rfl⟩
        obtain ⟨Q, hQ⟩ : ∃ Q, nth D y = Q := ⟨_, rfl⟩
        rw [hP] at i1; rw [hQ] at i2
        have HPQ := Lib.hid (And.intro hP hQ)
        have HHas : Hid (∀ nq, Calls Try.prog 96 #[.slice a L c, .int .i64 y] (w2.drewN nq) fun e w' => e = .returned (.bool (decide ((y : Int) ∈ f))) ∧ w2.drewN nq = w') := Lib.hid fun nq => c_l01Has _ _ _ _ ((HU.out.ints.below HB2.out).below (below_drewN (Below.refl _ _) nq))
        have HNi := Lib.hid (show ∀ x ∈ f ++ [(y : Int)], InN n x from fun x hx => by
          rcases List.mem_append.1 hx with h | h
          · exact HR.out x h
          · simp at h; subst h; exact ⟨by omega, by omega⟩)
        have HFits : Hid (∀ nq, Calls Try.prog 70 #[.slice (some ⟨fb, fo, none⟩) K fc, .slice (some ⟨gb, go', none⟩) K gc, .slice a' (L + 1) c'] (w2.drewN nq) (QVal (w2.drewN nq) (.bool (fitsB F G (f ++ [(y : Int)]) f.length)))) := Lib.hid fun nq => HFit.out _ (bb HW.out (below_drewN HB2.out nq)) (f ++ [(y : Int)]) _ (Ho'.out.ints.below (below_drewN (Below.refl _ _) nq)) (by simp) HNi.out
        clear hP hQ hb2
        by_cases hin : (y : Int) ∈ f
        · have HNext := Lib.hid (HSt.out ys (by rw [isoP_has hin, List.append_nil]; exact HY.out))
          have HH : Hid (∀ nq, Calls Try.prog 96 #[.slice a L c, .int .i64 y] (w2.drewN nq) fun e w' => e = .returned (.bool true) ∧ w2.drewN nq = w') := Lib.hid fun nq => by have := HHas.out nq; simpa [hin] using this
          clear hin HHas
          go_quiet ((go_at_call 96; exact quiet_l (HH.out _)))
          rename_i nq
          have HBq := Lib.hid (below_drewN HB2.out nq)
          go_wp2
          go_roundw
          case rel => exact ⟨y + 1, ys, ra, rc, by omega, by go_num, rfl, hys, HNext, Lib.hid (HO.out.under HBq.out), Lib.hid (HK.out.under HBq.out), HOB, Lib.hid (HU.out.under HBq.out), Lib.hid (HV1.out.under HBq.out), Lib.hid (HV2.out.under HBq.out), Lib.hid (bb HW.out HBq.out)⟩
          case measure => simp [intOf]; omega
        have HNin := Lib.hid hin
        have HH : Hid (∀ nq, Calls Try.prog 96 #[.slice a L c, .int .i64 y] (w2.drewN nq) fun e w' => e = .returned (.bool false) ∧ w2.drewN nq = w') := Lib.hid fun nq => by have := HHas.out nq; simpa [hin] using this
        clear hin HHas
        by_cases hpq : P = Q
        case neg =>
          have HNext := Lib.hid (HSt.out ys (by rw [isoP_cols HKp.out (by rw [HL.out, HPQ.out.1, HPQ.out.2]; exact hpq), List.append_nil]; exact HY.out))
          have hb : (P != Q) = true := by simpa using hpq
          clear hpq
          go_quiet ((go_at_call 96; exact quiet_l (HH.out _)))
          rename_i nq
          have HBq := Lib.hid (below_drewN HB2.out nq)
          go_wp2
          go_roundw
          case rel => exact ⟨y + 1, ys, ra, rc, by omega, by go_num, rfl, hys, HNext, Lib.hid (HO.out.under HBq.out), Lib.hid (HK.out.under HBq.out), HOB, Lib.hid (HU.out.under HBq.out), Lib.hid (HV1.out.under HBq.out), Lib.hid (HV2.out.under HBq.out), Lib.hid (bb HW.out HBq.out)⟩
          case measure => simp [intOf]; omega
        have hb : (P != Q) = false := by simp [hpq]
        clear hpq
        by_cases hft : FitAll F G (f ++ [(y : Int)]) f.length
        case neg =>
          have HNext := Lib.hid (HSt.out ys (by rw [isoP_fits HTab.out (by rw [HL.out]; exact hfn) hft, List.append_nil]; exact HY.out))
          have HF2 : Hid (∀ nq, Calls Try.prog 70 #[.slice (some ⟨fb, fo, none⟩) K fc, .slice (some ⟨gb, go', none⟩) K gc, .slice a' (L + 1) c'] (w2.drewN nq) (QVal (w2.drewN nq) (.bool false))) := Lib.hid fun nq => by have := HFits.out nq; unfold fitsB at this; simpa [hft] using this
          clear hft HFits
          go_quiet ((first | (go_at_call 96; exact quiet_l (HH.out _)) | (go_at_call 70; exact quiet_q (HF2.out _))))
          rename_i nq
          have HBq := Lib.hid (below_drewN HB2.out nq)
          go_wp2
          go_roundw
          case rel => exact ⟨y + 1, ys, ra, rc, by omega, by go_num, rfl, hys, HNext, Lib.hid (HO.out.under HBq.out), Lib.hid (HK.out.under HBq.out), HOB, Lib.hid (HU.out.under HBq.out), Lib.hid (HV1.out.under HBq.out), Lib.hid (HV2.out.under HBq.out), Lib.hid (bb HW.out HBq.out)⟩
          case measure => simp [intOf]; omega
        have HFt := Lib.hid hft
        have HF2 : Hid (∀ nq, Calls Try.prog 70 #[.slice (some ⟨fb, fo, none⟩) K fc, .slice (some ⟨gb, go', none⟩) K gc, .slice a' (L + 1) c'] (w2.drewN nq) (QVal (w2.drewN nq) (.bool true))) := Lib.hid fun nq => by have := HFits.out nq; unfold fitsB at this; simpa [hft] using this
        clear hft HFits
        go_quiet ((first | (go_at_call 96; exact quiet_l (HH.out _)) | (go_at_call 70; exact quiet_q (HF2.out _))))
        rename_i nq
        have hb3 := below_drewN HB2.out nq
        have ho3 : Own wo.heap.size (w2.drewN nq) (.slice a' (L + 1) c') (f ++ [(y : Int)]) := Ho'.out.under (below_drewN (Below.refl _ _) nq)
        generalize w2.drewN nq = w3 at hb3 ho3 ⊢
        have HB3 := Lib.hid hb3; have HO3 := Lib.hid ho3
        clear i1 i2 hb hb3 ho3 HH HF2
        go_wp2_with fail
        refine (c_l01Own _ C _ (HV1.out.under HB3.out).1 (by rw [HC.out.1]; omega)).mono ?_; rintro e w4 ⟨r4, rfl, ho4, hb4⟩
        rcases ho4.open with ⟨_, h0⟩ | ⟨g1, d1, hv4, hg4, hk4, hm4⟩
        · exfalso; have := HC.out.1; rw [h0] at this; simp at this; omega
        rw [HC.out.1] at hv4 hm4
        subst hv4
        have HB4 := Lib.hid hb4; have HK4 := Lib.hid hk4; have HM4 := Lib.hid hm4; have HG4 := Lib.hid hk4.lt
        clear ho4 hb4 hk4 hm4
        go_wp2_with fail
        refine (c_l01Own _ D _ (HV2.out.under (bb HB3.out HB4.out)).1 (by rw [HD.out.1]; omega)).mono ?_; rintro e w5 ⟨r5, rfl, ho5, hb5⟩
        rcases ho5.open with ⟨_, h0⟩ | ⟨g2, d2, hv5, hg5, hk5, hm5⟩
        · exfalso; have := HD.out.1; rw [h0] at this; simp at this; omega
        rw [HD.out.1] at hv5 hm5
        subst hv5
        have hgg : g1 ≠ g2 := by have := HG4.out; omega
        have hk1 := HK4.out.under hb5
        have j1 := hk1.at' L (by rw [HC.out.1]; exact hfn); have j2 := hk1.frozen L
        have k1 := hk5.other (a := ⟨g1, L, none⟩) (fun e => hgg e.symm) (.int .i64 60)
        have j3 := k1.at' y (by rw [HD.out.1]; exact hlt2); have j4 := k1.frozen y
        have p1 := (hk1.put' L (by rw [HC.out.1]; exact hfn) 60).other (a := ⟨g2, y, none⟩) hgg (.int .i64 60)
        have p2 := k1.put' y (by rw [HD.out.1]; exact hlt2) 60
        have hn1 : n + d1.length ≤ 9223372036854775807 := by have := HM4.out; unfold maxLen at this; omega
        have hn2 : n + d2.length ≤ 9223372036854775807 := by unfold maxLen at hm5; omega
        have hb6 : Below w3.heap.size w3 ((w5.setCell ⟨g1, L, none⟩ (.int .i64 60)).setCell ⟨g2, y, none⟩ (.int .i64 60)) := ((bb HB4.out hb5).setCell (p := ⟨g1, L, none⟩) hg4 _).setCell (p := ⟨g2, y, none⟩) (Nat.le_trans HB4.out.size hg5) _
        have hi1 : Ints ((w5.setCell ⟨g1, L, none⟩ (.int .i64 60)).setCell ⟨g2, y, none⟩ (.int .i64 60)) (.slice (some ⟨g1, 0, none⟩) n (n + d1.length)) (C.set L 60) := (Own.shut (B := 0) p1 (Nat.zero_le _) (by simpa [HC.out.1] using HM4.out) (by simp [HC.out.1]) (by simp [HC.out.1])).ints
        have hi2 : Ints ((w5.setCell ⟨g1, L, none⟩ (.int .i64 60)).setCell ⟨g2, y, none⟩ (.int .i64 60)) (.slice (some ⟨g2, 0, none⟩) n (n + d2.length)) (D.set y 60) := (Own.shut (B := 0) p2 (Nat.zero_le _) (by simpa [HD.out.1] using hm5) (by simp [HD.out.1]) (by simp [HD.out.1])).ints
        have HB6 := Lib.hid (bb HB3.out hb6); have HB36 := Lib.hid hb6; have HI1 := Lib.hid hi1; have HI2 := Lib.hid hi2
        clear ho5 hb5 hk5 hm5 hgg hk1 k1 p1 p2 hb6 hi1 hi2 hg4 hg5
        go_wp2_with fail
        generalize (w5.setCell ⟨g1, L, none⟩ (.int .i64 60)).setCell ⟨g2, y, none⟩ (.int .i64 60) = w6 at HB6 HB36 HI1 HI2 ⊢
        clear j1 j2 j3 j4
        refine (HRef.out w6 (bb HW.out HB6.out) (C.set L 60) (D.set y 60) _ _ HI1.out HI2.out (colsOk_set HC.out L) (colsOk_set HD.out y)).mono ?_
        rintro e w7 ⟨r1, r2, b, rfl, hb7, (⟨rfl, rfl, rfl, hno⟩ | ⟨rfl, C', D', hr1, hr2, hC', hD', hkk⟩)⟩
        · have HNext := Lib.hid (HSt.out ys (by
            rw [isoP_none (C := C.set L 60) (D := D.set y 60) (by rw [← HL.out]; exact keeps_set HC.out.1 HD.out.1 hlt2 HKp.out) hno, List.append_nil]; exact HY.out))
          have HBq := Lib.hid (bb HB6.out hb7)
          clear hb7 hno
          go_wp2
          go_roundw
          case rel => exact ⟨y + 1, ys, ra, rc, by omega, by go_num, rfl, hys, HNext, Lib.hid (HO.out.under HBq.out), Lib.hid (HK.out.under HBq.out), HOB, Lib.hid (HU.out.under HBq.out), Lib.hid (HV1.out.under HBq.out), Lib.hid (HV2.out.under HBq.out), Lib.hid (bb HW.out HBq.out)⟩
          case measure => simp [intOf]; omega
        · have HB7 := Lib.hid (bb HB6.out hb7)
          have HO7 := Lib.hid (HO3.out.under (bb HB36.out hb7))
          obtain ⟨_, e1, f1, h1, m1, rfl, hbm1⟩ := id hr1
          obtain ⟨_, e2, f2, h2, m2, rfl, hbm2⟩ := id hr2
          rw [hC'.1, hD'.1]
          rw [hC'.1] at hr1; rw [hD'.1] at hr2
          have HR1 := Lib.hid hr1; have HR2 := Lib.hid hr2
          have HCall : Hid (Calls Try.prog 72 #[.slice (some ⟨fb, fo, none⟩) K fc, .slice (some ⟨gb, go', none⟩) K gc, .slice a' (L + 1) c', .slice (some ⟨e1, f1, none⟩) n h1, .slice (some ⟨e2, f2, none⟩) n h2, .int .i64 most, .slice ra ys.length rc] w7 (GrowPost w7 (.slice ra ys.length rc) B ((ys ++ isoP n F G (f ++ [(y : Int)])).take most))) := by
            refine Lib.hid (IH.out (f ++ [(y : Int)]) C' D' _ _ _ _ ys B wo.heap.size w7 (by have := HMs.out; simp; omega) ?_ HNi.out (HFu.out.snoc HTab.out (by rw [HL.out]; exact hfn) HFt.out) hC' hD' (fun p hp => hkk p (mem_isoP.1 hp).1 ?_) (HO.out.inn.under HB7.out) HO7.out hr1 hr2 hwB (Nat.le_trans HBw HK.out.size) HB7.out.size (bb HW.out HB7.out) hfull)
            · rw [List.nodup_append]
              exact ⟨HNd.out, by simp, fun a ha b hb e => by simp at hb; subst hb; subst e; exact HNin.out ha⟩
            · have := keeps_set HC.out.1 HD.out.1 hlt2 HKp.out p hp
              rwa [HL.out] at this
          clear hb7 hr1 hr2 hC' hD' hkk hbm1 hbm2
          go_wp2_with fail
          refine HCall.out.mono ?_
          rintro e w8 ⟨r, rfl, hr, hk8, hob8⟩
          obtain ⟨ra3, rc3, rfl, _⟩ := hr.rows.shape
          obtain ⟨zs, hzs⟩ : ∃ zs, (ys ++ isoP n F G (f ++ [(y : Int)])).take most = zs := ⟨_, rfl⟩
          rw [hzs] at hr hob8 ⊢
          have hzl : zs.length ≤ most := by rw [← hzs, List.length_take]; omega
          have HNext := Lib.hid (HSt.out zs (by rw [← HY2.out, hzs]))
          have HR8 := Lib.hid hr; have HK8 := Lib.hid hk8; have HOB8 := Lib.hid hob8
          clear hr hk8 hob8 hzs
          go_wp2
          go_roundw
          case rel =>
            refine ⟨y + 1, zs, ra3, rc3, by omega, by go_num, rfl, hzl, HNext, HR8, Lib.hid ?_, Lib.hid fun b hb => ?_, Lib.hid ?_, Lib.hid ?_, Lib.hid ?_, Lib.hid ?_⟩
            · refine (HK.out.under HB7.out).chain HK8.out fun b hb h => ?_
              rcases HOB.out b h with h1 | h1
              · exact h1
              · omega
            · rcases HOB8.out b hb with h1 | h1
              · exact HOB.out b h1
              · exact .inr (Nat.le_trans HK.out.size (Nat.le_trans HB7.out.size h1))
            · exact (HU.out.under HB7.out).keepR (HO.out.inn.under HB7.out).out HK8.out
            · exact (HV1.out.under HB7.out).keepR (HO.out.inn.under HB7.out).out HK8.out
            · exact (HV2.out.under HB7.out).keepR (HO.out.inn.under HB7.out).out HK8.out
            · exact (bb HW.out HB7.out).trans (HK8.out.below fun b hb => ⟨by have := (bb HW.out HB7.out).size; omega, fun e => by
                have := (OwnRows.lt HO.out e).1; omega⟩)
          case measure => simp [intOf]; omega
      · have hfin : (xss ++ isoP n F G f).take most = ys := by
          obtain ⟨R, hR⟩ := partP_more (F := F) (G := G) (f := f) y (by rw [HL.out]; exact hfn) (n - y)
          rw [show y + (n - y) = n by omega, partP_all (by rw [HL.out]; exact hfn)] at hR
          rw [hR, ← List.append_assoc, take_full (by rw [← HY.out]; omega), ← HY.out]
        have HF := Lib.hid hfin
        have hfull2 : ¬ ((ys.length : Nat) : Int) < (most : Int) := by omega
        clear hfin
        go_wp2
        go_ret
        exact ⟨_, rfl, by rw [HF.out]; exact HO.out, HK.out, HOB.out⟩
    · have hfin : (xss ++ isoP n F G f).take most = ys := by
        have e : y = n := by omega
        have h := HY.out
        rw [e, partP_all (by rw [HL.out]; exact hfn)] at h
        exact h.symm
      have HF := Lib.hid hfin
      clear hfin
      go_wp2
      go_ret
      exact ⟨_, rfl, by rw [HF.out]; exact HO.out, HK.out, HOB.out⟩

set_option maxRecDepth 100000 in
set_option maxHeartbeats 4000000 in
theorem c_l03Seek0 {n K : Nat} {F G : List (List (List Int))} (w0 : World) {fb fo fc gb go' gc : Nat} (hT : Tabs n F) (hn : n ≤ 12) (most : Nat) (hmost : most ≤ 1048576) : SeekOk w0 n K F G fb fo fc gb go' gc most 0 := by
  intro f C D u v1 v2 ov xss B hi w hm hnd hr hfit hC hD hkp hx hu hv1 hv2 hwB hB hhi hw hlt
  have hfl : f.length = n := by omega
  have hres : (xss ++ isoP n F G f).take most = xss ++ [f] := by
    rw [isoP_full (hfit.full hT hfl hnd hr), List.take_of_length_le (by simp; omega)]
  rw [hres]
  obtain ⟨a, c, rfl, _⟩ := hu.shape
  obtain ⟨a2, c2, rfl, _⟩ := hx.rows.shape
  obtain ⟨_, b1, o1, c1, cs1, rfl, hbk1⟩ := id hv1
  obtain ⟨_, b2, o2, cc2, cs2, rfl, hbk2⟩ := id hv2
  have he : ((f.length : Int) == (n : Int)) = true := by simp [hfl]
  have HX := Lib.hid hx; have HU := Lib.hid hu
  have hb1 : Hid (xss.length ≤ 1099511627776) := by show _ ≤ _; omega
  have hBw : Hid (B ≤ w.heap.size) := by show _ ≤ _; omega
  have HHi := Lib.hid hhi; have HFl := Lib.hid hfl
  rw [hC.1, hD.1]
  clear hx hu hfl hm hfit hC hD hkp hv1 hv2 hwB hhi hw hbk1 hbk2 hres hnd hr
  go_enter Try.func72, Try.ntmps72
  go_wp2_with fail
  refine (c_l01Own _ f _ HU.out.ints (by rw [HFl.out]; omega)).mono ?_; rintro e w1 ⟨r1, rfl, ho1, hb1'⟩
  obtain ⟨a1, c1', rfl, _⟩ := ho1.shape
  have HO1 := Lib.hid ho1; have HB1 := Lib.hid hb1'
  have HX1 : Hid (OwnRowsIn B w.heap.size w1 (.slice a2 xss.length c2) xss) := Lib.hid ((OwnRows.inn HX.out.out).under hb1')
  clear ho1 hb1'
  go_wp2_with (at_builtin; go_must (refine wpList_app_row2 B w.heap.size w1 _ xss _ f _ _ rfl rfl rfl HX1.out HO1.out rfl hb1.out hBw.out (Nat.le_trans hBw.out HB1.out.size) ?_); intro g c' w' hown' hkeep hg; have Hk := Lib.hid hkeep; have Ho' := Lib.hid hown'; have HG := Lib.hid hg; clear hkeep hown' hg)
  go_ret
  refine ⟨_, rfl, Ho'.out, ((Keep.refl (fun b => (Value.slice a2 xss.length c2).ownBlock = some b) w).under HB1.out).trans Hk.out, fun b e => ?_⟩
  simp [Value.ownBlock] at e
  subst e
  rcases HG.out with h | h
  · exact .inl h
  · exact .inr (Nat.le_trans HB1.out.size h)
theorem c_l03Seek {n K : Nat} {F G : List (List (List Int))} (w0 : World) {fb fo fc gb go' gc : Nat} {tb to tc tb' to' tc' : Nat → Nat} {rb ro rc rb' ro' rc' : Nat → Nat → Nat} (hF : Tb3 w0 fb fo n K F tb to tc rb ro rc) (hG : Tb3 w0 gb go' n K G tb' to' tc' rb' ro' rc')
    (hKF : K = F.length) (hKG : K = G.length) (hn0 : 1 ≤ n) (hn : n ≤ 12) (hK : K ≤ 12) (hfc : K ≤ fc) (hgc : K ≤ gc) (most : Nat) (hmost : most ≤ 1048576) : ∀ m, SeekOk w0 n K F G fb fo fc gb go' gc most m
  | 0 => c_l03Seek0 w0 (hF.tabs hKF) hn most hmost
  | m + 1 => c_l03SeekS w0 hF hG hKF hKG hn0 hn hK hfc hgc most hmost m (c_l03Seek w0 hF hG hKF hKG hn0 hn hK hfc hgc most hmost m)
end Go.Proofs.Ytgmhnjccgldddaa

namespace Go.Proofs.Ytgmhnjccgldddaa
set_option linter.unusedVariables false
set_option linter.unusedSimpArgs false
open Go Go.RowKit

theorem zero_keeps {n : Nat} {F G : List (List (List Int))} {p : List Int} (hp : IsoF n F G p) : Keeps n (List.replicate n 0) (List.replicate n 0) p := fun x hx => by
  have h : ∀ y, InN n y → nth (List.replicate n 0) y = 0 := fun y hy => by
    have : y.toNat < n := by have := hy.2; have := hy.1; omega
    simp [nth, this]
  rw [h _ (iso_rng hp hx), h x hx]
theorem two_new (W : World) (o1 o2 : Obj) : ((W.alloc o1).alloc o2).drew.heap[W.heap.size]? = some o1 ∧ ((W.alloc o1).alloc o2).drew.heap[W.heap.size + 1]? = some o2 ∧ Below W.heap.size W ((W.alloc o1).alloc o2).drew := by
  have h1 := heap_alloc_new W o1
  have h2 := heap_alloc_new (W.alloc o1) o2
  have e1 : (W.alloc o1).heap.size = W.heap.size + 1 := by simp
  rw [e1] at h2
  refine ⟨?_, h2, (((Below.refl _ W).alloc (Nat.le_refl _) _).alloc (by simp) _).drew⟩
  show ((W.alloc o1).alloc o2).heap[W.heap.size]? = some o1
  rw [Below.heap_alloc _ _ _ (by simp)]; exact h1
theorem blk_zero {V : World} {b n : Nat} (h : V.heap[b]? = some (.cells (madeCells #[.int .i64 0] n) 2)) : Blk V b 2 ((List.replicate n (0 : Int)).map (Value.int .i64)) := by
  unfold Blk
  rw [h]
  congr 2
  apply Array.ext'
  rw [toList_madeCells_one]; simp
theorem zeros_ok (n : Nat) : ColsOk n (List.replicate n 0) := ⟨by simp, fun x hx => by simp at hx; omega⟩

set_option maxRecDepth 100000 in
set_option maxHeartbeats 8000000 in
theorem c_l03Maps {n K : Nat} {F G : List (List (List Int))} {fb fo fc gb go' gc : Nat} {tb to tc tb' to' tc' : Nat → Nat} {rb ro rc rb' ro' rc' : Nat → Nat → Nat} (w : World) (hF : Tb3 w fb fo n K F tb to tc rb ro rc) (hG : Tb3 w gb go' n K G tb' to' tc' rb' ro' rc')
    (hKF : K = F.length) (hKG : K = G.length) (hn0 : 1 ≤ n) (hn : n ≤ 12) (hK0 : 1 ≤ K) (hK : K ≤ 12) (hfc : K ≤ fc) (hgc : K ≤ gc) (most : Nat) (hm1 : 1 ≤ most) (hmost : most ≤ 1048576) :
    Calls Try.prog 50 #[.slice (some ⟨fb, fo, none⟩) K fc, .slice (some ⟨gb, go', none⟩) K gc, .slice none 0 0, .int .i64 most] w (RRows w ((isoAll n F G).take most)) := by
  have q1 := hF.tab 0 hK0
  have q2 := hG.tab 0 hK0
  simp only [Nat.add_zero] at q1 q2
  have p1 : (0 : Int) < K := by omega
  have p2 : 0 < K := by omega
  have HRef := Lib.hid (fun (W : World) (hb : Below w.heap.size w W) (C D : List Int) (u v : Value) (hu : Ints W u C) (hv : Ints W v D) (hC : ColsOk n C) (hD : ColsOk n D) => c_l03Refine C D u v W (hF.below hb) (hG.below hb) hKF hKG hn0 hn hK hfc hgc hu hv hC hD)
  have HSk := Lib.hid (c_l03Seek w hF hG hKF hKG hn0 hn hK hfc hgc most hmost n)
  have hmk := run_make_row' (P := Try.prog) 26 2 (.int .i64 0) 8 Try.underlying26 inf_int64 rfl .i64 .i64 n (by omega) (by omega)
  have HQ1 := Lib.hid q1
  clear hF hG hKF hKG
  go_enter Try.func50, Try.ntmps50
  go_wp2
  go_quiet (fail)
  rename_i nq
  have hb0 := below_drewN (Below.refl w.heap.size w) nq
  generalize w.drewN nq = w1 at hb0 ⊢
  have HB0 := Lib.hid hb0
  clear q1 q2
  have q1 := cell_under hb0 HQ1.out
  have Q1 := Lib.hid q1
  clear hb0
  go_wp2_with fail
  apply cut_waysZ
  · intro key
    go_region_held3 (fun w' => w'.cell? ⟨fb, fo, none⟩ = some (.slice (some ⟨tb 0, to 0, none⟩) n (tc 0))) (first | go_keep | exact cell_under (Below.refl _ w1).drew Q1.out | exact cell_under ((Below.refl _ w1).alloc (Nat.le_refl _) _).drew Q1.out | exact cell_under (((Below.refl _ w1).alloc (Nat.le_refl _) _).alloc (by simp) _).drew Q1.out) (fail)
    all_goals
      rename_i hHz
      clear hHz
      generalize hV : World.drew (World.alloc (World.alloc w1 _) _) = V
      obtain ⟨t0, t1, tB⟩ := two_new w1 _ _
      rw [hV] at t0 t1 tB
      have hz0 := blk_zero t0
      have hz1 := blk_zero t1
      have HB := Lib.hid tB
      clear hV t0 t1 tB
      first
        | (have hz := And.intro hz1 hz0; clear hz0 hz1; generalize w1.heap.size + 1 = i1 at hz ⊢; generalize w1.heap.size = i2 at hz ⊢; have HZ := Lib.hid hz; clear hz; revert HZ HB; revert i2; revert i1; revert V; exact key.out)
        | (have hz := And.intro hz0 hz1; clear hz0 hz1; generalize w1.heap.size + 1 = i2 at hz ⊢; generalize w1.heap.size = i1 at hz ⊢; have HZ := Lib.hid hz; clear hz; revert HZ HB; revert i2; revert i1; revert V; exact key.out)
  intro V i1 i2 HB HZ
  obtain ⟨hz1, hz2⟩ := HZ.out
  have hi1 : Ints V (.slice (some ⟨i1, 0, none⟩) n n) (List.replicate n 0) := (Own.of_blk (B := 0) hz1 (Nat.zero_le _) (by simp [maxLen]; omega) (by simp) (by simp)).ints
  have hi2 : Ints V (.slice (some ⟨i2, 0, none⟩) n n) (List.replicate n 0) := (Own.of_blk (B := 0) hz2 (Nat.zero_le _) (by simp [maxLen]; omega) (by simp) (by simp)).ints
  have HBV := Lib.hid (bb HB0.out HB.out)
  have HCall := Lib.hid (HRef.out V HBV.out _ _ _ _ hi2 hi1 (zeros_ok n) (zeros_ok n))
  clear hz1 hz2 hi1 hi2 HZ HB q1
  go_wp2_with fail
  refine HCall.out.mono ?_
  rintro e w4 ⟨r1, r2, b, rfl, hb4, (⟨rfl, rfl, rfl, hno⟩ | ⟨rfl, C', D', hr1, hr2, hC', hD', hkk⟩)⟩
  · have hnil : (isoAll n F G).take most = [] := by
      have : isoAll n F G = [] := by
        rw [List.eq_nil_iff_forall_not_mem]
        intro p hp
        have hp' := (mem_isoQ.1 hp).1
        exact hno p hp' (zero_keeps hp')
      rw [this]; simp
    have HNil := Lib.hid hnil
    have HB4 := Lib.hid (bb HBV.out hb4)
    clear hb4 hno hnil
    go_wp2
    go_ret
    exact ⟨_, rfl, by rw [HNil.out]; exact OwnRows.nil _ _, HB4.out⟩
  · obtain ⟨_, e1, f1, h1, m1, rfl, hbm1⟩ := id hr1
    obtain ⟨_, e2, f2, h2, m2, rfl, hbm2⟩ := id hr2
    rw [hC'.1, hD'.1]
    rw [hC'.1] at hr1; rw [hD'.1] at hr2
    have HB4 := Lib.hid (bb HBV.out hb4)
    have HC2 : Hid (Calls Try.prog 72 #[.slice (some ⟨fb, fo, none⟩) K fc, .slice (some ⟨gb, go', none⟩) K gc, .slice none 0 0, .slice (some ⟨e1, f1, none⟩) n h1, .slice (some ⟨e2, f2, none⟩) n h2, .int .i64 most, .slice none 0 0] w4 (GrowPost w4 (.slice none 0 0) w.heap.size ((isoAll n F G).take most))) := by
      have := HSk.out [] C' D' (.slice none 0 0) (.slice (some ⟨e1, f1, none⟩) n h1) (.slice (some ⟨e2, f2, none⟩) n h2) (.slice none 0 0) [] w.heap.size w.heap.size w4 (by simp) List.nodup_nil (by simp) (fun k hk x y hx => by simp at hx) hC' hD' (fun p hp => by
        have hp' := (mem_isoP.1 hp).1
        exact hkk p hp' (zero_keeps hp')) (OwnRows.inn (OwnRows.nil w.heap.size w) |>.under HB4.out) (Own.nil _ _) hr1 hr2 (Nat.le_refl _) (Nat.le_refl _) HB4.out.size HB4.out (by simp; omega)
      rw [isoP_nil, List.nil_append] at this
      exact Lib.hid this
    obtain ⟨zs, hzs⟩ : ∃ zs, (isoAll n F G).take most = zs := ⟨_, rfl⟩
    rw [hzs] at HC2 ⊢
    have HZs := Lib.hid hzs
    clear hb4 hr1 hr2 hC' hD' hkk hbm1 hbm2 hzs
    go_wp2_with fail
    refine HC2.out.mono ?_
    rintro e w5 ⟨r, rfl, hr, hk5, hob5⟩
    obtain ⟨ra3, rc3, rfl, _⟩ := hr.rows.shape
    have HR := Lib.hid hr
    have HB5 := Lib.hid (HB4.out.trans (hk5.below fun b hb => ⟨by have := HB4.out.size; omega, fun e => by simp [Value.ownBlock] at e⟩))
    clear hr hk5 hob5
    go_wp2
    go_ret
    exact ⟨.slice ra3 zs.length rc3, rfl, by first | exact HR.out | (rw [HZs.out]; exact HR.out), HB5.out⟩
set_option maxRecDepth 100000 in
set_option maxHeartbeats 4000000 in
theorem c_l02Maps (v0 u0 v1 u1 : Value) (A B C D : List (List Int)) (most : Nat) (w : World) (hA : Sol w v0 u0 A B) (hC : Sol w v1 u1 C D) (hp1 : isPM A B = true) (hp2 : isPM C D = true) (hl : A.length = C.length) (hm1 : 1 ≤ most) (hmost : most ≤ 1048576) :
    Calls Try.prog 33 #[.agg #[v0, u0], .agg #[v1, u1], .int .i64 most] w (RRows w ((isoAll A.length [A, B] [C, D]).take most)) := by
  obtain ⟨n, b0, o0, c0, rb0, ro0, rc0, b0s, o0s, c0s, rb0s, ro0s, rc0s, rfl, rfl, hl0, hl0s, hn0, hx0, hc0, hm0, hc0s, hm0s, t0, t0s⟩ := hA.tabs hp1
  obtain ⟨m, b1, o1, c1, rb1, ro1, rc1, b1s, o1s, c1s, rb1s, ro1s, rc1s, rfl, rfl, hl1, hl1s, hn1, hx1, hc1, hm1', hc1s, hm1s, t1, t1s⟩ := hC.tabs hp2
  obtain rfl : n = m := by omega
  rw [hl0]
  obtain ⟨f0, f1, hB0, hsz⟩ := boxes2 w [.slice (some ⟨b0, o0, none⟩) n c0, .slice (some ⟨b0s, o0s, none⟩) n c0s] [.slice (some ⟨b1, o1, none⟩) n c1, .slice (some ⟨b1s, o1s, none⟩) n c1s] 29 29
  obtain ⟨W0, hW0⟩ : ∃ W0, (w.alloc (.cells #[.slice (some ⟨b0, o0, none⟩) n c0, .slice (some ⟨b0s, o0s, none⟩) n c0s] 29)).alloc (.cells #[.slice (some ⟨b1, o1, none⟩) n c1, .slice (some ⟨b1s, o1s, none⟩) n c1s] 29) = W0 := ⟨_, rfl⟩
  have hW0' := hW0
  change _ = W0 at hW0'
  have f0' : Blk W0 w.heap.size 29 [.slice (some ⟨b0, o0, none⟩) n c0, .slice (some ⟨b0s, o0s, none⟩) n c0s] := by rw [← hW0]; exact f0
  have f1' : Blk W0 (w.heap.size + 1) 29 [.slice (some ⟨b1, o1, none⟩) n c1, .slice (some ⟨b1s, o1s, none⟩) n c1s] := by rw [← hW0]; exact f1
  have hB0' : Below w.heap.size w W0 := by rw [← hW0]; exact hB0
  obtain ⟨wa, hwa⟩ : ∃ wa, W0.alloc (Obj.cells #[.slice (some ⟨b0, o0, none⟩) n c0, .slice (some ⟨b0s, o0s, none⟩) n c0s] 22) = wa := ⟨_, rfl⟩
  obtain ⟨wb, hwb⟩ : ∃ wb, wa.alloc (Obj.cells #[.slice (some ⟨b1, o1, none⟩) n c1, .slice (some ⟨b1s, o1s, none⟩) n c1s] 22) = wb := ⟨_, rfl⟩
  have hba : Below W0.heap.size W0 wa := by rw [← hwa]; exact (Below.refl _ W0).alloc (Nat.le_refl _) _
  have hbb : Below wa.heap.size wa wb := by rw [← hwb]; exact (Below.refl _ wa).alloc (Nat.le_refl _) _
  have hsa : wa.heap.size = W0.heap.size + 1 := by rw [← hwa]; simp
  have hxa : Blk wa W0.heap.size 22 [.slice (some ⟨b0, o0, none⟩) n c0, .slice (some ⟨b0s, o0s, none⟩) n c0s] := by rw [← hwa]; exact Blk.new W0 _ _
  have hxb : Blk wb (W0.heap.size + 1) 22 [.slice (some ⟨b1, o1, none⟩) n c1, .slice (some ⟨b1s, o1s, none⟩) n c1s] := by rw [← hwb, ← hsa]; exact Blk.new wa _ _
  obtain ⟨x0, x1, -, -⟩ := two_cells f0'
  obtain ⟨x2, x3, -, -⟩ := two_cells f1'
  have y2 := cell_under hba x2; have y3 := cell_under hba x3
  rw [← hwa] at y2 y3
  have hw2 : Below w.heap.size w wb := bb hB0' (bb hba hbb)
  have T0 : Tb3 wb W0.heap.size 0 n 2 [A, B] _ _ _ _ _ _ := Tb3.two (hxa.under hbb) (t0.below hw2) (t0s.below hw2)
  have T1 : Tb3 wb (W0.heap.size + 1) 0 n 2 [C, D] _ _ _ _ _ _ := Tb3.two hxb (t1.below hw2) (t1s.below hw2)
  have hs0 : W0.heap.size = w.heap.size + 1 + 1 := by rw [← hW0]; simp
  rw [hs0] at T0 T1
  have HCall := Lib.hid (c_l03Maps wb T0 T1 rfl rfl hn0 hx0 (by omega) (by omega) (fc := 2) (gc := 2) (by omega) (by omega) most hm1 hmost)
  have HW2 := Lib.hid hw2; have HWa := Lib.hid hwa; have HWb := Lib.hid hwb; have HW0 := Lib.hid hW0
  clear t0 t0s t1 t1s hA hC hp1 hp2 f0 f1 f0' f1' hB0 hB0' hsz hba hbb hsa hxa hxb hw2 T0 T1 hwa hwb hW0 hW0' hs0 hl hl0 hl0s hl1 hl1s
  go_enter Try.func33, Try.ntmps33
  go_wp2_with fail
  rw [HW0.out, HWa.out, HWb.out]
  refine HCall.out.mono ?_
  rintro e w5 ⟨r, rfl, hr, hb5⟩
  obtain ⟨zs, hzs⟩ : ∃ zs, (isoAll n [A, B] [C, D]).take most = zs := ⟨_, rfl⟩
  rw [hzs] at hr ⊢
  have HZs := Lib.hid hzs
  obtain ⟨ra3, rc3, rfl, _⟩ := hr.rows.shape
  have HR := Lib.hid (hr.mono HW2.out.size); have HB5 := Lib.hid (bb HW2.out hb5)
  clear hr hb5 hzs
  go_wp2
  go_ret
  exact ⟨.slice ra3 zs.length rc3, rfl, by first | exact HR.out | (rw [HZs.out]; exact HR.out), HB5.out⟩
end Go.Proofs.Ytgmhnjccgldddaa

namespace Go.Proofs.Ytgmhnjccgldddaa
set_option linter.unusedVariables false
set_option linter.unusedSimpArgs false
open Go Go.RowKit

set_option maxRecDepth 100000 in
set_option maxHeartbeats 4000000 in
theorem c_specSolutionIsomorphism (v0 u0 : Value) (A B : List (List Int)) (v1 u1 : Value) (C D : List (List Int)) (w : World) (hA : Sol w v0 u0 A B) (hC : Sol w v1 u1 C D)  :
    Calls Try.prog 7 #[.agg #[v0, u0], .agg #[v1, u1]] w (RIntsC w (isoRes A B C D) (isoCode A B C D)) := by
  by_cases hp0 : isPM A B = true
  case neg =>
    have hq0 : isPM A B = false := by simpa using hp0
    have HQ := Lib.hid hq0; clear hp0
    obtain ⟨a0, c0, rfl, _, _⟩ := hA.1.shape
    obtain ⟨a0s, c0s, rfl, _, _⟩ := hA.2.shape
    obtain ⟨a1, c1, rfl, _, _⟩ := hC.1.shape
    obtain ⟨a1s, c1s, rfl, _, _⟩ := hC.2.shape
    go_enter Try.func7, Try.ntmps7
    go_wp2_with fail
    obtain ⟨f0, f1, hW0, hsz⟩ := boxes2 w [.slice a0 A.length c0, .slice a0s B.length c0s] [.slice a1 C.length c1, .slice a1s D.length c1s] 29 29
    obtain ⟨W0, hW⟩ : ∃ W, ((w.alloc (.cells #[.slice a0 A.length c0, .slice a0s B.length c0s] 29)).alloc (.cells #[.slice a1 C.length c1, .slice a1s D.length c1s] 29)) = W := ⟨_, rfl⟩
    rw [hW] at f0 f1 hW0 hsz ⊢
    clear hW hsz
    refine (c_l02Map _ _ _ _ _ (hA.below hW0)).mono ?_; rintro e g0 ⟨rfl, hbg0⟩
    have hB0 := bb hW0 hbg0
    replace f0 := f0.under hbg0
    obtain ⟨cA0, cB0, -, -⟩ := two_cells f0
    replace f1 := f1.under hbg0
    obtain ⟨cA1, cB1, -, -⟩ := two_cells f1
    clear hbg0
    have HB := Lib.hid hB0
    clear hB0 hW0
    go_wp2
    go_ret2
    exact ⟨.slice none 0 0, by simp [isoCode, HQ.out], by simpa [isoRes, HQ.out] using Own.nil _ _, HB.out⟩
  have HP0 := Lib.hid hp0
  by_cases hp1 : isPM C D = true
  case neg =>
    have hq1 : isPM C D = false := by simpa using hp1
    have HQ := Lib.hid hq1; clear hp1
    obtain ⟨a0, c0, rfl, _, _⟩ := hA.1.shape
    obtain ⟨a0s, c0s, rfl, _, _⟩ := hA.2.shape
    obtain ⟨a1, c1, rfl, _, _⟩ := hC.1.shape
    obtain ⟨a1s, c1s, rfl, _, _⟩ := hC.2.shape
    go_enter Try.func7, Try.ntmps7
    go_wp2_with fail
    obtain ⟨f0, f1, hW0, hsz⟩ := boxes2 w [.slice a0 A.length c0, .slice a0s B.length c0s] [.slice a1 C.length c1, .slice a1s D.length c1s] 29 29
    obtain ⟨W0, hW⟩ : ∃ W, ((w.alloc (.cells #[.slice a0 A.length c0, .slice a0s B.length c0s] 29)).alloc (.cells #[.slice a1 C.length c1, .slice a1s D.length c1s] 29)) = W := ⟨_, rfl⟩
    rw [hW] at f0 f1 hW0 hsz ⊢
    clear hW hsz
    refine (c_l02Map _ _ _ _ _ (hA.below hW0)).mono ?_; rintro e g0 ⟨rfl, hbg0⟩
    have hB0 := bb hW0 hbg0
    replace f0 := f0.under hbg0
    obtain ⟨cA0, cB0, -, -⟩ := two_cells f0
    replace f1 := f1.under hbg0
    obtain ⟨cA1, cB1, -, -⟩ := two_cells f1
    clear hbg0
    go_wp2_with fail
    refine (c_l02Map _ _ _ _ _ (hC.below hB0)).mono ?_; rintro e g1 ⟨rfl, hbg1⟩
    have hB1 := bb hB0 hbg1
    replace f0 := f0.under hbg1
    clear cA0 cB0
    obtain ⟨cA0, cB0, -, -⟩ := two_cells f0
    replace f1 := f1.under hbg1
    clear cA1 cB1
    obtain ⟨cA1, cB1, -, -⟩ := two_cells f1
    clear hbg1
    have HB := Lib.hid hB1
    clear hB0 hB1 hW0
    go_wp2
    go_ret2
    exact ⟨.slice none 0 0, by simp [isoCode, HQ.out], by simpa [isoRes, HQ.out] using Own.nil _ _, HB.out⟩
  have HP1 := Lib.hid hp1
  obtain ⟨a0, c0, rfl, _, _⟩ := hA.1.shape
  obtain ⟨a0s, c0s, rfl, _, _⟩ := hA.2.shape
  obtain ⟨a1, c1, rfl, _, _⟩ := hC.1.shape
  obtain ⟨a1s, c1s, rfl, _, _⟩ := hC.2.shape
  go_enter Try.func7, Try.ntmps7
  go_wp2_with fail
  obtain ⟨f0, f1, hW0, hsz⟩ := boxes2 w [.slice a0 A.length c0, .slice a0s B.length c0s] [.slice a1 C.length c1, .slice a1s D.length c1s] 29 29
  obtain ⟨W0, hW⟩ : ∃ W, ((w.alloc (.cells #[.slice a0 A.length c0, .slice a0s B.length c0s] 29)).alloc (.cells #[.slice a1 C.length c1, .slice a1s D.length c1s] 29)) = W := ⟨_, rfl⟩
  rw [hW] at f0 f1 hW0 hsz ⊢
  clear hW hsz
  refine (c_l02Map _ _ _ _ _ (hA.below hW0)).mono ?_; rintro e g0 ⟨rfl, hbg0⟩
  have hB0 := bb hW0 hbg0
  replace f0 := f0.under hbg0
  obtain ⟨cA0, cB0, -, -⟩ := two_cells f0
  replace f1 := f1.under hbg0
  obtain ⟨cA1, cB1, -, -⟩ := two_cells f1
  clear hbg0
  go_wp2_with fail
  refine (c_l02Map _ _ _ _ _ (hC.below hB0)).mono ?_; rintro e g1 ⟨rfl, hbg1⟩
  have hB1 := bb hB0 hbg1
  replace f0 := f0.under hbg1
  clear cA0 cB0
  obtain ⟨cA0, cB0, -, -⟩ := two_cells f0
  replace f1 := f1.under hbg1
  clear cA1 cB1
  obtain ⟨cA1, cB1, -, -⟩ := two_cells f1
  clear hbg1
  have HSA := Lib.hid (hA.below hB1); have HSC := Lib.hid (hC.below hB1)
  have HB := Lib.hid hB1
  rw [hp1]
  by_cases hl : A.length = C.length
  case neg =>
    have hb : ((A.length : Int) != (C.length : Int)) = true := by simp; omega
    have hr : isoRes A B C D = [] ∧ isoCode A B C D = 4 := by
      have : isoL A B C D = [] := by unfold isoL; rw [if_neg hl]
      unfold isoRes isoCode
      rw [HP0.out, HP1.out, this]; simp
    have HRes := Lib.hid hr
    clear hl hr hA hC hp0 hp1 HP0 HP1 hB1 f0 f1
    go_wp2
    go_ret2
    exact ⟨.slice none 0 0, by rw [HRes.out.2]; rfl, by rw [HRes.out.1]; exact Own.nil _ _, HB.out⟩
  case pos =>
    have hb : ((A.length : Int) != (C.length : Int)) = false := by simp; omega
    have HCall := Lib.hid (c_l02Maps _ _ _ _ A B C D 1 _ HSA.out HSC.out HP0.out HP1.out hl (by omega) (by omega))
    obtain ⟨L, hL⟩ : ∃ L, isoAll A.length [A, B] [C, D] = L := ⟨_, rfl⟩
    have hr : isoRes A B C D = L.headD [] ∧ isoCode A B C D = (if L.isEmpty then 4 else 0) := by
      have : isoL A B C D = L := by unfold isoL; rw [if_pos hl, hL]
      unfold isoRes isoCode
      rw [HP0.out, HP1.out, this]; simp
    rw [hL] at HCall
    have HRes := Lib.hid hr
    clear hl hr hA hC hp0 hp1 HP0 HP1 hB1 f0 f1 hL
    cases L with
    | nil =>
      go_wp2_with fail
      refine HCall.out.mono ?_; rintro e w2 ⟨r, rfl, hr, hb2⟩
      obtain ⟨ra, rc, rfl, _⟩ := hr.rows.shape
      have HB2 := Lib.hid (bb HB.out hb2)
      simp only [List.take_nil, List.length_nil]
      clear hr hb2
      go_wp2
      go_ret2
      exact ⟨.slice none 0 0, by rw [HRes.out.2]; rfl, by rw [HRes.out.1]; exact Own.nil _ _, HB2.out⟩
    | cons p t =>
      go_wp2_with fail
      refine HCall.out.mono ?_; rintro e w2 ⟨r, rfl, hr, hb2⟩
      have HB2 := Lib.hid (bb HB.out hb2)
      obtain ⟨us, h1, h2⟩ := hr
      have hul : us.length = 1 := by rw [h2.len]; simp
      obtain ⟨u, rfl⟩ : ∃ u, us = [u] := by
        match us, hul with
        | [u], _ => exact ⟨u, rfl⟩
      rcases ownsRow_open h1 with ⟨_, h0⟩ | ⟨g, cs, hv, hgB, hgb, hgm⟩
      · simp at h0
      have ho : Own g1.heap.size w2 u p := by have := h2.own 0 (by simp) (by simp); simpa using this
      have q1 := hgb.vcell 0 (by simp)
      simp only [List.getElem_cons_zero] at q1
      subst hv
      simp only [List.length_cons, List.length_nil, Nat.zero_add]
      have HO := Lib.hid (ho.mono HB.out.size)
      obtain ⟨ua, uc, rfl, _⟩ := ho.shape
      clear hul h1 h2 hgB hgb hgm ho hb2
      go_wp2
      go_ret2
      exact ⟨.slice ua p.length uc, by rw [HRes.out.2]; rfl, by rw [HRes.out.1]; exact HO.out, HB2.out⟩
theorem isoRes_len (A B C D : List (List Int)) : (isoRes A B C D).length ≤ 12 := by
  unfold isoRes
  split
  · rename_i h
    have hp : isPM A B = true := by simp at h; exact h.1
    have hl := isTab_len (isPM_parts hp).1
    cases e : isoL A B C D with
    | nil => simp
    | cons p t =>
      have hm : p ∈ isoL A B C D := by rw [e]; simp
      unfold isoL at hm
      split at hm
      · have := (mem_isoQ.1 hm).1.1.2
        simp; omega
      · simp at hm
  · simp

theorem cut_waysSolutionIsomorphism {p G : Prop} (k : Hid p → G) (h : p) : G := k (Lib.hid h)
set_option maxHeartbeats 16000000 in
theorem law_SolutionIsomorphism (v0 u0 : Value) (x0 y0 : List (List Int)) (v1 u1 : Value) (x1 y1 : List (List Int)) (w : World) (hr0 : Rows w v0 x0) (hr0' : Rows w u0 y0) (hr1 : Rows w v1 x1) (hr1' : Rows w u1 y1) :
    Calls Try.prog 3 #[.agg #[v0, u0], .agg #[v1, u1]] w (RVal w (.bool true)) := by
  obtain ⟨a0, c0, rfl, hc0, hm0⟩ := hr0.shape
  obtain ⟨a0s, c0s, rfl, hc0s, hm0s⟩ := hr0'.shape
  have hx0 : Sol w (.slice a0 x0.length c0) (.slice a0s y0.length c0s) x0 y0 := ⟨hr0, hr0'⟩
  clear hr0 hr0'
  obtain ⟨a1, c1, rfl, hc1, hm1⟩ := hr1.shape
  obtain ⟨a1s, c1s, rfl, hc1s, hm1s⟩ := hr1'.shape
  have hx1 : Sol w (.slice a1 x1.length c1) (.slice a1s y1.length c1s) x1 y1 := ⟨hr1, hr1'⟩
  clear hr1 hr1'
  go_enter Try.func3, Try.ntmps3
  go_wp2_with fail
  obtain ⟨bx0, bx1, BW, hsz0⟩ := boxes2 w [.slice a0 x0.length c0, .slice a0s y0.length c0s] [.slice a1 x1.length c1, .slice a1s y1.length c1s] 24 24
  obtain ⟨W0, hW0⟩ : ∃ W, ((w.alloc (.cells #[.slice a0 x0.length c0, .slice a0s y0.length c0s] 24)).alloc (.cells #[.slice a1 x1.length c1, .slice a1s y1.length c1s] 24)) = W := ⟨_, rfl⟩
  rw [hW0] at bx0 bx1 BW hsz0 ⊢
  have hs0 : w.heap.size + 2 ≤ W0.heap.size := by omega
  clear hW0 hsz0
  refine (c_szSolution _ _ _ _ _ _ (hx0.below BW) (by omega) (by omega)).mono ?_; rintro e w1 ⟨rfl, hb1⟩
  have hs1 := hb1.size
  replace BW := bb BW hb1
  replace bx0 := bx0.under hb1
  obtain ⟨cA0, cB0, -, -⟩ := two_cells bx0
  replace bx1 := bx1.under hb1
  obtain ⟨cA1, cB1, -, -⟩ := two_cells bx1
  clear hb1
  by_cases hg0 : leftS x0 y0 (1048576) < 0
  case pos =>
    have HB := Lib.hid BW; clear BW
    go_wp2
    go_ret
    exact ⟨rfl, HB.out⟩
  have hf0 := leftS_fits (left := 1048576) (by omega) (by omega) hg0
  have Hf0 := Lib.hid hf0
  clear hf0
  have hf0 : (x0.length ≤ 1048576 ∧ total x0 ≤ 1048576) ∧ (y0.length ≤ 1048576 ∧ total y0 ≤ 1048576) ∧ 0 ≤ leftS x0 y0 (1048576) ∧ leftS x0 y0 (1048576) ≤ 1048576 := ⟨⟨Hf0.out.1.1, Hf0.out.1.2.2⟩, ⟨Hf0.out.2.1.1, Hf0.out.2.1.2.2⟩, Hf0.out.2.2⟩
  go_wp2_with fail
  refine (c_szSolution _ _ _ _ _ _ (hx1.below BW) (by omega) (by omega)).mono ?_; rintro e w2 ⟨rfl, hb2⟩
  have hs2 := hb2.size
  replace BW := bb BW hb2
  replace bx0 := bx0.under hb2
  clear cA0 cB0
  obtain ⟨cA0, cB0, -, -⟩ := two_cells bx0
  replace bx1 := bx1.under hb2
  clear cA1 cB1
  obtain ⟨cA1, cB1, -, -⟩ := two_cells bx1
  clear hb2
  by_cases hg1 : leftS x1 y1 (leftS x0 y0 (1048576)) < 0
  case pos =>
    have HB := Lib.hid BW; clear BW
    go_wp2
    go_ret
    exact ⟨rfl, HB.out⟩
  have hf1 := leftS_fits (left := leftS x0 y0 (1048576)) (by omega) (by omega) hg1
  have Hf1 := Lib.hid hf1
  clear hf1
  have hf1 : (x1.length ≤ 1048576 ∧ total x1 ≤ 1048576) ∧ (y1.length ≤ 1048576 ∧ total y1 ≤ 1048576) ∧ 0 ≤ leftS x1 y1 (leftS x0 y0 (1048576)) ∧ leftS x1 y1 (leftS x0 y0 (1048576)) ≤ 1048576 := ⟨⟨Hf1.out.1.1, Hf1.out.1.2.2⟩, ⟨Hf1.out.2.1.1, Hf1.out.2.1.2.2⟩, Hf1.out.2.2⟩
  have hB0 : (isoRes x0 y0 x1 y1).length ≤ 1152921504606846976 := by have := isoRes_len x0 y0 x1 y1; omega
  obtain ⟨R0, hR0⟩ : ∃ z, z = isoRes x0 y0 x1 y1 := ⟨_, rfl⟩
  obtain ⟨R1, hR1⟩ : ∃ z, z = isoCode x0 y0 x1 y1 := ⟨_, rfl⟩
  rw [← hR0] at hB0
  have HR0 := Lib.hid hR0
  clear hR0
  have HR1 := Lib.hid hR1
  clear hR1
  have hd0 : decide (R0 = R0) = true := by simp
  have hk1 : (R1 != R1) = false := by simp
  have hda0 : decide (x0 = x0 ∧ y0 = y0) = true := by simp
  have hda1 : decide (x1 = x1 ∧ y1 = y1) = true := by simp
  have hq0 : ((1 + (R0.length : Int)) != (1 + (R0.length : Int))) = false := by simp
  go_wp2_with fail
  have hdd : Below w2.heap.size w2 w2.drew := (Below.refl _ _).drew
  replace BW := bb BW hdd
  replace bx0 := bx0.under hdd
  clear cA0 cB0
  obtain ⟨cA0, cB0, -, -⟩ := two_cells bx0
  replace bx1 := bx1.under hdd
  clear cA1 cB1
  obtain ⟨cA1, cB1, -, -⟩ := two_cells bx1
  clear hdd
  go_region_held3 (fun w' => w'.cell? ⟨w.heap.size, 0, none⟩ = some (.slice a0 x0.length c0) ∧ w'.cell? ⟨w.heap.size, 1, none⟩ = some (.slice a0s y0.length c0s) ∧ w'.cell? ⟨w.heap.size + 1, 0, none⟩ = some (.slice a1 x1.length c1) ∧ w'.cell? ⟨w.heap.size + 1, 1, none⟩ = some (.slice a1s y1.length c1s))
    (first | go_keep | exact ⟨(two_cells bx0).1, (two_cells bx0).2.1, (two_cells bx1).1, (two_cells bx1).2.1⟩ | exact ⟨(two_cells (bx0.under hb3)).1, (two_cells (bx0.under hb3)).2.1, (two_cells (bx1.under hb3)).1, (two_cells (bx1.under hb3)).2.1⟩ | exact ⟨(two_cells ((bx0.under hb3).under hb4)).1, (two_cells ((bx0.under hb3).under hb4)).2.1, (two_cells ((bx1.under hb3).under hb4)).1, (two_cells ((bx1.under hb3).under hb4)).2.1⟩ | exact ⟨(two_cells (((bx0.under hb3).under hb4).under hb5)).1, (two_cells (((bx0.under hb3).under hb4).under hb5)).2.1, (two_cells (((bx1.under hb3).under hb4).under hb5)).1, (two_cells (((bx1.under hb3).under hb4).under hb5)).2.1⟩)
    ((first | (go_at_call 8; (with_reducible refine (c_toSolution _ _ _ _ _ (hx0.below BW) hf0.1.1 Hf0.out.1.2.1 hf0.2.1.1 Hf0.out.2.1.2.1).mono ?_); rintro e w3 ⟨tt1, tt2, rfl, ott, hb3⟩) | (go_at_call 8; (with_reducible refine (c_toSolution _ _ _ _ _ (hx1.below (bb BW hb3)) hf1.1.1 Hf1.out.1.2.1 hf1.2.1.1 Hf1.out.2.1.2.1).mono ?_); rintro e w4 ⟨tu1, tu2, rfl, otu, hb4⟩) | (go_at_call 7; refine (c_specSolutionIsomorphism _ _ _ _ _ _ _ _ _ (ott.under hb4).sol otu.sol).mono ?_; rw [← HR0.out, ← HR1.out]; rintro e w5 ⟨s0, rfl, os0r, hb5⟩)))
  have hbz : Below (w2.drew).heap.size (w2.drew) w5 := bb (bb hb3 hb4) hb5
  have hs5 : (w2.drew).heap.size ≤ w4.heap.size := Nat.le_trans hb3.size hb4.size
  have hs5z := hb5.size
  change w2.heap.size ≤ _ at hs5
  replace BW := bb BW hbz
  replace bx0 := bx0.under hbz
  clear cA0 cB0
  obtain ⟨cA0, cB0, -, -⟩ := two_cells bx0
  replace bx1 := bx1.under hbz
  clear cA1 cB1
  obtain ⟨cA1, cB1, -, -⟩ := two_cells bx1
  clear ott otu hbz hb3 hb4 hb5
  have hS := os0r.ints
  clear os0r
  have BS : Below w5.heap.size w5 w5 := Below.refl _ _
  go_wp2_with fail
  refine (c_toSolution _ _ _ _ _ (hx0.below BW) hf0.1.1 Hf0.out.1.2.1 hf0.2.1.1 Hf0.out.2.1.2.1).mono ?_; rintro e w6 ⟨z01, z02, rfl, oz0, hb6⟩
  have hs6 := hb6.size
  replace BW := bb BW hb6
  replace BS := bb BS hb6
  replace bx0 := bx0.under hb6
  clear cA0 cB0
  obtain ⟨cA0, cB0, -, -⟩ := two_cells bx0
  replace bx1 := bx1.under hb6
  clear cA1 cB1
  obtain ⟨cA1, cB1, -, -⟩ := two_cells bx1
  clear hb6
  obtain ⟨saz0, scz0, hvz0, _, _⟩ := oz0.sol.1.shape
  subst hvz0
  obtain ⟨sbz0, sdz0, hvz0, _, _⟩ := oz0.sol.2.shape
  subst hvz0
  obtain ⟨cA0z, cB0z, -, -⟩ := two_cells (bx0.alloc (.cells #[.slice saz0 x0.length scz0, .slice sbz0 y0.length sdz0] 29))
  obtain ⟨cA1z, cB1z, -, -⟩ := two_cells (bx1.alloc (.cells #[.slice saz0 x0.length scz0, .slice sbz0 y0.length sdz0] 29))
  go_wp2_with fail
  clear cA0z cB0z
  clear cA1z cB1z
  obtain ⟨bxz0, hb7, hz7⟩ := boxes1 w6 [.slice saz0 x0.length scz0, .slice sbz0 y0.length sdz0] 29
  obtain ⟨w7, hW7⟩ : ∃ W, w6.alloc (.cells #[.slice saz0 x0.length scz0, .slice sbz0 y0.length sdz0] 29) = W := ⟨_, rfl⟩
  rw [hW7] at bxz0 hb7 hz7 ⊢
  have hs7 : w6.heap.size + 1 ≤ w7.heap.size := by omega
  clear hW7 hz7
  replace oz0 := oz0.under hb7
  replace BW := bb BW hb7
  replace BS := bb BS hb7
  replace bx0 := bx0.under hb7
  clear cA0 cB0
  obtain ⟨cA0, cB0, -, -⟩ := two_cells bx0
  replace bx1 := bx1.under hb7
  clear cA1 cB1
  obtain ⟨cA1, cB1, -, -⟩ := two_cells bx1
  obtain ⟨cAz0, cBz0, -, -⟩ := two_cells bxz0
  clear hb7
  refine (c_toSolution _ _ _ _ _ (hx1.below BW) hf1.1.1 Hf1.out.1.2.1 hf1.2.1.1 Hf1.out.2.1.2.1).mono ?_; rintro e w8 ⟨z11, z12, rfl, oz1, hb8⟩
  have hs8 := hb8.size
  replace oz0 := oz0.under hb8
  replace BW := bb BW hb8
  replace BS := bb BS hb8
  replace bx0 := bx0.under hb8
  clear cA0 cB0
  obtain ⟨cA0, cB0, -, -⟩ := two_cells bx0
  replace bx1 := bx1.under hb8
  clear cA1 cB1
  obtain ⟨cA1, cB1, -, -⟩ := two_cells bx1
  replace bxz0 := bxz0.under hb8
  clear cAz0 cBz0
  obtain ⟨cAz0, cBz0, -, -⟩ := two_cells bxz0
  clear hb8
  obtain ⟨saz1, scz1, hvz1, _, _⟩ := oz1.sol.1.shape
  subst hvz1
  obtain ⟨sbz1, sdz1, hvz1, _, _⟩ := oz1.sol.2.shape
  subst hvz1
  obtain ⟨cA0z, cB0z, -, -⟩ := two_cells (bx0.alloc (.cells #[.slice saz1 x1.length scz1, .slice sbz1 y1.length sdz1] 29))
  obtain ⟨cA1z, cB1z, -, -⟩ := two_cells (bx1.alloc (.cells #[.slice saz1 x1.length scz1, .slice sbz1 y1.length sdz1] 29))
  obtain ⟨cAz0z, cBz0z, -, -⟩ := two_cells (bxz0.alloc (.cells #[.slice saz1 x1.length scz1, .slice sbz1 y1.length sdz1] 29))
  go_wp2_with fail
  clear cA0z cB0z
  clear cA1z cB1z
  clear cAz0z cBz0z
  obtain ⟨bxz1, hb9, hz9⟩ := boxes1 w8 [.slice saz1 x1.length scz1, .slice sbz1 y1.length sdz1] 29
  obtain ⟨w9, hW9⟩ : ∃ W, w8.alloc (.cells #[.slice saz1 x1.length scz1, .slice sbz1 y1.length sdz1] 29) = W := ⟨_, rfl⟩
  rw [hW9] at bxz1 hb9 hz9 ⊢
  have hs9 : w8.heap.size + 1 ≤ w9.heap.size := by omega
  clear hW9 hz9
  replace oz0 := oz0.under hb9
  replace oz1 := oz1.under hb9
  replace BW := bb BW hb9
  replace BS := bb BS hb9
  replace bx0 := bx0.under hb9
  clear cA0 cB0
  obtain ⟨cA0, cB0, -, -⟩ := two_cells bx0
  replace bx1 := bx1.under hb9
  clear cA1 cB1
  obtain ⟨cA1, cB1, -, -⟩ := two_cells bx1
  replace bxz0 := bxz0.under hb9
  clear cAz0 cBz0
  obtain ⟨cAz0, cBz0, -, -⟩ := two_cells bxz0
  obtain ⟨cAz1, cBz1, -, -⟩ := two_cells bxz1
  clear hb9
  refine (c_SolutionIsomorphism _ _ _ _ _ _ _ _ _ (oz0.sol) (oz1.sol)).mono ?_
  rw [← HR0.out, ← HR1.out]
  rintro e w10 ⟨g0, rfl, og0r, hb10⟩
  have hs10 := hb10.size
  replace oz0 := oz0.under hb10
  replace oz1 := oz1.under hb10
  replace BW := bb BW hb10
  replace BS := bb BS hb10
  replace bx0 := bx0.under hb10
  clear cA0 cB0
  obtain ⟨cA0, cB0, -, -⟩ := two_cells bx0
  replace bx1 := bx1.under hb10
  clear cA1 cB1
  obtain ⟨cA1, cB1, -, -⟩ := two_cells bx1
  replace bxz0 := bxz0.under hb10
  clear cAz0 cBz0
  obtain ⟨cAz0, cBz0, -, -⟩ := two_cells bxz0
  replace bxz1 := bxz1.under hb10
  clear cAz1 cBz1
  obtain ⟨cAz1, cBz1, -, -⟩ := two_cells bxz1
  have og0 := og0r.inn
  clear og0r
  clear hb10
  go_wp2_with fail
  refine (c_eqI _ _ _ _ _ (og0.ints) (hS.below BS)).mono ?_; rintro e w11 ⟨rfl, hb11⟩
  have hs11 := hb11.size
  replace oz0 := oz0.under hb11
  replace oz1 := oz1.under hb11
  replace og0 := og0.under hb11
  replace BW := bb BW hb11
  replace BS := bb BS hb11
  replace bx0 := bx0.under hb11
  clear cA0 cB0
  obtain ⟨cA0, cB0, -, -⟩ := two_cells bx0
  replace bx1 := bx1.under hb11
  clear cA1 cB1
  obtain ⟨cA1, cB1, -, -⟩ := two_cells bx1
  replace bxz0 := bxz0.under hb11
  clear cAz0 cBz0
  obtain ⟨cAz0, cBz0, -, -⟩ := two_cells bxz0
  replace bxz1 := bxz1.under hb11
  clear cAz1 cBz1
  obtain ⟨cAz1, cBz1, -, -⟩ := two_cells bxz1
  clear hb11
  go_wp2_with fail
  have BWd := BW.drew
  have oz0d := oz0.keep ((Keep.refl (fun _ => False) w11).drew) (fun _ _ _ h => h)
  have bx0d := bx0.drew
  have bxz0d := bxz0.drew
  go_region_held3 (fun w' => w'.cell? ⟨w.heap.size, 0, none⟩ = some (.slice a0 x0.length c0) ∧ w'.cell? ⟨w.heap.size, 1, none⟩ = some (.slice a0s y0.length c0s) ∧ w'.cell? ⟨w6.heap.size, 0, none⟩ = some (.slice saz0 x0.length scz0) ∧ w'.cell? ⟨w6.heap.size, 1, none⟩ = some (.slice sbz0 y0.length sdz0))
    (first | go_keep | exact ⟨(two_cells (bx0d.under hb12)).1, (two_cells (bx0d.under hb12)).2.1, (two_cells (bxz0d.under hb12)).1, (two_cells (bxz0d.under hb12)).2.1⟩ | exact ⟨(two_cells ((bx0d.under hb12).under hb13)).1, (two_cells ((bx0d.under hb12).under hb13)).2.1, (two_cells ((bxz0d.under hb12).under hb13)).1, (two_cells ((bxz0d.under hb12).under hb13)).2.1⟩)
    ((first | (go_at_call 8; refine (c_toSolution _ _ _ _ _ (hx0.below BWd) hf0.1.1 Hf0.out.1.2.1 hf0.2.1.1 Hf0.out.2.1.2.1).mono ?_; rintro e w12 ⟨t121, t122, rfl, ot12, hb12⟩) | (go_at_call 11; refine (c_eqS _ _ _ _ _ _ _ _ _ (oz0d.under hb12).sol ot12.sol).mono ?_; rintro e w13 ⟨rfl, hb13⟩)))
  have hb13z : Below w11.heap.size w11 w13 := (Below.refl _ _).drew.trans (bb hb12 hb13)
  have hs13 : w11.heap.size ≤ w13.heap.size := hb13z.size
  replace oz0 := oz0.under hb13z
  replace oz1 := oz1.under hb13z
  replace og0 := og0.under hb13z
  replace BW := bb BW hb13z
  replace BS := bb BS hb13z
  replace bx0 := bx0.under hb13z
  clear cA0 cB0
  obtain ⟨cA0, cB0, -, -⟩ := two_cells bx0
  replace bx1 := bx1.under hb13z
  clear cA1 cB1
  obtain ⟨cA1, cB1, -, -⟩ := two_cells bx1
  replace bxz0 := bxz0.under hb13z
  clear cAz0 cBz0
  obtain ⟨cAz0, cBz0, -, -⟩ := two_cells bxz0
  replace bxz1 := bxz1.under hb13z
  clear cAz1 cBz1
  obtain ⟨cAz1, cBz1, -, -⟩ := two_cells bxz1
  clear BWd oz0d bx0d bxz0d ot12 hb12 hb13 hb13z
  go_wp2_with fail
  have BWd := BW.drew
  have oz1d := oz1.keep ((Keep.refl (fun _ => False) w13).drew) (fun _ _ _ h => h)
  have bx1d := bx1.drew
  have bxz1d := bxz1.drew
  go_region_held3 (fun w' => w'.cell? ⟨w.heap.size + 1, 0, none⟩ = some (.slice a1 x1.length c1) ∧ w'.cell? ⟨w.heap.size + 1, 1, none⟩ = some (.slice a1s y1.length c1s) ∧ w'.cell? ⟨w8.heap.size, 0, none⟩ = some (.slice saz1 x1.length scz1) ∧ w'.cell? ⟨w8.heap.size, 1, none⟩ = some (.slice sbz1 y1.length sdz1))
    (first | go_keep | exact ⟨(two_cells (bx1d.under hb14)).1, (two_cells (bx1d.under hb14)).2.1, (two_cells (bxz1d.under hb14)).1, (two_cells (bxz1d.under hb14)).2.1⟩ | exact ⟨(two_cells ((bx1d.under hb14).under hb15)).1, (two_cells ((bx1d.under hb14).under hb15)).2.1, (two_cells ((bxz1d.under hb14).under hb15)).1, (two_cells ((bxz1d.under hb14).under hb15)).2.1⟩)
    ((first | (go_at_call 8; refine (c_toSolution _ _ _ _ _ (hx1.below BWd) hf1.1.1 Hf1.out.1.2.1 hf1.2.1.1 Hf1.out.2.1.2.1).mono ?_; rintro e w14 ⟨t141, t142, rfl, ot14, hb14⟩) | (go_at_call 11; refine (c_eqS _ _ _ _ _ _ _ _ _ (oz1d.under hb14).sol ot14.sol).mono ?_; rintro e w15 ⟨rfl, hb15⟩)))
  have hb15z : Below w13.heap.size w13 w15 := (Below.refl _ _).drew.trans (bb hb14 hb15)
  have hs15 : w13.heap.size ≤ w15.heap.size := hb15z.size
  replace oz0 := oz0.under hb15z
  replace oz1 := oz1.under hb15z
  replace og0 := og0.under hb15z
  replace BW := bb BW hb15z
  replace BS := bb BS hb15z
  replace bx0 := bx0.under hb15z
  clear cA0 cB0
  obtain ⟨cA0, cB0, -, -⟩ := two_cells bx0
  replace bx1 := bx1.under hb15z
  clear cA1 cB1
  obtain ⟨cA1, cB1, -, -⟩ := two_cells bx1
  replace bxz0 := bxz0.under hb15z
  clear cAz0 cBz0
  obtain ⟨cAz0, cBz0, -, -⟩ := two_cells bxz0
  replace bxz1 := bxz1.under hb15z
  clear cAz1 cBz1
  obtain ⟨cAz1, cBz1, -, -⟩ := two_cells bxz1
  clear BWd oz1d bx1d bxz1d ot14 hb14 hb15 hb15z
  go_wp2_with fail
  refine (c_markS _ _ _ _ _ _ _ _ oz0 (by omega) (by omega) (by omega)).mono ?_; rintro e w16 ⟨rfl, oz0m, hkw16⟩
  have hs16 := hkw16.size
  replace oz1 := oz1.keep hkw16 (fun b p q r => by omega)
  replace og0 := og0.keep hkw16 (fun b p q r => by omega)
  replace bx0 := bx0.of_block (hkw16.block _ (by omega) (by omega))
  clear cA0 cB0
  obtain ⟨cA0, cB0, -, -⟩ := two_cells bx0
  replace bx1 := bx1.of_block (hkw16.block _ (by omega) (by omega))
  clear cA1 cB1
  obtain ⟨cA1, cB1, -, -⟩ := two_cells bx1
  replace bxz0 := bxz0.of_block (hkw16.block _ (by omega) (by omega))
  clear cAz0 cBz0
  obtain ⟨cAz0, cBz0, -, -⟩ := two_cells bxz0
  replace bxz1 := bxz1.of_block (hkw16.block _ (by omega) (by omega))
  clear cAz1 cBz1
  obtain ⟨cAz1, cBz1, -, -⟩ := two_cells bxz1
  replace BW := below_keep BW hkw16 (by omega)
  replace BS := below_keep BS hkw16 (by omega)
  clear oz0
  have oz0 := oz0m
  clear oz0m hkw16
  clear oz0
  go_wp2_with fail
  refine (c_markS _ _ _ _ _ _ _ _ oz1 (by omega) (by omega) (by omega)).mono ?_; rintro e w17 ⟨rfl, oz1m, hkw17⟩
  have hs17 := hkw17.size
  replace og0 := og0.keep hkw17 (fun b p q r => by omega)
  replace bx0 := bx0.of_block (hkw17.block _ (by omega) (by omega))
  clear cA0 cB0
  obtain ⟨cA0, cB0, -, -⟩ := two_cells bx0
  replace bx1 := bx1.of_block (hkw17.block _ (by omega) (by omega))
  clear cA1 cB1
  obtain ⟨cA1, cB1, -, -⟩ := two_cells bx1
  replace bxz0 := bxz0.of_block (hkw17.block _ (by omega) (by omega))
  clear cAz0 cBz0
  obtain ⟨cAz0, cBz0, -, -⟩ := two_cells bxz0
  replace bxz1 := bxz1.of_block (hkw17.block _ (by omega) (by omega))
  clear cAz1 cBz1
  obtain ⟨cAz1, cBz1, -, -⟩ := two_cells bxz1
  replace BW := below_keep BW hkw17 (by omega)
  replace BS := below_keep BS hkw17 (by omega)
  clear oz1
  have oz1 := oz1m
  clear oz1m hkw17
  clear oz1
  go_wp2_with fail
  refine (c_eqI _ _ _ _ _ (og0.ints) (hS.below BS)).mono ?_; rintro e w18 ⟨rfl, hb18⟩
  have hs18 := hb18.size
  replace og0 := og0.under hb18
  replace BW := bb BW hb18
  replace BS := bb BS hb18
  replace bx0 := bx0.under hb18
  clear cA0 cB0
  obtain ⟨cA0, cB0, -, -⟩ := two_cells bx0
  replace bx1 := bx1.under hb18
  clear cA1 cB1
  obtain ⟨cA1, cB1, -, -⟩ := two_cells bx1
  replace bxz0 := bxz0.under hb18
  clear cAz0 cBz0
  obtain ⟨cAz0, cBz0, -, -⟩ := two_cells bxz0
  replace bxz1 := bxz1.under hb18
  clear cAz1 cBz1
  obtain ⟨cAz1, cBz1, -, -⟩ := two_cells bxz1
  clear hb18
  go_wp2_with fail
  refine (c_markI _ _ _ _ _ _ og0 (by omega) (by omega)).mono ?_; rintro e w19 ⟨rfl, og0m, hkw19⟩
  have hs19 := hkw19.size
  replace bx0 := bx0.of_block (hkw19.block _ (by omega) (by omega))
  clear cA0 cB0
  obtain ⟨cA0, cB0, -, -⟩ := two_cells bx0
  replace bx1 := bx1.of_block (hkw19.block _ (by omega) (by omega))
  clear cA1 cB1
  obtain ⟨cA1, cB1, -, -⟩ := two_cells bx1
  replace bxz0 := bxz0.of_block (hkw19.block _ (by omega) (by omega))
  clear cAz0 cBz0
  obtain ⟨cAz0, cBz0, -, -⟩ := two_cells bxz0
  replace bxz1 := bxz1.of_block (hkw19.block _ (by omega) (by omega))
  clear cAz1 cBz1
  obtain ⟨cAz1, cBz1, -, -⟩ := two_cells bxz1
  replace BW := below_keep BW hkw19 (by omega)
  replace BS := below_keep BS hkw19 (by omega)
  clear og0
  have og0 := og0m
  clear og0m hkw19
  go_wp2_with fail
  refine (c_heldInt64S _ _ _ _ (og0.ints) (by omega) (by omega)).mono ?_; rintro e w20 ⟨rfl, hb20⟩
  have hs20 := hb20.size
  replace og0 := og0.under hb20
  replace BW := bb BW hb20
  replace BS := bb BS hb20
  replace bx0 := bx0.under hb20
  clear cA0 cB0
  obtain ⟨cA0, cB0, -, -⟩ := two_cells bx0
  replace bx1 := bx1.under hb20
  clear cA1 cB1
  obtain ⟨cA1, cB1, -, -⟩ := two_cells bx1
  replace bxz0 := bxz0.under hb20
  clear cAz0 cBz0
  obtain ⟨cAz0, cBz0, -, -⟩ := two_cells bxz0
  replace bxz1 := bxz1.under hb20
  clear cAz1 cBz1
  obtain ⟨cAz1, cBz1, -, -⟩ := two_cells bxz1
  clear hb20
  go_wp2_with fail
  have hdd : Below w20.heap.size w20 w20.drew := (Below.refl _ _).drew
  replace og0 := og0.under hdd
  replace BW := bb BW hdd
  replace BS := bb BS hdd
  replace bx0 := bx0.under hdd
  clear cA0 cB0
  obtain ⟨cA0, cB0, -, -⟩ := two_cells bx0
  replace bx1 := bx1.under hdd
  clear cA1 cB1
  obtain ⟨cA1, cB1, -, -⟩ := two_cells bx1
  replace bxz0 := bxz0.under hdd
  clear cAz0 cBz0
  obtain ⟨cAz0, cBz0, -, -⟩ := two_cells bxz0
  replace bxz1 := bxz1.under hdd
  clear cAz1 cBz1
  obtain ⟨cAz1, cBz1, -, -⟩ := two_cells bxz1
  clear hdd
  go_region_held3 (fun w' => w'.cell? ⟨w.heap.size, 0, none⟩ = some (.slice a0 x0.length c0) ∧ w'.cell? ⟨w.heap.size, 1, none⟩ = some (.slice a0s y0.length c0s) ∧ w'.cell? ⟨w.heap.size + 1, 0, none⟩ = some (.slice a1 x1.length c1) ∧ w'.cell? ⟨w.heap.size + 1, 1, none⟩ = some (.slice a1s y1.length c1s))
    (first | go_keep | exact ⟨(two_cells bx0).1, (two_cells bx0).2.1, (two_cells bx1).1, (two_cells bx1).2.1⟩ | exact ⟨(two_cells (bx0.under hb21)).1, (two_cells (bx0.under hb21)).2.1, (two_cells (bx1.under hb21)).1, (two_cells (bx1.under hb21)).2.1⟩ | exact ⟨(two_cells ((bx0.under hb21).under hb22)).1, (two_cells ((bx0.under hb21).under hb22)).2.1, (two_cells ((bx1.under hb21).under hb22)).1, (two_cells ((bx1.under hb21).under hb22)).2.1⟩ | exact ⟨(two_cells (((bx0.under hb21).under hb22).under hb23)).1, (two_cells (((bx0.under hb21).under hb22).under hb23)).2.1, (two_cells (((bx1.under hb21).under hb22).under hb23)).1, (two_cells (((bx1.under hb21).under hb22).under hb23)).2.1⟩)
    ((first | (go_at_call 8; (with_reducible refine (c_toSolution _ _ _ _ _ (hx0.below BW) hf0.1.1 Hf0.out.1.2.1 hf0.2.1.1 Hf0.out.2.1.2.1).mono ?_); rintro e w21 ⟨tt1, tt2, rfl, ott, hb21⟩) | (go_at_call 8; (with_reducible refine (c_toSolution _ _ _ _ _ (hx1.below (bb BW hb21)) hf1.1.1 Hf1.out.1.2.1 hf1.2.1.1 Hf1.out.2.1.2.1).mono ?_); rintro e w22 ⟨tu1, tu2, rfl, otu, hb22⟩) | (go_at_call 9; refine (c_SolutionIsomorphism _ _ _ _ _ _ _ _ _ (ott.under hb22).sol otu.sol).mono ?_; rw [← HR0.out, ← HR1.out]; rintro e w23 ⟨h0, rfl, oh0r, hb23⟩)))
  have hbz : Below (w20.drew).heap.size (w20.drew) w23 := bb (bb hb21 hb22) hb23
  have hs23 : (w20.drew).heap.size ≤ w22.heap.size := Nat.le_trans hb21.size hb22.size
  have hs23z := hb23.size
  change w20.heap.size ≤ _ at hs23
  replace og0 := og0.under hbz
  replace BW := bb BW hbz
  replace BS := bb BS hbz
  replace bx0 := bx0.under hbz
  clear cA0 cB0
  obtain ⟨cA0, cB0, -, -⟩ := two_cells bx0
  replace bx1 := bx1.under hbz
  clear cA1 cB1
  obtain ⟨cA1, cB1, -, -⟩ := two_cells bx1
  replace bxz0 := bxz0.under hbz
  clear cAz0 cBz0
  obtain ⟨cAz0, cBz0, -, -⟩ := two_cells bxz0
  replace bxz1 := bxz1.under hbz
  clear cAz1 cBz1
  obtain ⟨cAz1, cBz1, -, -⟩ := two_cells bxz1
  clear ott otu hbz hb21 hb22 hb23
  have oh0 := oh0r.inn
  clear oh0r
  go_wp2_with fail
  refine (c_eqI _ _ _ _ _ (oh0.ints) (hS.below BS)).mono ?_; rintro e w24 ⟨rfl, hb24⟩
  have hs24 := hb24.size
  replace og0 := og0.under hb24
  replace oh0 := oh0.under hb24
  replace BW := bb BW hb24
  replace BS := bb BS hb24
  replace bx0 := bx0.under hb24
  clear cA0 cB0
  obtain ⟨cA0, cB0, -, -⟩ := two_cells bx0
  replace bx1 := bx1.under hb24
  clear cA1 cB1
  obtain ⟨cA1, cB1, -, -⟩ := two_cells bx1
  replace bxz0 := bxz0.under hb24
  clear cAz0 cBz0
  obtain ⟨cAz0, cBz0, -, -⟩ := two_cells bxz0
  replace bxz1 := bxz1.under hb24
  clear cAz1 cBz1
  obtain ⟨cAz1, cBz1, -, -⟩ := two_cells bxz1
  clear hb24
  go_wp2_with fail
  refine (c_heldInt64S _ _ _ _ (og0.ints) (by omega) (by omega)).mono ?_; rintro e w25 ⟨rfl, hb25⟩
  have hs25 := hb25.size
  replace og0 := og0.under hb25
  replace oh0 := oh0.under hb25
  replace BW := bb BW hb25
  replace BS := bb BS hb25
  replace bx0 := bx0.under hb25
  clear cA0 cB0
  obtain ⟨cA0, cB0, -, -⟩ := two_cells bx0
  replace bx1 := bx1.under hb25
  clear cA1 cB1
  obtain ⟨cA1, cB1, -, -⟩ := two_cells bx1
  replace bxz0 := bxz0.under hb25
  clear cAz0 cBz0
  obtain ⟨cAz0, cBz0, -, -⟩ := two_cells bxz0
  replace bxz1 := bxz1.under hb25
  clear cAz1 cBz1
  obtain ⟨cAz1, cBz1, -, -⟩ := two_cells bxz1
  clear hb25
  have HB := Lib.hid BW
  clear BW BS hS og0 oh0 hx0 hx1 bx0 bx1 bxz0 bxz1
  go_wp2
  go_ret
  exact ⟨rfl, HB.out⟩
end Go.Proofs.Ytgmhnjccgldddaa

namespace Go.Proofs.Ytgmhnjccgldddaa
set_option linter.unusedVariables false
set_option linter.unusedSimpArgs false
open Go Go.RowKit

set_option maxRecDepth 100000 in
set_option maxHeartbeats 4000000 in
theorem c_specSolutionAutomorphisms (v0 u0 : Value) (A B : List (List Int)) (w : World) (hA : Sol w v0 u0 A B)  :
    Calls Try.prog 15 #[.agg #[v0, u0]] w (RRowsC w (autRes A B) (autCode A B)) := by
  by_cases hp0 : isPM A B = true
  case neg =>
    have hq0 : isPM A B = false := by simpa using hp0
    have HQ := Lib.hid hq0; clear hp0
    obtain ⟨a0, c0, rfl, _, _⟩ := hA.1.shape
    obtain ⟨a0s, c0s, rfl, _, _⟩ := hA.2.shape
    go_enter Try.func15, Try.ntmps15
    go_wp2_with fail
    obtain ⟨f0, hW0, hsz⟩ := boxes1 w [.slice a0 A.length c0, .slice a0s B.length c0s] 29
    obtain ⟨W0, hW⟩ : ∃ W, (w.alloc (.cells #[.slice a0 A.length c0, .slice a0s B.length c0s] 29)) = W := ⟨_, rfl⟩
    rw [hW] at f0 hW0 hsz ⊢
    clear hW hsz
    refine (c_l02Map _ _ _ _ _ (hA.below hW0)).mono ?_; rintro e g0 ⟨rfl, hbg0⟩
    have hB0 := bb hW0 hbg0
    replace f0 := f0.under hbg0
    obtain ⟨cA0, cB0, -, -⟩ := two_cells f0
    clear hbg0
    have HB := Lib.hid hB0
    clear hB0 hW0
    go_wp2
    go_ret2
    exact ⟨.slice none 0 0, by simp [autCode, HQ.out], by simpa [autRes, HQ.out] using OwnRows.nil _ _, HB.out⟩
  have HP0 := Lib.hid hp0
  obtain ⟨a0, c0, rfl, _, _⟩ := hA.1.shape
  obtain ⟨a0s, c0s, rfl, _, _⟩ := hA.2.shape
  go_enter Try.func15, Try.ntmps15
  go_wp2_with fail
  obtain ⟨f0, hW0, hsz⟩ := boxes1 w [.slice a0 A.length c0, .slice a0s B.length c0s] 29
  obtain ⟨W0, hW⟩ : ∃ W, (w.alloc (.cells #[.slice a0 A.length c0, .slice a0s B.length c0s] 29)) = W := ⟨_, rfl⟩
  rw [hW] at f0 hW0 hsz ⊢
  clear hW hsz
  refine (c_l02Map _ _ _ _ _ (hA.below hW0)).mono ?_; rintro e g0 ⟨rfl, hbg0⟩
  have hB0 := bb hW0 hbg0
  replace f0 := f0.under hbg0
  obtain ⟨cA0, cB0, -, -⟩ := two_cells f0
  clear hbg0
  have HSA := Lib.hid (hA.below hB0)
  have HB := Lib.hid hB0
  rw [hp0]
  have HCall := Lib.hid (c_l02Maps _ _ _ _ A B A B 1001 _ HSA.out HSA.out HP0.out HP0.out rfl (by omega) (by omega))
  obtain ⟨L, hL⟩ : ∃ L, isoAll A.length [A, B] [A, B] = L := ⟨_, rfl⟩
  have hr : autRes A B = (if L.length ≤ 1000 then L else []) ∧ autCode A B = (if L.length ≤ 1000 then 0 else 3) := by
    have : autL A B = L := by unfold autL; rw [hL]
    unfold autRes autCode
    rw [HP0.out, this]; simp
  rw [hL] at HCall
  have HRes := Lib.hid hr
  clear hr hA hp0 HP0 hB0 f0 hL
  by_cases hlim : L.length ≤ 1000
  · have ht : L.take 1001 = L := List.take_of_length_le (by omega)
    rw [ht] at HCall
    have HLim := Lib.hid hlim
    go_wp2_with fail
    refine HCall.out.mono ?_; rintro e w2 ⟨r, rfl, hr, hb2⟩
    obtain ⟨ra, rc, rfl, _⟩ := hr.rows.shape
    have HR := Lib.hid (hr.mono HB.out.size)
    have HB2 := Lib.hid (bb HB.out hb2)
    have hg : ¬ ((1000 : Int) < (L.length : Int)) := by omega
    clear hr hb2 ht
    go_wp2
    go_ret2
    exact ⟨.slice ra L.length rc, by rw [HRes.out.2, if_pos HLim.out]; rfl, by rw [HRes.out.1, if_pos HLim.out]; exact HR.out, HB2.out⟩
  · have ht : (L.take 1001).length = 1001 := by simp; omega
    have HLim := Lib.hid hlim
    go_wp2_with fail
    refine HCall.out.mono ?_; rintro e w2 ⟨r, rfl, hr, hb2⟩
    obtain ⟨ra, rc, hrv, _⟩ := hr.rows.shape
    rw [ht] at hrv
    subst hrv
    have HB2 := Lib.hid (bb HB.out hb2)
    clear hr hb2 ht hlim
    go_wp2
    go_ret2
    exact ⟨.slice none 0 0, by rw [HRes.out.2, if_neg HLim.out]; rfl, by rw [HRes.out.1, if_neg HLim.out]; exact OwnRows.nil _ _, HB2.out⟩
theorem total_rows (l : List (List Int)) (n : Nat) (h : ∀ x ∈ l, x.length = n) : total l = l.length * n := by
  induction l with
  | nil => simp [total]
  | cons a l ih =>
    have h1 := h a (by simp)
    have h2 := ih fun x hx => h x (by simp [hx])
    simp [total, h1, h2, Nat.add_mul]; omega
theorem autRes_total (A B : List (List Int)) : total (autRes A B) ≤ 12000 := by
  unfold autRes
  split
  · rename_i hp
    have hl := isTab_len (isPM_parts hp).1
    split
    · rename_i h
      rw [total_rows _ A.length (fun x hx => by unfold autL at hx; exact (mem_isoQ.1 hx).1.1.2)]
      have := Nat.mul_le_mul h hl.2
      omega
    · simp [total]
  · simp [total]

theorem cut_waysSolutionAutomorphisms {p G : Prop} (k : Hid p → G) (h : p) : G := k (Lib.hid h)
set_option maxHeartbeats 16000000 in
theorem law_SolutionAutomorphisms (v0 u0 : Value) (x0 y0 : List (List Int)) (w : World) (hr0 : Rows w v0 x0) (hr0' : Rows w u0 y0) :
    Calls Try.prog 4 #[.agg #[v0, u0]] w (RVal w (.bool true)) := by
  obtain ⟨a0, c0, rfl, hc0, hm0⟩ := hr0.shape
  obtain ⟨a0s, c0s, rfl, hc0s, hm0s⟩ := hr0'.shape
  have hx0 : Sol w (.slice a0 x0.length c0) (.slice a0s y0.length c0s) x0 y0 := ⟨hr0, hr0'⟩
  clear hr0 hr0'
  go_enter Try.func4, Try.ntmps4
  go_wp2_with fail
  obtain ⟨bx0, BW, hsz0⟩ := boxes1 w [.slice a0 x0.length c0, .slice a0s y0.length c0s] 24
  obtain ⟨W0, hW0⟩ : ∃ W, (w.alloc (.cells #[.slice a0 x0.length c0, .slice a0s y0.length c0s] 24)) = W := ⟨_, rfl⟩
  rw [hW0] at bx0 BW hsz0 ⊢
  have hs0 : w.heap.size + 1 ≤ W0.heap.size := by omega
  clear hW0 hsz0
  refine (c_szSolution _ _ _ _ _ _ (hx0.below BW) (by omega) (by omega)).mono ?_; rintro e w1 ⟨rfl, hb1⟩
  have hs1 := hb1.size
  replace BW := bb BW hb1
  replace bx0 := bx0.under hb1
  obtain ⟨cA0, cB0, -, -⟩ := two_cells bx0
  clear hb1
  by_cases hg0 : leftS x0 y0 (1048576) < 0
  case pos =>
    have HB := Lib.hid BW; clear BW
    go_wp2
    go_ret
    exact ⟨rfl, HB.out⟩
  have hf0 := leftS_fits (left := 1048576) (by omega) (by omega) hg0
  have Hf0 := Lib.hid hf0
  clear hf0
  have hf0 : (x0.length ≤ 1048576 ∧ total x0 ≤ 1048576) ∧ (y0.length ≤ 1048576 ∧ total y0 ≤ 1048576) ∧ 0 ≤ leftS x0 y0 (1048576) ∧ leftS x0 y0 (1048576) ≤ 1048576 := ⟨⟨Hf0.out.1.1, Hf0.out.1.2.2⟩, ⟨Hf0.out.2.1.1, Hf0.out.2.1.2.2⟩, Hf0.out.2.2⟩
  have hB0 : total (autRes x0 y0) ≤ 1152921504606846976 := by have := autRes_total x0 y0; omega
  obtain ⟨R0, hR0⟩ : ∃ z, z = autRes x0 y0 := ⟨_, rfl⟩
  obtain ⟨R1, hR1⟩ : ∃ z, z = autCode x0 y0 := ⟨_, rfl⟩
  rw [← hR0] at hB0
  have HR0 := Lib.hid hR0
  clear hR0
  have HR1 := Lib.hid hR1
  clear hR1
  have hd0 : decide (R0 = R0) = true := by simp
  have hk1 : (R1 != R1) = false := by simp
  have hda0 : decide (x0 = x0 ∧ y0 = y0) = true := by simp
  have hq0 : ((1 + (total R0 : Int)) != (1 + (total R0 : Int))) = false := by simp
  go_wp2_with fail
  refine (c_toSolution _ _ _ _ _ (hx0.below BW) hf0.1.1 Hf0.out.1.2.1 hf0.2.1.1 Hf0.out.2.1.2.1).mono ?_; rintro e w2 ⟨t11, t12, rfl, ot1, hb2⟩
  have hs2 := hb2.size
  replace BW := bb BW hb2
  replace bx0 := bx0.under hb2
  clear cA0 cB0
  obtain ⟨cA0, cB0, -, -⟩ := two_cells bx0
  clear hb2
  go_wp2_with fail
  refine (c_specSolutionAutomorphisms _ _ _ _ _ (ot1.sol)).mono ?_
  rw [← HR0.out, ← HR1.out]
  rintro e w3 ⟨s0, rfl, os0r, hb3⟩
  have hs3 := hb3.size
  replace ot1 := ot1.under hb3
  replace BW := bb BW hb3
  replace bx0 := bx0.under hb3
  clear cA0 cB0
  obtain ⟨cA0, cB0, -, -⟩ := two_cells bx0
  clear ot1
  have hS := os0r.rows
  clear os0r
  have BS : Below w3.heap.size w3 w3 := Below.refl _ _
  clear hb3
  go_wp2_with fail
  refine (c_toSolution _ _ _ _ _ (hx0.below BW) hf0.1.1 Hf0.out.1.2.1 hf0.2.1.1 Hf0.out.2.1.2.1).mono ?_; rintro e w4 ⟨z01, z02, rfl, oz0, hb4⟩
  have hs4 := hb4.size
  replace BW := bb BW hb4
  replace BS := bb BS hb4
  replace bx0 := bx0.under hb4
  clear cA0 cB0
  obtain ⟨cA0, cB0, -, -⟩ := two_cells bx0
  clear hb4
  obtain ⟨saz0, scz0, hvz0, _, _⟩ := oz0.sol.1.shape
  subst hvz0
  obtain ⟨sbz0, sdz0, hvz0, _, _⟩ := oz0.sol.2.shape
  subst hvz0
  obtain ⟨cA0z, cB0z, -, -⟩ := two_cells (bx0.alloc (.cells #[.slice saz0 x0.length scz0, .slice sbz0 y0.length sdz0] 29))
  go_wp2_with fail
  clear cA0z cB0z
  obtain ⟨bxz0, hb5, hz5⟩ := boxes1 w4 [.slice saz0 x0.length scz0, .slice sbz0 y0.length sdz0] 29
  obtain ⟨w5, hW5⟩ : ∃ W, w4.alloc (.cells #[.slice saz0 x0.length scz0, .slice sbz0 y0.length sdz0] 29) = W := ⟨_, rfl⟩
  rw [hW5] at bxz0 hb5 hz5 ⊢
  have hs5 : w4.heap.size + 1 ≤ w5.heap.size := by omega
  clear hW5 hz5
  replace oz0 := oz0.under hb5
  replace BW := bb BW hb5
  replace BS := bb BS hb5
  replace bx0 := bx0.under hb5
  clear cA0 cB0
  obtain ⟨cA0, cB0, -, -⟩ := two_cells bx0
  obtain ⟨cAz0, cBz0, -, -⟩ := two_cells bxz0
  clear hb5
  refine (c_SolutionAutomorphisms _ _ _ _ _ (oz0.sol)).mono ?_
  rw [← HR0.out, ← HR1.out]
  rintro e w6 ⟨g0, rfl, og0r, hb6⟩
  have hs6 := hb6.size
  replace oz0 := oz0.under hb6
  replace BW := bb BW hb6
  replace BS := bb BS hb6
  replace bx0 := bx0.under hb6
  clear cA0 cB0
  obtain ⟨cA0, cB0, -, -⟩ := two_cells bx0
  replace bxz0 := bxz0.under hb6
  clear cAz0 cBz0
  obtain ⟨cAz0, cBz0, -, -⟩ := two_cells bxz0
  have og0 := og0r.inn
  clear og0r
  clear hb6
  go_wp2_with fail
  refine (c_eqR _ _ _ _ _ (og0.rows) (hS.below BS)).mono ?_; rintro e w7 ⟨rfl, hb7⟩
  have hs7 := hb7.size
  replace oz0 := oz0.under hb7
  replace og0 := og0.under hb7
  replace BW := bb BW hb7
  replace BS := bb BS hb7
  replace bx0 := bx0.under hb7
  clear cA0 cB0
  obtain ⟨cA0, cB0, -, -⟩ := two_cells bx0
  replace bxz0 := bxz0.under hb7
  clear cAz0 cBz0
  obtain ⟨cAz0, cBz0, -, -⟩ := two_cells bxz0
  clear hb7
  go_wp2_with fail
  have BWd := BW.drew
  have oz0d := oz0.keep ((Keep.refl (fun _ => False) w7).drew) (fun _ _ _ h => h)
  have bx0d := bx0.drew
  have bxz0d := bxz0.drew
  go_region_held3 (fun w' => w'.cell? ⟨w.heap.size, 0, none⟩ = some (.slice a0 x0.length c0) ∧ w'.cell? ⟨w.heap.size, 1, none⟩ = some (.slice a0s y0.length c0s) ∧ w'.cell? ⟨w4.heap.size, 0, none⟩ = some (.slice saz0 x0.length scz0) ∧ w'.cell? ⟨w4.heap.size, 1, none⟩ = some (.slice sbz0 y0.length sdz0))
    (first | go_keep | exact ⟨(two_cells (bx0d.under hb8)).1, (two_cells (bx0d.under hb8)).2.1, (two_cells (bxz0d.under hb8)).1, (two_cells (bxz0d.under hb8)).2.1⟩ | exact ⟨(two_cells ((bx0d.under hb8).under hb9)).1, (two_cells ((bx0d.under hb8).under hb9)).2.1, (two_cells ((bxz0d.under hb8).under hb9)).1, (two_cells ((bxz0d.under hb8).under hb9)).2.1⟩)
    ((first | (go_at_call 8; refine (c_toSolution _ _ _ _ _ (hx0.below BWd) hf0.1.1 Hf0.out.1.2.1 hf0.2.1.1 Hf0.out.2.1.2.1).mono ?_; rintro e w8 ⟨t81, t82, rfl, ot8, hb8⟩) | (go_at_call 11; refine (c_eqS _ _ _ _ _ _ _ _ _ (oz0d.under hb8).sol ot8.sol).mono ?_; rintro e w9 ⟨rfl, hb9⟩)))
  have hb9z : Below w7.heap.size w7 w9 := (Below.refl _ _).drew.trans (bb hb8 hb9)
  have hs9 : w7.heap.size ≤ w9.heap.size := hb9z.size
  replace oz0 := oz0.under hb9z
  replace og0 := og0.under hb9z
  replace BW := bb BW hb9z
  replace BS := bb BS hb9z
  replace bx0 := bx0.under hb9z
  clear cA0 cB0
  obtain ⟨cA0, cB0, -, -⟩ := two_cells bx0
  replace bxz0 := bxz0.under hb9z
  clear cAz0 cBz0
  obtain ⟨cAz0, cBz0, -, -⟩ := two_cells bxz0
  clear BWd oz0d bx0d bxz0d ot8 hb8 hb9 hb9z
  go_wp2_with fail
  refine (c_markS _ _ _ _ _ _ _ _ oz0 (by omega) (by omega) (by omega)).mono ?_; rintro e w10 ⟨rfl, oz0m, hkw10⟩
  have hs10 := hkw10.size
  replace og0 := og0.keep hkw10 (fun b p q r => by omega)
  replace bx0 := bx0.of_block (hkw10.block _ (by omega) (by omega))
  clear cA0 cB0
  obtain ⟨cA0, cB0, -, -⟩ := two_cells bx0
  replace bxz0 := bxz0.of_block (hkw10.block _ (by omega) (by omega))
  clear cAz0 cBz0
  obtain ⟨cAz0, cBz0, -, -⟩ := two_cells bxz0
  replace BW := below_keep BW hkw10 (by omega)
  replace BS := below_keep BS hkw10 (by omega)
  clear oz0
  have oz0 := oz0m
  clear oz0m hkw10
  clear oz0
  go_wp2_with fail
  refine (c_eqR _ _ _ _ _ (og0.rows) (hS.below BS)).mono ?_; rintro e w11 ⟨rfl, hb11⟩
  have hs11 := hb11.size
  replace og0 := og0.under hb11
  replace BW := bb BW hb11
  replace BS := bb BS hb11
  replace bx0 := bx0.under hb11
  clear cA0 cB0
  obtain ⟨cA0, cB0, -, -⟩ := two_cells bx0
  replace bxz0 := bxz0.under hb11
  clear cAz0 cBz0
  obtain ⟨cAz0, cBz0, -, -⟩ := two_cells bxz0
  clear hb11
  go_wp2_with fail
  refine (c_markR _ _ _ _ _ _ og0 (by omega) (by omega)).mono ?_; rintro e w12 ⟨rfl, og0m, hkw12⟩
  have hs12 := hkw12.size
  replace bx0 := bx0.of_block (hkw12.block _ (by omega) (by omega))
  clear cA0 cB0
  obtain ⟨cA0, cB0, -, -⟩ := two_cells bx0
  replace bxz0 := bxz0.of_block (hkw12.block _ (by omega) (by omega))
  clear cAz0 cBz0
  obtain ⟨cAz0, cBz0, -, -⟩ := two_cells bxz0
  replace BW := below_keep BW hkw12 (by omega)
  replace BS := below_keep BS hkw12 (by omega)
  clear og0
  have og0 := og0m
  clear og0m hkw12
  go_wp2_with fail
  refine (c_heldR _ _ _ _ (og0.rows) (by omega) (by omega)).mono ?_; rintro e w13 ⟨rfl, hb13⟩
  have hs13 := hb13.size
  replace og0 := og0.under hb13
  replace BW := bb BW hb13
  replace BS := bb BS hb13
  replace bx0 := bx0.under hb13
  clear cA0 cB0
  obtain ⟨cA0, cB0, -, -⟩ := two_cells bx0
  replace bxz0 := bxz0.under hb13
  clear cAz0 cBz0
  obtain ⟨cAz0, cBz0, -, -⟩ := two_cells bxz0
  clear hb13
  go_wp2_with fail
  refine (c_toSolution _ _ _ _ _ (hx0.below BW) hf0.1.1 Hf0.out.1.2.1 hf0.2.1.1 Hf0.out.2.1.2.1).mono ?_; rintro e w14 ⟨t21, t22, rfl, ot2, hb14⟩
  have hs14 := hb14.size
  replace og0 := og0.under hb14
  replace BW := bb BW hb14
  replace BS := bb BS hb14
  replace bx0 := bx0.under hb14
  clear cA0 cB0
  obtain ⟨cA0, cB0, -, -⟩ := two_cells bx0
  replace bxz0 := bxz0.under hb14
  clear cAz0 cBz0
  obtain ⟨cAz0, cBz0, -, -⟩ := two_cells bxz0
  clear hb14
  go_wp2_with fail
  refine (c_SolutionAutomorphisms _ _ _ _ _ (ot2.sol)).mono ?_
  rw [← HR0.out, ← HR1.out]
  rintro e w15 ⟨h0, rfl, oh0r, hb15⟩
  have hs15 := hb15.size
  replace og0 := og0.under hb15
  replace ot2 := ot2.under hb15
  replace BW := bb BW hb15
  replace BS := bb BS hb15
  replace bx0 := bx0.under hb15
  clear cA0 cB0
  obtain ⟨cA0, cB0, -, -⟩ := two_cells bx0
  replace bxz0 := bxz0.under hb15
  clear cAz0 cBz0
  obtain ⟨cAz0, cBz0, -, -⟩ := two_cells bxz0
  have oh0 := oh0r.inn
  clear oh0r
  clear ot2
  clear hb15
  go_wp2_with fail
  refine (c_eqR _ _ _ _ _ (oh0.rows) (hS.below BS)).mono ?_; rintro e w16 ⟨rfl, hb16⟩
  have hs16 := hb16.size
  replace og0 := og0.under hb16
  replace oh0 := oh0.under hb16
  replace BW := bb BW hb16
  replace BS := bb BS hb16
  replace bx0 := bx0.under hb16
  clear cA0 cB0
  obtain ⟨cA0, cB0, -, -⟩ := two_cells bx0
  replace bxz0 := bxz0.under hb16
  clear cAz0 cBz0
  obtain ⟨cAz0, cBz0, -, -⟩ := two_cells bxz0
  clear hb16
  go_wp2_with fail
  refine (c_heldR _ _ _ _ (og0.rows) (by omega) (by omega)).mono ?_; rintro e w17 ⟨rfl, hb17⟩
  have hs17 := hb17.size
  replace og0 := og0.under hb17
  replace oh0 := oh0.under hb17
  replace BW := bb BW hb17
  replace BS := bb BS hb17
  replace bx0 := bx0.under hb17
  clear cA0 cB0
  obtain ⟨cA0, cB0, -, -⟩ := two_cells bx0
  replace bxz0 := bxz0.under hb17
  clear cAz0 cBz0
  obtain ⟨cAz0, cBz0, -, -⟩ := two_cells bxz0
  clear hb17
  have HB := Lib.hid BW
  clear BW BS hS og0 oh0 hx0 bx0 bxz0
  go_wp2
  go_ret
  exact ⟨rfl, HB.out⟩
end Go.Proofs.Ytgmhnjccgldddaa
