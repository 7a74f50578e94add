/-
  Texts of the proof of FnSolutions, joined: draws of solutions, what the calls leave, the law's walk.
-/
import Derived.Test.YtkcobfkmeaakoaaSO1
import Derived.Test.YtkcobfkmeaakoaaI6
import Derived.Test.YtkcobfkmeaakoaaLTables
import Derived.StillTailTactics
import Derived.Deep.RegionHeld3
import Derived.Test.YtkcobfkmeaakoaaSO2
import Derived.Test.YtkcobfkmeaakoaaP5
import Derived.Test.YtkcobfkmeaakoaaI13
import Derived.Test.YtkcobfkmeaakoaaI2b
import Derived.Test.YtkcobfkmeaakoaaI12
import Derived.Test.YtkcobfkmeaakoaaI3
namespace Go.Proofs.Ytkcobfkmeaakoaa
set_option linter.unusedVariables false
set_option linter.unusedSimpArgs false
open Go.RowKit

def unG (A C : List (List Int)) (z : Int → Int → Int) (x y : Int) : Int :=
  if x < A.length ∧ y < A.length then val2 A x y else if (A.length : Int) ≤ x ∧ (A.length : Int) ≤ y then A.length + val2 C (x - A.length) (y - A.length) else z x y
def unTA (A C : List (List Int)) : List (List Int) := tabOf (A.length + C.length) (unG A C fun _ y => y)
def unTB (A C : List (List Int)) : List (List Int) := tabOf (A.length + C.length) (unG A C fun x _ => x)
def unOk (A B C D : List (List Int)) : Bool := isPM A B && isPM C D
def unSm (A C : List (List Int)) : Bool := decide (A.length + C.length ≤ 12)
def unRA (A B C D : List (List Int)) : List (List Int) := if unOk A B C D && unSm A C then unTA A C else []
def unRB (A B C D : List (List Int)) : List (List Int) := if unOk A B C D && unSm A C then unTB B D else []
def unCode (A B C D : List (List Int)) : Int := if unOk A B C D then (if unSm A C then 0 else 3) else 1
theorem unOk_of {A B C D : List (List Int)} (h1 : isPM A B = true) (h2 : isPM C D = true) : unOk A B C D = true := by simp [unOk, h1, h2]


theorem c_solutionByI (N : Int) (n : Nat) (hNn : N = n) (f : FuncId) (lb : Array Value) (g h : Int → Int → Int) (w : World) (hn : n ≤ 1048576) (eg : ∀ args w, (callFunc f args).run Try.prog w = .ok (.enter f args) w) (hf : Pays3 w f lb n g h) :
    Calls Try.prog 86 #[.int .i64 N, .func (.func f) #[] lb] w (RSol w (tabOf n g) (tabOf n h)) := by
  subst hNn
  exact c_solutionBy n f lb g h w hn eg hf


set_option maxRecDepth 100000 in
set_option maxHeartbeats 4000000 in
theorem c_l02Union (v0 u0 : Value) (A B : List (List Int)) (v1 u1 : Value) (C D : List (List Int)) (w : World) (hA : Sol w v0 u0 A B) (hC : Sol w v1 u1 C D) (hp : isPM A B = true) (hq : isPM C D = true) (hsm : A.length + C.length ≤ 12) :
    Calls Try.prog 200 #[.agg #[v0, u0], .agg #[v1, u1]] w (RSolR w (unTA A C) (unTB B D)) := by
  obtain ⟨n0, b0, o0, c0, rb0, ro0, rc0, b0s, o0s, c0s, rb0s, ro0s, rc0s, rfl, rfl, hl0, hl0s, hn0, hx0, hc0, hm0, hc0s, hm0s, t0, t0s⟩ := hA.tabs hp
  have HL0 := Lib.hid hl0; clear hl0
  have HL0s := Lib.hid hl0s; clear hl0s
  obtain ⟨n1, b1, o1, c1, rb1, ro1, rc1, b1s, o1s, c1s, rb1s, ro1s, rc1s, rfl, rfl, hl1, hl1s, hn1, hx1, hc1, hm1, hc1s, hm1s, t1, t1s⟩ := hC.tabs hq
  have HL1 := Lib.hid hl1; clear hl1
  have HL1s := Lib.hid hl1s; clear hl1s
  go_enter Try.func200, Try.ntmps200
  go_wp2
  obtain ⟨f0, f1, f2, hW0, hsz⟩ := boxes3 w [.slice (some ⟨b0, o0, none⟩) n0 c0, .slice (some ⟨b0s, o0s, none⟩) n0 c0s] [.slice (some ⟨b1, o1, none⟩) n1 c1, .slice (some ⟨b1s, o1s, none⟩) n1 c1s] [.slice none 0 0, .slice none 0 0] 27 27 27
  obtain ⟨W0, hW⟩ : ∃ W, (((w.alloc (.cells #[.slice (some ⟨b0, o0, none⟩) n0 c0, .slice (some ⟨b0s, o0s, none⟩) n0 c0s] 27)).alloc (.cells #[.slice (some ⟨b1, o1, none⟩) n1 c1, .slice (some ⟨b1s, o1s, none⟩) n1 c1s] 27)).alloc (.cells #[.slice none 0 0, .slice none 0 0] 27)) = W := ⟨_, rfl⟩
  rw [hW] at f0 f1 f2 hW0 hsz ⊢
  have HSZ := Lib.hid hsz
  clear hW hsz
  obtain ⟨cA0, cB0, -, -⟩ := two_cells f0
  obtain ⟨cA1, cB1, -, -⟩ := two_cells f1
  obtain ⟨cA2, cB2, -, -⟩ := two_cells f2
  replace t0 := t0.below hW0; replace t0s := t0s.below hW0
  replace t1 := t1.below hW0; replace t1s := t1s.below hW0
  rw [HL0.out, HL1.out] at hsm
  obtain ⟨N, hN⟩ : ∃ N, N = n0 + n1 := ⟨_, rfl⟩
  have hNI : (n0 : Int) + n1 = N := by omega
  obtain ⟨gA, hgA⟩ : ∃ g : Int → Int → Int, g = unG A C fun _ y => y := ⟨_, rfl⟩
  obtain ⟨gB, hgB⟩ : ∃ g : Int → Int → Int, g = unG B D fun x _ => x := ⟨_, rfl⟩
  have hRA : unTA A C = tabOf N gA := by unfold unTA; rw [HL0.out, HL1.out, hgA, hN]
  have hRB : unTB B D = tabOf N gB := by unfold unTB; rw [HL0s.out, HL1s.out, hgB, hN]
  have HRA := Lib.hid hRA; have HRB := Lib.hid hRB
  have HGA : Hid (∀ x y : Int, gA x y = if x < n0 ∧ y < n0 then val2 A x y else if (n0 : Int) ≤ x ∧ (n0 : Int) ≤ y then n0 + val2 C (x - n0) (y - n0) else y) := Lib.hid (by rw [hgA]; intro x y; unfold unG; rw [HL0.out])
  have HGB : Hid (∀ x y : Int, gB x y = if x < n0 ∧ y < n0 then val2 B x y else if (n0 : Int) ≤ x ∧ (n0 : Int) ≤ y then n0 + val2 D (x - n0) (y - n0) else x) := Lib.hid (by rw [hgB]; intro x y; unfold unG; rw [HL0s.out])
  have HN := Lib.hid hN
  rw [← hN] at hsm
  clear hgA hgB hRA hRB hN hA hC hp hq
  go_quiet (fail)
  rename_i nq
  have hdn : Below W0.heap.size W0 (W0.drewN nq) := below_drewN (Below.refl _ _) nq
  replace f0 := f0.under hdn; replace f1 := f1.under hdn; replace f2 := f2.under hdn; replace hW0 := bb hW0 hdn
  have HT0 := Lib.hid (t0.below hdn); have HT0s := Lib.hid (t0s.below hdn); have HT1 := Lib.hid (t1.below hdn); have HT1s := Lib.hid (t1s.below hdn)
  have HSV : Hid ((W0.drewN nq).heap.size = w.heap.size + 1 + 1 + 1) := HSZ.out
  generalize W0.drewN nq = V at f0 f1 f2 hW0 HT0 HT0s HT1 HT1s HSV ⊢
  have HF2lt := Lib.hid f2.lt
  have hV := hW0
  clear t0 t0s t1 t1s cA0 cB0 cA1 cB1 cA2 cB2 hdn HSZ hW0
  go_wp2
  have hB1 : Below V.heap.size V (V.alloc (.cells #[.slice none 0 0, .slice none 0 0] 27)) := (Below.refl _ _).alloc (Nat.le_refl _) _
  have hout := Blk.new V [.slice none 0 0, .slice none 0 0] 27
  have hs1 : (V.alloc (.cells #[.slice none 0 0, .slice none 0 0] 27)).heap.size = V.heap.size + 1 := by simp
  have hqq : V.heap.size = V.heap.size := rfl
  change Blk (V.alloc (.cells #[.slice none 0 0, .slice none 0 0] 27)) _ _ _ at hout
  obtain ⟨W1, hW1⟩ : ∃ W, V.alloc (.cells #[.slice none 0 0, .slice none 0 0] 27) = W := ⟨_, rfl⟩
  rw [hW1] at hB1 hout hs1 ⊢
  clear hW1
  have hout' : Blk W1 (V.heap.size) 27 [.slice none 0 0, .slice none 0 0] := by rw [← hqq]; exact hout
  have HOut := Lib.hid (Out2.start (lo := V.heap.size + 1) (q := V.heap.size) (w := W1) (by omega) (by omega) hout')
  have HB1 := Lib.hid hB1; have HWW := Lib.hid hV; have HS1 := Lib.hid hs1
  have HQLE : Hid (V.heap.size ≤ V.heap.size) := Lib.hid (by omega)
  clear hB1 hout hout' hs1 hV hqq
  go_loopw [8, 9, 10, 11] (fun a _ _ _ wr => ∃ (k : Nat) (va vb : Value), k ≤ N ∧ a = .int .i64 k ∧ Hid (Below V.heap.size V wr) ∧ Hid (Out2 (V.heap.size + 1) wr.heap.size (V.heap.size) wr va vb ((tabOf N gA).take k) ((tabOf N gB).take k))) (fun a _ _ _ _ => N - (intOf a).toNat)
  case atStart => exact ⟨0, _, _, Nat.zero_le _, rfl, HB1, HOut⟩
  case round =>
    clear HB1 HOut
    obtain ⟨k, va, vb, hk, rfl, HB, HO⟩ := hrel
    obtain ⟨wo, rfl⟩ : ∃ wo : World, wo = wr := ⟨_, rfl⟩
    by_cases hlt : k < N
    · go_wp2
      go_loopw [9, 10, 11] (fun s t y wi => ∃ (j : Nat) (sa : Option Addr) (sc : Nat) (ta : Option Addr) (tc : Nat), j ≤ N ∧ y = .int .i64 j ∧ s = .slice sa j sc ∧ t = .slice ta j tc ∧ Hid (Below wo.heap.size wo wi) ∧ Hid (Two wo.heap.size wi (.slice sa j sc) (.slice ta j tc) ((rowOf N (gA k)).take j) ((rowOf N (gB k)).take j))) (fun _ _ y _ => N - (intOf y).toNat)
      case atStart => exact ⟨0, _, _, _, _, Nat.zero_le _, rfl, rfl, rfl, Lib.hid (((Below.refl wo.heap.size wo).alloc (Nat.le_refl _) _).alloc (by simp) _), Lib.hid (Two.made0 wo)⟩
      case round =>
        obtain ⟨j, sa, sc, ta, tc, hj, rfl, rfl, rfl, Hb, HTw⟩ := hrel
        obtain ⟨wi, rfl⟩ : ∃ wi : World, wi = wr := ⟨_, rfl⟩
        by_cases hlj : j < N
        · have hB2 := bb HB.out Hb.out
          have hkN : (k : Int) < N := by omega
          have hjN : (j : Int) < N := by omega
          have hNe := HN.out
          by_cases h1 : k < n0 ∧ j < n0
          · have i1 : (k : Int) < n0 := by omega
            have i2 : (j : Int) < n0 := by omega
            obtain ⟨x, hx⟩ : ∃ x : Int, x = k := ⟨_, rfl⟩
            obtain ⟨y, hy⟩ : ∃ x : Int, x = j := ⟨_, rfl⟩
            have d1 : 0 ≤ x := by omega
            have d2 : x < n0 := by omega
            have d3 : 0 ≤ y := by omega
            have d4 : y < n0 := by omega
            have HEA : Hid (gA k j = val2 A k j) := Lib.hid (by rw [HGA.out, if_pos ⟨i1, i2⟩])
            have HEB : Hid (gB k j = val2 B k j) := Lib.hid (by rw [HGB.out, if_pos ⟨i1, i2⟩])
            subst hx hy
            have d5 : k < n0 := h1.1
            have d6 : j < n0 := h1.2
            clear h1 hNe
            have HSA : Hid (∀ w' : World, Below V.heap.size V w' → w'.cell? ⟨w.heap.size, 0, none⟩ = some (.slice (some ⟨b0, o0, none⟩) n0 c0) ∧ w'.cell? ⟨b0, o0 + k, none⟩ = some (.slice (some ⟨rb0 k, ro0 k, none⟩) n0 (rc0 k)) ∧ w'.cell? ⟨rb0 k, ro0 k + j, none⟩ = some (.int .i64 (val2 A k j))) := Lib.hid (by
              intro w' hb
              have T0 := HT0.out.below hb
              exact ⟨(two_cells (f0.under hb)).1, T0.row _ d5, T0.val _ _ d5 d6⟩)
            have HSB : Hid (∀ w' : World, Below V.heap.size V w' → w'.cell? ⟨w.heap.size, 1, none⟩ = some (.slice (some ⟨b0s, o0s, none⟩) n0 c0s) ∧ w'.cell? ⟨b0s, o0s + k, none⟩ = some (.slice (some ⟨rb0s k, ro0s k, none⟩) n0 (rc0s k)) ∧ w'.cell? ⟨rb0s k, ro0s k + j, none⟩ = some (.int .i64 (val2 B k j))) := Lib.hid (by
              intro w' hb
              have T0 := HT0s.out.below hb
              exact ⟨(two_cells (f0.under hb)).2.1, T0.row _ d5, T0.val _ _ d5 d6⟩)
            obtain ⟨q1, q2, q3⟩ := HSA.out wi hB2
            clear hB2
            have HX1 := Lib.hid (HTw.out.under (Below.refl wi.heap.size wi))
            have HZ1 := Lib.hid (bb Hb.out (Below.refl wi.heap.size wi))
            have hl1 : ((rowOf N (gA k)).take j).length = j := by simp; omega
            have hl2 : ((rowOf N (gB k)).take j).length = j := by simp; omega
            have HL1a := Lib.hid hl1; have HL2a := Lib.hid hl2
            have HN1a : Hid (((rowOf N (gA k)).take j).length ≤ 1099511627776) := by show _ ≤ _; rw [hl1]; omega
            have HN2a : Hid (((rowOf N (gB k)).take j).length ≤ 1099511627776) := by show _ ≤ _; rw [hl2]; omega
            have HS1a : Hid (wo.heap.size ≤ (wi).heap.size) := Lib.hid HZ1.out.size
            clear hl1 hl2
            go_wp2_with (at_builtin; go_loud (first | (refine wpList_app_int2 wo.heap.size (wi) _ ((rowOf N (gA k)).take j) _ _ _ wi.heap.size rfl rfl rfl rfl HX1.out.a rfl HN1a.out HS1a.out ?_; intro g c1 w1 hown1 hk1 hg1; rw [HL1a.out] at hown1; rw [HL1a.out]; have HT1 := Lib.hid (HX1.out.app1 hown1 hk1 hg1); have HZ2 := Lib.hid (HX1.out.a.frame HZ1.out (Nat.le_refl _) HS1a.out hk1); clear hown1 hk1 hg1; have hB3 := bb HB.out HZ2.out; clear q1 q2 q3; obtain ⟨q1, q2, q3⟩ := HSB.out w1 hB3; have HX2 := HT1; have HZ3 := HZ2; have HS2a : Hid (wo.heap.size ≤ w1.heap.size) := Lib.hid HZ3.out.size; clear hB3) | (refine wpList_app_int2 wo.heap.size w1 _ ((rowOf N (gB k)).take j) _ _ _ w1.heap.size rfl rfl rfl rfl HX2.out.b rfl HN2a.out HS2a.out ?_; intro g2 c2 w4 hown4 hk4 hg4; rw [HL2a.out] at hown4; rw [HL2a.out]; have HT2 := Lib.hid (HX2.out.app2 hown4 hk4 hg4); have HZ4 := Lib.hid (HX2.out.b.frame HZ3.out (Nat.le_refl _) HS2a.out hk4); clear hown4 hk4 hg4)))
            go_roundw
            case rel =>
              refine ⟨j + 1, some ⟨g, 0, none⟩, c1, some ⟨g2, 0, none⟩, c2, by omega, by go_num, rfl, rfl, HZ4, ?_⟩
              rw [take_snoc (rowOf N (gA k)) _ (by simpa using hlj), take_snoc (rowOf N (gB k)) _ (by simpa using hlj), nth_rowOf _ _ _ hlj, nth_rowOf _ _ _ hlj, HEA.out, HEB.out]
              exact HT2
            case measure => simp [intOf]; omega
          by_cases h2 : n0 ≤ k ∧ n0 ≤ j
          · have i1 : (n0 : Int) ≤ k := by omega
            have i2 : (n0 : Int) ≤ j := by omega
            have i3 : ¬ ((k : Int) < n0) := by omega
            have i4 : ¬ ((k : Int) < n0 ∧ (j : Int) < n0) := by omega
            obtain ⟨x, hx⟩ : ∃ x : Int, x = (k : Int) - n0 := ⟨_, rfl⟩
            obtain ⟨y, hy⟩ : ∃ x : Int, x = (j : Int) - n0 := ⟨_, rfl⟩
            have d1 : 0 ≤ x := by omega
            have d2 : x < n1 := by omega
            have d3 : 0 ≤ y := by omega
            have d4 : y < n1 := by omega
            have gC := HT1.out.rng _ _ d1 d2 d3 d4; have gD := HT1s.out.rng _ _ d1 d2 d3 d4
            obtain ⟨P, hP⟩ : ∃ P, P = val2 C x y := ⟨_, rfl⟩
            obtain ⟨Q, hQ⟩ : ∃ P, P = val2 D x y := ⟨_, rfl⟩
            have u1 : IntKind.i64.wrap ((k : Int) - n0) = x := by rw [IntKind.wrap_i64]; omega
            have u2 : IntKind.i64.wrap ((j : Int) - n0) = y := by rw [IntKind.wrap_i64]; omega
            have u3 : IntKind.i64.wrap (val2 C x y + n0) = val2 C x y + n0 := by rw [IntKind.wrap_i64]; omega
            have u4 : IntKind.i64.wrap (val2 D x y + n0) = val2 D x y + n0 := by rw [IntKind.wrap_i64]; omega
            have e1 : (k : Int) - n0 = x := hx.symm
            have e2 : (j : Int) - n0 = y := hy.symm
            have HEA : Hid (gA k j = val2 C x y + n0) := Lib.hid (by rw [HGA.out, if_neg i4, if_pos ⟨i1, i2⟩, e1, e2, Int.add_comm])
            have HEB : Hid (gB k j = val2 D x y + n0) := Lib.hid (by rw [HGB.out, if_neg i4, if_pos ⟨i1, i2⟩, e1, e2, Int.add_comm])
            clear h1 h2 hNe i4 hP hQ hx hy
            have HSA : Hid (∀ w' : World, Below V.heap.size V w' → w'.cell? ⟨w.heap.size + 1, 0, none⟩ = some (.slice (some ⟨b1, o1, none⟩) n1 c1) ∧ w'.cell? ⟨b1, o1 + x.toNat, none⟩ = some (.slice (some ⟨rb1 x.toNat, ro1 x.toNat, none⟩) n1 (rc1 x.toNat)) ∧ w'.cell? ⟨rb1 x.toNat, ro1 x.toNat + y.toNat, none⟩ = some (.int .i64 (val2 C x y))) := Lib.hid (by
              intro w' hb
              have T0 := HT1.out.below hb
              exact ⟨(two_cells (f1.under hb)).1, T0.rowi _ d1 d2, T0.vali _ _ d1 d2 d3 d4⟩)
            have HSB : Hid (∀ w' : World, Below V.heap.size V w' → w'.cell? ⟨w.heap.size + 1, 1, none⟩ = some (.slice (some ⟨b1s, o1s, none⟩) n1 c1s) ∧ w'.cell? ⟨b1s, o1s + x.toNat, none⟩ = some (.slice (some ⟨rb1s x.toNat, ro1s x.toNat, none⟩) n1 (rc1s x.toNat)) ∧ w'.cell? ⟨rb1s x.toNat, ro1s x.toNat + y.toNat, none⟩ = some (.int .i64 (val2 D x y))) := Lib.hid (by
              intro w' hb
              have T0 := HT1s.out.below hb
              exact ⟨(two_cells (f1.under hb)).2.1, T0.rowi _ d1 d2, T0.vali _ _ d1 d2 d3 d4⟩)
            obtain ⟨q1, q2, q3⟩ := HSA.out wi hB2
            clear hB2
            have HX1 := Lib.hid (HTw.out.under (Below.refl wi.heap.size wi))
            have HZ1 := Lib.hid (bb Hb.out (Below.refl wi.heap.size wi))
            have hl1 : ((rowOf N (gA k)).take j).length = j := by simp; omega
            have hl2 : ((rowOf N (gB k)).take j).length = j := by simp; omega
            have HL1a := Lib.hid hl1; have HL2a := Lib.hid hl2
            have HN1a : Hid (((rowOf N (gA k)).take j).length ≤ 1099511627776) := by show _ ≤ _; rw [hl1]; omega
            have HN2a : Hid (((rowOf N (gB k)).take j).length ≤ 1099511627776) := by show _ ≤ _; rw [hl2]; omega
            have HS1a : Hid (wo.heap.size ≤ (wi).heap.size) := Lib.hid HZ1.out.size
            clear hl1 hl2
            go_wp2_with (at_builtin; go_loud (first | (refine wpList_app_int2 wo.heap.size (wi) _ ((rowOf N (gA k)).take j) _ _ _ wi.heap.size rfl rfl rfl rfl HX1.out.a rfl HN1a.out HS1a.out ?_; intro g c1 w1 hown1 hk1 hg1; rw [HL1a.out] at hown1; rw [HL1a.out]; have HT1 := Lib.hid (HX1.out.app1 hown1 hk1 hg1); have HZ2 := Lib.hid (HX1.out.a.frame HZ1.out (Nat.le_refl _) HS1a.out hk1); clear hown1 hk1 hg1; have hB3 := bb HB.out HZ2.out; clear q1 q2 q3; obtain ⟨q1, q2, q3⟩ := HSB.out w1 hB3; have HX2 := HT1; have HZ3 := HZ2; have HS2a : Hid (wo.heap.size ≤ w1.heap.size) := Lib.hid HZ3.out.size; clear hB3) | (refine wpList_app_int2 wo.heap.size w1 _ ((rowOf N (gB k)).take j) _ _ _ w1.heap.size rfl rfl rfl rfl HX2.out.b rfl HN2a.out HS2a.out ?_; intro g2 c2 w4 hown4 hk4 hg4; rw [HL2a.out] at hown4; rw [HL2a.out]; have HT2 := Lib.hid (HX2.out.app2 hown4 hk4 hg4); have HZ4 := Lib.hid (HX2.out.b.frame HZ3.out (Nat.le_refl _) HS2a.out hk4); clear hown4 hk4 hg4)))
            go_roundw
            case rel =>
              refine ⟨j + 1, some ⟨g, 0, none⟩, c1, some ⟨g2, 0, none⟩, c2, by omega, by go_num, rfl, rfl, HZ4, ?_⟩
              rw [take_snoc (rowOf N (gA k)) _ (by simpa using hlj), take_snoc (rowOf N (gB k)) _ (by simpa using hlj), nth_rowOf _ _ _ hlj, nth_rowOf _ _ _ hlj, HEA.out, HEB.out]
              exact HT2
            case measure => simp [intOf]; omega
          · have i4 : ¬ ((k : Int) < n0 ∧ (j : Int) < n0) := by omega
            have i5 : ¬ ((n0 : Int) ≤ k ∧ (n0 : Int) ≤ j) := by omega
            have HEA : Hid (gA k j = j) := Lib.hid (by rw [HGA.out, if_neg i4, if_neg i5])
            have HEB : Hid (gB k j = k) := Lib.hid (by rw [HGB.out, if_neg i4, if_neg i5])
            clear hB2
            by_cases h3 : k < n0
            · have i1 : (k : Int) < n0 := by omega
              have i2 : ¬ ((j : Int) < n0) := by omega
              have i3 : ¬ ((n0 : Int) ≤ k) := by omega
              clear h1 h2 h3 i4 i5 hNe
              have HX1 := Lib.hid (HTw.out.under (Below.refl wi.heap.size wi))
              have HZ1 := Lib.hid (bb Hb.out (Below.refl wi.heap.size wi))
              have hl1 : ((rowOf N (gA k)).take j).length = j := by simp; omega
              have hl2 : ((rowOf N (gB k)).take j).length = j := by simp; omega
              have HL1a := Lib.hid hl1; have HL2a := Lib.hid hl2
              have HN1a : Hid (((rowOf N (gA k)).take j).length ≤ 1099511627776) := by show _ ≤ _; rw [hl1]; omega
              have HN2a : Hid (((rowOf N (gB k)).take j).length ≤ 1099511627776) := by show _ ≤ _; rw [hl2]; omega
              have HS1a : Hid (wo.heap.size ≤ (wi).heap.size) := Lib.hid HZ1.out.size
              clear hl1 hl2
              go_wp2_with (at_builtin; go_loud (first | (refine wpList_app_int2 wo.heap.size (wi) _ ((rowOf N (gA k)).take j) _ _ _ wi.heap.size rfl rfl rfl rfl HX1.out.a rfl HN1a.out HS1a.out ?_; intro g c1 w1 hown1 hk1 hg1; rw [HL1a.out] at hown1; rw [HL1a.out]; have HT1 := Lib.hid (HX1.out.app1 hown1 hk1 hg1); have HZ2 := Lib.hid (HX1.out.a.frame HZ1.out (Nat.le_refl _) HS1a.out hk1); clear hown1 hk1 hg1; have hB3 := bb HB.out HZ2.out; have HX2 := HT1; have HZ3 := HZ2; have HS2a : Hid (wo.heap.size ≤ w1.heap.size) := Lib.hid HZ3.out.size; clear hB3) | (refine wpList_app_int2 wo.heap.size w1 _ ((rowOf N (gB k)).take j) _ _ _ w1.heap.size rfl rfl rfl rfl HX2.out.b rfl HN2a.out HS2a.out ?_; intro g2 c2 w4 hown4 hk4 hg4; rw [HL2a.out] at hown4; rw [HL2a.out]; have HT2 := Lib.hid (HX2.out.app2 hown4 hk4 hg4); have HZ4 := Lib.hid (HX2.out.b.frame HZ3.out (Nat.le_refl _) HS2a.out hk4); clear hown4 hk4 hg4)))
              go_roundw
              case rel =>
                refine ⟨j + 1, some ⟨g, 0, none⟩, c1, some ⟨g2, 0, none⟩, c2, by omega, by go_num, rfl, rfl, HZ4, ?_⟩
                rw [take_snoc (rowOf N (gA k)) _ (by simpa using hlj), take_snoc (rowOf N (gB k)) _ (by simpa using hlj), nth_rowOf _ _ _ hlj, nth_rowOf _ _ _ hlj, HEA.out, HEB.out]
                exact HT2
              case measure => simp [intOf]; omega
            · have i1 : ¬ ((k : Int) < n0) := by omega
              have i2 : ¬ ((n0 : Int) ≤ j) := by omega
              have i3 : (n0 : Int) ≤ k := by omega
              clear h1 h2 h3 i4 i5 hNe
              have HX1 := Lib.hid (HTw.out.under (Below.refl wi.heap.size wi))
              have HZ1 := Lib.hid (bb Hb.out (Below.refl wi.heap.size wi))
              have hl1 : ((rowOf N (gA k)).take j).length = j := by simp; omega
              have hl2 : ((rowOf N (gB k)).take j).length = j := by simp; omega
              have HL1a := Lib.hid hl1; have HL2a := Lib.hid hl2
              have HN1a : Hid (((rowOf N (gA k)).take j).length ≤ 1099511627776) := by show _ ≤ _; rw [hl1]; omega
              have HN2a : Hid (((rowOf N (gB k)).take j).length ≤ 1099511627776) := by show _ ≤ _; rw [hl2]; omega
              have HS1a : Hid (wo.heap.size ≤ (wi).heap.size) := Lib.hid HZ1.out.size
              clear hl1 hl2
              go_wp2_with (at_builtin; go_loud (first | (refine wpList_app_int2 wo.heap.size (wi) _ ((rowOf N (gA k)).take j) _ _ _ wi.heap.size rfl rfl rfl rfl HX1.out.a rfl HN1a.out HS1a.out ?_; intro g c1 w1 hown1 hk1 hg1; rw [HL1a.out] at hown1; rw [HL1a.out]; have HT1 := Lib.hid (HX1.out.app1 hown1 hk1 hg1); have HZ2 := Lib.hid (HX1.out.a.frame HZ1.out (Nat.le_refl _) HS1a.out hk1); clear hown1 hk1 hg1; have hB3 := bb HB.out HZ2.out; have HX2 := HT1; have HZ3 := HZ2; have HS2a : Hid (wo.heap.size ≤ w1.heap.size) := Lib.hid HZ3.out.size; clear hB3) | (refine wpList_app_int2 wo.heap.size w1 _ ((rowOf N (gB k)).take j) _ _ _ w1.heap.size rfl rfl rfl rfl HX2.out.b rfl HN2a.out HS2a.out ?_; intro g2 c2 w4 hown4 hk4 hg4; rw [HL2a.out] at hown4; rw [HL2a.out]; have HT2 := Lib.hid (HX2.out.app2 hown4 hk4 hg4); have HZ4 := Lib.hid (HX2.out.b.frame HZ3.out (Nat.le_refl _) HS2a.out hk4); clear hown4 hk4 hg4)))
              go_roundw
              case rel =>
                refine ⟨j + 1, some ⟨g, 0, none⟩, c1, some ⟨g2, 0, none⟩, c2, by omega, by go_num, rfl, rfl, HZ4, ?_⟩
                rw [take_snoc (rowOf N (gA k)) _ (by simpa using hlj), take_snoc (rowOf N (gB k)) _ (by simpa using hlj), nth_rowOf _ _ _ hlj, nth_rowOf _ _ _ hlj, HEA.out, HEB.out]
                exact HT2
              case measure => simp [intOf]; omega
        · obtain rfl : N = j := by omega
          have hTw := HTw.out
          rw [List.take_of_length_le (by simp), List.take_of_length_le (by simp)] at hTw
          have HU := Lib.hid hTw; clear hTw
          have HO2 := Lib.hid (HO.out.under Hb.out)
          have HBi := Lib.hid (bb HB.out Hb.out)
          have hla : ((tabOf N gA).take k).length = k := by simp; omega
          have hlb : ((tabOf N gB).take k).length = k := by simp; omega
          have HNA : Hid (((tabOf N gA).take k).length ≤ 1099511627776) := by show _ ≤ _; rw [hla]; omega
          have HNB : Hid (((tabOf N gB).take k).length ≤ 1099511627776) := by show _ ≤ _; rw [hlb]; omega
          have HLA := Lib.hid hla; have HLB := Lib.hid hlb; clear hla hlb
          have HLO : Hid ((V.heap.size + 1) ≤ wi.heap.size) := Nat.le_trans HO2.out.lm HO2.out.mw
          obtain ⟨cA, cB, cF, cG⟩ := two_cells HO2.out.blk
          go_wp2_with (at_builtin; go_loud (first
            | (refine wpList_app_row2 (V.heap.size + 1) wo.heap.size wi va ((tabOf N gA).take k) _ (rowOf N (gA k)) _ _ rfl rfl rfl HO2.out.a HU.out.a rfl HNA.out HO2.out.lm HLO.out ?_; intro g c1 w1 hown1 hk1 hg1; rw [HLA.out] at hown1; rw [HLA.out]; have hq1 := HO2.out.blkq hk1; obtain ⟨dA, dB, dF, dG⟩ := two_cells hq1; have hh := HO2.out.app1 hown1 hk1 hg1; have hv := HO2.out.row1 HU.out.b hk1 (.slice (some ⟨g, 0, none⟩) (k + 1) c1); have hf := HO2.out.frame1 HBi.out HQLE.out hk1 (.slice (some ⟨g, 0, none⟩) (k + 1) c1); obtain ⟨eA, eB, eF, eG⟩ := two_cells hh.blk; have HH := Lib.hid hh; have HV := Lib.hid hv; have HF1 := Lib.hid hf; clear hown1 hk1 hg1 hq1 hh hv hf)
            | (refine wpList_app_row2s (V.heap.size + 1) wo.heap.size (w1.setCell ⟨(V.heap.size), 0, none⟩ (.slice (some ⟨g, 0, none⟩) (k + 1) c1)) vb ((tabOf N gB).take k) _ (rowOf N (gB k)) _ _ w1.heap.size (by simp [World.setCell]) rfl rfl rfl HH.out.b HV.out rfl HNB.out HH.out.lm (Nat.le_trans HH.out.lm HH.out.mw) ?_; intro g2 c2 w4 hown4 hk4 hg4; rw [HLB.out] at hown4; rw [HLB.out]; have hq4 := HH.out.blkq hk4; clear dA dB dF dG eA eB eF eG cA cB cF cG; obtain ⟨dA, dB, dF, dG⟩ := two_cells hq4; have HH2 := Lib.hid (HH.out.app2 hown4 hk4 hg4); have HF2 := Lib.hid (HH.out.frame2 HF1.out HQLE.out hk4 (.slice (some ⟨g2, 0, none⟩) (k + 1) c2)); clear hown4 hk4 hg4 hq4)))
          go_roundw
          case rel =>
            refine ⟨k + 1, .slice (some ⟨g, 0, none⟩) (k + 1) c1, .slice (some ⟨g2, 0, none⟩) (k + 1) c2, by omega, by go_num, HF2, ?_⟩
            rw [take_snoc_row (tabOf N gA) _ (by simpa using hlt), take_snoc_row (tabOf N gB) _ (by simpa using hlt), row_tabOf _ _ _ hlt, row_tabOf _ _ _ hlt]
            exact HH2
          case measure => simp [intOf]; omega
    · obtain rfl : N = k := by omega
      have hO := HO.out
      rw [List.take_of_length_le (by simp), List.take_of_length_le (by simp)] at hO
      obtain ⟨ra1, rc1, hva, _⟩ := hO.a.out.rows.shape
      obtain ⟨ra2, rc2, hvb, _⟩ := hO.b.out.rows.shape
      rw [tabOf_length] at hva hvb
      subst hva hvb
      obtain ⟨y0, y1, y2, y3⟩ := two_cells hO.blk
      obtain ⟨z0, z1, z2, z3⟩ := two_cells (f2.under HB.out)
      have HO' := Lib.hid hO; clear hO
      have hlt2 := HF2lt.out
      go_wp2
      refine bodyPost_ret (v := .agg #[.slice ra1 N rc1, .slice ra2 N rc2]) (by simp [results, Try.results200, go_sem, z0, z1]) rfl ⟨_, _, rfl, ⟨?_, ?_⟩, ((bb HWW.out HB.out).setCell (p := ⟨w.heap.size + 1 + 1, 0, none⟩) (by show _ ≤ w.heap.size + 1 + 1; omega) _).setCell (p := ⟨w.heap.size + 1 + 1, 1, none⟩) (by show _ ≤ w.heap.size + 1 + 1; omega) _⟩
      · try rw [HRA.out]
        exact OwnRows.mono (B := (V.heap.size + 1)) ((HO'.out.a.out.keep (keep1 _ (w.heap.size + 1 + 1) 0 _) (fun b h1 h2 h3 => by have h3 : b = w.heap.size + 1 + 1 := h3; omega)).keep (keep1 _ (w.heap.size + 1 + 1) 1 _) (fun b h1 h2 h3 => by have h3 : b = w.heap.size + 1 + 1 := h3; omega)) (by have := HSV.out; omega)
      · try rw [HRB.out]
        exact OwnRows.mono (B := (V.heap.size + 1)) ((HO'.out.b.out.keep (keep1 _ (w.heap.size + 1 + 1) 0 _) (fun b h1 h2 h3 => by have h3 : b = w.heap.size + 1 + 1 := h3; omega)).keep (keep1 _ (w.heap.size + 1 + 1) 1 _) (fun b h1 h2 h3 => by have h3 : b = w.heap.size + 1 + 1 := h3; omega)) (by have := HSV.out; omega)
end Go.Proofs.Ytkcobfkmeaakoaa

namespace Go.Proofs.Ytkcobfkmeaakoaa
open Go.RowKit


set_option maxRecDepth 100000 in
set_option maxHeartbeats 800000 in
theorem c_l02Rename (v0 u0 v1 : Value) (A B : List (List Int)) (p : List Int) (w : World) (hA : Sol w v0 u0 A B) (hp : Ints w v1 p) (hok1 : RenOk A p) (hok2 : RenOk B p) :
    Calls Try.prog 171 #[.agg #[v0, u0], v1] w (RSol w (renL A p) (renL B p)) := by
  obtain ⟨a0, c0, rfl, _, _⟩ := hA.1.shape
  obtain ⟨a0s, c0s, rfl, _, _⟩ := hA.2.shape
  obtain ⟨a1, c1, rfl, _, _⟩ := hp.shape
  have HK1 := Lib.hid hok1; have HK2 := Lib.hid hok2; clear hok1 hok2
  go_enter Try.func171, Try.ntmps171
  go_wp2_with fail
  obtain ⟨f0, f1, hW0, hsz⟩ := boxes2 w [.slice a0 A.length c0, .slice a0s B.length c0s] [.slice none 0 0, .slice none 0 0] 27 27
  obtain ⟨W0, hW⟩ : ∃ W, ((w.alloc (.cells #[.slice a0 A.length c0, .slice a0s B.length c0s] 27)).alloc (.cells #[.slice none 0 0, .slice none 0 0] 27)) = W := ⟨_, rfl⟩
  rw [hW] at f0 f1 hW0 hsz ⊢
  clear hW hsz
  have HRA := Lib.hid ((hA.1.below hW0).below (Below.refl _ _).drew); have HRB := Lib.hid ((hA.2.below hW0).below (Below.refl _ _).drew); have HPp := Lib.hid ((hp.below hW0).below (Below.refl _ _).drew)
  have HFc := Lib.hid f0.drew; have HGc := Lib.hid f1.drew; have HBc := Lib.hid hW0.drew; have HLt := Lib.hid f1.lt
  clear hA hp hW0 f0 f1
  have zz : W0.drew.cell? ⟨w.heap.size, 0, none⟩ = some (.slice a0 A.length c0) ∧ W0.drew.cell? ⟨w.heap.size, 1, none⟩ = some (.slice a0s B.length c0s) := ⟨(two_cells HFc.out).1, (two_cells HFc.out).2.1⟩
  go_region_held3 (fun w' => w'.cell? ⟨w.heap.size, 0, none⟩ = some (.slice a0 A.length c0) ∧ w'.cell? ⟨w.heap.size, 1, none⟩ = some (.slice a0s B.length c0s))
    (first | go_keep | exact ⟨(two_cells HFc.out).1, (two_cells HFc.out).2.1⟩)
    ((first | (go_at_call 115; (with_reducible refine (c_l01Rename _ _ A p _ HRA.out HPp.out HK1.out).mono ?_); rintro e w1 ⟨r1, rfl, ho1, hb1⟩; obtain ⟨ra1, rc1, hv1, _⟩ := ho1.rows.shape; rw [renL_length] at hv1; subst hv1; replace HFc := Lib.hid (HFc.out.under hb1); replace HGc := Lib.hid (HGc.out.under hb1); replace HBc := Lib.hid (bb HBc.out hb1); replace HRB := Lib.hid (HRB.out.below hb1); replace HPp := Lib.hid (HPp.out.below hb1); have HO1 := Lib.hid ho1; have HS1 := Lib.hid hb1.size; clear ho1 hb1) | (go_at_call 115; (with_reducible refine (c_l01Rename _ _ B p _ HRB.out HPp.out HK2.out).mono ?_); rintro e w2 ⟨r2, rfl, ho2, hb2⟩; obtain ⟨ra2, rc2, hv2, _⟩ := ho2.rows.shape; rw [renL_length] at hv2; subst hv2; replace HFc := Lib.hid (HFc.out.under hb2); replace HGc := Lib.hid (HGc.out.under hb2); have HB2 := Lib.hid (bb HBc.out hb2); have HO2 := Lib.hid ho2; have HBx := Lib.hid hb2; obtain ⟨z0, z1, z2, z3⟩ := two_cells HGc.out; clear ho2 hb2)))
  obtain ⟨hA, hB⟩ := stored (q := w.heap.size + 1) HB2.out (OwnSol.mk HO1.out HBx.out HO2.out HS1.out) (by omega) HLt.out
  have HA := Lib.hid hA; have HB := Lib.hid hB
  clear hA hB
  go_wp2
  exact bodyPost_ret (v := .agg #[.slice ra1 A.length rc1, .slice ra2 B.length rc2]) (by simp [results, Try.results171, go_sem, z0, z1]) rfl ⟨.slice ra1 A.length rc1, .slice ra2 B.length rc2, rfl, HA.out, HB.out⟩
end Go.Proofs.Ytkcobfkmeaakoaa

namespace Go.Proofs.Ytkcobfkmeaakoaa
open Go Go.RowKit

theorem cs_same {w : World} {a : Addr} {v u : Value} (h : w.cell? a = some u) : (w.setCell a v).cell? a = some v := by
  first | exact World.cell?_setCell_same _ _ _ h | exact World.cell?_setCell_same _ _ h | exact World.cell?_setCell_same _ h
theorem cs_other {w : World} {a b : Addr} {v : Value} (h : a ≠ b) : (w.setCell a v).cell? b = w.cell? b := by
  first | exact World.cell?_setCell_other _ _ _ _ h | exact World.cell?_setCell_other _ _ _ h | exact World.cell?_setCell_other _ _ h
theorem fz_set {w : World} {a b : Addr} {v : Value} : (w.setCell a v).frozen? b = w.frozen? b := by simp
theorem fz_block {w w' : World} {b i : Nat} (e : w'.heap[b]? = w.heap[b]?) : w'.frozen? ⟨b, i, none⟩ = w.frozen? ⟨b, i, none⟩ := World.frozen?_of_block (w := w) (a := ⟨b, i, none⟩) e
/-- Integers that can be read and written, in a block from lo on. -/
def IntsW (lo : Nat) (w : World) (v : Value) (xs : List Int) : Prop :=
  ∃ (a : Option Addr) (c : Nat), v = .slice a xs.length c ∧ xs.length ≤ c ∧ c ≤ maxLen ∧ ∀ i (h : i < xs.length), ∃ b, a = some ⟨b, 0, none⟩ ∧ lo ≤ b ∧ w.cell? ⟨b, i, none⟩ = some (.int .i64 xs[i]) ∧ w.frozen? ⟨b, i, none⟩ = false
/-- A table that can be read and written, in blocks from lo on. -/
def RowsW (lo : Nat) (w : World) (v : Value) (X : List (List Int)) : Prop :=
  ∃ (a : Option Addr) (c : Nat), v = .slice a X.length c ∧ X.length ≤ c ∧ c ≤ maxLen ∧ ∀ i (h : i < X.length), ∃ b u, a = some ⟨b, 0, none⟩ ∧ lo ≤ b ∧ w.cell? ⟨b, i, none⟩ = some u ∧ w.frozen? ⟨b, i, none⟩ = false ∧ IntsW lo w u X[i]

theorem IntsW.ints {lo : Nat} {w : World} {v : Value} {xs : List Int} (h : IntsW lo w v xs) : Ints w v xs := by
  obtain ⟨a, c, hv, h1, h2, hc⟩ := h
  refine ⟨a, c, hv, h1, h2, fun i hi => ?_⟩
  obtain ⟨b, ha, _, hcell, _⟩ := hc i hi
  exact ⟨b, 0, ha, by rw [Nat.zero_add]; exact hcell⟩
theorem RowsW.rows {lo : Nat} {w : World} {v : Value} {X : List (List Int)} (h : RowsW lo w v X) : Rows w v X := by
  obtain ⟨a, c, hv, h1, h2, hc⟩ := h
  refine ⟨a, c, hv, h1, h2, fun i hi => ?_⟩
  obtain ⟨b, u, ha, _, hcell, _, hu⟩ := hc i hi
  exact ⟨b, 0, u, ha, by rw [Nat.zero_add]; exact hcell, hu.ints⟩
theorem IntsW.at' {lo : Nat} {w : World} {v : Value} {xs : List Int} (h : IntsW lo w v xs) (hx : 0 < xs.length) : IntsAt lo w v xs := by
  refine ⟨h.ints, fun b o hv => ?_⟩
  obtain ⟨n, c, rfl⟩ := hv
  obtain ⟨a, c, hv, h1, h2, hc⟩ := h
  obtain ⟨b', ha, hlo, _⟩ := hc 0 hx
  subst ha
  injection hv with e1; injection e1 with e1; injection e1 with e1; subst e1; exact hlo
theorem IntsW.keep {lo : Nat} {S : Nat → Prop} {w w' : World} {v : Value} {xs : List Int} (h : IntsW lo w v xs) (k : Keep S w w') (hS : ∀ b, lo ≤ b → b < w.heap.size → ¬ S b) : IntsW lo w' v xs := by
  obtain ⟨a, c, hv, h1, h2, hc⟩ := h
  refine ⟨a, c, hv, h1, h2, fun i hi => ?_⟩
  obtain ⟨b, ha, hlo, hcell, hf⟩ := hc i hi
  have e := k.block b (cell_lt hcell) (hS b hlo (cell_lt hcell))
  exact ⟨b, ha, hlo, cell_of_block e hcell, (fz_block e).trans hf⟩
theorem RowsW.keepB {lo : Nat} {S : Nat → Prop} {w w' : World} {v : Value} {X : List (List Int)} (h : RowsW lo w v X) (k : Keep S w w') (hS : ∀ b, lo ≤ b → b < w.heap.size → ¬ S b) : RowsW lo w' v X := by
  obtain ⟨a, c, hv, h1, h2, hc⟩ := h
  refine ⟨a, c, hv, h1, h2, fun i hi => ?_⟩
  obtain ⟨b, u, ha, hlo, hcell, hf, hu⟩ := hc i hi
  have e := k.block b (cell_lt hcell) (hS b hlo (cell_lt hcell))
  exact ⟨b, u, ha, hlo, cell_of_block e hcell, (fz_block e).trans hf, hu.keep k hS⟩
theorem RowsW.keep {lo : Nat} {S : Nat → Prop} {w w' : World} {v : Value} {X : List (List Int)} (h : RowsW lo w v X) (k : Keep S w w') (hS : ∀ b, lo ≤ b → ¬ S b) : RowsW lo w' v X := h.keepB k fun b hb _ => hS b hb
theorem RowsW.under {lo : Nat} {w w' : World} {v : Value} {X : List (List Int)} (h : RowsW lo w v X) (hb : Below w.heap.size w w') : RowsW lo w' v X :=
  h.keepB (S := fun b => w.heap.size ≤ b) (Keep.of_below hb) fun b _ h1 h2 => by have h2 : w.heap.size ≤ b := h2; omega
theorem IntsW.under {lo : Nat} {w w' : World} {v : Value} {xs : List Int} (h : IntsW lo w v xs) (hb : Below w.heap.size w w') : IntsW lo w' v xs :=
  h.keep (S := fun b => w.heap.size ≤ b) (Keep.of_below hb) fun b _ h1 h2 => by have h2 : w.heap.size ≤ b := h2; omega
theorem IntsW.mono {lo lo' : Nat} {w : World} {v : Value} {xs : List Int} (h : IntsW lo w v xs) (hl : lo' ≤ lo) : IntsW lo' w v xs := by
  obtain ⟨a, c, hv, h1, h2, hc⟩ := h
  exact ⟨a, c, hv, h1, h2, fun i hi => by obtain ⟨b, ha, hlo, r⟩ := hc i hi; exact ⟨b, ha, Nat.le_trans hl hlo, r⟩⟩
theorem RowsW.mono {lo lo' : Nat} {w : World} {v : Value} {X : List (List Int)} (h : RowsW lo w v X) (hl : lo' ≤ lo) : RowsW lo' w v X := by
  obtain ⟨a, c, hv, h1, h2, hc⟩ := h
  exact ⟨a, c, hv, h1, h2, fun i hi => by obtain ⟨b, u, ha, hlo, hcell, hf, hu⟩ := hc i hi; exact ⟨b, u, ha, Nat.le_trans hl hlo, hcell, hf, hu.mono hl⟩⟩
theorem Own.wr {lo : Nat} {w : World} {v : Value} {xs : List Int} (h : Own lo w v xs) : IntsW lo w v xs := by
  rcases h.open with ⟨rfl, rfl⟩ | ⟨g, cs, hv, hb, hblk, hm⟩
  · exact ⟨none, 0, rfl, Nat.le_refl _, by decide, fun i hi => absurd hi (Nat.not_lt_zero _)⟩
  · refine ⟨_, _, hv, by omega, hm, fun i hi => ⟨g, rfl, hb, ?_, hblk.frozen i⟩⟩
    have := hblk.cell (i := i) (by simp; omega)
    rw [this, List.getElem_append_left (by simpa using hi), List.getElem_map]
theorem OwnRows.wr {lo : Nat} {w : World} {v : Value} {X : List (List Int)} (h : OwnRows lo w v X) : RowsW lo w v X := by
  obtain ⟨us, h1, h2⟩ := h
  obtain ⟨a, c, hv, hc, hm, hcell⟩ := ownsRow_cells h1
  have h1' := h1
  obtain ⟨hl, hn | ⟨g, cap, cur, hv', hb, hg, hr⟩⟩ := h1'
  · have : X = [] := List.eq_nil_of_length_eq_zero (by rw [← h2.len]; exact hn.2)
    subst this
    exact ⟨none, 0, hn.1, Nat.le_refl _, by decide, fun i hi => absurd hi (Nat.not_lt_zero _)⟩
  · have hblk : Blk w g 25 cur.toList := by unfold Blk; simpa using hg
    rw [h2.len] at hv hc
    refine ⟨a, c, hv, hc, hm, fun i hi => ?_⟩
    have hi' : i < us.length := by rw [h2.len]; exact hi
    obtain ⟨g', ha, hgc⟩ := hcell i hi'
    rw [hv'] at hv
    injection hv with e1
    rw [ha] at e1
    injection e1 with e1
    injection e1 with e1
    subst e1
    exact ⟨g, us[i], ha, hb, hgc, hblk.frozen i, (h2.own i hi' hi).wr⟩
theorem drew_w {b lo : Nat} {w1 w2 : World} {v : Value} {X : List (List Int)} (h : Drew b w1 w2) (hr : RowsW lo w1 v X) (hb : b < lo) : RowsW lo w2 v X := hr.keep h.2 (fun x hx e => by have e : x = b := e; omega)

/-- A cell that holds an integer, after a store of an integer. -/
theorem int_after {w : World} {p q : Addr} {z x : Int} (hq : w.cell? q = some (.int .i64 x)) : ∃ y, (w.setCell p (.int .i64 z)).cell? q = some (.int .i64 y) := by
  by_cases e : p = q
  · subst e; exact ⟨z, cs_same hq⟩
  · exact ⟨x, (cs_other e).trans hq⟩
theorem slice_after {w : World} {p q : Addr} {z : Int} {y0 : Int} {a : Option Addr} {n c : Nat} (hp : w.cell? p = some (.int .i64 y0)) (hq : w.cell? q = some (.slice a n c)) : (w.setCell p (.int .i64 z)).cell? q = some (.slice a n c) := by
  have e : p ≠ q := by intro e; subst e; rw [hp] at hq; cases hq
  exact (cs_other e).trans hq
theorem int_stays {w : World} {p q : Addr} {u : Value} {x : Int} {a : Option Addr} {n c : Nat} (hp : w.cell? p = some (.slice a n c)) (hq : w.cell? q = some (.int .i64 x)) : (w.setCell p u).cell? q = some (.int .i64 x) := by
  have e : p ≠ q := by intro e; subst e; rw [hp] at hq; cases hq
  exact (cs_other e).trans hq

/-- A store of an integer into a cell that holds one. -/
theorem IntsW.putI {lo : Nat} {w : World} {v : Value} {xs : List Int} (h : IntsW lo w v xs) {p : Addr} {y0 : Int} (_hp : w.cell? p = some (.int .i64 y0)) (z : Int) : ∃ ys, ys.length = xs.length ∧ IntsW lo (w.setCell p (.int .i64 z)) v ys := by
  obtain ⟨a, c, hv, h1, h2, hc⟩ := h
  have key : ∀ i : Fin xs.length, ∃ y : Int, ∃ b, a = some ⟨b, 0, none⟩ ∧ lo ≤ b ∧ (w.setCell p (.int .i64 z)).cell? ⟨b, i, none⟩ = some (.int .i64 y) ∧ (w.setCell p (.int .i64 z)).frozen? ⟨b, i, none⟩ = false := by
    intro i
    obtain ⟨b, ha, hlo, hcell, hf⟩ := hc i i.2
    obtain ⟨y, hy⟩ := int_after (p := p) (z := z) hcell
    exact ⟨y, b, ha, hlo, hy, fz_set.trans hf⟩
  refine ⟨List.ofFn fun i => Classical.choose (key i), by simp, a, c, by simp [hv], by simpa using h1, h2, fun i hi => ?_⟩
  have hi' : i < xs.length := by simpa using hi
  have := Classical.choose_spec (key ⟨i, hi'⟩)
  simpa using this
theorem IntsW.putS {lo : Nat} {w : World} {v : Value} {xs : List Int} (h : IntsW lo w v xs) {p : Addr} {a0 : Option Addr} {n0 c0 : Nat} (hp : w.cell? p = some (.slice a0 n0 c0)) (u : Value) : IntsW lo (w.setCell p u) v xs := by
  obtain ⟨a, c, hv, h1, h2, hc⟩ := h
  refine ⟨a, c, hv, h1, h2, fun i hi => ?_⟩
  obtain ⟨b, ha, hlo, hcell, hf⟩ := hc i hi
  exact ⟨b, ha, hlo, int_stays hp hcell, fz_set.trans hf⟩
theorem IntsW.isSlice {lo : Nat} {w : World} {v : Value} {xs : List Int} (h : IntsW lo w v xs) : ∃ a c, v = .slice a xs.length c := by
  obtain ⟨a, c, hv, _⟩ := h
  exact ⟨a, c, hv⟩
/-- All rows of a list are of length at most m. -/
def Wide (m : Nat) (X : List (List Int)) : Prop := ∀ r ∈ X, r.length ≤ m
theorem RowsW.of {lo n m : Nat} {w : World} {a : Option Addr} {c : Nat} (h1 : n ≤ c) (h2 : c ≤ maxLen) (key : ∀ i : Fin n, ∃ r : List Int, r.length ≤ m ∧ ∃ b u, a = some ⟨b, 0, none⟩ ∧ lo ≤ b ∧ w.cell? ⟨b, i, none⟩ = some u ∧ w.frozen? ⟨b, i, none⟩ = false ∧ IntsW lo w u r) :
    ∃ X : List (List Int), X.length = n ∧ Wide m X ∧ RowsW lo w (.slice a n c) X := by
  refine ⟨List.ofFn fun i => Classical.choose (key i), by simp, fun r hr => ?_, a, c, by simp, by simpa using h1, h2, fun i hi => ?_⟩
  · rw [List.mem_ofFn] at hr
    obtain ⟨i, rfl⟩ := hr
    exact (Classical.choose_spec (key i)).1
  · have hi' : i < n := by simpa using hi
    have := (Classical.choose_spec (key ⟨i, hi'⟩)).2
    simpa using this
theorem RowsW.putI {lo m : Nat} {w : World} {a : Option Addr} {n c : Nat} {X : List (List Int)} (h : RowsW lo w (.slice a n c) X) (hm : Wide m X) {p : Addr} {y0 : Int} (hp : w.cell? p = some (.int .i64 y0)) (z : Int) :
    ∃ Y, Y.length = X.length ∧ Wide m Y ∧ RowsW lo (w.setCell p (.int .i64 z)) (.slice a n c) Y := by
  obtain ⟨a', c', hv, h1, h2, hc⟩ := h
  injection hv with e1 e2 e3
  subst e1 e2 e3
  refine RowsW.of h1 h2 fun i => ?_
  obtain ⟨b, u, ha, hlo, hcell, hf, hu⟩ := hc i i.2
  obtain ⟨ua, uc, rfl⟩ := hu.isSlice
  obtain ⟨ys, hl, hy⟩ := hu.putI hp z
  exact ⟨ys, by rw [hl]; exact hm _ (List.getElem_mem _), b, _, ha, hlo, slice_after hp hcell, fz_set.trans hf, hy⟩
theorem RowsW.putS {lo m : Nat} {w : World} {a : Option Addr} {n c : Nat} {X : List (List Int)} (h : RowsW lo w (.slice a n c) X) (hm : Wide m X) {p : Addr} {a0 : Option Addr} {n0 c0 : Nat} (hp : w.cell? p = some (.slice a0 n0 c0)) {u' : Value} {ys : List Int} (hu' : IntsW lo w u' ys) (hy : ys.length ≤ m) :
    ∃ Y, Y.length = X.length ∧ Wide m Y ∧ RowsW lo (w.setCell p u') (.slice a n c) Y := by
  obtain ⟨a', c', hv, h1, h2, hc⟩ := h
  injection hv with e1 e2 e3
  subst e1 e2 e3
  refine RowsW.of h1 h2 fun i => ?_
  obtain ⟨b, u, ha, hlo, hcell, hf, hu⟩ := hc i i.2
  by_cases e : p = ⟨b, i, none⟩
  · subst e
    exact ⟨ys, hy, b, u', ha, hlo, cs_same hcell, fz_set.trans hf, hu'.putS hp u'⟩
  · exact ⟨_, hm _ (List.getElem_mem i.2), b, u, ha, hlo, (cs_other e).trans hcell, fz_set.trans hf, hu.putS hp u'⟩
/-- The cell of row k, written out. -/
theorem RowsW.at {lo : Nat} {w : World} {a : Option Addr} {n c : Nat} {X : List (List Int)} (h : RowsW lo w (.slice a n c) X) (k : Nat) (hk : k < X.length) :
    ∃ b a' c', a = some ⟨b, 0, none⟩ ∧ lo ≤ b ∧ w.cell? ⟨b, k, none⟩ = some (.slice a' (row X k).length c') ∧ w.frozen? ⟨b, k, none⟩ = false ∧ IntsW lo w (.slice a' (row X k).length c') (row X k) := by
  obtain ⟨a', c', hv, h1, h2, hc⟩ := h
  injection hv with e1 e2 e3
  subst e1 e2 e3
  obtain ⟨b, u, ha, hlo, hcell, hf, hu⟩ := hc k hk
  obtain ⟨ua, uc, rfl⟩ := hu.isSlice
  rw [row_nat X k hk]
  exact ⟨b, ua, uc, ha, hlo, hcell, hf, hu⟩
theorem IntsW.at0 {lo : Nat} {w : World} {a : Option Addr} {n c : Nat} {xs : List Int} (h : IntsW lo w (.slice a n c) xs) (k : Nat) (hk : k < xs.length) :
    ∃ b, a = some ⟨b, 0, none⟩ ∧ lo ≤ b ∧ w.cell? ⟨b, k, none⟩ = some (.int .i64 (nth xs k)) ∧ w.frozen? ⟨b, k, none⟩ = false := by
  obtain ⟨a', c', hv, h1, h2, hc⟩ := h
  injection hv with e1 e2 e3
  subst e1 e2 e3
  rw [nth_nat _ _ hk]
  exact hc k hk
end Go.Proofs.Ytkcobfkmeaakoaa

namespace Go.Proofs.Ytkcobfkmeaakoaa
open Go Go.RowKit

theorem swap_perm2 {xs : List Int} (h : Permuted xs) {k u : Nat} (hk : k < xs.length) (hu : u < xs.length) : Permuted ((xs.set k (nth xs u)).set u (nth xs k)) := by
  have key : ∀ y : Int, 0 ≤ y → nth ((xs.set k (nth xs u)).set u (nth xs k)) y = if y = u then nth xs k else if y = k then nth xs u else nth xs y := by
    intro y y0
    have h1 := nth_set (xs.set k (nth xs u)) (u : Int) y (nth xs k) (by omega) (by rw [List.length_set]; omega) y0
    rw [Int.toNat_natCast] at h1
    rw [h1]
    have h2 := nth_set xs (k : Int) y (nth xs u) (by omega) (by omega) y0
    rw [Int.toNat_natCast] at h2
    rw [h2]
  rw [permuted_iff]
  intro x x0 x1
  simp only [List.length_set] at x1
  obtain ⟨y, y0, y1, e⟩ := ex_pre h x0 x1
  have hm : ∀ y : Int, 0 ≤ y → y < xs.length → nth ((xs.set k (nth xs u)).set u (nth xs k)) y ∈ (xs.set k (nth xs u)).set u (nth xs k) := fun y a b => nth_mem a (by rw [List.length_set, List.length_set]; exact b)
  subst e
  by_cases e1 : y = u
  · subst e1
    have h3 := hm k (by omega) (by omega)
    rw [key k (by omega)] at h3
    by_cases e2 : (k : Int) = u
    · obtain rfl : k = u := by omega
      rw [if_pos rfl] at h3; exact h3
    · rw [if_neg e2, if_pos rfl] at h3; exact h3
  · by_cases e2 : y = k
    · subst e2
      have h3 := hm u (by omega) (by omega)
      rw [key u (by omega), if_pos rfl] at h3
      exact h3
    · have h3 := hm y y0 y1
      rw [key y y0, if_neg e1, if_neg e2] at h3
      exact h3

set_option maxRecDepth 100000 in
set_option maxHeartbeats 1600000 in
theorem c_l01DrawP (b n : Nat) (w : World) (hs : Src w b) (h1 : 1 ≤ n) (h2 : n ≤ 1000) :
    Calls Try.prog 154 #[.pointer (some ⟨b, 0, none⟩), .int .i64 n] w (fun e w' => ∃ (r : Value) (xs : List Int), e = .returned r ∧ xs.length = n ∧ Permuted xs ∧ Own w.heap.size w' r xs ∧ Drew b w w') := by
  have HS := Lib.hid hs; have hbl := hs.lt; clear hs
  go_enter Try.func154, Try.ntmps154
  go_wp2_with fail
  refine (c_l01Unit n _ (by omega)).mono ?_; rintro e w1 ⟨r, rfl, ho, hb1⟩
  rcases ho.open with ⟨_, h0⟩ | ⟨g, cs, hv, hg, hblk, hmx⟩
  · have := congrArg List.length h0; simp at this; omega
  rw [iota_length] at hv hmx
  subst hv
  have HB0 := Lib.hid hblk; have HD0 := Lib.hid ((Drew.refl HS.out).under hb1)
  have HMX := Lib.hid hmx
  clear ho hblk hmx hb1
  go_wp2
  go_loopw [6, 7, 8] (fun i _ _ wr => ∃ (k : Nat) (xs : List Int), k < n ∧ i = .int .i64 k ∧ Hid (xs.length = n ∧ Permuted xs) ∧ Hid (Blk wr g 2 (xs.map (Value.int .i64) ++ cs)) ∧ Hid (Drew b w wr)) (fun i _ _ _ => (intOf i).toNat)
  case atStart => exact ⟨n - 1, iota n, by omega, by go_num, Lib.hid ⟨by simp, permuted_iota n⟩, HB0, HD0⟩
  case round =>
    clear HB0 HD0
    obtain ⟨k, xs, hk, rfl, HL, HB, HD⟩ := hrel
    obtain ⟨wo, rfl⟩ : ∃ wo : World, wo = wr := ⟨_, rfl⟩
    by_cases hk0 : 0 < k
    · go_wp2_with fail
      refine (c_l01Next b ((k : Int) + 1) _ HD.out.1 (by omega) (by omega)).mono ?_; rintro e w2 ⟨r, rfl, r0, r1, hd⟩
      obtain ⟨u, rfl⟩ : ∃ u : Nat, r = u := ⟨r.toNat, by omega⟩
      have hun : u < n := by omega
      have hB2 := hd.blk HB.out (by omega)
      have HD2 := Lib.hid (HD.out.trans hd)
      have hl := HL.out.1
      have l1 := hB2.labN k (by omega)
      have l2 := hB2.labN u (by omega)
      have f1 := hB2.frozen k
      have f2 := hB2.frozen u
      have s1 := hB2.labSet (k : Int) (by omega) (by omega) (nth xs (u : Int))
      rw [Int.toNat_natCast] at s1
      have s2 := s1.labSet (u : Int) (by omega) (by rw [List.length_set]; omega) (nth xs (k : Int))
      rw [Int.toNat_natCast] at s2
      have hg2 := s1.frozen u
      obtain ⟨z, hz⟩ : ∃ z, (w2.setCell ⟨g, k, none⟩ (.int .i64 (nth xs (u : Int)))).cell? ⟨g, u, none⟩ = some z := ⟨_, s1.labN u (by rw [List.length_set]; omega)⟩
      have HS2 := Lib.hid s2
      have hgb : b < g := by omega
      clear s1 s2 hd hl
      go_wp2
      go_roundw
      case rel =>
        refine ⟨k - 1, _, by omega, by go_num, Lib.hid ?_, HS2, Lib.hid ?_⟩
        · exact ⟨by simpa using HL.out.1, swap_perm2 HL.out.2 (by rw [HL.out.1]; exact hk) (by rw [HL.out.1]; exact hun)⟩
        · have kk := (HD2.out.2.setCell (p := ⟨g, k, none⟩) (.inr ?_) (.int .i64 (nth xs (u : Int)))).setCell (p := ⟨g, u, none⟩) (.inr ?_) (.int .i64 (nth xs (k : Int)))
          · refine ⟨?_, kk⟩
            exact HD2.out.1.keep (S := fun x => x = g) (((Keep.refl (fun x => x = g) w2).setCell (p := ⟨g, k, none⟩) (.inl rfl) _).setCell (p := ⟨g, u, none⟩) (.inl rfl) _) (fun p hp e => by have e : p = g := e; omega)
          · show w.heap.size ≤ g; omega
          · show w.heap.size ≤ g; omega
      case measure => simp [intOf]; omega
    · obtain rfl : k = 0 := by omega
      go_wp2
      go_ret
      exact ⟨_, xs, rfl, HL.out.1, HL.out.2, Own.shut HB.out (by omega) (by rw [HL.out.1]; exact HMX.out) HL.out.1.symm (by rw [HL.out.1]), HD.out⟩


/-- A pair of tables that can be read, all of it from lo on. -/
def SolAt (lo : Nat) (w : World) (v1 v2 : Value) (A B : List (List Int)) : Prop := RowsW lo w v1 A ∧ RowsW lo w v2 B
theorem SolAt.sol {lo : Nat} {w : World} {v1 v2 : Value} {A B : List (List Int)} (h : SolAt lo w v1 v2 A B) : Sol w v1 v2 A B := ⟨h.1.rows, h.2.rows⟩
theorem SolAt.drew {b lo : Nat} {w1 w2 : World} {v1 v2 : Value} {A B : List (List Int)} (h : SolAt lo w1 v1 v2 A B) (hd : Drew b w1 w2) (hb : b < lo) : SolAt lo w2 v1 v2 A B := ⟨drew_w hd h.1 hb, drew_w hd h.2 hb⟩
theorem rsolR_at {w w' : World} {A B : List (List Int)} {e : Ending} (h : RSolR w A B e w') : ∃ r1 r2, e = .returned (.agg #[r1, r2]) ∧ SolAt w.heap.size w' r1 r2 A B ∧ Below w.heap.size w w' := by
  obtain ⟨r1, r2, he, ⟨h1, h2⟩, hb⟩ := h
  exact ⟨r1, r2, he, ⟨h1.wr, h2.wr⟩, hb⟩
theorem RowsAt.mono {lo lo' : Nat} {w : World} {v : Value} {X : List (List Int)} (h : RowsAt lo w v X) (hl : lo' ≤ lo) : RowsAt lo' w v X := by
  obtain ⟨a, c, hv, h1, h2, hc⟩ := h
  exact ⟨a, c, hv, h1, h2, fun i hi => by obtain ⟨b, o, u, ha, hlo, hcell, hu⟩ := hc i hi; exact ⟨b, o, u, ha, by omega, hcell, hu.1, fun b o e => Nat.le_trans hl (hu.2 b o e)⟩⟩
theorem SolAt.mono {lo lo' : Nat} {w : World} {v1 v2 : Value} {A B : List (List Int)} (h : SolAt lo w v1 v2 A B) (hl : lo' ≤ lo) : SolAt lo' w v1 v2 A B := ⟨h.1.mono hl, h.2.mono hl⟩

set_option maxRecDepth 100000 in
set_option maxHeartbeats 1600000 in
theorem c_l02Twisted (b n : Nat) (w : World) (hs : Src w b) (h1 : 1 ≤ n) (h2 : n ≤ 12) :
    Calls Try.prog 199 #[.pointer (some ⟨b, 0, none⟩), .int .i64 n] w (fun e w' => ∃ (r1 r2 : Value) (A B : List (List Int)), e = .returned (.agg #[r1, r2]) ∧ SolAt w.heap.size w' r1 r2 A B ∧ isPM A B = true ∧ A.length = n ∧ Drew b w w') := by
  have HS := Lib.hid hs; have hbl := hs.lt; clear hs
  have HF0 : Hid (Blk (w.alloc (.cells #[.slice none 0 0, .slice none 0 0] 27)) w.heap.size 27 [.slice none 0 0, .slice none 0 0]) := Lib.hid (Blk.new w [.slice none 0 0, .slice none 0 0] 27)
  have HB0 : Hid (Below w.heap.size w (w.alloc (.cells #[.slice none 0 0, .slice none 0 0] 27))) := Lib.hid ((Below.refl _ _).alloc (Nat.le_refl _) _)
  go_enter Try.func199, Try.ntmps199
  have HS0 := Lib.hid (HS.out.under HB0.out)
  have HD0 := Lib.hid ((Drew.refl HS.out).under HB0.out)
  go_wp2_with fail
  refine (c_l01DrawP b n _ HS0.out h1 (by omega)).mono ?_; rintro e w1 ⟨r, p, rfl, hpl, hpp, hop, hd1⟩
  have HF1 := Lib.hid (hd1.blk HF0.out (by omega)); have HD1 := Lib.hid (HD0.out.trans hd1)
  have HP := Lib.hid (hop.mono (show w.heap.size ≤ _ by simp)); have HPP := Lib.hid (And.intro hpl hpp)
  clear hop hd1 hpl hpp
  go_wp2_with fail
  refine (c_l01Unit n _ (by omega)).mono ?_; rintro e w2 ⟨ru, rfl, hou, hb2⟩
  have HF2 := Lib.hid (HF1.out.under hb2); have HD2 := Lib.hid (HD1.out.under hb2); have HP2 := Lib.hid (HP.out.under hb2)
  have HQ2 := Lib.hid (hou.mono HD1.out.2.size)
  clear hou hb2
  go_wp2_with fail
  refine (c_l01Next b 4 _ HD2.out.1 (by omega) (by omega)).mono ?_; rintro e w3 ⟨t, rfl, t0, t1, hd3⟩
  obtain ⟨k0, rfl⟩ : ∃ k0 : Nat, t = k0 := ⟨t.toNat, by omega⟩
  have HF3 := Lib.hid (hd3.blk HF2.out (by omega)); have HD3 := Lib.hid (HD2.out.trans hd3)
  have HP3 := Lib.hid (hd3.own HP2.out hbl); have HQ3 := Lib.hid (hd3.own HQ2.out hbl)
  clear hd3
  go_wp2
  go_loopw [6, 7] (fun q k wr => ∃ (s : Nat) (qs : List Int), s ≤ 4 ∧ k = .int .i64 s ∧ Hid (Own w.heap.size wr q qs) ∧ Hid (qs.length = n ∧ Permuted qs) ∧ Hid (Own w.heap.size wr r p) ∧ Hid (Blk wr w.heap.size 27 [.slice none 0 0, .slice none 0 0]) ∧ Hid (Drew b w wr)) (fun _ k _ => (intOf k).toNat)
  case atStart => exact ⟨k0, iota n, by omega, rfl, HQ3, Lib.hid ⟨by simp, permuted_iota n⟩, HP3, HF3, HD3⟩
  case round =>
    clear HQ3 HP3 HF3 HD3
    obtain ⟨s, qs, hs4, rfl, HQ, HR, HP7, HF7, HD7⟩ := hrel
    by_cases hs0 : 0 < s
    · go_wp2_with fail
      refine (c_l01Then _ _ qs p _ HQ.out.ints HP7.out.ints (fun x hx => by have := HR.out.2.2 x hx; have := HR.out.1; have := HPP.out.1; omega) (by rw [HR.out.1]; omega)).mono ?_; rintro e w8 ⟨r8, rfl, ho8, hb8⟩
      have HQ8 := Lib.hid (ho8.mono HD7.out.2.size); have HP8 := Lib.hid (HP7.out.under hb8); have HF8 := Lib.hid (HF7.out.under hb8); have HD8 := Lib.hid (HD7.out.under hb8)
      have HR8 : Hid ((thenL qs p).length = n ∧ Permuted (thenL qs p)) := Lib.hid ⟨by rw [thenL_length]; exact HR.out.1, then_perm HR.out.2 HPP.out.2 (by rw [HPP.out.1, HR.out.1])⟩
      clear ho8 hb8
      go_wp2
      go_roundw
      case rel => exact ⟨s - 1, thenL qs p, by omega, by go_num, HQ8, HR8, HP8, HF8, HD8⟩
      case measure => simp [intOf]; omega
    · obtain rfl : s = 0 := by omega
      go_wp2_with fail
      refine (c_l01Next b 2 _ HD7.out.1 (by omega) (by omega)).mono ?_; rintro e w6 ⟨t, rfl, t0, t1, hd6⟩
      have HF6 := Lib.hid (hd6.blk HF7.out (by omega)); have HD6 := Lib.hid (HD7.out.trans hd6)
      have HP6 := Lib.hid (hd6.own HP7.out hbl); have HQ6 := Lib.hid (hd6.own HQ.out hbl)
      clear hd6
      have hnp : p.length = n := HPP.out.1
      have hnq : qs.length = n := HR.out.1
      have HNP := Lib.hid hnp; have HNQ := Lib.hid hnq
      clear hnp hnq
      by_cases ht : t = 0
      · subst ht
        go_wp2_with fail
        refine (c_l02Twist _ _ p qs _ HP6.out.ints HQ6.out.ints (by rw [HNP.out, HNQ.out]) (by rw [HNP.out]; omega)).mono ?_; rintro e w9 hz
        have PMX : isPM (twA p) (twB p qs) = true := tw_pm HPP.out.2 HR.out.2 (by rw [HNP.out, HNQ.out]) (by rw [HNP.out]; exact h1) (by rw [HNP.out]; exact h2)
        have LENX : (twA p).length = n := by simp [twA]; exact HNP.out
        obtain ⟨r8, r9, he, hsa, hb9⟩ := rsolR_at hz
        subst he
        obtain ⟨sa1, sl1, sc1, hv1⟩ := hsa.sol.1.any
        obtain ⟨sa2, sl2, sc2, hv2⟩ := hsa.sol.2.any
        subst hv1 hv2
        have hf := HF6.out.under hb9
        obtain ⟨z0, z1, z2, z3⟩ := two_cells hf
        have HSA := Lib.hid hsa; have HB9 := Lib.hid hb9
        clear hz hsa hb9 hf
        go_wp2
        have kz : Keep (fun x => x = w.heap.size) w9 ((w9.setCell ⟨w.heap.size, 0, none⟩ (.slice sa1 sl1 sc1)).setCell ⟨w.heap.size, 1, none⟩ (.slice sa2 sl2 sc2)) := keep_early _ _ _ _
        have hlt6 := HF6.out.lt
        refine bodyPost_ret (v := .agg #[.slice sa1 sl1 sc1, .slice sa2 sl2 sc2]) (by simp [results, Try.results199, go_sem, z0, z1]) rfl ⟨_, _, _, _, rfl, ⟨(HSA.out.1.keep kz (fun x hx e => by have e : x = w.heap.size := e; omega)).mono (by omega), (HSA.out.2.keep kz (fun x hx e => by have e : x = w.heap.size := e; omega)).mono (by omega)⟩, PMX, LENX, ?_⟩
        exact drew_set (drew_set (HD6.out.under HB9.out) (p := ⟨w.heap.size, 0, none⟩) (Nat.le_refl _) hbl _) (p := ⟨w.heap.size, 1, none⟩) (Nat.le_refl _) hbl _
      · go_wp2_with fail
        refine (c_l02Twist _ _ qs p _ HQ6.out.ints HP6.out.ints (by rw [HNP.out, HNQ.out]) (by rw [HNQ.out]; omega)).mono ?_; rintro e w9 hz
        have PMX : isPM (twA qs) (twB qs p) = true := tw_pm HR.out.2 HPP.out.2 (by rw [HNP.out, HNQ.out]) (by rw [HNQ.out]; exact h1) (by rw [HNQ.out]; exact h2)
        have LENX : (twA qs).length = n := by simp [twA]; exact HNQ.out
        obtain ⟨r8, r9, he, hsa, hb9⟩ := rsolR_at hz
        subst he
        obtain ⟨sa1, sl1, sc1, hv1⟩ := hsa.sol.1.any
        obtain ⟨sa2, sl2, sc2, hv2⟩ := hsa.sol.2.any
        subst hv1 hv2
        have hf := HF6.out.under hb9
        obtain ⟨z0, z1, z2, z3⟩ := two_cells hf
        have HSA := Lib.hid hsa; have HB9 := Lib.hid hb9
        clear hz hsa hb9 hf
        go_wp2
        have kz : Keep (fun x => x = w.heap.size) w9 ((w9.setCell ⟨w.heap.size, 0, none⟩ (.slice sa1 sl1 sc1)).setCell ⟨w.heap.size, 1, none⟩ (.slice sa2 sl2 sc2)) := keep_early _ _ _ _
        have hlt6 := HF6.out.lt
        refine bodyPost_ret (v := .agg #[.slice sa1 sl1 sc1, .slice sa2 sl2 sc2]) (by simp [results, Try.results199, go_sem, z0, z1]) rfl ⟨_, _, _, _, rfl, ⟨(HSA.out.1.keep kz (fun x hx e => by have e : x = w.heap.size := e; omega)).mono (by omega), (HSA.out.2.keep kz (fun x hx e => by have e : x = w.heap.size := e; omega)).mono (by omega)⟩, PMX, LENX, ?_⟩
        exact drew_set (drew_set (HD6.out.under HB9.out) (p := ⟨w.heap.size, 0, none⟩) (Nat.le_refl _) hbl _) (p := ⟨w.heap.size, 1, none⟩) (Nat.le_refl _) hbl _
end Go.Proofs.Ytkcobfkmeaakoaa

namespace Go.Proofs.Ytkcobfkmeaakoaa
open Go Go.RowKit

def pgA (n : Nat) : List (List Int) := tabOf n fun x y => (2 * x - y + n) % n
def pgB (n : Nat) : List (List Int) := tabOf n fun x _ => x

set_option maxRecDepth 100000 in
set_option maxHeartbeats 4000000 in
theorem c_l02Polygon (n : Nat) (w : World) (hn1 : 1 ≤ n) (hn : n ≤ 12) :
    Calls Try.prog 197 #[.int .i64 n] w (RSolR w (pgA n) (pgB n)) := by
  go_enter Try.func197, Try.ntmps197
  go_wp2
  have f2 := Blk.new w [.slice none 0 0, .slice none 0 0] 27
  have hV : Below w.heap.size w (w.alloc (.cells #[.slice none 0 0, .slice none 0 0] 27)) := (Below.refl _ _).alloc (Nat.le_refl _) _
  have hsv : (w.alloc (.cells #[.slice none 0 0, .slice none 0 0] 27)).heap.size = w.heap.size + 1 := by simp
  have HSV := Lib.hid hsv
  change Blk (w.alloc (.cells #[.slice none 0 0, .slice none 0 0] 27)) _ _ _ at f2
  obtain ⟨V, hVV⟩ : ∃ V, w.alloc (.cells #[.slice none 0 0, .slice none 0 0] 27) = V := ⟨_, rfl⟩
  rw [hVV] at f2 hV HSV hsv ⊢
  rw [← hsv]
  clear hVV
  have HF2lt := Lib.hid f2.lt
  have HF2 := Lib.hid f2
  have hB1 : Below V.heap.size V (V.alloc (.cells #[.slice none 0 0, .slice none 0 0] 27)) := (Below.refl _ _).alloc (Nat.le_refl _) _
  have hout := Blk.new V [.slice none 0 0, .slice none 0 0] 27
  have hs1 : (V.alloc (.cells #[.slice none 0 0, .slice none 0 0] 27)).heap.size = V.heap.size + 1 := by simp
  have hqq : V.heap.size = V.heap.size := rfl
  change Blk (V.alloc (.cells #[.slice none 0 0, .slice none 0 0] 27)) _ _ _ at hout
  obtain ⟨W1, hW1⟩ : ∃ W, V.alloc (.cells #[.slice none 0 0, .slice none 0 0] 27) = W := ⟨_, rfl⟩
  rw [hW1] at hB1 hout hs1 ⊢
  clear hW1
  have hout' : Blk W1 (V.heap.size) 27 [.slice none 0 0, .slice none 0 0] := by rw [← hqq]; exact hout
  have HOut := Lib.hid (Out2.start (lo := V.heap.size + 1) (q := V.heap.size) (w := W1) (by omega) (by omega) hout')
  have HB1 := Lib.hid hB1; have HWW := Lib.hid hV; have HS1 := Lib.hid hs1
  have HQLE : Hid (V.heap.size ≤ V.heap.size) := Lib.hid (by omega)
  obtain ⟨gA, hgA⟩ : ∃ g : Int → Int → Int, g = fun x y : Int => (2 * x - y + (n : Int)) % (n : Int) := ⟨_, rfl⟩
  obtain ⟨gB, hgB⟩ : ∃ g : Int → Int → Int, g = fun x _ : Int => x := ⟨_, rfl⟩
  have hRA : pgA n = tabOf n gA := by unfold pgA; rw [hgA]
  have hRB : pgB n = tabOf n gB := by unfold pgB; rw [hgB]
  have HRA := Lib.hid hRA; have HRB := Lib.hid hRB
  have HGA : Hid (∀ x y : Int, gA x y = (2 * x - y + n) % n) := Lib.hid (by rw [hgA]; intro x y; rfl)
  have HGB : Hid (∀ x y : Int, gB x y = x) := Lib.hid (by rw [hgB]; intro x y; rfl)
  clear hgA hgB hRA hRB hB1 hout hout' hs1 hV hqq f2 hsv
  go_loopw [4] (fun a wr => ∃ (k : Nat) (va vb : Value), k ≤ n ∧ a = .int .i64 k ∧ Hid (Below V.heap.size V wr) ∧ Hid (Out2 (V.heap.size + 1) wr.heap.size (V.heap.size) wr va vb ((tabOf n gA).take k) ((tabOf n gB).take k))) (fun a _ => n - (intOf a).toNat)
  case atStart => exact ⟨0, _, _, Nat.zero_le _, rfl, HB1, HOut⟩
  case round =>
    clear HB1 HOut
    obtain ⟨k, va, vb, hk, rfl, HB, HO⟩ := hrel
    obtain ⟨wo, rfl⟩ : ∃ wo : World, wo = wr := ⟨_, rfl⟩
    by_cases hlt : k < n
    · go_wp2
      go_loopw [5, 6, 7] (fun s t y wi => ∃ (j : Nat) (sa : Option Addr) (sc : Nat) (ta : Option Addr) (tc : Nat), j ≤ n ∧ y = .int .i64 j ∧ s = .slice sa j sc ∧ t = .slice ta j tc ∧ Hid (Below wo.heap.size wo wi) ∧ Hid (Two wo.heap.size wi (.slice sa j sc) (.slice ta j tc) ((rowOf n (gA k)).take j) ((rowOf n (gB k)).take j))) (fun _ _ y _ => n - (intOf y).toNat)
      case atStart => exact ⟨0, _, _, _, _, Nat.zero_le _, rfl, rfl, rfl, Lib.hid (((Below.refl wo.heap.size wo).alloc (Nat.le_refl _) _).alloc (by simp) _), Lib.hid (Two.made0 wo)⟩
      case round =>
        obtain ⟨j, sa, sc, ta, tc, hj, rfl, rfl, rfl, Hb, HTw⟩ := hrel
        obtain ⟨wi, rfl⟩ : ∃ wi : World, wi = wr := ⟨_, rfl⟩
        by_cases hlj : j < n
        · have HEA : Hid (gA k j = (2 * (k : Int) - j) % n) := Lib.hid (by rw [HGA.out]; simp); have HEB := Lib.hid (HGB.out k j)
          have hn0 : (0 : Int) < n := by omega
          have hp0 : 0 ≤ 2 * (k : Int) - j + n := by omega
          have hp1 : 2 * (k : Int) - j + n ≤ 100 := by omega
          have w2 : Int.tmod (2 * (k : Int) - j + n) (n : Int) = (2 * (k : Int) - j + n) % (n : Int) := Int.tmod_eq_emod_of_nonneg (by omega)
          have hl1 : ((rowOf n (gA k)).take j).length = j := by simp; omega
          have hl2 : ((rowOf n (gB k)).take j).length = j := by simp; omega
          have HL1a := Lib.hid hl1; have HL2a := Lib.hid hl2
          have HN1a : Hid (((rowOf n (gA k)).take j).length ≤ 1099511627776) := by show _ ≤ _; rw [hl1]; omega
          have HN2a : Hid (((rowOf n (gB k)).take j).length ≤ 1099511627776) := by show _ ≤ _; rw [hl2]; omega
          have HS1a : Hid (wo.heap.size ≤ wi.heap.size) := Lib.hid Hb.out.size
          clear hl1 hl2
          go_wp2_with (at_builtin; go_loud (first
            | (refine wpList_app_int2 wo.heap.size wi _ ((rowOf n (gA k)).take j) _ _ _ wi.heap.size rfl rfl rfl rfl HTw.out.a rfl HN1a.out HS1a.out ?_; intro g c1 w1 hown1 hk1 hg1; rw [HL1a.out] at hown1; rw [HL1a.out]; have HT1 := Lib.hid (HTw.out.app1 hown1 hk1 hg1); have HZ2 := Lib.hid (HTw.out.a.frame Hb.out (Nat.le_refl _) HS1a.out hk1); have HS2a : Hid (wo.heap.size ≤ w1.heap.size) := Lib.hid HZ2.out.size; clear hown1 hk1 hg1)
            | (refine wpList_app_int2 wo.heap.size w1 _ ((rowOf n (gB k)).take j) _ _ _ w1.heap.size rfl rfl rfl rfl HT1.out.b rfl HN2a.out HS2a.out ?_; intro g2 c2 w4 hown4 hk4 hg4; rw [HL2a.out] at hown4; rw [HL2a.out]; have HT2 := Lib.hid (HT1.out.app2 hown4 hk4 hg4); have HZ4 := Lib.hid (HT1.out.b.frame HZ2.out (Nat.le_refl _) HS2a.out hk4); clear hown4 hk4 hg4)))
          go_roundw
          case rel =>
            refine ⟨j + 1, some ⟨g, 0, none⟩, c1, some ⟨g2, 0, none⟩, c2, by omega, by go_num, rfl, rfl, HZ4, ?_⟩
            rw [take_snoc (rowOf n (gA k)) _ (by simpa using hlj), take_snoc (rowOf n (gB k)) _ (by simpa using hlj), nth_rowOf _ _ _ hlj, nth_rowOf _ _ _ hlj, HEA.out, HEB.out]
            exact HT2
          case measure => simp [intOf]; omega
        · obtain rfl : n = j := by omega
          have hTw := HTw.out
          rw [List.take_of_length_le (by simp), List.take_of_length_le (by simp)] at hTw
          have HU := Lib.hid hTw; clear hTw
          have HO2 := Lib.hid (HO.out.under Hb.out)
          have HBi := Lib.hid (bb HB.out Hb.out)
          have hla : ((tabOf n gA).take k).length = k := by simp; omega
          have hlb : ((tabOf n gB).take k).length = k := by simp; omega
          have HNA : Hid (((tabOf n gA).take k).length ≤ 1099511627776) := by show _ ≤ _; rw [hla]; omega
          have HNB : Hid (((tabOf n gB).take k).length ≤ 1099511627776) := by show _ ≤ _; rw [hlb]; omega
          have HLA := Lib.hid hla; have HLB := Lib.hid hlb; clear hla hlb
          have HLO : Hid ((V.heap.size + 1) ≤ wi.heap.size) := Nat.le_trans HO2.out.lm HO2.out.mw
          obtain ⟨cA, cB, cF, cG⟩ := two_cells HO2.out.blk
          go_wp2_with (at_builtin; go_loud (first
            | (refine wpList_app_row2 (V.heap.size + 1) wo.heap.size wi va ((tabOf n gA).take k) _ (rowOf n (gA k)) _ _ rfl rfl rfl HO2.out.a HU.out.a rfl HNA.out HO2.out.lm HLO.out ?_; intro g c1 w1 hown1 hk1 hg1; rw [HLA.out] at hown1; rw [HLA.out]; have hq1 := HO2.out.blkq hk1; obtain ⟨dA, dB, dF, dG⟩ := two_cells hq1; have hh := HO2.out.app1 hown1 hk1 hg1; have hv := HO2.out.row1 HU.out.b hk1 (.slice (some ⟨g, 0, none⟩) (k + 1) c1); have hf := HO2.out.frame1 HBi.out HQLE.out hk1 (.slice (some ⟨g, 0, none⟩) (k + 1) c1); obtain ⟨eA, eB, eF, eG⟩ := two_cells hh.blk; have HH := Lib.hid hh; have HV := Lib.hid hv; have HF1 := Lib.hid hf; clear hown1 hk1 hg1 hq1 hh hv hf)
            | (refine wpList_app_row2s (V.heap.size + 1) wo.heap.size (w1.setCell ⟨(V.heap.size), 0, none⟩ (.slice (some ⟨g, 0, none⟩) (k + 1) c1)) vb ((tabOf n gB).take k) _ (rowOf n (gB k)) _ _ w1.heap.size (by simp [World.setCell]) rfl rfl rfl HH.out.b HV.out rfl HNB.out HH.out.lm (Nat.le_trans HH.out.lm HH.out.mw) ?_; intro g2 c2 w4 hown4 hk4 hg4; rw [HLB.out] at hown4; rw [HLB.out]; have hq4 := HH.out.blkq hk4; clear dA dB dF dG eA eB eF eG cA cB cF cG; obtain ⟨dA, dB, dF, dG⟩ := two_cells hq4; have HH2 := Lib.hid (HH.out.app2 hown4 hk4 hg4); have HF2b := Lib.hid (HH.out.frame2 HF1.out HQLE.out hk4 (.slice (some ⟨g2, 0, none⟩) (k + 1) c2)); clear hown4 hk4 hg4 hq4)))
          go_roundw
          case rel =>
            refine ⟨k + 1, .slice (some ⟨g, 0, none⟩) (k + 1) c1, .slice (some ⟨g2, 0, none⟩) (k + 1) c2, by omega, by go_num, HF2b, ?_⟩
            rw [take_snoc_row (tabOf n gA) _ (by simpa using hlt), take_snoc_row (tabOf n gB) _ (by simpa using hlt), row_tabOf _ _ _ hlt, row_tabOf _ _ _ hlt]
            exact HH2
          case measure => simp [intOf]; omega
    · obtain rfl : n = k := by omega
      have hO := HO.out
      rw [List.take_of_length_le (by simp), List.take_of_length_le (by simp)] at hO
      obtain ⟨ra1, rc1, hva, _⟩ := hO.a.out.rows.shape
      obtain ⟨ra2, rc2, hvb, _⟩ := hO.b.out.rows.shape
      rw [tabOf_length] at hva hvb
      subst hva hvb
      obtain ⟨y0, y1, y2, y3⟩ := two_cells hO.blk
      obtain ⟨z0, z1, z2, z3⟩ := two_cells (HF2.out.under HB.out)
      have HO' := Lib.hid hO; clear hO
      have hlt2 := HF2lt.out
      go_wp2
      refine bodyPost_ret (v := .agg #[.slice ra1 n rc1, .slice ra2 n rc2]) (by simp [results, Try.results197, go_sem, z0, z1]) rfl ⟨_, _, rfl, ⟨?_, ?_⟩, ((bb HWW.out HB.out).setCell (p := ⟨w.heap.size, 0, none⟩) (Nat.le_refl _) _).setCell (p := ⟨w.heap.size, 1, none⟩) (Nat.le_refl _) _⟩
      · try rw [HRA.out]
        exact OwnRows.mono (B := (V.heap.size + 1)) ((HO'.out.a.out.keep (keep1 _ w.heap.size 0 _) (fun b h1 h2 h3 => by have h3 : b = w.heap.size := h3; omega)).keep (keep1 _ w.heap.size 1 _) (fun b h1 h2 h3 => by have h3 : b = w.heap.size := h3; omega)) (by have := HSV.out; omega)
      · try rw [HRB.out]
        exact OwnRows.mono (B := (V.heap.size + 1)) ((HO'.out.b.out.keep (keep1 _ w.heap.size 0 _) (fun b h1 h2 h3 => by have h3 : b = w.heap.size := h3; omega)).keep (keep1 _ w.heap.size 1 _) (fun b h1 h2 h3 => by have h3 : b = w.heap.size := h3; omega)) (by have := HSV.out; omega)
end Go.Proofs.Ytkcobfkmeaakoaa

namespace Go.Proofs.Ytkcobfkmeaakoaa
open Go Go.RowKit

def nvG (T : List (List Int)) (x y : Int) : Int := (idx (row T (val2 T x y)) x : Int)
def nvB (T : List (List Int)) : List (List Int) := tabOf T.length (nvG T)

set_option maxRecDepth 100000 in
set_option maxHeartbeats 4000000 in
theorem c_l02Involutive (v0 : Value) (T : List (List Int)) (w : World) (hT : Rows w v0 T) (hp : isTab T = true) :
    Calls Try.prog 201 #[v0] w (RSolR w T (nvB T)) := by
  have HR := Lib.hid hT
  obtain ⟨n, b0, o0, c0, rb0, ro0, rc0, rfl, hl0, hn0, hx0, hc0, hm0, t0⟩ := hT.tab hp
  have HL0 := Lib.hid hl0
  have HRW : Hid (∀ r ∈ T, r.length ≤ 1048576) := Lib.hid (fun r hr => by
    obtain ⟨i, hi, rfl⟩ := List.getElem_of_mem hr
    have := isTab_row hp (x := (i : Int)) (by omega) (by omega)
    rw [row_nat _ _ hi] at this
    omega)
  have HRL : Hid (∀ x : Int, 0 ≤ x → x < n → (row T x).length = n) := Lib.hid (fun x h0 h1 => by have := isTab_row hp h0 (by omega); omega)
  clear hl0 hT hp
  have HT0 := Lib.hid t0; clear t0
  go_enter Try.func201, Try.ntmps201
  go_wp2_with fail
  have hB0 : Below w.heap.size w (w.alloc (.cells #[.slice none 0 0, .slice none 0 0] 27)) := (Below.refl _ _).alloc (Nat.le_refl _) _
  have f0 := Blk.new w [.slice none 0 0, .slice none 0 0] 27
  have hs0 : (w.alloc (.cells #[.slice none 0 0, .slice none 0 0] 27)).heap.size = w.heap.size + 1 := by simp
  change Blk (w.alloc (.cells #[.slice none 0 0, .slice none 0 0] 27)) _ _ _ at f0
  obtain ⟨W0, hW⟩ : ∃ W, w.alloc (.cells #[.slice none 0 0, .slice none 0 0] 27) = W := ⟨_, rfl⟩
  rw [hW] at hB0 f0 hs0 ⊢
  clear hW
  refine (c_l01Own2 _ T _ (HR.out.below hB0) (by have := HL0.out; omega) HRW.out).mono ?_; rintro e V ⟨r1, rfl, ho, hb1⟩
  obtain ⟨ra1, rc1, hv1, -⟩ := OwnRows.shape' ho
  rw [HL0.out] at hv1
  subst hv1
  have HF := Lib.hid (f0.under hb1); have HO := Lib.hid ho; have HWV := Lib.hid (bb hB0 hb1); have HS0 := Lib.hid (show w.heap.size + 1 ≤ V.heap.size by have := hb1.size; omega); have HS00 := Lib.hid hs0
  clear f0 ho hb1 hB0 hs0
  go_wp2
  have hB1 : Below V.heap.size V (V.alloc (.cells #[.slice ra1 n rc1, .slice none 0 0] 27)) := (Below.refl _ _).alloc (Nat.le_refl _) _
  have hout := Blk.new V [.slice ra1 n rc1, .slice none 0 0] 27
  have hs1 : (V.alloc (.cells #[.slice ra1 n rc1, .slice none 0 0] 27)).heap.size = V.heap.size + 1 := by simp
  change Blk (V.alloc (.cells #[.slice ra1 n rc1, .slice none 0 0] 27)) _ _ _ at hout
  obtain ⟨W1, hW1⟩ : ∃ W, V.alloc (.cells #[.slice ra1 n rc1, .slice none 0 0] 27) = W := ⟨_, rfl⟩
  rw [hW1] at hB1 hout hs1 ⊢
  clear hW1
  have HB1 := Lib.hid hB1; have HOut := Lib.hid hout; have HS1 := Lib.hid (show V.heap.size + 1 ≤ W1.heap.size by omega)
  clear hB1 hout hs1
  obtain ⟨gB, hgB⟩ : ∃ g : Int → Int → Int, g = nvG T := ⟨_, rfl⟩
  have HRB : Hid (nvB T = tabOf n gB) := Lib.hid (by unfold nvB; rw [HL0.out, hgB])
  have HGB : Hid (∀ x y : Int, gB x y = (idx (row T (val2 T x y)) x : Int)) := Lib.hid (by rw [hgB]; intro x y; rfl)
  clear hgB
  go_loopw [4] (fun a wr => ∃ (k : Nat) (vb : Value), k ≤ n ∧ a = .int .i64 k ∧ Hid (Below V.heap.size V wr ∧ V.heap.size + 1 ≤ wr.heap.size) ∧ Hid (Blk wr V.heap.size 27 [.slice ra1 n rc1, vb]) ∧ Hid (OwnRows (V.heap.size + 1) wr vb ((tabOf n gB).take k))) (fun a _ => n - (intOf a).toNat)
  case atStart => exact ⟨0, _, Nat.zero_le _, rfl, Lib.hid ⟨HB1.out, HS1.out⟩, HOut, Lib.hid ⟨[], ⟨by simp, .inl ⟨rfl, rfl⟩⟩, RowVals.nil _ _⟩⟩
  case round =>
    clear HB1 HOut HS1
    obtain ⟨k, vb, hk, rfl, HB, HQ, HO2⟩ := hrel
    obtain ⟨wo, rfl⟩ : ∃ wo : World, wo = wr := ⟨_, rfl⟩
    by_cases hlt : k < n
    · go_wp2
      go_loopw [5, 6] (fun s y wi => ∃ (j : Nat) (sa : Option Addr) (sc : Nat), j ≤ n ∧ y = .int .i64 j ∧ s = .slice sa j sc ∧ Hid (Below wo.heap.size wo wi) ∧ Hid (Own wo.heap.size wi (.slice sa j sc) ((rowOf n (gB k)).take j))) (fun _ y _ => n - (intOf y).toNat)
      case atStart => exact ⟨0, _, _, Nat.zero_le _, rfl, rfl, Lib.hid ((Below.refl _ _).alloc (Nat.le_refl _) _), Lib.hid (by simpa using Own.made0 wo (Nat.le_refl _))⟩
      case round =>
        obtain ⟨j, sa, sc, hj, rfl, rfl, Hb, Ho⟩ := hrel
        obtain ⟨wi, rfl⟩ : ∃ wi : World, wi = wr := ⟨_, rfl⟩
        by_cases hlj : j < n
        · have hB2 := bb HWV.out (bb HB.out.1 Hb.out)
          have T' := HT0.out.below hB2
          have r1 := T'.row k hlt
          have x1 := T'.val k j hlt hlj
          obtain ⟨d1, d2⟩ := T'.rng k j (by omega) (by omega) (by omega) (by omega)
          have r2 := T'.rowi (val2 T k j) d1 d2
          have HI0 := (HR.out.below hB2).getS (val2 T k j).toNat (by have := HL0.out; omega)
          obtain ⟨b', o', a', c', e', h1', h2'⟩ := HI0
          have e'' := e'
          injection e'' with e''
          injection e'' with e1 e2 e3
          subst e1 e2
          rw [h1'] at r2
          have hrl := HRL.out (val2 T k j) d1 d2
          rw [show (((val2 T k j).toNat : Nat) : Int) = val2 T k j from by omega] at r2 h2' h1'
          injection r2 with r2
          rw [r2] at h2'
          have HI := Lib.hid h2'
          have r3 := T'.rowi (val2 T k j) d1 d2
          have HEB := Lib.hid (HGB.out k j)
          have hl1 : ((rowOf n (gB k)).take j).length = j := by simp; omega
          have HL1a := Lib.hid hl1
          have HN1a : Hid (((rowOf n (gB k)).take j).length ≤ 1099511627776) := by show _ ≤ _; rw [hl1]; omega
          have HS1a : Hid (wo.heap.size ≤ wi.heap.size) := Lib.hid Hb.out.size
          clear hl1 h2' h1' r2 e' T' hB2
          go_wp2_with fail
          refine (c_l01Index _ _ _ _ HI.out).mono ?_; rintro e we ⟨rfl, rfl⟩
          go_wp2_with (at_builtin; refine wpList_app_int2 wo.heap.size wi _ ((rowOf n (gB k)).take j) _ _ _ wi.heap.size rfl rfl rfl rfl Ho.out rfl HN1a.out HS1a.out ?_; intro g c1 w1 hown1 hk1 hg1; rw [HL1a.out] at hown1; rw [HL1a.out]; have HO1 := Lib.hid hown1; have HZ2 := Lib.hid (Ho.out.frame Hb.out (Nat.le_refl _) HS1a.out hk1); clear hown1 hk1 hg1)
          go_roundw
          case rel =>
            refine ⟨j + 1, some ⟨g, 0, none⟩, c1, by omega, by go_num, rfl, HZ2, ?_⟩
            rw [take_snoc (rowOf n (gB k)) _ (by simpa using hlj), nth_rowOf _ _ _ hlj, HEB.out]
            exact HO1
          case measure => simp [intOf]; omega
        · obtain rfl : n = j := by omega
          have hTw := Ho.out
          rw [List.take_of_length_le (by simp)] at hTw
          have HU := Lib.hid hTw; clear hTw
          have HOi := Lib.hid (HO2.out.inn.under Hb.out)
          have HQi := Lib.hid (HQ.out.under Hb.out)
          have HBi := Lib.hid (bb HB.out.1 Hb.out)
          have hlb : ((tabOf n gB).take k).length = k := by simp; omega
          have HNB : Hid (((tabOf n gB).take k).length ≤ 1099511627776) := by show _ ≤ _; rw [hlb]; omega
          have HLB := Lib.hid hlb; clear hlb
          have HLM := Lib.hid HB.out.2
          have HLO : Hid ((V.heap.size + 1) ≤ wi.heap.size) := Nat.le_trans HB.out.2 Hb.out.size
          obtain ⟨cA, cB, cF, cG⟩ := two_cells HQi.out
          go_wp2_with (at_builtin; refine wpList_app_row2 (V.heap.size + 1) wo.heap.size wi vb ((tabOf n gB).take k) _ (rowOf n (gB k)) _ _ rfl rfl rfl HOi.out HU.out rfl HNB.out HLM.out HLO.out ?_; intro g c1 w1 hown1 hk1 hg1; rw [HLB.out] at hown1; rw [HLB.out]; have hq1 := HQi.out.of_block (hk1.block _ HQi.out.lt (fun e => by have := (OwnRows.lt HO2.out e).1; omega)); obtain ⟨dA, dB, dF, dG⟩ := two_cells hq1; have HQ1 := Lib.hid (hq1.set 1 (.slice (some ⟨g, 0, none⟩) (k + 1) c1)); have HO1 := Lib.hid (hown1.keep (keep1 w1 V.heap.size 1 (.slice (some ⟨g, 0, none⟩) (k + 1) c1)) (fun b h1 _ h3 => by have h3 : b = V.heap.size := h3; omega)); have HF1 := Lib.hid (((OwnRows.frame HOi.out.out HBi.out (Nat.le_succ _) (Nat.le_trans (Nat.le_succ _) HLO.out) hk1).setCell (p := ⟨V.heap.size, 1, none⟩) (Nat.le_refl _) (.slice (some ⟨g, 0, none⟩) (k + 1) c1))); have HS1 := Lib.hid (show V.heap.size + 1 ≤ (w1.setCell ⟨V.heap.size, 1, none⟩ (.slice (some ⟨g, 0, none⟩) (k + 1) c1)).heap.size from HQ1.out.lt); clear hown1 hk1 hg1 hq1)
          go_roundw
          case rel =>
            refine ⟨k + 1, .slice (some ⟨g, 0, none⟩) (k + 1) c1, by omega, by go_num, Lib.hid ⟨HF1.out, HS1.out⟩, HQ1, ?_⟩
            rw [take_snoc_row (tabOf n gB) _ (by simpa using hlt), row_tabOf _ _ _ hlt]
            exact HO1
          case measure => simp [intOf]; omega
    · obtain rfl : n = k := by omega
      have hO := HO2.out
      rw [List.take_of_length_le (by simp)] at hO
      obtain ⟨ra2, rc2, hvb, _⟩ := hO.rows.shape
      rw [tabOf_length] at hvb
      subst hvb
      obtain ⟨y0, y1, y2, y3⟩ := two_cells HQ.out
      obtain ⟨z0, z1, z2, z3⟩ := two_cells (HF.out.under HB.out.1)
      have HO' := Lib.hid hO; clear hO
      have hlt2 := HS0.out
      go_wp2
      refine bodyPost_ret (v := .agg #[.slice ra1 n rc1, .slice ra2 n rc2]) (by simp [results, Try.results201, go_sem, z0, z1]) rfl ⟨_, _, rfl, ⟨?_, ?_⟩, ((bb HWV.out HB.out.1).setCell (p := ⟨w.heap.size, 0, none⟩) (Nat.le_refl _) _).setCell (p := ⟨w.heap.size, 1, none⟩) (Nat.le_refl _) _⟩
      · have hs00 := HS00.out
        exact OwnRows.mono (B := W0.heap.size) (((HO.out.under HB.out.1).keep (keep1 _ w.heap.size 0 _) (fun b h1 h2 h3 => by have h3 : b = w.heap.size := h3; omega)).keep (keep1 _ w.heap.size 1 _) (fun b h1 h2 h3 => by have h3 : b = w.heap.size := h3; omega)) (by omega)
      · rw [HRB.out]
        exact OwnRows.mono (B := (V.heap.size + 1)) ((HO'.out.keep (keep1 _ w.heap.size 0 _) (fun b h1 h2 h3 => by have h3 : b = w.heap.size := h3; omega)).keep (keep1 _ w.heap.size 1 _) (fun b h1 h2 h3 => by have h3 : b = w.heap.size := h3; omega)) (by omega)
end Go.Proofs.Ytkcobfkmeaakoaa

namespace Go.Proofs.Ytkcobfkmeaakoaa

theorem isPM_mk {A B : List (List Int)} (h1 : isTab A = true) (h2 : isTab B = true) (h3 : A.length = B.length) : isPM A B = true := by simp [isPM, h1, h2, h3]
theorem isPM_tabOf {n : Nat} {g h : Int → Int → Int} (h1 : 1 ≤ n) (h2 : n ≤ 12) (hg : ∀ x y : Int, 0 ≤ x → x < n → 0 ≤ y → y < n → 0 ≤ g x y ∧ g x y < n) (hh : ∀ x y : Int, 0 ≤ x → x < n → 0 ≤ y → y < n → 0 ≤ h x y ∧ h x y < n) : isPM (tabOf n g) (tabOf n h) = true :=
  isPM_mk (isTab_tabOf h1 h2 fun x y hx hy => hg x y (by omega) (by omega) (by omega) (by omega)) (isTab_tabOf h1 h2 fun x y hx hy => hh x y (by omega) (by omega) (by omega) (by omega)) (by simp)

theorem pg_pm {n : Nat} (h1 : 1 ≤ n) (h2 : n ≤ 12) : isPM (pgA n) (pgB n) = true := by
  unfold pgA pgB
  refine isPM_tabOf h1 h2 (fun x y _ _ _ _ => ⟨Int.emod_nonneg _ (by omega), Int.emod_lt_of_pos _ (by omega)⟩) (fun x y a b _ _ => ⟨a, b⟩)
@[simp] theorem pgA_length (n : Nat) : (pgA n).length = n := by simp [pgA]
theorem pg_coll {n : Nat} (h1 : 1 ≤ n) (h2 : n ≤ 12) : collL (pgA n) (pgB n) = [] := by
  unfold collL
  refine quad_none (find2_none fun a ha b hb => ?_)
  rw [pgA_length] at ha hb ⊢
  unfold colP
  have a1 := div_lt_sq ha; have a2 := Nat.mod_lt a (show 0 < n by omega)
  have b1 := div_lt_sq hb; have b2 := Nat.mod_lt b (show 0 < n by omega)
  have g1 := Nat.div_add_mod a n
  have g2 := Nat.div_add_mod b n
  generalize a / n = x1 at a1 g1 ⊢
  generalize a % n = y1 at a2 g1 ⊢
  generalize b / n = x2 at b1 g2 ⊢
  generalize b % n = y2 at b2 g2 ⊢
  unfold pgA pgB
  rw [val2_tabOf' (by omega) (by omega) (by omega) (by omega), val2_tabOf' (by omega) (by omega) (by omega) (by omega), val2_tabOf' (by omega) (by omega) (by omega) (by omega), val2_tabOf' (by omega) (by omega) (by omega) (by omega)]
  by_cases e2 : (x1 : Int) = x2
  · by_cases e1 : (2 * (x1 : Int) - y1 + n) % n = (2 * (x2 : Int) - y2 + n) % n
    · have hx : x1 = x2 := by omega
      subst hx
      have hd := Int.emod_emod_of_dvd (2 * (x1 : Int) - y1 + n) (Int.dvd_refl (n : Int))
      have h3 : ((2 * (x1 : Int) - y1 + n) - (2 * (x1 : Int) - y2 + n)) % n = 0 := by rw [Int.sub_emod, e1]; simp
      have h4 : (n : Int) ∣ ((y2 : Int) - y1) := by
        have := Int.dvd_of_emod_eq_zero h3
        rwa [show (2 * (x1 : Int) - y1 + n) - (2 * (x1 : Int) - y2 + n) = y2 - y1 by omega] at this
      obtain ⟨c, hc⟩ := h4
      have hy : y1 = y2 := by
        rcases Int.lt_trichotomy c 0 with h | h | h
        · have : (n : Int) * c ≤ n * (-1) := Int.mul_le_mul_of_nonneg_left (by omega) (by omega)
          omega
        · subst h; omega
        · have : (n : Int) * 1 ≤ n * c := Int.mul_le_mul_of_nonneg_left (by omega) (by omega)
          omega
      have : a = b := by rw [← g1, ← g2, hy]
      simp [this]
    · have e3 : ¬ (2 * (x1 : Int) - y1) % n = (2 * (x2 : Int) - y2) % n := by simpa using e1
      simp [e3]
  · simp [e2]

theorem pr_pm {A B C D : List (List Int)} (h1 : isPM A B = true) (h2 : isPM C D = true) (hs : A.length * C.length ≤ 12) : isPM (prT A C) (prT B D) = true := by
  obtain ⟨a1, a2, a3⟩ := isPM_parts h1
  obtain ⟨c1, c2, c3⟩ := isPM_parts h2
  have l1 := (isTab_len a1).1; have l2 := (isTab_len c1).1
  have hmul : 1 ≤ A.length * C.length := Nat.mul_pos l1 l2
  have key : ∀ (X Y : List (List Int)), isTab X = true → isTab Y = true → X.length = A.length → Y.length = C.length → isTab (prT X Y) = true := by
    intro X Y hX hY e1 e2
    unfold prT
    rw [e1, e2]
    refine isTab_tabOf hmul hs fun x y hx hy => ?_
    obtain ⟨d1, d2, d3, d4⟩ := divI2 hx l2
    obtain ⟨d5, d6, d7, d8⟩ := divI2 hy l2
    have v1 := val2_lt hX d1 (by rw [e1]; exact d2) d5 (by rw [e1]; exact d6)
    have v2 := val2_lt hY d3 (by rw [e2]; exact d4) d7 (by rw [e2]; exact d8)
    rw [e1] at v1; rw [e2] at v2
    have := pairI v1.1 v1.2 v2.1 v2.2
    push_cast
    exact this
  exact isPM_mk (key A C a1 c1 rfl rfl) (key B D a2 c2 a3.symm c3.symm) (by simp [prT, a3, c3])
@[simp] theorem prT_length (A C : List (List Int)) : (prT A C).length = A.length * C.length := by simp [prT]

theorem un_pm {A B C D : List (List Int)} (h1 : isPM A B = true) (h2 : isPM C D = true) (hs : A.length + C.length ≤ 12) : isPM (unTA A C) (unTB B D) = true := by
  obtain ⟨a1, a2, a3⟩ := isPM_parts h1
  obtain ⟨c1, c2, c3⟩ := isPM_parts h2
  have l1 := (isTab_len a1).1; have l2 := (isTab_len c1).1
  have key : ∀ (X Y : List (List Int)) (z : Int → Int → Int), isTab X = true → isTab Y = true → X.length = A.length → Y.length = C.length → (∀ x y : Int, 0 ≤ x → x < ((A.length + C.length : Nat) : Int) → 0 ≤ y → y < ((A.length + C.length : Nat) : Int) → 0 ≤ z x y ∧ z x y < ((A.length + C.length : Nat) : Int)) → isTab (tabOf (A.length + C.length) (unG X Y z)) = true := by
    intro X Y z hX hY e1 e2 hz
    refine isTab_tabOf (by omega) hs fun x y hx hy => ?_
    unfold unG
    rw [e1]
    by_cases g1 : (x : Int) < A.length ∧ (y : Int) < A.length
    · rw [if_pos g1]
      have v1 := val2_lt hX (x := x) (y := y) (by omega) (by rw [e1]; exact g1.1) (by omega) (by rw [e1]; exact g1.2)
      rw [e1] at v1; omega
    · rw [if_neg g1]
      by_cases g2 : (A.length : Int) ≤ x ∧ (A.length : Int) ≤ y
      · rw [if_pos g2]
        have v1 := val2_lt hY (x := (x : Int) - A.length) (y := (y : Int) - A.length) (by omega) (by omega) (by omega) (by omega)
        omega
      · rw [if_neg g2]
        exact hz x y (by omega) (by omega) (by omega) (by omega)
  refine isPM_mk (key A C _ a1 c1 rfl rfl fun x y _ _ h1 h2 => ⟨h1, h2⟩) ?_ (by simp [unTA, unTB, a3, c3])
  unfold unTB
  rw [← a3, ← c3]
  exact key B D _ a2 c2 a3.symm c3.symm fun x y h1 h2 _ _ => ⟨h1, h2⟩
@[simp] theorem unTA_length (A C : List (List Int)) : (unTA A C).length = A.length + C.length := by simp [unTA]

theorem iv_pm {A B : List (List Int)} (hp : isPM A B = true) (hc : collL A B = []) : isPM (ivA A B A.length) (ivB A B A.length) = true := by
  have hP := pmL_perm hp hc
  have hl := isTab_len (isPM_parts hp).1
  unfold ivA ivB
  refine isPM_tabOf hl.1 hl.2 (fun x y a b c d => ?_) (fun x y a b c d => ?_)
  · obtain ⟨h0, h1, -⟩ := iv_range hP a b c d
    have := divI (k := (nth (invL (pmL A B A.length)) (x * A.length + y)).toNat) (n := A.length) (by omega) hl.1
    rw [show (((nth (invL (pmL A B A.length)) (x * A.length + y)).toNat : Nat) : Int) = nth (invL (pmL A B A.length)) (x * A.length + y) by omega] at this
    exact ⟨this.1, this.2.1⟩
  · obtain ⟨h0, h1, -⟩ := iv_range hP a b c d
    have := divI (k := (nth (invL (pmL A B A.length)) (x * A.length + y)).toNat) (n := A.length) (by omega) hl.1
    rw [show (((nth (invL (pmL A B A.length)) (x * A.length + y)).toNat : Nat) : Int) = nth (invL (pmL A B A.length)) (x * A.length + y) by omega] at this
    exact ⟨this.2.2.1, this.2.2.2⟩
@[simp] theorem ivA_length (A B : List (List Int)) (n : Nat) : (ivA A B n).length = n := by simp [ivA]

theorem ren_pm {A B : List (List Int)} {p : List Int} (hp : isPM A B = true) (hq : Permuted p) (hl : p.length = A.length) : isPM (renL A p) (renL B p) = true := by
  obtain ⟨a1, a2, a3⟩ := isPM_parts hp
  exact isPM_mk (isTab_renL ⟨a1, hq, hl⟩) (isTab_renL ⟨a2, hq, hl.trans a3⟩) (by rw [renL_length, renL_length]; exact a3)

def nv4 : List (List Int) := [[0, 1, 3, 2], [0, 1, 3, 2], [1, 0, 2, 3], [1, 0, 2, 3]]
def nv3 : List (List Int) := [[0, 1, 2], [0, 1, 2], [1, 0, 2]]
theorem nv4_pm : isTab nv4 = true ∧ isPM nv4 (nvB nv4) = true := by decide +kernel
theorem nv3_pm : isTab nv3 = true ∧ isPM nv3 (nvB nv3) = true := by decide +kernel
end Go.Proofs.Ytkcobfkmeaakoaa

namespace Go.Proofs.Ytkcobfkmeaakoaa
open Go Go.RowKit

/-- What a draw of a pair map leaves. -/
def RDraw (b most : Nat) (w : World) (e : Ending) (w' : World) : Prop :=
  ∃ (r1 r2 : Value) (A B : List (List Int)), e = .returned (.agg #[r1, r2]) ∧ SolAt w.heap.size w' r1 r2 A B ∧ isPM A B = true ∧ A.length ≤ most ∧ Drew b w w'
theorem any_end {b most lo : Nat} {w w9 : World} {r1 r2 : Value} {A B : List (List Int)} (hsa : SolAt lo w9 r1 r2 A B) (hlo : w.heap.size < lo) (hbl : b < w.heap.size) (hp : isPM A B = true) (hl : A.length ≤ most) (hd : Drew b w w9) :
    RDraw b most w (.returned (.agg #[r1, r2])) ((w9.setCell ⟨w.heap.size, 0, none⟩ r1).setCell ⟨w.heap.size, 1, none⟩ r2) := by
  have kz : Keep (fun x => x = w.heap.size) w9 ((w9.setCell ⟨w.heap.size, 0, none⟩ r1).setCell ⟨w.heap.size, 1, none⟩ r2) := keep_early _ _ _ _
  exact ⟨_, _, A, B, rfl, ⟨(hsa.1.keep kz (fun x hx e => by have e : x = w.heap.size := e; omega)).mono (by omega), (hsa.2.keep kz (fun x hx e => by have e : x = w.heap.size := e; omega)).mono (by omega)⟩, hp, hl,
    drew_set (drew_set hd (p := ⟨w.heap.size, 0, none⟩) (Nat.le_refl _) hbl _) (p := ⟨w.heap.size, 1, none⟩) (Nat.le_refl _) hbl _⟩
theorem SolAt.any {lo : Nat} {w : World} {v1 v2 : Value} {A B : List (List Int)} (h : SolAt lo w v1 v2 A B) : ∃ a1 l1 c1 a2 l2 c2, v1 = .slice a1 l1 c1 ∧ v2 = .slice a2 l2 c2 := by
  obtain ⟨a1, l1, c1, e1⟩ := h.sol.1.any
  obtain ⟨a2, l2, c2, e2⟩ := h.sol.2.any
  exact ⟨a1, l1, c1, a2, l2, c2, e1, e2⟩
theorem SolAt.under {lo : Nat} {w1 w2 : World} {v1 v2 : Value} {A B : List (List Int)} (h : SolAt lo w1 v1 v2 A B) (hb : Below w1.heap.size w1 w2) : SolAt lo w2 v1 v2 A B := by
  exact ⟨h.1.under hb, h.2.under hb⟩

theorem hsz_alloc (w : World) (o : Obj) : (w.alloc o).heap.size = w.heap.size + 1 := by simp
theorem ints_blk {w : World} {g : Nat} (xs : List Int) (hg : Blk w g 2 (xs.map (Value.int .i64))) (hm : xs.length ≤ maxLen) : Ints w (.slice (some ⟨g, 0, none⟩) xs.length xs.length) xs :=
  ⟨_, _, rfl, Nat.le_refl _, hm, fun i hi => ⟨g, 0, rfl, by
    have := hg.cell (i := i) (by simpa using hi)
    rw [Nat.zero_add, this]; simp⟩⟩
theorem rows_blk {w : World} {g : Nat} (vs : List Value) (X : List (List Int)) (hg : Blk w g 25 vs) (hl : vs.length = X.length) (hm : X.length ≤ maxLen) (h : ∀ i (h1 : i < vs.length) (h2 : i < X.length), Ints w vs[i] X[i]) : Rows w (.slice (some ⟨g, 0, none⟩) X.length X.length) X :=
  ⟨_, _, rfl, Nat.le_refl _, hm, fun i hi => ⟨g, 0, vs[i], rfl, by
    have := hg.cell (i := i) (by omega)
    rw [Nat.zero_add, this], h i (by omega) hi⟩⟩
theorem nv4_rows (w : World) (W : World) (hW : W = (((((w.alloc (.cells #[.int .i64 0, .int .i64 1, .int .i64 3, .int .i64 2] 2)).alloc (.cells #[.int .i64 0, .int .i64 1, .int .i64 3, .int .i64 2] 2)).alloc (.cells #[.int .i64 1, .int .i64 0, .int .i64 2, .int .i64 3] 2)).alloc (.cells #[.int .i64 1, .int .i64 0, .int .i64 2, .int .i64 3] 2)).alloc (.cells #[.slice (some ⟨w.heap.size, 0, none⟩) 4 4, .slice (some ⟨w.heap.size + 1, 0, none⟩) 4 4, .slice (some ⟨w.heap.size + 1 + 1, 0, none⟩) 4 4, .slice (some ⟨w.heap.size + 1 + 1 + 1, 0, none⟩) 4 4] 25))) :
    Rows W (.slice (some ⟨w.heap.size + 1 + 1 + 1 + 1, 0, none⟩) 4 4) nv4 ∧ Below w.heap.size w W := by
  subst hW
  have hb1 := (Blk.new w [.int .i64 0, .int .i64 1, .int .i64 3, .int .i64 2] 2)
  have hb2 := (Blk.new (w.alloc (.cells [.int .i64 0, .int .i64 1, .int .i64 3, .int .i64 2].toArray 2)) [.int .i64 0, .int .i64 1, .int .i64 3, .int .i64 2] 2)
  have hb3 := (Blk.new ((w.alloc (.cells [.int .i64 0, .int .i64 1, .int .i64 3, .int .i64 2].toArray 2)).alloc (.cells [.int .i64 0, .int .i64 1, .int .i64 3, .int .i64 2].toArray 2)) [.int .i64 1, .int .i64 0, .int .i64 2, .int .i64 3] 2)
  have hb4 := (Blk.new (((w.alloc (.cells [.int .i64 0, .int .i64 1, .int .i64 3, .int .i64 2].toArray 2)).alloc (.cells [.int .i64 0, .int .i64 1, .int .i64 3, .int .i64 2].toArray 2)).alloc (.cells [.int .i64 1, .int .i64 0, .int .i64 2, .int .i64 3].toArray 2)) [.int .i64 1, .int .i64 0, .int .i64 2, .int .i64 3] 2)
  have hb5 := (Blk.new ((((w.alloc (.cells [.int .i64 0, .int .i64 1, .int .i64 3, .int .i64 2].toArray 2)).alloc (.cells [.int .i64 0, .int .i64 1, .int .i64 3, .int .i64 2].toArray 2)).alloc (.cells [.int .i64 1, .int .i64 0, .int .i64 2, .int .i64 3].toArray 2)).alloc (.cells [.int .i64 1, .int .i64 0, .int .i64 2, .int .i64 3].toArray 2)) [.slice (some ⟨w.heap.size, 0, none⟩) 4 4, .slice (some ⟨w.heap.size + 1, 0, none⟩) 4 4, .slice (some ⟨w.heap.size + 1 + 1, 0, none⟩) 4 4, .slice (some ⟨w.heap.size + 1 + 1 + 1, 0, none⟩) 4 4] 25)
  simp only [hsz_alloc] at hb2 hb3 hb4 hb5
  refine ⟨rows_blk _ nv4 hb5 rfl (by decide) fun i h1 h2 => ?_, (((((Below.refl w.heap.size w).alloc (Nat.le_refl _) _).alloc (by simp) _).alloc (by simp; omega) _).alloc (by simp; omega) _).alloc (by simp; omega) _⟩
  match i, h1, h2 with
  | 0, _, _ => exact ints_blk [0, 1, 3, 2] ((((hb1.alloc _).alloc _).alloc _).alloc _) (by decide)
  | 1, _, _ => exact ints_blk [0, 1, 3, 2] (((hb2.alloc _).alloc _).alloc _) (by decide)
  | 2, _, _ => exact ints_blk [1, 0, 2, 3] ((hb3.alloc _).alloc _) (by decide)
  | 3, _, _ => exact ints_blk [1, 0, 2, 3] (hb4.alloc _) (by decide)
theorem nv3_rows (w : World) (W : World) (hW : W = ((((w.alloc (.cells #[.int .i64 0, .int .i64 1, .int .i64 2] 2)).alloc (.cells #[.int .i64 0, .int .i64 1, .int .i64 2] 2)).alloc (.cells #[.int .i64 1, .int .i64 0, .int .i64 2] 2)).alloc (.cells #[.slice (some ⟨w.heap.size, 0, none⟩) 3 3, .slice (some ⟨w.heap.size + 1, 0, none⟩) 3 3, .slice (some ⟨w.heap.size + 1 + 1, 0, none⟩) 3 3] 25))) :
    Rows W (.slice (some ⟨w.heap.size + 1 + 1 + 1, 0, none⟩) 3 3) nv3 ∧ Below w.heap.size w W := by
  subst hW
  have hb1 := (Blk.new w [.int .i64 0, .int .i64 1, .int .i64 2] 2)
  have hb2 := (Blk.new (w.alloc (.cells [.int .i64 0, .int .i64 1, .int .i64 2].toArray 2)) [.int .i64 0, .int .i64 1, .int .i64 2] 2)
  have hb3 := (Blk.new ((w.alloc (.cells [.int .i64 0, .int .i64 1, .int .i64 2].toArray 2)).alloc (.cells [.int .i64 0, .int .i64 1, .int .i64 2].toArray 2)) [.int .i64 1, .int .i64 0, .int .i64 2] 2)
  have hb5 := (Blk.new (((w.alloc (.cells [.int .i64 0, .int .i64 1, .int .i64 2].toArray 2)).alloc (.cells [.int .i64 0, .int .i64 1, .int .i64 2].toArray 2)).alloc (.cells [.int .i64 1, .int .i64 0, .int .i64 2].toArray 2)) [.slice (some ⟨w.heap.size, 0, none⟩) 3 3, .slice (some ⟨w.heap.size + 1, 0, none⟩) 3 3, .slice (some ⟨w.heap.size + 1 + 1, 0, none⟩) 3 3] 25)
  simp only [hsz_alloc] at hb2 hb3 hb5
  refine ⟨rows_blk _ nv3 hb5 rfl (by decide) fun i h1 h2 => ?_, ((((Below.refl w.heap.size w).alloc (Nat.le_refl _) _).alloc (by simp) _).alloc (by simp; omega) _).alloc (by simp; omega) _⟩
  match i, h1, h2 with
  | 0, _, _ => exact ints_blk [0, 1, 2] (((hb1.alloc _).alloc _).alloc _) (by decide)
  | 1, _, _ => exact ints_blk [0, 1, 2] ((hb2.alloc _).alloc _) (by decide)
  | 2, _, _ => exact ints_blk [1, 0, 2] (hb3.alloc _) (by decide)

set_option maxRecDepth 100000 in
set_option maxHeartbeats 4000000 in
theorem c_l02Any (b : Nat) : ∀ (most : Nat) (w : World), Src w b → 1 ≤ most → most ≤ 12 → Calls Try.prog 183 #[.pointer (some ⟨b, 0, none⟩), .int .i64 most] w (RDraw b most w) := by
  intro most
  induction most using Nat.strongRecOn with
  | _ most ih =>
  intro w hs h1 h2
  have HIH := Lib.hid ih
  have HS := Lib.hid hs; have hbl := hs.lt; clear hs ih
  have HF0 : Hid (Blk (w.alloc (.cells #[.slice none 0 0, .slice none 0 0] 27)) w.heap.size 27 [.slice none 0 0, .slice none 0 0]) := Lib.hid (Blk.new w [.slice none 0 0, .slice none 0 0] 27)
  have HB0 : Hid (Below w.heap.size w (w.alloc (.cells #[.slice none 0 0, .slice none 0 0] 27))) := Lib.hid ((Below.refl _ _).alloc (Nat.le_refl _) _)
  go_enter Try.func183, Try.ntmps183
  have HS0 := Lib.hid (HS.out.under HB0.out)
  have HD0 := Lib.hid ((Drew.refl HS.out).under HB0.out)
  go_wp2_with fail
  refine (c_l01Next b most _ HS0.out (by omega) (by omega)).mono ?_; rintro e w1 ⟨t, rfl, t0, t1, hd1⟩
  obtain ⟨m, rfl⟩ : ∃ m : Nat, t = m := ⟨t.toNat, by omega⟩
  have hm : m < most := by omega
  have HF1 := Lib.hid (hd1.blk HF0.out (by omega)); have HD1 := Lib.hid (HD0.out.trans hd1)
  clear hd1 HF0 HD0 t0 t1
  go_wp2_with fail
  refine (c_l01Next b 8 _ HD1.out.1 (by omega) (by omega)).mono ?_; rintro e w2 ⟨kd, rfl, k0, k8, hd2⟩
  have HF2 := Lib.hid (hd2.blk HF1.out (by omega)); have HD2 := Lib.hid (HD1.out.trans hd2)
  clear hd2 HF1 HD1
  have HS2 := Lib.hid (show w.heap.size < w2.heap.size from HF2.out.lt)
  obtain ⟨n, hn⟩ : ∃ n : Nat, n = m + 1 := ⟨_, rfl⟩
  have hnI : 1 + (m : Int) = n := by omega
  have hn1 : 1 ≤ n := by omega
  have hnm : n ≤ most := by omega
  clear hn hm

  by_cases e0 : kd = 0
  · subst e0
    go_wp2_with fail
    refine (c_l02Flip n _ (by omega)).mono ?_; rintro e w9 hz
    obtain ⟨r8, r9, he, hsa, hb9⟩ := rsolR_at hz
    subst he
    obtain ⟨sa1, sl1, sc1, sa2, sl2, sc2, hv1, hv2⟩ := hsa.any
    subst hv1 hv2
    have hf := HF2.out.under hb9
    obtain ⟨z0, z1, z2, z3⟩ := two_cells hf
    have HSA := Lib.hid hsa; have HD9 := Lib.hid (HD2.out.under hb9); have HLT := HF2.out.lt
    have HPM := Lib.hid (tw_pm (permuted_iota n) (permuted_iota n) rfl (by simpa using hn1) (by simp; omega)); have HLN := Lib.hid (show (twA (iota n)).length ≤ most by simp [twA]; omega)
    clear hsa hf
    go_wp2
    exact bodyPost_ret (v := .agg #[.slice sa1 sl1 sc1, .slice sa2 sl2 sc2]) (by simp [results, Try.results183, go_sem, z0, z1]) rfl (any_end HSA.out HLT hbl HPM.out HLN.out HD9.out)
  have y0 : (kd == 0) = false := by simp [e0]
  by_cases e1 : kd = 1
  · subst e1
    go_wp2_with fail
    refine (c_l02Polygon n _ hn1 (by omega)).mono ?_; rintro e w9 hz
    obtain ⟨r8, r9, he, hsa, hb9⟩ := rsolR_at hz
    subst he
    obtain ⟨sa1, sl1, sc1, sa2, sl2, sc2, hv1, hv2⟩ := hsa.any
    subst hv1 hv2
    have hf := HF2.out.under hb9
    obtain ⟨z0, z1, z2, z3⟩ := two_cells hf
    have HSA := Lib.hid hsa; have HD9 := Lib.hid (HD2.out.under hb9); have HLT := HF2.out.lt
    have HPM := Lib.hid (pg_pm hn1 (by omega)); have HLN := Lib.hid (show (pgA n).length ≤ most by simp; omega)
    clear hsa hf
    go_wp2
    exact bodyPost_ret (v := .agg #[.slice sa1 sl1 sc1, .slice sa2 sl2 sc2]) (by simp [results, Try.results183, go_sem, z0, z1]) rfl (any_end HSA.out HLT hbl HPM.out HLN.out HD9.out)
  have y1 : (kd == 1) = false := by simp [e1]
  by_cases e2 : kd = 2
  · subst e2
    by_cases h4 : 4 ≤ n
    · have h4I : (4 : Int) ≤ n := by omega
      by_cases hev : n % 2 = 0
      · obtain ⟨k, hk⟩ : ∃ k : Nat, k = n / 2 := ⟨_, rfl⟩
        have u1 : Int.tmod (n : Int) 2 = 0 := by rw [Int.tmod_eq_emod_of_nonneg (by omega)]; omega
        have u2 : IntKind.i64.wrap ((n : Int) / 2) = k := by rw [IntKind.wrap_i64]; omega
        have hk2 : 2 ≤ k ∧ k ≤ 6 ∧ k * 2 ≤ most := by omega
        clear hk hev
        go_wp2_with fail
        refine (c_l02Twisted b k _ HD2.out.1 (by omega) (by omega)).mono ?_; rintro e w3 ⟨r3, r4, XA, XB, rfl, hsa3, hpm3, hln3, hd3⟩
        have HF3 := Lib.hid (hd3.blk HF2.out (by omega)); have HD3 := Lib.hid (HD2.out.trans hd3); have HSA3 := Lib.hid hsa3; have HP3 := Lib.hid (And.intro hpm3 hln3)
        have hbw2 := HD2.out.2.size
        clear hd3 hsa3 hpm3 hln3
        go_wp2_with fail
        refine (c_l02Twisted b 2 _ HD3.out.1 (by omega) (by omega)).mono ?_; rintro e w4 ⟨r5, r6, YA, YB, rfl, hsa4, hpm4, hln4, hd4⟩
        have HF4 := Lib.hid (hd4.blk HF3.out (by omega)); have HD4 := Lib.hid (HD3.out.trans hd4); have HSA4 := Lib.hid hsa4; have HP4 := Lib.hid (And.intro hpm4 hln4)
        have HSA3' := Lib.hid (HSA3.out.drew hd4 (by omega))
        clear hd4 hsa4 hpm4 hln4
        go_wp2_with fail
        refine (c_l02Product _ _ XA XB _ _ YA YB _ HSA3'.out.sol HSA4.out.sol HP3.out.1 HP4.out.1 (by rw [HP3.out.2, HP4.out.2]; omega)).mono ?_; rintro e w9 hz
        obtain ⟨r8, r9, he, hsa, hb9⟩ := rsolR_at hz
        subst he
        obtain ⟨sa1, sl1, sc1, sa2, sl2, sc2, hv1, hv2⟩ := hsa.any
        subst hv1 hv2
        have hf := HF4.out.under hb9
        obtain ⟨z0, z1, z2, z3⟩ := two_cells hf
        have HSA := Lib.hid hsa; have HD9 := Lib.hid (HD4.out.under hb9); have HLT := HF4.out.lt
        have HPM := Lib.hid (pr_pm HP3.out.1 HP4.out.1 (by rw [HP3.out.2, HP4.out.2]; omega)); have HLN := Lib.hid (show (prT XA YA).length ≤ most by rw [prT_length, HP3.out.2, HP4.out.2]; omega)
        clear hsa hf
        go_wp2
        exact bodyPost_ret (v := .agg #[.slice sa1 sl1 sc1, .slice sa2 sl2 sc2]) (by simp [results, Try.results183, go_sem, z0, z1]) rfl (any_end HSA.out HLT hbl HPM.out HLN.out HD9.out)
      · have u1 : ¬ Int.tmod (n : Int) 2 = 0 := by rw [Int.tmod_eq_emod_of_nonneg (by omega)]; omega
        go_wp2_with fail
        refine (c_l02Twisted b n _ HD2.out.1 hn1 (by omega)).mono ?_; rintro e w9 ⟨r8, r9, XA, XB, rfl, hsa, hpm, hln, hd9⟩
        obtain ⟨sa1, sl1, sc1, sa2, sl2, sc2, hv1, hv2⟩ := hsa.any
        subst hv1 hv2
        have hf := hd9.blk HF2.out (by omega)
        obtain ⟨z0, z1, z2, z3⟩ := two_cells hf
        have HSA := Lib.hid hsa; have HD9 := Lib.hid (HD2.out.trans hd9); have HLT := HF2.out.lt
        have HPM := Lib.hid (hpm); have HLN := Lib.hid (show XA.length ≤ most by omega)
        clear hsa hf
        go_wp2
        exact bodyPost_ret (v := .agg #[.slice sa1 sl1 sc1, .slice sa2 sl2 sc2]) (by simp [results, Try.results183, go_sem, z0, z1]) rfl (any_end HSA.out HLT hbl HPM.out HLN.out HD9.out)
    · have h4I : ¬ ((4 : Int) ≤ n) := by omega
      go_wp2_with fail
      refine (c_l02Twisted b n _ HD2.out.1 hn1 (by omega)).mono ?_; rintro e w9 ⟨r8, r9, XA, XB, rfl, hsa, hpm, hln, hd9⟩
      obtain ⟨sa1, sl1, sc1, sa2, sl2, sc2, hv1, hv2⟩ := hsa.any
      subst hv1 hv2
      have hf := hd9.blk HF2.out (by omega)
      obtain ⟨z0, z1, z2, z3⟩ := two_cells hf
      have HSA := Lib.hid hsa; have HD9 := Lib.hid (HD2.out.trans hd9); have HLT := HF2.out.lt
      have HPM := Lib.hid (hpm); have HLN := Lib.hid (show XA.length ≤ most by omega)
      clear hsa hf
      go_wp2
      exact bodyPost_ret (v := .agg #[.slice sa1 sl1 sc1, .slice sa2 sl2 sc2]) (by simp [results, Try.results183, go_sem, z0, z1]) rfl (any_end HSA.out HLT hbl HPM.out HLN.out HD9.out)
  have y2 : (kd == 2) = false := by simp [e2]
  by_cases e3 : kd = 3
  · subst e3
    by_cases hn2 : 2 ≤ n
    · have hn2I : (2 : Int) ≤ n := by omega
      go_wp2_with fail
      refine (c_l01Next b ((n : Int) - 1) _ HD2.out.1 (by omega) (by omega)).mono ?_; rintro e w3 ⟨t, rfl, t0, t1, hd3⟩
      obtain ⟨q, hq⟩ : ∃ q : Nat, q = t.toNat + 1 := ⟨_, rfl⟩
      have hqI : 1 + t = q := by omega
      have hq1 : 1 ≤ q ∧ q < n := by omega
      have hqr : (n : Int) - q = (n - q : Nat) := by omega
      have HF3 := Lib.hid (hd3.blk HF2.out (by omega)); have HD3 := Lib.hid (HD2.out.trans hd3)
      have hbw2 := HD3.out.2.size
      clear hd3 hq
      go_wp2_with fail
      refine (HIH.out q (by omega) _ HD3.out.1 (by omega) (by omega)).mono ?_; rintro e w4 ⟨r3, r4, XA, XB, rfl, hsa3, hpm3, hln3, hd4⟩
      have HF4 := Lib.hid (hd4.blk HF3.out (by omega)); have HD4 := Lib.hid (HD3.out.trans hd4); have HSA3 := Lib.hid hsa3; have HP3 := Lib.hid (And.intro hpm3 hln3)
      clear hd4 hsa3 hpm3 hln3
      go_wp2_with fail
      refine (c_l02Twisted b (n - q) _ HD4.out.1 (by omega) (by omega)).mono ?_; rintro e w5 ⟨r5, r6, YA, YB, rfl, hsa4, hpm4, hln4, hd5⟩
      have HF5 := Lib.hid (hd5.blk HF4.out (by omega)); have HD5 := Lib.hid (HD4.out.trans hd5); have HSA4 := Lib.hid hsa4; have HP4 := Lib.hid (And.intro hpm4 hln4)
      have HSA3' := Lib.hid (HSA3.out.drew hd5 (by omega))
      clear hd5 hsa4 hpm4 hln4
      have hsz : XA.length + YA.length ≤ most := by have := HP3.out.2; have := HP4.out.2; omega
      go_wp2_with fail
      refine (c_l02Union _ _ XA XB _ _ YA YB _ HSA3'.out.sol HSA4.out.sol HP3.out.1 HP4.out.1 (by omega)).mono ?_; rintro e w9 hz
      obtain ⟨r8, r9, he, hsa, hb9⟩ := rsolR_at hz
      subst he
      obtain ⟨sa1, sl1, sc1, sa2, sl2, sc2, hv1, hv2⟩ := hsa.any
      subst hv1 hv2
      have hf := HF5.out.under hb9
      obtain ⟨z0, z1, z2, z3⟩ := two_cells hf
      have HSA := Lib.hid hsa; have HD9 := Lib.hid (HD5.out.under hb9); have HLT := HF5.out.lt
      have HPM := Lib.hid (un_pm HP3.out.1 HP4.out.1 (by omega)); have HLN := Lib.hid (show (unTA XA YA).length ≤ most by rw [unTA_length]; omega)
      clear hsa hf
      go_wp2
      exact bodyPost_ret (v := .agg #[.slice sa1 sl1 sc1, .slice sa2 sl2 sc2]) (by simp [results, Try.results183, go_sem, z0, z1]) rfl (any_end HSA.out HLT hbl HPM.out HLN.out HD9.out)
    · have hn2I : ¬ ((2 : Int) ≤ n) := by omega
      go_wp2_with fail
      refine (c_l02Twisted b n _ HD2.out.1 hn1 (by omega)).mono ?_; rintro e w9 ⟨r8, r9, XA, XB, rfl, hsa, hpm, hln, hd9⟩
      obtain ⟨sa1, sl1, sc1, sa2, sl2, sc2, hv1, hv2⟩ := hsa.any
      subst hv1 hv2
      have hf := hd9.blk HF2.out (by omega)
      obtain ⟨z0, z1, z2, z3⟩ := two_cells hf
      have HSA := Lib.hid hsa; have HD9 := Lib.hid (HD2.out.trans hd9); have HLT := HF2.out.lt
      have HPM := Lib.hid (hpm); have HLN := Lib.hid (show XA.length ≤ most by omega)
      clear hsa hf
      go_wp2
      exact bodyPost_ret (v := .agg #[.slice sa1 sl1 sc1, .slice sa2 sl2 sc2]) (by simp [results, Try.results183, go_sem, z0, z1]) rfl (any_end HSA.out HLT hbl HPM.out HLN.out HD9.out)
  have y3 : (kd == 3) = false := by simp [e3]
  by_cases e4 : kd = 4
  · subst e4
    by_cases hm4 : 4 ≤ most
    · have hmI : (4 : Int) ≤ most := by omega
      go_wp2_with fail
      obtain ⟨W8, hW8⟩ : ∃ W, W = (((((w2.alloc (.cells #[.int .i64 0, .int .i64 1, .int .i64 3, .int .i64 2] 2)).alloc (.cells #[.int .i64 0, .int .i64 1, .int .i64 3, .int .i64 2] 2)).alloc (.cells #[.int .i64 1, .int .i64 0, .int .i64 2, .int .i64 3] 2)).alloc (.cells #[.int .i64 1, .int .i64 0, .int .i64 2, .int .i64 3] 2)).alloc (.cells #[.slice (some ⟨w2.heap.size, 0, none⟩) 4 4, .slice (some ⟨w2.heap.size + 1, 0, none⟩) 4 4, .slice (some ⟨w2.heap.size + 1 + 1, 0, none⟩) 4 4, .slice (some ⟨w2.heap.size + 1 + 1 + 1, 0, none⟩) 4 4] 25)) := ⟨_, rfl⟩
      obtain ⟨hr8, hb8⟩ := nv4_rows w2 W8 hW8
      rw [← hW8]
      have HF8 := Lib.hid (HF2.out.under hb8); have HD8 := Lib.hid (HD2.out.under hb8); have HR8 := Lib.hid hr8
      clear hr8 hb8 hW8
      refine (c_l02Involutive _ nv4 _ HR8.out nv4_pm.1).mono ?_; rintro e w9 hz
      obtain ⟨r8, r9, he, hsa, hb9⟩ := rsolR_at hz
      subst he
      obtain ⟨sa1, sl1, sc1, sa2, sl2, sc2, hv1, hv2⟩ := hsa.any
      subst hv1 hv2
      have hf := HF8.out.under hb9
      obtain ⟨z0, z1, z2, z3⟩ := two_cells hf
      have HSA := Lib.hid hsa; have HD9 := Lib.hid (HD8.out.under hb9); have HLT := HF8.out.lt
      have HPM := Lib.hid (nv4_pm.2); have HLN := Lib.hid (show nv4.length ≤ most by simp [nv4]; omega)
      clear hsa hf
      go_wp2
      exact bodyPost_ret (v := .agg #[.slice sa1 sl1 sc1, .slice sa2 sl2 sc2]) (by simp [results, Try.results183, go_sem, z0, z1]) rfl (any_end HSA.out HLT hbl HPM.out HLN.out HD9.out)
    · have hmI : ¬ ((4 : Int) ≤ most) := by omega
      go_wp2_with fail
      refine (c_l02Twisted b n _ HD2.out.1 hn1 (by omega)).mono ?_; rintro e w9 ⟨r8, r9, XA, XB, rfl, hsa, hpm, hln, hd9⟩
      obtain ⟨sa1, sl1, sc1, sa2, sl2, sc2, hv1, hv2⟩ := hsa.any
      subst hv1 hv2
      have hf := hd9.blk HF2.out (by omega)
      obtain ⟨z0, z1, z2, z3⟩ := two_cells hf
      have HSA := Lib.hid hsa; have HD9 := Lib.hid (HD2.out.trans hd9); have HLT := HF2.out.lt
      have HPM := Lib.hid (hpm); have HLN := Lib.hid (show XA.length ≤ most by omega)
      clear hsa hf
      go_wp2
      exact bodyPost_ret (v := .agg #[.slice sa1 sl1 sc1, .slice sa2 sl2 sc2]) (by simp [results, Try.results183, go_sem, z0, z1]) rfl (any_end HSA.out HLT hbl HPM.out HLN.out HD9.out)
  have y4 : (kd == 4) = false := by simp [e4]
  by_cases e5 : kd = 5
  · subst e5
    by_cases hn2 : 2 ≤ n
    · have hn2I : (2 : Int) ≤ n := by omega
      go_wp2_with fail
      refine (c_l02Polygon n _ hn1 (by omega)).mono ?_; rintro e w3 hz
      obtain ⟨r3, r4, he, hsa3, hb3⟩ := rsolR_at hz
      subst he
      have HF3 := Lib.hid (HF2.out.under hb3); have HD3 := Lib.hid (HD2.out.under hb3); have HSA3 := Lib.hid hsa3
      clear hz hsa3 hb3
      go_wp2_with fail
      refine (c_l02InverseC _ _ (pgA n) (pgB n) _ HSA3.out.sol (pg_coll hn1 (by omega)) (pg_pm hn1 (by omega))).mono ?_; rintro e w9 hz
      obtain ⟨r8, r9, he, hsa, hb9⟩ := rsolR_at hz
      subst he
      obtain ⟨sa1, sl1, sc1, sa2, sl2, sc2, hv1, hv2⟩ := hsa.any
      subst hv1 hv2
      have hf := HF3.out.under hb9
      obtain ⟨z0, z1, z2, z3⟩ := two_cells hf
      have HSA := Lib.hid hsa; have HD9 := Lib.hid (HD3.out.under hb9); have HLT := HF3.out.lt
      have HPM := Lib.hid (iv_pm (pg_pm hn1 (by omega)) (pg_coll hn1 (by omega))); have HLN := Lib.hid (show (ivA (pgA n) (pgB n) (pgA n).length).length ≤ most by simp; omega)
      clear hsa hf
      go_wp2
      exact bodyPost_ret (v := .agg #[.slice sa1 sl1 sc1, .slice sa2 sl2 sc2]) (by simp [results, Try.results183, go_sem, z0, z1]) rfl (any_end HSA.out HLT hbl HPM.out HLN.out HD9.out)
    · have hn2I : ¬ ((2 : Int) ≤ n) := by omega
      go_wp2_with fail
      refine (c_l02Twisted b n _ HD2.out.1 hn1 (by omega)).mono ?_; rintro e w9 ⟨r8, r9, XA, XB, rfl, hsa, hpm, hln, hd9⟩
      obtain ⟨sa1, sl1, sc1, sa2, sl2, sc2, hv1, hv2⟩ := hsa.any
      subst hv1 hv2
      have hf := hd9.blk HF2.out (by omega)
      obtain ⟨z0, z1, z2, z3⟩ := two_cells hf
      have HSA := Lib.hid hsa; have HD9 := Lib.hid (HD2.out.trans hd9); have HLT := HF2.out.lt
      have HPM := Lib.hid (hpm); have HLN := Lib.hid (show XA.length ≤ most by omega)
      clear hsa hf
      go_wp2
      exact bodyPost_ret (v := .agg #[.slice sa1 sl1 sc1, .slice sa2 sl2 sc2]) (by simp [results, Try.results183, go_sem, z0, z1]) rfl (any_end HSA.out HLT hbl HPM.out HLN.out HD9.out)
  have y5 : (kd == 5) = false := by simp [e5]
  by_cases e6 : kd = 6
  · subst e6
    by_cases hm3 : 3 ≤ most
    · have hmI : (3 : Int) ≤ most := by omega
      go_wp2_with fail
      obtain ⟨W8, hW8⟩ : ∃ W, W = ((((w2.alloc (.cells #[.int .i64 0, .int .i64 1, .int .i64 2] 2)).alloc (.cells #[.int .i64 0, .int .i64 1, .int .i64 2] 2)).alloc (.cells #[.int .i64 1, .int .i64 0, .int .i64 2] 2)).alloc (.cells #[.slice (some ⟨w2.heap.size, 0, none⟩) 3 3, .slice (some ⟨w2.heap.size + 1, 0, none⟩) 3 3, .slice (some ⟨w2.heap.size + 1 + 1, 0, none⟩) 3 3] 25)) := ⟨_, rfl⟩
      obtain ⟨hr8, hb8⟩ := nv3_rows w2 W8 hW8
      rw [← hW8]
      have HF8 := Lib.hid (HF2.out.under hb8); have HD8 := Lib.hid (HD2.out.under hb8); have HR8 := Lib.hid hr8
      clear hr8 hb8 hW8
      refine (c_l02Involutive _ nv3 _ HR8.out nv3_pm.1).mono ?_; rintro e w9 hz
      obtain ⟨r8, r9, he, hsa, hb9⟩ := rsolR_at hz
      subst he
      obtain ⟨sa1, sl1, sc1, sa2, sl2, sc2, hv1, hv2⟩ := hsa.any
      subst hv1 hv2
      have hf := HF8.out.under hb9
      obtain ⟨z0, z1, z2, z3⟩ := two_cells hf
      have HSA := Lib.hid hsa; have HD9 := Lib.hid (HD8.out.under hb9); have HLT := HF8.out.lt
      have HPM := Lib.hid (nv3_pm.2); have HLN := Lib.hid (show nv3.length ≤ most by simp [nv3]; omega)
      clear hsa hf
      go_wp2
      exact bodyPost_ret (v := .agg #[.slice sa1 sl1 sc1, .slice sa2 sl2 sc2]) (by simp [results, Try.results183, go_sem, z0, z1]) rfl (any_end HSA.out HLT hbl HPM.out HLN.out HD9.out)
    · have hmI : ¬ ((3 : Int) ≤ most) := by omega
      go_wp2_with fail
      refine (c_l02Twisted b n _ HD2.out.1 hn1 (by omega)).mono ?_; rintro e w9 ⟨r8, r9, XA, XB, rfl, hsa, hpm, hln, hd9⟩
      obtain ⟨sa1, sl1, sc1, sa2, sl2, sc2, hv1, hv2⟩ := hsa.any
      subst hv1 hv2
      have hf := hd9.blk HF2.out (by omega)
      obtain ⟨z0, z1, z2, z3⟩ := two_cells hf
      have HSA := Lib.hid hsa; have HD9 := Lib.hid (HD2.out.trans hd9); have HLT := HF2.out.lt
      have HPM := Lib.hid (hpm); have HLN := Lib.hid (show XA.length ≤ most by omega)
      clear hsa hf
      go_wp2
      exact bodyPost_ret (v := .agg #[.slice sa1 sl1 sc1, .slice sa2 sl2 sc2]) (by simp [results, Try.results183, go_sem, z0, z1]) rfl (any_end HSA.out HLT hbl HPM.out HLN.out HD9.out)
  have y6 : (kd == 6) = false := by simp [e6]
  go_wp2_with fail
  refine (c_l02Twisted b n _ HD2.out.1 hn1 (by omega)).mono ?_; rintro e w9 ⟨r8, r9, XA, XB, rfl, hsa, hpm, hln, hd9⟩
  obtain ⟨sa1, sl1, sc1, sa2, sl2, sc2, hv1, hv2⟩ := hsa.any
  subst hv1 hv2
  have hf := hd9.blk HF2.out (by omega)
  obtain ⟨z0, z1, z2, z3⟩ := two_cells hf
  have HSA := Lib.hid hsa; have HD9 := Lib.hid (HD2.out.trans hd9); have HLT := HF2.out.lt
  have HPM := Lib.hid (hpm); have HLN := Lib.hid (show XA.length ≤ most by omega)
  clear hsa hf
  go_wp2
  exact bodyPost_ret (v := .agg #[.slice sa1 sl1 sc1, .slice sa2 sl2 sc2]) (by simp [results, Try.results183, go_sem, z0, z1]) rfl (any_end HSA.out HLT hbl HPM.out HLN.out HD9.out)
end Go.Proofs.Ytkcobfkmeaakoaa

namespace Go.Proofs.Ytkcobfkmeaakoaa
open Go Go.RowKit

theorem OwnSol.atW {lo hi : Nat} {w : World} {v1 v2 : Value} {A B : List (List Int)} (h : OwnSol lo hi w v1 v2 A B) : SolAt lo w v1 v2 A B := by
  obtain ⟨l1, h1, l2, h2, a, b, c, d, e, f, g⟩ := h
  exact ⟨f.out.wr.mono a, g.out.wr.mono c⟩
theorem SolAt.shape {lo : Nat} {w : World} {v1 v2 : Value} {A B : List (List Int)} (h : SolAt lo w v1 v2 A B) : ∃ a1 c1 a2 c2, v1 = .slice a1 A.length c1 ∧ v2 = .slice a2 B.length c2 := by
  obtain ⟨a1, c1, e1, _⟩ := h.1
  obtain ⟨a2, c2, e2, _⟩ := h.2
  exact ⟨a1, c1, a2, c2, e1, e2⟩
theorem SolAt.keep {lo : Nat} {S : Nat → Prop} {w w' : World} {v1 v2 : Value} {A B : List (List Int)} (h : SolAt lo w v1 v2 A B) (k : Keep S w w') (hS : ∀ b, lo ≤ b → ¬ S b) : SolAt lo w' v1 v2 A B := ⟨h.1.keep k hS, h.2.keep k hS⟩

set_option maxRecDepth 100000 in
set_option maxHeartbeats 4000000 in
theorem c_l02Draw (b most : Nat) (w : World) (hs : Src w b) (h1 : 1 ≤ most) (h2 : most ≤ 12) : Calls Try.prog 174 #[.pointer (some ⟨b, 0, none⟩), .int .i64 most] w (RDraw b most w) := by
  have HS := Lib.hid hs; have hbl := hs.lt; clear hs
  have HF0 : Hid (Blk (w.alloc (.cells #[.slice none 0 0, .slice none 0 0] 27)) w.heap.size 27 [.slice none 0 0, .slice none 0 0]) := Lib.hid (Blk.new w [.slice none 0 0, .slice none 0 0] 27)
  have HB0 : Hid (Below w.heap.size w (w.alloc (.cells #[.slice none 0 0, .slice none 0 0] 27))) := Lib.hid ((Below.refl _ _).alloc (Nat.le_refl _) _)
  go_enter Try.func174, Try.ntmps174
  have HS0 := Lib.hid (HS.out.under HB0.out)
  have HD0 := Lib.hid ((Drew.refl HS.out).under HB0.out)
  go_wp2_with fail
  refine (c_l02Any b most _ HS0.out h1 h2).mono ?_; rintro e w1 ⟨r1, r2, A, B, rfl, hsa, hpm, hln, hd1⟩
  obtain ⟨sa1, sc1, sa2, sc2, hv1, hv2⟩ := hsa.shape
  subst hv1 hv2
  have hba : Below w1.heap.size w1 (w1.alloc (.cells #[.slice sa1 A.length sc1, .slice sa2 B.length sc2] 27)) := (Below.refl _ _).alloc (Nat.le_refl _) _
  have hq : w.heap.size < w1.heap.size := by have := hd1.2.size; simp at this; omega
  have HBX := Lib.hid (show Blk (w1.alloc (.cells #[.slice sa1 A.length sc1, .slice sa2 B.length sc2] 27)) w1.heap.size 27 [.slice sa1 A.length sc1, .slice sa2 B.length sc2] from Blk.new w1 [.slice sa1 A.length sc1, .slice sa2 B.length sc2] 27)
  have HF1 := Lib.hid ((hd1.blk HF0.out (by omega)).under hba); have HD1 := Lib.hid ((HD0.out.trans hd1).under hba)
  have HSA1 := Lib.hid ((hsa.under hba).mono (show w.heap.size + 1 ≤ _ by simp)); have HPM := Lib.hid hpm; have HLN := Lib.hid hln
  have hl1 := (isTab_len (isPM_parts hpm).1).1
  clear hd1 hsa hpm hln hba HD0 HF0 HS0 HB0
  go_wp2_with fail
  refine (c_l01Next b 4 _ HD1.out.1 (by omega) (by omega)).mono ?_; rintro e w2 ⟨t, rfl, t0, t1, hd2⟩
  have HF2 := Lib.hid (hd2.blk HF1.out (by omega)); have HD2 := Lib.hid (HD1.out.trans hd2)
  have HSA2 := Lib.hid (HSA1.out.drew hd2 (by omega)); have HBX2 := Lib.hid (hd2.blk HBX.out (by omega))
  have hw2 : w1.heap.size < w2.heap.size := HBX2.out.lt
  clear hd2 HF1 HD1 HSA1 HBX
  by_cases ht : 0 < t
  · have HK : Hid (∀ w' : World, Keep (fun k => k = b ∨ k = w.heap.size ∨ w2.heap.size ≤ k) w2 w' → w'.cell? ⟨w1.heap.size, 0, none⟩ = some (.slice sa1 A.length sc1) ∧ w'.cell? ⟨w1.heap.size, 1, none⟩ = some (.slice sa2 B.length sc2)) := Lib.hid (fun w' k => by
      have := HBX2.out.of_block (k.block w1.heap.size hw2 (by omega))
      obtain ⟨x0, x1, -, -⟩ := two_cells this
      exact ⟨x0, x1⟩)
    have K0 : Keep (fun k => k = b ∨ k = w.heap.size ∨ w2.heap.size ≤ k) w2 w2.drew := (Keep.refl _ w2).drew
    have HDw := Lib.hid (HD2.out.under ((Below.refl w2.heap.size w2).drew))
    have HSrc := Lib.hid HDw.out.1
    have HFw := Lib.hid (HF2.out.under ((Below.refl w2.heap.size w2).drew))
    have HSAw := Lib.hid (HSA2.out.under ((Below.refl w2.heap.size w2).drew))
    have HRW := Lib.hid (show ∀ p : List Int, p.length = A.length → Permuted p → RenOk A p ∧ RenOk B p from fun p e1 e2 => ⟨⟨(isPM_parts HPM.out).1, e2, e1⟩, (isPM_parts HPM.out).2.1, e2, e1.trans (isPM_parts HPM.out).2.2⟩)
    have hl2 : A.length ≤ 1000 := by have := HLN.out; omega
    have hws : w2.drew.heap.size = w2.heap.size := rfl
    obtain ⟨zc0, zc1⟩ := HK.out _ K0
    go_wp2
    go_region_held3 (fun w' => w'.cell? ⟨w1.heap.size, 0, none⟩ = some (.slice sa1 A.length sc1) ∧ w'.cell? ⟨w1.heap.size, 1, none⟩ = some (.slice sa2 B.length sc2))
      (first | exact HK.out _ K0 | exact HK.out _ K3 | exact HK.out _ K4 | exact HK.out _ K5)
      (first
        | (go_at_call 154; (with_reducible refine (c_l01DrawP b A.length _ HSrc.out hl1 hl2).mono ?_); rintro e w3 ⟨r, p, rfl, hpl, hpp, hop, hd3⟩; have K3 := K0.trans (keep_mono hd3.2 (T := fun k => k = b ∨ k = w.heap.size ∨ w2.heap.size ≤ k) (fun x hx => .inl hx)); have HD3 := Lib.hid (HDw.out.trans hd3); have HF3 := Lib.hid (hd3.blk HFw.out (by omega)); have HS3 := Lib.hid (HSAw.out.drew hd3 (by omega)).sol; have HRA := Lib.hid (HRW.out p hpl hpp).1; have HRB := Lib.hid (HRW.out p hpl hpp).2; have HP3 := Lib.hid hop.ints; have HPP := Lib.hid (And.intro hpl hpp); obtain ⟨zd0, zd1⟩ := HK.out _ K3; clear hd3 hop hpl hpp)
        | (go_at_call 171; (with_reducible refine (c_l02Rename _ _ _ A B p _ HS3.out HP3.out HRA.out HRB.out).mono ?_); rintro e w4 ⟨u1, u2, rfl, hos, hb4⟩; obtain ⟨ua1, uc1, ua2, uc2, hu1, hu2⟩ := hos.atW.shape; rw [renL_length] at hu1 hu2; subst hu1 hu2; have K4 := K3.trans (keep_mono (Keep.of_below hb4) (T := fun k => k = b ∨ k = w.heap.size ∨ w2.heap.size ≤ k) (fun x hx => .inr (.inr (Nat.le_trans K3.size hx)))); obtain ⟨ze0, ze1⟩ := HK.out _ K4; have K5 := (K4.setCell (p := ⟨w.heap.size, 0, none⟩) (.inl (.inr (.inl rfl))) (.slice ua1 A.length uc1)).setCell (p := ⟨w.heap.size, 1, none⟩) (.inl (.inr (.inl rfl))) (.slice ua2 B.length uc2); have HD4 := Lib.hid (HD3.out.under hb4); have hf4 := HF3.out.under hb4; obtain ⟨y0, y1, y2, y3⟩ := two_cells hf4; have HSO := Lib.hid hos.atW; have HSZ := Lib.hid (show w.heap.size < w3.heap.size from HF3.out.lt); clear hos hb4))
    all_goals
      have HPM4 := Lib.hid (ren_pm HPM.out HPP.out.2 HPP.out.1)
      have HLN4 : Hid ((renL A p).length ≤ most) := Lib.hid (by rw [renL_length]; exact HLN.out)
      rename_i hHz
      clear hHz
      go_wp2
      exact bodyPost_ret (v := .agg #[.slice ua1 A.length uc1, .slice ua2 B.length uc2]) (by simp [results, Try.results174, go_sem, y0, y1]) rfl (any_end HSO.out HSZ.out hbl HPM4.out HLN4.out HD4.out)
  · have HFin := Lib.hid HD2.out
    obtain ⟨x0, x1, -, -⟩ := two_cells HBX2.out
    obtain ⟨z0, z1, z2, z3⟩ := two_cells HF2.out
    go_wp2
    exact bodyPost_ret (v := .agg #[.slice sa1 A.length sc1, .slice sa2 B.length sc2]) (by simp [results, Try.results174, go_sem, z0, z1]) rfl (any_end HSA2.out (Nat.lt_succ_self _) hbl HPM.out HLN.out HFin.out)
end Go.Proofs.Ytkcobfkmeaakoaa

namespace Go.Proofs.Ytkcobfkmeaakoaa
open Go Go.RowKit

/-- The table can be read now, and after all changes that leave the blocks from lo on as they are. -/
def RdR (lo : Nat) (w : World) (v : Value) (X : List (List Int)) : Prop :=
  ∀ (S : Nat → Prop) (w' : World), Keep S w w' → (∀ b, lo ≤ b → b < w.heap.size → ¬ S b) → Rows w' v X
theorem keep_low {S : Nat → Prop} {w w' : World} (k : Keep S w w') : Keep (fun b => S b ∧ b < w.heap.size) w w' := ⟨k.os, k.tape, k.output, k.size, fun x hx hn => k.block x hx (fun e => hn ⟨e, hx⟩)⟩
theorem RowsW.rd {lo : Nat} {w : World} {v : Value} {X : List (List Int)} (h : RowsW lo w v X) : RdR lo w v X := fun _ _ k hS => (h.keepB k hS).rows
theorem RowsAt.rd {lo : Nat} {w : World} {v : Value} {X : List (List Int)} (h : RowsAt lo w v X) : RdR lo w v X := fun _ _ k hS => (h.keep (keep_low k) (fun b hb e => hS b hb e.2 e.1)).rows
namespace RdR
variable {lo : Nat} {w w' : World} {v : Value} {X : List (List Int)}
theorem rows (h : RdR lo w v X) : Rows w v X := h (fun _ => False) w (Keep.refl _ _) (fun _ _ _ e => e)
theorem keep (h : RdR lo w v X) {S : Nat → Prop} (k : Keep S w w') (hS : ∀ b, lo ≤ b → b < w.heap.size → ¬ S b) : RdR lo w' v X := by
  intro S2 w2 k2 h2
  refine h (fun b => S b ∨ S2 b) w2 ?_ ?_
  · refine ⟨k2.os.trans k.os, k2.tape.trans k.tape, k2.output.trans k.output, Nat.le_trans k.size k2.size, fun x hx hn => ?_⟩
    have e1 := k.block x hx (fun e => hn (.inl e))
    have e2 := k2.block x (Nat.lt_of_lt_of_le hx k.size) (fun e => hn (.inr e))
    exact e2.trans e1
  · intro b h3 h4 h5
    rcases h5 with h5 | h5
    · exact hS b h3 h4 h5
    · exact h2 b h3 (Nat.lt_of_lt_of_le h4 k.size) h5
theorem drew {b : Nat} (h : RdR lo w v X) (hd : Drew b w w') (hb : b < lo) : RdR lo w' v X := h.keep hd.2 (fun x hx _ e => by have e : x = b := e; omega)
theorem under (h : RdR lo w v X) (hb : Below w.heap.size w w') : RdR lo w' v X :=
  h.keep (S := fun b => w.heap.size ≤ b) (Keep.of_below hb) fun b _ h1 h2 => by have h2 : w.heap.size ≤ b := h2; omega
theorem mono {lo' : Nat} (h : RdR lo w v X) (hl : lo' ≤ lo) : RdR lo' w v X := fun S w' k hS => h S w' k (fun b hb h2 => hS b (Nat.le_trans hl hb) h2)
end RdR
/-- A pair of tables that can be read, in blocks from lo on. -/
def RdS (lo : Nat) (w : World) (v1 v2 : Value) (A B : List (List Int)) : Prop := RdR lo w v1 A ∧ RdR lo w v2 B
namespace RdS
variable {lo : Nat} {w w' : World} {v1 v2 : Value} {A B : List (List Int)}
theorem sol (h : RdS lo w v1 v2 A B) : Sol w v1 v2 A B := ⟨h.1.rows, h.2.rows⟩
theorem keep (h : RdS lo w v1 v2 A B) {S : Nat → Prop} (k : Keep S w w') (hS : ∀ b, lo ≤ b → b < w.heap.size → ¬ S b) : RdS lo w' v1 v2 A B := ⟨h.1.keep k hS, h.2.keep k hS⟩
theorem drew {b : Nat} (h : RdS lo w v1 v2 A B) (hd : Drew b w w') (hb : b < lo) : RdS lo w' v1 v2 A B := ⟨h.1.drew hd hb, h.2.drew hd hb⟩
theorem under (h : RdS lo w v1 v2 A B) (hb : Below w.heap.size w w') : RdS lo w' v1 v2 A B := ⟨h.1.under hb, h.2.under hb⟩
theorem mono {lo' : Nat} (h : RdS lo w v1 v2 A B) (hl : lo' ≤ lo) : RdS lo' w v1 v2 A B := ⟨h.1.mono hl, h.2.mono hl⟩
end RdS
/-- What a draw of a pair of tables leaves, which need be no pair map. -/
def RSpoil (b : Nat) (w : World) (e : Ending) (w' : World) : Prop :=
  ∃ (r1 r2 : Value) (A B : List (List Int)), e = .returned (.agg #[r1, r2]) ∧ RdS w.heap.size w' r1 r2 A B ∧ A.length ≤ 101 ∧ Drew b w w'
theorem spoil_end {b lo : Nat} {w w9 : World} {r1 r2 : Value} {A B : List (List Int)} (hsa : RdS lo w9 r1 r2 A B) (hlo : w.heap.size < lo) (hbl : b < w.heap.size) (hl : A.length ≤ 101) (hd : Drew b w w9) :
    RSpoil b w (.returned (.agg #[r1, r2])) ((w9.setCell ⟨w.heap.size, 0, none⟩ r1).setCell ⟨w.heap.size, 1, none⟩ r2) := by
  have kz : Keep (fun x => x = w.heap.size) w9 ((w9.setCell ⟨w.heap.size, 0, none⟩ r1).setCell ⟨w.heap.size, 1, none⟩ r2) := keep_early _ _ _ _
  exact ⟨_, _, A, B, rfl, (hsa.keep kz (fun x hx _ e => by have e : x = w.heap.size := e; omega)).mono (by omega), hl,
    drew_set (drew_set hd (p := ⟨w.heap.size, 0, none⟩) (Nat.le_refl _) hbl _) (p := ⟨w.heap.size, 1, none⟩) (Nat.le_refl _) hbl _⟩
end Go.Proofs.Ytkcobfkmeaakoaa

namespace Go.Proofs.Ytkcobfkmeaakoaa
open Go Go.RowKit

theorem wide_tab {A : List (List Int)} (h : isTab A = true) : Wide A.length A := fun r hr => by
  obtain ⟨i, hi, rfl⟩ := List.getElem_of_mem hr
  have := isTab_row h (x := (i : Int)) (by omega) (by omega)
  rw [row_nat _ _ hi] at this; omega
theorem SolAt.rd {lo : Nat} {w : World} {v1 v2 : Value} {A B : List (List Int)} (h : SolAt lo w v1 v2 A B) : RdS lo w v1 v2 A B := ⟨h.1.rd, h.2.rd⟩
theorem RowsAt.monoB {lo lo' : Nat} {w : World} {v : Value} {X : List (List Int)} (h : RowsAt lo w v X) (hl : lo' ≤ lo) : RowsAt lo' w v X := h.mono hl
/-- A store of a slice into a table of a pair. -/
theorem SolAt.putS {lo m n1 c1 n2 c2 : Nat} {w : World} {a1 a2 : Option Addr} {A B : List (List Int)} (h : SolAt lo w (.slice a1 n1 c1) (.slice a2 n2 c2) A B) (hA : Wide m A) (hB : Wide m B) {p : Addr} {a0 : Option Addr} {n0 c0 : Nat} (hp : w.cell? p = some (.slice a0 n0 c0)) {u : Value} {ys : List Int} (hu : IntsW lo w u ys) (hy : ys.length ≤ m) :
    ∃ Y Z, Y.length = A.length ∧ SolAt lo (w.setCell p u) (.slice a1 n1 c1) (.slice a2 n2 c2) Y Z := by
  obtain ⟨Y, h1, _, h2⟩ := h.1.putS hA hp hu hy
  obtain ⟨Z, _, _, h4⟩ := h.2.putS hB hp hu hy
  exact ⟨Y, Z, h1, h2, h4⟩
theorem SolAt.putI {lo m n1 c1 n2 c2 : Nat} {w : World} {a1 a2 : Option Addr} {A B : List (List Int)} (h : SolAt lo w (.slice a1 n1 c1) (.slice a2 n2 c2) A B) (hA : Wide m A) (hB : Wide m B) {p : Addr} {y0 : Int} (hp : w.cell? p = some (.int .i64 y0)) (z : Int) :
    ∃ Y Z, Y.length = A.length ∧ SolAt lo (w.setCell p (.int .i64 z)) (.slice a1 n1 c1) (.slice a2 n2 c2) Y Z := by
  obtain ⟨Y, h1, _, h2⟩ := h.1.putI hA hp z
  obtain ⟨Z, _, _, h4⟩ := h.2.putI hB hp z
  exact ⟨Y, Z, h1, h2, h4⟩
/-- Where a table's cells lie. -/
theorem RowsW.home {lo : Nat} {w : World} {a : Option Addr} {n c : Nat} {X : List (List Int)} (h : RowsW lo w (.slice a n c) X) (hX : 0 < X.length) : ∃ tb, a = some ⟨tb, 0, none⟩ ∧ lo ≤ tb ∧ tb < w.heap.size := by
  obtain ⟨b, a', c', ha, hlo, hc, _⟩ := h.at 0 hX
  exact ⟨b, ha, hlo, cell_lt hc⟩
theorem RowsW.cellAt {lo : Nat} {w : World} {tb n c : Nat} {X : List (List Int)} (h : RowsW lo w (.slice (some ⟨tb, 0, none⟩) n c) X) (k : Nat) (hk : k < X.length) :
    ∃ a' c', w.cell? ⟨tb, k, none⟩ = some (.slice a' (row X k).length c') ∧ w.frozen? ⟨tb, k, none⟩ = false ∧ IntsW lo w (.slice a' (row X k).length c') (row X k) := by
  obtain ⟨b, a', c', ha, hlo, hc, hf, hi⟩ := h.at k hk
  injection ha with ha; injection ha with ha; subst ha
  exact ⟨a', c', hc, hf, hi⟩
theorem RowsW.rowAt {lo m : Nat} {w : World} {tb n c : Nat} {X : List (List Int)} (h : RowsW lo w (.slice (some ⟨tb, 0, none⟩) n c) X) (k : Nat) (hk : k < X.length) (hl : (row X k).length = m) (hm : 0 < m) :
    ∃ rb c', w.cell? ⟨tb, k, none⟩ = some (.slice (some ⟨rb, 0, none⟩) m c') ∧ lo ≤ rb ∧ rb < w.heap.size ∧ IntsW lo w (.slice (some ⟨rb, 0, none⟩) m c') (row X k) := by
  obtain ⟨a', c', hc, _, hi⟩ := h.cellAt k hk
  obtain ⟨rb, ha, hlo, h0, _⟩ := hi.at0 0 (by omega)
  subst ha
  rw [hl] at hc hi
  exact ⟨rb, c', hc, hlo, cell_lt h0, hi⟩
theorem IntsW.cellAt {lo : Nat} {w : World} {rb n c : Nat} {xs : List Int} (h : IntsW lo w (.slice (some ⟨rb, 0, none⟩) n c) xs) (k : Nat) (hk : k < xs.length) : w.cell? ⟨rb, k, none⟩ = some (.int .i64 (nth xs k)) ∧ w.frozen? ⟨rb, k, none⟩ = false := by
  obtain ⟨b, ha, hlo, hc, hf⟩ := h.at0 k hk
  injection ha with ha; injection ha with ha; subst ha
  exact ⟨hc, hf⟩
theorem RowsAt.isSlice {lo : Nat} {w : World} {v : Value} {X : List (List Int)} (h : RowsAt lo w v X) : ∃ a c, v = .slice a X.length c := by
  obtain ⟨a, c, hv, _⟩ := h
  exact ⟨a, c, hv⟩

set_option maxRecDepth 100000 in
set_option maxHeartbeats 8000000 in
theorem c_l02Spoil (b most : Nat) (w : World) (hs : Src w b) (h1 : 1 ≤ most) (h2 : most ≤ 12) : Calls Try.prog 129 #[.pointer (some ⟨b, 0, none⟩), .int .i64 most] w (RSpoil b w) := by
  have HS := Lib.hid hs; have hbl := hs.lt; clear hs
  have HF0 : Hid (Blk (w.alloc (.cells #[.slice none 0 0, .slice none 0 0] 27)) w.heap.size 27 [.slice none 0 0, .slice none 0 0]) := Lib.hid (Blk.new w [.slice none 0 0, .slice none 0 0] 27)
  have HB0 : Hid (Below w.heap.size w (w.alloc (.cells #[.slice none 0 0, .slice none 0 0] 27))) := Lib.hid ((Below.refl _ _).alloc (Nat.le_refl _) _)
  go_enter Try.func129, Try.ntmps129
  have HS0 := Lib.hid (HS.out.under HB0.out)
  have HD0 := Lib.hid ((Drew.refl HS.out).under HB0.out)
  go_wp2_with fail
  refine (c_l02Draw b most _ HS0.out h1 h2).mono ?_; rintro e w1 ⟨r1, r2, A, B, rfl, hsa, hpm, hln, hd1⟩
  obtain ⟨sa1, sc1, sa2, sc2, hv1, hv2⟩ := hsa.shape
  subst hv1 hv2
  obtain ⟨n, hnA⟩ : ∃ n, A.length = n := ⟨_, rfl⟩
  have hnB : B.length = n := by rw [← hnA]; exact (isPM_parts hpm).2.2.symm
  have hn1 : 1 ≤ n := by have := (isTab_len (isPM_parts hpm).1).1; omega
  have hn12 : n ≤ 12 := by omega
  rw [hnA, hnB] at hsa ⊢
  obtain ⟨tb, hsa1, tb0, tb1⟩ := hsa.1.home (by omega)
  obtain ⟨tc, hsa2, tc0, tc1⟩ := hsa.2.home (by omega)
  subst hsa1 hsa2
  have hwA : Wide n A := by rw [← hnA]; exact wide_tab (isPM_parts hpm).1
  have hwB : Wide n B := by rw [← hnB]; exact wide_tab (isPM_parts hpm).2.1
  have hrB : ∀ k : Nat, k < n → (row B k).length = n := fun k hk => by rw [← hnB]; exact isTab_row (isPM_parts hpm).2.1 (by omega) (by omega)
  have HRow : Hid (∀ k : Nat, k < n → ∃ rb c', w1.cell? ⟨tc, k, none⟩ = some (.slice (some ⟨rb, 0, none⟩) n c') ∧ w.heap.size < rb ∧ rb < w1.heap.size ∧ IntsW (w.heap.size + 1) w1 (.slice (some ⟨rb, 0, none⟩) n c') (row B k)) := Lib.hid fun k hk => by
    obtain ⟨rb, c', q1, q2, q3, q4⟩ := hsa.2.rowAt k (by omega) (hrB k hk) hn1
    simp at q2
    exact ⟨rb, c', q1, by omega, q3, q4.mono (by simp)⟩
  have HN := Lib.hid (And.intro hnA hnB); have HW := Lib.hid (And.intro hwA hwB); have HRB := Lib.hid hrB
  have hba : Below w1.heap.size w1 (w1.alloc (.cells #[.slice (some ⟨tb, 0, none⟩) n sc1, .slice (some ⟨tc, 0, none⟩) n sc2] 27)) := (Below.refl _ _).alloc (Nat.le_refl _) _
  have hq : w.heap.size < w1.heap.size := by have := hd1.2.size; simp at this; omega
  have HBX := Lib.hid (show Blk (w1.alloc (.cells #[.slice (some ⟨tb, 0, none⟩) n sc1, .slice (some ⟨tc, 0, none⟩) n sc2] 27)) w1.heap.size 27 [.slice (some ⟨tb, 0, none⟩) n sc1, .slice (some ⟨tc, 0, none⟩) n sc2] from Blk.new w1 [.slice (some ⟨tb, 0, none⟩) n sc1, .slice (some ⟨tc, 0, none⟩) n sc2] 27)
  have HF1 := Lib.hid ((hd1.blk HF0.out (by omega)).under hba); have HD1 := Lib.hid ((HD0.out.trans hd1).under hba)
  have HSA1 := Lib.hid ((hsa.under hba).mono (show w.heap.size + 1 ≤ _ by simp))
  have HKA : Hid (Keep (fun k => w1.heap.size ≤ k) w1 (w1.alloc (.cells #[.slice (some ⟨tb, 0, none⟩) n sc1, .slice (some ⟨tc, 0, none⟩) n sc2] 27))) := Lib.hid (Keep.of_below hba)
  have HRd1 := Lib.hid ((hsa.mono (show w.heap.size + 1 ≤ _ by simp)).rd)
  simp at tb0 tc0
  have htb : w.heap.size < tb := by omega
  have htc : w.heap.size < tc := by omega
  clear hd1 hsa hpm hln hba HD0 HF0 HS0 HB0 hnA hnB hwA hwB hrB tb0 tc0
  go_wp2_with fail
  refine (c_l01Next b 24 _ HD1.out.1 (by omega) (by omega)).mono ?_; rintro e w2 ⟨kd, rfl, kd0, kd1, hd2⟩
  have HF2 := Lib.hid (hd2.blk HF1.out (by omega)); have HD2 := Lib.hid (HD1.out.trans hd2)
  have HSA2 := Lib.hid (HSA1.out.drew hd2 (by omega)); have HBX2 := Lib.hid (hd2.blk HBX.out (by omega))
  have hw2 : w1.heap.size < w2.heap.size := HBX2.out.lt
  have HKW2 : Hid (Keep (fun k => k = b ∨ w1.heap.size ≤ k) w1 w2) := Lib.hid ((keep_mono HKA.out (fun x h => .inr h)).trans (keep_mono hd2.2 (fun x h => .inl h)))
  -- the cells of the second table's rows, at w2 and later
  have HRow2 : Hid (∀ k : Nat, k < n → ∃ rb c', rb < w1.heap.size ∧ w.heap.size < rb ∧ ∀ w' : World, Keep (fun j => j = b ∨ w2.heap.size ≤ j) w2 w' → w'.cell? ⟨tc, k, none⟩ = some (.slice (some ⟨rb, 0, none⟩) n c') ∧ IntsW (w.heap.size + 1) w' (.slice (some ⟨rb, 0, none⟩) n c') (row B k)) := Lib.hid fun k hk => by
    obtain ⟨rb, c', q1, q2, q3, q4⟩ := HRow.out k hk
    have q5 := cell_of_block (HKA.out.block tc tc1 (by omega)) q1
    have q6 := cell_of_block (hd2.2.block tc (cell_lt q5) (by omega)) q5
    have q7 : IntsW (w.heap.size + 1) _ _ _ := (q4.keep HKA.out (fun x _ h e => by omega)).keep hd2.2 (fun x h _ e => by have e : x = b := e; omega)
    refine ⟨rb, c', q3, q2, fun w' k' => ⟨cell_of_block (k'.block tc (cell_lt q6) (by omega)) q6, q7.keep k' (fun x h h2 e => by rcases e with e | e <;> omega)⟩⟩
  obtain ⟨rbF, rcF, hrF⟩ : ∃ (rbF rcF : Nat → Nat), ∀ k : Nat, k < n → rbF k < w1.heap.size ∧ w.heap.size < rbF k ∧ ∀ w' : World, Keep (fun j => j = b ∨ w2.heap.size ≤ j) w2 w' → w'.cell? ⟨tc, k, none⟩ = some (.slice (some ⟨rbF k, 0, none⟩) n (rcF k)) ∧ IntsW (w.heap.size + 1) w' (.slice (some ⟨rbF k, 0, none⟩) n (rcF k)) (row B k) := by
    refine ⟨fun k => if h : k < n then Classical.choose (HRow2.out k h) else 0, fun k => if h : k < n then Classical.choose (Classical.choose_spec (HRow2.out k h)) else 0, fun k hk => ?_⟩
    simp only [hk, dite_true]
    exact Classical.choose_spec (Classical.choose_spec (HRow2.out k hk))
  have HRF := Lib.hid hrF
  clear hd2 HF1 HD1 HSA1 HBX HRow HKA HRow2 hrF
  have HK : Hid (∀ w' : World, Keep (fun k => k = b ∨ w2.heap.size ≤ k ∨ (k < w1.heap.size ∧ w.heap.size < k)) w2 w' → w'.cell? ⟨w1.heap.size, 0, none⟩ = some (.slice (some ⟨tb, 0, none⟩) n sc1) ∧ w'.cell? ⟨w1.heap.size, 1, none⟩ = some (.slice (some ⟨tc, 0, none⟩) n sc2)) := Lib.hid (fun w' k => by
      have := HBX2.out.of_block (k.block w1.heap.size hw2 (by omega))
      obtain ⟨x0, x1, -, -⟩ := two_cells this
      exact ⟨x0, x1⟩)
  have K0 : Keep (fun j => j = b ∨ w2.heap.size ≤ j) w2 w2.drew := (Keep.refl _ w2).drew
  have HUP : Hid (∀ w' : World, Keep (fun j => j = b ∨ w2.heap.size ≤ j) w2 w' → Keep (fun k => k = b ∨ w2.heap.size ≤ k ∨ (k < w1.heap.size ∧ w.heap.size < k)) w2 w') := Lib.hid fun w' k => keep_mono k (fun x hx => by rcases hx with h | h; exact .inl h; exact .inr (.inl h))
  have HDw := Lib.hid (HD2.out.under ((Below.refl w2.heap.size w2).drew))
  have HSrc := Lib.hid HDw.out.1
  have HFw := Lib.hid (HF2.out.under ((Below.refl w2.heap.size w2).drew))
  have HSAw := Lib.hid (HSA2.out.under ((Below.refl w2.heap.size w2).drew))
  have hnI : (1 : Int) ≤ n := by omega
  have hbI : (n : Int) ≤ 9223372036854775807 := by omega
  by_cases e0 : kd = 0
  · subst e0
    obtain ⟨zc0, zc1⟩ := HK.out _ (HUP.out _ K0)
    go_wp2
    go_region_held3 (fun w' => w'.cell? ⟨w1.heap.size, 0, none⟩ = some (.slice (some ⟨tb, 0, none⟩) n sc1) ∧ w'.cell? ⟨w1.heap.size, 1, none⟩ = some (.slice (some ⟨tc, 0, none⟩) n sc2))
      (first | exact HK.out _ (HUP.out _ K0) | exact HK.out _ (HUP.out _ K3) | exact HK.out _ (HUP.out _ K4) | exact HK.out _ K5)
      (first
        | (go_at_call 96; (with_reducible refine (c_l01Next b n _ HSrc.out hnI hbI).mono ?_); rintro e w3 ⟨x, rfl, x0, x1, hd3⟩; obtain ⟨X, rfl⟩ : ∃ X : Nat, x = X := ⟨x.toNat, by omega⟩; have K3 := K0.trans (keep_mono hd3.2 (T := fun j => j = b ∨ w2.heap.size ≤ j) (fun x hx => .inl hx)); have HD3 := Lib.hid (HDw.out.trans hd3); have HSrc3 := Lib.hid hd3.1; have HF3 := Lib.hid (hd3.blk HFw.out (by omega)); have HSA3 := Lib.hid (HSAw.out.drew hd3 (by omega)); obtain ⟨zd0, zd1⟩ := HK.out _ (HUP.out _ K3); have hXn : X < n := (by omega); clear hd3)
        | (go_at_call 154; (with_reducible refine (c_l01DrawP b n _ HSrc3.out hn1 (by omega)).mono ?_); rintro e w4 ⟨r, p, rfl, hpl, hpp, hop, hd4⟩; obtain ⟨ra, rc, hr, -⟩ := hop.shape; rw [hpl] at hr; subst hr; have hsz3 := K3.size; have K4 := K3.trans (keep_mono hd4.2 (T := fun j => j = b ∨ w2.heap.size ≤ j) (fun x hx => .inl hx)); have HD4 := Lib.hid (HD3.out.trans hd4); have HF4 := Lib.hid (hd4.blk HF3.out (by omega)); have HSA4 := Lib.hid (HSA3.out.drew hd4 (by omega)); obtain ⟨ze0, ze1⟩ := HK.out _ (HUP.out _ K4); obtain ⟨xa, xc, hcell, hfrz, -⟩ := HSA4.out.1.cellAt X (by rw [HN.out.1]; exact hXn); have HPut := Lib.hid (HSA4.out.putS HW.out.1 HW.out.2 hcell (hop.wr.mono (show w.heap.size + 1 ≤ _ by have := HSA3.out; have := HF3.out.lt; omega)) (by rw [hpl]; exact Nat.le_refl _)); have K5 := (HUP.out _ K4).setCell (p := ⟨tb, X, none⟩) (.inl (.inr (.inr ⟨tb1, htb⟩))) (.slice ra n rc); clear hd4 hpp hop))
    all_goals
      rename_i hHz
      clear hHz
      obtain ⟨Y, Z, hYl, hput⟩ := HPut.out
      have HP := Lib.hid hput; have HYl := Lib.hid (show Y.length ≤ 101 by rw [hYl, HN.out.1]; omega)
      have HD6 := Lib.hid (drew_set HD4.out (p := ⟨tb, X, none⟩) (show w.heap.size ≤ tb by omega) (show b < tb by omega) (.slice ra n rc))
      obtain ⟨y0, y1⟩ := HK.out _ K5
      obtain ⟨z0, z1, -, -⟩ := two_cells (HF4.out.other (a := ⟨tb, X, none⟩) (show w.heap.size ≠ tb by omega) (.slice ra n rc))
      obtain ⟨-, -, x4, x5⟩ := two_cells HF4.out
      clear hput hYl
      go_wp2
      exact bodyPost_ret (v := .agg #[.slice (some ⟨tb, 0, none⟩) n sc1, .slice (some ⟨tc, 0, none⟩) n sc2]) (by simp [results, Try.results129, go_sem, z0, z1]) rfl (spoil_end HP.out.rd (Nat.lt_succ_self _) hbl HYl.out HD6.out)
  have s0 : (kd == 0) = false := by simp [e0]
  by_cases e1 : kd = 1
  · subst e1
    obtain ⟨zc0, zc1⟩ := HK.out _ (HUP.out _ K0)
    go_wp2
    have HRc : Hid (∀ w' : World, Keep (fun j => j = b ∨ w2.heap.size ≤ j) w2 w' → ∀ k : Nat, k < n → w'.cell? ⟨tc, k, none⟩ = some (.slice (some ⟨rbF k, 0, none⟩) n (rcF k))) := Lib.hid fun w' k' k hk => ((HRF.out k hk).2.2 w' k').1
    go_region_held3 (fun w' => (w'.cell? ⟨w1.heap.size, 0, none⟩ = some (.slice (some ⟨tb, 0, none⟩) n sc1) ∧ w'.cell? ⟨w1.heap.size, 1, none⟩ = some (.slice (some ⟨tc, 0, none⟩) n sc2)) ∧ ∀ k : Nat, k < n → w'.cell? ⟨tc, k, none⟩ = some (.slice (some ⟨rbF k, 0, none⟩) n (rcF k)))
      (first | exact ⟨HK.out _ (HUP.out _ K0), HRc.out _ K0⟩ | exact ⟨HK.out _ (HUP.out _ K3), HRc.out _ K3⟩)
      ((go_at_call 96; (with_reducible refine (c_l01Next b n _ HSrc.out hnI hbI).mono ?_); rintro e w3 ⟨x, rfl, x0, x1, hd3⟩; obtain ⟨X, rfl⟩ : ∃ X : Nat, x = X := ⟨x.toNat, by omega⟩; have K3 := K0.trans (keep_mono hd3.2 (T := fun j => j = b ∨ w2.heap.size ≤ j) (fun x hx => .inl hx)); have HD3 := Lib.hid (HDw.out.trans hd3); have HSrc3 := Lib.hid hd3.1; have HF3 := Lib.hid (hd3.blk HFw.out (by omega)); have HSA3 := Lib.hid (HSAw.out.drew hd3 (by omega)); obtain ⟨zd0, zd1⟩ := HK.out _ (HUP.out _ K3); have hXn : X < n := (by omega); have zx := HRc.out _ K3 X hXn; clear hd3))
    all_goals
      rename_i hHz
      clear hHz
      obtain ⟨rb1, rb0, hrow⟩ := HRF.out X hXn
      have HRw := Lib.hid hrow
      clear hrow
      obtain ⟨rb, hrb⟩ : ∃ rb, rbF X = rb := ⟨_, rfl⟩
      obtain ⟨rc, hrc⟩ : ∃ rc, rcF X = rc := ⟨_, rfl⟩
      rw [hrb] at rb1 rb0
      rw [hrb, hrc] at HRw
      go_wp2_with fail
      refine (c_l01Next b n _ HSrc3.out hnI hbI).mono ?_; rintro e w4 ⟨y, rfl, y0, y1, hd4⟩
      obtain ⟨Y, rfl⟩ : ∃ Y : Nat, y = Y := ⟨y.toNat, by omega⟩
      have K4 := K3.trans (keep_mono hd4.2 (T := fun j => j = b ∨ w2.heap.size ≤ j) (fun x hx => .inl hx))
      have HD4 := Lib.hid (HD3.out.trans hd4); have HF4 := Lib.hid (hd4.blk HF3.out (by omega)); have HSA4 := Lib.hid (HSA3.out.drew hd4 (by omega))
      clear hd4 zx zd0 zd1
      go_wp2_with fail
      refine (c_l01Next b n _ HD4.out.1 hnI hbI).mono ?_; rintro e w5 ⟨t, rfl, t0, t1, hd5⟩
      have K5 := K4.trans (keep_mono hd5.2 (T := fun j => j = b ∨ w2.heap.size ≤ j) (fun x hx => .inl hx))
      have HD5 := Lib.hid (HD4.out.trans hd5); have HF5 := Lib.hid (hd5.blk HF4.out (by omega)); have HSA5 := Lib.hid (HSA4.out.drew hd5 (by omega))
      have hYn : Y < n := by omega
      obtain ⟨hcell, hfrz⟩ := (HRw.out _ K5).2.cellAt Y (by rw [HRB.out X hXn]; exact hYn)
      obtain ⟨Y', Z', hYl, hput⟩ := HSA5.out.putI HW.out.1 HW.out.2 hcell t
      have HP := Lib.hid hput; have HYl := Lib.hid (show Y'.length ≤ 101 by rw [hYl, HN.out.1]; omega)
      have HD6 := Lib.hid (drew_set HD5.out (p := ⟨rb, Y, none⟩) (show w.heap.size ≤ rb by omega) (show b < rb by omega) (.int .i64 t))
      have K6 := (HUP.out _ K5).setCell (p := ⟨rb, Y, none⟩) (.inl (.inr (.inr ⟨rb1, rb0⟩))) (.int .i64 t)
      obtain ⟨y0, y1⟩ := HK.out _ K6
      obtain ⟨z0, z1, -, -⟩ := two_cells (HF5.out.other (a := ⟨rb, Y, none⟩) (show w.heap.size ≠ rb by omega) (.int .i64 t))
      obtain ⟨-, -, x4, x5⟩ := two_cells HF5.out
      clear hput hYl hd5
      go_wp2
      exact bodyPost_ret (v := .agg #[.slice (some ⟨tb, 0, none⟩) n sc1, .slice (some ⟨tc, 0, none⟩) n sc2]) (by simp [results, Try.results129, go_sem, z0, z1]) rfl (spoil_end HP.out.rd (Nat.lt_succ_self _) hbl HYl.out HD6.out)
  have s1 : (kd == 1) = false := by simp [e1]
  by_cases e2 : kd = 2
  · subst e2
    go_wp2_with fail
    refine (c_l01Tables b n _ HD2.out.1 hn1 (by omega)).mono ?_; rintro e w3 ⟨r3, X, rfl, hXl, hXr, hor, hd3⟩
    obtain ⟨ra, rc, hr, -⟩ := OwnRows.shape' hor
    rw [hXl] at hr
    subst hr
    have HO3 := Lib.hid hor.wr; have HD3 := Lib.hid (HD2.out.trans hd3); have HX := Lib.hid (show X.length ≤ 101 by omega)
    have HF3 := Lib.hid (hd3.blk HF2.out (by omega)); have HBX3 := Lib.hid (hd3.blk HBX2.out (by omega))
    have hw3 : w2.heap.size ≤ w3.heap.size := hd3.2.size
    clear hor hd3 hXl hXr
    go_wp2_with fail
    refine (c_l01Tables b n _ HD3.out.1 hn1 (by omega)).mono ?_; rintro e w4 ⟨r4, X2, rfl, hXl, hXr, hor, hd4⟩
    obtain ⟨ra4, rc4, hr, -⟩ := OwnRows.shape' hor
    rw [hXl] at hr
    subst hr
    have HO4 := Lib.hid (hor.wr.mono hw3); have HD4 := Lib.hid (HD3.out.trans hd4)
    have HO34 := Lib.hid (drew_w hd4 HO3.out (by omega))
    have HF4 := Lib.hid (hd4.blk HF3.out (by omega)); have HBX4 := Lib.hid (hd4.blk HBX3.out (by omega))
    clear hor hd4 hXl hXr
    obtain ⟨x0, x1, x2, x3⟩ := two_cells HBX4.out
    obtain ⟨-, -, x4, x5⟩ := two_cells HF4.out
    have HBX5 := Lib.hid ((HBX4.out.set 0 (.slice ra n rc)).set 1 (.slice ra4 n rc4))
    have kz : Keep (fun x => x = w1.heap.size) w4 ((w4.setCell ⟨w1.heap.size, 0, none⟩ (.slice ra n rc)).setCell ⟨w1.heap.size, 1, none⟩ (.slice ra4 n rc4)) := keep_early _ _ _ _
    obtain ⟨z0, z1, -, -⟩ := two_cells (HF4.out.of_block (kz.block w.heap.size HF4.out.lt (by omega)))
    obtain ⟨y0, y1, -, -⟩ := two_cells HBX5.out
    have HD6 := Lib.hid (drew_set (drew_set HD4.out (p := ⟨w1.heap.size, 0, none⟩) (show w.heap.size ≤ w1.heap.size by omega) (show b < w1.heap.size by omega) (.slice ra n rc)) (p := ⟨w1.heap.size, 1, none⟩) (show w.heap.size ≤ w1.heap.size by omega) (show b < w1.heap.size by omega) (.slice ra4 n rc4))
    have HRd := Lib.hid (RdS.keep (v1 := .slice ra n rc) (v2 := .slice ra4 n rc4) ⟨HO34.out.rd, HO4.out.rd⟩ kz (fun x hx _ e => by have e : x = w1.heap.size := e; omega))
    have hwq : w.heap.size < w2.heap.size := by omega
    clear kz HBX5 HBX4 HBX3 HBX2 HF2 HF3
    go_wp2
    exact bodyPost_ret (v := .agg #[.slice ra n rc, .slice ra4 n rc4]) (by simp [results, Try.results129, go_sem, z0, z1]) rfl (spoil_end HRd.out hwq hbl HX.out HD6.out)
  have s2 : (kd == 2) = false := by simp [e2]
  by_cases e3 : kd = 3
  · subst e3
    go_wp2_with fail
    refine (c_l01Bad b n _ HD2.out.1 hn1 (by omega)).mono ?_; rintro e w3 ⟨r3, X, rfl, hXl, hXr, hor, hd3⟩
    obtain ⟨ra, rc, hr⟩ := hor.isSlice
    subst hr
    have HO3 := Lib.hid hor; have HD3 := Lib.hid (HD2.out.trans hd3); have HX := Lib.hid hXl
    have HF3 := Lib.hid (hd3.blk HF2.out (by omega)); have HBX3 := Lib.hid (hd3.blk HBX2.out (by omega))
    have K3 := HKW2.out.trans (keep_mono hd3.2 (T := fun k => k = b ∨ w1.heap.size ≤ k) (fun x h => .inl h))
    have K9 := K3.setCell (p := ⟨w1.heap.size, 1, none⟩) (.inl (.inr (Nat.le_refl _))) (.slice ra X.length rc)
    have HO9 := Lib.hid ((HO3.out.rd.keep ((Keep.refl (fun x => x = w1.heap.size) w3).setCell (p := ⟨w1.heap.size, 1, none⟩) (.inl rfl) (.slice ra X.length rc)) (fun x hx _ e => by have e : x = w1.heap.size := e; omega)).mono (show w.heap.size + 1 ≤ w2.heap.size by omega))
    have HRd : Hid (RdS (w.heap.size + 1) (w3.setCell ⟨w1.heap.size, 1, none⟩ (.slice ra X.length rc)) (.slice (some ⟨tb, 0, none⟩) n sc1) (.slice ra X.length rc) _ _) := Lib.hid ⟨HRd1.out.1.keep K9 (fun x hx h2 e => by rcases e with e | e <;> omega), HO9.out⟩
    have HD6 := Lib.hid (drew_set HD3.out (p := ⟨w1.heap.size, 1, none⟩) (show w.heap.size ≤ w1.heap.size by omega) (show b < w1.heap.size by omega) (.slice ra X.length rc))
    have HLn := Lib.hid (show A.length ≤ 101 by rw [HN.out.1]; omega)
    obtain ⟨x0, x1, x2, x3⟩ := two_cells HBX3.out
    obtain ⟨-, -, x4, x5⟩ := two_cells HF3.out
    obtain ⟨y0, y1, -, -⟩ := two_cells (HBX3.out.set 1 (.slice ra X.length rc))
    obtain ⟨z0, z1, -, -⟩ := two_cells (HF3.out.other (a := ⟨w1.heap.size, 1, none⟩) (show w.heap.size ≠ w1.heap.size by omega) (.slice ra X.length rc))
    clear hor hd3 hXl hXr K3 K9
    go_wp2
    exact bodyPost_ret (v := .agg #[.slice (some ⟨tb, 0, none⟩) n sc1, .slice ra X.length rc]) (by simp [results, Try.results129, go_sem, z0, z1]) rfl (spoil_end HRd.out (Nat.lt_succ_self _) hbl HLn.out HD6.out)
  have s3 : (kd == 3) = false := by simp [e3]
  by_cases e4 : kd = 4
  · subst e4
    go_wp2_with fail
    refine (c_l01Bad b n _ HD2.out.1 hn1 (by omega)).mono ?_; rintro e w3 ⟨r3, X, rfl, hXl, hXr, hor, hd3⟩
    obtain ⟨ra, rc, hr⟩ := hor.isSlice
    subst hr
    have HO3 := Lib.hid hor; have HD3 := Lib.hid (HD2.out.trans hd3); have HX := Lib.hid hXl
    have HF3 := Lib.hid (hd3.blk HF2.out (by omega)); have HBX3 := Lib.hid (hd3.blk HBX2.out (by omega))
    have K3 := HKW2.out.trans (keep_mono hd3.2 (T := fun k => k = b ∨ w1.heap.size ≤ k) (fun x h => .inl h))
    have K9 := K3.setCell (p := ⟨w1.heap.size, 0, none⟩) (.inl (.inr (Nat.le_refl _))) (.slice ra X.length rc)
    have HO9 := Lib.hid ((HO3.out.rd.keep ((Keep.refl (fun x => x = w1.heap.size) w3).setCell (p := ⟨w1.heap.size, 0, none⟩) (.inl rfl) (.slice ra X.length rc)) (fun x hx _ e => by have e : x = w1.heap.size := e; omega)).mono (show w.heap.size + 1 ≤ w2.heap.size by omega))
    have HRd : Hid (RdS (w.heap.size + 1) (w3.setCell ⟨w1.heap.size, 0, none⟩ (.slice ra X.length rc)) (.slice ra X.length rc) (.slice (some ⟨tc, 0, none⟩) n sc2) _ _) := Lib.hid ⟨HO9.out, HRd1.out.2.keep K9 (fun x hx h2 e => by rcases e with e | e <;> omega)⟩
    have HD6 := Lib.hid (drew_set HD3.out (p := ⟨w1.heap.size, 0, none⟩) (show w.heap.size ≤ w1.heap.size by omega) (show b < w1.heap.size by omega) (.slice ra X.length rc))
    have HLn := Lib.hid HX.out
    obtain ⟨x0, x1, x2, x3⟩ := two_cells HBX3.out
    obtain ⟨-, -, x4, x5⟩ := two_cells HF3.out
    obtain ⟨y0, y1, -, -⟩ := two_cells (HBX3.out.set 0 (.slice ra X.length rc))
    obtain ⟨z0, z1, -, -⟩ := two_cells (HF3.out.other (a := ⟨w1.heap.size, 0, none⟩) (show w.heap.size ≠ w1.heap.size by omega) (.slice ra X.length rc))
    clear hor hd3 hXl hXr K3 K9
    go_wp2
    exact bodyPost_ret (v := .agg #[.slice ra X.length rc, .slice (some ⟨tc, 0, none⟩) n sc2]) (by simp [results, Try.results129, go_sem, z0, z1]) rfl (spoil_end HRd.out (Nat.lt_succ_self _) hbl HLn.out HD6.out)
  have s4 : (kd == 4) = false := by simp [e4]
  obtain ⟨x0, x1, -, -⟩ := two_cells HBX2.out
  obtain ⟨z0, z1, x4, x5⟩ := two_cells HF2.out
  have HYl := Lib.hid (show A.length ≤ 101 by rw [HN.out.1]; omega)
  go_wp2
  exact bodyPost_ret (v := .agg #[.slice (some ⟨tb, 0, none⟩) n sc1, .slice (some ⟨tc, 0, none⟩) n sc2]) (by simp [results, Try.results129, go_sem, z0, z1]) rfl (spoil_end HSA2.out.rd (Nat.lt_succ_self _) hbl HYl.out HD2.out)

set_option maxRecDepth 100000 in
set_option maxHeartbeats 1600000 in
theorem c_DrawSolS (v : Value) (n : Nat) (w : World) (hv : BytesR w v n) (hn : n ≤ 4096) :
    Calls Try.prog 57 #[v] w (fun e w' => ∃ (v1 v2 : Value) (A B : List (List Int)), e = .returned (.agg #[v1, v2]) ∧ Sol w' v1 v2 A B ∧ Below w.heap.size w w') := by
  obtain ⟨HF0, HB0, hsz⟩ := boxes1' w [.slice none 0 0, .slice none 0 0] 27
  have HV := Lib.hid (hv.below HB0); have HF := Lib.hid HF0; have HB := Lib.hid HB0
  obtain ⟨a, c, hva, -⟩ := hv
  subst hva
  clear HF0 HB0
  go_enter Try.func57, Try.ntmps57
  go_wp2_with fail
  refine (c_l01From _ n _ HV.out hn).mono ?_; rintro e w1 ⟨b, rfl, hwb, hs, hb1⟩
  have HS := Lib.hid hs; have HB1 := Lib.hid (below_under HB.out (by rw [hsz]; omega) hb1); have HF1 := Lib.hid (HF.out.under hb1)
  have hs1 : w.heap.size + 1 ≤ w1.heap.size := by have := hb1.size; rw [hsz] at this; exact this
  rw [hsz] at hwb
  clear hs hb1 HV
  go_wp2_with fail
  refine (c_l02Spoil b 8 _ HS.out (by omega) (by omega)).mono ?_; rintro e w2 ⟨r1, r2, A, B, rfl, hrd, hl, hd⟩
  obtain ⟨sa1, sl1, sc1, hv1⟩ := hrd.sol.1.any
  obtain ⟨sa2, sl2, sc2, hv2⟩ := hrd.sol.2.any
  subst hv1 hv2
  have hf := hd.blk HF1.out (by omega)
  obtain ⟨z0, z1, z2, z3⟩ := two_cells hf
  have kz : Keep (fun x => x = w.heap.size) w2 ((w2.setCell ⟨w.heap.size, 0, none⟩ (.slice sa1 sl1 sc1)).setCell ⟨w.heap.size, 1, none⟩ (.slice sa2 sl2 sc2)) := keep_early _ _ _ _
  have HR := Lib.hid (hrd.keep kz (fun x hx _ e => by have e : x = w.heap.size := e; omega)).sol
  have HB2 := Lib.hid ((hd.below HB1.out (by omega) (by omega)).trans (kz.below (B := w.heap.size) fun k hk => ⟨by have := hd.2.size; omega, fun e => by have e : k = w.heap.size := e; omega⟩))
  clear hrd hd hf kz HB HS HB1 HF HF1
  go_wp2
  exact bodyPost_ret (v := .agg #[.slice sa1 sl1 sc1, .slice sa2 sl2 sc2]) (by simp [results, Try.results57, go_sem, z0, z1]) rfl ⟨_, _, A, B, rfl, HR.out, HB2.out⟩

set_option maxRecDepth 100000 in
set_option maxHeartbeats 1600000 in
theorem c_DrawInverse (v : Value) (n : Nat) (w : World) (hv : BytesR w v n) (hn : n ≤ 4096) :
    Calls Try.prog 77 #[v] w (fun e w' => ∃ (v1 v2 : Value) (A B : List (List Int)), e = .returned (.agg #[v1, v2]) ∧ Sol w' v1 v2 A B ∧ Below w.heap.size w w') := by
  obtain ⟨HF0, HB0, hsz⟩ := boxes1' w [.slice none 0 0, .slice none 0 0] 27
  have HV := Lib.hid (hv.below HB0); have HF := Lib.hid HF0; have HB := Lib.hid HB0
  obtain ⟨a, c, hva, -⟩ := hv
  subst hva
  clear HF0 HB0
  go_enter Try.func77, Try.ntmps77
  go_wp2_with fail
  refine (c_l01From _ n _ HV.out hn).mono ?_; rintro e w1 ⟨b, rfl, hwb, hs, hb1⟩
  have HS := Lib.hid hs; have HB1 := Lib.hid (below_under HB.out (by rw [hsz]; omega) hb1); have HF1 := Lib.hid (HF.out.under hb1)
  have hs1 : w.heap.size + 1 ≤ w1.heap.size := by have := hb1.size; rw [hsz] at this; exact this
  rw [hsz] at hwb
  clear hs hb1 HV
  go_wp2_with fail
  refine (c_l02Spoil b 8 _ HS.out (by omega) (by omega)).mono ?_; rintro e w2 ⟨r1, r2, A, B, rfl, hrd, hl, hd⟩
  obtain ⟨sa1, sl1, sc1, hv1⟩ := hrd.sol.1.any
  obtain ⟨sa2, sl2, sc2, hv2⟩ := hrd.sol.2.any
  subst hv1 hv2
  have hf := hd.blk HF1.out (by omega)
  obtain ⟨z0, z1, z2, z3⟩ := two_cells hf
  have kz : Keep (fun x => x = w.heap.size) w2 ((w2.setCell ⟨w.heap.size, 0, none⟩ (.slice sa1 sl1 sc1)).setCell ⟨w.heap.size, 1, none⟩ (.slice sa2 sl2 sc2)) := keep_early _ _ _ _
  have HR := Lib.hid (hrd.keep kz (fun x hx _ e => by have e : x = w.heap.size := e; omega)).sol
  have HB2 := Lib.hid ((hd.below HB1.out (by omega) (by omega)).trans (kz.below (B := w.heap.size) fun k hk => ⟨by have := hd.2.size; omega, fun e => by have e : k = w.heap.size := e; omega⟩))
  clear hrd hd hf kz HB HS HB1 HF HF1
  go_wp2
  exact bodyPost_ret (v := .agg #[.slice sa1 sl1 sc1, .slice sa2 sl2 sc2]) (by simp [results, Try.results77, go_sem, z0, z1]) rfl ⟨_, _, A, B, rfl, HR.out, HB2.out⟩
end Go.Proofs.Ytkcobfkmeaakoaa

namespace Go.Proofs.Ytkcobfkmeaakoaa
open Go.RowKit

set_option maxHeartbeats 400000 in
theorem c_specIsSolution (v1 v2 : Value) (A B : List (List Int)) (w : World) (hx : Sol w v1 v2 A B) :
    Calls Try.prog 58 #[.agg #[v1, v2]] w (RVal w (.bool (isSol A B))) := by
  obtain ⟨a1, c1, rfl, _, _⟩ := hx.1.shape
  obtain ⟨a2, c2, rfl, _, _⟩ := hx.2.shape
  obtain ⟨f0, hW0, hsz⟩ := boxes1 w [.slice a1 A.length c1, .slice a2 B.length c2] 27
  have hy := hx.below hW0
  have HW := Lib.hid hW0
  clear hW0 hsz f0 hx
  go_enter Try.func58, Try.ntmps58
  go_wp2_with fail
  refine (c_l02Is _ _ _ _ _ hy).mono ?_; rintro e w' ⟨rfl, hb⟩
  have HB := Lib.hid (bb HW.out hb); clear hb hy
  go_wp2
  go_ret
  exact ⟨rfl, HB.out⟩

end Go.Proofs.Ytkcobfkmeaakoaa

namespace Go.Proofs.Ytkcobfkmeaakoaa
open Go.RowKit

set_option maxHeartbeats 400000 in
theorem c_specIsPairMap (v1 v2 : Value) (A B : List (List Int)) (w : World) (hx : Sol w v1 v2 A B) :
    Calls Try.prog 60 #[.agg #[v1, v2]] w (RVal w (.bool (isPM A B))) := by
  obtain ⟨a1, c1, rfl, _, _⟩ := hx.1.shape
  obtain ⟨a2, c2, rfl, _, _⟩ := hx.2.shape
  obtain ⟨f0, hW0, hsz⟩ := boxes1 w [.slice a1 A.length c1, .slice a2 B.length c2] 27
  have hy := hx.below hW0
  have HW := Lib.hid hW0
  clear hW0 hsz f0 hx
  go_enter Try.func60, Try.ntmps60
  go_wp2_with fail
  refine (c_l02Map _ _ _ _ _ hy).mono ?_; rintro e w' ⟨rfl, hb⟩
  have HB := Lib.hid (bb HW.out hb); clear hb hy
  go_wp2
  go_ret
  exact ⟨rfl, HB.out⟩

end Go.Proofs.Ytkcobfkmeaakoaa

namespace Go.Proofs.Ytkcobfkmeaakoaa
open Go.RowKit

def colRes (A B : List (List Int)) : List Int := if isPM A B then collL A B else []
def colCode (A B : List (List Int)) : Int := if isPM A B then (if collL A B = [] then 4 else 0) else 1
theorem colRes_length (A B : List (List Int)) : (colRes A B).length ≤ 4 := by
  unfold colRes; split
  · exact collL_length A B
  · simp
theorem eql_nil (W : World) (a : Option Addr) (n c : Nat) : (binOp .eql 25 (.slice a n c) (.slice none 0 0)).run Try.prog W = .ok (.bool a.isNone) W := Lib.run_eql_slice_nil W _ _ a n c 0 0 Try.underlying25

set_option maxRecDepth 100000 in
set_option maxHeartbeats 800000 in
theorem c_specCollisionOf (v0 u0 : Value) (A B : List (List Int)) (w : World) (hA : Sol w v0 u0 A B)  :
    Calls Try.prog 62 #[.agg #[v0, u0]] w (RIntsC w (colRes A B) (colCode A B)) := by
  by_cases hp0 : isPM A B = true
  case neg =>
    have hq0 : isPM A B = false := by simpa using hp0
    have HQ := Lib.hid hq0; clear hp0
    obtain ⟨a0, c0, rfl, _, _⟩ := hA.1.shape
    obtain ⟨a0s, c0s, rfl, _, _⟩ := hA.2.shape
    go_enter Try.func62, Try.ntmps62
    go_wp2_with fail
    obtain ⟨f0, hW0, hsz⟩ := boxes1 w [.slice a0 A.length c0, .slice a0s B.length c0s] 27
    obtain ⟨W0, hW⟩ : ∃ W, (w.alloc (.cells #[.slice a0 A.length c0, .slice a0s B.length c0s] 27)) = W := ⟨_, rfl⟩
    rw [hW] at f0 hW0 hsz ⊢
    clear hW hsz
    refine (c_l02Map _ _ _ _ _ (hA.below hW0)).mono ?_; rintro e g0 ⟨rfl, hbg0⟩
    have hB0 := bb hW0 hbg0
    replace f0 := f0.under hbg0
    obtain ⟨cA0, cB0, -, -⟩ := two_cells f0
    clear hbg0
    have HB := Lib.hid hB0
    clear hB0 hW0
    go_wp2
    go_ret2
    exact ⟨.slice none 0 0, by simp [colCode, HQ.out], by simpa [colRes, HQ.out] using Own.nil _ _, HB.out⟩
  have HP0 := Lib.hid hp0
  obtain ⟨a0, c0, rfl, _, _⟩ := hA.1.shape
  obtain ⟨a0s, c0s, rfl, _, _⟩ := hA.2.shape
  go_enter Try.func62, Try.ntmps62
  go_wp2_with fail
  obtain ⟨f0, hW0, hsz⟩ := boxes1 w [.slice a0 A.length c0, .slice a0s B.length c0s] 27
  obtain ⟨W0, hW⟩ : ∃ W, (w.alloc (.cells #[.slice a0 A.length c0, .slice a0s B.length c0s] 27)) = W := ⟨_, rfl⟩
  rw [hW] at f0 hW0 hsz ⊢
  clear hW hsz
  refine (c_l02Map _ _ _ _ _ (hA.below hW0)).mono ?_; rintro e g0 ⟨rfl, hbg0⟩
  have hB0 := bb hW0 hbg0
  replace f0 := f0.under hbg0
  obtain ⟨cA0, cB0, -, -⟩ := two_cells f0
  clear hbg0
  go_wp2_with fail
  refine (c_l02Collision _ _ _ _ _ (hA.below hB0) HP0.out).mono ?_; rintro e w2 ⟨r, rfl, ho, hb⟩
  obtain ⟨ra, rc, rfl, hrc⟩ := ho.shape
  have HO := Lib.hid (ho.mono hB0.size); have HB := Lib.hid (bb hB0 hb); clear ho hb
  by_cases hc : collL A B = []
  · have HC := Lib.hid hc; have hl : (((collL A B).length : Int) == 0) = true := by simp [hc]
    clear hc hB0 hW0 f0 hA
    go_wp2
    go_ret2
    exact ⟨.slice none 0 0, by simp [colCode, HP0.out, HC.out], by simpa [colRes, HP0.out, HC.out] using Own.nil _ _, HB.out⟩
  · have HC := Lib.hid hc; have hl : (((collL A B).length : Int) == 0) = false := by simp [hc]
    clear hc hB0 hW0 f0 hA
    go_wp2
    go_ret2
    exact ⟨_, by simp [colCode, HP0.out, HC.out]; rfl, by simpa [colRes, HP0.out, HC.out] using HO.out, HB.out⟩

set_option maxRecDepth 100000 in
set_option maxHeartbeats 800000 in
theorem c_CollisionOf (v0 u0 : Value) (A B : List (List Int)) (w : World) (hA : Sol w v0 u0 A B)  :
    Calls Try.prog 61 #[.agg #[v0, u0]] w (RIntsC w (colRes A B) (colCode A B)) := by
  have hnl := eql_nil
  by_cases hp0 : isPM A B = true
  case neg =>
    have hq0 : isPM A B = false := by simpa using hp0
    have HQ := Lib.hid hq0; clear hp0
    obtain ⟨a0, c0, rfl, _, _⟩ := hA.1.shape
    obtain ⟨a0s, c0s, rfl, _, _⟩ := hA.2.shape
    go_enter Try.func61, Try.ntmps61
    go_wp2_with fail
    obtain ⟨f0, hW0, hsz⟩ := boxes1 w [.slice a0 A.length c0, .slice a0s B.length c0s] 27
    obtain ⟨W0, hW⟩ : ∃ W, (w.alloc (.cells #[.slice a0 A.length c0, .slice a0s B.length c0s] 27)) = W := ⟨_, rfl⟩
    rw [hW] at f0 hW0 hsz ⊢
    clear hW hsz
    refine (c_IsPairMap _ _ _ _ _ (hA.below hW0)).mono ?_; rintro e g0 ⟨rfl, hbg0⟩
    have hB0 := bb hW0 hbg0
    replace f0 := f0.under hbg0
    obtain ⟨cA0, cB0, -, -⟩ := two_cells f0
    clear hbg0
    have HB := Lib.hid hB0
    clear hB0 hW0
    go_wp2
    go_ret2
    exact ⟨.slice none 0 0, by simp [colCode, HQ.out], by simpa [colRes, HQ.out] using Own.nil _ _, HB.out⟩
  have HP0 := Lib.hid hp0
  obtain ⟨a0, c0, rfl, _, _⟩ := hA.1.shape
  obtain ⟨a0s, c0s, rfl, _, _⟩ := hA.2.shape
  go_enter Try.func61, Try.ntmps61
  go_wp2_with fail
  obtain ⟨f0, hW0, hsz⟩ := boxes1 w [.slice a0 A.length c0, .slice a0s B.length c0s] 27
  obtain ⟨W0, hW⟩ : ∃ W, (w.alloc (.cells #[.slice a0 A.length c0, .slice a0s B.length c0s] 27)) = W := ⟨_, rfl⟩
  rw [hW] at f0 hW0 hsz ⊢
  clear hW hsz
  refine (c_IsPairMap _ _ _ _ _ (hA.below hW0)).mono ?_; rintro e g0 ⟨rfl, hbg0⟩
  have hB0 := bb hW0 hbg0
  replace f0 := f0.under hbg0
  obtain ⟨cA0, cB0, -, -⟩ := two_cells f0
  clear hbg0
  go_wp2_with fail
  refine (c_collisionOf _ _ _ _ _ (hA.below hB0) HP0.out).mono ?_; rintro e w2 ⟨r, rfl, ho, hb, hn⟩
  have HO := Lib.hid (ho.mono hB0.size); have HB := Lib.hid (bb hB0 hb); have HN := Lib.hid hn; clear ho hb hn
  by_cases hc : collL A B = []
  · obtain rfl := HN.out hc
    have HC := Lib.hid hc
    clear hc hB0 hW0 f0 hA
    go_wp2
    go_ret2
    exact ⟨.slice none 0 0, by simp [colCode, HP0.out, HC.out], by simpa [colRes, HP0.out, HC.out] using Own.nil _ _, HB.out⟩
  · have HC := Lib.hid hc
    rcases HO.out.open with ⟨_, h0⟩ | ⟨g, cs, hv, _⟩
    · exact absurd h0 hc
    clear hc hB0 hW0 f0 hA
    subst hv
    go_wp2
    go_ret2
    exact ⟨_, by simp [colCode, HP0.out, HC.out]; rfl, by simpa [colRes, HP0.out, HC.out] using HO.out, HB.out⟩

end Go.Proofs.Ytkcobfkmeaakoaa

namespace Go.Proofs.Ytkcobfkmeaakoaa
open Go.RowKit

def efRes (A B : List (List Int)) : List Int := if isPM A B then yF A B else []
def efCode (A B : List (List Int)) : Int := if isPM A B then (if yF A B = [] then 4 else 0) else 1
theorem yF_length (A B : List (List Int)) : (yF A B).length ≤ 3 := trip_length _
theorem efRes_length (A B : List (List Int)) : (efRes A B).length ≤ 3 := by
  unfold efRes; split
  · exact yF_length A B
  · simp
set_option maxRecDepth 100000 in
set_option maxHeartbeats 800000 in
theorem c_specEquationFault (v0 u0 : Value) (A B : List (List Int)) (w : World) (hA : Sol w v0 u0 A B)  :
    Calls Try.prog 64 #[.agg #[v0, u0]] w (RIntsC w (efRes A B) (efCode A B)) := by
  by_cases hp0 : isPM A B = true
  case neg =>
    have hq0 : isPM A B = false := by simpa using hp0
    have HQ := Lib.hid hq0; clear hp0
    obtain ⟨a0, c0, rfl, _, _⟩ := hA.1.shape
    obtain ⟨a0s, c0s, rfl, _, _⟩ := hA.2.shape
    go_enter Try.func64, Try.ntmps64
    go_wp2_with fail
    obtain ⟨f0, hW0, hsz⟩ := boxes1 w [.slice a0 A.length c0, .slice a0s B.length c0s] 27
    obtain ⟨W0, hW⟩ : ∃ W, (w.alloc (.cells #[.slice a0 A.length c0, .slice a0s B.length c0s] 27)) = W := ⟨_, rfl⟩
    rw [hW] at f0 hW0 hsz ⊢
    clear hW hsz
    refine (c_l02Map _ _ _ _ _ (hA.below hW0)).mono ?_; rintro e g0 ⟨rfl, hbg0⟩
    have hB0 := bb hW0 hbg0
    replace f0 := f0.under hbg0
    obtain ⟨cA0, cB0, -, -⟩ := two_cells f0
    clear hbg0
    have HB := Lib.hid hB0
    clear hB0 hW0
    go_wp2
    go_ret2
    exact ⟨.slice none 0 0, by simp [efCode, HQ.out], by simpa [efRes, HQ.out] using Own.nil _ _, HB.out⟩
  have HP0 := Lib.hid hp0
  obtain ⟨a0, c0, rfl, _, _⟩ := hA.1.shape
  obtain ⟨a0s, c0s, rfl, _, _⟩ := hA.2.shape
  go_enter Try.func64, Try.ntmps64
  go_wp2_with fail
  obtain ⟨f0, hW0, hsz⟩ := boxes1 w [.slice a0 A.length c0, .slice a0s B.length c0s] 27
  obtain ⟨W0, hW⟩ : ∃ W, (w.alloc (.cells #[.slice a0 A.length c0, .slice a0s B.length c0s] 27)) = W := ⟨_, rfl⟩
  rw [hW] at f0 hW0 hsz ⊢
  clear hW hsz
  refine (c_l02Map _ _ _ _ _ (hA.below hW0)).mono ?_; rintro e g0 ⟨rfl, hbg0⟩
  have hB0 := bb hW0 hbg0
  replace f0 := f0.under hbg0
  obtain ⟨cA0, cB0, -, -⟩ := two_cells f0
  clear hbg0
  go_wp2_with fail
  refine (c_l02Fault _ _ _ _ _ (hA.below hB0) HP0.out).mono ?_; rintro e w2 ⟨r, rfl, ho, hb⟩
  obtain ⟨ra, rc, rfl, hrc⟩ := ho.shape
  have HO := Lib.hid (ho.mono hB0.size); have HB := Lib.hid (bb hB0 hb); clear ho hb
  by_cases hc : yF A B = []
  · have HC := Lib.hid hc; have hl : (((yF A B).length : Int) == 0) = true := by simp [hc]
    clear hc hB0 hW0 f0 hA
    go_wp2
    go_ret2
    exact ⟨.slice none 0 0, by simp [efCode, HP0.out, HC.out], by simpa [efRes, HP0.out, HC.out] using Own.nil _ _, HB.out⟩
  · have HC := Lib.hid hc; have hl : (((yF A B).length : Int) == 0) = false := by simp [hc]
    clear hc hB0 hW0 f0 hA
    go_wp2
    go_ret2
    exact ⟨_, by simp [efCode, HP0.out, HC.out]; rfl, by simpa [efRes, HP0.out, HC.out] using HO.out, HB.out⟩

set_option maxRecDepth 100000 in
set_option maxHeartbeats 800000 in
theorem c_EquationFault (v0 u0 : Value) (A B : List (List Int)) (w : World) (hA : Sol w v0 u0 A B)  :
    Calls Try.prog 63 #[.agg #[v0, u0]] w (RIntsC w (efRes A B) (efCode A B)) := by
  have hnl := eql_nil
  by_cases hp0 : isPM A B = true
  case neg =>
    have hq0 : isPM A B = false := by simpa using hp0
    have HQ := Lib.hid hq0; clear hp0
    obtain ⟨a0, c0, rfl, _, _⟩ := hA.1.shape
    obtain ⟨a0s, c0s, rfl, _, _⟩ := hA.2.shape
    go_enter Try.func63, Try.ntmps63
    go_wp2_with fail
    obtain ⟨f0, hW0, hsz⟩ := boxes1 w [.slice a0 A.length c0, .slice a0s B.length c0s] 27
    obtain ⟨W0, hW⟩ : ∃ W, (w.alloc (.cells #[.slice a0 A.length c0, .slice a0s B.length c0s] 27)) = W := ⟨_, rfl⟩
    rw [hW] at f0 hW0 hsz ⊢
    clear hW hsz
    refine (c_IsPairMap _ _ _ _ _ (hA.below hW0)).mono ?_; rintro e g0 ⟨rfl, hbg0⟩
    have hB0 := bb hW0 hbg0
    replace f0 := f0.under hbg0
    obtain ⟨cA0, cB0, -, -⟩ := two_cells f0
    clear hbg0
    have HB := Lib.hid hB0
    clear hB0 hW0
    go_wp2
    go_ret2
    exact ⟨.slice none 0 0, by simp [efCode, HQ.out], by simpa [efRes, HQ.out] using Own.nil _ _, HB.out⟩
  have HP0 := Lib.hid hp0
  obtain ⟨a0, c0, rfl, _, _⟩ := hA.1.shape
  obtain ⟨a0s, c0s, rfl, _, _⟩ := hA.2.shape
  go_enter Try.func63, Try.ntmps63
  go_wp2_with fail
  obtain ⟨f0, hW0, hsz⟩ := boxes1 w [.slice a0 A.length c0, .slice a0s B.length c0s] 27
  obtain ⟨W0, hW⟩ : ∃ W, (w.alloc (.cells #[.slice a0 A.length c0, .slice a0s B.length c0s] 27)) = W := ⟨_, rfl⟩
  rw [hW] at f0 hW0 hsz ⊢
  clear hW hsz
  refine (c_IsPairMap _ _ _ _ _ (hA.below hW0)).mono ?_; rintro e g0 ⟨rfl, hbg0⟩
  have hB0 := bb hW0 hbg0
  replace f0 := f0.under hbg0
  obtain ⟨cA0, cB0, -, -⟩ := two_cells f0
  clear hbg0
  go_wp2_with fail
  refine (c_equationFault _ _ _ _ _ (hA.below hB0) HP0.out).mono ?_; rintro e w2 ⟨r, rfl, ho, hb, hn⟩
  have HO := Lib.hid (ho.mono hB0.size); have HB := Lib.hid (bb hB0 hb); have HN := Lib.hid hn; clear ho hb hn
  by_cases hc : yF A B = []
  · obtain rfl := HN.out hc
    have HC := Lib.hid hc
    clear hc hB0 hW0 f0 hA
    go_wp2
    go_ret2
    exact ⟨.slice none 0 0, by simp [efCode, HP0.out, HC.out], by simpa [efRes, HP0.out, HC.out] using Own.nil _ _, HB.out⟩
  · have HC := Lib.hid hc
    rcases HO.out.open with ⟨_, h0⟩ | ⟨g, cs, hv, _⟩
    · exact absurd h0 hc
    clear hc hB0 hW0 f0 hA
    subst hv
    go_wp2
    go_ret2
    exact ⟨_, by simp [efCode, HP0.out, HC.out]; rfl, by simpa [efRes, HP0.out, HC.out] using HO.out, HB.out⟩

end Go.Proofs.Ytkcobfkmeaakoaa

namespace Go.Proofs.Ytkcobfkmeaakoaa
open Go.RowKit

def apOk (A B : List (List Int)) (x y : Int) : Bool := isPM A B && (inR x 0 ((A.length : Int) - 1) && inR y 0 ((A.length : Int) - 1))
def apV (A B T : List (List Int)) (x y : Int) : Int := if apOk A B x y then val2 T x y else 0
def apC (A B : List (List Int)) (x y : Int) : Int := if isPM A B then (if apOk A B x y then 0 else 2) else 1

theorem all_two (x y lo hi : Int) : ([x, y].all fun z => inR z lo hi) = (inR x lo hi && inR y lo hi) := by simp

set_option maxHeartbeats 1600000 in
theorem c_ApplyPair (v1 v2 : Value) (A B : List (List Int)) (x y : Int) (w : World) (hx : Sol w v1 v2 A B) (hl0 : -9223372036854775808 ≤ x) (hu0 : x ≤ 9223372036854775807) (hl1 : -9223372036854775808 ≤ y) (hu1 : y ≤ 9223372036854775807) :
    Calls Try.prog 65 #[.agg #[v1, v2], .int .i64 x, .int .i64 y] w (RVal w (.tuple #[.int .i64 (apV A B A x y), .int .i64 (apV A B B x y), .int .i64 (apC A B x y)])) := by
  obtain ⟨a1, c1, rfl, _, _⟩ := hx.1.shape
  obtain ⟨a2, c2, rfl, _, _⟩ := hx.2.shape
  obtain ⟨f0, hW0, hsz⟩ := boxes1 w [.slice a1 A.length c1, .slice a2 B.length c2] 27
  have hy := hx.below hW0
  obtain ⟨W, hW⟩ : ∃ W, w.alloc (.cells #[.slice a1 A.length c1, .slice a2 B.length c2] 27) = W := ⟨_, rfl⟩
  by_cases h1 : isPM A B = true
  case neg =>
    have h1' : isPM A B = false := by simpa using h1
    have H1 := Lib.hid h1'; clear h1
    have HWn := Lib.hid hW; clear hW
    go_enter Try.func65, Try.ntmps65
    go_wp2_with fail
    rw [HWn.out] at f0 hW0 hsz hy ⊢
    refine (c_IsPairMap _ _ _ _ _ hy).mono ?_; rintro e w1 ⟨rfl, hb1'⟩
    have HB := Lib.hid (bb hW0 hb1')
    clear f0 hW0 hsz hy hb1' hx
    go_wp2
    go_ret3
    have hok : apOk A B x y = false := by simp [apOk, H1.out]
    exact ⟨by simp [apV, apC, hok, H1.out], HB.out⟩
  have H1 := Lib.hid h1
  obtain ⟨ht1, ht2, hlen⟩ := isPM_parts h1
  have hl := isTab_len ht1
  have HT1 := Lib.hid ht1; have HT2 := Lib.hid ht2; have HL := Lib.hid hlen
  clear ht1 ht2 hlen
  have hal := all_two x y 0 ((A.length : Int) - 1)
  by_cases h2 : (inR x 0 ((A.length : Int) - 1) && inR y 0 ((A.length : Int) - 1)) = true
  case neg =>
    have h2' : (inR x 0 ((A.length : Int) - 1) && inR y 0 ((A.length : Int) - 1)) = false := by simpa using h2
    rw [h2'] at hal
    have H2 := Lib.hid h2'; have HAl := Lib.hid hal; clear h2 h2' hal
    have HWn := Lib.hid hW; clear hW
    go_enter Try.func65, Try.ntmps65
    go_wp2_with fail
    rw [HWn.out] at f0 hW0 hsz hy ⊢
    refine (c_IsPairMap _ _ _ _ _ hy).mono ?_; rintro e w1 ⟨rfl, hb1'⟩
    obtain ⟨g0, g1, -, -⟩ := two_cells (f0.under hb1')
    obtain ⟨k0, hk0, -⟩ := boxes1' w1 [.int .i64 x, .int .i64 y] 2
    have hown : Own w1.heap.size (w1.alloc (.cells #[.int .i64 x, .int .i64 y] 2)) (.slice (some ⟨w1.heap.size, 0, none⟩) 2 2) [x, y] := Own.of_blk k0 (Nat.le_refl _) (by simp [maxLen]) rfl rfl
    have HO := Lib.hid hown.ints
    have HB := Lib.hid (bb (bb hW0 hb1') hk0)
    clear f0 hW0 hsz hy hb1' hx k0 hk0 hown
    go_wp2_with fail
    refine (c_areElements _ _ [x, y] _ HO.out (by omega) (by omega)).mono ?_
    rw [HAl.out]
    rintro e w' ⟨rfl, rfl⟩
    go_wp2
    go_ret3
    have hok : apOk A B x y = false := by unfold apOk; rw [H2.out]; simp
    exact ⟨by simp [apV, apC, hok, H1.out], HB.out⟩
  rw [h2] at hal
  have hxx : 0 ≤ x ∧ x < A.length := by simp [inR] at h2; omega
  have hyy : 0 ≤ y ∧ y < A.length := by simp [inR] at h2; omega
  obtain ⟨hx0, hx1⟩ := hxx
  obtain ⟨hy0, hy1⟩ := hyy
  have H2 := Lib.hid h2; have HAl := Lib.hid hal; clear h2 hal
  have HWn := Lib.hid hW; clear hW
  go_enter Try.func65, Try.ntmps65
  go_wp2_with fail
  rw [HWn.out] at f0 hW0 hsz hy ⊢
  refine (c_IsPairMap _ _ _ _ _ hy).mono ?_; rintro e w1 ⟨rfl, hb1'⟩
  obtain ⟨g0, g1, -, -⟩ := two_cells (f0.under hb1')
  obtain ⟨k0, hk0, -⟩ := boxes1' w1 [.int .i64 x, .int .i64 y] 2
  have hown : Own w1.heap.size (w1.alloc (.cells #[.int .i64 x, .int .i64 y] 2)) (.slice (some ⟨w1.heap.size, 0, none⟩) 2 2) [x, y] := Own.of_blk k0 (Nat.le_refl _) (by simp [maxLen]) rfl rfl
  have HO := Lib.hid hown.ints
  have hA := (hy.1.below hb1').below hk0
  have hB := (hy.2.below hb1').below hk0
  obtain ⟨g2, g3, -, -⟩ := two_cells ((f0.under hb1').under hk0)
  obtain ⟨b, o, ra, rc, rfl, hcell, hu⟩ := hA.getSi x hx0 hx1
  have e1 := isTab_row HT1.out hx0 hx1
  obtain ⟨b3, o3, rfl, hcell3⟩ := hu.geti y hy0 (by omega)
  have hx1' : x < B.length := by rw [← HL.out]; exact hx1
  obtain ⟨b2, o2, ra2, rc2, rfl, hcell2, hu2⟩ := hB.getSi x hx0 hx1'
  have e2 := isTab_row HT2.out hx0 hx1'
  have hy1' : y < (row B x).length := by rw [e2, ← HL.out]; exact hy1
  have hy1'' : y < (row A x).length := by rw [e1]; exact hy1
  obtain ⟨b4, o4, rfl, hcell4⟩ := hu2.geti y hy0 hy1'
  have HB := Lib.hid (bb (bb hW0 hb1') hk0)
  have HC := Lib.hid hcell; have HC2 := Lib.hid hcell2; have HC3 := Lib.hid hcell3; have HC4 := Lib.hid hcell4; have G2 := Lib.hid g2; have G3 := Lib.hid g3
  clear f0 hW0 hsz hy hb1' hx hA hB hu hu2 e1 e2 k0 hk0 hown hcell hcell2 hcell3 hcell4 g2 g3
  go_wp2_with fail
  refine (c_areElements _ _ [x, y] _ HO.out (by omega) (by omega)).mono ?_
  rw [HAl.out]
  obtain ⟨W2, hW2⟩ : ∃ W2, w1.alloc (.cells #[.int .i64 x, .int .i64 y] 2) = W2 := ⟨_, rfl⟩
  rw [hW2] at HB HC HC2 HC3 HC4 G2 G3 ⊢
  clear HO hW2 g0 g1
  rintro e w' ⟨rfl, rfl⟩
  have hcell := HC.out; have hcell2 := HC2.out; have hcell3 := HC3.out; have hcell4 := HC4.out; have g2 := G2.out; have g3 := G3.out
  go_wp2
  go_quiet (fail)
  go_wp2
  go_ret3
  have hok : apOk A B x y = true := by unfold apOk; rw [H1.out, H2.out]; rfl
  exact ⟨by simp [apV, apC, hok, H1.out, val2], below_drewN HB.out _⟩

end Go.Proofs.Ytkcobfkmeaakoaa

namespace Go.Proofs.Ytkcobfkmeaakoaa
open Go Go.RowKit

/-- The source at block b. -/
def Dice (w : World) (b : Nat) : Prop :=
  ∃ (v : Value) (n i : Nat) (h : Int), Blk w b 102 [v, .int .i64 i, .int .u64 h] ∧ BytesB w v n b ∧ i ≤ n ∧ 0 ≤ h ∧ h ≤ 18446744073709551615
theorem Dice.keep {S : Nat → Prop} {w w' : World} {b : Nat} (h : Dice w b) (k : Keep S w w') (hs : ∀ p, p ≤ b → ¬ S p) : Dice w' b := by
  obtain ⟨v, n, i, x, h1, h2, h3⟩ := h
  exact ⟨v, n, i, x, h1.of_block (k.block b h1.lt (hs b (Nat.le_refl _))), h2.keep k (fun p hp => hs p (by omega)), h3⟩
theorem Dice.lt {w : World} {b : Nat} (h : Dice w b) : b < w.heap.size := by
  obtain ⟨v, n, i, x, h1, _⟩ := h; exact h1.lt
theorem Dice.under {w w' : World} {b : Nat} (h : Dice w b) (hb : Below w.heap.size w w') : Dice w' b :=
  h.keep (S := fun k => w.heap.size ≤ k) (Keep.of_below hb) (fun p hp e => by have := h.lt; omega)

/-- A draw leaves all but the source as it was. -/
def Rolled (b : Nat) (w w' : World) : Prop := Dice w' b ∧ Keep (fun k => k = b) w w'
theorem Rolled.refl {b : Nat} {w : World} (h : Dice w b) : Rolled b w w := ⟨h, Keep.refl _ _⟩
theorem Rolled.trans {b : Nat} {w w' w'' : World} (h : Rolled b w w') (k : Rolled b w' w'') : Rolled b w w'' := ⟨k.1, h.2.trans k.2⟩
theorem Rolled.under {b : Nat} {w w' w'' : World} (h : Rolled b w w') (k : Below w'.heap.size w' w'') : Rolled b w w'' := ⟨h.1.under k, h.2.under k⟩
theorem Rolled.own {b B : Nat} {w w' : World} {v : Value} {xs : List Int} (h : Rolled b w w') (ho : Own B w v xs) (hB : b < B) : Own B w' v xs := ho.keep h.2 (fun k h1 h2 e => by have e : k = b := e; omega)
theorem Rolled.below {b B : Nat} {w0 w w' : World} (h : Rolled b w w') (hb : Below B w0 w) (hB : B ≤ b) (hs : B ≤ w.heap.size) : Below B w0 w' := hb.trans (h.2.below fun k hk => ⟨by omega, fun e => by have e : k = b := e; omega⟩)
theorem Rolled.blk {b g : Nat} {w w' : World} {t : TypeId} {cs : List Value} (h : Rolled b w w') (hk : Blk w g t cs) (hg : g ≠ b) : Blk w' g t cs := hk.of_block (h.2.block g hk.lt hg)

set_option maxRecDepth 100000 in
set_option maxHeartbeats 1600000 in
theorem c_below (b : Nat) (n : Int) (w : World) (hs : Dice w b) (h1 : 1 ≤ n) (h2 : n ≤ 9223372036854775807) :
    Calls Try.prog 66 #[.pointer (some ⟨b, 0, none⟩), .int .i64 n] w (fun e w' => ∃ r : Int, e = .returned (.int .i64 r) ∧ 0 ≤ r ∧ r < n ∧ Rolled b w w') := by
  obtain ⟨v, m, i, h, hblk, hby, him, hh0, hh1⟩ := hs
  have HBy := Lib.hid hby
  obtain ⟨a, c, hv, hmc, hcm, hcell⟩ := hby
  subst hv
  obtain ⟨W, hW⟩ : ∃ W : Int, IntKind.u64.wrap (IntKind.u64.wrap (h * 6364136223846793005) + 1442695040888963407) = W := ⟨_, rfl⟩
  have hWr := wrap64 (IntKind.u64.wrap (h * 6364136223846793005) + 1442695040888963407)
  rw [hW] at hWr
  obtain ⟨hW0, hW1⟩ := hWr
  obtain ⟨X, hX⟩ : ∃ X : Int, bits BinOp.and IntKind.u64 (W / 8589934592) 16777215 = X := ⟨_, rfl⟩
  have hXr : 0 ≤ X ∧ X < 16777216 := by
    rw [and_24 _ (by omega) (by omega)] at hX; omega
  obtain ⟨hX0, hX1⟩ := hXr
  have hXw : IntKind.i64.wrap X = X := by rw [IntKind.wrap_i64]; omega
  have hb2 := hblk.set 2 (.int .u64 W)
  have hk2 : Keep (fun k => k = b) w (w.setCell ⟨b, 2, none⟩ (.int .u64 W)) := (Keep.refl (fun k => k = b) w).setCell (p := ⟨b, 2, none⟩) (.inl rfl) _
  have hBy2 := HBy.out.keep hk2 (fun p hp e => by have e : p = b := e; omega)
  go_enter Try.func66, Try.ntmps66
  have c0 := hblk.cell (i := 0) (by simp); have c1 := hblk.cell (i := 1) (by simp); have c2 := hblk.cell (i := 2) (by simp)
  have f2 := hblk.frozen 2
  have d0 := hb2.cell (i := 0) (by simp); have d1 := hb2.cell (i := 1) (by simp)
  simp only [List.getElem_cons_zero, List.getElem_cons_succ, List.set_cons_succ, List.set_cons_zero] at c0 c1 c2 d0 d1 hb2
  have HB2 := Lib.hid hb2; have HK2 := Lib.hid hk2; have HBY2 := Lib.hid hBy2
  clear hb2 hk2 hBy2 hblk
  by_cases hlt : i < m
  · obtain ⟨p0, o0, x, ha0, hpb, hcx, hx0, hx1⟩ := hcell i hlt
    subst ha0
    go_wp2
    go_quiet (fail)
    rename_i nq
    have hbq : Below (w.setCell ⟨b, 2, none⟩ (.int .u64 W)).heap.size (w.setCell ⟨b, 2, none⟩ (.int .u64 W)) ((w.setCell ⟨b, 2, none⟩ (.int .u64 W)).drewN nq) := below_drewN (Below.refl _ _) nq
    generalize (w.setCell ⟨b, 2, none⟩ (.int .u64 W)).drewN nq = wq at hbq ⊢
    have hBq := HB2.out.under hbq
    have e0 := hBq.cell (i := 0) (by simp); have e1 := hBq.cell (i := 1) (by simp)
    simp only [List.getElem_cons_zero, List.getElem_cons_succ] at e0 e1
    have g1 := hBq.frozen 1
    have hcx2 := cell_of_block (HK2.out.block p0 (cell_lt hcx) (fun e => by have e : p0 = b := e; omega)) hcx
    have hcq := cell_under hbq hcx2
    have HBq := Lib.hid hBq; have hKq := Lib.hid (HK2.out.under hbq)
    clear hBq c0 c1 c2 f2 d0 d1 hcx hcx2 hbq hW hX hXw
    go_wp2
    go_quiet (fail)
    have hbq : Below wq.heap.size wq (wq.drewN nq) := below_drewN (Below.refl _ _) nq
    have hBr := HBq.out.under hbq
    have hKr := hKq.out.under hbq
    generalize wq.drewN nq = wr at hbq hBr hKr ⊢
    have k1 := hBr.cell (i := 1) (by simp)
    simp only [List.getElem_cons_zero, List.getElem_cons_succ] at k1
    have g2 := hBr.frozen 1
    have hBs := hBr.set 1 (.int .i64 ((i + 1 : Nat) : Int))
    have hKs := hKr.setCell (p := ⟨b, 1, none⟩) (.inl rfl) (.int .i64 ((i + 1 : Nat) : Int))
    have HBs := Lib.hid hBs; have HKs := Lib.hid hKs
    have hmm : i + 1 ≤ m := hlt
    have hi63 : m ≤ 9223372036854775807 := by unfold maxLen at hcm; omega
    clear e0 e1 g1 hcq hbq hBr hKr hBs hKs
    have hn0 : 0 < n := by omega
    have hv0 := Int.emod_nonneg (X + x) (show n ≠ 0 by omega)
    have hv1 := Int.emod_lt_of_pos (X + x) hn0
    have HR := Lib.hid (And.intro hv0 hv1)
    clear hv0 hv1
    go_wp2
    go_ret
    exact ⟨(X + x) % n, rfl, HR.out.1, HR.out.2, ⟨_, m, i + 1, W, HBs.out, HBy.out.keep HKs.out (fun p hp e => by have e : p = b := e; omega), hmm, hW0, hW1⟩, HKs.out⟩
  · have hlt' : ¬ ((i : Int) < m) := by omega
    clear hlt
    go_wp2
    go_quiet (fail)
    have hbq : Below (w.setCell ⟨b, 2, none⟩ (.int .u64 W)).heap.size (w.setCell ⟨b, 2, none⟩ (.int .u64 W)) ((w.setCell ⟨b, 2, none⟩ (.int .u64 W)).drewN nq) := below_drewN (Below.refl _ _) nq
    generalize (w.setCell ⟨b, 2, none⟩ (.int .u64 W)).drewN nq = wq at hbq ⊢
    have HBs := Lib.hid (HB2.out.under hbq); have HKs := Lib.hid (HK2.out.under hbq)
    have hn0 : 0 < n := by omega
    have hv0 := Int.emod_nonneg X (show n ≠ 0 by omega)
    have hv1 := Int.emod_lt_of_pos X hn0
    have HR := Lib.hid (And.intro hv0 hv1)
    clear hv0 hv1 c0 c1 c2 f2 d0 d1 hbq hW hX hXw
    go_wp2
    go_ret
    exact ⟨X % n, rfl, HR.out.1, HR.out.2, ⟨_, m, i, W, HBs.out, HBy.out.keep HKs.out (fun p hp e => by have e : p = b := e; omega), him, hW0, hW1⟩, HKs.out⟩
set_option maxRecDepth 100000 in
set_option maxHeartbeats 1600000 in
theorem c_roll (v : Value) (n : Nat) (sd : Int) (w : World) (hv : BytesR w v n) (hn : n ≤ 4096) :
    Calls Try.prog 51 #[v, .int .u64 sd] w (fun e w' => ∃ b : Nat, e = .returned (.pointer (some ⟨b, 0, none⟩)) ∧ w.heap.size ≤ b ∧ Dice w' b ∧ Below w.heap.size w w') := by
  have HV := Lib.hid hv
  obtain ⟨a, c, hva, hnc, hcm, hcell⟩ := hv
  subst hva
  clear hcell
  obtain ⟨h0, hh0⟩ : ∃ h : Int, IntKind.u64.wrap (IntKind.u64.wrap (sd * 5507) + (n : Int)) = h := ⟨_, rfl⟩
  have hr := wrap64 (IntKind.u64.wrap (sd * 5507) + (n : Int))
  rw [hh0] at hr
  have HR := Lib.hid hr
  have HB1 : Hid (Below w.heap.size w (w.alloc (.cells #[.slice a n c, .int .i64 0, .int .u64 h0] 102))) := Lib.hid ((Below.refl _ _).alloc (Nat.le_refl _) _)
  have HK1 : Hid (Blk (w.alloc (.cells #[.slice a n c, .int .i64 0, .int .u64 h0] 102)) w.heap.size 102 [.slice a n c, .int .i64 0, .int .u64 h0]) := Lib.hid (Blk.new w [.slice a n c, .int .i64 0, .int .u64 h0] 102)
  go_enter Try.func51, Try.ntmps51
  have HR0 : Hid (0 ≤ h0 ∧ h0 ≤ 18446744073709551615) := HR
  go_wp2
  go_loopw [6] (fun i wr => ∃ (k : Nat) (h : Int), k ≤ n ∧ i = .int .i64 k ∧ Hid (Blk wr w.heap.size 102 [.slice a n c, .int .i64 0, .int .u64 h]) ∧ Hid (0 ≤ h ∧ h ≤ 18446744073709551615) ∧ Hid (Below w.heap.size w wr)) (fun i _ => n - (intOf i).toNat)
  case atStart => exact ⟨0, h0, Nat.zero_le _, rfl, HK1, HR0, HB1⟩
  case round =>
    clear HB1 HK1 HR0 HR hr
    obtain ⟨k, h, hk, rfl, HK, HH, HB⟩ := hrel
    by_cases hlt : k < n
    · obtain ⟨a', c', hva', -, -, hc⟩ := HV.out.below HB.out
      injection hva' with e1 e2 e3
      subst e1 e3
      clear e2
      obtain ⟨p0, o0, x, ha0, hcell, hx0, hx1⟩ := hc k hlt
      subst ha0
      clear hc
      have hk4 : (k : Int) < 4096 := by omega
      have c0 := HK.out.cell (i := 2) (by simp)
      simp only [List.getElem_cons_zero, List.getElem_cons_succ] at c0
      have f0 := HK.out.frozen 2
      obtain ⟨W, hW⟩ : ∃ W : Int, IntKind.u64.wrap (IntKind.u64.wrap (IntKind.u64.wrap (h * 1099511628211) + IntKind.u64.wrap x) + 5) = W := ⟨_, rfl⟩
      have hWr := wrap64 (IntKind.u64.wrap (IntKind.u64.wrap (h * 1099511628211) + IntKind.u64.wrap x) + 5)
      rw [hW] at hWr
      have HWr := Lib.hid hWr
      have HKs := Lib.hid (HK.out.set 2 (.int .u64 W))
      clear hWr
      go_wp2
      go_still_tail 15, (by kernel_rfl)
      change wpList _ _ _ _ _ wr.drew
      go_wp2
      go_roundw
      case rel => exact ⟨k + 1, W, by omega, by go_num, by first | exact HKs | exact Lib.hid HKs.out.drew, HWr, by first | exact Lib.hid (HB.out.setCell (p := ⟨w.heap.size, 2, none⟩) (Nat.le_refl _) _) | exact Lib.hid (HB.out.setCell (p := ⟨w.heap.size, 2, none⟩) (Nat.le_refl _) _).drew⟩
      case measure => simp [intOf]; omega
    · go_wp2
      go_ret
      exact ⟨w.heap.size, rfl, Nat.le_refl _, ⟨_, n, 0, h, HK.out, (HV.out.b (Nat.le_refl _)).keep (Keep.of_below HB.out) (fun p hp e => by omega), Nat.zero_le _, HH.out.1, HH.out.2⟩, HB.out⟩

set_option maxRecDepth 100000 in
set_option maxHeartbeats 1600000 in
theorem c_DrawRename (v : Value) (n : Nat) (w : World) (hv : BytesR w v n) (hn : n ≤ 4096) :
    Calls Try.prog 44 #[v] w (fun e w' => ∃ (v1 v2 : Value) (X : List (List Int)) (p : List Int), e = .returned (.tuple #[v1, v2]) ∧ Rows w' v1 X ∧ Ints w' v2 p ∧ X.length ≤ 101 ∧ (∀ r ∈ X, r.length ≤ 101) ∧ p.length ≤ 12 ∧ Below w.heap.size w w') := by
  have HV := Lib.hid hv
  obtain ⟨a, c, hva, -⟩ := hv
  subst hva
  go_enter Try.func44, Try.ntmps44
  go_wp2_with fail
  refine (c_l01From _ n _ HV.out hn).mono ?_; rintro e w1 ⟨b, rfl, hwb, hs, hb1⟩
  have HS := Lib.hid hs; have HB1 := Lib.hid hb1; clear hs hb1
  go_wp2_with fail
  refine (c_l01Size b _ HS.out).mono ?_; rintro e w2 ⟨m, rfl, m1, m12, hd2⟩
  have HD2 := Lib.hid hd2; clear hd2
  have hb2 : Hid (b < w2.heap.size) := Lib.hid HD2.out.1.lt
  go_wp2_with fail
  refine (c_l01Bad b m _ HD2.out.1 m1 (by omega)).mono ?_; rintro e w3 ⟨r, X, rfl, hXl, hXr, hrx, hd3⟩
  have HD3 := Lib.hid (HD2.out.trans hd3); have HX := Lib.hid hrx; have HXl := Lib.hid (And.intro hXl hXr)
  have HBel := Lib.hid (HD3.out.below HB1.out hwb HB1.out.size)
  clear hd3 hrx hXl hXr
  go_wp2_with fail
  refine (c_l01Next b 20 _ HD3.out.1 (by omega) (by omega)).mono ?_; rintro e w4 ⟨t, rfl, t0, t1, hd4⟩
  have HD4 := Lib.hid hd4
  have HX4 := Lib.hid (drew_at hd4 HX.out hb2.out)
  have HB4 := Lib.hid (hd4.below HBel.out hwb HBel.out.size)
  clear hd4
  by_cases ht : t = 0
  · subst ht
    obtain ⟨m2, hm2⟩ : ∃ m2 : Nat, (1 : Int) + (m : Int) % 12 = m2 := ⟨1 + m % 12, by omega⟩
    have hm2b : 1 ≤ m2 ∧ m2 ≤ 12 := by omega
    obtain ⟨g1, g2⟩ := hm2b
    go_wp2_with fail
    refine (c_l01Spoil b m2 _ HD4.out.1 g1 (by omega)).mono ?_; rintro e w5 ⟨r5, q, rfl, hql, hoq, hd5⟩
    have HQ := Lib.hid hoq; have HQL := Lib.hid hql
    have HX5 := Lib.hid (drew_at hd5 HX4.out hb2.out)
    have HB5 := Lib.hid (hd5.below HB4.out hwb HB4.out.size)
    clear hd5 hoq hql hm2
    go_wp2
    go_ret2
    exact ⟨_, _, X, q, rfl, HX5.out.rows, HQ.out.ints, HXl.out.1, HXl.out.2, by rw [HQL.out]; exact g2, HB5.out⟩
  · go_wp2_with fail
    refine (c_l01Spoil b m _ HD4.out.1 m1 (by omega)).mono ?_; rintro e w5 ⟨r5, q, rfl, hql, hoq, hd5⟩
    have HQ := Lib.hid hoq; have HQL := Lib.hid hql
    have HX5 := Lib.hid (drew_at hd5 HX4.out hb2.out)
    have HB5 := Lib.hid (hd5.below HB4.out hwb HB4.out.size)
    clear hd5 hoq hql
    go_wp2
    go_ret2
    exact ⟨_, _, X, q, rfl, HX5.out.rows, HQ.out.ints, HXl.out.1, HXl.out.2, by rw [HQL.out]; exact m12, HB5.out⟩
end Go.Proofs.Ytkcobfkmeaakoaa

namespace Go.Proofs.Ytkcobfkmeaakoaa
open Go Go.RowKit

theorem ap_in {A B : List (List Int)} (hp : isPM A B = true) {x y : Int} (hx : InR A.length x) (hy : InR A.length y) : apV A B A x y = val2 A x y ∧ apV A B B x y = val2 B x y ∧ apC A B x y = 0 := by
  have h : apOk A B x y = true := by
    unfold InR at hx hy
    simp [apOk, hp, inR]; omega
  simp [apV, apC, hp, h]

set_option maxRecDepth 100000 in
set_option maxHeartbeats 16000000 in
theorem law_Solutions (v : Value) (bs : List Int) (w : World) (hv : Bytes w v bs) : Calls Try.prog 9 #[v] w (RVal w (.bool true)) := by
  have HV : Hid (BytesR w v bs.length) := Lib.hid hv
  obtain ⟨a, c, hva, -⟩ := hv
  subst hva
  go_enter Try.func9, Try.ntmps9
  go_wp2_with fail
  refine (c_big a bs.length c _).mono ?_; rintro e w' ⟨rfl, rfl⟩
  by_cases hbig : 4096 < bs.length
  case pos =>
    have hd : decide (4096 < bs.length) = true := by simpa using hbig
    rw [hd]; clear hd hbig
    go_wp2
    go_ret
    exact ⟨rfl, Below.refl _ _⟩
  have hd : decide (4096 < bs.length) = false := by simpa using hbig
  rw [hd]; clear hd
  go_wp2_with fail
  refine (c_DrawSolS _ bs.length _ HV.out (by omega)).mono ?_; rintro e w1 ⟨v1, v2, A, B, rfl, hs, hb⟩
  obtain ⟨a1, l1, c1, hr1⟩ := hs.1.any
  obtain ⟨d1, m1, k1, hr2⟩ := hs.2.any
  subst hr1 hr2
  have H1 := Lib.hid (((LS.addS (w := w) (L := []) (M := []) (Bx := []) ⟨fun e he => by simp at he, fun e he => by simp at he, fun e he => by simp at he, hb⟩ hs)).box (.slice a1 l1 c1) (.slice d1 m1 k1))
  clear hs hb
  by_cases hp : isPM A B = true
  case neg =>
    have F := Lib.hid (show isSol A B = false ∧ isPM A B = false ∧ colRes A B = [] ∧ colCode A B = 1 ∧ efRes A B = [] ∧ efCode A B = 1 by simp [isSol, colRes, colCode, efRes, efCode, hp])
    clear hp hbig
    have HB0 : Hid (∀ w' : World, Below (w1.alloc (.cells #[.slice a1 l1 c1, .slice d1 m1 k1] 27)).heap.size (w1.alloc (.cells #[.slice a1 l1 c1, .slice d1 m1 k1] 27)) w' → w'.cell? ⟨w1.heap.size, 0, none⟩ = some (.slice a1 l1 c1) ∧ w'.cell? ⟨w1.heap.size, 1, none⟩ = some (.slice d1 m1 k1)) := Lib.hid fun w' k => by
      obtain ⟨x0, x1, -, -⟩ := two_cells ((LS.getB (q := w1.heap.size) (a := .slice a1 l1 c1) (b := .slice d1 m1 k1) H1.out (by simp)).under k)
      exact ⟨x0, x1⟩
    have HSl : Hid (∀ w' : World, Below (w1.alloc (.cells #[.slice a1 l1 c1, .slice d1 m1 k1] 27)).heap.size (w1.alloc (.cells #[.slice a1 l1 c1, .slice d1 m1 k1] 27)) w' → Sol w' (.slice a1 l1 c1) (.slice d1 m1 k1) A B) := Lib.hid fun w' k => ⟨(H1.out.getR (v := .slice a1 l1 c1) (X := A) (by simp)).below k, (H1.out.getR (v := .slice d1 m1 k1) (X := B) (by simp)).below k⟩
    have HC1 : Hid (∀ W : World, Sol W (.slice a1 l1 c1) (.slice d1 m1 k1) A B → Calls Try.prog 35 #[.agg #[.slice a1 l1 c1, .slice d1 m1 k1]] W (RVal W (.bool false))) := Lib.hid fun W h => by have := c_IsSolution (.slice a1 l1 c1) (.slice d1 m1 k1) A B W h; rw [F.out.1] at this; exact this
    have HC2 : Hid (∀ W : World, Sol W (.slice a1 l1 c1) (.slice d1 m1 k1) A B → Calls Try.prog 58 #[.agg #[.slice a1 l1 c1, .slice d1 m1 k1]] W (RVal W (.bool false))) := Lib.hid fun W h => by have := c_specIsSolution (.slice a1 l1 c1) (.slice d1 m1 k1) A B W h; rw [F.out.1] at this; exact this
    have HC3 : Hid (∀ W : World, Sol W (.slice a1 l1 c1) (.slice d1 m1 k1) A B → Calls Try.prog 59 #[.agg #[.slice a1 l1 c1, .slice d1 m1 k1]] W (RVal W (.bool false))) := Lib.hid fun W h => by have := c_IsPairMap (.slice a1 l1 c1) (.slice d1 m1 k1) A B W h; rw [F.out.2.1] at this; exact this
    have HC4 : Hid (∀ W : World, Sol W (.slice a1 l1 c1) (.slice d1 m1 k1) A B → Calls Try.prog 60 #[.agg #[.slice a1 l1 c1, .slice d1 m1 k1]] W (RVal W (.bool false))) := Lib.hid fun W h => by have := c_specIsPairMap (.slice a1 l1 c1) (.slice d1 m1 k1) A B W h; rw [F.out.2.1] at this; exact this
    have B0 : Below (w1.alloc (.cells #[.slice a1 l1 c1, .slice d1 m1 k1] 27)).heap.size (w1.alloc (.cells #[.slice a1 l1 c1, .slice d1 m1 k1] 27)) (w1.alloc (.cells #[.slice a1 l1 c1, .slice d1 m1 k1] 27)).drew := (Below.refl _ _).drew
    obtain ⟨zc0, zc1⟩ := HB0.out _ B0
    have S0 := Lib.hid (HSl.out _ B0)
    go_wp2_with fail
    go_region_held3 (fun w' => w'.cell? ⟨w1.heap.size, 0, none⟩ = some (.slice a1 l1 c1) ∧ w'.cell? ⟨w1.heap.size, 1, none⟩ = some (.slice d1 m1 k1))
      (first | exact HB0.out _ B0 | exact HB0.out _ B2 | exact HB0.out _ B3 | exact HB0.out _ B4 | exact HB0.out _ B5)
      (first
        | (go_at_call 35; (with_reducible refine (HC1.out _ S0.out).mono ?_); rintro e w2 ⟨rfl, hb⟩; have B2 := bb B0 hb; have S2 := Lib.hid (HSl.out _ B2); obtain ⟨zd0, zd1⟩ := HB0.out _ B2; clear hb)
        | (go_at_call 58; (with_reducible refine (HC2.out _ S2.out).mono ?_); rintro e w3 ⟨rfl, hb⟩; have B3 := bb B2 hb; have S3 := Lib.hid (HSl.out _ B3); obtain ⟨ze0, ze1⟩ := HB0.out _ B3; clear hb)
        | (go_at_call 59; (with_reducible refine (HC3.out _ S3.out).mono ?_); rintro e w4 ⟨rfl, hb⟩; have B4 := bb B3 hb; have S4 := Lib.hid (HSl.out _ B4); obtain ⟨zf0, zf1⟩ := HB0.out _ B4; clear hb)
        | (go_at_call 60; (with_reducible refine (HC4.out _ S4.out).mono ?_); rintro e w5 ⟨rfl, hb⟩; have B5 := bb B4 hb; have S5 := Lib.hid (HSl.out _ B5); obtain ⟨zg0, zg1⟩ := HB0.out _ B5; clear hb))
    rename_i hHz
    clear hHz
    have H5 := Lib.hid (H1.out.under B5)
    clear HC1 HC2 HC3 HC4
    obtain ⟨x00, x01, -, -⟩ := two_cells (LS.getB (q := w1.heap.size) (a := .slice a1 l1 c1) (b := .slice d1 m1 k1) H5.out (by simp))
    go_wp2_with fail
    refine (c_CollisionOf _ _ A B _ ⟨H5.out.getR (X := A) (by simp), H5.out.getR (X := B) (by simp)⟩).mono ?_; rintro e w6 ⟨pr, rfl, hs, hb⟩
    rw [F.out.2.2.1] at hs
    rw [F.out.2.2.2.1]
    have H6 := Lib.hid ((H5.out.under hb).addI hs.ints)
    clear hs hb x00 x01
    obtain ⟨x00, x01, -, -⟩ := two_cells (LS.getB (q := w1.heap.size) (a := .slice a1 l1 c1) (b := .slice d1 m1 k1) H6.out (by simp))
    go_wp2_with fail
    refine (c_specCollisionOf _ _ A B _ ⟨H6.out.getR (X := A) (by simp), H6.out.getR (X := B) (by simp)⟩).mono ?_; rintro e w7 ⟨du, rfl, hs, hb⟩
    rw [F.out.2.2.1] at hs
    rw [F.out.2.2.2.1]
    have H7 := Lib.hid ((H6.out.under hb).addI hs.ints)
    clear hs hb x00 x01
    obtain ⟨x00, x01, -, -⟩ := two_cells (LS.getB (q := w1.heap.size) (a := .slice a1 l1 c1) (b := .slice d1 m1 k1) H7.out (by simp))
    go_wp2_with fail
    refine (c_EquationFault _ _ A B _ ⟨H7.out.getR (X := A) (by simp), H7.out.getR (X := B) (by simp)⟩).mono ?_; rintro e w8 ⟨tr, rfl, hs, hb⟩
    rw [F.out.2.2.2.2.1] at hs
    rw [F.out.2.2.2.2.2]
    have H8 := Lib.hid ((H7.out.under hb).addI hs.ints)
    clear hs hb x00 x01
    obtain ⟨x00, x01, -, -⟩ := two_cells (LS.getB (q := w1.heap.size) (a := .slice a1 l1 c1) (b := .slice d1 m1 k1) H8.out (by simp))
    go_wp2_with fail
    refine (c_specEquationFault _ _ A B _ ⟨H8.out.getR (X := A) (by simp), H8.out.getR (X := B) (by simp)⟩).mono ?_; rintro e w9 ⟨wa, rfl, hs, hb⟩
    rw [F.out.2.2.2.2.1] at hs
    rw [F.out.2.2.2.2.2]
    have H9 := Lib.hid ((H8.out.under hb).addI hs.ints)
    clear hs hb x00 x01
    go_wp2_with fail
    refine (c_likeInts _ _ ([] : List Int) ([] : List Int) _ (H9.out.getI (xs := ([] : List Int)) (by simp)) (H9.out.getI (xs := ([] : List Int)) (by simp))).mono ?_; rintro e w10 ⟨rfl, hb⟩
    rw [show decide (([] : List Int) = ([] : List Int)) = true from by simp]
    have H10 := Lib.hid (H9.out.under (below_of_drewN hb))
    clear hb
    go_wp2_with fail
    refine (c_likeInts _ _ ([] : List Int) ([] : List Int) _ (H10.out.getI (xs := ([] : List Int)) (by simp)) (H10.out.getI (xs := ([] : List Int)) (by simp))).mono ?_; rintro e w11 ⟨rfl, hb⟩
    rw [show decide (([] : List Int) = ([] : List Int)) = true from by simp]
    have H11 := Lib.hid (H10.out.under (below_of_drewN hb))
    clear hb
    obtain ⟨x00, x01, -, -⟩ := two_cells (LS.getB (q := w1.heap.size) (a := .slice a1 l1 c1) (b := .slice d1 m1 k1) H11.out (by simp))
    go_wp2_with fail
    refine (c_specIsPairMap _ _ A B _ ⟨H11.out.getR (X := A) (by simp), H11.out.getR (X := B) (by simp)⟩).mono ?_; rintro e w12 ⟨rfl, hb⟩
    rw [F.out.2.1]
    have H12 := Lib.hid (H11.out.under hb)
    clear hb x00 x01
    obtain ⟨x00, x01, -, -⟩ := two_cells (LS.getB (q := w1.heap.size) (a := .slice a1 l1 c1) (b := .slice d1 m1 k1) H12.out (by simp))
    go_wp2_with fail
    refine (c_IsSolution _ _ A B _ ⟨H12.out.getR (X := A) (by simp), H12.out.getR (X := B) (by simp)⟩).mono ?_; rintro e w13 ⟨rfl, hb⟩
    rw [F.out.1]
    have H13 := Lib.hid (H12.out.under hb)
    clear hb x00 x01
    go_wp2
    go_ret
    exact ⟨rfl, H13.out.2.2.2⟩
  have hl := isTab_len (isPM_parts hp).1
  obtain ⟨hl1, hl12⟩ := hl
  have HPM := Lib.hid hp
  obtain ⟨Y, hY⟩ : ∃ Y, yF A B = Y := ⟨_, rfl⟩
  obtain ⟨cy, hcy⟩ : ∃ cy, efCode A B = cy := ⟨_, rfl⟩
  have hcc : (cy != cy) = false := by simp
  have HY := Lib.hid hY
  have HCy := Lib.hid hcy
  have HER := Lib.hid (show efRes A B = Y by simp [efRes, hp, hY])
  by_cases hc : collL A B = []
  · have HC := Lib.hid (show colRes A B = [] ∧ colCode A B = 4 by simp [colRes, colCode, hp, hc])
    obtain ⟨sv, hsv⟩ : ∃ sv, isSol A B = sv := ⟨_, rfl⟩
    have HSv := Lib.hid hsv
    have hss : (sv != sv) = false := by simp
    have hor : (cy = 4 ∧ sv = true) ∨ (cy = 0 ∧ sv = false) := by
      rw [← hcy, ← hsv]
      by_cases hy : yF A B = []
      · left; simp [efCode, isSol, hp, hc, hy]
      · right; simp [efCode, isSol, hp, hc, hy]
    have F := Lib.hid (And.intro hsv hp)
    clear hc hp hY hcy hsv
    have HB0 : Hid (∀ w' : World, Below (w1.alloc (.cells #[.slice a1 l1 c1, .slice d1 m1 k1] 27)).heap.size (w1.alloc (.cells #[.slice a1 l1 c1, .slice d1 m1 k1] 27)) w' → w'.cell? ⟨w1.heap.size, 0, none⟩ = some (.slice a1 l1 c1) ∧ w'.cell? ⟨w1.heap.size, 1, none⟩ = some (.slice d1 m1 k1)) := Lib.hid fun w' k => by
      obtain ⟨x0, x1, -, -⟩ := two_cells ((LS.getB (q := w1.heap.size) (a := .slice a1 l1 c1) (b := .slice d1 m1 k1) H1.out (by simp)).under k)
      exact ⟨x0, x1⟩
    have HSl : Hid (∀ w' : World, Below (w1.alloc (.cells #[.slice a1 l1 c1, .slice d1 m1 k1] 27)).heap.size (w1.alloc (.cells #[.slice a1 l1 c1, .slice d1 m1 k1] 27)) w' → Sol w' (.slice a1 l1 c1) (.slice d1 m1 k1) A B) := Lib.hid fun w' k => ⟨(H1.out.getR (v := .slice a1 l1 c1) (X := A) (by simp)).below k, (H1.out.getR (v := .slice d1 m1 k1) (X := B) (by simp)).below k⟩
    have HC1 : Hid (∀ W : World, Sol W (.slice a1 l1 c1) (.slice d1 m1 k1) A B → Calls Try.prog 35 #[.agg #[.slice a1 l1 c1, .slice d1 m1 k1]] W (RVal W (.bool sv))) := Lib.hid fun W h => by have := c_IsSolution (.slice a1 l1 c1) (.slice d1 m1 k1) A B W h; rw [HSv.out] at this; exact this
    have HC2 : Hid (∀ W : World, Sol W (.slice a1 l1 c1) (.slice d1 m1 k1) A B → Calls Try.prog 58 #[.agg #[.slice a1 l1 c1, .slice d1 m1 k1]] W (RVal W (.bool sv))) := Lib.hid fun W h => by have := c_specIsSolution (.slice a1 l1 c1) (.slice d1 m1 k1) A B W h; rw [HSv.out] at this; exact this
    have HC3 : Hid (∀ W : World, Sol W (.slice a1 l1 c1) (.slice d1 m1 k1) A B → Calls Try.prog 59 #[.agg #[.slice a1 l1 c1, .slice d1 m1 k1]] W (RVal W (.bool true))) := Lib.hid fun W h => by have := c_IsPairMap (.slice a1 l1 c1) (.slice d1 m1 k1) A B W h; rw [HPM.out] at this; exact this
    have HC4 : Hid (∀ W : World, Sol W (.slice a1 l1 c1) (.slice d1 m1 k1) A B → Calls Try.prog 60 #[.agg #[.slice a1 l1 c1, .slice d1 m1 k1]] W (RVal W (.bool true))) := Lib.hid fun W h => by have := c_specIsPairMap (.slice a1 l1 c1) (.slice d1 m1 k1) A B W h; rw [HPM.out] at this; exact this
    have B0 : Below (w1.alloc (.cells #[.slice a1 l1 c1, .slice d1 m1 k1] 27)).heap.size (w1.alloc (.cells #[.slice a1 l1 c1, .slice d1 m1 k1] 27)) (w1.alloc (.cells #[.slice a1 l1 c1, .slice d1 m1 k1] 27)).drew := (Below.refl _ _).drew
    obtain ⟨zc0, zc1⟩ := HB0.out _ B0
    have S0 := Lib.hid (HSl.out _ B0)
    go_wp2_with fail
    go_region_held3 (fun w' => w'.cell? ⟨w1.heap.size, 0, none⟩ = some (.slice a1 l1 c1) ∧ w'.cell? ⟨w1.heap.size, 1, none⟩ = some (.slice d1 m1 k1))
      (first | exact HB0.out _ B0 | exact HB0.out _ B2 | exact HB0.out _ B3 | exact HB0.out _ B4 | exact HB0.out _ B5)
      (first
        | (go_at_call 35; (with_reducible refine (HC1.out _ S0.out).mono ?_); rintro e w2 ⟨rfl, hb⟩; have B2 := bb B0 hb; have S2 := Lib.hid (HSl.out _ B2); obtain ⟨zd0, zd1⟩ := HB0.out _ B2; clear hb)
        | (go_at_call 58; (with_reducible refine (HC2.out _ S2.out).mono ?_); rintro e w3 ⟨rfl, hb⟩; have B3 := bb B2 hb; have S3 := Lib.hid (HSl.out _ B3); obtain ⟨ze0, ze1⟩ := HB0.out _ B3; clear hb)
        | (go_at_call 59; (with_reducible refine (HC3.out _ S3.out).mono ?_); rintro e w4 ⟨rfl, hb⟩; have B4 := bb B3 hb; have S4 := Lib.hid (HSl.out _ B4); obtain ⟨zf0, zf1⟩ := HB0.out _ B4; clear hb)
        | (go_at_call 60; (with_reducible refine (HC4.out _ S4.out).mono ?_); rintro e w5 ⟨rfl, hb⟩; have B5 := bb B4 hb; have S5 := Lib.hid (HSl.out _ B5); obtain ⟨zg0, zg1⟩ := HB0.out _ B5; clear hb))
    rename_i hHz
    clear hHz
    have H5 := Lib.hid (H1.out.under B5)
    clear HC1 HC2 HC3 HC4
    obtain ⟨x00, x01, -, -⟩ := two_cells (LS.getB (q := w1.heap.size) (a := .slice a1 l1 c1) (b := .slice d1 m1 k1) H5.out (by simp))
    go_wp2_with fail
    refine (c_CollisionOf _ _ A B _ ⟨H5.out.getR (X := A) (by simp), H5.out.getR (X := B) (by simp)⟩).mono ?_; rintro e w6 ⟨pr, rfl, hs, hb⟩
    rw [HC.out.1] at hs
    rw [HC.out.2]
    have H6 := Lib.hid ((H5.out.under hb).addI hs.ints)
    clear hs hb x00 x01
    obtain ⟨x00, x01, -, -⟩ := two_cells (LS.getB (q := w1.heap.size) (a := .slice a1 l1 c1) (b := .slice d1 m1 k1) H6.out (by simp))
    go_wp2_with fail
    refine (c_specCollisionOf _ _ A B _ ⟨H6.out.getR (X := A) (by simp), H6.out.getR (X := B) (by simp)⟩).mono ?_; rintro e w7 ⟨du, rfl, hs, hb⟩
    rw [HC.out.1] at hs
    rw [HC.out.2]
    have H7 := Lib.hid ((H6.out.under hb).addI hs.ints)
    clear hs hb x00 x01
    obtain ⟨x00, x01, -, -⟩ := two_cells (LS.getB (q := w1.heap.size) (a := .slice a1 l1 c1) (b := .slice d1 m1 k1) H7.out (by simp))
    go_wp2_with fail
    refine (c_EquationFault _ _ A B _ ⟨H7.out.getR (X := A) (by simp), H7.out.getR (X := B) (by simp)⟩).mono ?_; rintro e w8 ⟨tr, rfl, hs, hb⟩
    rw [HER.out] at hs
    rw [HCy.out]
    have H8 := Lib.hid ((H7.out.under hb).addI hs.ints)
    clear hs hb x00 x01
    obtain ⟨x00, x01, -, -⟩ := two_cells (LS.getB (q := w1.heap.size) (a := .slice a1 l1 c1) (b := .slice d1 m1 k1) H8.out (by simp))
    go_wp2_with fail
    refine (c_specEquationFault _ _ A B _ ⟨H8.out.getR (X := A) (by simp), H8.out.getR (X := B) (by simp)⟩).mono ?_; rintro e w9 ⟨wa, rfl, hs, hb⟩
    rw [HER.out] at hs
    rw [HCy.out]
    have H9 := Lib.hid ((H8.out.under hb).addI hs.ints)
    clear hs hb x00 x01
    go_wp2_with fail
    refine (c_likeInts _ _ ([] : List Int) ([] : List Int) _ (H9.out.getI (xs := ([] : List Int)) (by simp)) (H9.out.getI (xs := ([] : List Int)) (by simp))).mono ?_; rintro e w10 ⟨rfl, hb⟩
    rw [show decide (([] : List Int) = ([] : List Int)) = true from by simp]
    have H10 := Lib.hid (H9.out.under (below_of_drewN hb))
    clear hb
    go_wp2_with fail
    refine (c_likeInts _ _ Y Y _ (H10.out.getI (xs := Y) (by simp)) (H10.out.getI (xs := Y) (by simp))).mono ?_; rintro e w11 ⟨rfl, hb⟩
    rw [show decide (Y = Y) = true from by simp]
    have H11 := Lib.hid (H10.out.under (below_of_drewN hb))
    clear hb
    obtain ⟨x00, x01, -, -⟩ := two_cells (LS.getB (q := w1.heap.size) (a := .slice a1 l1 c1) (b := .slice d1 m1 k1) H11.out (by simp))
    go_wp2_with fail
    refine (c_specIsPairMap _ _ A B _ ⟨H11.out.getR (X := A) (by simp), H11.out.getR (X := B) (by simp)⟩).mono ?_; rintro e w12 ⟨rfl, hb⟩
    rw [F.out.2]
    have H12 := Lib.hid (H11.out.under hb)
    clear hb x00 x01
    obtain ⟨x00, x01, -, -⟩ := two_cells (LS.getB (q := w1.heap.size) (a := .slice a1 l1 c1) (b := .slice d1 m1 k1) H12.out (by simp))
    go_wp2_with fail
    refine (c_IsSolution _ _ A B _ ⟨H12.out.getR (X := A) (by simp), H12.out.getR (X := B) (by simp)⟩).mono ?_; rintro e w13 ⟨rfl, hb⟩
    rw [HSv.out]
    have H13 := Lib.hid (H12.out.under hb)
    clear hb x00 x01
    rcases hor with ⟨e1, e2⟩ | ⟨e1, e2⟩
    · subst e1 e2
      clear hcc hss
      have hlA : l1 = A.length := by
        obtain ⟨_, _, h, _⟩ := (H13.out.getR (v := .slice a1 l1 c1) (X := A) (by simp)).shape
        injection h
      have hlB2 : m1 = B.length := by
        obtain ⟨_, _, h, _⟩ := (H13.out.getR (v := .slice d1 m1 k1) (X := B) (by simp)).shape
        injection h
      have HL := Lib.hid (And.intro hlA hlB2)
      clear hlA hlB2
      have HV0 := Lib.hid (HV.out.below H13.out.2.2.2)
      go_wp2_with fail
      refine (c_roll _ bs.length 813 _ HV0.out (by omega)).mono ?_; rintro e wr0 ⟨b, rfl, hwb, hdi, hb⟩
      have HDi := Lib.hid hdi; have HBl := Lib.hid hb; have HWB := Lib.hid hwb
      clear hdi hb hwb
      have HR0 := Lib.hid (H13.out.under HBl.out)
      obtain ⟨x00, x01, -, -⟩ := two_cells (LS.getB (q := w1.heap.size) (a := .slice a1 l1 c1) (b := .slice d1 m1 k1) HR0.out (by simp))
      go_wp2_with fail
      refine (c_below b l1 _ HDi.out (by have := HL.out; omega) (by have := HL.out; omega)).mono ?_; rintro e wr1 ⟨x, rfl, x0, x1, hd⟩
      have HD1 := Lib.hid hd; clear hd x00 x01
      have HB1 := Lib.hid (HD1.out.below HBl.out HWB.out HBl.out.size)
      have HR1 := Lib.hid (H13.out.under HB1.out)
      go_wp2_with fail
      refine (c_below b l1 _ HD1.out.1 (by have := HL.out; omega) (by have := HL.out; omega)).mono ?_; rintro e wr2 ⟨y, rfl, y0, y1, hd⟩
      have HB2 := Lib.hid (hd.below HB1.out HWB.out HB1.out.size)
      clear hd
      have HR2 := Lib.hid (H13.out.under HB2.out)
      have hxA : x < A.length := by have := HL.out; omega
      have hyA : y < A.length := by have := HL.out; omega
      have HAp := Lib.hid (show apV A B A x y = val2 A x y ∧ apV A B B x y = val2 B x y ∧ apC A B x y = 0 from ap_in HPM.out ⟨x0, hxA⟩ ⟨y0, hyA⟩)
      obtain ⟨x00, x01, -, -⟩ := two_cells (LS.getB (q := w1.heap.size) (a := .slice a1 l1 c1) (b := .slice d1 m1 k1) HR2.out (by simp))
      go_wp2_with fail
      refine (c_ApplyPair _ _ A B x y _ ⟨HR2.out.getR (X := A) (by simp), HR2.out.getR (X := B) (by simp)⟩ (by omega) (by omega) (by omega) (by omega)).mono ?_; rintro e wr3 ⟨rfl, hb⟩
      rw [HAp.out.1, HAp.out.2.1, HAp.out.2.2]
      have HR3 := Lib.hid (HR2.out.under hb)
      clear hb x00 x01
      obtain ⟨x00, x01, -, -⟩ := two_cells (LS.getB (q := w1.heap.size) (a := .slice a1 l1 c1) (b := .slice d1 m1 k1) HR3.out (by simp))
      have hlB : A.length = B.length := (isPM_parts HPM.out).2.2
      obtain ⟨X0, hX0⟩ : ∃ X : Nat, x = X := ⟨x.toNat, by omega⟩
      obtain ⟨Y0, hY0⟩ : ∃ X : Nat, y = X := ⟨y.toNat, by omega⟩
      subst hX0 hY0
      obtain ⟨p1, o1, s1, e1, f1, g1, h1⟩ := (HR3.out.getR (v := .slice a1 l1 c1) (X := A) (by simp)).getS X0 (by omega)
      obtain ⟨p2, o2, s2, e2, f2, g2, h2⟩ := (HR3.out.getR (v := .slice d1 m1 k1) (X := B) (by simp)).getS X0 (by omega)
      have r1 : (row A X0).length = A.length := isTab_row (isPM_parts HPM.out).1 (by omega) (by omega)
      have r2 : (row B X0).length = B.length := isTab_row (isPM_parts HPM.out).2.1 (by omega) (by omega)
      obtain ⟨t1, u1, i1, j1⟩ := h1.get Y0 (by omega)
      obtain ⟨t2, u2, i2, j2⟩ := h2.get Y0 (by omega)
      subst f1 f2 i1 i2
      rw [r1] at g1
      rw [r2, ← hlB] at g2
      have vA : val2 A (X0 : Int) (Y0 : Int) = nth (row A X0) Y0 := rfl
      have vB : val2 B (X0 : Int) (Y0 : Int) = nth (row B X0) Y0 := rfl
      rw [vA, vB]
      generalize nth (row A X0) Y0 = z1 at *
      generalize nth (row B X0) Y0 = z2 at *
      have hl1A : l1 = A.length := HL.out.1
      have hm1A : m1 = A.length := HL.out.2.trans hlB.symm
      have HFin := Lib.hid HR3.out.2.2.2
      clear h1 h2 r1 r2 vA vB
      go_wp2
      go_ret
      exact ⟨rfl, HFin.out⟩
    · subst e1 e2
      clear hcc hss
      have hlA : l1 = A.length := by
        obtain ⟨_, _, h, _⟩ := (H13.out.getR (v := .slice a1 l1 c1) (X := A) (by simp)).shape
        injection h
      have hlB2 : m1 = B.length := by
        obtain ⟨_, _, h, _⟩ := (H13.out.getR (v := .slice d1 m1 k1) (X := B) (by simp)).shape
        injection h
      have HL := Lib.hid (And.intro hlA hlB2)
      clear hlA hlB2
      have HV0 := Lib.hid (HV.out.below H13.out.2.2.2)
      go_wp2_with fail
      refine (c_roll _ bs.length 813 _ HV0.out (by omega)).mono ?_; rintro e wr0 ⟨b, rfl, hwb, hdi, hb⟩
      have HDi := Lib.hid hdi; have HBl := Lib.hid hb; have HWB := Lib.hid hwb
      clear hdi hb hwb
      have HR0 := Lib.hid (H13.out.under HBl.out)
      obtain ⟨x00, x01, -, -⟩ := two_cells (LS.getB (q := w1.heap.size) (a := .slice a1 l1 c1) (b := .slice d1 m1 k1) HR0.out (by simp))
      go_wp2_with fail
      refine (c_below b l1 _ HDi.out (by have := HL.out; omega) (by have := HL.out; omega)).mono ?_; rintro e wr1 ⟨x, rfl, x0, x1, hd⟩
      have HD1 := Lib.hid hd; clear hd x00 x01
      have HB1 := Lib.hid (HD1.out.below HBl.out HWB.out HBl.out.size)
      have HR1 := Lib.hid (H13.out.under HB1.out)
      go_wp2_with fail
      refine (c_below b l1 _ HD1.out.1 (by have := HL.out; omega) (by have := HL.out; omega)).mono ?_; rintro e wr2 ⟨y, rfl, y0, y1, hd⟩
      have HB2 := Lib.hid (hd.below HB1.out HWB.out HB1.out.size)
      clear hd
      have HR2 := Lib.hid (H13.out.under HB2.out)
      have hxA : x < A.length := by have := HL.out; omega
      have hyA : y < A.length := by have := HL.out; omega
      have HAp := Lib.hid (show apV A B A x y = val2 A x y ∧ apV A B B x y = val2 B x y ∧ apC A B x y = 0 from ap_in HPM.out ⟨x0, hxA⟩ ⟨y0, hyA⟩)
      obtain ⟨x00, x01, -, -⟩ := two_cells (LS.getB (q := w1.heap.size) (a := .slice a1 l1 c1) (b := .slice d1 m1 k1) HR2.out (by simp))
      go_wp2_with fail
      refine (c_ApplyPair _ _ A B x y _ ⟨HR2.out.getR (X := A) (by simp), HR2.out.getR (X := B) (by simp)⟩ (by omega) (by omega) (by omega) (by omega)).mono ?_; rintro e wr3 ⟨rfl, hb⟩
      rw [HAp.out.1, HAp.out.2.1, HAp.out.2.2]
      have HR3 := Lib.hid (HR2.out.under hb)
      clear hb x00 x01
      obtain ⟨x00, x01, -, -⟩ := two_cells (LS.getB (q := w1.heap.size) (a := .slice a1 l1 c1) (b := .slice d1 m1 k1) HR3.out (by simp))
      have hlB : A.length = B.length := (isPM_parts HPM.out).2.2
      obtain ⟨X0, hX0⟩ : ∃ X : Nat, x = X := ⟨x.toNat, by omega⟩
      obtain ⟨Y0, hY0⟩ : ∃ X : Nat, y = X := ⟨y.toNat, by omega⟩
      subst hX0 hY0
      obtain ⟨p1, o1, s1, e1, f1, g1, h1⟩ := (HR3.out.getR (v := .slice a1 l1 c1) (X := A) (by simp)).getS X0 (by omega)
      obtain ⟨p2, o2, s2, e2, f2, g2, h2⟩ := (HR3.out.getR (v := .slice d1 m1 k1) (X := B) (by simp)).getS X0 (by omega)
      have r1 : (row A X0).length = A.length := isTab_row (isPM_parts HPM.out).1 (by omega) (by omega)
      have r2 : (row B X0).length = B.length := isTab_row (isPM_parts HPM.out).2.1 (by omega) (by omega)
      obtain ⟨t1, u1, i1, j1⟩ := h1.get Y0 (by omega)
      obtain ⟨t2, u2, i2, j2⟩ := h2.get Y0 (by omega)
      subst f1 f2 i1 i2
      rw [r1] at g1
      rw [r2, ← hlB] at g2
      have vA : val2 A (X0 : Int) (Y0 : Int) = nth (row A X0) Y0 := rfl
      have vB : val2 B (X0 : Int) (Y0 : Int) = nth (row B X0) Y0 := rfl
      rw [vA, vB]
      generalize nth (row A X0) Y0 = z1 at *
      generalize nth (row B X0) Y0 = z2 at *
      have hl1A : l1 = A.length := HL.out.1
      have hm1A : m1 = A.length := HL.out.2.trans hlB.symm
      have HFin := Lib.hid HR3.out.2.2.2
      clear h1 h2 r1 r2 vA vB
      go_wp2
      go_ret
      exact ⟨rfl, HFin.out⟩
  · obtain ⟨qx, qy, qu, qv, hL, ⟨q1, q2, q3, q4⟩, hvA, hvB, hne⟩ := coll_some hp hc
    have HC := Lib.hid (show colRes A B = [(qx : Int), (qy : Int), (qu : Int), (qv : Int)] ∧ colCode A B = 0 by simp only [colRes, colCode, hp, if_true, hc, if_false]; exact ⟨hL, trivial⟩)
    have HS := Lib.hid (show isSol A B = false by simp [isSol, hc])
    have F := Lib.hid (And.intro HS.out hp)
    have HAp1 := Lib.hid (ap_in hp (InR.of q1) (InR.of q2))
    have HAp2 := Lib.hid (ap_in hp (InR.of q3) (InR.of q4))
    have HVA := Lib.hid hvA; have HVB := Lib.hid hvB; have HNe := Lib.hid hne
    clear hc hp hL hvA hvB hne hY hcy
    have HB0 : Hid (∀ w' : World, Below (w1.alloc (.cells #[.slice a1 l1 c1, .slice d1 m1 k1] 27)).heap.size (w1.alloc (.cells #[.slice a1 l1 c1, .slice d1 m1 k1] 27)) w' → w'.cell? ⟨w1.heap.size, 0, none⟩ = some (.slice a1 l1 c1) ∧ w'.cell? ⟨w1.heap.size, 1, none⟩ = some (.slice d1 m1 k1)) := Lib.hid fun w' k => by
      obtain ⟨x0, x1, -, -⟩ := two_cells ((LS.getB (q := w1.heap.size) (a := .slice a1 l1 c1) (b := .slice d1 m1 k1) H1.out (by simp)).under k)
      exact ⟨x0, x1⟩
    have HSl : Hid (∀ w' : World, Below (w1.alloc (.cells #[.slice a1 l1 c1, .slice d1 m1 k1] 27)).heap.size (w1.alloc (.cells #[.slice a1 l1 c1, .slice d1 m1 k1] 27)) w' → Sol w' (.slice a1 l1 c1) (.slice d1 m1 k1) A B) := Lib.hid fun w' k => ⟨(H1.out.getR (v := .slice a1 l1 c1) (X := A) (by simp)).below k, (H1.out.getR (v := .slice d1 m1 k1) (X := B) (by simp)).below k⟩
    have HC1 : Hid (∀ W : World, Sol W (.slice a1 l1 c1) (.slice d1 m1 k1) A B → Calls Try.prog 35 #[.agg #[.slice a1 l1 c1, .slice d1 m1 k1]] W (RVal W (.bool false))) := Lib.hid fun W h => by have := c_IsSolution (.slice a1 l1 c1) (.slice d1 m1 k1) A B W h; rw [HS.out] at this; exact this
    have HC2 : Hid (∀ W : World, Sol W (.slice a1 l1 c1) (.slice d1 m1 k1) A B → Calls Try.prog 58 #[.agg #[.slice a1 l1 c1, .slice d1 m1 k1]] W (RVal W (.bool false))) := Lib.hid fun W h => by have := c_specIsSolution (.slice a1 l1 c1) (.slice d1 m1 k1) A B W h; rw [HS.out] at this; exact this
    have HC3 : Hid (∀ W : World, Sol W (.slice a1 l1 c1) (.slice d1 m1 k1) A B → Calls Try.prog 59 #[.agg #[.slice a1 l1 c1, .slice d1 m1 k1]] W (RVal W (.bool true))) := Lib.hid fun W h => by have := c_IsPairMap (.slice a1 l1 c1) (.slice d1 m1 k1) A B W h; rw [HPM.out] at this; exact this
    have HC4 : Hid (∀ W : World, Sol W (.slice a1 l1 c1) (.slice d1 m1 k1) A B → Calls Try.prog 60 #[.agg #[.slice a1 l1 c1, .slice d1 m1 k1]] W (RVal W (.bool true))) := Lib.hid fun W h => by have := c_specIsPairMap (.slice a1 l1 c1) (.slice d1 m1 k1) A B W h; rw [HPM.out] at this; exact this
    have B0 : Below (w1.alloc (.cells #[.slice a1 l1 c1, .slice d1 m1 k1] 27)).heap.size (w1.alloc (.cells #[.slice a1 l1 c1, .slice d1 m1 k1] 27)) (w1.alloc (.cells #[.slice a1 l1 c1, .slice d1 m1 k1] 27)).drew := (Below.refl _ _).drew
    obtain ⟨zc0, zc1⟩ := HB0.out _ B0
    have S0 := Lib.hid (HSl.out _ B0)
    go_wp2_with fail
    go_region_held3 (fun w' => w'.cell? ⟨w1.heap.size, 0, none⟩ = some (.slice a1 l1 c1) ∧ w'.cell? ⟨w1.heap.size, 1, none⟩ = some (.slice d1 m1 k1))
      (first | exact HB0.out _ B0 | exact HB0.out _ B2 | exact HB0.out _ B3 | exact HB0.out _ B4 | exact HB0.out _ B5)
      (first
        | (go_at_call 35; (with_reducible refine (HC1.out _ S0.out).mono ?_); rintro e w2 ⟨rfl, hb⟩; have B2 := bb B0 hb; have S2 := Lib.hid (HSl.out _ B2); obtain ⟨zd0, zd1⟩ := HB0.out _ B2; clear hb)
        | (go_at_call 58; (with_reducible refine (HC2.out _ S2.out).mono ?_); rintro e w3 ⟨rfl, hb⟩; have B3 := bb B2 hb; have S3 := Lib.hid (HSl.out _ B3); obtain ⟨ze0, ze1⟩ := HB0.out _ B3; clear hb)
        | (go_at_call 59; (with_reducible refine (HC3.out _ S3.out).mono ?_); rintro e w4 ⟨rfl, hb⟩; have B4 := bb B3 hb; have S4 := Lib.hid (HSl.out _ B4); obtain ⟨zf0, zf1⟩ := HB0.out _ B4; clear hb)
        | (go_at_call 60; (with_reducible refine (HC4.out _ S4.out).mono ?_); rintro e w5 ⟨rfl, hb⟩; have B5 := bb B4 hb; have S5 := Lib.hid (HSl.out _ B5); obtain ⟨zg0, zg1⟩ := HB0.out _ B5; clear hb))
    rename_i hHz
    clear hHz
    have H5 := Lib.hid (H1.out.under B5)
    clear HC1 HC2 HC3 HC4
    obtain ⟨x00, x01, -, -⟩ := two_cells (LS.getB (q := w1.heap.size) (a := .slice a1 l1 c1) (b := .slice d1 m1 k1) H5.out (by simp))
    go_wp2_with fail
    refine (c_CollisionOf _ _ A B _ ⟨H5.out.getR (X := A) (by simp), H5.out.getR (X := B) (by simp)⟩).mono ?_; rintro e w6 ⟨pr, rfl, hs, hb⟩
    rw [HC.out.1] at hs
    rw [HC.out.2]
    have H6 := Lib.hid ((H5.out.under hb).addI hs.ints)
    clear hs hb x00 x01
    obtain ⟨x00, x01, -, -⟩ := two_cells (LS.getB (q := w1.heap.size) (a := .slice a1 l1 c1) (b := .slice d1 m1 k1) H6.out (by simp))
    go_wp2_with fail
    refine (c_specCollisionOf _ _ A B _ ⟨H6.out.getR (X := A) (by simp), H6.out.getR (X := B) (by simp)⟩).mono ?_; rintro e w7 ⟨du, rfl, hs, hb⟩
    rw [HC.out.1] at hs
    rw [HC.out.2]
    have H7 := Lib.hid ((H6.out.under hb).addI hs.ints)
    clear hs hb x00 x01
    obtain ⟨x00, x01, -, -⟩ := two_cells (LS.getB (q := w1.heap.size) (a := .slice a1 l1 c1) (b := .slice d1 m1 k1) H7.out (by simp))
    go_wp2_with fail
    refine (c_EquationFault _ _ A B _ ⟨H7.out.getR (X := A) (by simp), H7.out.getR (X := B) (by simp)⟩).mono ?_; rintro e w8 ⟨tr, rfl, hs, hb⟩
    rw [HER.out] at hs
    rw [HCy.out]
    have H8 := Lib.hid ((H7.out.under hb).addI hs.ints)
    clear hs hb x00 x01
    obtain ⟨x00, x01, -, -⟩ := two_cells (LS.getB (q := w1.heap.size) (a := .slice a1 l1 c1) (b := .slice d1 m1 k1) H8.out (by simp))
    go_wp2_with fail
    refine (c_specEquationFault _ _ A B _ ⟨H8.out.getR (X := A) (by simp), H8.out.getR (X := B) (by simp)⟩).mono ?_; rintro e w9 ⟨wa, rfl, hs, hb⟩
    rw [HER.out] at hs
    rw [HCy.out]
    have H9 := Lib.hid ((H8.out.under hb).addI hs.ints)
    clear hs hb x00 x01
    go_wp2_with fail
    refine (c_likeInts _ _ [(qx : Int), (qy : Int), (qu : Int), (qv : Int)] [(qx : Int), (qy : Int), (qu : Int), (qv : Int)] _ (H9.out.getI (xs := [(qx : Int), (qy : Int), (qu : Int), (qv : Int)]) (by simp)) (H9.out.getI (xs := [(qx : Int), (qy : Int), (qu : Int), (qv : Int)]) (by simp))).mono ?_; rintro e w10 ⟨rfl, hb⟩
    rw [show decide ([(qx : Int), (qy : Int), (qu : Int), (qv : Int)] = [(qx : Int), (qy : Int), (qu : Int), (qv : Int)]) = true from by simp]
    have H10 := Lib.hid (H9.out.under (below_of_drewN hb))
    clear hb
    go_wp2_with fail
    refine (c_likeInts _ _ Y Y _ (H10.out.getI (xs := Y) (by simp)) (H10.out.getI (xs := Y) (by simp))).mono ?_; rintro e w11 ⟨rfl, hb⟩
    rw [show decide (Y = Y) = true from by simp]
    have H11 := Lib.hid (H10.out.under (below_of_drewN hb))
    clear hb
    obtain ⟨x00, x01, -, -⟩ := two_cells (LS.getB (q := w1.heap.size) (a := .slice a1 l1 c1) (b := .slice d1 m1 k1) H11.out (by simp))
    go_wp2_with fail
    refine (c_specIsPairMap _ _ A B _ ⟨H11.out.getR (X := A) (by simp), H11.out.getR (X := B) (by simp)⟩).mono ?_; rintro e w12 ⟨rfl, hb⟩
    rw [F.out.2]
    have H12 := Lib.hid (H11.out.under hb)
    clear hb x00 x01
    obtain ⟨x00, x01, -, -⟩ := two_cells (LS.getB (q := w1.heap.size) (a := .slice a1 l1 c1) (b := .slice d1 m1 k1) H12.out (by simp))
    go_wp2_with fail
    refine (c_IsSolution _ _ A B _ ⟨H12.out.getR (X := A) (by simp), H12.out.getR (X := B) (by simp)⟩).mono ?_; rintro e w13 ⟨rfl, hb⟩
    rw [HS.out]
    have H13 := Lib.hid (H12.out.under hb)
    clear hb x00 x01
    obtain ⟨pa, pc, hpr, -, -⟩ := (LS.getI (v := pr) (xs := [(qx : Int), (qy : Int), (qu : Int), (qv : Int)]) H13.out (by simp)).shape
    simp only [List.length_cons, List.length_nil] at hpr
    subst hpr
    obtain ⟨pb, po, hpa, p0⟩ := (LS.getI (v := .slice pa 4 pc) (xs := [(qx : Int), (qy : Int), (qu : Int), (qv : Int)]) H13.out (by simp)).get 0 (by simp)
    subst hpa
    have HPr := Lib.hid (show ∀ W, Below w13.heap.size w13 W → W.cell? ⟨pb, po, none⟩ = some (.int .i64 qx) ∧ W.cell? ⟨pb, po + 1, none⟩ = some (.int .i64 qy) ∧ W.cell? ⟨pb, po + 2, none⟩ = some (.int .i64 qu) ∧ W.cell? ⟨pb, po + 3, none⟩ = some (.int .i64 qv) from fun W hW => by
      have hI := (LS.getI (v := .slice (some ⟨pb, po, none⟩) 4 pc) (xs := [(qx : Int), (qy : Int), (qu : Int), (qv : Int)]) H13.out (by simp)).below hW
      exact ⟨by simpa [nth] using hI.at 0 (by simp), by simpa [nth] using hI.at 1 (by simp), by simpa [nth] using hI.at 2 (by simp), by simpa [nth] using hI.at 3 (by simp)⟩)
    clear p0
    have HBq : Hid (∀ W : World, Below w13.heap.size w13 W → W.cell? ⟨w1.heap.size, 0, none⟩ = some (.slice a1 l1 c1) ∧ W.cell? ⟨w1.heap.size, 1, none⟩ = some (.slice d1 m1 k1)) := Lib.hid fun W k => by
      obtain ⟨x0, x1, -, -⟩ := two_cells ((LS.getB (q := w1.heap.size) (a := .slice a1 l1 c1) (b := .slice d1 m1 k1) H13.out (by simp)).under k)
      exact ⟨x0, x1⟩
    have HSq : Hid (∀ W : World, Below w13.heap.size w13 W → Sol W (.slice a1 l1 c1) (.slice d1 m1 k1) A B) := Lib.hid fun W k => ⟨(H13.out.getR (v := .slice a1 l1 c1) (X := A) (by simp)).below k, (H13.out.getR (v := .slice d1 m1 k1) (X := B) (by simp)).below k⟩
    obtain ⟨z1, hz1⟩ : ∃ z, val2 A qu qv = z := ⟨_, rfl⟩
    obtain ⟨z2, hz2⟩ : ∃ z, val2 B qu qv = z := ⟨_, rfl⟩
    have HCa : Hid (∀ W : World, Sol W (.slice a1 l1 c1) (.slice d1 m1 k1) A B → Calls Try.prog 65 #[.agg #[.slice a1 l1 c1, .slice d1 m1 k1], .int .i64 qx, .int .i64 qy] W (RVal W (.tuple #[.int .i64 z1, .int .i64 z2, .int .i64 0]))) := Lib.hid fun W h => by
      have := c_ApplyPair (.slice a1 l1 c1) (.slice d1 m1 k1) A B qx qy W h (by omega) (by omega) (by omega) (by omega)
      rw [HAp1.out.1, HAp1.out.2.1, HAp1.out.2.2, HVA.out, HVB.out, hz1, hz2] at this; exact this
    have HCb : Hid (∀ W : World, Sol W (.slice a1 l1 c1) (.slice d1 m1 k1) A B → Calls Try.prog 65 #[.agg #[.slice a1 l1 c1, .slice d1 m1 k1], .int .i64 qu, .int .i64 qv] W (RVal W (.tuple #[.int .i64 z1, .int .i64 z2, .int .i64 0]))) := Lib.hid fun W h => by
      have := c_ApplyPair (.slice a1 l1 c1) (.slice d1 m1 k1) A B qu qv W h (by omega) (by omega) (by omega) (by omega)
      rw [HAp2.out.1, HAp2.out.2.1, HAp2.out.2.2, hz1, hz2] at this; exact this
    clear hz1 hz2
    have Ba0 : Below w13.heap.size w13 w13.drew := (Below.refl _ _).drew
    obtain ⟨p0, p1, p2, p3⟩ := HPr.out _ Ba0

    obtain ⟨x0, x1⟩ := HBq.out _ Ba0
    have Sa0 := Lib.hid (HSq.out _ Ba0)
    go_wp2_with fail
    go_region_held3 (fun w' => (w'.cell? ⟨w1.heap.size, 0, none⟩ = some (.slice a1 l1 c1) ∧ w'.cell? ⟨w1.heap.size, 1, none⟩ = some (.slice d1 m1 k1)) ∧ w'.cell? ⟨pb, po, none⟩ = some (.int .i64 qx) ∧ w'.cell? ⟨pb, po + 1, none⟩ = some (.int .i64 qy) ∧ w'.cell? ⟨pb, po + 2, none⟩ = some (.int .i64 qu) ∧ w'.cell? ⟨pb, po + 3, none⟩ = some (.int .i64 qv))
      (first | exact ⟨HBq.out _ Ba0, HPr.out _ Ba0⟩ | exact ⟨HBq.out _ Ba1, HPr.out _ Ba1⟩)
      ((go_at_call 65; (with_reducible refine (HCa.out _ Sa0.out).mono ?_); rintro e wa1 ⟨rfl, hb⟩; have Ba1 := bb Ba0 hb; clear hb p0 p1 p2 p3 x0 x1; obtain ⟨p0, p1, p2, p3⟩ := HPr.out _ Ba1; obtain ⟨x0, x1⟩ := HBq.out _ Ba1))
    rename_i hHz
    clear hHz p0 p1 p2 p3 x0 x1 Sa0
    have Bb0 : Below w13.heap.size w13 wa1.drew := Ba1.drew
    obtain ⟨p0, p1, p2, p3⟩ := HPr.out _ Bb0

    obtain ⟨x0, x1⟩ := HBq.out _ Bb0
    have Sb0 := Lib.hid (HSq.out _ Bb0)
    go_wp2_with fail
    go_region_held3 (fun w' => (w'.cell? ⟨w1.heap.size, 0, none⟩ = some (.slice a1 l1 c1) ∧ w'.cell? ⟨w1.heap.size, 1, none⟩ = some (.slice d1 m1 k1)) ∧ w'.cell? ⟨pb, po, none⟩ = some (.int .i64 qx) ∧ w'.cell? ⟨pb, po + 1, none⟩ = some (.int .i64 qy) ∧ w'.cell? ⟨pb, po + 2, none⟩ = some (.int .i64 qu) ∧ w'.cell? ⟨pb, po + 3, none⟩ = some (.int .i64 qv))
      (first | exact ⟨HBq.out _ Bb0, HPr.out _ Bb0⟩ | exact ⟨HBq.out _ Ba2, HPr.out _ Ba2⟩)
      ((go_at_call 65; (with_reducible refine (HCb.out _ Sb0.out).mono ?_); rintro e wa2 ⟨rfl, hb⟩; have Ba2 := bb Bb0 hb; clear hb p0 p1 p2 p3 x0 x1; obtain ⟨p0, p1, p2, p3⟩ := HPr.out _ Ba2; obtain ⟨x0, x1⟩ := HBq.out _ Ba2))
    rename_i hHz
    clear hHz p0 p1 p2 p3 x0 x1 Sb0
    obtain ⟨p0, p1, p2, p3⟩ := HPr.out _ Ba2

    have HA2 := Lib.hid (H13.out.under Ba2)
    have hzz1 : (z1 != z1) = false := by simp
    have hzz2 : (z2 != z2) = false := by simp
    have hne2 : (qx : Int) ≠ qu ∨ ((qx : Int) = qu ∧ (qy : Int) ≠ qv) := by
      have := HNe.out
      by_cases e : qx = qu
      · right; exact ⟨by omega, fun h => this ⟨e, by omega⟩⟩
      · left; omega

    rcases hne2 with hq | ⟨hq, hq2⟩
    · have hqb : ((qx : Int) == (qu : Int)) = false := by simpa using hq
      go_wp2_with fail
      go_quiet (fail)
      rename_i nq
      have HA3 := Lib.hid (HA2.out.under (below_drewN (Below.refl _ wa2) nq))
      clear p0 p1 p2 p3
      have hlA : l1 = A.length := by
        obtain ⟨_, _, h, _⟩ := (HA3.out.getR (v := .slice a1 l1 c1) (X := A) (by simp)).shape
        injection h
      have hlB2 : m1 = B.length := by
        obtain ⟨_, _, h, _⟩ := (HA3.out.getR (v := .slice d1 m1 k1) (X := B) (by simp)).shape
        injection h
      have HL := Lib.hid (And.intro hlA hlB2)
      clear hlA hlB2
      have HV0 := Lib.hid (HV.out.below HA3.out.2.2.2)
      go_wp2_with fail
      refine (c_roll _ bs.length 813 _ HV0.out (by omega)).mono ?_; rintro e wr0 ⟨b, rfl, hwb, hdi, hb⟩
      have HDi := Lib.hid hdi; have HBl := Lib.hid hb; have HWB := Lib.hid hwb
      clear hdi hb hwb
      have HR0 := Lib.hid (HA3.out.under HBl.out)
      obtain ⟨x00, x01, -, -⟩ := two_cells (LS.getB (q := w1.heap.size) (a := .slice a1 l1 c1) (b := .slice d1 m1 k1) HR0.out (by simp))
      go_wp2_with fail
      refine (c_below b l1 _ HDi.out (by have := HL.out; omega) (by have := HL.out; omega)).mono ?_; rintro e wr1 ⟨x, rfl, x0, x1, hd⟩
      have HD1 := Lib.hid hd; clear hd x00 x01
      have HB1 := Lib.hid (HD1.out.below HBl.out HWB.out HBl.out.size)
      have HR1 := Lib.hid (HA3.out.under HB1.out)
      go_wp2_with fail
      refine (c_below b l1 _ HD1.out.1 (by have := HL.out; omega) (by have := HL.out; omega)).mono ?_; rintro e wr2 ⟨y, rfl, y0, y1, hd⟩
      have HB2 := Lib.hid (hd.below HB1.out HWB.out HB1.out.size)
      clear hd
      have HR2 := Lib.hid (HA3.out.under HB2.out)
      have hxA : x < A.length := by have := HL.out; omega
      have hyA : y < A.length := by have := HL.out; omega
      have HAp := Lib.hid (show apV A B A x y = val2 A x y ∧ apV A B B x y = val2 B x y ∧ apC A B x y = 0 from ap_in HPM.out ⟨x0, hxA⟩ ⟨y0, hyA⟩)
      obtain ⟨x00, x01, -, -⟩ := two_cells (LS.getB (q := w1.heap.size) (a := .slice a1 l1 c1) (b := .slice d1 m1 k1) HR2.out (by simp))
      go_wp2_with fail
      refine (c_ApplyPair _ _ A B x y _ ⟨HR2.out.getR (X := A) (by simp), HR2.out.getR (X := B) (by simp)⟩ (by omega) (by omega) (by omega) (by omega)).mono ?_; rintro e wr3 ⟨rfl, hb⟩
      rw [HAp.out.1, HAp.out.2.1, HAp.out.2.2]
      have HR3 := Lib.hid (HR2.out.under hb)
      clear hb x00 x01
      obtain ⟨x00, x01, -, -⟩ := two_cells (LS.getB (q := w1.heap.size) (a := .slice a1 l1 c1) (b := .slice d1 m1 k1) HR3.out (by simp))
      have hlB : A.length = B.length := (isPM_parts HPM.out).2.2
      obtain ⟨X0, hX0⟩ : ∃ X : Nat, x = X := ⟨x.toNat, by omega⟩
      obtain ⟨Y0, hY0⟩ : ∃ X : Nat, y = X := ⟨y.toNat, by omega⟩
      subst hX0 hY0
      obtain ⟨p1, o1, s1, e1, f1, g1, h1⟩ := (HR3.out.getR (v := .slice a1 l1 c1) (X := A) (by simp)).getS X0 (by omega)
      obtain ⟨p2, o2, s2, e2, f2, g2, h2⟩ := (HR3.out.getR (v := .slice d1 m1 k1) (X := B) (by simp)).getS X0 (by omega)
      have r1 : (row A X0).length = A.length := isTab_row (isPM_parts HPM.out).1 (by omega) (by omega)
      have r2 : (row B X0).length = B.length := isTab_row (isPM_parts HPM.out).2.1 (by omega) (by omega)
      obtain ⟨t1, u1, i1, j1⟩ := h1.get Y0 (by omega)
      obtain ⟨t2, u2, i2, j2⟩ := h2.get Y0 (by omega)
      subst f1 f2 i1 i2
      rw [r1] at g1
      rw [r2, ← hlB] at g2
      have vA : val2 A (X0 : Int) (Y0 : Int) = nth (row A X0) Y0 := rfl
      have vB : val2 B (X0 : Int) (Y0 : Int) = nth (row B X0) Y0 := rfl
      rw [vA, vB]
      generalize nth (row A X0) Y0 = z1 at *
      generalize nth (row B X0) Y0 = z2 at *
      have hl1A : l1 = A.length := HL.out.1
      have hm1A : m1 = A.length := HL.out.2.trans hlB.symm
      have HFin := Lib.hid HR3.out.2.2.2
      clear h1 h2 r1 r2 vA vB
      go_wp2
      go_ret
      exact ⟨rfl, HFin.out⟩
    · have hqe : qx = qu := by omega
      subst hqe
      have hqb : ((qy : Int) == (qv : Int)) = false := by simpa using hq2
      go_wp2_with fail
      go_quiet (fail)
      rename_i nq
      have HA3 := Lib.hid (HA2.out.under (below_drewN (Below.refl _ wa2) nq))
      clear p0 p1 p2 p3
      have hlA : l1 = A.length := by
        obtain ⟨_, _, h, _⟩ := (HA3.out.getR (v := .slice a1 l1 c1) (X := A) (by simp)).shape
        injection h
      have hlB2 : m1 = B.length := by
        obtain ⟨_, _, h, _⟩ := (HA3.out.getR (v := .slice d1 m1 k1) (X := B) (by simp)).shape
        injection h
      have HL := Lib.hid (And.intro hlA hlB2)
      clear hlA hlB2
      have HV0 := Lib.hid (HV.out.below HA3.out.2.2.2)
      go_wp2_with fail
      refine (c_roll _ bs.length 813 _ HV0.out (by omega)).mono ?_; rintro e wr0 ⟨b, rfl, hwb, hdi, hb⟩
      have HDi := Lib.hid hdi; have HBl := Lib.hid hb; have HWB := Lib.hid hwb
      clear hdi hb hwb
      have HR0 := Lib.hid (HA3.out.under HBl.out)
      obtain ⟨x00, x01, -, -⟩ := two_cells (LS.getB (q := w1.heap.size) (a := .slice a1 l1 c1) (b := .slice d1 m1 k1) HR0.out (by simp))
      go_wp2_with fail
      refine (c_below b l1 _ HDi.out (by have := HL.out; omega) (by have := HL.out; omega)).mono ?_; rintro e wr1 ⟨x, rfl, x0, x1, hd⟩
      have HD1 := Lib.hid hd; clear hd x00 x01
      have HB1 := Lib.hid (HD1.out.below HBl.out HWB.out HBl.out.size)
      have HR1 := Lib.hid (HA3.out.under HB1.out)
      go_wp2_with fail
      refine (c_below b l1 _ HD1.out.1 (by have := HL.out; omega) (by have := HL.out; omega)).mono ?_; rintro e wr2 ⟨y, rfl, y0, y1, hd⟩
      have HB2 := Lib.hid (hd.below HB1.out HWB.out HB1.out.size)
      clear hd
      have HR2 := Lib.hid (HA3.out.under HB2.out)
      have hxA : x < A.length := by have := HL.out; omega
      have hyA : y < A.length := by have := HL.out; omega
      have HAp := Lib.hid (show apV A B A x y = val2 A x y ∧ apV A B B x y = val2 B x y ∧ apC A B x y = 0 from ap_in HPM.out ⟨x0, hxA⟩ ⟨y0, hyA⟩)
      obtain ⟨x00, x01, -, -⟩ := two_cells (LS.getB (q := w1.heap.size) (a := .slice a1 l1 c1) (b := .slice d1 m1 k1) HR2.out (by simp))
      go_wp2_with fail
      refine (c_ApplyPair _ _ A B x y _ ⟨HR2.out.getR (X := A) (by simp), HR2.out.getR (X := B) (by simp)⟩ (by omega) (by omega) (by omega) (by omega)).mono ?_; rintro e wr3 ⟨rfl, hb⟩
      rw [HAp.out.1, HAp.out.2.1, HAp.out.2.2]
      have HR3 := Lib.hid (HR2.out.under hb)
      clear hb x00 x01
      obtain ⟨x00, x01, -, -⟩ := two_cells (LS.getB (q := w1.heap.size) (a := .slice a1 l1 c1) (b := .slice d1 m1 k1) HR3.out (by simp))
      have hlB : A.length = B.length := (isPM_parts HPM.out).2.2
      obtain ⟨X0, hX0⟩ : ∃ X : Nat, x = X := ⟨x.toNat, by omega⟩
      obtain ⟨Y0, hY0⟩ : ∃ X : Nat, y = X := ⟨y.toNat, by omega⟩
      subst hX0 hY0
      obtain ⟨p1, o1, s1, e1, f1, g1, h1⟩ := (HR3.out.getR (v := .slice a1 l1 c1) (X := A) (by simp)).getS X0 (by omega)
      obtain ⟨p2, o2, s2, e2, f2, g2, h2⟩ := (HR3.out.getR (v := .slice d1 m1 k1) (X := B) (by simp)).getS X0 (by omega)
      have r1 : (row A X0).length = A.length := isTab_row (isPM_parts HPM.out).1 (by omega) (by omega)
      have r2 : (row B X0).length = B.length := isTab_row (isPM_parts HPM.out).2.1 (by omega) (by omega)
      obtain ⟨t1, u1, i1, j1⟩ := h1.get Y0 (by omega)
      obtain ⟨t2, u2, i2, j2⟩ := h2.get Y0 (by omega)
      subst f1 f2 i1 i2
      rw [r1] at g1
      rw [r2, ← hlB] at g2
      have vA : val2 A (X0 : Int) (Y0 : Int) = nth (row A X0) Y0 := rfl
      have vB : val2 B (X0 : Int) (Y0 : Int) = nth (row B X0) Y0 := rfl
      rw [vA, vB]
      generalize nth (row A X0) Y0 = z1 at *
      generalize nth (row B X0) Y0 = z2 at *
      have hl1A : l1 = A.length := HL.out.1
      have hm1A : m1 = A.length := HL.out.2.trans hlB.symm
      have HFin := Lib.hid HR3.out.2.2.2
      clear h1 h2 r1 r2 vA vB
      go_wp2
      go_ret
      exact ⟨rfl, HFin.out⟩
end Go.Proofs.Ytkcobfkmeaakoaa
