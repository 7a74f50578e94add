/-
  The walks behind the law FnProductsOfSolutions, joined into texts.
-/
import Derived.Test.YtkghonhghbcdlaaPRO2
import Derived.Test.YtkghonhghbcdlaaP5
import Derived.Test.YtkghonhghbcdlaaPRO1
import Derived.Test.YtkghonhghbcdlaaD3
import Derived.Test.YtkghonhghbcdlaaI13
import Derived.Test.YtkghonhghbcdlaaBase
import Derived.Deep.DeepCutAuto
namespace Go.Proofs.Ytkghonhghbcdlaa
set_option linter.unusedVariables false
set_option linter.unusedSimpArgs false
open Go Go.RowKit

theorem swap_perm2 {xs : List Int} (h : Permuted xs) {k u : Nat} (hk : k < xs.length) (hu : u < xs.length) : Permuted ((xs.set k (nth xs u)).set u (nth xs k)) := by
  have key : ∀ y : Int, 0 ≤ y → nth ((xs.set k (nth xs u)).set u (nth xs k)) y = if y = u then nth xs k else if y = k then nth xs u else nth xs y := by
    intro y y0
    have h1 := nth_set (xs.set k (nth xs u)) (u : Int) y (nth xs k) (by omega) (by rw [List.length_set]; omega) y0
    rw [Int.toNat_natCast] at h1
    rw [h1]
    have h2 := nth_set xs (k : Int) y (nth xs u) (by omega) (by omega) y0
    rw [Int.toNat_natCast] at h2
    rw [h2]
  rw [permuted_iff]
  intro x x0 x1
  simp only [List.length_set] at x1
  obtain ⟨y, y0, y1, e⟩ := ex_pre h x0 x1
  have hm : ∀ y : Int, 0 ≤ y → y < xs.length → nth ((xs.set k (nth xs u)).set u (nth xs k)) y ∈ (xs.set k (nth xs u)).set u (nth xs k) := fun y a b => nth_mem a (by rw [List.length_set, List.length_set]; exact b)
  subst e
  by_cases e1 : y = u
  · subst e1
    have h3 := hm k (by omega) (by omega)
    rw [key k (by omega)] at h3
    by_cases e2 : (k : Int) = u
    · obtain rfl : k = u := by omega
      rw [if_pos rfl] at h3; exact h3
    · rw [if_neg e2, if_pos rfl] at h3; exact h3
  · by_cases e2 : y = k
    · subst e2
      have h3 := hm u (by omega) (by omega)
      rw [key u (by omega), if_pos rfl] at h3
      exact h3
    · have h3 := hm y y0 y1
      rw [key y y0, if_neg e1, if_neg e2] at h3
      exact h3

set_option maxRecDepth 100000 in
set_option maxHeartbeats 1600000 in
theorem c_l01DrawP (b n : Nat) (w : World) (hs : Src w b) (h1 : 1 ≤ n) (h2 : n ≤ 1000) :
    Calls Try.prog 79 #[.pointer (some ⟨b, 0, none⟩), .int .i64 n] w (fun e w' => ∃ (r : Value) (xs : List Int), e = .returned r ∧ xs.length = n ∧ Permuted xs ∧ Own w.heap.size w' r xs ∧ Drew b w w') := by
  have HS := Lib.hid hs; have hbl := hs.lt; clear hs
  go_enter Try.func79, Try.ntmps79
  go_wp2_with fail
  refine (c_l01Unit n _ (by omega)).mono ?_; rintro e w1 ⟨r, rfl, ho, hb1⟩
  rcases ho.open with ⟨_, h0⟩ | ⟨g, cs, hv, hg, hblk, hmx⟩
  · have := congrArg List.length h0; simp at this; omega
  rw [iota_length] at hv hmx
  subst hv
  have HB0 := Lib.hid hblk; have HD0 := Lib.hid ((Drew.refl HS.out).under hb1)
  have HMX := Lib.hid hmx
  clear ho hblk hmx hb1
  go_wp2
  go_loopw [6, 7, 8] (fun i _ _ wr => ∃ (k : Nat) (xs : List Int), k < n ∧ i = .int .i64 k ∧ Hid (xs.length = n ∧ Permuted xs) ∧ Hid (Blk wr g 2 (xs.map (Value.int .i64) ++ cs)) ∧ Hid (Drew b w wr)) (fun i _ _ _ => (intOf i).toNat)
  case atStart => exact ⟨n - 1, iota n, by omega, by go_num, Lib.hid ⟨by simp, permuted_iota n⟩, HB0, HD0⟩
  case round =>
    clear HB0 HD0
    obtain ⟨k, xs, hk, rfl, HL, HB, HD⟩ := hrel
    obtain ⟨wo, rfl⟩ : ∃ wo : World, wo = wr := ⟨_, rfl⟩
    by_cases hk0 : 0 < k
    · go_wp2_with fail
      refine (c_l01Next b ((k : Int) + 1) _ HD.out.1 (by omega) (by omega)).mono ?_; rintro e w2 ⟨r, rfl, r0, r1, hd⟩
      obtain ⟨u, rfl⟩ : ∃ u : Nat, r = u := ⟨r.toNat, by omega⟩
      have hun : u < n := by omega
      have hB2 := hd.blk HB.out (by omega)
      have HD2 := Lib.hid (HD.out.trans hd)
      have hl := HL.out.1
      have l1 := hB2.labN k (by omega)
      have l2 := hB2.labN u (by omega)
      have f1 := hB2.frozen k
      have f2 := hB2.frozen u
      have s1 := hB2.labSet (k : Int) (by omega) (by omega) (nth xs (u : Int))
      rw [Int.toNat_natCast] at s1
      have s2 := s1.labSet (u : Int) (by omega) (by rw [List.length_set]; omega) (nth xs (k : Int))
      rw [Int.toNat_natCast] at s2
      have hg2 := s1.frozen u
      obtain ⟨z, hz⟩ : ∃ z, (w2.setCell ⟨g, k, none⟩ (.int .i64 (nth xs (u : Int)))).cell? ⟨g, u, none⟩ = some z := ⟨_, s1.labN u (by rw [List.length_set]; omega)⟩
      have HS2 := Lib.hid s2
      have hgb : b < g := by omega
      clear s1 s2 hd hl
      go_wp2
      go_roundw
      case rel =>
        refine ⟨k - 1, _, by omega, by go_num, Lib.hid ?_, HS2, Lib.hid ?_⟩
        · exact ⟨by simpa using HL.out.1, swap_perm2 HL.out.2 (by rw [HL.out.1]; exact hk) (by rw [HL.out.1]; exact hun)⟩
        · have kk := (HD2.out.2.setCell (p := ⟨g, k, none⟩) (.inr ?_) (.int .i64 (nth xs (u : Int)))).setCell (p := ⟨g, u, none⟩) (.inr ?_) (.int .i64 (nth xs (k : Int)))
          · refine ⟨?_, kk⟩
            exact HD2.out.1.keep (S := fun x => x = g) (((Keep.refl (fun x => x = g) w2).setCell (p := ⟨g, k, none⟩) (.inl rfl) _).setCell (p := ⟨g, u, none⟩) (.inl rfl) _) (fun p hp e => by have e : p = g := e; omega)
          · show w.heap.size ≤ g; omega
          · show w.heap.size ≤ g; omega
      case measure => simp [intOf]; omega
    · obtain rfl : k = 0 := by omega
      go_wp2
      go_ret
      exact ⟨_, xs, rfl, HL.out.1, HL.out.2, Own.shut HB.out (by omega) (by rw [HL.out.1]; exact HMX.out) HL.out.1.symm (by rw [HL.out.1]), HD.out⟩


/-- A pair of tables that can be read, all of it from lo on. -/
def SolAt (lo : Nat) (w : World) (v1 v2 : Value) (A B : List (List Int)) : Prop := RowsW lo w v1 A ∧ RowsW lo w v2 B
theorem SolAt.sol {lo : Nat} {w : World} {v1 v2 : Value} {A B : List (List Int)} (h : SolAt lo w v1 v2 A B) : Sol w v1 v2 A B := ⟨h.1.rows, h.2.rows⟩
theorem SolAt.drew {b lo : Nat} {w1 w2 : World} {v1 v2 : Value} {A B : List (List Int)} (h : SolAt lo w1 v1 v2 A B) (hd : Drew b w1 w2) (hb : b < lo) : SolAt lo w2 v1 v2 A B := ⟨drew_w hd h.1 hb, drew_w hd h.2 hb⟩
theorem rsolR_at {w w' : World} {A B : List (List Int)} {e : Ending} (h : RSolR w A B e w') : ∃ r1 r2, e = .returned (.agg #[r1, r2]) ∧ SolAt w.heap.size w' r1 r2 A B ∧ Below w.heap.size w w' := by
  obtain ⟨r1, r2, he, ⟨h1, h2⟩, hb⟩ := h
  exact ⟨r1, r2, he, ⟨h1.wr, h2.wr⟩, hb⟩
theorem RowsAt.mono {lo lo' : Nat} {w : World} {v : Value} {X : List (List Int)} (h : RowsAt lo w v X) (hl : lo' ≤ lo) : RowsAt lo' w v X := by
  obtain ⟨a, c, hv, h1, h2, hc⟩ := h
  exact ⟨a, c, hv, h1, h2, fun i hi => by obtain ⟨b, o, u, ha, hlo, hcell, hu⟩ := hc i hi; exact ⟨b, o, u, ha, by omega, hcell, hu.1, fun b o e => Nat.le_trans hl (hu.2 b o e)⟩⟩
theorem SolAt.mono {lo lo' : Nat} {w : World} {v1 v2 : Value} {A B : List (List Int)} (h : SolAt lo w v1 v2 A B) (hl : lo' ≤ lo) : SolAt lo' w v1 v2 A B := ⟨h.1.mono hl, h.2.mono hl⟩

set_option maxRecDepth 100000 in
set_option maxHeartbeats 1600000 in
theorem c_l02Twisted (b n : Nat) (w : World) (hs : Src w b) (h1 : 1 ≤ n) (h2 : n ≤ 12) :
    Calls Try.prog 131 #[.pointer (some ⟨b, 0, none⟩), .int .i64 n] w (fun e w' => ∃ (r1 r2 : Value) (A B : List (List Int)), e = .returned (.agg #[r1, r2]) ∧ SolAt w.heap.size w' r1 r2 A B ∧ isPM A B = true ∧ A.length = n ∧ Drew b w w') := by
  have HS := Lib.hid hs; have hbl := hs.lt; clear hs
  have HF0 : Hid (Blk (w.alloc (.cells #[.slice none 0 0, .slice none 0 0] 26)) w.heap.size 26 [.slice none 0 0, .slice none 0 0]) := Lib.hid (Blk.new w [.slice none 0 0, .slice none 0 0] 26)
  have HB0 : Hid (Below w.heap.size w (w.alloc (.cells #[.slice none 0 0, .slice none 0 0] 26))) := Lib.hid ((Below.refl _ _).alloc (Nat.le_refl _) _)
  go_enter Try.func131, Try.ntmps131
  have HS0 := Lib.hid (HS.out.under HB0.out)
  have HD0 := Lib.hid ((Drew.refl HS.out).under HB0.out)
  go_wp2_with fail
  refine (c_l01DrawP b n _ HS0.out h1 (by omega)).mono ?_; rintro e w1 ⟨r, p, rfl, hpl, hpp, hop, hd1⟩
  have HF1 := Lib.hid (hd1.blk HF0.out (by omega)); have HD1 := Lib.hid (HD0.out.trans hd1)
  have HP := Lib.hid (hop.mono (show w.heap.size ≤ _ by simp)); have HPP := Lib.hid (And.intro hpl hpp)
  clear hop hd1 hpl hpp
  go_wp2_with fail
  refine (c_l01Unit n _ (by omega)).mono ?_; rintro e w2 ⟨ru, rfl, hou, hb2⟩
  have HF2 := Lib.hid (HF1.out.under hb2); have HD2 := Lib.hid (HD1.out.under hb2); have HP2 := Lib.hid (HP.out.under hb2)
  have HQ2 := Lib.hid (hou.mono HD1.out.2.size)
  clear hou hb2
  go_wp2_with fail
  refine (c_l01Next b 4 _ HD2.out.1 (by omega) (by omega)).mono ?_; rintro e w3 ⟨t, rfl, t0, t1, hd3⟩
  obtain ⟨k0, rfl⟩ : ∃ k0 : Nat, t = k0 := ⟨t.toNat, by omega⟩
  have HF3 := Lib.hid (hd3.blk HF2.out (by omega)); have HD3 := Lib.hid (HD2.out.trans hd3)
  have HP3 := Lib.hid (hd3.own HP2.out hbl); have HQ3 := Lib.hid (hd3.own HQ2.out hbl)
  clear hd3
  go_wp2
  go_loopw [6, 7] (fun q k wr => ∃ (s : Nat) (qs : List Int), s ≤ 4 ∧ k = .int .i64 s ∧ Hid (Own w.heap.size wr q qs) ∧ Hid (qs.length = n ∧ Permuted qs) ∧ Hid (Own w.heap.size wr r p) ∧ Hid (Blk wr w.heap.size 26 [.slice none 0 0, .slice none 0 0]) ∧ Hid (Drew b w wr)) (fun _ k _ => (intOf k).toNat)
  case atStart => exact ⟨k0, iota n, by omega, rfl, HQ3, Lib.hid ⟨by simp, permuted_iota n⟩, HP3, HF3, HD3⟩
  case round =>
    clear HQ3 HP3 HF3 HD3
    obtain ⟨s, qs, hs4, rfl, HQ, HR, HP7, HF7, HD7⟩ := hrel
    by_cases hs0 : 0 < s
    · go_wp2_with fail
      refine (c_l01Then _ _ qs p _ HQ.out.ints HP7.out.ints (fun x hx => by have := HR.out.2.2 x hx; have := HR.out.1; have := HPP.out.1; omega) (by rw [HR.out.1]; omega)).mono ?_; rintro e w8 ⟨r8, rfl, ho8, hb8⟩
      have HQ8 := Lib.hid (ho8.mono HD7.out.2.size); have HP8 := Lib.hid (HP7.out.under hb8); have HF8 := Lib.hid (HF7.out.under hb8); have HD8 := Lib.hid (HD7.out.under hb8)
      have HR8 : Hid ((thenL qs p).length = n ∧ Permuted (thenL qs p)) := Lib.hid ⟨by rw [thenL_length]; exact HR.out.1, then_perm HR.out.2 HPP.out.2 (by rw [HPP.out.1, HR.out.1])⟩
      clear ho8 hb8
      go_wp2
      go_roundw
      case rel => exact ⟨s - 1, thenL qs p, by omega, by go_num, HQ8, HR8, HP8, HF8, HD8⟩
      case measure => simp [intOf]; omega
    · obtain rfl : s = 0 := by omega
      go_wp2_with fail
      refine (c_l01Next b 2 _ HD7.out.1 (by omega) (by omega)).mono ?_; rintro e w6 ⟨t, rfl, t0, t1, hd6⟩
      have HF6 := Lib.hid (hd6.blk HF7.out (by omega)); have HD6 := Lib.hid (HD7.out.trans hd6)
      have HP6 := Lib.hid (hd6.own HP7.out hbl); have HQ6 := Lib.hid (hd6.own HQ.out hbl)
      clear hd6
      have hnp : p.length = n := HPP.out.1
      have hnq : qs.length = n := HR.out.1
      have HNP := Lib.hid hnp; have HNQ := Lib.hid hnq
      clear hnp hnq
      by_cases ht : t = 0
      · subst ht
        go_wp2_with fail
        refine (c_l02Twist _ _ p qs _ HP6.out.ints HQ6.out.ints (by rw [HNP.out, HNQ.out]) (by rw [HNP.out]; omega)).mono ?_; rintro e w9 hz
        have PMX : isPM (twA p) (twB p qs) = true := tw_pm HPP.out.2 HR.out.2 (by rw [HNP.out, HNQ.out]) (by rw [HNP.out]; exact h1) (by rw [HNP.out]; exact h2)
        have LENX : (twA p).length = n := by simp [twA]; exact HNP.out
        obtain ⟨r8, r9, he, hsa, hb9⟩ := rsolR_at hz
        subst he
        obtain ⟨sa1, sl1, sc1, hv1⟩ := hsa.sol.1.any
        obtain ⟨sa2, sl2, sc2, hv2⟩ := hsa.sol.2.any
        subst hv1 hv2
        have hf := HF6.out.under hb9
        obtain ⟨z0, z1, z2, z3⟩ := two_cells hf
        have HSA := Lib.hid hsa; have HB9 := Lib.hid hb9
        clear hz hsa hb9 hf
        go_wp2
        have kz : Keep (fun x => x = w.heap.size) w9 ((w9.setCell ⟨w.heap.size, 0, none⟩ (.slice sa1 sl1 sc1)).setCell ⟨w.heap.size, 1, none⟩ (.slice sa2 sl2 sc2)) := keep_early _ _ _ _
        have hlt6 := HF6.out.lt
        refine bodyPost_ret (v := .agg #[.slice sa1 sl1 sc1, .slice sa2 sl2 sc2]) (by simp [results, Try.results131, go_sem, z0, z1]) rfl ⟨_, _, _, _, rfl, ⟨(HSA.out.1.keep kz (fun x hx e => by have e : x = w.heap.size := e; omega)).mono (by omega), (HSA.out.2.keep kz (fun x hx e => by have e : x = w.heap.size := e; omega)).mono (by omega)⟩, PMX, LENX, ?_⟩
        exact drew_set (drew_set (HD6.out.under HB9.out) (p := ⟨w.heap.size, 0, none⟩) (Nat.le_refl _) hbl _) (p := ⟨w.heap.size, 1, none⟩) (Nat.le_refl _) hbl _
      · go_wp2_with fail
        refine (c_l02Twist _ _ qs p _ HQ6.out.ints HP6.out.ints (by rw [HNP.out, HNQ.out]) (by rw [HNQ.out]; omega)).mono ?_; rintro e w9 hz
        have PMX : isPM (twA qs) (twB qs p) = true := tw_pm HR.out.2 HPP.out.2 (by rw [HNP.out, HNQ.out]) (by rw [HNQ.out]; exact h1) (by rw [HNQ.out]; exact h2)
        have LENX : (twA qs).length = n := by simp [twA]; exact HNQ.out
        obtain ⟨r8, r9, he, hsa, hb9⟩ := rsolR_at hz
        subst he
        obtain ⟨sa1, sl1, sc1, hv1⟩ := hsa.sol.1.any
        obtain ⟨sa2, sl2, sc2, hv2⟩ := hsa.sol.2.any
        subst hv1 hv2
        have hf := HF6.out.under hb9
        obtain ⟨z0, z1, z2, z3⟩ := two_cells hf
        have HSA := Lib.hid hsa; have HB9 := Lib.hid hb9
        clear hz hsa hb9 hf
        go_wp2
        have kz : Keep (fun x => x = w.heap.size) w9 ((w9.setCell ⟨w.heap.size, 0, none⟩ (.slice sa1 sl1 sc1)).setCell ⟨w.heap.size, 1, none⟩ (.slice sa2 sl2 sc2)) := keep_early _ _ _ _
        have hlt6 := HF6.out.lt
        refine bodyPost_ret (v := .agg #[.slice sa1 sl1 sc1, .slice sa2 sl2 sc2]) (by simp [results, Try.results131, go_sem, z0, z1]) rfl ⟨_, _, _, _, rfl, ⟨(HSA.out.1.keep kz (fun x hx e => by have e : x = w.heap.size := e; omega)).mono (by omega), (HSA.out.2.keep kz (fun x hx e => by have e : x = w.heap.size := e; omega)).mono (by omega)⟩, PMX, LENX, ?_⟩
        exact drew_set (drew_set (HD6.out.under HB9.out) (p := ⟨w.heap.size, 0, none⟩) (Nat.le_refl _) hbl _) (p := ⟨w.heap.size, 1, none⟩) (Nat.le_refl _) hbl _
end Go.Proofs.Ytkghonhghbcdlaa

namespace Go.Proofs.Ytkghonhghbcdlaa
set_option linter.unusedVariables false
set_option linter.unusedSimpArgs false
open Go Go.RowKit

def pgA (n : Nat) : List (List Int) := tabOf n fun x y => (2 * x - y + n) % n
def pgB (n : Nat) : List (List Int) := tabOf n fun x _ => x

set_option maxRecDepth 100000 in
set_option maxHeartbeats 4000000 in
theorem c_l02Polygon (n : Nat) (w : World) (hn1 : 1 ≤ n) (hn : n ≤ 12) :
    Calls Try.prog 130 #[.int .i64 n] w (RSolR w (pgA n) (pgB n)) := by
  go_enter Try.func130, Try.ntmps130
  go_wp2
  have f2 := Blk.new w [.slice none 0 0, .slice none 0 0] 26
  have hV : Below w.heap.size w (w.alloc (.cells #[.slice none 0 0, .slice none 0 0] 26)) := (Below.refl _ _).alloc (Nat.le_refl _) _
  have hsv : (w.alloc (.cells #[.slice none 0 0, .slice none 0 0] 26)).heap.size = w.heap.size + 1 := by simp
  have HSV := Lib.hid hsv
  change Blk (w.alloc (.cells #[.slice none 0 0, .slice none 0 0] 26)) _ _ _ at f2
  obtain ⟨V, hVV⟩ : ∃ V, w.alloc (.cells #[.slice none 0 0, .slice none 0 0] 26) = V := ⟨_, rfl⟩
  rw [hVV] at f2 hV HSV hsv ⊢
  rw [← hsv]
  clear hVV
  have HF2lt := Lib.hid f2.lt
  have HF2 := Lib.hid f2
  have hB1 : Below V.heap.size V (V.alloc (.cells #[.slice none 0 0, .slice none 0 0] 26)) := (Below.refl _ _).alloc (Nat.le_refl _) _
  have hout := Blk.new V [.slice none 0 0, .slice none 0 0] 26
  have hs1 : (V.alloc (.cells #[.slice none 0 0, .slice none 0 0] 26)).heap.size = V.heap.size + 1 := by simp
  have hqq : V.heap.size = V.heap.size := rfl
  change Blk (V.alloc (.cells #[.slice none 0 0, .slice none 0 0] 26)) _ _ _ at hout
  obtain ⟨W1, hW1⟩ : ∃ W, V.alloc (.cells #[.slice none 0 0, .slice none 0 0] 26) = W := ⟨_, rfl⟩
  rw [hW1] at hB1 hout hs1 ⊢
  clear hW1
  have hout' : Blk W1 (V.heap.size) 26 [.slice none 0 0, .slice none 0 0] := by rw [← hqq]; exact hout
  have HOut := Lib.hid (Out2.start (lo := V.heap.size + 1) (q := V.heap.size) (w := W1) (by omega) (by omega) hout')
  have HB1 := Lib.hid hB1; have HWW := Lib.hid hV; have HS1 := Lib.hid hs1
  have HQLE : Hid (V.heap.size ≤ V.heap.size) := Lib.hid (by omega)
  obtain ⟨gA, hgA⟩ : ∃ g : Int → Int → Int, g = fun x y : Int => (2 * x - y + (n : Int)) % (n : Int) := ⟨_, rfl⟩
  obtain ⟨gB, hgB⟩ : ∃ g : Int → Int → Int, g = fun x _ : Int => x := ⟨_, rfl⟩
  have hRA : pgA n = tabOf n gA := by unfold pgA; rw [hgA]
  have hRB : pgB n = tabOf n gB := by unfold pgB; rw [hgB]
  have HRA := Lib.hid hRA; have HRB := Lib.hid hRB
  have HGA : Hid (∀ x y : Int, gA x y = (2 * x - y + n) % n) := Lib.hid (by rw [hgA]; intro x y; rfl)
  have HGB : Hid (∀ x y : Int, gB x y = x) := Lib.hid (by rw [hgB]; intro x y; rfl)
  clear hgA hgB hRA hRB hB1 hout hout' hs1 hV hqq f2 hsv
  go_loopw [4] (fun a wr => ∃ (k : Nat) (va vb : Value), k ≤ n ∧ a = .int .i64 k ∧ Hid (Below V.heap.size V wr) ∧ Hid (Out2 (V.heap.size + 1) wr.heap.size (V.heap.size) wr va vb ((tabOf n gA).take k) ((tabOf n gB).take k))) (fun a _ => n - (intOf a).toNat)
  case atStart => exact ⟨0, _, _, Nat.zero_le _, rfl, HB1, HOut⟩
  case round =>
    clear HB1 HOut
    obtain ⟨k, va, vb, hk, rfl, HB, HO⟩ := hrel
    obtain ⟨wo, rfl⟩ : ∃ wo : World, wo = wr := ⟨_, rfl⟩
    by_cases hlt : k < n
    · go_wp2
      go_loopw [5, 6, 7] (fun s t y wi => ∃ (j : Nat) (sa : Option Addr) (sc : Nat) (ta : Option Addr) (tc : Nat), j ≤ n ∧ y = .int .i64 j ∧ s = .slice sa j sc ∧ t = .slice ta j tc ∧ Hid (Below wo.heap.size wo wi) ∧ Hid (Two wo.heap.size wi (.slice sa j sc) (.slice ta j tc) ((rowOf n (gA k)).take j) ((rowOf n (gB k)).take j))) (fun _ _ y _ => n - (intOf y).toNat)
      case atStart => exact ⟨0, _, _, _, _, Nat.zero_le _, rfl, rfl, rfl, Lib.hid (((Below.refl wo.heap.size wo).alloc (Nat.le_refl _) _).alloc (by simp) _), Lib.hid (Two.made0 wo)⟩
      case round =>
        obtain ⟨j, sa, sc, ta, tc, hj, rfl, rfl, rfl, Hb, HTw⟩ := hrel
        obtain ⟨wi, rfl⟩ : ∃ wi : World, wi = wr := ⟨_, rfl⟩
        by_cases hlj : j < n
        · have HEA : Hid (gA k j = (2 * (k : Int) - j) % n) := Lib.hid (by rw [HGA.out]; simp); have HEB := Lib.hid (HGB.out k j)
          have hn0 : (0 : Int) < n := by omega
          have hp0 : 0 ≤ 2 * (k : Int) - j + n := by omega
          have hp1 : 2 * (k : Int) - j + n ≤ 100 := by omega
          have w2 : Int.tmod (2 * (k : Int) - j + n) (n : Int) = (2 * (k : Int) - j + n) % (n : Int) := Int.tmod_eq_emod_of_nonneg (by omega)
          have hl1 : ((rowOf n (gA k)).take j).length = j := by simp; omega
          have hl2 : ((rowOf n (gB k)).take j).length = j := by simp; omega
          have HL1a := Lib.hid hl1; have HL2a := Lib.hid hl2
          have HN1a : Hid (((rowOf n (gA k)).take j).length ≤ 1099511627776) := by show _ ≤ _; rw [hl1]; omega
          have HN2a : Hid (((rowOf n (gB k)).take j).length ≤ 1099511627776) := by show _ ≤ _; rw [hl2]; omega
          have HS1a : Hid (wo.heap.size ≤ wi.heap.size) := Lib.hid Hb.out.size
          clear hl1 hl2
          go_wp2_with (at_builtin; go_loud (first
            | (refine wpList_app_int2 wo.heap.size wi _ ((rowOf n (gA k)).take j) _ _ _ wi.heap.size rfl rfl rfl rfl HTw.out.a rfl HN1a.out HS1a.out ?_; intro g c1 w1 hown1 hk1 hg1; rw [HL1a.out] at hown1; rw [HL1a.out]; have HT1 := Lib.hid (HTw.out.app1 hown1 hk1 hg1); have HZ2 := Lib.hid (HTw.out.a.frame Hb.out (Nat.le_refl _) HS1a.out hk1); have HS2a : Hid (wo.heap.size ≤ w1.heap.size) := Lib.hid HZ2.out.size; clear hown1 hk1 hg1)
            | (refine wpList_app_int2 wo.heap.size w1 _ ((rowOf n (gB k)).take j) _ _ _ w1.heap.size rfl rfl rfl rfl HT1.out.b rfl HN2a.out HS2a.out ?_; intro g2 c2 w4 hown4 hk4 hg4; rw [HL2a.out] at hown4; rw [HL2a.out]; have HT2 := Lib.hid (HT1.out.app2 hown4 hk4 hg4); have HZ4 := Lib.hid (HT1.out.b.frame HZ2.out (Nat.le_refl _) HS2a.out hk4); clear hown4 hk4 hg4)))
          go_roundw
          case rel =>
            refine ⟨j + 1, some ⟨g, 0, none⟩, c1, some ⟨g2, 0, none⟩, c2, by omega, by go_num, rfl, rfl, HZ4, ?_⟩
            rw [take_snoc (rowOf n (gA k)) _ (by simpa using hlj), take_snoc (rowOf n (gB k)) _ (by simpa using hlj), nth_rowOf _ _ _ hlj, nth_rowOf _ _ _ hlj, HEA.out, HEB.out]
            exact HT2
          case measure => simp [intOf]; omega
        · obtain rfl : n = j := by omega
          have hTw := HTw.out
          rw [List.take_of_length_le (by simp), List.take_of_length_le (by simp)] at hTw
          have HU := Lib.hid hTw; clear hTw
          have HO2 := Lib.hid (HO.out.under Hb.out)
          have HBi := Lib.hid (bb HB.out Hb.out)
          have hla : ((tabOf n gA).take k).length = k := by simp; omega
          have hlb : ((tabOf n gB).take k).length = k := by simp; omega
          have HNA : Hid (((tabOf n gA).take k).length ≤ 1099511627776) := by show _ ≤ _; rw [hla]; omega
          have HNB : Hid (((tabOf n gB).take k).length ≤ 1099511627776) := by show _ ≤ _; rw [hlb]; omega
          have HLA := Lib.hid hla; have HLB := Lib.hid hlb; clear hla hlb
          have HLO : Hid ((V.heap.size + 1) ≤ wi.heap.size) := Nat.le_trans HO2.out.lm HO2.out.mw
          obtain ⟨cA, cB, cF, cG⟩ := two_cells HO2.out.blk
          go_wp2_with (at_builtin; go_loud (first
            | (refine wpList_app_row2 (V.heap.size + 1) wo.heap.size wi va ((tabOf n gA).take k) _ (rowOf n (gA k)) _ _ rfl rfl rfl HO2.out.a HU.out.a rfl HNA.out HO2.out.lm HLO.out ?_; intro g c1 w1 hown1 hk1 hg1; rw [HLA.out] at hown1; rw [HLA.out]; have hq1 := HO2.out.blkq hk1; obtain ⟨dA, dB, dF, dG⟩ := two_cells hq1; have hh := HO2.out.app1 hown1 hk1 hg1; have hv := HO2.out.row1 HU.out.b hk1 (.slice (some ⟨g, 0, none⟩) (k + 1) c1); have hf := HO2.out.frame1 HBi.out HQLE.out hk1 (.slice (some ⟨g, 0, none⟩) (k + 1) c1); obtain ⟨eA, eB, eF, eG⟩ := two_cells hh.blk; have HH := Lib.hid hh; have HV := Lib.hid hv; have HF1 := Lib.hid hf; clear hown1 hk1 hg1 hq1 hh hv hf)
            | (refine wpList_app_row2s (V.heap.size + 1) wo.heap.size (w1.setCell ⟨(V.heap.size), 0, none⟩ (.slice (some ⟨g, 0, none⟩) (k + 1) c1)) vb ((tabOf n gB).take k) _ (rowOf n (gB k)) _ _ w1.heap.size (by simp [World.setCell]) rfl rfl rfl HH.out.b HV.out rfl HNB.out HH.out.lm (Nat.le_trans HH.out.lm HH.out.mw) ?_; intro g2 c2 w4 hown4 hk4 hg4; rw [HLB.out] at hown4; rw [HLB.out]; have hq4 := HH.out.blkq hk4; clear dA dB dF dG eA eB eF eG cA cB cF cG; obtain ⟨dA, dB, dF, dG⟩ := two_cells hq4; have HH2 := Lib.hid (HH.out.app2 hown4 hk4 hg4); have HF2b := Lib.hid (HH.out.frame2 HF1.out HQLE.out hk4 (.slice (some ⟨g2, 0, none⟩) (k + 1) c2)); clear hown4 hk4 hg4 hq4)))
          go_roundw
          case rel =>
            refine ⟨k + 1, .slice (some ⟨g, 0, none⟩) (k + 1) c1, .slice (some ⟨g2, 0, none⟩) (k + 1) c2, by omega, by go_num, HF2b, ?_⟩
            rw [take_snoc_row (tabOf n gA) _ (by simpa using hlt), take_snoc_row (tabOf n gB) _ (by simpa using hlt), row_tabOf _ _ _ hlt, row_tabOf _ _ _ hlt]
            exact HH2
          case measure => simp [intOf]; omega
    · obtain rfl : n = k := by omega
      have hO := HO.out
      rw [List.take_of_length_le (by simp), List.take_of_length_le (by simp)] at hO
      obtain ⟨ra1, rc1, hva, _⟩ := hO.a.out.rows.shape
      obtain ⟨ra2, rc2, hvb, _⟩ := hO.b.out.rows.shape
      rw [tabOf_length] at hva hvb
      subst hva hvb
      obtain ⟨y0, y1, y2, y3⟩ := two_cells hO.blk
      obtain ⟨z0, z1, z2, z3⟩ := two_cells (HF2.out.under HB.out)
      have HO' := Lib.hid hO; clear hO
      have hlt2 := HF2lt.out
      go_wp2
      refine bodyPost_ret (v := .agg #[.slice ra1 n rc1, .slice ra2 n rc2]) (by simp [results, Try.results130, go_sem, z0, z1]) rfl ⟨_, _, rfl, ⟨?_, ?_⟩, ((bb HWW.out HB.out).setCell (p := ⟨w.heap.size, 0, none⟩) (Nat.le_refl _) _).setCell (p := ⟨w.heap.size, 1, none⟩) (Nat.le_refl _) _⟩
      · try rw [HRA.out]
        exact OwnRows.mono (B := (V.heap.size + 1)) ((HO'.out.a.out.keep (keep1 _ w.heap.size 0 _) (fun b h1 h2 h3 => by have h3 : b = w.heap.size := h3; omega)).keep (keep1 _ w.heap.size 1 _) (fun b h1 h2 h3 => by have h3 : b = w.heap.size := h3; omega)) (by have := HSV.out; omega)
      · try rw [HRB.out]
        exact OwnRows.mono (B := (V.heap.size + 1)) ((HO'.out.b.out.keep (keep1 _ w.heap.size 0 _) (fun b h1 h2 h3 => by have h3 : b = w.heap.size := h3; omega)).keep (keep1 _ w.heap.size 1 _) (fun b h1 h2 h3 => by have h3 : b = w.heap.size := h3; omega)) (by have := HSV.out; omega)
end Go.Proofs.Ytkghonhghbcdlaa

namespace Go.Proofs.Ytkghonhghbcdlaa
set_option linter.unusedVariables false
set_option linter.unusedSimpArgs false
open Go Go.RowKit

def nvG (T : List (List Int)) (x y : Int) : Int := (idx (row T (val2 T x y)) x : Int)
def nvB (T : List (List Int)) : List (List Int) := tabOf T.length (nvG T)

set_option maxRecDepth 100000 in
set_option maxHeartbeats 4000000 in
theorem c_l02Involutive (v0 : Value) (T : List (List Int)) (w : World) (hT : Rows w v0 T) (hp : isTab T = true) :
    Calls Try.prog 132 #[v0] w (RSolR w T (nvB T)) := by
  have HR := Lib.hid hT
  obtain ⟨n, b0, o0, c0, rb0, ro0, rc0, rfl, hl0, hn0, hx0, hc0, hm0, t0⟩ := hT.tab hp
  have HL0 := Lib.hid hl0
  have HRW : Hid (∀ r ∈ T, r.length ≤ 1048576) := Lib.hid (fun r hr => by
    obtain ⟨i, hi, rfl⟩ := List.getElem_of_mem hr
    have := isTab_row hp (x := (i : Int)) (by omega) (by omega)
    rw [row_nat _ _ hi] at this
    omega)
  have HRL : Hid (∀ x : Int, 0 ≤ x → x < n → (row T x).length = n) := Lib.hid (fun x h0 h1 => by have := isTab_row hp h0 (by omega); omega)
  clear hl0 hT hp
  have HT0 := Lib.hid t0; clear t0
  go_enter Try.func132, Try.ntmps132
  go_wp2_with fail
  have hB0 : Below w.heap.size w (w.alloc (.cells #[.slice none 0 0, .slice none 0 0] 26)) := (Below.refl _ _).alloc (Nat.le_refl _) _
  have f0 := Blk.new w [.slice none 0 0, .slice none 0 0] 26
  have hs0 : (w.alloc (.cells #[.slice none 0 0, .slice none 0 0] 26)).heap.size = w.heap.size + 1 := by simp
  change Blk (w.alloc (.cells #[.slice none 0 0, .slice none 0 0] 26)) _ _ _ at f0
  obtain ⟨W0, hW⟩ : ∃ W, w.alloc (.cells #[.slice none 0 0, .slice none 0 0] 26) = W := ⟨_, rfl⟩
  rw [hW] at hB0 f0 hs0 ⊢
  clear hW
  refine (c_l01Own2 _ T _ (HR.out.below hB0) (by have := HL0.out; omega) HRW.out).mono ?_; rintro e V ⟨r1, rfl, ho, hb1⟩
  obtain ⟨ra1, rc1, hv1, -⟩ := OwnRows.shape' ho
  rw [HL0.out] at hv1
  subst hv1
  have HF := Lib.hid (f0.under hb1); have HO := Lib.hid ho; have HWV := Lib.hid (bb hB0 hb1); have HS0 := Lib.hid (show w.heap.size + 1 ≤ V.heap.size by have := hb1.size; omega); have HS00 := Lib.hid hs0
  clear f0 ho hb1 hB0 hs0
  go_wp2
  have hB1 : Below V.heap.size V (V.alloc (.cells #[.slice ra1 n rc1, .slice none 0 0] 26)) := (Below.refl _ _).alloc (Nat.le_refl _) _
  have hout := Blk.new V [.slice ra1 n rc1, .slice none 0 0] 26
  have hs1 : (V.alloc (.cells #[.slice ra1 n rc1, .slice none 0 0] 26)).heap.size = V.heap.size + 1 := by simp
  change Blk (V.alloc (.cells #[.slice ra1 n rc1, .slice none 0 0] 26)) _ _ _ at hout
  obtain ⟨W1, hW1⟩ : ∃ W, V.alloc (.cells #[.slice ra1 n rc1, .slice none 0 0] 26) = W := ⟨_, rfl⟩
  rw [hW1] at hB1 hout hs1 ⊢
  clear hW1
  have HB1 := Lib.hid hB1; have HOut := Lib.hid hout; have HS1 := Lib.hid (show V.heap.size + 1 ≤ W1.heap.size by omega)
  clear hB1 hout hs1
  obtain ⟨gB, hgB⟩ : ∃ g : Int → Int → Int, g = nvG T := ⟨_, rfl⟩
  have HRB : Hid (nvB T = tabOf n gB) := Lib.hid (by unfold nvB; rw [HL0.out, hgB])
  have HGB : Hid (∀ x y : Int, gB x y = (idx (row T (val2 T x y)) x : Int)) := Lib.hid (by rw [hgB]; intro x y; rfl)
  clear hgB
  go_loopw [4] (fun a wr => ∃ (k : Nat) (vb : Value), k ≤ n ∧ a = .int .i64 k ∧ Hid (Below V.heap.size V wr ∧ V.heap.size + 1 ≤ wr.heap.size) ∧ Hid (Blk wr V.heap.size 26 [.slice ra1 n rc1, vb]) ∧ Hid (OwnRows (V.heap.size + 1) wr vb ((tabOf n gB).take k))) (fun a _ => n - (intOf a).toNat)
  case atStart => exact ⟨0, _, Nat.zero_le _, rfl, Lib.hid ⟨HB1.out, HS1.out⟩, HOut, Lib.hid ⟨[], ⟨by simp, .inl ⟨rfl, rfl⟩⟩, RowVals.nil _ _⟩⟩
  case round =>
    clear HB1 HOut HS1
    obtain ⟨k, vb, hk, rfl, HB, HQ, HO2⟩ := hrel
    obtain ⟨wo, rfl⟩ : ∃ wo : World, wo = wr := ⟨_, rfl⟩
    by_cases hlt : k < n
    · go_wp2
      go_loopw [5, 6] (fun s y wi => ∃ (j : Nat) (sa : Option Addr) (sc : Nat), j ≤ n ∧ y = .int .i64 j ∧ s = .slice sa j sc ∧ Hid (Below wo.heap.size wo wi) ∧ Hid (Own wo.heap.size wi (.slice sa j sc) ((rowOf n (gB k)).take j))) (fun _ y _ => n - (intOf y).toNat)
      case atStart => exact ⟨0, _, _, Nat.zero_le _, rfl, rfl, Lib.hid ((Below.refl _ _).alloc (Nat.le_refl _) _), Lib.hid (by simpa using Own.made0 wo (Nat.le_refl _))⟩
      case round =>
        obtain ⟨j, sa, sc, hj, rfl, rfl, Hb, Ho⟩ := hrel
        obtain ⟨wi, rfl⟩ : ∃ wi : World, wi = wr := ⟨_, rfl⟩
        by_cases hlj : j < n
        · have hB2 := bb HWV.out (bb HB.out.1 Hb.out)
          have T' := HT0.out.below hB2
          have r1 := T'.row k hlt
          have x1 := T'.val k j hlt hlj
          obtain ⟨d1, d2⟩ := T'.rng k j (by omega) (by omega) (by omega) (by omega)
          have r2 := T'.rowi (val2 T k j) d1 d2
          have HI0 := (HR.out.below hB2).getS (val2 T k j).toNat (by have := HL0.out; omega)
          obtain ⟨b', o', a', c', e', h1', h2'⟩ := HI0
          have e'' := e'
          injection e'' with e''
          injection e'' with e1 e2 e3
          subst e1 e2
          rw [h1'] at r2
          have hrl := HRL.out (val2 T k j) d1 d2
          rw [show (((val2 T k j).toNat : Nat) : Int) = val2 T k j from by omega] at r2 h2' h1'
          injection r2 with r2
          rw [r2] at h2'
          have HI := Lib.hid h2'
          have r3 := T'.rowi (val2 T k j) d1 d2
          have HEB := Lib.hid (HGB.out k j)
          have hl1 : ((rowOf n (gB k)).take j).length = j := by simp; omega
          have HL1a := Lib.hid hl1
          have HN1a : Hid (((rowOf n (gB k)).take j).length ≤ 1099511627776) := by show _ ≤ _; rw [hl1]; omega
          have HS1a : Hid (wo.heap.size ≤ wi.heap.size) := Lib.hid Hb.out.size
          clear hl1 h2' h1' r2 e' T' hB2
          go_wp2_with fail
          refine (c_l01Index _ _ _ _ HI.out).mono ?_; rintro e we ⟨rfl, rfl⟩
          go_wp2_with (at_builtin; refine wpList_app_int2 wo.heap.size wi _ ((rowOf n (gB k)).take j) _ _ _ wi.heap.size rfl rfl rfl rfl Ho.out rfl HN1a.out HS1a.out ?_; intro g c1 w1 hown1 hk1 hg1; rw [HL1a.out] at hown1; rw [HL1a.out]; have HO1 := Lib.hid hown1; have HZ2 := Lib.hid (Ho.out.frame Hb.out (Nat.le_refl _) HS1a.out hk1); clear hown1 hk1 hg1)
          go_roundw
          case rel =>
            refine ⟨j + 1, some ⟨g, 0, none⟩, c1, by omega, by go_num, rfl, HZ2, ?_⟩
            rw [take_snoc (rowOf n (gB k)) _ (by simpa using hlj), nth_rowOf _ _ _ hlj, HEB.out]
            exact HO1
          case measure => simp [intOf]; omega
        · obtain rfl : n = j := by omega
          have hTw := Ho.out
          rw [List.take_of_length_le (by simp)] at hTw
          have HU := Lib.hid hTw; clear hTw
          have HOi := Lib.hid (HO2.out.inn.under Hb.out)
          have HQi := Lib.hid (HQ.out.under Hb.out)
          have HBi := Lib.hid (bb HB.out.1 Hb.out)
          have hlb : ((tabOf n gB).take k).length = k := by simp; omega
          have HNB : Hid (((tabOf n gB).take k).length ≤ 1099511627776) := by show _ ≤ _; rw [hlb]; omega
          have HLB := Lib.hid hlb; clear hlb
          have HLM := Lib.hid HB.out.2
          have HLO : Hid ((V.heap.size + 1) ≤ wi.heap.size) := Nat.le_trans HB.out.2 Hb.out.size
          obtain ⟨cA, cB, cF, cG⟩ := two_cells HQi.out
          go_wp2_with (at_builtin; refine wpList_app_row2 (V.heap.size + 1) wo.heap.size wi vb ((tabOf n gB).take k) _ (rowOf n (gB k)) _ _ rfl rfl rfl HOi.out HU.out rfl HNB.out HLM.out HLO.out ?_; intro g c1 w1 hown1 hk1 hg1; rw [HLB.out] at hown1; rw [HLB.out]; have hq1 := HQi.out.of_block (hk1.block _ HQi.out.lt (fun e => by have := (OwnRows.lt HO2.out e).1; omega)); obtain ⟨dA, dB, dF, dG⟩ := two_cells hq1; have HQ1 := Lib.hid (hq1.set 1 (.slice (some ⟨g, 0, none⟩) (k + 1) c1)); have HO1 := Lib.hid (hown1.keep (keep1 w1 V.heap.size 1 (.slice (some ⟨g, 0, none⟩) (k + 1) c1)) (fun b h1 _ h3 => by have h3 : b = V.heap.size := h3; omega)); have HF1 := Lib.hid (((OwnRows.frame HOi.out.out HBi.out (Nat.le_succ _) (Nat.le_trans (Nat.le_succ _) HLO.out) hk1).setCell (p := ⟨V.heap.size, 1, none⟩) (Nat.le_refl _) (.slice (some ⟨g, 0, none⟩) (k + 1) c1))); have HS1 := Lib.hid (show V.heap.size + 1 ≤ (w1.setCell ⟨V.heap.size, 1, none⟩ (.slice (some ⟨g, 0, none⟩) (k + 1) c1)).heap.size from HQ1.out.lt); clear hown1 hk1 hg1 hq1)
          go_roundw
          case rel =>
            refine ⟨k + 1, .slice (some ⟨g, 0, none⟩) (k + 1) c1, by omega, by go_num, Lib.hid ⟨HF1.out, HS1.out⟩, HQ1, ?_⟩
            rw [take_snoc_row (tabOf n gB) _ (by simpa using hlt), row_tabOf _ _ _ hlt]
            exact HO1
          case measure => simp [intOf]; omega
    · obtain rfl : n = k := by omega
      have hO := HO2.out
      rw [List.take_of_length_le (by simp)] at hO
      obtain ⟨ra2, rc2, hvb, _⟩ := hO.rows.shape
      rw [tabOf_length] at hvb
      subst hvb
      obtain ⟨y0, y1, y2, y3⟩ := two_cells HQ.out
      obtain ⟨z0, z1, z2, z3⟩ := two_cells (HF.out.under HB.out.1)
      have HO' := Lib.hid hO; clear hO
      have hlt2 := HS0.out
      go_wp2
      refine bodyPost_ret (v := .agg #[.slice ra1 n rc1, .slice ra2 n rc2]) (by simp [results, Try.results132, go_sem, z0, z1]) rfl ⟨_, _, rfl, ⟨?_, ?_⟩, ((bb HWV.out HB.out.1).setCell (p := ⟨w.heap.size, 0, none⟩) (Nat.le_refl _) _).setCell (p := ⟨w.heap.size, 1, none⟩) (Nat.le_refl _) _⟩
      · have hs00 := HS00.out
        exact OwnRows.mono (B := W0.heap.size) (((HO.out.under HB.out.1).keep (keep1 _ w.heap.size 0 _) (fun b h1 h2 h3 => by have h3 : b = w.heap.size := h3; omega)).keep (keep1 _ w.heap.size 1 _) (fun b h1 h2 h3 => by have h3 : b = w.heap.size := h3; omega)) (by omega)
      · rw [HRB.out]
        exact OwnRows.mono (B := (V.heap.size + 1)) ((HO'.out.keep (keep1 _ w.heap.size 0 _) (fun b h1 h2 h3 => by have h3 : b = w.heap.size := h3; omega)).keep (keep1 _ w.heap.size 1 _) (fun b h1 h2 h3 => by have h3 : b = w.heap.size := h3; omega)) (by omega)
end Go.Proofs.Ytkghonhghbcdlaa

namespace Go.Proofs.Ytkghonhghbcdlaa
set_option linter.unusedVariables false
set_option linter.unusedSimpArgs false

theorem isPM_mk {A B : List (List Int)} (h1 : isTab A = true) (h2 : isTab B = true) (h3 : A.length = B.length) : isPM A B = true := by simp [isPM, h1, h2, h3]
theorem isPM_tabOf {n : Nat} {g h : Int → Int → Int} (h1 : 1 ≤ n) (h2 : n ≤ 12) (hg : ∀ x y : Int, 0 ≤ x → x < n → 0 ≤ y → y < n → 0 ≤ g x y ∧ g x y < n) (hh : ∀ x y : Int, 0 ≤ x → x < n → 0 ≤ y → y < n → 0 ≤ h x y ∧ h x y < n) : isPM (tabOf n g) (tabOf n h) = true :=
  isPM_mk (isTab_tabOf h1 h2 fun x y hx hy => hg x y (by omega) (by omega) (by omega) (by omega)) (isTab_tabOf h1 h2 fun x y hx hy => hh x y (by omega) (by omega) (by omega) (by omega)) (by simp)

theorem pg_pm {n : Nat} (h1 : 1 ≤ n) (h2 : n ≤ 12) : isPM (pgA n) (pgB n) = true := by
  unfold pgA pgB
  refine isPM_tabOf h1 h2 (fun x y _ _ _ _ => ⟨Int.emod_nonneg _ (by omega), Int.emod_lt_of_pos _ (by omega)⟩) (fun x y a b _ _ => ⟨a, b⟩)
@[simp] theorem pgA_length (n : Nat) : (pgA n).length = n := by simp [pgA]
theorem pg_coll {n : Nat} (h1 : 1 ≤ n) (h2 : n ≤ 12) : collL (pgA n) (pgB n) = [] := by
  unfold collL
  refine quad_none (find2_none fun a ha b hb => ?_)
  rw [pgA_length] at ha hb ⊢
  unfold colP
  have a1 := div_lt_sq ha; have a2 := Nat.mod_lt a (show 0 < n by omega)
  have b1 := div_lt_sq hb; have b2 := Nat.mod_lt b (show 0 < n by omega)
  have g1 := Nat.div_add_mod a n
  have g2 := Nat.div_add_mod b n
  generalize a / n = x1 at a1 g1 ⊢
  generalize a % n = y1 at a2 g1 ⊢
  generalize b / n = x2 at b1 g2 ⊢
  generalize b % n = y2 at b2 g2 ⊢
  unfold pgA pgB
  rw [val2_tabOf' (by omega) (by omega) (by omega) (by omega), val2_tabOf' (by omega) (by omega) (by omega) (by omega), val2_tabOf' (by omega) (by omega) (by omega) (by omega), val2_tabOf' (by omega) (by omega) (by omega) (by omega)]
  by_cases e2 : (x1 : Int) = x2
  · by_cases e1 : (2 * (x1 : Int) - y1 + n) % n = (2 * (x2 : Int) - y2 + n) % n
    · have hx : x1 = x2 := by omega
      subst hx
      have hd := Int.emod_emod_of_dvd (2 * (x1 : Int) - y1 + n) (Int.dvd_refl (n : Int))
      have h3 : ((2 * (x1 : Int) - y1 + n) - (2 * (x1 : Int) - y2 + n)) % n = 0 := by rw [Int.sub_emod, e1]; simp
      have h4 : (n : Int) ∣ ((y2 : Int) - y1) := by
        have := Int.dvd_of_emod_eq_zero h3
        rwa [show (2 * (x1 : Int) - y1 + n) - (2 * (x1 : Int) - y2 + n) = y2 - y1 by omega] at this
      obtain ⟨c, hc⟩ := h4
      have hy : y1 = y2 := by
        rcases Int.lt_trichotomy c 0 with h | h | h
        · have : (n : Int) * c ≤ n * (-1) := Int.mul_le_mul_of_nonneg_left (by omega) (by omega)
          omega
        · subst h; omega
        · have : (n : Int) * 1 ≤ n * c := Int.mul_le_mul_of_nonneg_left (by omega) (by omega)
          omega
      have : a = b := by rw [← g1, ← g2, hy]
      simp [this]
    · have e3 : ¬ (2 * (x1 : Int) - y1) % n = (2 * (x2 : Int) - y2) % n := by simpa using e1
      simp [e3]
  · simp [e2]

theorem pr_pm {A B C D : List (List Int)} (h1 : isPM A B = true) (h2 : isPM C D = true) (hs : A.length * C.length ≤ 12) : isPM (prT A C) (prT B D) = true := by
  obtain ⟨a1, a2, a3⟩ := isPM_parts h1
  obtain ⟨c1, c2, c3⟩ := isPM_parts h2
  have l1 := (isTab_len a1).1; have l2 := (isTab_len c1).1
  have hmul : 1 ≤ A.length * C.length := Nat.mul_pos l1 l2
  have key : ∀ (X Y : List (List Int)), isTab X = true → isTab Y = true → X.length = A.length → Y.length = C.length → isTab (prT X Y) = true := by
    intro X Y hX hY e1 e2
    unfold prT
    rw [e1, e2]
    refine isTab_tabOf hmul hs fun x y hx hy => ?_
    obtain ⟨d1, d2, d3, d4⟩ := divI2 hx l2
    obtain ⟨d5, d6, d7, d8⟩ := divI2 hy l2
    have v1 := val2_lt hX d1 (by rw [e1]; exact d2) d5 (by rw [e1]; exact d6)
    have v2 := val2_lt hY d3 (by rw [e2]; exact d4) d7 (by rw [e2]; exact d8)
    rw [e1] at v1; rw [e2] at v2
    have := pairI v1.1 v1.2 v2.1 v2.2
    push_cast
    exact this
  exact isPM_mk (key A C a1 c1 rfl rfl) (key B D a2 c2 a3.symm c3.symm) (by simp [prT, a3, c3])
@[simp] theorem prT_length (A C : List (List Int)) : (prT A C).length = A.length * C.length := by simp [prT]

theorem un_pm {A B C D : List (List Int)} (h1 : isPM A B = true) (h2 : isPM C D = true) (hs : A.length + C.length ≤ 12) : isPM (unTA A C) (unTB B D) = true := by
  obtain ⟨a1, a2, a3⟩ := isPM_parts h1
  obtain ⟨c1, c2, c3⟩ := isPM_parts h2
  have l1 := (isTab_len a1).1; have l2 := (isTab_len c1).1
  have key : ∀ (X Y : List (List Int)) (z : Int → Int → Int), isTab X = true → isTab Y = true → X.length = A.length → Y.length = C.length → (∀ x y : Int, 0 ≤ x → x < ((A.length + C.length : Nat) : Int) → 0 ≤ y → y < ((A.length + C.length : Nat) : Int) → 0 ≤ z x y ∧ z x y < ((A.length + C.length : Nat) : Int)) → isTab (tabOf (A.length + C.length) (unG X Y z)) = true := by
    intro X Y z hX hY e1 e2 hz
    refine isTab_tabOf (by omega) hs fun x y hx hy => ?_
    unfold unG
    rw [e1]
    by_cases g1 : (x : Int) < A.length ∧ (y : Int) < A.length
    · rw [if_pos g1]
      have v1 := val2_lt hX (x := x) (y := y) (by omega) (by rw [e1]; exact g1.1) (by omega) (by rw [e1]; exact g1.2)
      rw [e1] at v1; omega
    · rw [if_neg g1]
      by_cases g2 : (A.length : Int) ≤ x ∧ (A.length : Int) ≤ y
      · rw [if_pos g2]
        have v1 := val2_lt hY (x := (x : Int) - A.length) (y := (y : Int) - A.length) (by omega) (by omega) (by omega) (by omega)
        omega
      · rw [if_neg g2]
        exact hz x y (by omega) (by omega) (by omega) (by omega)
  refine isPM_mk (key A C _ a1 c1 rfl rfl fun x y _ _ h1 h2 => ⟨h1, h2⟩) ?_ (by simp [unTA, unTB, a3, c3])
  unfold unTB
  rw [← a3, ← c3]
  exact key B D _ a2 c2 a3.symm c3.symm fun x y h1 h2 _ _ => ⟨h1, h2⟩
@[simp] theorem unTA_length (A C : List (List Int)) : (unTA A C).length = A.length + C.length := by simp [unTA]

theorem iv_pm {A B : List (List Int)} (hp : isPM A B = true) (hc : collL A B = []) : isPM (ivA A B A.length) (ivB A B A.length) = true := by
  have hP := pmL_perm hp hc
  have hl := isTab_len (isPM_parts hp).1
  unfold ivA ivB
  refine isPM_tabOf hl.1 hl.2 (fun x y a b c d => ?_) (fun x y a b c d => ?_)
  · obtain ⟨h0, h1, -⟩ := iv_range hP a b c d
    have := divI (k := (nth (invL (pmL A B A.length)) (x * A.length + y)).toNat) (n := A.length) (by omega) hl.1
    rw [show (((nth (invL (pmL A B A.length)) (x * A.length + y)).toNat : Nat) : Int) = nth (invL (pmL A B A.length)) (x * A.length + y) by omega] at this
    exact ⟨this.1, this.2.1⟩
  · obtain ⟨h0, h1, -⟩ := iv_range hP a b c d
    have := divI (k := (nth (invL (pmL A B A.length)) (x * A.length + y)).toNat) (n := A.length) (by omega) hl.1
    rw [show (((nth (invL (pmL A B A.length)) (x * A.length + y)).toNat : Nat) : Int) = nth (invL (pmL A B A.length)) (x * A.length + y) by omega] at this
    exact ⟨this.2.2.1, this.2.2.2⟩
@[simp] theorem ivA_length (A B : List (List Int)) (n : Nat) : (ivA A B n).length = n := by simp [ivA]

theorem ren_pm {A B : List (List Int)} {p : List Int} (hp : isPM A B = true) (hq : Permuted p) (hl : p.length = A.length) : isPM (renL A p) (renL B p) = true := by
  obtain ⟨a1, a2, a3⟩ := isPM_parts hp
  exact isPM_mk (isTab_renL ⟨a1, hq, hl⟩) (isTab_renL ⟨a2, hq, hl.trans a3⟩) (by rw [renL_length, renL_length]; exact a3)

def nv4 : List (List Int) := [[0, 1, 3, 2], [0, 1, 3, 2], [1, 0, 2, 3], [1, 0, 2, 3]]
def nv3 : List (List Int) := [[0, 1, 2], [0, 1, 2], [1, 0, 2]]
theorem nv4_pm : isTab nv4 = true ∧ isPM nv4 (nvB nv4) = true := by decide +kernel
theorem nv3_pm : isTab nv3 = true ∧ isPM nv3 (nvB nv3) = true := by decide +kernel
end Go.Proofs.Ytkghonhghbcdlaa

namespace Go.Proofs.Ytkghonhghbcdlaa
set_option linter.unusedVariables false
set_option linter.unusedSimpArgs false
open Go Go.RowKit

/-- What a draw of a pair map leaves. -/
def RDraw (b most : Nat) (w : World) (e : Ending) (w' : World) : Prop :=
  ∃ (r1 r2 : Value) (A B : List (List Int)), e = .returned (.agg #[r1, r2]) ∧ SolAt w.heap.size w' r1 r2 A B ∧ isPM A B = true ∧ A.length ≤ most ∧ Drew b w w'
theorem any_end {b most lo : Nat} {w w9 : World} {r1 r2 : Value} {A B : List (List Int)} (hsa : SolAt lo w9 r1 r2 A B) (hlo : w.heap.size < lo) (hbl : b < w.heap.size) (hp : isPM A B = true) (hl : A.length ≤ most) (hd : Drew b w w9) :
    RDraw b most w (.returned (.agg #[r1, r2])) ((w9.setCell ⟨w.heap.size, 0, none⟩ r1).setCell ⟨w.heap.size, 1, none⟩ r2) := by
  have kz : Keep (fun x => x = w.heap.size) w9 ((w9.setCell ⟨w.heap.size, 0, none⟩ r1).setCell ⟨w.heap.size, 1, none⟩ r2) := keep_early _ _ _ _
  exact ⟨_, _, A, B, rfl, ⟨(hsa.1.keep kz (fun x hx e => by have e : x = w.heap.size := e; omega)).mono (by omega), (hsa.2.keep kz (fun x hx e => by have e : x = w.heap.size := e; omega)).mono (by omega)⟩, hp, hl,
    drew_set (drew_set hd (p := ⟨w.heap.size, 0, none⟩) (Nat.le_refl _) hbl _) (p := ⟨w.heap.size, 1, none⟩) (Nat.le_refl _) hbl _⟩
theorem SolAt.any {lo : Nat} {w : World} {v1 v2 : Value} {A B : List (List Int)} (h : SolAt lo w v1 v2 A B) : ∃ a1 l1 c1 a2 l2 c2, v1 = .slice a1 l1 c1 ∧ v2 = .slice a2 l2 c2 := by
  obtain ⟨a1, l1, c1, e1⟩ := h.sol.1.any
  obtain ⟨a2, l2, c2, e2⟩ := h.sol.2.any
  exact ⟨a1, l1, c1, a2, l2, c2, e1, e2⟩
theorem SolAt.under {lo : Nat} {w1 w2 : World} {v1 v2 : Value} {A B : List (List Int)} (h : SolAt lo w1 v1 v2 A B) (hb : Below w1.heap.size w1 w2) : SolAt lo w2 v1 v2 A B := by
  exact ⟨h.1.under hb, h.2.under hb⟩

theorem hsz_alloc (w : World) (o : Obj) : (w.alloc o).heap.size = w.heap.size + 1 := by simp
theorem ints_blk {w : World} {g : Nat} (xs : List Int) (hg : Blk w g 2 (xs.map (Value.int .i64))) (hm : xs.length ≤ maxLen) : Ints w (.slice (some ⟨g, 0, none⟩) xs.length xs.length) xs :=
  ⟨_, _, rfl, Nat.le_refl _, hm, fun i hi => ⟨g, 0, rfl, by
    have := hg.cell (i := i) (by simpa using hi)
    rw [Nat.zero_add, this]; simp⟩⟩
theorem rows_blk {w : World} {g : Nat} (vs : List Value) (X : List (List Int)) (hg : Blk w g 27 vs) (hl : vs.length = X.length) (hm : X.length ≤ maxLen) (h : ∀ i (h1 : i < vs.length) (h2 : i < X.length), Ints w vs[i] X[i]) : Rows w (.slice (some ⟨g, 0, none⟩) X.length X.length) X :=
  ⟨_, _, rfl, Nat.le_refl _, hm, fun i hi => ⟨g, 0, vs[i], rfl, by
    have := hg.cell (i := i) (by omega)
    rw [Nat.zero_add, this], h i (by omega) hi⟩⟩
theorem nv4_rows (w : World) (W : World) (hW : W = (((((w.alloc (.cells #[.int .i64 0, .int .i64 1, .int .i64 3, .int .i64 2] 2)).alloc (.cells #[.int .i64 0, .int .i64 1, .int .i64 3, .int .i64 2] 2)).alloc (.cells #[.int .i64 1, .int .i64 0, .int .i64 2, .int .i64 3] 2)).alloc (.cells #[.int .i64 1, .int .i64 0, .int .i64 2, .int .i64 3] 2)).alloc (.cells #[.slice (some ⟨w.heap.size, 0, none⟩) 4 4, .slice (some ⟨w.heap.size + 1, 0, none⟩) 4 4, .slice (some ⟨w.heap.size + 1 + 1, 0, none⟩) 4 4, .slice (some ⟨w.heap.size + 1 + 1 + 1, 0, none⟩) 4 4] 27))) :
    Rows W (.slice (some ⟨w.heap.size + 1 + 1 + 1 + 1, 0, none⟩) 4 4) nv4 ∧ Below w.heap.size w W := by
  subst hW
  have hb1 := (Blk.new w [.int .i64 0, .int .i64 1, .int .i64 3, .int .i64 2] 2)
  have hb2 := (Blk.new (w.alloc (.cells [.int .i64 0, .int .i64 1, .int .i64 3, .int .i64 2].toArray 2)) [.int .i64 0, .int .i64 1, .int .i64 3, .int .i64 2] 2)
  have hb3 := (Blk.new ((w.alloc (.cells [.int .i64 0, .int .i64 1, .int .i64 3, .int .i64 2].toArray 2)).alloc (.cells [.int .i64 0, .int .i64 1, .int .i64 3, .int .i64 2].toArray 2)) [.int .i64 1, .int .i64 0, .int .i64 2, .int .i64 3] 2)
  have hb4 := (Blk.new (((w.alloc (.cells [.int .i64 0, .int .i64 1, .int .i64 3, .int .i64 2].toArray 2)).alloc (.cells [.int .i64 0, .int .i64 1, .int .i64 3, .int .i64 2].toArray 2)).alloc (.cells [.int .i64 1, .int .i64 0, .int .i64 2, .int .i64 3].toArray 2)) [.int .i64 1, .int .i64 0, .int .i64 2, .int .i64 3] 2)
  have hb5 := (Blk.new ((((w.alloc (.cells [.int .i64 0, .int .i64 1, .int .i64 3, .int .i64 2].toArray 2)).alloc (.cells [.int .i64 0, .int .i64 1, .int .i64 3, .int .i64 2].toArray 2)).alloc (.cells [.int .i64 1, .int .i64 0, .int .i64 2, .int .i64 3].toArray 2)).alloc (.cells [.int .i64 1, .int .i64 0, .int .i64 2, .int .i64 3].toArray 2)) [.slice (some ⟨w.heap.size, 0, none⟩) 4 4, .slice (some ⟨w.heap.size + 1, 0, none⟩) 4 4, .slice (some ⟨w.heap.size + 1 + 1, 0, none⟩) 4 4, .slice (some ⟨w.heap.size + 1 + 1 + 1, 0, none⟩) 4 4] 27)
  simp only [hsz_alloc] at hb2 hb3 hb4 hb5
  refine ⟨rows_blk _ nv4 hb5 rfl (by decide) fun i h1 h2 => ?_, (((((Below.refl w.heap.size w).alloc (Nat.le_refl _) _).alloc (by simp) _).alloc (by simp; omega) _).alloc (by simp; omega) _).alloc (by simp; omega) _⟩
  match i, h1, h2 with
  | 0, _, _ => exact ints_blk [0, 1, 3, 2] ((((hb1.alloc _).alloc _).alloc _).alloc _) (by decide)
  | 1, _, _ => exact ints_blk [0, 1, 3, 2] (((hb2.alloc _).alloc _).alloc _) (by decide)
  | 2, _, _ => exact ints_blk [1, 0, 2, 3] ((hb3.alloc _).alloc _) (by decide)
  | 3, _, _ => exact ints_blk [1, 0, 2, 3] (hb4.alloc _) (by decide)
theorem nv3_rows (w : World) (W : World) (hW : W = ((((w.alloc (.cells #[.int .i64 0, .int .i64 1, .int .i64 2] 2)).alloc (.cells #[.int .i64 0, .int .i64 1, .int .i64 2] 2)).alloc (.cells #[.int .i64 1, .int .i64 0, .int .i64 2] 2)).alloc (.cells #[.slice (some ⟨w.heap.size, 0, none⟩) 3 3, .slice (some ⟨w.heap.size + 1, 0, none⟩) 3 3, .slice (some ⟨w.heap.size + 1 + 1, 0, none⟩) 3 3] 27))) :
    Rows W (.slice (some ⟨w.heap.size + 1 + 1 + 1, 0, none⟩) 3 3) nv3 ∧ Below w.heap.size w W := by
  subst hW
  have hb1 := (Blk.new w [.int .i64 0, .int .i64 1, .int .i64 2] 2)
  have hb2 := (Blk.new (w.alloc (.cells [.int .i64 0, .int .i64 1, .int .i64 2].toArray 2)) [.int .i64 0, .int .i64 1, .int .i64 2] 2)
  have hb3 := (Blk.new ((w.alloc (.cells [.int .i64 0, .int .i64 1, .int .i64 2].toArray 2)).alloc (.cells [.int .i64 0, .int .i64 1, .int .i64 2].toArray 2)) [.int .i64 1, .int .i64 0, .int .i64 2] 2)
  have hb5 := (Blk.new (((w.alloc (.cells [.int .i64 0, .int .i64 1, .int .i64 2].toArray 2)).alloc (.cells [.int .i64 0, .int .i64 1, .int .i64 2].toArray 2)).alloc (.cells [.int .i64 1, .int .i64 0, .int .i64 2].toArray 2)) [.slice (some ⟨w.heap.size, 0, none⟩) 3 3, .slice (some ⟨w.heap.size + 1, 0, none⟩) 3 3, .slice (some ⟨w.heap.size + 1 + 1, 0, none⟩) 3 3] 27)
  simp only [hsz_alloc] at hb2 hb3 hb5
  refine ⟨rows_blk _ nv3 hb5 rfl (by decide) fun i h1 h2 => ?_, ((((Below.refl w.heap.size w).alloc (Nat.le_refl _) _).alloc (by simp) _).alloc (by simp; omega) _).alloc (by simp; omega) _⟩
  match i, h1, h2 with
  | 0, _, _ => exact ints_blk [0, 1, 2] (((hb1.alloc _).alloc _).alloc _) (by decide)
  | 1, _, _ => exact ints_blk [0, 1, 2] ((hb2.alloc _).alloc _) (by decide)
  | 2, _, _ => exact ints_blk [1, 0, 2] (hb3.alloc _) (by decide)

set_option maxRecDepth 100000 in
set_option maxHeartbeats 4000000 in
theorem c_l02Any (b : Nat) : ∀ (most : Nat) (w : World), Src w b → 1 ≤ most → most ≤ 12 → Calls Try.prog 115 #[.pointer (some ⟨b, 0, none⟩), .int .i64 most] w (RDraw b most w) := by
  intro most
  induction most using Nat.strongRecOn with
  | _ most ih =>
  intro w hs h1 h2
  have HIH := Lib.hid ih
  have HS := Lib.hid hs; have hbl := hs.lt; clear hs ih
  have HF0 : Hid (Blk (w.alloc (.cells #[.slice none 0 0, .slice none 0 0] 26)) w.heap.size 26 [.slice none 0 0, .slice none 0 0]) := Lib.hid (Blk.new w [.slice none 0 0, .slice none 0 0] 26)
  have HB0 : Hid (Below w.heap.size w (w.alloc (.cells #[.slice none 0 0, .slice none 0 0] 26))) := Lib.hid ((Below.refl _ _).alloc (Nat.le_refl _) _)
  go_enter Try.func115, Try.ntmps115
  have HS0 := Lib.hid (HS.out.under HB0.out)
  have HD0 := Lib.hid ((Drew.refl HS.out).under HB0.out)
  go_wp2_with fail
  refine (c_l01Next b most _ HS0.out (by omega) (by omega)).mono ?_; rintro e w1 ⟨t, rfl, t0, t1, hd1⟩
  obtain ⟨m, rfl⟩ : ∃ m : Nat, t = m := ⟨t.toNat, by omega⟩
  have hm : m < most := by omega
  have HF1 := Lib.hid (hd1.blk HF0.out (by omega)); have HD1 := Lib.hid (HD0.out.trans hd1)
  clear hd1 HF0 HD0 t0 t1
  go_wp2_with fail
  refine (c_l01Next b 8 _ HD1.out.1 (by omega) (by omega)).mono ?_; rintro e w2 ⟨kd, rfl, k0, k8, hd2⟩
  have HF2 := Lib.hid (hd2.blk HF1.out (by omega)); have HD2 := Lib.hid (HD1.out.trans hd2)
  clear hd2 HF1 HD1
  have HS2 := Lib.hid (show w.heap.size < w2.heap.size from HF2.out.lt)
  obtain ⟨n, hn⟩ : ∃ n : Nat, n = m + 1 := ⟨_, rfl⟩
  have hnI : 1 + (m : Int) = n := by omega
  have hn1 : 1 ≤ n := by omega
  have hnm : n ≤ most := by omega
  clear hn hm

  by_cases e0 : kd = 0
  · subst e0
    go_wp2_with fail
    refine (c_l02Flip n _ (by omega)).mono ?_; rintro e w9 hz
    obtain ⟨r8, r9, he, hsa, hb9⟩ := rsolR_at hz
    subst he
    obtain ⟨sa1, sl1, sc1, sa2, sl2, sc2, hv1, hv2⟩ := hsa.any
    subst hv1 hv2
    have hf := HF2.out.under hb9
    obtain ⟨z0, z1, z2, z3⟩ := two_cells hf
    have HSA := Lib.hid hsa; have HD9 := Lib.hid (HD2.out.under hb9); have HLT := HF2.out.lt
    have HPM := Lib.hid (tw_pm (permuted_iota n) (permuted_iota n) rfl (by simpa using hn1) (by simp; omega)); have HLN := Lib.hid (show (twA (iota n)).length ≤ most by simp [twA]; omega)
    clear hsa hf
    go_wp2
    exact bodyPost_ret (v := .agg #[.slice sa1 sl1 sc1, .slice sa2 sl2 sc2]) (by simp [results, Try.results115, go_sem, z0, z1]) rfl (any_end HSA.out HLT hbl HPM.out HLN.out HD9.out)
  have y0 : (kd == 0) = false := by simp [e0]
  by_cases e1 : kd = 1
  · subst e1
    go_wp2_with fail
    refine (c_l02Polygon n _ hn1 (by omega)).mono ?_; rintro e w9 hz
    obtain ⟨r8, r9, he, hsa, hb9⟩ := rsolR_at hz
    subst he
    obtain ⟨sa1, sl1, sc1, sa2, sl2, sc2, hv1, hv2⟩ := hsa.any
    subst hv1 hv2
    have hf := HF2.out.under hb9
    obtain ⟨z0, z1, z2, z3⟩ := two_cells hf
    have HSA := Lib.hid hsa; have HD9 := Lib.hid (HD2.out.under hb9); have HLT := HF2.out.lt
    have HPM := Lib.hid (pg_pm hn1 (by omega)); have HLN := Lib.hid (show (pgA n).length ≤ most by simp; omega)
    clear hsa hf
    go_wp2
    exact bodyPost_ret (v := .agg #[.slice sa1 sl1 sc1, .slice sa2 sl2 sc2]) (by simp [results, Try.results115, go_sem, z0, z1]) rfl (any_end HSA.out HLT hbl HPM.out HLN.out HD9.out)
  have y1 : (kd == 1) = false := by simp [e1]
  by_cases e2 : kd = 2
  · subst e2
    by_cases h4 : 4 ≤ n
    · have h4I : (4 : Int) ≤ n := by omega
      by_cases hev : n % 2 = 0
      · obtain ⟨k, hk⟩ : ∃ k : Nat, k = n / 2 := ⟨_, rfl⟩
        have u1 : Int.tmod (n : Int) 2 = 0 := by rw [Int.tmod_eq_emod_of_nonneg (by omega)]; omega
        have u2 : IntKind.i64.wrap ((n : Int) / 2) = k := by rw [IntKind.wrap_i64]; omega
        have hk2 : 2 ≤ k ∧ k ≤ 6 ∧ k * 2 ≤ most := by omega
        clear hk hev
        go_wp2_with fail
        refine (c_l02Twisted b k _ HD2.out.1 (by omega) (by omega)).mono ?_; rintro e w3 ⟨r3, r4, XA, XB, rfl, hsa3, hpm3, hln3, hd3⟩
        have HF3 := Lib.hid (hd3.blk HF2.out (by omega)); have HD3 := Lib.hid (HD2.out.trans hd3); have HSA3 := Lib.hid hsa3; have HP3 := Lib.hid (And.intro hpm3 hln3)
        have hbw2 := HD2.out.2.size
        clear hd3 hsa3 hpm3 hln3
        go_wp2_with fail
        refine (c_l02Twisted b 2 _ HD3.out.1 (by omega) (by omega)).mono ?_; rintro e w4 ⟨r5, r6, YA, YB, rfl, hsa4, hpm4, hln4, hd4⟩
        have HF4 := Lib.hid (hd4.blk HF3.out (by omega)); have HD4 := Lib.hid (HD3.out.trans hd4); have HSA4 := Lib.hid hsa4; have HP4 := Lib.hid (And.intro hpm4 hln4)
        have HSA3' := Lib.hid (HSA3.out.drew hd4 (by omega))
        clear hd4 hsa4 hpm4 hln4
        go_wp2_with fail
        refine (c_l02Product _ _ XA XB _ _ YA YB _ HSA3'.out.sol HSA4.out.sol HP3.out.1 HP4.out.1 (by rw [HP3.out.2, HP4.out.2]; omega)).mono ?_; rintro e w9 hz
        obtain ⟨r8, r9, he, hsa, hb9⟩ := rsolR_at hz
        subst he
        obtain ⟨sa1, sl1, sc1, sa2, sl2, sc2, hv1, hv2⟩ := hsa.any
        subst hv1 hv2
        have hf := HF4.out.under hb9
        obtain ⟨z0, z1, z2, z3⟩ := two_cells hf
        have HSA := Lib.hid hsa; have HD9 := Lib.hid (HD4.out.under hb9); have HLT := HF4.out.lt
        have HPM := Lib.hid (pr_pm HP3.out.1 HP4.out.1 (by rw [HP3.out.2, HP4.out.2]; omega)); have HLN := Lib.hid (show (prT XA YA).length ≤ most by rw [prT_length, HP3.out.2, HP4.out.2]; omega)
        clear hsa hf
        go_wp2
        exact bodyPost_ret (v := .agg #[.slice sa1 sl1 sc1, .slice sa2 sl2 sc2]) (by simp [results, Try.results115, go_sem, z0, z1]) rfl (any_end HSA.out HLT hbl HPM.out HLN.out HD9.out)
      · have u1 : ¬ Int.tmod (n : Int) 2 = 0 := by rw [Int.tmod_eq_emod_of_nonneg (by omega)]; omega
        go_wp2_with fail
        refine (c_l02Twisted b n _ HD2.out.1 hn1 (by omega)).mono ?_; rintro e w9 ⟨r8, r9, XA, XB, rfl, hsa, hpm, hln, hd9⟩
        obtain ⟨sa1, sl1, sc1, sa2, sl2, sc2, hv1, hv2⟩ := hsa.any
        subst hv1 hv2
        have hf := hd9.blk HF2.out (by omega)
        obtain ⟨z0, z1, z2, z3⟩ := two_cells hf
        have HSA := Lib.hid hsa; have HD9 := Lib.hid (HD2.out.trans hd9); have HLT := HF2.out.lt
        have HPM := Lib.hid (hpm); have HLN := Lib.hid (show XA.length ≤ most by omega)
        clear hsa hf
        go_wp2
        exact bodyPost_ret (v := .agg #[.slice sa1 sl1 sc1, .slice sa2 sl2 sc2]) (by simp [results, Try.results115, go_sem, z0, z1]) rfl (any_end HSA.out HLT hbl HPM.out HLN.out HD9.out)
    · have h4I : ¬ ((4 : Int) ≤ n) := by omega
      go_wp2_with fail
      refine (c_l02Twisted b n _ HD2.out.1 hn1 (by omega)).mono ?_; rintro e w9 ⟨r8, r9, XA, XB, rfl, hsa, hpm, hln, hd9⟩
      obtain ⟨sa1, sl1, sc1, sa2, sl2, sc2, hv1, hv2⟩ := hsa.any
      subst hv1 hv2
      have hf := hd9.blk HF2.out (by omega)
      obtain ⟨z0, z1, z2, z3⟩ := two_cells hf
      have HSA := Lib.hid hsa; have HD9 := Lib.hid (HD2.out.trans hd9); have HLT := HF2.out.lt
      have HPM := Lib.hid (hpm); have HLN := Lib.hid (show XA.length ≤ most by omega)
      clear hsa hf
      go_wp2
      exact bodyPost_ret (v := .agg #[.slice sa1 sl1 sc1, .slice sa2 sl2 sc2]) (by simp [results, Try.results115, go_sem, z0, z1]) rfl (any_end HSA.out HLT hbl HPM.out HLN.out HD9.out)
  have y2 : (kd == 2) = false := by simp [e2]
  by_cases e3 : kd = 3
  · subst e3
    by_cases hn2 : 2 ≤ n
    · have hn2I : (2 : Int) ≤ n := by omega
      go_wp2_with fail
      refine (c_l01Next b ((n : Int) - 1) _ HD2.out.1 (by omega) (by omega)).mono ?_; rintro e w3 ⟨t, rfl, t0, t1, hd3⟩
      obtain ⟨q, hq⟩ : ∃ q : Nat, q = t.toNat + 1 := ⟨_, rfl⟩
      have hqI : 1 + t = q := by omega
      have hq1 : 1 ≤ q ∧ q < n := by omega
      have hqr : (n : Int) - q = (n - q : Nat) := by omega
      have HF3 := Lib.hid (hd3.blk HF2.out (by omega)); have HD3 := Lib.hid (HD2.out.trans hd3)
      have hbw2 := HD3.out.2.size
      clear hd3 hq
      go_wp2_with fail
      refine (HIH.out q (by omega) _ HD3.out.1 (by omega) (by omega)).mono ?_; rintro e w4 ⟨r3, r4, XA, XB, rfl, hsa3, hpm3, hln3, hd4⟩
      have HF4 := Lib.hid (hd4.blk HF3.out (by omega)); have HD4 := Lib.hid (HD3.out.trans hd4); have HSA3 := Lib.hid hsa3; have HP3 := Lib.hid (And.intro hpm3 hln3)
      clear hd4 hsa3 hpm3 hln3
      go_wp2_with fail
      refine (c_l02Twisted b (n - q) _ HD4.out.1 (by omega) (by omega)).mono ?_; rintro e w5 ⟨r5, r6, YA, YB, rfl, hsa4, hpm4, hln4, hd5⟩
      have HF5 := Lib.hid (hd5.blk HF4.out (by omega)); have HD5 := Lib.hid (HD4.out.trans hd5); have HSA4 := Lib.hid hsa4; have HP4 := Lib.hid (And.intro hpm4 hln4)
      have HSA3' := Lib.hid (HSA3.out.drew hd5 (by omega))
      clear hd5 hsa4 hpm4 hln4
      have hsz : XA.length + YA.length ≤ most := by have := HP3.out.2; have := HP4.out.2; omega
      go_wp2_with fail
      refine (c_l02Union _ _ XA XB _ _ YA YB _ HSA3'.out.sol HSA4.out.sol HP3.out.1 HP4.out.1 (by omega)).mono ?_; rintro e w9 hz
      obtain ⟨r8, r9, he, hsa, hb9⟩ := rsolR_at hz
      subst he
      obtain ⟨sa1, sl1, sc1, sa2, sl2, sc2, hv1, hv2⟩ := hsa.any
      subst hv1 hv2
      have hf := HF5.out.under hb9
      obtain ⟨z0, z1, z2, z3⟩ := two_cells hf
      have HSA := Lib.hid hsa; have HD9 := Lib.hid (HD5.out.under hb9); have HLT := HF5.out.lt
      have HPM := Lib.hid (un_pm HP3.out.1 HP4.out.1 (by omega)); have HLN := Lib.hid (show (unTA XA YA).length ≤ most by rw [unTA_length]; omega)
      clear hsa hf
      go_wp2
      exact bodyPost_ret (v := .agg #[.slice sa1 sl1 sc1, .slice sa2 sl2 sc2]) (by simp [results, Try.results115, go_sem, z0, z1]) rfl (any_end HSA.out HLT hbl HPM.out HLN.out HD9.out)
    · have hn2I : ¬ ((2 : Int) ≤ n) := by omega
      go_wp2_with fail
      refine (c_l02Twisted b n _ HD2.out.1 hn1 (by omega)).mono ?_; rintro e w9 ⟨r8, r9, XA, XB, rfl, hsa, hpm, hln, hd9⟩
      obtain ⟨sa1, sl1, sc1, sa2, sl2, sc2, hv1, hv2⟩ := hsa.any
      subst hv1 hv2
      have hf := hd9.blk HF2.out (by omega)
      obtain ⟨z0, z1, z2, z3⟩ := two_cells hf
      have HSA := Lib.hid hsa; have HD9 := Lib.hid (HD2.out.trans hd9); have HLT := HF2.out.lt
      have HPM := Lib.hid (hpm); have HLN := Lib.hid (show XA.length ≤ most by omega)
      clear hsa hf
      go_wp2
      exact bodyPost_ret (v := .agg #[.slice sa1 sl1 sc1, .slice sa2 sl2 sc2]) (by simp [results, Try.results115, go_sem, z0, z1]) rfl (any_end HSA.out HLT hbl HPM.out HLN.out HD9.out)
  have y3 : (kd == 3) = false := by simp [e3]
  by_cases e4 : kd = 4
  · subst e4
    by_cases hm4 : 4 ≤ most
    · have hmI : (4 : Int) ≤ most := by omega
      go_wp2_with fail
      obtain ⟨W8, hW8⟩ : ∃ W, W = (((((w2.alloc (.cells #[.int .i64 0, .int .i64 1, .int .i64 3, .int .i64 2] 2)).alloc (.cells #[.int .i64 0, .int .i64 1, .int .i64 3, .int .i64 2] 2)).alloc (.cells #[.int .i64 1, .int .i64 0, .int .i64 2, .int .i64 3] 2)).alloc (.cells #[.int .i64 1, .int .i64 0, .int .i64 2, .int .i64 3] 2)).alloc (.cells #[.slice (some ⟨w2.heap.size, 0, none⟩) 4 4, .slice (some ⟨w2.heap.size + 1, 0, none⟩) 4 4, .slice (some ⟨w2.heap.size + 1 + 1, 0, none⟩) 4 4, .slice (some ⟨w2.heap.size + 1 + 1 + 1, 0, none⟩) 4 4] 27)) := ⟨_, rfl⟩
      obtain ⟨hr8, hb8⟩ := nv4_rows w2 W8 hW8
      rw [← hW8]
      have HF8 := Lib.hid (HF2.out.under hb8); have HD8 := Lib.hid (HD2.out.under hb8); have HR8 := Lib.hid hr8
      clear hr8 hb8 hW8
      refine (c_l02Involutive _ nv4 _ HR8.out nv4_pm.1).mono ?_; rintro e w9 hz
      obtain ⟨r8, r9, he, hsa, hb9⟩ := rsolR_at hz
      subst he
      obtain ⟨sa1, sl1, sc1, sa2, sl2, sc2, hv1, hv2⟩ := hsa.any
      subst hv1 hv2
      have hf := HF8.out.under hb9
      obtain ⟨z0, z1, z2, z3⟩ := two_cells hf
      have HSA := Lib.hid hsa; have HD9 := Lib.hid (HD8.out.under hb9); have HLT := HF8.out.lt
      have HPM := Lib.hid (nv4_pm.2); have HLN := Lib.hid (show nv4.length ≤ most by simp [nv4]; omega)
      clear hsa hf
      go_wp2
      exact bodyPost_ret (v := .agg #[.slice sa1 sl1 sc1, .slice sa2 sl2 sc2]) (by simp [results, Try.results115, go_sem, z0, z1]) rfl (any_end HSA.out HLT hbl HPM.out HLN.out HD9.out)
    · have hmI : ¬ ((4 : Int) ≤ most) := by omega
      go_wp2_with fail
      refine (c_l02Twisted b n _ HD2.out.1 hn1 (by omega)).mono ?_; rintro e w9 ⟨r8, r9, XA, XB, rfl, hsa, hpm, hln, hd9⟩
      obtain ⟨sa1, sl1, sc1, sa2, sl2, sc2, hv1, hv2⟩ := hsa.any
      subst hv1 hv2
      have hf := hd9.blk HF2.out (by omega)
      obtain ⟨z0, z1, z2, z3⟩ := two_cells hf
      have HSA := Lib.hid hsa; have HD9 := Lib.hid (HD2.out.trans hd9); have HLT := HF2.out.lt
      have HPM := Lib.hid (hpm); have HLN := Lib.hid (show XA.length ≤ most by omega)
      clear hsa hf
      go_wp2
      exact bodyPost_ret (v := .agg #[.slice sa1 sl1 sc1, .slice sa2 sl2 sc2]) (by simp [results, Try.results115, go_sem, z0, z1]) rfl (any_end HSA.out HLT hbl HPM.out HLN.out HD9.out)
  have y4 : (kd == 4) = false := by simp [e4]
  by_cases e5 : kd = 5
  · subst e5
    by_cases hn2 : 2 ≤ n
    · have hn2I : (2 : Int) ≤ n := by omega
      go_wp2_with fail
      refine (c_l02Polygon n _ hn1 (by omega)).mono ?_; rintro e w3 hz
      obtain ⟨r3, r4, he, hsa3, hb3⟩ := rsolR_at hz
      subst he
      have HF3 := Lib.hid (HF2.out.under hb3); have HD3 := Lib.hid (HD2.out.under hb3); have HSA3 := Lib.hid hsa3
      clear hz hsa3 hb3
      go_wp2_with fail
      refine (c_l02InverseC _ _ (pgA n) (pgB n) _ HSA3.out.sol (pg_coll hn1 (by omega)) (pg_pm hn1 (by omega))).mono ?_; rintro e w9 hz
      obtain ⟨r8, r9, he, hsa, hb9⟩ := rsolR_at hz
      subst he
      obtain ⟨sa1, sl1, sc1, sa2, sl2, sc2, hv1, hv2⟩ := hsa.any
      subst hv1 hv2
      have hf := HF3.out.under hb9
      obtain ⟨z0, z1, z2, z3⟩ := two_cells hf
      have HSA := Lib.hid hsa; have HD9 := Lib.hid (HD3.out.under hb9); have HLT := HF3.out.lt
      have HPM := Lib.hid (iv_pm (pg_pm hn1 (by omega)) (pg_coll hn1 (by omega))); have HLN := Lib.hid (show (ivA (pgA n) (pgB n) (pgA n).length).length ≤ most by simp; omega)
      clear hsa hf
      go_wp2
      exact bodyPost_ret (v := .agg #[.slice sa1 sl1 sc1, .slice sa2 sl2 sc2]) (by simp [results, Try.results115, go_sem, z0, z1]) rfl (any_end HSA.out HLT hbl HPM.out HLN.out HD9.out)
    · have hn2I : ¬ ((2 : Int) ≤ n) := by omega
      go_wp2_with fail
      refine (c_l02Twisted b n _ HD2.out.1 hn1 (by omega)).mono ?_; rintro e w9 ⟨r8, r9, XA, XB, rfl, hsa, hpm, hln, hd9⟩
      obtain ⟨sa1, sl1, sc1, sa2, sl2, sc2, hv1, hv2⟩ := hsa.any
      subst hv1 hv2
      have hf := hd9.blk HF2.out (by omega)
      obtain ⟨z0, z1, z2, z3⟩ := two_cells hf
      have HSA := Lib.hid hsa; have HD9 := Lib.hid (HD2.out.trans hd9); have HLT := HF2.out.lt
      have HPM := Lib.hid (hpm); have HLN := Lib.hid (show XA.length ≤ most by omega)
      clear hsa hf
      go_wp2
      exact bodyPost_ret (v := .agg #[.slice sa1 sl1 sc1, .slice sa2 sl2 sc2]) (by simp [results, Try.results115, go_sem, z0, z1]) rfl (any_end HSA.out HLT hbl HPM.out HLN.out HD9.out)
  have y5 : (kd == 5) = false := by simp [e5]
  by_cases e6 : kd = 6
  · subst e6
    by_cases hm3 : 3 ≤ most
    · have hmI : (3 : Int) ≤ most := by omega
      go_wp2_with fail
      obtain ⟨W8, hW8⟩ : ∃ W, W = ((((w2.alloc (.cells #[.int .i64 0, .int .i64 1, .int .i64 2] 2)).alloc (.cells #[.int .i64 0, .int .i64 1, .int .i64 2] 2)).alloc (.cells #[.int .i64 1, .int .i64 0, .int .i64 2] 2)).alloc (.cells #[.slice (some ⟨w2.heap.size, 0, none⟩) 3 3, .slice (some ⟨w2.heap.size + 1, 0, none⟩) 3 3, .slice (some ⟨w2.heap.size + 1 + 1, 0, none⟩) 3 3] 27)) := ⟨_, rfl⟩
      obtain ⟨hr8, hb8⟩ := nv3_rows w2 W8 hW8
      rw [← hW8]
      have HF8 := Lib.hid (HF2.out.under hb8); have HD8 := Lib.hid (HD2.out.under hb8); have HR8 := Lib.hid hr8
      clear hr8 hb8 hW8
      refine (c_l02Involutive _ nv3 _ HR8.out nv3_pm.1).mono ?_; rintro e w9 hz
      obtain ⟨r8, r9, he, hsa, hb9⟩ := rsolR_at hz
      subst he
      obtain ⟨sa1, sl1, sc1, sa2, sl2, sc2, hv1, hv2⟩ := hsa.any
      subst hv1 hv2
      have hf := HF8.out.under hb9
      obtain ⟨z0, z1, z2, z3⟩ := two_cells hf
      have HSA := Lib.hid hsa; have HD9 := Lib.hid (HD8.out.under hb9); have HLT := HF8.out.lt
      have HPM := Lib.hid (nv3_pm.2); have HLN := Lib.hid (show nv3.length ≤ most by simp [nv3]; omega)
      clear hsa hf
      go_wp2
      exact bodyPost_ret (v := .agg #[.slice sa1 sl1 sc1, .slice sa2 sl2 sc2]) (by simp [results, Try.results115, go_sem, z0, z1]) rfl (any_end HSA.out HLT hbl HPM.out HLN.out HD9.out)
    · have hmI : ¬ ((3 : Int) ≤ most) := by omega
      go_wp2_with fail
      refine (c_l02Twisted b n _ HD2.out.1 hn1 (by omega)).mono ?_; rintro e w9 ⟨r8, r9, XA, XB, rfl, hsa, hpm, hln, hd9⟩
      obtain ⟨sa1, sl1, sc1, sa2, sl2, sc2, hv1, hv2⟩ := hsa.any
      subst hv1 hv2
      have hf := hd9.blk HF2.out (by omega)
      obtain ⟨z0, z1, z2, z3⟩ := two_cells hf
      have HSA := Lib.hid hsa; have HD9 := Lib.hid (HD2.out.trans hd9); have HLT := HF2.out.lt
      have HPM := Lib.hid (hpm); have HLN := Lib.hid (show XA.length ≤ most by omega)
      clear hsa hf
      go_wp2
      exact bodyPost_ret (v := .agg #[.slice sa1 sl1 sc1, .slice sa2 sl2 sc2]) (by simp [results, Try.results115, go_sem, z0, z1]) rfl (any_end HSA.out HLT hbl HPM.out HLN.out HD9.out)
  have y6 : (kd == 6) = false := by simp [e6]
  go_wp2_with fail
  refine (c_l02Twisted b n _ HD2.out.1 hn1 (by omega)).mono ?_; rintro e w9 ⟨r8, r9, XA, XB, rfl, hsa, hpm, hln, hd9⟩
  obtain ⟨sa1, sl1, sc1, sa2, sl2, sc2, hv1, hv2⟩ := hsa.any
  subst hv1 hv2
  have hf := hd9.blk HF2.out (by omega)
  obtain ⟨z0, z1, z2, z3⟩ := two_cells hf
  have HSA := Lib.hid hsa; have HD9 := Lib.hid (HD2.out.trans hd9); have HLT := HF2.out.lt
  have HPM := Lib.hid (hpm); have HLN := Lib.hid (show XA.length ≤ most by omega)
  clear hsa hf
  go_wp2
  exact bodyPost_ret (v := .agg #[.slice sa1 sl1 sc1, .slice sa2 sl2 sc2]) (by simp [results, Try.results115, go_sem, z0, z1]) rfl (any_end HSA.out HLT hbl HPM.out HLN.out HD9.out)
end Go.Proofs.Ytkghonhghbcdlaa

namespace Go.Proofs.Ytkghonhghbcdlaa
set_option linter.unusedVariables false
set_option linter.unusedSimpArgs false
open Go Go.RowKit

theorem OwnSol.atW {lo hi : Nat} {w : World} {v1 v2 : Value} {A B : List (List Int)} (h : OwnSol lo hi w v1 v2 A B) : SolAt lo w v1 v2 A B := by
  obtain ⟨l1, h1, l2, h2, a, b, c, d, e, f, g⟩ := h
  exact ⟨f.out.wr.mono a, g.out.wr.mono c⟩
theorem SolAt.shape {lo : Nat} {w : World} {v1 v2 : Value} {A B : List (List Int)} (h : SolAt lo w v1 v2 A B) : ∃ a1 c1 a2 c2, v1 = .slice a1 A.length c1 ∧ v2 = .slice a2 B.length c2 := by
  obtain ⟨a1, c1, e1, _⟩ := h.1
  obtain ⟨a2, c2, e2, _⟩ := h.2
  exact ⟨a1, c1, a2, c2, e1, e2⟩
theorem SolAt.keep {lo : Nat} {S : Nat → Prop} {w w' : World} {v1 v2 : Value} {A B : List (List Int)} (h : SolAt lo w v1 v2 A B) (k : Keep S w w') (hS : ∀ b, lo ≤ b → ¬ S b) : SolAt lo w' v1 v2 A B := ⟨h.1.keep k hS, h.2.keep k hS⟩

set_option maxRecDepth 100000 in
set_option maxHeartbeats 4000000 in
theorem c_l02Draw (b most : Nat) (w : World) (hs : Src w b) (h1 : 1 ≤ most) (h2 : most ≤ 12) : Calls Try.prog 78 #[.pointer (some ⟨b, 0, none⟩), .int .i64 most] w (RDraw b most w) := by
  have HS := Lib.hid hs; have hbl := hs.lt; clear hs
  have HF0 : Hid (Blk (w.alloc (.cells #[.slice none 0 0, .slice none 0 0] 26)) w.heap.size 26 [.slice none 0 0, .slice none 0 0]) := Lib.hid (Blk.new w [.slice none 0 0, .slice none 0 0] 26)
  have HB0 : Hid (Below w.heap.size w (w.alloc (.cells #[.slice none 0 0, .slice none 0 0] 26))) := Lib.hid ((Below.refl _ _).alloc (Nat.le_refl _) _)
  go_enter Try.func78, Try.ntmps78
  have HS0 := Lib.hid (HS.out.under HB0.out)
  have HD0 := Lib.hid ((Drew.refl HS.out).under HB0.out)
  go_wp2_with fail
  refine (c_l02Any b most _ HS0.out h1 h2).mono ?_; rintro e w1 ⟨r1, r2, A, B, rfl, hsa, hpm, hln, hd1⟩
  obtain ⟨sa1, sc1, sa2, sc2, hv1, hv2⟩ := hsa.shape
  subst hv1 hv2
  have hba : Below w1.heap.size w1 (w1.alloc (.cells #[.slice sa1 A.length sc1, .slice sa2 B.length sc2] 26)) := (Below.refl _ _).alloc (Nat.le_refl _) _
  have hq : w.heap.size < w1.heap.size := by have := hd1.2.size; simp at this; omega
  have HBX := Lib.hid (show Blk (w1.alloc (.cells #[.slice sa1 A.length sc1, .slice sa2 B.length sc2] 26)) w1.heap.size 26 [.slice sa1 A.length sc1, .slice sa2 B.length sc2] from Blk.new w1 [.slice sa1 A.length sc1, .slice sa2 B.length sc2] 26)
  have HF1 := Lib.hid ((hd1.blk HF0.out (by omega)).under hba); have HD1 := Lib.hid ((HD0.out.trans hd1).under hba)
  have HSA1 := Lib.hid ((hsa.under hba).mono (show w.heap.size + 1 ≤ _ by simp)); have HPM := Lib.hid hpm; have HLN := Lib.hid hln
  have hl1 := (isTab_len (isPM_parts hpm).1).1
  clear hd1 hsa hpm hln hba HD0 HF0 HS0 HB0
  go_wp2_with fail
  refine (c_l01Next b 4 _ HD1.out.1 (by omega) (by omega)).mono ?_; rintro e w2 ⟨t, rfl, t0, t1, hd2⟩
  have HF2 := Lib.hid (hd2.blk HF1.out (by omega)); have HD2 := Lib.hid (HD1.out.trans hd2)
  have HSA2 := Lib.hid (HSA1.out.drew hd2 (by omega)); have HBX2 := Lib.hid (hd2.blk HBX.out (by omega))
  have hw2 : w1.heap.size < w2.heap.size := HBX2.out.lt
  clear hd2 HF1 HD1 HSA1 HBX
  by_cases ht : 0 < t
  · have HK : Hid (∀ w' : World, Keep (fun k => k = b ∨ k = w.heap.size ∨ w2.heap.size ≤ k) w2 w' → w'.cell? ⟨w1.heap.size, 0, none⟩ = some (.slice sa1 A.length sc1) ∧ w'.cell? ⟨w1.heap.size, 1, none⟩ = some (.slice sa2 B.length sc2)) := Lib.hid (fun w' k => by
      have := HBX2.out.of_block (k.block w1.heap.size hw2 (by omega))
      obtain ⟨x0, x1, -, -⟩ := two_cells this
      exact ⟨x0, x1⟩)
    have K0 : Keep (fun k => k = b ∨ k = w.heap.size ∨ w2.heap.size ≤ k) w2 w2.drew := (Keep.refl _ w2).drew
    have HDw := Lib.hid (HD2.out.under ((Below.refl w2.heap.size w2).drew))
    have HSrc := Lib.hid HDw.out.1
    have HFw := Lib.hid (HF2.out.under ((Below.refl w2.heap.size w2).drew))
    have HSAw := Lib.hid (HSA2.out.under ((Below.refl w2.heap.size w2).drew))
    have HRW := Lib.hid (show ∀ p : List Int, p.length = A.length → Permuted p → RenOk A p ∧ RenOk B p from fun p e1 e2 => ⟨⟨(isPM_parts HPM.out).1, e2, e1⟩, (isPM_parts HPM.out).2.1, e2, e1.trans (isPM_parts HPM.out).2.2⟩)
    have hl2 : A.length ≤ 1000 := by have := HLN.out; omega
    have hws : w2.drew.heap.size = w2.heap.size := rfl
    obtain ⟨zc0, zc1⟩ := HK.out _ K0
    go_wp2
    go_region_held3 (fun w' => w'.cell? ⟨w1.heap.size, 0, none⟩ = some (.slice sa1 A.length sc1) ∧ w'.cell? ⟨w1.heap.size, 1, none⟩ = some (.slice sa2 B.length sc2))
      (first | exact HK.out _ K0 | exact HK.out _ K3 | exact HK.out _ K4 | exact HK.out _ K5)
      (first
        | (go_at_call 79; (with_reducible refine (c_l01DrawP b A.length _ HSrc.out hl1 hl2).mono ?_); rintro e w3 ⟨r, p, rfl, hpl, hpp, hop, hd3⟩; have K3 := K0.trans (keep_mono hd3.2 (T := fun k => k = b ∨ k = w.heap.size ∨ w2.heap.size ≤ k) (fun x hx => .inl hx)); have HD3 := Lib.hid (HDw.out.trans hd3); have HF3 := Lib.hid (hd3.blk HFw.out (by omega)); have HS3 := Lib.hid (HSAw.out.drew hd3 (by omega)).sol; have HRA := Lib.hid (HRW.out p hpl hpp).1; have HRB := Lib.hid (HRW.out p hpl hpp).2; have HP3 := Lib.hid hop.ints; have HPP := Lib.hid (And.intro hpl hpp); obtain ⟨zd0, zd1⟩ := HK.out _ K3; clear hd3 hop hpl hpp)
        | (go_at_call 116; (with_reducible refine (c_l02Rename _ _ _ A B p _ HS3.out HP3.out HRA.out HRB.out).mono ?_); rintro e w4 ⟨u1, u2, rfl, hos, hb4⟩; obtain ⟨ua1, uc1, ua2, uc2, hu1, hu2⟩ := hos.atW.shape; rw [renL_length] at hu1 hu2; subst hu1 hu2; have K4 := K3.trans (keep_mono (Keep.of_below hb4) (T := fun k => k = b ∨ k = w.heap.size ∨ w2.heap.size ≤ k) (fun x hx => .inr (.inr (Nat.le_trans K3.size hx)))); obtain ⟨ze0, ze1⟩ := HK.out _ K4; have K5 := (K4.setCell (p := ⟨w.heap.size, 0, none⟩) (.inl (.inr (.inl rfl))) (.slice ua1 A.length uc1)).setCell (p := ⟨w.heap.size, 1, none⟩) (.inl (.inr (.inl rfl))) (.slice ua2 B.length uc2); have HD4 := Lib.hid (HD3.out.under hb4); have hf4 := HF3.out.under hb4; obtain ⟨y0, y1, y2, y3⟩ := two_cells hf4; have HSO := Lib.hid hos.atW; have HSZ := Lib.hid (show w.heap.size < w3.heap.size from HF3.out.lt); clear hos hb4))
    all_goals
      have HPM4 := Lib.hid (ren_pm HPM.out HPP.out.2 HPP.out.1)
      have HLN4 : Hid ((renL A p).length ≤ most) := Lib.hid (by rw [renL_length]; exact HLN.out)
      rename_i hHz
      clear hHz
      go_wp2
      exact bodyPost_ret (v := .agg #[.slice ua1 A.length uc1, .slice ua2 B.length uc2]) (by simp [results, Try.results78, go_sem, y0, y1]) rfl (any_end HSO.out HSZ.out hbl HPM4.out HLN4.out HD4.out)
  · have HFin := Lib.hid HD2.out
    obtain ⟨x0, x1, -, -⟩ := two_cells HBX2.out
    obtain ⟨z0, z1, z2, z3⟩ := two_cells HF2.out
    go_wp2
    exact bodyPost_ret (v := .agg #[.slice sa1 A.length sc1, .slice sa2 B.length sc2]) (by simp [results, Try.results78, go_sem, z0, z1]) rfl (any_end HSA2.out (Nat.lt_succ_self _) hbl HPM.out HLN.out HFin.out)
end Go.Proofs.Ytkghonhghbcdlaa

namespace Go.Proofs.Ytkghonhghbcdlaa
set_option linter.unusedVariables false
set_option linter.unusedSimpArgs false
open Go Go.RowKit

/-- The table can be read now, and after all changes that leave the blocks from lo on as they are. -/
def RdR (lo : Nat) (w : World) (v : Value) (X : List (List Int)) : Prop :=
  ∀ (S : Nat → Prop) (w' : World), Keep S w w' → (∀ b, lo ≤ b → b < w.heap.size → ¬ S b) → Rows w' v X
theorem keep_low {S : Nat → Prop} {w w' : World} (k : Keep S w w') : Keep (fun b => S b ∧ b < w.heap.size) w w' := ⟨k.os, k.tape, k.output, k.size, fun x hx hn => k.block x hx (fun e => hn ⟨e, hx⟩)⟩
theorem RowsW.rd {lo : Nat} {w : World} {v : Value} {X : List (List Int)} (h : RowsW lo w v X) : RdR lo w v X := fun _ _ k hS => (h.keepB k hS).rows
theorem RowsAt.rd {lo : Nat} {w : World} {v : Value} {X : List (List Int)} (h : RowsAt lo w v X) : RdR lo w v X := fun _ _ k hS => (h.keep (keep_low k) (fun b hb e => hS b hb e.2 e.1)).rows
namespace RdR
variable {lo : Nat} {w w' : World} {v : Value} {X : List (List Int)}
theorem rows (h : RdR lo w v X) : Rows w v X := h (fun _ => False) w (Keep.refl _ _) (fun _ _ _ e => e)
theorem keep (h : RdR lo w v X) {S : Nat → Prop} (k : Keep S w w') (hS : ∀ b, lo ≤ b → b < w.heap.size → ¬ S b) : RdR lo w' v X := by
  intro S2 w2 k2 h2
  refine h (fun b => S b ∨ S2 b) w2 ?_ ?_
  · refine ⟨k2.os.trans k.os, k2.tape.trans k.tape, k2.output.trans k.output, Nat.le_trans k.size k2.size, fun x hx hn => ?_⟩
    have e1 := k.block x hx (fun e => hn (.inl e))
    have e2 := k2.block x (Nat.lt_of_lt_of_le hx k.size) (fun e => hn (.inr e))
    exact e2.trans e1
  · intro b h3 h4 h5
    rcases h5 with h5 | h5
    · exact hS b h3 h4 h5
    · exact h2 b h3 (Nat.lt_of_lt_of_le h4 k.size) h5
theorem drew {b : Nat} (h : RdR lo w v X) (hd : Drew b w w') (hb : b < lo) : RdR lo w' v X := h.keep hd.2 (fun x hx _ e => by have e : x = b := e; omega)
theorem under (h : RdR lo w v X) (hb : Below w.heap.size w w') : RdR lo w' v X :=
  h.keep (S := fun b => w.heap.size ≤ b) (Keep.of_below hb) fun b _ h1 h2 => by have h2 : w.heap.size ≤ b := h2; omega
theorem mono {lo' : Nat} (h : RdR lo w v X) (hl : lo' ≤ lo) : RdR lo' w v X := fun S w' k hS => h S w' k (fun b hb h2 => hS b (Nat.le_trans hl hb) h2)
end RdR
/-- A pair of tables that can be read, in blocks from lo on. -/
def RdS (lo : Nat) (w : World) (v1 v2 : Value) (A B : List (List Int)) : Prop := RdR lo w v1 A ∧ RdR lo w v2 B
namespace RdS
variable {lo : Nat} {w w' : World} {v1 v2 : Value} {A B : List (List Int)}
theorem sol (h : RdS lo w v1 v2 A B) : Sol w v1 v2 A B := ⟨h.1.rows, h.2.rows⟩
theorem keep (h : RdS lo w v1 v2 A B) {S : Nat → Prop} (k : Keep S w w') (hS : ∀ b, lo ≤ b → b < w.heap.size → ¬ S b) : RdS lo w' v1 v2 A B := ⟨h.1.keep k hS, h.2.keep k hS⟩
theorem drew {b : Nat} (h : RdS lo w v1 v2 A B) (hd : Drew b w w') (hb : b < lo) : RdS lo w' v1 v2 A B := ⟨h.1.drew hd hb, h.2.drew hd hb⟩
theorem under (h : RdS lo w v1 v2 A B) (hb : Below w.heap.size w w') : RdS lo w' v1 v2 A B := ⟨h.1.under hb, h.2.under hb⟩
theorem mono {lo' : Nat} (h : RdS lo w v1 v2 A B) (hl : lo' ≤ lo) : RdS lo' w v1 v2 A B := ⟨h.1.mono hl, h.2.mono hl⟩
end RdS
/-- What a draw of a pair of tables leaves, which need be no pair map. -/
def RSpoil (b : Nat) (w : World) (e : Ending) (w' : World) : Prop :=
  ∃ (r1 r2 : Value) (A B : List (List Int)), e = .returned (.agg #[r1, r2]) ∧ RdS w.heap.size w' r1 r2 A B ∧ A.length ≤ 101 ∧ Drew b w w'
theorem spoil_end {b lo : Nat} {w w9 : World} {r1 r2 : Value} {A B : List (List Int)} (hsa : RdS lo w9 r1 r2 A B) (hlo : w.heap.size < lo) (hbl : b < w.heap.size) (hl : A.length ≤ 101) (hd : Drew b w w9) :
    RSpoil b w (.returned (.agg #[r1, r2])) ((w9.setCell ⟨w.heap.size, 0, none⟩ r1).setCell ⟨w.heap.size, 1, none⟩ r2) := by
  have kz : Keep (fun x => x = w.heap.size) w9 ((w9.setCell ⟨w.heap.size, 0, none⟩ r1).setCell ⟨w.heap.size, 1, none⟩ r2) := keep_early _ _ _ _
  exact ⟨_, _, A, B, rfl, (hsa.keep kz (fun x hx _ e => by have e : x = w.heap.size := e; omega)).mono (by omega), hl,
    drew_set (drew_set hd (p := ⟨w.heap.size, 0, none⟩) (Nat.le_refl _) hbl _) (p := ⟨w.heap.size, 1, none⟩) (Nat.le_refl _) hbl _⟩
end Go.Proofs.Ytkghonhghbcdlaa

namespace Go.Proofs.Ytkghonhghbcdlaa
set_option linter.unusedVariables false
set_option linter.unusedSimpArgs false
open Go Go.RowKit

theorem wide_tab {A : List (List Int)} (h : isTab A = true) : Wide A.length A := fun r hr => by
  obtain ⟨i, hi, rfl⟩ := List.getElem_of_mem hr
  have := isTab_row h (x := (i : Int)) (by omega) (by omega)
  rw [row_nat _ _ hi] at this; omega
theorem SolAt.rd {lo : Nat} {w : World} {v1 v2 : Value} {A B : List (List Int)} (h : SolAt lo w v1 v2 A B) : RdS lo w v1 v2 A B := ⟨h.1.rd, h.2.rd⟩
theorem RowsAt.monoB {lo lo' : Nat} {w : World} {v : Value} {X : List (List Int)} (h : RowsAt lo w v X) (hl : lo' ≤ lo) : RowsAt lo' w v X := h.mono hl
/-- A store of a slice into a table of a pair. -/
theorem SolAt.putS {lo m n1 c1 n2 c2 : Nat} {w : World} {a1 a2 : Option Addr} {A B : List (List Int)} (h : SolAt lo w (.slice a1 n1 c1) (.slice a2 n2 c2) A B) (hA : Wide m A) (hB : Wide m B) {p : Addr} {a0 : Option Addr} {n0 c0 : Nat} (hp : w.cell? p = some (.slice a0 n0 c0)) {u : Value} {ys : List Int} (hu : IntsW lo w u ys) (hy : ys.length ≤ m) :
    ∃ Y Z, Y.length = A.length ∧ SolAt lo (w.setCell p u) (.slice a1 n1 c1) (.slice a2 n2 c2) Y Z := by
  obtain ⟨Y, h1, _, h2⟩ := h.1.putS hA hp hu hy
  obtain ⟨Z, _, _, h4⟩ := h.2.putS hB hp hu hy
  exact ⟨Y, Z, h1, h2, h4⟩
theorem SolAt.putI {lo m n1 c1 n2 c2 : Nat} {w : World} {a1 a2 : Option Addr} {A B : List (List Int)} (h : SolAt lo w (.slice a1 n1 c1) (.slice a2 n2 c2) A B) (hA : Wide m A) (hB : Wide m B) {p : Addr} {y0 : Int} (hp : w.cell? p = some (.int .i64 y0)) (z : Int) :
    ∃ Y Z, Y.length = A.length ∧ SolAt lo (w.setCell p (.int .i64 z)) (.slice a1 n1 c1) (.slice a2 n2 c2) Y Z := by
  obtain ⟨Y, h1, _, h2⟩ := h.1.putI hA hp z
  obtain ⟨Z, _, _, h4⟩ := h.2.putI hB hp z
  exact ⟨Y, Z, h1, h2, h4⟩
/-- Where a table's cells lie. -/
theorem RowsW.home {lo : Nat} {w : World} {a : Option Addr} {n c : Nat} {X : List (List Int)} (h : RowsW lo w (.slice a n c) X) (hX : 0 < X.length) : ∃ tb, a = some ⟨tb, 0, none⟩ ∧ lo ≤ tb ∧ tb < w.heap.size := by
  obtain ⟨b, a', c', ha, hlo, hc, _⟩ := h.at 0 hX
  exact ⟨b, ha, hlo, cell_lt hc⟩
theorem RowsW.cellAt {lo : Nat} {w : World} {tb n c : Nat} {X : List (List Int)} (h : RowsW lo w (.slice (some ⟨tb, 0, none⟩) n c) X) (k : Nat) (hk : k < X.length) :
    ∃ a' c', w.cell? ⟨tb, k, none⟩ = some (.slice a' (row X k).length c') ∧ w.frozen? ⟨tb, k, none⟩ = false ∧ IntsW lo w (.slice a' (row X k).length c') (row X k) := by
  obtain ⟨b, a', c', ha, hlo, hc, hf, hi⟩ := h.at k hk
  injection ha with ha; injection ha with ha; subst ha
  exact ⟨a', c', hc, hf, hi⟩
theorem RowsW.rowAt {lo m : Nat} {w : World} {tb n c : Nat} {X : List (List Int)} (h : RowsW lo w (.slice (some ⟨tb, 0, none⟩) n c) X) (k : Nat) (hk : k < X.length) (hl : (row X k).length = m) (hm : 0 < m) :
    ∃ rb c', w.cell? ⟨tb, k, none⟩ = some (.slice (some ⟨rb, 0, none⟩) m c') ∧ lo ≤ rb ∧ rb < w.heap.size ∧ IntsW lo w (.slice (some ⟨rb, 0, none⟩) m c') (row X k) := by
  obtain ⟨a', c', hc, _, hi⟩ := h.cellAt k hk
  obtain ⟨rb, ha, hlo, h0, _⟩ := hi.at0 0 (by omega)
  subst ha
  rw [hl] at hc hi
  exact ⟨rb, c', hc, hlo, cell_lt h0, hi⟩
theorem IntsW.cellAt {lo : Nat} {w : World} {rb n c : Nat} {xs : List Int} (h : IntsW lo w (.slice (some ⟨rb, 0, none⟩) n c) xs) (k : Nat) (hk : k < xs.length) : w.cell? ⟨rb, k, none⟩ = some (.int .i64 (nth xs k)) ∧ w.frozen? ⟨rb, k, none⟩ = false := by
  obtain ⟨b, ha, hlo, hc, hf⟩ := h.at0 k hk
  injection ha with ha; injection ha with ha; subst ha
  exact ⟨hc, hf⟩
theorem RowsAt.isSlice {lo : Nat} {w : World} {v : Value} {X : List (List Int)} (h : RowsAt lo w v X) : ∃ a c, v = .slice a X.length c := by
  obtain ⟨a, c, hv, _⟩ := h
  exact ⟨a, c, hv⟩

set_option maxRecDepth 100000 in
set_option maxHeartbeats 8000000 in
theorem c_l02Spoil (b most : Nat) (w : World) (hs : Src w b) (h1 : 1 ≤ most) (h2 : most ≤ 12) : Calls Try.prog 41 #[.pointer (some ⟨b, 0, none⟩), .int .i64 most] w (RSpoil b w) := by
  have HS := Lib.hid hs; have hbl := hs.lt; clear hs
  have HF0 : Hid (Blk (w.alloc (.cells #[.slice none 0 0, .slice none 0 0] 26)) w.heap.size 26 [.slice none 0 0, .slice none 0 0]) := Lib.hid (Blk.new w [.slice none 0 0, .slice none 0 0] 26)
  have HB0 : Hid (Below w.heap.size w (w.alloc (.cells #[.slice none 0 0, .slice none 0 0] 26))) := Lib.hid ((Below.refl _ _).alloc (Nat.le_refl _) _)
  go_enter Try.func41, Try.ntmps41
  have HS0 := Lib.hid (HS.out.under HB0.out)
  have HD0 := Lib.hid ((Drew.refl HS.out).under HB0.out)
  go_wp2_with fail
  refine (c_l02Draw b most _ HS0.out h1 h2).mono ?_; rintro e w1 ⟨r1, r2, A, B, rfl, hsa, hpm, hln, hd1⟩
  obtain ⟨sa1, sc1, sa2, sc2, hv1, hv2⟩ := hsa.shape
  subst hv1 hv2
  obtain ⟨n, hnA⟩ : ∃ n, A.length = n := ⟨_, rfl⟩
  have hnB : B.length = n := by rw [← hnA]; exact (isPM_parts hpm).2.2.symm
  have hn1 : 1 ≤ n := by have := (isTab_len (isPM_parts hpm).1).1; omega
  have hn12 : n ≤ 12 := by omega
  rw [hnA, hnB] at hsa ⊢
  obtain ⟨tb, hsa1, tb0, tb1⟩ := hsa.1.home (by omega)
  obtain ⟨tc, hsa2, tc0, tc1⟩ := hsa.2.home (by omega)
  subst hsa1 hsa2
  have hwA : Wide n A := by rw [← hnA]; exact wide_tab (isPM_parts hpm).1
  have hwB : Wide n B := by rw [← hnB]; exact wide_tab (isPM_parts hpm).2.1
  have hrB : ∀ k : Nat, k < n → (row B k).length = n := fun k hk => by rw [← hnB]; exact isTab_row (isPM_parts hpm).2.1 (by omega) (by omega)
  have HRow : Hid (∀ k : Nat, k < n → ∃ rb c', w1.cell? ⟨tc, k, none⟩ = some (.slice (some ⟨rb, 0, none⟩) n c') ∧ w.heap.size < rb ∧ rb < w1.heap.size ∧ IntsW (w.heap.size + 1) w1 (.slice (some ⟨rb, 0, none⟩) n c') (row B k)) := Lib.hid fun k hk => by
    obtain ⟨rb, c', q1, q2, q3, q4⟩ := hsa.2.rowAt k (by omega) (hrB k hk) hn1
    simp at q2
    exact ⟨rb, c', q1, by omega, q3, q4.mono (by simp)⟩
  have HN := Lib.hid (And.intro hnA hnB); have HW := Lib.hid (And.intro hwA hwB); have HRB := Lib.hid hrB
  have hba : Below w1.heap.size w1 (w1.alloc (.cells #[.slice (some ⟨tb, 0, none⟩) n sc1, .slice (some ⟨tc, 0, none⟩) n sc2] 26)) := (Below.refl _ _).alloc (Nat.le_refl _) _
  have hq : w.heap.size < w1.heap.size := by have := hd1.2.size; simp at this; omega
  have HBX := Lib.hid (show Blk (w1.alloc (.cells #[.slice (some ⟨tb, 0, none⟩) n sc1, .slice (some ⟨tc, 0, none⟩) n sc2] 26)) w1.heap.size 26 [.slice (some ⟨tb, 0, none⟩) n sc1, .slice (some ⟨tc, 0, none⟩) n sc2] from Blk.new w1 [.slice (some ⟨tb, 0, none⟩) n sc1, .slice (some ⟨tc, 0, none⟩) n sc2] 26)
  have HF1 := Lib.hid ((hd1.blk HF0.out (by omega)).under hba); have HD1 := Lib.hid ((HD0.out.trans hd1).under hba)
  have HSA1 := Lib.hid ((hsa.under hba).mono (show w.heap.size + 1 ≤ _ by simp))
  have HKA : Hid (Keep (fun k => w1.heap.size ≤ k) w1 (w1.alloc (.cells #[.slice (some ⟨tb, 0, none⟩) n sc1, .slice (some ⟨tc, 0, none⟩) n sc2] 26))) := Lib.hid (Keep.of_below hba)
  have HRd1 := Lib.hid ((hsa.mono (show w.heap.size + 1 ≤ _ by simp)).rd)
  simp at tb0 tc0
  have htb : w.heap.size < tb := by omega
  have htc : w.heap.size < tc := by omega
  clear hd1 hsa hpm hln hba HD0 HF0 HS0 HB0 hnA hnB hwA hwB hrB tb0 tc0
  go_wp2_with fail
  refine (c_l01Next b 24 _ HD1.out.1 (by omega) (by omega)).mono ?_; rintro e w2 ⟨kd, rfl, kd0, kd1, hd2⟩
  have HF2 := Lib.hid (hd2.blk HF1.out (by omega)); have HD2 := Lib.hid (HD1.out.trans hd2)
  have HSA2 := Lib.hid (HSA1.out.drew hd2 (by omega)); have HBX2 := Lib.hid (hd2.blk HBX.out (by omega))
  have hw2 : w1.heap.size < w2.heap.size := HBX2.out.lt
  have HKW2 : Hid (Keep (fun k => k = b ∨ w1.heap.size ≤ k) w1 w2) := Lib.hid ((keep_mono HKA.out (fun x h => .inr h)).trans (keep_mono hd2.2 (fun x h => .inl h)))
  -- the cells of the second table's rows, at w2 and later
  have HRow2 : Hid (∀ k : Nat, k < n → ∃ rb c', rb < w1.heap.size ∧ w.heap.size < rb ∧ ∀ w' : World, Keep (fun j => j = b ∨ w2.heap.size ≤ j) w2 w' → w'.cell? ⟨tc, k, none⟩ = some (.slice (some ⟨rb, 0, none⟩) n c') ∧ IntsW (w.heap.size + 1) w' (.slice (some ⟨rb, 0, none⟩) n c') (row B k)) := Lib.hid fun k hk => by
    obtain ⟨rb, c', q1, q2, q3, q4⟩ := HRow.out k hk
    have q5 := cell_of_block (HKA.out.block tc tc1 (by omega)) q1
    have q6 := cell_of_block (hd2.2.block tc (cell_lt q5) (by omega)) q5
    have q7 : IntsW (w.heap.size + 1) _ _ _ := (q4.keep HKA.out (fun x _ h e => by omega)).keep hd2.2 (fun x h _ e => by have e : x = b := e; omega)
    refine ⟨rb, c', q3, q2, fun w' k' => ⟨cell_of_block (k'.block tc (cell_lt q6) (by omega)) q6, q7.keep k' (fun x h h2 e => by rcases e with e | e <;> omega)⟩⟩
  obtain ⟨rbF, rcF, hrF⟩ : ∃ (rbF rcF : Nat → Nat), ∀ k : Nat, k < n → rbF k < w1.heap.size ∧ w.heap.size < rbF k ∧ ∀ w' : World, Keep (fun j => j = b ∨ w2.heap.size ≤ j) w2 w' → w'.cell? ⟨tc, k, none⟩ = some (.slice (some ⟨rbF k, 0, none⟩) n (rcF k)) ∧ IntsW (w.heap.size + 1) w' (.slice (some ⟨rbF k, 0, none⟩) n (rcF k)) (row B k) := by
    refine ⟨fun k => if h : k < n then Classical.choose (HRow2.out k h) else 0, fun k => if h : k < n then Classical.choose (Classical.choose_spec (HRow2.out k h)) else 0, fun k hk => ?_⟩
    simp only [hk, dite_true]
    exact Classical.choose_spec (Classical.choose_spec (HRow2.out k hk))
  have HRF := Lib.hid hrF
  clear hd2 HF1 HD1 HSA1 HBX HRow HKA HRow2 hrF
  have HK : Hid (∀ w' : World, Keep (fun k => k = b ∨ w2.heap.size ≤ k ∨ (k < w1.heap.size ∧ w.heap.size < k)) w2 w' → w'.cell? ⟨w1.heap.size, 0, none⟩ = some (.slice (some ⟨tb, 0, none⟩) n sc1) ∧ w'.cell? ⟨w1.heap.size, 1, none⟩ = some (.slice (some ⟨tc, 0, none⟩) n sc2)) := Lib.hid (fun w' k => by
      have := HBX2.out.of_block (k.block w1.heap.size hw2 (by omega))
      obtain ⟨x0, x1, -, -⟩ := two_cells this
      exact ⟨x0, x1⟩)
  have K0 : Keep (fun j => j = b ∨ w2.heap.size ≤ j) w2 w2.drew := (Keep.refl _ w2).drew
  have HUP : Hid (∀ w' : World, Keep (fun j => j = b ∨ w2.heap.size ≤ j) w2 w' → Keep (fun k => k = b ∨ w2.heap.size ≤ k ∨ (k < w1.heap.size ∧ w.heap.size < k)) w2 w') := Lib.hid fun w' k => keep_mono k (fun x hx => by rcases hx with h | h; exact .inl h; exact .inr (.inl h))
  have HDw := Lib.hid (HD2.out.under ((Below.refl w2.heap.size w2).drew))
  have HSrc := Lib.hid HDw.out.1
  have HFw := Lib.hid (HF2.out.under ((Below.refl w2.heap.size w2).drew))
  have HSAw := Lib.hid (HSA2.out.under ((Below.refl w2.heap.size w2).drew))
  have hnI : (1 : Int) ≤ n := by omega
  have hbI : (n : Int) ≤ 9223372036854775807 := by omega
  by_cases e0 : kd = 0
  · subst e0
    obtain ⟨zc0, zc1⟩ := HK.out _ (HUP.out _ K0)
    go_wp2
    go_region_held3 (fun w' => w'.cell? ⟨w1.heap.size, 0, none⟩ = some (.slice (some ⟨tb, 0, none⟩) n sc1) ∧ w'.cell? ⟨w1.heap.size, 1, none⟩ = some (.slice (some ⟨tc, 0, none⟩) n sc2))
      (first | exact HK.out _ (HUP.out _ K0) | exact HK.out _ (HUP.out _ K3) | exact HK.out _ (HUP.out _ K4) | exact HK.out _ K5)
      (first
        | (go_at_call 43; (with_reducible refine (c_l01Next b n _ HSrc.out hnI hbI).mono ?_); rintro e w3 ⟨x, rfl, x0, x1, hd3⟩; obtain ⟨X, rfl⟩ : ∃ X : Nat, x = X := ⟨x.toNat, by omega⟩; have K3 := K0.trans (keep_mono hd3.2 (T := fun j => j = b ∨ w2.heap.size ≤ j) (fun x hx => .inl hx)); have HD3 := Lib.hid (HDw.out.trans hd3); have HSrc3 := Lib.hid hd3.1; have HF3 := Lib.hid (hd3.blk HFw.out (by omega)); have HSA3 := Lib.hid (HSAw.out.drew hd3 (by omega)); obtain ⟨zd0, zd1⟩ := HK.out _ (HUP.out _ K3); have hXn : X < n := (by omega); clear hd3)
        | (go_at_call 79; (with_reducible refine (c_l01DrawP b n _ HSrc3.out hn1 (by omega)).mono ?_); rintro e w4 ⟨r, p, rfl, hpl, hpp, hop, hd4⟩; obtain ⟨ra, rc, hr, -⟩ := hop.shape; rw [hpl] at hr; subst hr; have hsz3 := K3.size; have K4 := K3.trans (keep_mono hd4.2 (T := fun j => j = b ∨ w2.heap.size ≤ j) (fun x hx => .inl hx)); have HD4 := Lib.hid (HD3.out.trans hd4); have HF4 := Lib.hid (hd4.blk HF3.out (by omega)); have HSA4 := Lib.hid (HSA3.out.drew hd4 (by omega)); obtain ⟨ze0, ze1⟩ := HK.out _ (HUP.out _ K4); obtain ⟨xa, xc, hcell, hfrz, -⟩ := HSA4.out.1.cellAt X (by rw [HN.out.1]; exact hXn); have HPut := Lib.hid (HSA4.out.putS HW.out.1 HW.out.2 hcell (hop.wr.mono (show w.heap.size + 1 ≤ _ by have := HSA3.out; have := HF3.out.lt; omega)) (by rw [hpl]; exact Nat.le_refl _)); have K5 := (HUP.out _ K4).setCell (p := ⟨tb, X, none⟩) (.inl (.inr (.inr ⟨tb1, htb⟩))) (.slice ra n rc); clear hd4 hpp hop))
    all_goals
      rename_i hHz
      clear hHz
      obtain ⟨Y, Z, hYl, hput⟩ := HPut.out
      have HP := Lib.hid hput; have HYl := Lib.hid (show Y.length ≤ 101 by rw [hYl, HN.out.1]; omega)
      have HD6 := Lib.hid (drew_set HD4.out (p := ⟨tb, X, none⟩) (show w.heap.size ≤ tb by omega) (show b < tb by omega) (.slice ra n rc))
      obtain ⟨y0, y1⟩ := HK.out _ K5
      obtain ⟨z0, z1, -, -⟩ := two_cells (HF4.out.other (a := ⟨tb, X, none⟩) (show w.heap.size ≠ tb by omega) (.slice ra n rc))
      obtain ⟨-, -, x4, x5⟩ := two_cells HF4.out
      clear hput hYl
      go_wp2
      exact bodyPost_ret (v := .agg #[.slice (some ⟨tb, 0, none⟩) n sc1, .slice (some ⟨tc, 0, none⟩) n sc2]) (by simp [results, Try.results41, go_sem, z0, z1]) rfl (spoil_end HP.out.rd (Nat.lt_succ_self _) hbl HYl.out HD6.out)
  have s0 : (kd == 0) = false := by simp [e0]
  by_cases e1 : kd = 1
  · subst e1
    obtain ⟨zc0, zc1⟩ := HK.out _ (HUP.out _ K0)
    go_wp2
    have HRc : Hid (∀ w' : World, Keep (fun j => j = b ∨ w2.heap.size ≤ j) w2 w' → ∀ k : Nat, k < n → w'.cell? ⟨tc, k, none⟩ = some (.slice (some ⟨rbF k, 0, none⟩) n (rcF k))) := Lib.hid fun w' k' k hk => ((HRF.out k hk).2.2 w' k').1
    go_region_held3 (fun w' => (w'.cell? ⟨w1.heap.size, 0, none⟩ = some (.slice (some ⟨tb, 0, none⟩) n sc1) ∧ w'.cell? ⟨w1.heap.size, 1, none⟩ = some (.slice (some ⟨tc, 0, none⟩) n sc2)) ∧ ∀ k : Nat, k < n → w'.cell? ⟨tc, k, none⟩ = some (.slice (some ⟨rbF k, 0, none⟩) n (rcF k)))
      (first | exact ⟨HK.out _ (HUP.out _ K0), HRc.out _ K0⟩ | exact ⟨HK.out _ (HUP.out _ K3), HRc.out _ K3⟩)
      ((go_at_call 43; (with_reducible refine (c_l01Next b n _ HSrc.out hnI hbI).mono ?_); rintro e w3 ⟨x, rfl, x0, x1, hd3⟩; obtain ⟨X, rfl⟩ : ∃ X : Nat, x = X := ⟨x.toNat, by omega⟩; have K3 := K0.trans (keep_mono hd3.2 (T := fun j => j = b ∨ w2.heap.size ≤ j) (fun x hx => .inl hx)); have HD3 := Lib.hid (HDw.out.trans hd3); have HSrc3 := Lib.hid hd3.1; have HF3 := Lib.hid (hd3.blk HFw.out (by omega)); have HSA3 := Lib.hid (HSAw.out.drew hd3 (by omega)); obtain ⟨zd0, zd1⟩ := HK.out _ (HUP.out _ K3); have hXn : X < n := (by omega); have zx := HRc.out _ K3 X hXn; clear hd3))
    all_goals
      rename_i hHz
      clear hHz
      obtain ⟨rb1, rb0, hrow⟩ := HRF.out X hXn
      have HRw := Lib.hid hrow
      clear hrow
      obtain ⟨rb, hrb⟩ : ∃ rb, rbF X = rb := ⟨_, rfl⟩
      obtain ⟨rc, hrc⟩ : ∃ rc, rcF X = rc := ⟨_, rfl⟩
      rw [hrb] at rb1 rb0
      rw [hrb, hrc] at HRw
      go_wp2_with fail
      refine (c_l01Next b n _ HSrc3.out hnI hbI).mono ?_; rintro e w4 ⟨y, rfl, y0, y1, hd4⟩
      obtain ⟨Y, rfl⟩ : ∃ Y : Nat, y = Y := ⟨y.toNat, by omega⟩
      have K4 := K3.trans (keep_mono hd4.2 (T := fun j => j = b ∨ w2.heap.size ≤ j) (fun x hx => .inl hx))
      have HD4 := Lib.hid (HD3.out.trans hd4); have HF4 := Lib.hid (hd4.blk HF3.out (by omega)); have HSA4 := Lib.hid (HSA3.out.drew hd4 (by omega))
      clear hd4 zx zd0 zd1
      go_wp2_with fail
      refine (c_l01Next b n _ HD4.out.1 hnI hbI).mono ?_; rintro e w5 ⟨t, rfl, t0, t1, hd5⟩
      have K5 := K4.trans (keep_mono hd5.2 (T := fun j => j = b ∨ w2.heap.size ≤ j) (fun x hx => .inl hx))
      have HD5 := Lib.hid (HD4.out.trans hd5); have HF5 := Lib.hid (hd5.blk HF4.out (by omega)); have HSA5 := Lib.hid (HSA4.out.drew hd5 (by omega))
      have hYn : Y < n := by omega
      obtain ⟨hcell, hfrz⟩ := (HRw.out _ K5).2.cellAt Y (by rw [HRB.out X hXn]; exact hYn)
      obtain ⟨Y', Z', hYl, hput⟩ := HSA5.out.putI HW.out.1 HW.out.2 hcell t
      have HP := Lib.hid hput; have HYl := Lib.hid (show Y'.length ≤ 101 by rw [hYl, HN.out.1]; omega)
      have HD6 := Lib.hid (drew_set HD5.out (p := ⟨rb, Y, none⟩) (show w.heap.size ≤ rb by omega) (show b < rb by omega) (.int .i64 t))
      have K6 := (HUP.out _ K5).setCell (p := ⟨rb, Y, none⟩) (.inl (.inr (.inr ⟨rb1, rb0⟩))) (.int .i64 t)
      obtain ⟨y0, y1⟩ := HK.out _ K6
      obtain ⟨z0, z1, -, -⟩ := two_cells (HF5.out.other (a := ⟨rb, Y, none⟩) (show w.heap.size ≠ rb by omega) (.int .i64 t))
      obtain ⟨-, -, x4, x5⟩ := two_cells HF5.out
      clear hput hYl hd5
      go_wp2
      exact bodyPost_ret (v := .agg #[.slice (some ⟨tb, 0, none⟩) n sc1, .slice (some ⟨tc, 0, none⟩) n sc2]) (by simp [results, Try.results41, go_sem, z0, z1]) rfl (spoil_end HP.out.rd (Nat.lt_succ_self _) hbl HYl.out HD6.out)
  have s1 : (kd == 1) = false := by simp [e1]
  by_cases e2 : kd = 2
  · subst e2
    go_wp2_with fail
    refine (c_l01Tables b n _ HD2.out.1 hn1 (by omega)).mono ?_; rintro e w3 ⟨r3, X, rfl, hXl, hXr, hor, hd3⟩
    obtain ⟨ra, rc, hr, -⟩ := OwnRows.shape' hor
    rw [hXl] at hr
    subst hr
    have HO3 := Lib.hid hor.wr; have HD3 := Lib.hid (HD2.out.trans hd3); have HX := Lib.hid (show X.length ≤ 101 by omega)
    have HF3 := Lib.hid (hd3.blk HF2.out (by omega)); have HBX3 := Lib.hid (hd3.blk HBX2.out (by omega))
    have hw3 : w2.heap.size ≤ w3.heap.size := hd3.2.size
    clear hor hd3 hXl hXr
    go_wp2_with fail
    refine (c_l01Tables b n _ HD3.out.1 hn1 (by omega)).mono ?_; rintro e w4 ⟨r4, X2, rfl, hXl, hXr, hor, hd4⟩
    obtain ⟨ra4, rc4, hr, -⟩ := OwnRows.shape' hor
    rw [hXl] at hr
    subst hr
    have HO4 := Lib.hid (hor.wr.mono hw3); have HD4 := Lib.hid (HD3.out.trans hd4)
    have HO34 := Lib.hid (drew_w hd4 HO3.out (by omega))
    have HF4 := Lib.hid (hd4.blk HF3.out (by omega)); have HBX4 := Lib.hid (hd4.blk HBX3.out (by omega))
    clear hor hd4 hXl hXr
    obtain ⟨x0, x1, x2, x3⟩ := two_cells HBX4.out
    obtain ⟨-, -, x4, x5⟩ := two_cells HF4.out
    have HBX5 := Lib.hid ((HBX4.out.set 0 (.slice ra n rc)).set 1 (.slice ra4 n rc4))
    have kz : Keep (fun x => x = w1.heap.size) w4 ((w4.setCell ⟨w1.heap.size, 0, none⟩ (.slice ra n rc)).setCell ⟨w1.heap.size, 1, none⟩ (.slice ra4 n rc4)) := keep_early _ _ _ _
    obtain ⟨z0, z1, -, -⟩ := two_cells (HF4.out.of_block (kz.block w.heap.size HF4.out.lt (by omega)))
    obtain ⟨y0, y1, -, -⟩ := two_cells HBX5.out
    have HD6 := Lib.hid (drew_set (drew_set HD4.out (p := ⟨w1.heap.size, 0, none⟩) (show w.heap.size ≤ w1.heap.size by omega) (show b < w1.heap.size by omega) (.slice ra n rc)) (p := ⟨w1.heap.size, 1, none⟩) (show w.heap.size ≤ w1.heap.size by omega) (show b < w1.heap.size by omega) (.slice ra4 n rc4))
    have HRd := Lib.hid (RdS.keep (v1 := .slice ra n rc) (v2 := .slice ra4 n rc4) ⟨HO34.out.rd, HO4.out.rd⟩ kz (fun x hx _ e => by have e : x = w1.heap.size := e; omega))
    have hwq : w.heap.size < w2.heap.size := by omega
    clear kz HBX5 HBX4 HBX3 HBX2 HF2 HF3
    go_wp2
    exact bodyPost_ret (v := .agg #[.slice ra n rc, .slice ra4 n rc4]) (by simp [results, Try.results41, go_sem, z0, z1]) rfl (spoil_end HRd.out hwq hbl HX.out HD6.out)
  have s2 : (kd == 2) = false := by simp [e2]
  by_cases e3 : kd = 3
  · subst e3
    go_wp2_with fail
    refine (c_l01Bad b n _ HD2.out.1 hn1 (by omega)).mono ?_; rintro e w3 ⟨r3, X, rfl, hXl, hXr, hor, hd3⟩
    obtain ⟨ra, rc, hr⟩ := hor.isSlice
    subst hr
    have HO3 := Lib.hid hor; have HD3 := Lib.hid (HD2.out.trans hd3); have HX := Lib.hid hXl
    have HF3 := Lib.hid (hd3.blk HF2.out (by omega)); have HBX3 := Lib.hid (hd3.blk HBX2.out (by omega))
    have K3 := HKW2.out.trans (keep_mono hd3.2 (T := fun k => k = b ∨ w1.heap.size ≤ k) (fun x h => .inl h))
    have K9 := K3.setCell (p := ⟨w1.heap.size, 1, none⟩) (.inl (.inr (Nat.le_refl _))) (.slice ra X.length rc)
    have HO9 := Lib.hid ((HO3.out.rd.keep ((Keep.refl (fun x => x = w1.heap.size) w3).setCell (p := ⟨w1.heap.size, 1, none⟩) (.inl rfl) (.slice ra X.length rc)) (fun x hx _ e => by have e : x = w1.heap.size := e; omega)).mono (show w.heap.size + 1 ≤ w2.heap.size by omega))
    have HRd : Hid (RdS (w.heap.size + 1) (w3.setCell ⟨w1.heap.size, 1, none⟩ (.slice ra X.length rc)) (.slice (some ⟨tb, 0, none⟩) n sc1) (.slice ra X.length rc) _ _) := Lib.hid ⟨HRd1.out.1.keep K9 (fun x hx h2 e => by rcases e with e | e <;> omega), HO9.out⟩
    have HD6 := Lib.hid (drew_set HD3.out (p := ⟨w1.heap.size, 1, none⟩) (show w.heap.size ≤ w1.heap.size by omega) (show b < w1.heap.size by omega) (.slice ra X.length rc))
    have HLn := Lib.hid (show A.length ≤ 101 by rw [HN.out.1]; omega)
    obtain ⟨x0, x1, x2, x3⟩ := two_cells HBX3.out
    obtain ⟨-, -, x4, x5⟩ := two_cells HF3.out
    obtain ⟨y0, y1, -, -⟩ := two_cells (HBX3.out.set 1 (.slice ra X.length rc))
    obtain ⟨z0, z1, -, -⟩ := two_cells (HF3.out.other (a := ⟨w1.heap.size, 1, none⟩) (show w.heap.size ≠ w1.heap.size by omega) (.slice ra X.length rc))
    clear hor hd3 hXl hXr K3 K9
    go_wp2
    exact bodyPost_ret (v := .agg #[.slice (some ⟨tb, 0, none⟩) n sc1, .slice ra X.length rc]) (by simp [results, Try.results41, go_sem, z0, z1]) rfl (spoil_end HRd.out (Nat.lt_succ_self _) hbl HLn.out HD6.out)
  have s3 : (kd == 3) = false := by simp [e3]
  by_cases e4 : kd = 4
  · subst e4
    go_wp2_with fail
    refine (c_l01Bad b n _ HD2.out.1 hn1 (by omega)).mono ?_; rintro e w3 ⟨r3, X, rfl, hXl, hXr, hor, hd3⟩
    obtain ⟨ra, rc, hr⟩ := hor.isSlice
    subst hr
    have HO3 := Lib.hid hor; have HD3 := Lib.hid (HD2.out.trans hd3); have HX := Lib.hid hXl
    have HF3 := Lib.hid (hd3.blk HF2.out (by omega)); have HBX3 := Lib.hid (hd3.blk HBX2.out (by omega))
    have K3 := HKW2.out.trans (keep_mono hd3.2 (T := fun k => k = b ∨ w1.heap.size ≤ k) (fun x h => .inl h))
    have K9 := K3.setCell (p := ⟨w1.heap.size, 0, none⟩) (.inl (.inr (Nat.le_refl _))) (.slice ra X.length rc)
    have HO9 := Lib.hid ((HO3.out.rd.keep ((Keep.refl (fun x => x = w1.heap.size) w3).setCell (p := ⟨w1.heap.size, 0, none⟩) (.inl rfl) (.slice ra X.length rc)) (fun x hx _ e => by have e : x = w1.heap.size := e; omega)).mono (show w.heap.size + 1 ≤ w2.heap.size by omega))
    have HRd : Hid (RdS (w.heap.size + 1) (w3.setCell ⟨w1.heap.size, 0, none⟩ (.slice ra X.length rc)) (.slice ra X.length rc) (.slice (some ⟨tc, 0, none⟩) n sc2) _ _) := Lib.hid ⟨HO9.out, HRd1.out.2.keep K9 (fun x hx h2 e => by rcases e with e | e <;> omega)⟩
    have HD6 := Lib.hid (drew_set HD3.out (p := ⟨w1.heap.size, 0, none⟩) (show w.heap.size ≤ w1.heap.size by omega) (show b < w1.heap.size by omega) (.slice ra X.length rc))
    have HLn := Lib.hid HX.out
    obtain ⟨x0, x1, x2, x3⟩ := two_cells HBX3.out
    obtain ⟨-, -, x4, x5⟩ := two_cells HF3.out
    obtain ⟨y0, y1, -, -⟩ := two_cells (HBX3.out.set 0 (.slice ra X.length rc))
    obtain ⟨z0, z1, -, -⟩ := two_cells (HF3.out.other (a := ⟨w1.heap.size, 0, none⟩) (show w.heap.size ≠ w1.heap.size by omega) (.slice ra X.length rc))
    clear hor hd3 hXl hXr K3 K9
    go_wp2
    exact bodyPost_ret (v := .agg #[.slice ra X.length rc, .slice (some ⟨tc, 0, none⟩) n sc2]) (by simp [results, Try.results41, go_sem, z0, z1]) rfl (spoil_end HRd.out (Nat.lt_succ_self _) hbl HLn.out HD6.out)
  have s4 : (kd == 4) = false := by simp [e4]
  obtain ⟨x0, x1, -, -⟩ := two_cells HBX2.out
  obtain ⟨z0, z1, x4, x5⟩ := two_cells HF2.out
  have HYl := Lib.hid (show A.length ≤ 101 by rw [HN.out.1]; omega)
  go_wp2
  exact bodyPost_ret (v := .agg #[.slice (some ⟨tb, 0, none⟩) n sc1, .slice (some ⟨tc, 0, none⟩) n sc2]) (by simp [results, Try.results41, go_sem, z0, z1]) rfl (spoil_end HSA2.out.rd (Nat.lt_succ_self _) hbl HYl.out HD2.out)


end Go.Proofs.Ytkghonhghbcdlaa

namespace Go.Proofs.Ytkghonhghbcdlaa
set_option linter.unusedVariables false
set_option linter.unusedSimpArgs false
open Go Go.RowKit

set_option maxHeartbeats 800000 in
theorem c_hasRow5 (v1 v2 : Value) (xs : List (List Int)) (ys : List Int) (w : World) (hx : Rows w v1 xs) (hy : Ints w v2 ys) :
    Calls Try.prog 38 #[v1, v2] w (RVal w (.bool (decide (ys ∈ xs)))) := by
  obtain ⟨a, c, rfl, hc, hm⟩ := hx.shape
  obtain ⟨a2, c2, rfl, hc2, hm2⟩ := hy.shape
  go_enter Try.func38, Try.ntmps38
  go_wp2
  go_loopw [5] (fun i wr => ∃ k : Nat, k ≤ xs.length ∧ i = .int .i64 k ∧ Hid (Below w.heap.size w wr) ∧ Hid (ys ∉ xs.take k)) (fun i _ => xs.length - (intOf i).toNat)
  case atStart => exact ⟨0, Nat.zero_le _, rfl, Lib.hid (Below.refl _ _), Lib.hid (by simp)⟩
  case round =>
    obtain ⟨k, hk, rfl, HB, HT⟩ := hrel
    obtain ⟨wo, rfl⟩ : ∃ wo : World, wo = wr := ⟨_, rfl⟩
    by_cases hlt : k < xs.length
    · obtain ⟨b, o, u1, u2, rfl, hcell, hu⟩ := (hx.below HB.out).getS k hlt
      have HU := Lib.hid hu
      have HY := Lib.hid (hy.below HB.out)
      clear hu
      by_cases he : row xs k = ys
      · have hd : decide (row xs k = ys) = true := by simp [he]
        have HD := Lib.hid hd
        have HE := Lib.hid he; clear he
        go_wp2_with fail
        refine (c_likeInts _ _ (row xs k) ys _ HU.out HY.out).mono ?_; rintro e w2 ⟨rfl, hb⟩
        rw [HD.out]
        have HB2 := Lib.hid (bb HB.out (below_of_drewN hb))
        clear hb
        go_wp2
        go_ret
        refine ⟨ret_bool ?_, HB2.out⟩
        rw [← HE.out]
        simp [row_mem (t := xs) (x := (k : Int)) (by omega) (by omega)]
      · have hd : decide (row xs k = ys) = false := by simp [he]
        have HD := Lib.hid hd
        have HE := Lib.hid he; clear he
        go_wp2_with fail
        refine (c_likeInts _ _ (row xs k) ys _ HU.out HY.out).mono ?_; rintro e w2 ⟨rfl, hb⟩
        rw [HD.out]
        have HB2 := Lib.hid (bb HB.out (below_of_drewN hb))
        clear hb
        go_wp2
        go_roundw
        case rel => exact ⟨k + 1, by omega, by go_num, HB2, Lib.hid (by
          rw [take_snoc_row _ _ hlt]
          intro h
          rcases List.mem_append.1 h with h | h
          · exact HT.out h
          · simp at h; exact HE.out h.symm)⟩
        case measure => simp [intOf]; omega
    · go_wp2
      go_ret
      refine ⟨ret_bool ?_, HB.out⟩
      have h := HT.out
      rw [List.take_of_length_le (by omega)] at h
      simp [h]

/-- The length of a slice's value. -/
def lenV : Value → Nat
  | .slice _ n _ => n
  | _ => 0
theorem c_l01UnitI (N : Int) (n : Nat) (hN : N = n) (w : World) (hn : n ≤ 1048576) :
    Calls Try.prog 99 #[.int .i64 N] w (RInts w (iota n)) := by
  subst hN
  exact c_l01Unit n w hn
/-- What the draw of a system leaves. -/
def RGr2 (b : Nat) (w : World) (e : Ending) (w' : World) : Prop :=
  ∃ (n : Int) (r : Value) (L : List (List Int)), e = .returned (.tuple #[.int .i64 n, r]) ∧ (-1 ≤ n ∧ n ≤ 1000) ∧ OwnRows w.heap.size w' r L ∧ Drew b w w'
set_option maxRecDepth 100000 in
set_option maxHeartbeats 4000000 in
theorem c_l01Group2 (b m : Nat) (w : World) (hs : Src w b) (h1 : 1 ≤ m) (h2 : m ≤ 100) :
    Calls Try.prog 73 #[.pointer (some ⟨b, 0, none⟩), .int .i64 m] w (RGr2 b w) := by
  have hbl := hs.lt
  have HS0 := Lib.hid hs
  clear hs
  go_enter Try.func73, Try.ntmps73
  have HB0 : Hid (Below w.heap.size w (w.alloc (.cells #[] 27))) := Lib.hid ((Below.refl _ _).alloc (Nat.le_refl _) _)
  go_wp2_with fail
  refine (c_l01Next b m _ HS0.out (by omega) (by omega)).mono ?_; rintro e w1 ⟨n0, rfl, n1, n2, hd1⟩
  obtain ⟨N, hN⟩ : ∃ N : Nat, 1 + n0 = (N : Int) := ⟨(1 + n0).toNat, by omega⟩
  have hN1 : 1 ≤ N ∧ N ≤ 100 := by omega
  have HD1 := Lib.hid (hd1.under ((Below.refl w1.heap.size w1).alloc (Nat.le_refl _) (.cells #[] 27)))
  have HO1 := Lib.hid ((OwnRows.made0 w1 (Nat.le_refl w1.heap.size)).mono hd1.2.size)
  clear hd1 HB0
  go_wp2_with fail
  refine (c_l01Next b 4 _ HD1.out.1 (by omega) (by omega)).mono ?_; rintro e w2 ⟨k0, rfl, k1, k2, hd2⟩
  obtain ⟨K, rfl⟩ : ∃ K : Nat, k0 = K := ⟨k0.toNat, by omega⟩
  have HD2 := Lib.hid (HD1.out.trans hd2)
  have HO2 := Lib.hid (HO1.out.keep hd2.2 (fun x h1 h2 e => by have e : x = b := e; omega))
  clear hd2 hN n1 n2
  go_wp2
  go_loopw [7, 8] (fun t x wr => ∃ (j l : Nat) (X : List (List Int)) (ta : Option Addr) (tc : Nat), l + j ≤ 3 ∧ x = .int .i64 j ∧ t = .slice ta l tc ∧ Hid (X.length = l) ∧ Hid (OwnRows w.heap.size wr (.slice ta l tc) X) ∧ Hid (Drew b w wr)) (fun _ x _ => (intOf x).toNat)
  case atStart => exact ⟨K, 0, [], _, _, by omega, rfl, rfl, Lib.hid rfl, HO2, HD2⟩
  case round =>
    clear HO2 HD2 HO1 HD1
    obtain ⟨j, l, X, ta, tc, hjl, rfl, rfl, HX, HO, HDr⟩ := hrel
    obtain ⟨wo, rfl⟩ : ∃ wo : World, wo = wr := ⟨_, rfl⟩
    have hwo : w.heap.size ≤ wo.heap.size := HDr.out.2.size
    by_cases hj : 0 < j
    · go_wp2_with fail
      refine (c_l01Draw b N _ HDr.out.1 (by omega) (by omega)).mono ?_; rintro e w3 ⟨rr, ys, rfl, hyl, hor, hd3⟩
      obtain ⟨ra, rc, hv, -, -⟩ := hor.ints.shape
      rw [hyl] at hv
      subst hv
      have HDi := Lib.hid (HDr.out.trans hd3)
      have HRI := Lib.hid (HO.out.inn.keep hd3.2 (fun x h1 h2 e => by have e : x = b := e; omega))
      have HOr := Lib.hid hor
      have HSz : Hid (wo.heap.size ≤ w3.heap.size ∧ w.heap.size ≤ w3.heap.size) := Lib.hid ⟨hd3.2.size, by have := hd3.2.size; omega⟩
      clear hor hd3 hyl HO HDr
      go_wp2_with (at_builtin; refine wpList_app_row2 w.heap.size wo.heap.size w3 _ X _ ys _ _ rfl rfl rfl HRI.out HOr.out rfl (by have := HX.out; omega) (by have := hwo; omega) HSz.out.2 ?_; intro ga gc w9 hown hkeep hor; have HOwn := Lib.hid hown; have HKp := Lib.hid hkeep; clear hown hkeep hor)
      go_roundw
      case rel =>
        have hX := HX.out
        exact ⟨j - 1, l + 1, X ++ [ys], some ⟨ga, 0, none⟩, gc, by omega, by go_num, by rw [hX], Lib.hid (by simp [hX]), Lib.hid (by have h := HOwn.out; rw [hX] at h; exact h), Lib.hid (drew_app HDi.out HRI.out.out HKp.out hbl)⟩
      case measure => simp [intOf]; omega
    · obtain rfl : j = 0 := by omega
      have hl3 : l ≤ 3 := by omega
      go_wp2_with fail
      refine (c_l01Next b 30 _ HDr.out.1 (by omega) (by omega)).mono ?_; rintro e w4 ⟨kd, rfl, q0, q1, hd4⟩
      have HD4 := Lib.hid (HDr.out.trans hd4)
      have HO4 := Lib.hid (HO.out.keep hd4.2 (fun x h1 h2 e => by have e : x = b := e; omega))
      have hw4 : w.heap.size ≤ w4.heap.size := HD4.out.2.size
      clear hd4 HO HDr
      by_cases e0 : kd = 0
      · subst e0
        go_wp2_with fail
        refine (c_l01UnitI _ (N + 1) (by omega) _ (by omega)).mono ?_; rintro e w5 ⟨ru, rfl, hou, hb5⟩
        obtain ⟨ua, uc, hu, -, -⟩ := hou.ints.shape
        rw [iota_length] at hu
        subst hu
        have HRI := Lib.hid (HO4.out.inn.under hb5); have HU := Lib.hid hou; have HD5 := Lib.hid (HD4.out.under hb5)
        have HSz : Hid (w.heap.size ≤ w4.heap.size ∧ w.heap.size ≤ w5.heap.size) := Lib.hid ⟨hw4, by have := hb5.size; omega⟩
        clear hou hb5
        go_wp2_with (at_builtin; refine wpList_app_row2 w.heap.size w4.heap.size w5 _ X _ (iota (N + 1)) _ _ rfl rfl rfl HRI.out HU.out rfl (by have := HX.out; omega) HSz.out.1 HSz.out.2 ?_; intro ga gc w9 hown hkeep hor; have HOwn := Lib.hid hown; have HKp := Lib.hid hkeep; clear hown hkeep hor)
        go_ret2
        exact ⟨_, _, X ++ [iota (N + 1)], rfl, by omega, HOwn.out, drew_app HD5.out HRI.out.out HKp.out hbl⟩
      have z0 : (kd == 0) = false := by simp [e0]
      by_cases e1 : kd = 1
      · subst e1
        have hbel : Below w4.heap.size w4 (w4.alloc (.cells #[.int .i64 (-1), .int .i64 0, .int .i64 13, .int .i64 ((N : Int) + 1)] 2)) := (Below.refl _ _).alloc (Nat.le_refl _) _
        have HD5 := Lib.hid (HD4.out.under hbel)
        have HO5 := Lib.hid (HO4.out.under hbel)
        have hlt := HD4.out.1.lt
        have hown : Own w4.heap.size (w4.alloc (.cells #[.int .i64 (-1), .int .i64 0, .int .i64 13, .int .i64 ((N : Int) + 1)] 2)) (.slice (some ⟨w4.heap.size, 0, none⟩) 4 4) [-1, 0, 13, (N : Int) + 1] :=
          Own.shut (cs := []) (by simpa using Blk.new w4 [.int .i64 (-1), .int .i64 0, .int .i64 13, .int .i64 ((N : Int) + 1)] 2) (Nat.le_refl _) (by simp [maxLen]) (by simp) (by simp)
        have HW := Lib.hid hown
        clear hbel hown
        go_wp2_with fail
        refine (c_l01Pick b w4.heap.size _ [-1, 0, 13, (N : Int) + 1] _ HD5.out.1 HW.out hlt (by simp) (by simp)).mono ?_; rintro e w6 ⟨x, rfl, hx, hd6⟩
        have HD6 := Lib.hid (HD5.out.trans hd6)
        have HO6 := Lib.hid (HO5.out.keep hd6.2 (fun x h1 h2 e => by have e : x = b := e; omega))
        have hxr : -1 ≤ x ∧ x ≤ 1000 := by simp at hx; omega
        have HXr := Lib.hid hxr
        clear hx hd6 hxr
        go_wp2
        go_ret2
        exact ⟨_, _, X, rfl, HXr.out, HO6.out, HD6.out⟩
      have z1 : (kd == 1) = false := by simp [e1]
      by_cases e2 : kd = 2
      · subst e2
        go_wp2
        go_loopw [7] (fun t wr => ∃ (l : Nat) (X : List (List Int)) (ta : Option Addr) (tc : Nat), l ≤ 17 ∧ t = .slice ta l tc ∧ Hid (X.length = l) ∧ Hid (OwnRows w.heap.size wr (.slice ta l tc) X) ∧ Hid (Drew b w wr)) (fun t _ => 17 - lenV t)
        case atStart => exact ⟨l, X, _, _, by omega, rfl, HX, HO4, HD4⟩
        case round =>
          clear HX HO4 HD4 hl3 hjl
          obtain ⟨l, X, ta, tc, hl, rfl, HX, HO, HDr⟩ := hrel
          obtain ⟨wo, rfl⟩ : ∃ wo : World, wo = wr := ⟨_, rfl⟩
          have hwo : w.heap.size ≤ wo.heap.size := HDr.out.2.size
          by_cases hlt : l < 17
          · go_wp2_with fail
            refine (c_l01Unit N _ (by omega)).mono ?_; rintro e w5 ⟨ru, rfl, hou, hb5⟩
            obtain ⟨ua, uc, hu, -, -⟩ := hou.ints.shape
            rw [iota_length] at hu
            subst hu
            have HRI := Lib.hid (HO.out.inn.under hb5); have HU := Lib.hid hou; have HD5 := Lib.hid (HDr.out.under hb5)
            have HSz : Hid (w.heap.size ≤ wo.heap.size ∧ w.heap.size ≤ w5.heap.size) := Lib.hid ⟨hwo, by have := hb5.size; omega⟩
            clear hou hb5 HO HDr
            go_wp2_with (at_builtin; refine wpList_app_row2 w.heap.size wo.heap.size w5 _ X _ (iota N) _ _ rfl rfl rfl HRI.out HU.out rfl (by have := HX.out; omega) HSz.out.1 HSz.out.2 ?_; intro ga gc w9 hown hkeep hor; have HOwn := Lib.hid hown; have HKp := Lib.hid hkeep; clear hown hkeep hor)
            go_roundw
            case rel =>
              have hX := HX.out
              exact ⟨l + 1, X ++ [iota N], some ⟨ga, 0, none⟩, gc, by omega, by rw [hX], Lib.hid (by simp [hX]), Lib.hid (by have h := HOwn.out; rw [hX] at h; exact h), Lib.hid (drew_app HD5.out HRI.out.out HKp.out hbl)⟩
            case measure => simp [lenV]; have := HX.out; omega
          · go_wp2
            go_ret2
            exact ⟨_, _, X, rfl, by omega, HO.out, HDr.out⟩
      have z2 : (kd == 2) = false := by simp [e2]
      go_wp2
      go_ret2
      exact ⟨_, _, X, rfl, by omega, HO4.out, HD4.out⟩

set_option maxRecDepth 100000 in
set_option maxHeartbeats 1600000 in
theorem c_DrawGroup (v : Value) (n : Nat) (w : World) (hv : BytesR w v n) (hn : n ≤ 4096) :
    Calls Try.prog 31 #[v] w (fun e w' => ∃ (k : Int) (r : Value) (L : List (List Int)), e = .returned (.tuple #[.int .i64 k, r]) ∧ (-1 ≤ k ∧ k ≤ 1000) ∧ Rows w' r L ∧ Below w.heap.size w w') := by
  have HV := Lib.hid hv
  obtain ⟨a, c, hva, -⟩ := hv
  subst hva
  go_enter Try.func31, Try.ntmps31
  go_wp2_with fail
  refine (c_l01From _ n _ HV.out hn).mono ?_; rintro e w1 ⟨b, rfl, hwb, hs, hb1⟩
  have HS := Lib.hid hs; have HB1 := Lib.hid hb1
  have hbel : Below w1.heap.size w1 (w1.alloc (.cells #[.int .i64 4, .int .i64 5, .int .i64 6, .int .i64 7] 2)) := (Below.refl _ _).alloc (Nat.le_refl _) _
  have HD2 := Lib.hid ((Drew.refl hs).under hbel)
  have hlt := hs.lt
  have hown : Own w1.heap.size (w1.alloc (.cells #[.int .i64 4, .int .i64 5, .int .i64 6, .int .i64 7] 2)) (.slice (some ⟨w1.heap.size, 0, none⟩) 4 4) [4, 5, 6, 7] :=
    Own.shut (cs := []) (by simpa using Blk.new w1 [.int .i64 4, .int .i64 5, .int .i64 6, .int .i64 7] 2) (Nat.le_refl _) (by simp [maxLen]) (by simp) (by simp)
  have HW := Lib.hid hown
  clear hbel hown hs hb1
  go_wp2_with fail
  refine (c_l01Pick b w1.heap.size _ [4, 5, 6, 7] _ HD2.out.1 HW.out hlt (by simp) (by simp)).mono ?_; rintro e w2 ⟨x, rfl, hx, hd⟩
  obtain ⟨m, rfl⟩ : ∃ m : Nat, x = m := ⟨x.toNat, by simp at hx; omega⟩
  have hm : 1 ≤ m ∧ m ≤ 100 := by simp at hx; omega
  have HD3 := Lib.hid (HD2.out.trans hd)
  clear hx hd
  go_wp2_with fail
  refine (c_l01Group2 b m _ HD3.out.1 hm.1 hm.2).mono ?_; rintro e w3 ⟨k, r, L, rfl, hk, ho, hd⟩
  obtain ⟨ra, rc, hr, hrows⟩ := OwnRows.shape' ho
  subst hr
  have HR := Lib.hid hrows; have HB := Lib.hid ((HD3.out.trans hd).below HB1.out hwb HB1.out.size)
  clear ho hd hrows
  go_wp2
  go_ret2
  exact ⟨k, _, L, rfl, hk, HR.out, HB.out⟩
end Go.Proofs.Ytkghonhghbcdlaa

namespace Go.Proofs.Ytkghonhghbcdlaa
set_option linter.unusedVariables false
set_option linter.unusedSimpArgs false
open Go Go.RowKit

set_option maxRecDepth 100000 in
set_option maxHeartbeats 1600000 in
theorem c_DrawProduct (v : Value) (n : Nat) (w : World) (hv : BytesR w v n) (hn : n ≤ 4096) :
    Calls Try.prog 16 #[v] w (fun e w' => ∃ (v1 v2 v3 v4 : Value) (A B C D : List (List Int)), e = .returned (.tuple #[.agg #[v1, v2], .agg #[v3, v4]]) ∧ Sol w' v1 v2 A B ∧ Sol w' v3 v4 C D ∧ Below w.heap.size w w') := by
  obtain ⟨HF0, HG0, HB0, hsz⟩ := boxes2 w [.slice none 0 0, .slice none 0 0] [.slice none 0 0, .slice none 0 0] 26 26
  have HV := Lib.hid (hv.below HB0); have HF := Lib.hid HF0; have HG := Lib.hid HG0; have HB := Lib.hid HB0
  obtain ⟨a, c, hva, -⟩ := hv
  subst hva
  clear HF0 HG0 HB0
  go_enter Try.func16, Try.ntmps16
  go_wp2_with fail
  refine (c_l01From _ n _ HV.out hn).mono ?_; rintro e w1 ⟨b, rfl, hwb, hs, hb1⟩
  have HS := Lib.hid hs; have HB1 := Lib.hid (below_under HB.out (by rw [hsz]; omega) hb1); have HF1 := Lib.hid (HF.out.under hb1); have HG1 := Lib.hid (HG.out.under hb1)
  have hs1 : w.heap.size + 1 + 1 ≤ w1.heap.size := by have := hb1.size; rw [hsz] at this; exact this
  rw [hsz] at hwb
  clear hs hb1 HV hsz HB HF HG
  go_wp2_with fail
  refine (c_l02Spoil b 4 _ HS.out (by omega) (by omega)).mono ?_; rintro e w2 ⟨r1, r2, A, B, rfl, hrd, hl, hd⟩
  obtain ⟨sa1, sl1, sc1, hv1⟩ := hrd.sol.1.any
  obtain ⟨sa2, sl2, sc2, hv2⟩ := hrd.sol.2.any
  subst hv1 hv2
  have hba : Below w2.heap.size w2 (w2.alloc (.cells #[.slice sa1 sl1 sc1, .slice sa2 sl2 sc2] 26)) := (Below.refl _ _).alloc (Nat.le_refl _) _
  have HD2 := Lib.hid (hd.under hba); have HRd := Lib.hid (hrd.under hba)
  have HF2 := Lib.hid ((hd.blk HF1.out (by omega)).under hba); have HG2 := Lib.hid ((hd.blk HG1.out (by omega)).under hba)
  have HA2 := Lib.hid (show Blk (w2.alloc (.cells #[.slice sa1 sl1 sc1, .slice sa2 sl2 sc2] 26)) w2.heap.size 26 [.slice sa1 sl1 sc1, .slice sa2 sl2 sc2] from Blk.new w2 [.slice sa1 sl1 sc1, .slice sa2 sl2 sc2] 26)
  have hw2 : w1.heap.size ≤ w2.heap.size := hd.2.size
  have hb2 : b < w1.heap.size := HS.out.lt
  clear hrd hd hba HF1 HG1 HS
  go_wp2_with fail
  refine (c_l02Spoil b 3 _ HD2.out.1 (by omega) (by omega)).mono ?_; rintro e w3 ⟨r3, r4, C, D, rfl, hrd, hl3, hd⟩
  obtain ⟨sa3, sl3, sc3, hv1⟩ := hrd.sol.1.any
  obtain ⟨sa4, sl4, sc4, hv2⟩ := hrd.sol.2.any
  subst hv1 hv2
  have hba : Below w3.heap.size w3 (w3.alloc (.cells #[.slice sa3 sl3 sc3, .slice sa4 sl4 sc4] 26)) := (Below.refl _ _).alloc (Nat.le_refl _) _
  have HZB := Lib.hid ((hd.blk HF2.out (by omega)).under hba); have HYB := Lib.hid ((hd.blk HG2.out (by omega)).under hba)
  obtain ⟨z0, z1, z2, z3⟩ := two_cells ((hd.blk HF2.out (by omega)).under hba)
  obtain ⟨y0, y1, y2, y3⟩ := two_cells ((hd.blk HG2.out (by omega)).under hba)
  obtain ⟨a0, a1, -, -⟩ := two_cells ((hd.blk HA2.out (by omega)).under hba)
  obtain ⟨b0, b1, -, -⟩ := two_cells (Blk.new w3 [.slice sa3 sl3 sc3, .slice sa4 sl4 sc4] 26)
  have HSl := Lib.hid ((hrd.mono (show w.heap.size + 2 ≤ _ by simp; omega)).under hba)
  have HSr := Lib.hid (((HRd.out.drew hd hb2).mono (show w.heap.size + 2 ≤ _ by omega)).under hba)
  have HBw := Lib.hid (((HD2.out.trans hd).under hba).below HB1.out (by omega) (by omega))
  have hlt3 : w.heap.size + 2 ≤ w3.heap.size := by have := (HD2.out.trans hd).2.size; omega
  have hlt2 : w.heap.size + 2 ≤ w2.heap.size := by omega
  have K0 : Keep (fun k => k = w.heap.size ∨ k = w.heap.size + 1) (w3.alloc (.cells #[.slice sa3 sl3 sc3, .slice sa4 sl4 sc4] 26)) (w3.alloc (.cells #[.slice sa3 sl3 sc3, .slice sa4 sl4 sc4] 26)).drew := (Keep.refl _ _).drew
  have HK : Hid (∀ w' : World, Keep (fun k => k = w.heap.size ∨ k = w.heap.size + 1) (w3.alloc (.cells #[.slice sa3 sl3 sc3, .slice sa4 sl4 sc4] 26)) w' → (w'.cell? ⟨w2.heap.size, 0, none⟩ = some (.slice sa1 sl1 sc1) ∧ w'.cell? ⟨w2.heap.size, 1, none⟩ = some (.slice sa2 sl2 sc2)) ∧ w'.cell? ⟨w3.heap.size, 0, none⟩ = some (.slice sa3 sl3 sc3) ∧ w'.cell? ⟨w3.heap.size, 1, none⟩ = some (.slice sa4 sl4 sc4)) := Lib.hid fun w' k =>
    ⟨⟨cell_of_block (k.block _ (cell_lt a0) (by omega)) a0, cell_of_block (k.block _ (cell_lt a1) (by omega)) a1⟩, cell_of_block (k.block _ (cell_lt b0) (by omega)) b0, cell_of_block (k.block _ (cell_lt b1) (by omega)) b1⟩
  clear hba hrd hd
  go_wp2
  go_region_held3 (fun w' => (w'.cell? ⟨w2.heap.size, 0, none⟩ = some (.slice sa1 sl1 sc1) ∧ w'.cell? ⟨w2.heap.size, 1, none⟩ = some (.slice sa2 sl2 sc2)) ∧ w'.cell? ⟨w3.heap.size, 0, none⟩ = some (.slice sa3 sl3 sc3) ∧ w'.cell? ⟨w3.heap.size, 1, none⟩ = some (.slice sa4 sl4 sc4))
    (first | exact HK.out _ K0 | exact HK.out _ (((K0.setCell (p := ⟨w.heap.size, 0, none⟩) (.inl (.inl rfl)) _)).setCell (p := ⟨w.heap.size, 1, none⟩) (.inl (.inl rfl)) _) | exact HK.out _ (((((K0.setCell (p := ⟨w.heap.size, 0, none⟩) (.inl (.inl rfl)) _)).setCell (p := ⟨w.heap.size, 1, none⟩) (.inl (.inl rfl)) _).setCell (p := ⟨w.heap.size + 1, 0, none⟩) (.inl (.inr rfl)) _).setCell (p := ⟨w.heap.size + 1, 1, none⟩) (.inl (.inr rfl)) _))
    (fail)
  rename_i hHz
  clear hHz
  have kz : Keep (fun k => k = w.heap.size ∨ k = w.heap.size + 1) (w3.alloc (.cells #[.slice sa3 sl3 sc3, .slice sa4 sl4 sc4] 26)) (((((w3.alloc (.cells #[.slice sa3 sl3 sc3, .slice sa4 sl4 sc4] 26)).setCell ⟨w.heap.size, 0, none⟩ (.slice sa1 sl1 sc1)).setCell ⟨w.heap.size, 1, none⟩ (.slice sa2 sl2 sc2)).setCell ⟨w.heap.size + 1, 0, none⟩ (.slice sa3 sl3 sc3)).setCell ⟨w.heap.size + 1, 1, none⟩ (.slice sa4 sl4 sc4)).drew :=
    (((((Keep.refl _ _).setCell (p := ⟨w.heap.size, 0, none⟩) (.inl (.inl rfl)) _).setCell (p := ⟨w.heap.size, 1, none⟩) (.inl (.inl rfl)) _).setCell (p := ⟨w.heap.size + 1, 0, none⟩) (.inl (.inr rfl)) _).setCell (p := ⟨w.heap.size + 1, 1, none⟩) (.inl (.inr rfl)) _).drew
  have R1 := Lib.hid ((HSr.out.keep kz (fun x hx _ e => by rcases e with e | e <;> omega)).sol)
  have R2 := Lib.hid ((HSl.out.keep kz (fun x hx _ e => by rcases e with e | e <;> omega)).sol)
  have hbx := HBw.out.trans (kz.below (B := w.heap.size) fun k hk => ⟨by simp; omega, fun e => by rcases e with e | e <;> omega⟩)
  have HBx := Lib.hid hbx
  have hz := (((HZB.out.set 0 (.slice sa1 sl1 sc1)).set 1 (.slice sa2 sl2 sc2)).other (a := ⟨w.heap.size + 1, 0, none⟩) (by simp) (.slice sa3 sl3 sc3)).other (a := ⟨w.heap.size + 1, 1, none⟩) (by simp) (.slice sa4 sl4 sc4)
  have hy := (((HYB.out.other (a := ⟨w.heap.size, 0, none⟩) (by simp) (.slice sa1 sl1 sc1)).other (a := ⟨w.heap.size, 1, none⟩) (by simp) (.slice sa2 sl2 sc2)).set 0 (.slice sa3 sl3 sc3)).set 1 (.slice sa4 sl4 sc4)
  obtain ⟨e0, e1, -, -⟩ := two_cells hz.drew
  obtain ⟨e2, e3, -, -⟩ := two_cells hy.drew
  clear hz hy kz hbx z0 z1 z2 z3 y0 y1 y2 y3 a0 a1 b0 b1
  go_wp2
  exact bodyPost_ret (v := .tuple #[.agg #[.slice sa1 sl1 sc1, .slice sa2 sl2 sc2], .agg #[.slice sa3 sl3 sc3, .slice sa4 sl4 sc4]]) (by simp [results, Try.results16, go_sem, e0, e1, e2, e3]) rfl ⟨_, _, _, _, A, B, C, D, rfl, R1.out, R2.out, HBx.out⟩
end Go.Proofs.Ytkghonhghbcdlaa

namespace Go.Proofs.Ytkghonhghbcdlaa
set_option linter.unusedVariables false
set_option linter.unusedSimpArgs false
open Go.RowKit

set_option maxRecDepth 100000 in
set_option maxHeartbeats 4000000 in
theorem c_specProductSolution (v0 u0 : Value) (A B : List (List Int)) (v1 u1 : Value) (C D : List (List Int)) (w : World) (hA : Sol w v0 u0 A B) (hC : Sol w v1 u1 C D)  :
    Calls Try.prog 18 #[.agg #[v0, u0], .agg #[v1, u1]] w (RSolRO w (prRA A B C D) (prRB A B C D) (prCode A B C D)) := by
  by_cases hp0 : isPM A B = true
  case neg =>
    have hq0 : isPM A B = false := by simpa using hp0
    have HQ := Lib.hid hq0; clear hp0
    obtain ⟨a0, c0, rfl, _, _⟩ := hA.1.shape
    obtain ⟨a0s, c0s, rfl, _, _⟩ := hA.2.shape
    obtain ⟨a1, c1, rfl, _, _⟩ := hC.1.shape
    obtain ⟨a1s, c1s, rfl, _, _⟩ := hC.2.shape
    go_enter Try.func18, Try.ntmps18
    go_wp2_with fail
    obtain ⟨f0, f1, f2, hW0, hsz⟩ := boxes3 w [.slice a0 A.length c0, .slice a0s B.length c0s] [.slice a1 C.length c1, .slice a1s D.length c1s] [.slice none 0 0, .slice none 0 0] 26 26 26
    obtain ⟨W0, hW⟩ : ∃ W, (((w.alloc (.cells #[.slice a0 A.length c0, .slice a0s B.length c0s] 26)).alloc (.cells #[.slice a1 C.length c1, .slice a1s D.length c1s] 26)).alloc (.cells #[.slice none 0 0, .slice none 0 0] 26)) = W := ⟨_, rfl⟩
    rw [hW] at f0 f1 f2 hW0 hsz ⊢
    clear hW hsz
    refine (c_l02Map _ _ _ _ _ (hA.below hW0)).mono ?_; rintro e g0 ⟨rfl, hbg0⟩
    have hB0 := bb hW0 hbg0
    replace f0 := f0.under hbg0
    obtain ⟨cA0, cB0, -, -⟩ := two_cells f0
    replace f1 := f1.under hbg0
    obtain ⟨cA1, cB1, -, -⟩ := two_cells f1
    replace f2 := f2.under hbg0
    obtain ⟨cA2, cB2, fA2, fB2⟩ := two_cells f2
    clear hbg0
    have HB := Lib.hid hB0
    clear hB0 hW0
    go_wp2
    refine bodyPost_ret (v := .tuple #[.agg #[.slice none 0 0, .slice none 0 0], .int .i64 1]) (by simp [results, Try.results18, go_sem, cA2, cB2]) rfl ⟨.slice none 0 0, .slice none 0 0, by simp [prRA, prRB, prCode, prOk, HQ.out], ?_, ?_⟩
    · exact ⟨by simpa [prRA, prRB, prCode, prOk, HQ.out] using OwnRows.nil _ _, by simpa [prRA, prRB, prCode, prOk, HQ.out] using OwnRows.nil _ _⟩
    · first | exact HB.out | exact (HB.out.setCell (p := ⟨w.heap.size + 1 + 1, 0, none⟩) (by show _ ≤ w.heap.size + 1 + 1; omega) _).setCell (p := ⟨w.heap.size + 1 + 1, 1, none⟩) (by show _ ≤ w.heap.size + 1 + 1; omega) _
  have HP0 := Lib.hid hp0
  by_cases hp1 : isPM C D = true
  case neg =>
    have hq1 : isPM C D = false := by simpa using hp1
    have HQ := Lib.hid hq1; clear hp1
    obtain ⟨a0, c0, rfl, _, _⟩ := hA.1.shape
    obtain ⟨a0s, c0s, rfl, _, _⟩ := hA.2.shape
    obtain ⟨a1, c1, rfl, _, _⟩ := hC.1.shape
    obtain ⟨a1s, c1s, rfl, _, _⟩ := hC.2.shape
    go_enter Try.func18, Try.ntmps18
    go_wp2_with fail
    obtain ⟨f0, f1, f2, hW0, hsz⟩ := boxes3 w [.slice a0 A.length c0, .slice a0s B.length c0s] [.slice a1 C.length c1, .slice a1s D.length c1s] [.slice none 0 0, .slice none 0 0] 26 26 26
    obtain ⟨W0, hW⟩ : ∃ W, (((w.alloc (.cells #[.slice a0 A.length c0, .slice a0s B.length c0s] 26)).alloc (.cells #[.slice a1 C.length c1, .slice a1s D.length c1s] 26)).alloc (.cells #[.slice none 0 0, .slice none 0 0] 26)) = W := ⟨_, rfl⟩
    rw [hW] at f0 f1 f2 hW0 hsz ⊢
    clear hW hsz
    refine (c_l02Map _ _ _ _ _ (hA.below hW0)).mono ?_; rintro e g0 ⟨rfl, hbg0⟩
    have hB0 := bb hW0 hbg0
    replace f0 := f0.under hbg0
    obtain ⟨cA0, cB0, -, -⟩ := two_cells f0
    replace f1 := f1.under hbg0
    obtain ⟨cA1, cB1, -, -⟩ := two_cells f1
    replace f2 := f2.under hbg0
    obtain ⟨cA2, cB2, fA2, fB2⟩ := two_cells f2
    clear hbg0
    go_wp2_with fail
    refine (c_l02Map _ _ _ _ _ (hC.below hB0)).mono ?_; rintro e g1 ⟨rfl, hbg1⟩
    have hB1 := bb hB0 hbg1
    replace f0 := f0.under hbg1
    clear cA0 cB0
    obtain ⟨cA0, cB0, -, -⟩ := two_cells f0
    replace f1 := f1.under hbg1
    clear cA1 cB1
    obtain ⟨cA1, cB1, -, -⟩ := two_cells f1
    replace f2 := f2.under hbg1
    clear cA2 cB2 fA2 fB2
    obtain ⟨cA2, cB2, fA2, fB2⟩ := two_cells f2
    clear hbg1
    have HB := Lib.hid hB1
    clear hB0 hB1 hW0
    go_wp2
    refine bodyPost_ret (v := .tuple #[.agg #[.slice none 0 0, .slice none 0 0], .int .i64 1]) (by simp [results, Try.results18, go_sem, cA2, cB2]) rfl ⟨.slice none 0 0, .slice none 0 0, by simp [prRA, prRB, prCode, prOk, HQ.out, HP0.out], ?_, ?_⟩
    · exact ⟨by simpa [prRA, prRB, prCode, prOk, HQ.out, HP0.out] using OwnRows.nil _ _, by simpa [prRA, prRB, prCode, prOk, HQ.out, HP0.out] using OwnRows.nil _ _⟩
    · first | exact HB.out | exact (HB.out.setCell (p := ⟨w.heap.size + 1 + 1, 0, none⟩) (by show _ ≤ w.heap.size + 1 + 1; omega) _).setCell (p := ⟨w.heap.size + 1 + 1, 1, none⟩) (by show _ ≤ w.heap.size + 1 + 1; omega) _
  have HP1 := Lib.hid hp1
  obtain ⟨a0, c0, rfl, _, _⟩ := hA.1.shape
  obtain ⟨a0s, c0s, rfl, _, _⟩ := hA.2.shape
  obtain ⟨a1, c1, rfl, _, _⟩ := hC.1.shape
  obtain ⟨a1s, c1s, rfl, _, _⟩ := hC.2.shape
  go_enter Try.func18, Try.ntmps18
  go_wp2_with fail
  obtain ⟨f0, f1, f2, hW0, hsz⟩ := boxes3 w [.slice a0 A.length c0, .slice a0s B.length c0s] [.slice a1 C.length c1, .slice a1s D.length c1s] [.slice none 0 0, .slice none 0 0] 26 26 26
  obtain ⟨W0, hW⟩ : ∃ W, (((w.alloc (.cells #[.slice a0 A.length c0, .slice a0s B.length c0s] 26)).alloc (.cells #[.slice a1 C.length c1, .slice a1s D.length c1s] 26)).alloc (.cells #[.slice none 0 0, .slice none 0 0] 26)) = W := ⟨_, rfl⟩
  rw [hW] at f0 f1 f2 hW0 hsz ⊢
  clear hW hsz
  refine (c_l02Map _ _ _ _ _ (hA.below hW0)).mono ?_; rintro e g0 ⟨rfl, hbg0⟩
  have hB0 := bb hW0 hbg0
  replace f0 := f0.under hbg0
  obtain ⟨cA0, cB0, -, -⟩ := two_cells f0
  replace f1 := f1.under hbg0
  obtain ⟨cA1, cB1, -, -⟩ := two_cells f1
  replace f2 := f2.under hbg0
  obtain ⟨cA2, cB2, fA2, fB2⟩ := two_cells f2
  clear hbg0
  go_wp2_with fail
  refine (c_l02Map _ _ _ _ _ (hC.below hB0)).mono ?_; rintro e g1 ⟨rfl, hbg1⟩
  have hB1 := bb hB0 hbg1
  replace f0 := f0.under hbg1
  clear cA0 cB0
  obtain ⟨cA0, cB0, -, -⟩ := two_cells f0
  replace f1 := f1.under hbg1
  clear cA1 cB1
  obtain ⟨cA1, cB1, -, -⟩ := two_cells f1
  replace f2 := f2.under hbg1
  clear cA2 cB2 fA2 fB2
  obtain ⟨cA2, cB2, fA2, fB2⟩ := two_cells f2
  clear hbg1
  have HOK := Lib.hid (prOk_of HP0.out HP1.out)
  have hl12 := isTab_len (isPM_parts HP0.out).1; have hl34 := isTab_len (isPM_parts HP1.out).1
  have hnn : A.length * C.length ≤ 144 := Nat.mul_le_mul hl12.2 hl34.2
  have hnnI : (A.length : Int) * C.length ≤ 144 := by exact_mod_cast hnn
  have hnnJ : (0 : Int) ≤ (A.length : Int) * C.length := by exact_mod_cast Nat.zero_le _
  by_cases hsm : A.length * C.length ≤ 12
  case neg =>
    have hgt : ¬ ((A.length : Int) * C.length ≤ 12) := by intro h; exact hsm (by exact_mod_cast h)
    have hS : prSm A C = false := by unfold prSm; simpa using hsm
    have HS := Lib.hid hS; have HB := Lib.hid hB1
    clear hsm hS hB0 hB1 hW0 f0 f1 f2 hA hC
    go_wp2
    refine bodyPost_ret (v := .tuple #[.agg #[.slice none 0 0, .slice none 0 0], .int .i64 3]) (by simp [results, Try.results18, go_sem, cA2, cB2]) rfl ⟨.slice none 0 0, .slice none 0 0, by simp [prCode, HOK.out, HS.out], ?_, ?_⟩
    · exact ⟨by simpa [prRA, HS.out] using OwnRows.nil _ _, by simpa [prRB, HS.out] using OwnRows.nil _ _⟩
    · first | exact HB.out | exact (HB.out.setCell (p := ⟨w.heap.size + 1 + 1, 0, none⟩) (by show _ ≤ w.heap.size + 1 + 1; omega) _).setCell (p := ⟨w.heap.size + 1 + 1, 1, none⟩) (by show _ ≤ w.heap.size + 1 + 1; omega) _
  have hlt : (A.length : Int) * C.length ≤ 12 := by exact_mod_cast hsm
  have hS : prSm A C = true := by unfold prSm; simpa using hsm
  have HS := Lib.hid hS; clear hS
  go_wp2_with fail
  refine (c_l02Product _ _ A B _ _ C D _ (hA.below hB1) (hC.below hB1) HP0.out HP1.out hsm).mono ?_; rintro e wz ⟨s1, s2, rfl, hs, hbz⟩
  obtain ⟨sa1, sl1, sc1, rfl⟩ := hs.1.any
  obtain ⟨sa2, sl2, sc2, rfl⟩ := hs.2.any
  clear cA2 cB2 fA2 fB2
  obtain ⟨z0, z1, z2, z3⟩ := two_cells (f2.under hbz)
  have HLo := Lib.hid f2.lt; have HSo := Lib.hid hs; have HBz := Lib.hid (bb hB1 hbz)
  clear hs hbz hB0 hB1 hW0 f0 f1 f2 hA hC
  go_wp2
  obtain ⟨hA, hB⟩ := storedO (q := w.heap.size + 1 + 1) HBz.out HSo.out (by omega) HLo.out
  refine bodyPost_ret (v := .tuple #[.agg #[.slice sa1 sl1 sc1, .slice sa2 sl2 sc2], .int .i64 0]) (by simp [results, Try.results18, go_sem, z0, z1]) rfl ⟨_, _, by simp [prCode, HOK.out, HS.out]; exact ⟨rfl, rfl⟩, by simpa [prRA, prRB, HOK.out, HS.out] using hA, hB⟩

theorem pr_total (A B C D : List (List Int)) : total (prRA A B C D) ≤ 144 ∧ total (prRB A B C D) ≤ 144 := by
  have hz : ∀ (n : Nat) (g : Int → Int → Int), n ≤ 12 → total (tabOf n g) ≤ 144 := by
    intro n g h
    have h1 := total_le _ (tab_rows (g := g) h)
    rw [tabOf_length] at h1
    omega
  unfold prRA prRB
  split
  · rename_i h
    have hl : A.length * C.length ≤ 12 := by simp [prOk, prSm] at h; exact h.2
    have hB : B.length * D.length = A.length * C.length := by
      simp only [prOk, Bool.and_eq_true] at h
      rw [(isPM_parts h.1.1).2.2, (isPM_parts h.1.2).2.2]
    exact ⟨hz _ _ hl, hz _ _ (by rw [hB]; exact hl)⟩
  · simp [total]
end Go.Proofs.Ytkghonhghbcdlaa

namespace Go.Proofs.Ytkghonhghbcdlaa
set_option linter.unusedVariables false
set_option linter.unusedSimpArgs false
open Go.RowKit

set_option maxRecDepth 100000 in
set_option maxHeartbeats 4000000 in
theorem c_specUnionSolution (v0 u0 : Value) (A B : List (List Int)) (v1 u1 : Value) (C D : List (List Int)) (w : World) (hA : Sol w v0 u0 A B) (hC : Sol w v1 u1 C D)  :
    Calls Try.prog 20 #[.agg #[v0, u0], .agg #[v1, u1]] w (RSolRO w (unRA A B C D) (unRB A B C D) (unCode A B C D)) := by
  by_cases hp0 : isPM A B = true
  case neg =>
    have hq0 : isPM A B = false := by simpa using hp0
    have HQ := Lib.hid hq0; clear hp0
    obtain ⟨a0, c0, rfl, _, _⟩ := hA.1.shape
    obtain ⟨a0s, c0s, rfl, _, _⟩ := hA.2.shape
    obtain ⟨a1, c1, rfl, _, _⟩ := hC.1.shape
    obtain ⟨a1s, c1s, rfl, _, _⟩ := hC.2.shape
    go_enter Try.func20, Try.ntmps20
    go_wp2_with fail
    obtain ⟨f0, f1, f2, hW0, hsz⟩ := boxes3 w [.slice a0 A.length c0, .slice a0s B.length c0s] [.slice a1 C.length c1, .slice a1s D.length c1s] [.slice none 0 0, .slice none 0 0] 26 26 26
    obtain ⟨W0, hW⟩ : ∃ W, (((w.alloc (.cells #[.slice a0 A.length c0, .slice a0s B.length c0s] 26)).alloc (.cells #[.slice a1 C.length c1, .slice a1s D.length c1s] 26)).alloc (.cells #[.slice none 0 0, .slice none 0 0] 26)) = W := ⟨_, rfl⟩
    rw [hW] at f0 f1 f2 hW0 hsz ⊢
    clear hW hsz
    refine (c_l02Map _ _ _ _ _ (hA.below hW0)).mono ?_; rintro e g0 ⟨rfl, hbg0⟩
    have hB0 := bb hW0 hbg0
    replace f0 := f0.under hbg0
    obtain ⟨cA0, cB0, -, -⟩ := two_cells f0
    replace f1 := f1.under hbg0
    obtain ⟨cA1, cB1, -, -⟩ := two_cells f1
    replace f2 := f2.under hbg0
    obtain ⟨cA2, cB2, fA2, fB2⟩ := two_cells f2
    clear hbg0
    have HB := Lib.hid hB0
    clear hB0 hW0
    go_wp2
    refine bodyPost_ret (v := .tuple #[.agg #[.slice none 0 0, .slice none 0 0], .int .i64 1]) (by simp [results, Try.results20, go_sem, cA2, cB2]) rfl ⟨.slice none 0 0, .slice none 0 0, by simp [unRA, unRB, unCode, unOk, HQ.out], ?_, ?_⟩
    · exact ⟨by simpa [unRA, unRB, unCode, unOk, HQ.out] using OwnRows.nil _ _, by simpa [unRA, unRB, unCode, unOk, HQ.out] using OwnRows.nil _ _⟩
    · first | exact HB.out | exact (HB.out.setCell (p := ⟨w.heap.size + 1 + 1, 0, none⟩) (by show _ ≤ w.heap.size + 1 + 1; omega) _).setCell (p := ⟨w.heap.size + 1 + 1, 1, none⟩) (by show _ ≤ w.heap.size + 1 + 1; omega) _
  have HP0 := Lib.hid hp0
  by_cases hp1 : isPM C D = true
  case neg =>
    have hq1 : isPM C D = false := by simpa using hp1
    have HQ := Lib.hid hq1; clear hp1
    obtain ⟨a0, c0, rfl, _, _⟩ := hA.1.shape
    obtain ⟨a0s, c0s, rfl, _, _⟩ := hA.2.shape
    obtain ⟨a1, c1, rfl, _, _⟩ := hC.1.shape
    obtain ⟨a1s, c1s, rfl, _, _⟩ := hC.2.shape
    go_enter Try.func20, Try.ntmps20
    go_wp2_with fail
    obtain ⟨f0, f1, f2, hW0, hsz⟩ := boxes3 w [.slice a0 A.length c0, .slice a0s B.length c0s] [.slice a1 C.length c1, .slice a1s D.length c1s] [.slice none 0 0, .slice none 0 0] 26 26 26
    obtain ⟨W0, hW⟩ : ∃ W, (((w.alloc (.cells #[.slice a0 A.length c0, .slice a0s B.length c0s] 26)).alloc (.cells #[.slice a1 C.length c1, .slice a1s D.length c1s] 26)).alloc (.cells #[.slice none 0 0, .slice none 0 0] 26)) = W := ⟨_, rfl⟩
    rw [hW] at f0 f1 f2 hW0 hsz ⊢
    clear hW hsz
    refine (c_l02Map _ _ _ _ _ (hA.below hW0)).mono ?_; rintro e g0 ⟨rfl, hbg0⟩
    have hB0 := bb hW0 hbg0
    replace f0 := f0.under hbg0
    obtain ⟨cA0, cB0, -, -⟩ := two_cells f0
    replace f1 := f1.under hbg0
    obtain ⟨cA1, cB1, -, -⟩ := two_cells f1
    replace f2 := f2.under hbg0
    obtain ⟨cA2, cB2, fA2, fB2⟩ := two_cells f2
    clear hbg0
    go_wp2_with fail
    refine (c_l02Map _ _ _ _ _ (hC.below hB0)).mono ?_; rintro e g1 ⟨rfl, hbg1⟩
    have hB1 := bb hB0 hbg1
    replace f0 := f0.under hbg1
    clear cA0 cB0
    obtain ⟨cA0, cB0, -, -⟩ := two_cells f0
    replace f1 := f1.under hbg1
    clear cA1 cB1
    obtain ⟨cA1, cB1, -, -⟩ := two_cells f1
    replace f2 := f2.under hbg1
    clear cA2 cB2 fA2 fB2
    obtain ⟨cA2, cB2, fA2, fB2⟩ := two_cells f2
    clear hbg1
    have HB := Lib.hid hB1
    clear hB0 hB1 hW0
    go_wp2
    refine bodyPost_ret (v := .tuple #[.agg #[.slice none 0 0, .slice none 0 0], .int .i64 1]) (by simp [results, Try.results20, go_sem, cA2, cB2]) rfl ⟨.slice none 0 0, .slice none 0 0, by simp [unRA, unRB, unCode, unOk, HQ.out, HP0.out], ?_, ?_⟩
    · exact ⟨by simpa [unRA, unRB, unCode, unOk, HQ.out, HP0.out] using OwnRows.nil _ _, by simpa [unRA, unRB, unCode, unOk, HQ.out, HP0.out] using OwnRows.nil _ _⟩
    · first | exact HB.out | exact (HB.out.setCell (p := ⟨w.heap.size + 1 + 1, 0, none⟩) (by show _ ≤ w.heap.size + 1 + 1; omega) _).setCell (p := ⟨w.heap.size + 1 + 1, 1, none⟩) (by show _ ≤ w.heap.size + 1 + 1; omega) _
  have HP1 := Lib.hid hp1
  obtain ⟨a0, c0, rfl, _, _⟩ := hA.1.shape
  obtain ⟨a0s, c0s, rfl, _, _⟩ := hA.2.shape
  obtain ⟨a1, c1, rfl, _, _⟩ := hC.1.shape
  obtain ⟨a1s, c1s, rfl, _, _⟩ := hC.2.shape
  go_enter Try.func20, Try.ntmps20
  go_wp2_with fail
  obtain ⟨f0, f1, f2, hW0, hsz⟩ := boxes3 w [.slice a0 A.length c0, .slice a0s B.length c0s] [.slice a1 C.length c1, .slice a1s D.length c1s] [.slice none 0 0, .slice none 0 0] 26 26 26
  obtain ⟨W0, hW⟩ : ∃ W, (((w.alloc (.cells #[.slice a0 A.length c0, .slice a0s B.length c0s] 26)).alloc (.cells #[.slice a1 C.length c1, .slice a1s D.length c1s] 26)).alloc (.cells #[.slice none 0 0, .slice none 0 0] 26)) = W := ⟨_, rfl⟩
  rw [hW] at f0 f1 f2 hW0 hsz ⊢
  clear hW hsz
  refine (c_l02Map _ _ _ _ _ (hA.below hW0)).mono ?_; rintro e g0 ⟨rfl, hbg0⟩
  have hB0 := bb hW0 hbg0
  replace f0 := f0.under hbg0
  obtain ⟨cA0, cB0, -, -⟩ := two_cells f0
  replace f1 := f1.under hbg0
  obtain ⟨cA1, cB1, -, -⟩ := two_cells f1
  replace f2 := f2.under hbg0
  obtain ⟨cA2, cB2, fA2, fB2⟩ := two_cells f2
  clear hbg0
  go_wp2_with fail
  refine (c_l02Map _ _ _ _ _ (hC.below hB0)).mono ?_; rintro e g1 ⟨rfl, hbg1⟩
  have hB1 := bb hB0 hbg1
  replace f0 := f0.under hbg1
  clear cA0 cB0
  obtain ⟨cA0, cB0, -, -⟩ := two_cells f0
  replace f1 := f1.under hbg1
  clear cA1 cB1
  obtain ⟨cA1, cB1, -, -⟩ := two_cells f1
  replace f2 := f2.under hbg1
  clear cA2 cB2 fA2 fB2
  obtain ⟨cA2, cB2, fA2, fB2⟩ := two_cells f2
  clear hbg1
  have HOK := Lib.hid (unOk_of HP0.out HP1.out)
  have hl12 := isTab_len (isPM_parts HP0.out).1; have hl34 := isTab_len (isPM_parts HP1.out).1
  by_cases hsm : A.length + C.length ≤ 12
  case neg =>
    have hgt : ¬ ((A.length : Int) + C.length ≤ 12) := by intro h; exact hsm (by exact_mod_cast h)
    have hS : unSm A C = false := by unfold unSm; simpa using hsm
    have HS := Lib.hid hS; have HB := Lib.hid hB1
    clear hsm hS hB0 hB1 hW0 f0 f1 f2 hA hC
    go_wp2
    refine bodyPost_ret (v := .tuple #[.agg #[.slice none 0 0, .slice none 0 0], .int .i64 3]) (by simp [results, Try.results20, go_sem, cA2, cB2]) rfl ⟨.slice none 0 0, .slice none 0 0, by simp [unCode, HOK.out, HS.out], ?_, ?_⟩
    · exact ⟨by simpa [unRA, HS.out] using OwnRows.nil _ _, by simpa [unRB, HS.out] using OwnRows.nil _ _⟩
    · first | exact HB.out | exact (HB.out.setCell (p := ⟨w.heap.size + 1 + 1, 0, none⟩) (by show _ ≤ w.heap.size + 1 + 1; omega) _).setCell (p := ⟨w.heap.size + 1 + 1, 1, none⟩) (by show _ ≤ w.heap.size + 1 + 1; omega) _
  have hlt : (A.length : Int) + C.length ≤ 12 := by exact_mod_cast hsm
  have hS : unSm A C = true := by unfold unSm; simpa using hsm
  have HS := Lib.hid hS; clear hS
  go_wp2_with fail
  refine (c_l02Union _ _ A B _ _ C D _ (hA.below hB1) (hC.below hB1) HP0.out HP1.out hsm).mono ?_; rintro e wz ⟨s1, s2, rfl, hs, hbz⟩
  obtain ⟨sa1, sl1, sc1, rfl⟩ := hs.1.any
  obtain ⟨sa2, sl2, sc2, rfl⟩ := hs.2.any
  clear cA2 cB2 fA2 fB2
  obtain ⟨z0, z1, z2, z3⟩ := two_cells (f2.under hbz)
  have HLo := Lib.hid f2.lt; have HSo := Lib.hid hs; have HBz := Lib.hid (bb hB1 hbz)
  clear hs hbz hB0 hB1 hW0 f0 f1 f2 hA hC
  go_wp2
  obtain ⟨hA, hB⟩ := storedO (q := w.heap.size + 1 + 1) HBz.out HSo.out (by omega) HLo.out
  refine bodyPost_ret (v := .tuple #[.agg #[.slice sa1 sl1 sc1, .slice sa2 sl2 sc2], .int .i64 0]) (by simp [results, Try.results20, go_sem, z0, z1]) rfl ⟨_, _, by simp [unCode, HOK.out, HS.out]; exact ⟨rfl, rfl⟩, by simpa [unRA, unRB, HOK.out, HS.out] using hA, hB⟩

theorem un_total (A B C D : List (List Int)) : total (unRA A B C D) ≤ 144 ∧ total (unRB A B C D) ≤ 144 := by
  have hz : ∀ (n : Nat) (g : Int → Int → Int), n ≤ 12 → total (tabOf n g) ≤ 144 := by
    intro n g h
    have h1 := total_le _ (tab_rows (g := g) h)
    rw [tabOf_length] at h1
    omega
  unfold unRA unRB
  split
  · rename_i h
    have hl : A.length + C.length ≤ 12 := by simp [unOk, unSm] at h; exact h.2
    have hB : B.length + D.length = A.length + C.length := by
      simp only [unOk, Bool.and_eq_true] at h
      rw [(isPM_parts h.1.1).2.2, (isPM_parts h.1.2).2.2]
    exact ⟨hz _ _ hl, hz _ _ (by rw [hB]; exact hl)⟩
  · simp [total]
end Go.Proofs.Ytkghonhghbcdlaa

namespace Go.Proofs.Ytkghonhghbcdlaa
set_option linter.unusedVariables false
set_option linter.unusedSimpArgs false
open Go.RowKit

set_option maxHeartbeats 400000 in
theorem c_specIsSolution (v1 v2 : Value) (A B : List (List Int)) (w : World) (hx : Sol w v1 v2 A B) :
    Calls Try.prog 14 #[.agg #[v1, v2]] w (RVal w (.bool (isSol A B))) := by
  obtain ⟨a1, c1, rfl, _, _⟩ := hx.1.shape
  obtain ⟨a2, c2, rfl, _, _⟩ := hx.2.shape
  obtain ⟨f0, hW0, hsz⟩ := boxes1 w [.slice a1 A.length c1, .slice a2 B.length c2] 26
  have hy := hx.below hW0
  have HW := Lib.hid hW0
  clear hW0 hsz f0 hx
  go_enter Try.func14, Try.ntmps14
  go_wp2_with fail
  refine (c_l02Is _ _ _ _ _ hy).mono ?_; rintro e w' ⟨rfl, hb⟩
  have HB := Lib.hid (bb HW.out hb); clear hb hy
  go_wp2
  go_ret
  exact ⟨rfl, HB.out⟩

end Go.Proofs.Ytkghonhghbcdlaa

namespace Go.Proofs.Ytkghonhghbcdlaa
set_option linter.unusedVariables false
set_option linter.unusedSimpArgs false
open Go Go.RowKit

theorem wp_move {P : Program} {o : Oper} {a : Act} {w : World} {K : Act → World → Prop} {Q : Exit → Act → World → Prop} {s : Operand} (ho : o.op = .move s) (h : K (a.put o.dst (a.eval s)) w) : o.wp P a w K Q := by
  have key : ∀ ρ : Operand → Value, (execOp ρ o).run P w = .ok (.value (ρ s)) w := fun ρ => by simp [execOp, ho, go_sem]
  have e := key a.eval
  unfold Oper.wp
  rw [e]
  exact h
theorem wp_pick {P : Program} {o : Oper} {a : Act} {w : World} {K : Act → World → Prop} {Q : Exit → Act → World → Prop} {c x y : Operand} {b : Bool} (ho : o.op = .pick c x y) (hc : a.eval c = .bool b) (h : K (a.put o.dst (if b then a.eval x else a.eval y)) w) : o.wp P a w K Q := by
  have key : ∀ ρ : Operand → Value, ρ c = .bool b → (execOp ρ o).run P w = .ok (.value (if b then ρ x else ρ y)) w := fun ρ hc => by cases b <;> simp [execOp, ho, hc, go_sem]
  have e := key a.eval hc
  unfold Oper.wp
  rw [e]
  exact h
/-- 'a && b' where both are variables: the second one's move and the choice behind it. -/
theorem wpList_and {P : Program} {ops : Array Oper} {Q : Exit → Act → World → Prop} {rest : List Oper} {a : Act} {w : World} {d1 d2 t1 t2 g : Nat} {s c : Operand} {p1 p2 : String} {f1 f2 : Array Edge} {gd2 : Option (Nat × Bool)} (x y : Bool)
    (hs : a.eval s = .bool y)
    (hx : Region.wanted ⟨some d1, .move s, t1, p1, f1, some (g, true)⟩ (yielded ops a.tmps) = x)
    (h2 : ∀ v, Region.wanted ⟨some d2, .pick c (.tmp d1) (.const (.bool false)), t2, p2, f2, gd2⟩ (yielded ops (a.put (some d1) v).tmps) = true)
    (hc : ∀ v, (a.put (some d1) v).eval c = .bool x)
    (hd : ∀ v, (a.put (some d1) v).eval (.tmp d1) = v)
    (h : ∀ v, wpList P ops Q rest ((a.put (some d1) v).put (some d2) (.bool (x && y))) w) :
    wpList P ops Q (⟨some d1, .move s, t1, p1, f1, some (g, true)⟩ :: ⟨some d2, .pick c (.tmp d1) (.const (.bool false)), t2, p2, f2, gd2⟩ :: rest) a w := by
  cases x with
  | true =>
    refine wpList_step fun K hK => ?_
    rw [if_pos hx]
    refine wp_move rfl (hK _ _ ?_)
    refine wpList_step fun K hK => ?_
    rw [if_pos (h2 _)]
    refine wp_pick (b := true) rfl (hc _) (hK _ _ ?_)
    have := h (.bool y)
    simp only [if_true]
    rw [hd, hs]
    simpa using this
  | false =>
    refine wpList_step fun K hK => ?_
    rw [if_neg (by rw [hx]; simp)]
    refine hK _ _ ?_
    refine wpList_step fun K hK => ?_
    rw [if_pos (h2 _)]
    refine wp_pick (b := false) rfl (hc _) (hK _ _ ?_)
    have := h undef
    simpa [Act.eval] using this

/-- The walk stands here. -/
structure Stop (p : Prop) : Prop where
  out : p
/-- As Q, but that the ordinary end stands at R. -/
def upTo (Q : Exit → Act → World → Prop) (R : Act → World → Prop) (e : Exit) (a : Act) (w : World) : Prop :=
  (e = .normal ∧ Stop (R a w)) ∨ (e ≠ .normal ∧ Q e a w)
theorem upTo_normal {Q : Exit → Act → World → Prop} {R : Act → World → Prop} {a : Act} {w : World} (h : Stop (R a w)) : upTo Q R .normal a w := .inl ⟨rfl, h⟩
theorem upTo_lets {Q : Exit → Act → World → Prop} {R : Act → World → Prop} (h : LetsOut (upTo Q R)) : LetsOut Q := by
  obtain ⟨a, w, h⟩ := h
  rcases h with ⟨h, _⟩ | ⟨_, h⟩
  · cases h
  · exact ⟨a, w, h⟩
theorem wp_upTo {P : Program} {o : Oper} {a : Act} {w : World} {K K' : Act → World → Prop} {Q : Exit → Act → World → Prop} {R : Act → World → Prop} (h : ∀ a w, K a w → K' a w) (hh : o.wp P a w K (upTo Q R)) : o.wp P a w K' Q := by
  unfold Oper.wp at *
  generalize (execOp a.eval o).run P w = r at *
  have hq : ∀ c a w, upTo Q R (.panic c) a w → Q (.panic c) a w := fun c a w h => by
    rcases h with ⟨h, _⟩ | ⟨_, h⟩
    · cases h
    · exact h
  cases r with
  | ok n w' =>
    cases n <;> simp only [Oper.upon] at hh ⊢ <;>
      first
        | exact h _ _ hh
        | exact Calls.mono hh (fun e w'' he => by cases e <;> first | exact h _ _ he | exact hq _ _ _ he | exact upTo_lets he)
        | exact Rows.mono hh (fun _ _ he => h _ _ he)
  | halt x w' => cases x <;> simp only [Oper.upon] at hh ⊢ <;> first | exact hh | exact hq _ _ _ hh
theorem wpList_app2 {P : Program} {ops : Array Oper} {Q : Exit → Act → World → Prop} {l2 : List Oper} : ∀ (l1 : List Oper) (a : Act) (w : World), wpList P ops (upTo Q (wpList P ops Q l2)) l1 a w → wpList P ops Q (l1 ++ l2) a w
  | [], a, w, h => by
    rcases h with ⟨_, h⟩ | ⟨h, _⟩
    · exact h.out
    · exact absurd rfl h
  | o :: l1, a, w, h => by
    simp only [List.cons_append, wpList] at h ⊢
    split
    · rename_i hw
      rw [if_pos hw] at h
      rcases h with h | ⟨h, h2⟩
      · exact .inl (wp_upTo (fun a w h => wpList_app2 l1 a w h) h)
      · exact .inr ⟨h, upTo_lets h2⟩
    · rename_i hw
      rw [if_neg hw] at h
      exact wpList_app2 l1 _ _ h
/-- Walk the first n operations, and stand there. -/
theorem wpList_cut {P : Program} {ops : Array Oper} {Q : Exit → Act → World → Prop} {l : List Oper} {a : Act} {w : World} (n : Nat) (h : wpList P ops (upTo Q (wpList P ops Q (l.drop n))) (l.take n) a w) : wpList P ops Q l a w := by
  have := wpList_app2 _ _ _ h
  rwa [List.take_append_drop] at this
end Go.Proofs.Ytkghonhghbcdlaa

namespace Go.Proofs.Ytkghonhghbcdlaa
set_option linter.unusedVariables false
set_option linter.unusedSimpArgs false
open Go Go.RowKit

theorem from_len (lo k : Nat) : (from' lo k).length = k := by simp [from']
theorem from_snoc {lo k : Nat} : from' lo k ++ [(lo : Int) + k] = from' lo (k + 1) := by simp [from', List.range_succ]
theorem from_zero {k : Nat} : from' 0 k ++ [(k : Int)] = from' 0 (k + 1) := by simp [from', List.range_succ]
theorem below_of_ls {w W W' : World} {L L' : List (Value × List Int)} {M M' : List (Value × List (List Int))} {Bx Bx' : List (Nat × Value × Value)} (h : LS w W L M Bx) (h' : LS W W' L' M' Bx') : Below W.heap.size W W' := h'.2.2.2
theorem own_apart {B : Nat} {S : Nat → Prop} {w w' : World} {v : Value} {xs : List Int} (h : Own B w v xs) (k : Keep S w w') (hs : ∀ b, v.ownBlock = some b → ¬ S b) : Own B w' v xs := by
  obtain ⟨hl, h | ⟨g, cap, cur, hv, hb, hg, r⟩⟩ := h
  · exact ⟨hl, .inl h⟩
  · exact ⟨hl, .inr ⟨g, cap, cur, hv, hb, by rw [k.block g (Array.getElem?_eq_some_iff.1 hg).1 (hs g (by rw [hv]; rfl))]; exact hg, r⟩⟩
theorem sb_of {A B : List (List Int)} {L : List Int} {X Y : List (List Int)} (h : sbOk A B L = true ∧ sbT A L = X ∧ sbT B L = Y) : sbRA A B L = X ∧ sbRB A B L = Y ∧ sbCode A B L = 0 := by
  obtain ⟨h1, h2, h3⟩ := h
  refine ⟨by simp [sbRA, h1, h2], by simp [sbRB, h1, h3], ?_⟩
  simp only [sbOk, Bool.and_eq_true] at h1
  simp [sbCode, h1.1.1, h1.1.2, h1.2]
/-- Two lists of the call's own, apart. -/
abbrev TwoL (B : Nat) (w : World) (v1 v2 : Value) (xs ys : List Int) : Prop := Own B w v1 xs ∧ Own B w v2 ys ∧ (v1.ownBlock = none ∨ v1.ownBlock ≠ v2.ownBlock)
theorem two_drew {B : Nat} {w : World} {v1 v2 : Value} {xs ys : List Int} (h : TwoL B w v1 v2 xs ys) (n : Nat) : TwoL B (w.drewN n) v1 v2 xs ys :=
  ⟨h.1.under (below_drewN (Below.refl _ _) n), h.2.1.under (below_drewN (Below.refl _ _) n), h.2.2⟩
theorem two_first {B g n c : Nat} {w w' : World} {v1 v2 : Value} {xs ys zs : List Int} {x : Int} (h : TwoL B w v1 v2 xs ys) (ho : Own B w' (.slice (some ⟨g, 0, none⟩) n c) (xs ++ [x])) (hk : Keep (fun b => v1.ownBlock = some b) w w') (hg : v1.ownBlock = some g ∨ w.heap.size ≤ g) (hz : xs ++ [x] = zs) : TwoL B w' (.slice (some ⟨g, 0, none⟩) n c) v2 zs ys := by
  subst hz
  refine ⟨ho, ?_, ?_⟩
  · obtain ⟨h1, h2, h3⟩ := h
    refine own_apart h2 hk fun b hb e => ?_
    rcases h3 with h3 | h3
    · rw [h3] at e; cases e
    · exact h3 (e.trans hb.symm)
  · right
    intro e
    simp [Value.ownBlock] at e
    rcases hg with hg | hg
    · rcases h.2.2 with h3 | h3
      · rw [h3] at hg; cases hg
      · exact h3 (hg.trans e)
    · have := (h.2.1.lt e.symm).2; omega
theorem two_second {B g n c : Nat} {w w' : World} {v1 v2 : Value} {xs ys zs : List Int} {x : Int} (h : TwoL B w v1 v2 xs ys) (ho : Own B w' (.slice (some ⟨g, 0, none⟩) n c) (ys ++ [x])) (hk : Keep (fun b => v2.ownBlock = some b) w w') (hg : v2.ownBlock = some g ∨ w.heap.size ≤ g) (hz : ys ++ [x] = zs) : TwoL B w' v1 (.slice (some ⟨g, 0, none⟩) n c) xs zs := by
  subst hz
  refine ⟨?_, ho, ?_⟩
  · obtain ⟨h1, h2, h3⟩ := h
    refine own_apart h1 hk fun b hb e => ?_
    rcases h3 with h3 | h3
    · rw [h3] at hb; cases hb
    · exact h3 (hb.trans e.symm)
  · by_cases e0 : v1.ownBlock = none
    · exact .inl e0
    · right
      intro e
      simp [Value.ownBlock] at e
      rcases hg with hg | hg
      · rcases h.2.2 with h3 | h3
        · exact e0 h3
        · exact h3 (e.trans hg.symm)
      · have := (h.1.lt e).2; omega
structure PrF (A B C D X Y U V : List (List Int)) (ia ib na nb qa qb sa sb : Bool) : Prop where
  i1 : involRes A B = ia
  i2 : involRes C D = ib
  i3 : involRes X Y = (ia && ib)
  i4 : involRes U V = (ia && ib)
  ic1 : pmCode' A B = 0
  ic2 : pmCode' C D = 0
  ic3 : pmCode' X Y = 0
  ic4 : pmCode' U V = 0
  n1 : ndRes A B = na
  n2 : ndRes C D = nb
  n3 : ndRes X Y = (na && nb)
  n4 : ndRes U V = (na && nb)
  nc1 : pmCodeN A B = 0
  nc2 : pmCodeN C D = 0
  nc3 : pmCodeN X Y = 0
  nc4 : pmCodeN U V = 0
  q1 : sqRes A B = qa
  q2 : sqRes C D = qb
  q3 : sqRes X Y = (qa && qb)
  q4 : sqRes U V = (qa && qb)
  qc1 : pmCode A B = 0
  qc2 : pmCode C D = 0
  qc3 : pmCode X Y = 0
  qc4 : pmCode U V = 0
  s1 : isSol A B = sa
  s2 : isSol C D = sb
  s3 : isSol X Y = (sa && sb)
  s4 : isSol U V = (sa && sb)
  len : 1 ≤ A.length ∧ A.length ≤ 12 ∧ 1 ≤ C.length ∧ C.length ≤ 12
  lA : ∀ {n : Nat}, A.length = n → sbRA U V (from' 0 n) = A
  lB : ∀ {n : Nat}, A.length = n → sbRB U V (from' 0 n) = B
  lC : ∀ {n : Nat}, A.length = n → sbCode U V (from' 0 n) = 0
  rA : ∀ {n m : Nat}, A.length = n → C.length = m → sbRA U V (from' n m) = C
  rB : ∀ {n m : Nat}, A.length = n → C.length = m → sbRB U V (from' n m) = D
  rC : ∀ {n m : Nat}, A.length = n → C.length = m → sbCode U V (from' n m) = 0
theorem pr_facts {A B C D X Y U V : List (List Int)} (hX : prRA A B C D = X) (hY : prRB A B C D = Y) (h1 : prCode A B C D = 0) (hU : unRA A B C D = U) (hV : unRB A B C D = V) (h3 : unCode A B C D = 0) :
    ∃ ia ib na nb qa qb sa sb, PrF A B C D X Y U V ia ib na nb qa qb sa sb := by
  have hpm : isPM A B = true ∧ isPM C D = true := by
    unfold prCode at h1
    split at h1
    · rename_i h; simpa [prOk] using h
    · simp at h1
  obtain ⟨hA, hC⟩ := hpm
  have hps : prSm A C = true := by simpa [prCode, prOk, hA, hC] using h1
  have hus : unSm A C = true := by simpa [unCode, unOk, hA, hC] using h3
  have eX : X = prT A C := by rw [← hX]; simp [prRA, prOk, hA, hC, hps]
  have eY : Y = prT B D := by rw [← hY]; simp [prRB, prOk, hA, hC, hps]
  have eU : U = unTA A C := by rw [← hU]; simp [unRA, unOk, hA, hC, hus]
  have eV : V = unTB B D := by rw [← hV]; simp [unRB, unOk, hA, hC, hus]
  have hs1 : A.length * C.length ≤ 12 := by simpa [prSm] using hps
  have hs2 : A.length + C.length ≤ 12 := by simpa [unSm] using hus
  have hP : isPM X Y = true := by rw [eX, eY]; exact pr_isPM hA hC hs1
  have hQ : isPM U V = true := by rw [eU, eV]; exact un_isPM hA hC hs2
  have hl := isTab_len (isPM_parts hA).1
  have hl2 := isTab_len (isPM_parts hC).1
  refine ⟨involL A B, involL C D, nondegL A B, nondegL C D, all1 A.length (sqF A B), all1 C.length (sqF C D), isSol A B, isSol C D, ?_⟩
  exact {
    i1 := by simp [involRes, hA]
    i2 := by simp [involRes, hC]
    i3 := by simp only [involRes, hP, if_true]; rw [eX, eY]; exact pr_iv hA hC
    i4 := by simp only [involRes, hQ, if_true]; rw [eU, eV]; exact un_iv hA hC
    ic1 := by simp [pmCode', hA]
    ic2 := by simp [pmCode', hC]
    ic3 := by simp [pmCode', hP]
    ic4 := by simp [pmCode', hQ]
    n1 := by simp [ndRes, hA]
    n2 := by simp [ndRes, hC]
    n3 := by simp only [ndRes, hP, if_true]; rw [eX, eY]; exact pr_nd hA hC hs1
    n4 := by simp only [ndRes, hQ, if_true]; rw [eU, eV]; exact un_nd hA hC hs2
    nc1 := by simp [pmCodeN, hA]
    nc2 := by simp [pmCodeN, hC]
    nc3 := by simp [pmCodeN, hP]
    nc4 := by simp [pmCodeN, hQ]
    q1 := by simp [sqRes, hA]
    q2 := by simp [sqRes, hC]
    q3 := by simp only [sqRes, hP, if_true]; rw [eX, eY]; exact pr_sq hA hC
    q4 := by simp only [sqRes, hQ, if_true]; rw [eU, eV]; exact un_sq hA hC
    qc1 := by simp [pmCode, hA]
    qc2 := by simp [pmCode, hC]
    qc3 := by simp [pmCode, hP]
    qc4 := by simp [pmCode, hQ]
    s1 := rfl
    s2 := rfl
    s3 := by rw [eX, eY]; exact pr_sol hA hC hs1
    s4 := by rw [eU, eV]; exact un_sol hA hC hs2
    len := ⟨hl.1, hl.2, hl2.1, hl2.2⟩
    lA := fun h => by subst h; rw [eU, eV]; exact (sb_of (un_left hA hC hs2)).1
    lB := fun h => by subst h; rw [eU, eV]; exact (sb_of (un_left hA hC hs2)).2.1
    lC := fun h => by subst h; rw [eU, eV]; exact (sb_of (un_left hA hC hs2)).2.2
    rA := fun h k => by subst h k; rw [eU, eV]; exact (sb_of (un_right hA hC hs2)).1
    rB := fun h k => by subst h k; rw [eU, eV]; exact (sb_of (un_right hA hC hs2)).2.1
    rC := fun h k => by subst h k; rw [eU, eV]; exact (sb_of (un_right hA hC hs2)).2.2 }

set_option maxRecDepth 100000 in
set_option maxHeartbeats 16000000 in
theorem law_Products (v : Value) (bs : List Int) (w : World) (hv : Bytes w v bs) : Calls Try.prog 4 #[v] w (RVal w (.bool true)) := by
  have HV : Hid (BytesR w v bs.length) := Lib.hid hv
  obtain ⟨a, c, hva, -⟩ := hv
  subst hva
  go_enter Try.func4, Try.ntmps4
  go_wp2_with fail
  refine (c_big a bs.length c _).mono ?_; rintro e w' ⟨rfl, rfl⟩
  by_cases hbig : 4096 < bs.length
  case pos =>
    have hd : decide (4096 < bs.length) = true := by simpa using hbig
    rw [hd]; clear hd hbig
    go_wp2
    go_ret
    exact ⟨rfl, Below.refl _ _⟩
  have hd : decide (4096 < bs.length) = false := by simpa using hbig
  rw [hd]; clear hd
  go_wp2_with fail
  refine (c_DrawProduct _ bs.length _ HV.out (by omega)).mono ?_; rintro e w1 ⟨v1, v2, v3, v4, A, B, C, D, rfl, hs, ht, hb⟩
  obtain ⟨a1, l1, c1, hr1⟩ := hs.1.any
  obtain ⟨d1, m1, k1, hr2⟩ := hs.2.any
  obtain ⟨a2, l2, c2, hr3⟩ := ht.1.any
  obtain ⟨d2, m2, k2, hr4⟩ := ht.2.any
  subst hr1 hr2 hr3 hr4
  have H1 := Lib.hid (((((LS.addS (w := w) (L := []) (M := []) (Bx := []) ⟨fun e he => by simp at he, fun e he => by simp at he, fun e he => by simp at he, hb⟩ hs).addS ht)).box (.slice a1 l1 c1) (.slice d1 m1 k1)).box (.slice a2 l2 c2) (.slice d2 m2 k2))
  clear hs ht hb hbig
  obtain ⟨X, hX⟩ : ∃ X, prRA A B C D = X := ⟨_, rfl⟩
  obtain ⟨Y, hY⟩ : ∃ X, prRB A B C D = X := ⟨_, rfl⟩
  obtain ⟨q1, hq1⟩ : ∃ X, prCode A B C D = X := ⟨_, rfl⟩
  obtain ⟨U, hU⟩ : ∃ X, unRA A B C D = X := ⟨_, rfl⟩
  obtain ⟨V, hV'⟩ : ∃ X, unRB A B C D = X := ⟨_, rfl⟩
  obtain ⟨q3, hq3⟩ : ∃ X, unCode A B C D = X := ⟨_, rfl⟩
  have E := Lib.hid (And.intro (And.intro hX (And.intro hY hq1)) (And.intro hU (And.intro hV' hq3)))
  have hqq1 : (q1 != q1) = false := by simp
  have hqq3 : (q3 != q3) = false := by simp
  clear hX hY hq1 hU hV' hq3
  obtain ⟨x00, x01, -, -⟩ := two_cells (LS.getB (q := w1.heap.size) (a := .slice a1 l1 c1) (b := .slice d1 m1 k1) H1.out (by simp))
  obtain ⟨x10, x11, -, -⟩ := two_cells (LS.getB (q := w1.heap.size + 1) (a := .slice a2 l2 c2) (b := .slice d2 m2 k2) H1.out (by simp))
  go_wp2_with fail
  refine (c_ProductSolution _ _ A B _ _ C D _ ⟨H1.out.getR (X := A) (by simp), H1.out.getR (X := B) (by simp)⟩ ⟨H1.out.getR (X := C) (by simp), H1.out.getR (X := D) (by simp)⟩).mono ?_; rintro e w3 ⟨r1, r2, rfl, hs, hb⟩
  rw [E.out.1.1, E.out.1.2.1] at hs
  rw [E.out.1.2.2]
  obtain ⟨a3, l3, c3, hr1⟩ := (hs.sol).1.any
  obtain ⟨d3, m3, k3, hr2⟩ := (hs.sol).2.any
  subst hr1 hr2
  have H3 := Lib.hid (((H1.out.under hb).addS hs.sol).box (.slice a3 l3 c3) (.slice d3 m3 k3))
  clear hs hb x00 x01 x10 x11
  obtain ⟨x00, x01, -, -⟩ := two_cells (LS.getB (q := w1.heap.size) (a := .slice a1 l1 c1) (b := .slice d1 m1 k1) H3.out (by simp))
  obtain ⟨x10, x11, -, -⟩ := two_cells (LS.getB (q := w1.heap.size + 1) (a := .slice a2 l2 c2) (b := .slice d2 m2 k2) H3.out (by simp))
  go_wp2_with fail
  refine (c_specProductSolution _ _ A B _ _ C D _ ⟨H3.out.getR (X := A) (by simp), H3.out.getR (X := B) (by simp)⟩ ⟨H3.out.getR (X := C) (by simp), H3.out.getR (X := D) (by simp)⟩).mono ?_; rintro e w4 ⟨r1, r2, rfl, hs, hb⟩
  rw [E.out.1.1, E.out.1.2.1] at hs
  rw [E.out.1.2.2]
  obtain ⟨a4, l4, c4, hr1⟩ := ((⟨hs.1.rows, hs.2.rows⟩ : Sol _ _ _ _ _)).1.any
  obtain ⟨d4, m4, k4, hr2⟩ := ((⟨hs.1.rows, hs.2.rows⟩ : Sol _ _ _ _ _)).2.any
  subst hr1 hr2
  have H4 := Lib.hid (((H3.out.under hb).addS (⟨hs.1.rows, hs.2.rows⟩ : Sol _ _ _ _ _)).box (.slice a4 l4 c4) (.slice d4 m4 k4))
  clear hs hb x00 x01 x10 x11
  obtain ⟨x00, x01, -, -⟩ := two_cells (LS.getB (q := w1.heap.size) (a := .slice a1 l1 c1) (b := .slice d1 m1 k1) H4.out (by simp))
  obtain ⟨x10, x11, -, -⟩ := two_cells (LS.getB (q := w1.heap.size + 1) (a := .slice a2 l2 c2) (b := .slice d2 m2 k2) H4.out (by simp))
  go_wp2_with fail
  refine (c_UnionSolution _ _ A B _ _ C D _ ⟨H4.out.getR (X := A) (by simp), H4.out.getR (X := B) (by simp)⟩ ⟨H4.out.getR (X := C) (by simp), H4.out.getR (X := D) (by simp)⟩).mono ?_; rintro e w5 ⟨r1, r2, rfl, hs, hb⟩
  rw [E.out.2.1, E.out.2.2.1] at hs
  rw [E.out.2.2.2]
  obtain ⟨a5, l5, c5, hr1⟩ := (hs.sol).1.any
  obtain ⟨d5, m5, k5, hr2⟩ := (hs.sol).2.any
  subst hr1 hr2
  have H5 := Lib.hid (((H4.out.under hb).addS hs.sol).box (.slice a5 l5 c5) (.slice d5 m5 k5))
  clear hs hb x00 x01 x10 x11
  obtain ⟨x00, x01, -, -⟩ := two_cells (LS.getB (q := w1.heap.size) (a := .slice a1 l1 c1) (b := .slice d1 m1 k1) H5.out (by simp))
  obtain ⟨x10, x11, -, -⟩ := two_cells (LS.getB (q := w1.heap.size + 1) (a := .slice a2 l2 c2) (b := .slice d2 m2 k2) H5.out (by simp))
  go_wp2_with fail
  refine (c_specUnionSolution _ _ A B _ _ C D _ ⟨H5.out.getR (X := A) (by simp), H5.out.getR (X := B) (by simp)⟩ ⟨H5.out.getR (X := C) (by simp), H5.out.getR (X := D) (by simp)⟩).mono ?_; rintro e w6 ⟨r1, r2, rfl, hs, hb⟩
  rw [E.out.2.1, E.out.2.2.1] at hs
  rw [E.out.2.2.2]
  obtain ⟨a6, l6, c6, hr1⟩ := ((⟨hs.1.rows, hs.2.rows⟩ : Sol _ _ _ _ _)).1.any
  obtain ⟨d6, m6, k6, hr2⟩ := ((⟨hs.1.rows, hs.2.rows⟩ : Sol _ _ _ _ _)).2.any
  subst hr1 hr2
  have H6 := Lib.hid (((H5.out.under hb).addS (⟨hs.1.rows, hs.2.rows⟩ : Sol _ _ _ _ _)).box (.slice a6 l6 c6) (.slice d6 m6 k6))
  clear hs hb x00 x01 x10 x11
  obtain ⟨x00, x01, -, -⟩ := two_cells (LS.getB (q := w3.heap.size) (a := .slice a3 l3 c3) (b := .slice d3 m3 k3) H6.out (by simp))
  obtain ⟨x10, x11, -, -⟩ := two_cells (LS.getB (q := w4.heap.size) (a := .slice a4 l4 c4) (b := .slice d4 m4 k4) H6.out (by simp))
  go_wp2_with fail
  refine (c_likeSolution5 _ _ _ _ X Y X Y _ ⟨H6.out.getR (X := X) (by simp), H6.out.getR (X := Y) (by simp)⟩ ⟨H6.out.getR (X := X) (by simp), H6.out.getR (X := Y) (by simp)⟩).mono ?_; rintro e w7 ⟨rfl, hb⟩
  rw [show (decide (X = X) && decide (Y = Y)) = true from by simp]
  have H7 := Lib.hid (H6.out.under hb)
  clear hb x00 x01 x10 x11
  obtain ⟨x00, x01, -, -⟩ := two_cells (LS.getB (q := w5.heap.size) (a := .slice a5 l5 c5) (b := .slice d5 m5 k5) H7.out (by simp))
  obtain ⟨x10, x11, -, -⟩ := two_cells (LS.getB (q := w6.heap.size) (a := .slice a6 l6 c6) (b := .slice d6 m6 k6) H7.out (by simp))
  go_wp2_with fail
  refine (c_likeSolution5 _ _ _ _ U V U V _ ⟨H7.out.getR (X := U) (by simp), H7.out.getR (X := V) (by simp)⟩ ⟨H7.out.getR (X := U) (by simp), H7.out.getR (X := V) (by simp)⟩).mono ?_; rintro e w8 ⟨rfl, hb⟩
  rw [show (decide (U = U) && decide (V = V)) = true from by simp]
  have H8 := Lib.hid (H7.out.under hb)
  clear hb x00 x01 x10 x11
  by_cases h1 : q1 = 0
  case neg =>
    have hb1 : (q1 != 0) = true := by simpa using h1
    go_wp2
    go_ret
    exact ⟨rfl, H8.out.2.2.2⟩
  subst h1
  by_cases h3 : q3 = 0
  case neg =>
    have hb3 : (q3 != 0) = true := by simpa using h3
    go_wp2
    go_ret
    exact ⟨rfl, H8.out.2.2.2⟩
  subst h3
  clear hqq1 hqq3
  obtain ⟨ia, ib, na, nb, qa, qb, sa, sb, hF⟩ := pr_facts E.out.1.1 E.out.1.2.1 E.out.1.2.2 E.out.2.1 E.out.2.2.1 E.out.2.2.2
  have F := Lib.hid hF
  clear hF E
  obtain ⟨x00, x01, -, -⟩ := two_cells (LS.getB (q := w1.heap.size) (a := .slice a1 l1 c1) (b := .slice d1 m1 k1) H8.out (by simp))
  go_wp2_with fail
  refine (c_IsInvolutive _ _ A B _ ⟨H8.out.getR (X := A) (by simp), H8.out.getR (X := B) (by simp)⟩).mono ?_; rintro e w9 ⟨rfl, hb⟩
  rw [F.out.i1, F.out.ic1]
  have H9 := Lib.hid (H8.out.under hb)
  clear hb x00 x01
  obtain ⟨x00, x01, -, -⟩ := two_cells (LS.getB (q := w1.heap.size + 1) (a := .slice a2 l2 c2) (b := .slice d2 m2 k2) H9.out (by simp))
  go_wp2_with fail
  refine (c_IsInvolutive _ _ C D _ ⟨H9.out.getR (X := C) (by simp), H9.out.getR (X := D) (by simp)⟩).mono ?_; rintro e w10 ⟨rfl, hb⟩
  rw [F.out.i2, F.out.ic2]
  have H10 := Lib.hid (H9.out.under hb)
  clear hb x00 x01
  obtain ⟨x00, x01, -, -⟩ := two_cells (LS.getB (q := w3.heap.size) (a := .slice a3 l3 c3) (b := .slice d3 m3 k3) H10.out (by simp))
  go_wp2_with fail
  refine (c_IsInvolutive _ _ X Y _ ⟨H10.out.getR (X := X) (by simp), H10.out.getR (X := Y) (by simp)⟩).mono ?_; rintro e w11 ⟨rfl, hb⟩
  rw [F.out.i3, F.out.ic3]
  have H11 := Lib.hid (H10.out.under hb)
  clear hb x00 x01
  obtain ⟨x00, x01, -, -⟩ := two_cells (LS.getB (q := w5.heap.size) (a := .slice a5 l5 c5) (b := .slice d5 m5 k5) H11.out (by simp))
  go_wp2_with fail
  refine (c_IsInvolutive _ _ U V _ ⟨H11.out.getR (X := U) (by simp), H11.out.getR (X := V) (by simp)⟩).mono ?_; rintro e w12 ⟨rfl, hb⟩
  rw [F.out.i4, F.out.ic4]
  have H12 := Lib.hid (H11.out.under hb)
  clear hb x00 x01
  obtain ⟨x00, x01, -, -⟩ := two_cells (LS.getB (q := w1.heap.size) (a := .slice a1 l1 c1) (b := .slice d1 m1 k1) H12.out (by simp))
  go_wp2_with fail
  refine (c_IsNondegenerate _ _ A B _ ⟨H12.out.getR (X := A) (by simp), H12.out.getR (X := B) (by simp)⟩).mono ?_; rintro e w13 ⟨rfl, hb⟩
  rw [F.out.n1, F.out.nc1]
  have H13 := Lib.hid (H12.out.under hb)
  clear hb x00 x01
  obtain ⟨x00, x01, -, -⟩ := two_cells (LS.getB (q := w1.heap.size + 1) (a := .slice a2 l2 c2) (b := .slice d2 m2 k2) H13.out (by simp))
  go_wp2_with fail
  refine (c_IsNondegenerate _ _ C D _ ⟨H13.out.getR (X := C) (by simp), H13.out.getR (X := D) (by simp)⟩).mono ?_; rintro e w14 ⟨rfl, hb⟩
  rw [F.out.n2, F.out.nc2]
  have H14 := Lib.hid (H13.out.under hb)
  clear hb x00 x01
  obtain ⟨x00, x01, -, -⟩ := two_cells (LS.getB (q := w3.heap.size) (a := .slice a3 l3 c3) (b := .slice d3 m3 k3) H14.out (by simp))
  go_wp2_with fail
  refine (c_IsNondegenerate _ _ X Y _ ⟨H14.out.getR (X := X) (by simp), H14.out.getR (X := Y) (by simp)⟩).mono ?_; rintro e w15 ⟨rfl, hb⟩
  rw [F.out.n3, F.out.nc3]
  have H15 := Lib.hid (H14.out.under hb)
  clear hb x00 x01
  obtain ⟨x00, x01, -, -⟩ := two_cells (LS.getB (q := w5.heap.size) (a := .slice a5 l5 c5) (b := .slice d5 m5 k5) H15.out (by simp))
  go_wp2_with fail
  refine (c_IsNondegenerate _ _ U V _ ⟨H15.out.getR (X := U) (by simp), H15.out.getR (X := V) (by simp)⟩).mono ?_; rintro e w16 ⟨rfl, hb⟩
  rw [F.out.n4, F.out.nc4]
  have H16 := Lib.hid (H15.out.under hb)
  clear hb x00 x01
  go_upto_region 20 with fail
  refine wp_region_lit ?_
  refine wpList_cut 34 ?_
  simp only [List.take, List.drop]
  go_wp2_with fail
  refine upTo_normal ⟨?_⟩
  (refine wpList_and ia ib ?_ ?_ ?_ ?_ ?_ ?_; all_goals first | exact rfl | exact fun _ => rfl | (cases ia <;> exact rfl) | intro vand200)
  refine wpList_cut 11 ?_
  simp only [List.take, List.drop]
  go_wp2_with fail
  refine upTo_normal ⟨?_⟩
  (refine wpList_and na nb ?_ ?_ ?_ ?_ ?_ ?_; all_goals first | exact rfl | exact fun _ => rfl | (cases na <;> exact rfl) | intro vand201)
  obtain ⟨x00, x01, -, -⟩ := two_cells (LS.getB (q := w1.heap.size) (a := .slice a1 l1 c1) (b := .slice d1 m1 k1) H16.out (by simp))
  go_wp2_with fail
  refine (c_IsSquareFree _ _ A B _ ⟨H16.out.getR (X := A) (by simp), H16.out.getR (X := B) (by simp)⟩).mono ?_; rintro e w17 ⟨rfl, hb⟩
  rw [F.out.q1, F.out.qc1]
  have H17 := Lib.hid (H16.out.under hb)
  clear hb x00 x01
  obtain ⟨x00, x01, -, -⟩ := two_cells (LS.getB (q := w1.heap.size + 1) (a := .slice a2 l2 c2) (b := .slice d2 m2 k2) H17.out (by simp))
  go_wp2_with fail
  refine (c_IsSquareFree _ _ C D _ ⟨H17.out.getR (X := C) (by simp), H17.out.getR (X := D) (by simp)⟩).mono ?_; rintro e w18 ⟨rfl, hb⟩
  rw [F.out.q2, F.out.qc2]
  have H18 := Lib.hid (H17.out.under hb)
  clear hb x00 x01
  obtain ⟨x00, x01, -, -⟩ := two_cells (LS.getB (q := w3.heap.size) (a := .slice a3 l3 c3) (b := .slice d3 m3 k3) H18.out (by simp))
  go_wp2_with fail
  refine (c_IsSquareFree _ _ X Y _ ⟨H18.out.getR (X := X) (by simp), H18.out.getR (X := Y) (by simp)⟩).mono ?_; rintro e w19 ⟨rfl, hb⟩
  rw [F.out.q3, F.out.qc3]
  have H19 := Lib.hid (H18.out.under hb)
  clear hb x00 x01
  obtain ⟨x00, x01, -, -⟩ := two_cells (LS.getB (q := w5.heap.size) (a := .slice a5 l5 c5) (b := .slice d5 m5 k5) H19.out (by simp))
  go_wp2_with fail
  refine (c_IsSquareFree _ _ U V _ ⟨H19.out.getR (X := U) (by simp), H19.out.getR (X := V) (by simp)⟩).mono ?_; rintro e w20 ⟨rfl, hb⟩
  rw [F.out.q4, F.out.qc4]
  have H20 := Lib.hid (H19.out.under hb)
  clear hb x00 x01
  go_upto_region 26 with fail
  refine wp_region_lit ?_
  refine wpList_cut 18 ?_
  simp only [List.take, List.drop]
  go_wp2_with fail
  refine upTo_normal ⟨?_⟩
  (refine wpList_and qa qb ?_ ?_ ?_ ?_ ?_ ?_; all_goals first | exact rfl | exact fun _ => rfl | (cases qa <;> exact rfl) | intro vand260)
  obtain ⟨sg, hsg⟩ : ∃ sg, (sa && sb) = sg := ⟨_, rfl⟩
  have hgg : (sg != sg) = false := by simp
  have HSg := Lib.hid hsg
  clear hsg
  obtain ⟨x00, x01, -, -⟩ := two_cells (LS.getB (q := w1.heap.size) (a := .slice a1 l1 c1) (b := .slice d1 m1 k1) H20.out (by simp))
  go_wp2_with fail
  refine (c_specIsSolution _ _ A B _ ⟨H20.out.getR (X := A) (by simp), H20.out.getR (X := B) (by simp)⟩).mono ?_; rintro e w21 ⟨rfl, hb⟩
  rw [F.out.s1]
  have H21 := Lib.hid (H20.out.under hb)
  clear hb x00 x01
  by_cases hsa : sa = true
  · subst hsa
    have hsb : sb = sg := by have := HSg.out; simpa using this
    subst hsb
    obtain ⟨x00, x01, -, -⟩ := two_cells (LS.getB (q := w1.heap.size + 1) (a := .slice a2 l2 c2) (b := .slice d2 m2 k2) H21.out (by simp))
    go_wp2_with fail
    refine (c_specIsSolution _ _ C D _ ⟨H21.out.getR (X := C) (by simp), H21.out.getR (X := D) (by simp)⟩).mono ?_; rintro e w22 ⟨rfl, hb⟩
    rw [F.out.s2]
    have H22 := Lib.hid (H21.out.under hb)
    clear hb x00 x01
    obtain ⟨x00, x01, -, -⟩ := two_cells (LS.getB (q := w3.heap.size) (a := .slice a3 l3 c3) (b := .slice d3 m3 k3) H22.out (by simp))
    go_wp2_with fail
    refine (c_IsSolution _ _ X Y _ ⟨H22.out.getR (X := X) (by simp), H22.out.getR (X := Y) (by simp)⟩).mono ?_; rintro e w23 ⟨rfl, hb⟩
    rw [F.out.s3, HSg.out]
    have H23 := Lib.hid (H22.out.under hb)
    clear hb x00 x01
    obtain ⟨x00, x01, -, -⟩ := two_cells (LS.getB (q := w5.heap.size) (a := .slice a5 l5 c5) (b := .slice d5 m5 k5) H23.out (by simp))
    go_wp2_with fail
    refine (c_IsSolution _ _ U V _ ⟨H23.out.getR (X := U) (by simp), H23.out.getR (X := V) (by simp)⟩).mono ?_; rintro e w24 ⟨rfl, hb⟩
    rw [F.out.s4, HSg.out]
    have H24 := Lib.hid (H23.out.under hb)
    clear hb x00 x01
    obtain ⟨n, hn⟩ : ∃ n, A.length = n := ⟨_, rfl⟩
    obtain ⟨m, hm⟩ : ∃ n, C.length = n := ⟨_, rfl⟩
    obtain ⟨hn1, hn2, hm1, hm2⟩ := F.out.len
    rw [hn] at hn1 hn2
    rw [hm] at hm1 hm2
    have HN := Lib.hid (And.intro hn hm)
    have hl1 : l1 = n := by
      obtain ⟨_, _, h, _⟩ := (H24.out.getR (v := .slice a1 l1 c1) (X := A) (by simp)).shape
      injection h with _ h; omega
    have hl2 : l2 = m := by
      obtain ⟨_, _, h, _⟩ := (H24.out.getR (v := .slice a2 l2 c2) (X := C) (by simp)).shape
      injection h with _ h; omega
    subst hl1 hl2
    clear hn hm
    have hba : Below w24.heap.size w24 ((w24.alloc (.cells #[] 2)).alloc (.cells #[] 2)) := ((Below.refl _ _).alloc (Nat.le_refl _) _).alloc (by simp) _
    have HO1 := Lib.hid ((Own.made0 (B := w24.heap.size) w24 (Nat.le_refl _)).under ((Below.refl _ _).alloc (Nat.le_refl _) (.cells #[] 2)))
    have ho2 := Own.made0 (B := w24.heap.size) (w24.alloc (.cells #[] 2)) (by simp)
    rw [show (w24.alloc (.cells #[] 2)).heap.size = w24.heap.size + 1 from by simp] at ho2
    have HO2 := Lib.hid ho2
    clear ho2
    have HB0 := Lib.hid hba
    clear hba
    have HCe := Lib.hid (show ∀ W', Below w24.heap.size w24 W' → (W'.cell? ⟨w1.heap.size, 0, none⟩ = some (.slice a1 l1 c1) ∧ W'.cell? ⟨w1.heap.size + 1, 0, none⟩ = some (.slice a2 l2 c2)) from fun W' k => by
      obtain ⟨x0, -, -, -⟩ := two_cells (LS.getB (q := w1.heap.size) (a := .slice a1 l1 c1) (b := .slice d1 m1 k1) (H24.out.under k) (by simp))
      obtain ⟨y0, -, -, -⟩ := two_cells (LS.getB (q := w1.heap.size + 1) (a := .slice a2 l2 c2) (b := .slice d2 m2 k2) (H24.out.under k) (by simp))
      exact ⟨x0, y0⟩)
    go_wp2
    go_loopw [38, 39, 40] (fun f s i wr => ∃ (k lf ls : Nat) (fa sa' : Option Addr) (fc sc : Nat), k ≤ l1 + l2 ∧ i = .int .i64 k ∧ f = .slice fa lf fc ∧ s = .slice sa' ls sc ∧ (lf = if k < l1 then k else l1) ∧ ls = k - l1 ∧ Hid (Own w24.heap.size wr (.slice fa lf fc) (from' 0 lf) ∧ Own w24.heap.size wr (.slice sa' ls sc) (from' l1 ls) ∧ ((Value.slice fa lf fc).ownBlock = none ∨ (Value.slice fa lf fc).ownBlock ≠ (Value.slice sa' ls sc).ownBlock)) ∧ Hid (Below w24.heap.size w24 wr)) (fun _ _ i _ => l1 + l2 - (intOf i).toNat)
    case atStart => exact ⟨0, 0, 0, _, _, _, _, Nat.zero_le _, rfl, rfl, rfl, by split <;> omega, by omega, Lib.hid ⟨by first | exact HO1.out | exact HO1.out.under (below_drewN (Below.refl _ _) _), by first | exact HO2.out | exact HO2.out.under (below_drewN (Below.refl _ _) _), .inr (by simp [Value.ownBlock])⟩, by first | exact HB0 | exact Lib.hid (below_drewN HB0.out _)⟩
    case round =>
      clear HO1 HO2 HB0
      obtain ⟨k, lf, ls, fa, sa', fc, sc, hk, rfl, rfl, rfl, hlf, hls, HT, HB⟩ := hrel
      obtain ⟨wo, rfl⟩ : ∃ wo : World, wo = wr := ⟨_, rfl⟩
      obtain ⟨zc0, zc1⟩ := HCe.out wo HB.out
      by_cases hlt : k < l1 + l2
      · have hltI : (k : Int) < (l1 : Int) + (l2 : Int) := by omega
        obtain ⟨wq, rfl⟩ : ∃ wq : World, wq = wo := ⟨_, rfl⟩
        have HBq := Lib.hid HB.out
        have HTq := Lib.hid HT.out
        clear zc0 zc1 HT HB
        obtain ⟨zc0, zc1⟩ := HCe.out wq HBq.out
        have hsz : w24.heap.size ≤ wq.heap.size := HBq.out.size
        by_cases hf : k < l1
        · have hlf2 : lf = k := by rw [hlf, if_pos hf]
          have hls2 : ls = 0 := by omega
          clear hlf hls
          subst hlf2 hls2
          have hfI : (lf : Int) < (l1 : Int) := by omega
          go_wp2_with (at_builtin; refine wpList_app_int2 w24.heap.size wq _ (from' 0 lf) (lf : Int) _ _ wq.heap.size rfl rfl rfl rfl HTq.out.1 rfl (by rw [from_len]; omega) hsz ?_; intro ga gc w9 hown hkeep hor; rw [from_len] at hown; rw [from_len]; have HOwn := Lib.hid hown; have HKp := Lib.hid hkeep; have HOr := Lib.hid hor; clear hown hkeep hor)
          go_roundw
          case rel =>
            refine ⟨lf + 1, lf + 1, 0, some ⟨ga, 0, none⟩, sa', gc, sc, by omega, by go_num, rfl, rfl, by split <;> omega, by omega, Lib.hid (two_first HTq.out HOwn.out HKp.out HOr.out from_zero), Lib.hid (HTq.out.1.frame HBq.out (Nat.le_refl _) hsz HKp.out)⟩
          case measure => simp [intOf]; omega
        · have hlf2 : lf = l1 := by rw [hlf, if_neg hf]
          subst hlf2
          obtain ⟨j, rfl⟩ : ∃ j, k = lf + j := ⟨k - lf, by omega⟩
          have hls2 : ls = j := by omega
          subst hls2
          have hfI : ¬ ((lf : Int) + (ls : Int) < (lf : Int)) := by omega
          clear hlf hls
          go_wp2_with (at_builtin; refine wpList_app_int2 w24.heap.size wq _ (from' lf ls) ((lf : Int) + ls) _ _ wq.heap.size rfl rfl rfl rfl HTq.out.2.1 rfl (by rw [from_len]; omega) hsz ?_; intro ga gc w9 hown hkeep hor; rw [from_len] at hown; rw [from_len]; have HOwn := Lib.hid hown; have HKp := Lib.hid hkeep; have HOr := Lib.hid hor; clear hown hkeep hor)
          go_roundw
          case rel =>
            refine ⟨lf + ls + 1, lf, ls + 1, fa, some ⟨ga, 0, none⟩, fc, gc, by omega, by go_num, rfl, rfl, by split <;> omega, by omega, Lib.hid (two_second HTq.out HOwn.out HKp.out HOr.out from_snoc), Lib.hid (HTq.out.2.1.frame HBq.out (Nat.le_refl _) hsz HKp.out)⟩
          case measure => simp [intOf]; omega
      · obtain rfl : k = l1 + l2 := by omega
        have hlf2 : lf = l1 := by rw [hlf, if_neg (by omega)]
        have hls2 : ls = l2 := by omega
        subst hlf2 hls2
        have hltI : ¬ ((lf : Int) + (ls : Int) < (lf : Int) + (ls : Int)) := by omega
        clear hlf hls
        obtain ⟨wq, rfl⟩ : ∃ wq : World, wq = wo := ⟨_, rfl⟩
        have HBq := Lib.hid HB.out
        have HTq := Lib.hid HT.out
        have HFin := Lib.hid (((H24.out.under HBq.out).addI HTq.out.2.1.ints).addI HTq.out.1.ints)
        clear HT HB
        obtain ⟨x00, x01, -, -⟩ := two_cells (LS.getB (q := w5.heap.size) (a := .slice a5 l5 c5) (b := .slice d5 m5 k5) HFin.out (by simp))
        go_wp2_with fail
        refine (c_SubSolution _ _ U V _ (from' 0 lf) _ ⟨HFin.out.getR (X := U) (by simp), HFin.out.getR (X := V) (by simp)⟩ (HFin.out.getI (xs := from' 0 lf) (by simp))).mono ?_; rintro e w26 ⟨r1, r2, rfl, hs, hb⟩
        rw [(F.out.lA HN.out.1), (F.out.lB HN.out.1)] at hs
        rw [(F.out.lC HN.out.1)]
        obtain ⟨a26, l26, c26, hr1⟩ := (hs.sol).1.any
        obtain ⟨d26, m26, k26, hr2⟩ := (hs.sol).2.any
        subst hr1 hr2
        have H26 := Lib.hid (((HFin.out.under hb).addS hs.sol).box (.slice a26 l26 c26) (.slice d26 m26 k26))
        clear hs hb x00 x01
        obtain ⟨x00, x01, -, -⟩ := two_cells (LS.getB (q := w5.heap.size) (a := .slice a5 l5 c5) (b := .slice d5 m5 k5) H26.out (by simp))
        go_wp2_with fail
        refine (c_SubSolution _ _ U V _ (from' lf ls) _ ⟨H26.out.getR (X := U) (by simp), H26.out.getR (X := V) (by simp)⟩ (H26.out.getI (xs := from' lf ls) (by simp))).mono ?_; rintro e w27 ⟨r1, r2, rfl, hs, hb⟩
        rw [(F.out.rA HN.out.1 HN.out.2), (F.out.rB HN.out.1 HN.out.2)] at hs
        rw [(F.out.rC HN.out.1 HN.out.2)]
        obtain ⟨a27, l27, c27, hr1⟩ := (hs.sol).1.any
        obtain ⟨d27, m27, k27, hr2⟩ := (hs.sol).2.any
        subst hr1 hr2
        have H27 := Lib.hid (((H26.out.under hb).addS hs.sol).box (.slice a27 l27 c27) (.slice d27 m27 k27))
        clear hs hb x00 x01
        obtain ⟨x00, x01, -, -⟩ := two_cells (LS.getB (q := w26.heap.size) (a := .slice a26 l26 c26) (b := .slice d26 m26 k26) H27.out (by simp))
        obtain ⟨x10, x11, -, -⟩ := two_cells (LS.getB (q := w1.heap.size) (a := .slice a1 lf c1) (b := .slice d1 m1 k1) H27.out (by simp))
        go_wp2_with fail
        refine (c_likeSolution5 _ _ _ _ A B A B _ ⟨H27.out.getR (X := A) (by simp), H27.out.getR (X := B) (by simp)⟩ ⟨H27.out.getR (X := A) (by simp), H27.out.getR (X := B) (by simp)⟩).mono ?_; rintro e w28 ⟨rfl, hb⟩
        rw [show (decide (A = A) && decide (B = B)) = true from by simp]
        have H28 := Lib.hid (H27.out.under hb)
        clear hb x00 x01 x10 x11
        obtain ⟨x00, x01, -, -⟩ := two_cells (LS.getB (q := w27.heap.size) (a := .slice a27 l27 c27) (b := .slice d27 m27 k27) H28.out (by simp))
        obtain ⟨x10, x11, -, -⟩ := two_cells (LS.getB (q := w1.heap.size + 1) (a := .slice a2 ls c2) (b := .slice d2 m2 k2) H28.out (by simp))
        go_wp2_with fail
        refine (c_likeSolution5 _ _ _ _ C D C D _ ⟨H28.out.getR (X := C) (by simp), H28.out.getR (X := D) (by simp)⟩ ⟨H28.out.getR (X := C) (by simp), H28.out.getR (X := D) (by simp)⟩).mono ?_; rintro e w29 ⟨rfl, hb⟩
        rw [show (decide (C = C) && decide (D = D)) = true from by simp]
        have H29 := Lib.hid (H28.out.under hb)
        clear hb x00 x01 x10 x11
        go_wp2
        go_ret
        exact ⟨rfl, H29.out.2.2.2⟩
  · have hsa : sa = false := by simpa using hsa
    subst hsa
    have hsb : sg = false := by have := HSg.out; simp at this; first | exact this | exact this.symm
    subst hsb
    obtain ⟨x00, x01, -, -⟩ := two_cells (LS.getB (q := w3.heap.size) (a := .slice a3 l3 c3) (b := .slice d3 m3 k3) H21.out (by simp))
    go_wp2_with fail
    refine (c_IsSolution _ _ X Y _ ⟨H21.out.getR (X := X) (by simp), H21.out.getR (X := Y) (by simp)⟩).mono ?_; rintro e w22 ⟨rfl, hb⟩
    rw [F.out.s3, HSg.out]
    have H22 := Lib.hid (H21.out.under hb)
    clear hb x00 x01
    obtain ⟨x00, x01, -, -⟩ := two_cells (LS.getB (q := w5.heap.size) (a := .slice a5 l5 c5) (b := .slice d5 m5 k5) H22.out (by simp))
    go_wp2_with fail
    refine (c_IsSolution _ _ U V _ ⟨H22.out.getR (X := U) (by simp), H22.out.getR (X := V) (by simp)⟩).mono ?_; rintro e w23 ⟨rfl, hb⟩
    rw [F.out.s4, HSg.out]
    have H23 := Lib.hid (H22.out.under hb)
    clear hb x00 x01
    obtain ⟨n, hn⟩ : ∃ n, A.length = n := ⟨_, rfl⟩
    obtain ⟨m, hm⟩ : ∃ n, C.length = n := ⟨_, rfl⟩
    obtain ⟨hn1, hn2, hm1, hm2⟩ := F.out.len
    rw [hn] at hn1 hn2
    rw [hm] at hm1 hm2
    have HN := Lib.hid (And.intro hn hm)
    have hl1 : l1 = n := by
      obtain ⟨_, _, h, _⟩ := (H23.out.getR (v := .slice a1 l1 c1) (X := A) (by simp)).shape
      injection h with _ h; omega
    have hl2 : l2 = m := by
      obtain ⟨_, _, h, _⟩ := (H23.out.getR (v := .slice a2 l2 c2) (X := C) (by simp)).shape
      injection h with _ h; omega
    subst hl1 hl2
    clear hn hm
    have hba : Below w23.heap.size w23 ((w23.alloc (.cells #[] 2)).alloc (.cells #[] 2)) := ((Below.refl _ _).alloc (Nat.le_refl _) _).alloc (by simp) _
    have HO1 := Lib.hid ((Own.made0 (B := w23.heap.size) w23 (Nat.le_refl _)).under ((Below.refl _ _).alloc (Nat.le_refl _) (.cells #[] 2)))
    have ho2 := Own.made0 (B := w23.heap.size) (w23.alloc (.cells #[] 2)) (by simp)
    rw [show (w23.alloc (.cells #[] 2)).heap.size = w23.heap.size + 1 from by simp] at ho2
    have HO2 := Lib.hid ho2
    clear ho2
    have HB0 := Lib.hid hba
    clear hba
    have HCe := Lib.hid (show ∀ W', Below w23.heap.size w23 W' → (W'.cell? ⟨w1.heap.size, 0, none⟩ = some (.slice a1 l1 c1) ∧ W'.cell? ⟨w1.heap.size + 1, 0, none⟩ = some (.slice a2 l2 c2)) from fun W' k => by
      obtain ⟨x0, -, -, -⟩ := two_cells (LS.getB (q := w1.heap.size) (a := .slice a1 l1 c1) (b := .slice d1 m1 k1) (H23.out.under k) (by simp))
      obtain ⟨y0, -, -, -⟩ := two_cells (LS.getB (q := w1.heap.size + 1) (a := .slice a2 l2 c2) (b := .slice d2 m2 k2) (H23.out.under k) (by simp))
      exact ⟨x0, y0⟩)
    go_wp2
    go_loopw [38, 39, 40] (fun f s i wr => ∃ (k lf ls : Nat) (fa sa' : Option Addr) (fc sc : Nat), k ≤ l1 + l2 ∧ i = .int .i64 k ∧ f = .slice fa lf fc ∧ s = .slice sa' ls sc ∧ (lf = if k < l1 then k else l1) ∧ ls = k - l1 ∧ Hid (Own w23.heap.size wr (.slice fa lf fc) (from' 0 lf) ∧ Own w23.heap.size wr (.slice sa' ls sc) (from' l1 ls) ∧ ((Value.slice fa lf fc).ownBlock = none ∨ (Value.slice fa lf fc).ownBlock ≠ (Value.slice sa' ls sc).ownBlock)) ∧ Hid (Below w23.heap.size w23 wr)) (fun _ _ i _ => l1 + l2 - (intOf i).toNat)
    case atStart => exact ⟨0, 0, 0, _, _, _, _, Nat.zero_le _, rfl, rfl, rfl, by split <;> omega, by omega, Lib.hid ⟨by first | exact HO1.out | exact HO1.out.under (below_drewN (Below.refl _ _) _), by first | exact HO2.out | exact HO2.out.under (below_drewN (Below.refl _ _) _), .inr (by simp [Value.ownBlock])⟩, by first | exact HB0 | exact Lib.hid (below_drewN HB0.out _)⟩
    case round =>
      clear HO1 HO2 HB0
      obtain ⟨k, lf, ls, fa, sa', fc, sc, hk, rfl, rfl, rfl, hlf, hls, HT, HB⟩ := hrel
      obtain ⟨wo, rfl⟩ : ∃ wo : World, wo = wr := ⟨_, rfl⟩
      obtain ⟨zc0, zc1⟩ := HCe.out wo HB.out
      by_cases hlt : k < l1 + l2
      · have hltI : (k : Int) < (l1 : Int) + (l2 : Int) := by omega
        obtain ⟨wq, rfl⟩ : ∃ wq : World, wq = wo := ⟨_, rfl⟩
        have HBq := Lib.hid HB.out
        have HTq := Lib.hid HT.out
        clear zc0 zc1 HT HB
        obtain ⟨zc0, zc1⟩ := HCe.out wq HBq.out
        have hsz : w23.heap.size ≤ wq.heap.size := HBq.out.size
        by_cases hf : k < l1
        · have hlf2 : lf = k := by rw [hlf, if_pos hf]
          have hls2 : ls = 0 := by omega
          clear hlf hls
          subst hlf2 hls2
          have hfI : (lf : Int) < (l1 : Int) := by omega
          go_wp2_with (at_builtin; refine wpList_app_int2 w23.heap.size wq _ (from' 0 lf) (lf : Int) _ _ wq.heap.size rfl rfl rfl rfl HTq.out.1 rfl (by rw [from_len]; omega) hsz ?_; intro ga gc w9 hown hkeep hor; rw [from_len] at hown; rw [from_len]; have HOwn := Lib.hid hown; have HKp := Lib.hid hkeep; have HOr := Lib.hid hor; clear hown hkeep hor)
          go_roundw
          case rel =>
            refine ⟨lf + 1, lf + 1, 0, some ⟨ga, 0, none⟩, sa', gc, sc, by omega, by go_num, rfl, rfl, by split <;> omega, by omega, Lib.hid (two_first HTq.out HOwn.out HKp.out HOr.out from_zero), Lib.hid (HTq.out.1.frame HBq.out (Nat.le_refl _) hsz HKp.out)⟩
          case measure => simp [intOf]; omega
        · have hlf2 : lf = l1 := by rw [hlf, if_neg hf]
          subst hlf2
          obtain ⟨j, rfl⟩ : ∃ j, k = lf + j := ⟨k - lf, by omega⟩
          have hls2 : ls = j := by omega
          subst hls2
          have hfI : ¬ ((lf : Int) + (ls : Int) < (lf : Int)) := by omega
          clear hlf hls
          go_wp2_with (at_builtin; refine wpList_app_int2 w23.heap.size wq _ (from' lf ls) ((lf : Int) + ls) _ _ wq.heap.size rfl rfl rfl rfl HTq.out.2.1 rfl (by rw [from_len]; omega) hsz ?_; intro ga gc w9 hown hkeep hor; rw [from_len] at hown; rw [from_len]; have HOwn := Lib.hid hown; have HKp := Lib.hid hkeep; have HOr := Lib.hid hor; clear hown hkeep hor)
          go_roundw
          case rel =>
            refine ⟨lf + ls + 1, lf, ls + 1, fa, some ⟨ga, 0, none⟩, fc, gc, by omega, by go_num, rfl, rfl, by split <;> omega, by omega, Lib.hid (two_second HTq.out HOwn.out HKp.out HOr.out from_snoc), Lib.hid (HTq.out.2.1.frame HBq.out (Nat.le_refl _) hsz HKp.out)⟩
          case measure => simp [intOf]; omega
      · obtain rfl : k = l1 + l2 := by omega
        have hlf2 : lf = l1 := by rw [hlf, if_neg (by omega)]
        have hls2 : ls = l2 := by omega
        subst hlf2 hls2
        have hltI : ¬ ((lf : Int) + (ls : Int) < (lf : Int) + (ls : Int)) := by omega
        clear hlf hls
        obtain ⟨wq, rfl⟩ : ∃ wq : World, wq = wo := ⟨_, rfl⟩
        have HBq := Lib.hid HB.out
        have HTq := Lib.hid HT.out
        have HFin := Lib.hid (((H23.out.under HBq.out).addI HTq.out.2.1.ints).addI HTq.out.1.ints)
        clear HT HB
        obtain ⟨x00, x01, -, -⟩ := two_cells (LS.getB (q := w5.heap.size) (a := .slice a5 l5 c5) (b := .slice d5 m5 k5) HFin.out (by simp))
        go_wp2_with fail
        refine (c_SubSolution _ _ U V _ (from' 0 lf) _ ⟨HFin.out.getR (X := U) (by simp), HFin.out.getR (X := V) (by simp)⟩ (HFin.out.getI (xs := from' 0 lf) (by simp))).mono ?_; rintro e w25 ⟨r1, r2, rfl, hs, hb⟩
        rw [(F.out.lA HN.out.1), (F.out.lB HN.out.1)] at hs
        rw [(F.out.lC HN.out.1)]
        obtain ⟨a25, l25, c25, hr1⟩ := (hs.sol).1.any
        obtain ⟨d25, m25, k25, hr2⟩ := (hs.sol).2.any
        subst hr1 hr2
        have H25 := Lib.hid (((HFin.out.under hb).addS hs.sol).box (.slice a25 l25 c25) (.slice d25 m25 k25))
        clear hs hb x00 x01
        obtain ⟨x00, x01, -, -⟩ := two_cells (LS.getB (q := w5.heap.size) (a := .slice a5 l5 c5) (b := .slice d5 m5 k5) H25.out (by simp))
        go_wp2_with fail
        refine (c_SubSolution _ _ U V _ (from' lf ls) _ ⟨H25.out.getR (X := U) (by simp), H25.out.getR (X := V) (by simp)⟩ (H25.out.getI (xs := from' lf ls) (by simp))).mono ?_; rintro e w26 ⟨r1, r2, rfl, hs, hb⟩
        rw [(F.out.rA HN.out.1 HN.out.2), (F.out.rB HN.out.1 HN.out.2)] at hs
        rw [(F.out.rC HN.out.1 HN.out.2)]
        obtain ⟨a26, l26, c26, hr1⟩ := (hs.sol).1.any
        obtain ⟨d26, m26, k26, hr2⟩ := (hs.sol).2.any
        subst hr1 hr2
        have H26 := Lib.hid (((H25.out.under hb).addS hs.sol).box (.slice a26 l26 c26) (.slice d26 m26 k26))
        clear hs hb x00 x01
        obtain ⟨x00, x01, -, -⟩ := two_cells (LS.getB (q := w25.heap.size) (a := .slice a25 l25 c25) (b := .slice d25 m25 k25) H26.out (by simp))
        obtain ⟨x10, x11, -, -⟩ := two_cells (LS.getB (q := w1.heap.size) (a := .slice a1 lf c1) (b := .slice d1 m1 k1) H26.out (by simp))
        go_wp2_with fail
        refine (c_likeSolution5 _ _ _ _ A B A B _ ⟨H26.out.getR (X := A) (by simp), H26.out.getR (X := B) (by simp)⟩ ⟨H26.out.getR (X := A) (by simp), H26.out.getR (X := B) (by simp)⟩).mono ?_; rintro e w27 ⟨rfl, hb⟩
        rw [show (decide (A = A) && decide (B = B)) = true from by simp]
        have H27 := Lib.hid (H26.out.under hb)
        clear hb x00 x01 x10 x11
        obtain ⟨x00, x01, -, -⟩ := two_cells (LS.getB (q := w26.heap.size) (a := .slice a26 l26 c26) (b := .slice d26 m26 k26) H27.out (by simp))
        obtain ⟨x10, x11, -, -⟩ := two_cells (LS.getB (q := w1.heap.size + 1) (a := .slice a2 ls c2) (b := .slice d2 m2 k2) H27.out (by simp))
        go_wp2_with fail
        refine (c_likeSolution5 _ _ _ _ C D C D _ ⟨H27.out.getR (X := C) (by simp), H27.out.getR (X := D) (by simp)⟩ ⟨H27.out.getR (X := C) (by simp), H27.out.getR (X := D) (by simp)⟩).mono ?_; rintro e w28 ⟨rfl, hb⟩
        rw [show (decide (C = C) && decide (D = D)) = true from by simp]
        have H28 := Lib.hid (H27.out.under hb)
        clear hb x00 x01 x10 x11
        go_wp2
        go_ret
        exact ⟨rfl, H28.out.2.2.2⟩
end Go.Proofs.Ytkghonhghbcdlaa
