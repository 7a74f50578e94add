/-
  The walks behind the law FnClosedSets, joined into texts.
-/
import Derived.Test.YtkghonhghbcdlaaCLO2
import Derived.Test.YtkghonhghbcdlaaP5
import Derived.Test.YtkghonhghbcdlaaCLO1
import Derived.Test.YtkghonhghbcdlaaD3
import Derived.Test.YtkghonhghbcdlaaI13
import Derived.Test.YtkghonhghbcdlaaI11
import Derived.Deep.RegionHeld3
namespace Go.Proofs.Ytkghonhghbcdlaa
set_option linter.unusedVariables false
set_option linter.unusedSimpArgs false
open Go Go.RowKit

theorem swap_perm2 {xs : List Int} (h : Permuted xs) {k u : Nat} (hk : k < xs.length) (hu : u < xs.length) : Permuted ((xs.set k (nth xs u)).set u (nth xs k)) := by
  have key : ∀ y : Int, 0 ≤ y → nth ((xs.set k (nth xs u)).set u (nth xs k)) y = if y = u then nth xs k else if y = k then nth xs u else nth xs y := by
    intro y y0
    have h1 := nth_set (xs.set k (nth xs u)) (u : Int) y (nth xs k) (by omega) (by rw [List.length_set]; omega) y0
    rw [Int.toNat_natCast] at h1
    rw [h1]
    have h2 := nth_set xs (k : Int) y (nth xs u) (by omega) (by omega) y0
    rw [Int.toNat_natCast] at h2
    rw [h2]
  rw [permuted_iff]
  intro x x0 x1
  simp only [List.length_set] at x1
  obtain ⟨y, y0, y1, e⟩ := ex_pre h x0 x1
  have hm : ∀ y : Int, 0 ≤ y → y < xs.length → nth ((xs.set k (nth xs u)).set u (nth xs k)) y ∈ (xs.set k (nth xs u)).set u (nth xs k) := fun y a b => nth_mem a (by rw [List.length_set, List.length_set]; exact b)
  subst e
  by_cases e1 : y = u
  · subst e1
    have h3 := hm k (by omega) (by omega)
    rw [key k (by omega)] at h3
    by_cases e2 : (k : Int) = u
    · obtain rfl : k = u := by omega
      rw [if_pos rfl] at h3; exact h3
    · rw [if_neg e2, if_pos rfl] at h3; exact h3
  · by_cases e2 : y = k
    · subst e2
      have h3 := hm u (by omega) (by omega)
      rw [key u (by omega), if_pos rfl] at h3
      exact h3
    · have h3 := hm y y0 y1
      rw [key y y0, if_neg e1, if_neg e2] at h3
      exact h3

set_option maxRecDepth 100000 in
set_option maxHeartbeats 1600000 in
theorem c_l01DrawP (b n : Nat) (w : World) (hs : Src w b) (h1 : 1 ≤ n) (h2 : n ≤ 1000) :
    Calls Try.prog 79 #[.pointer (some ⟨b, 0, none⟩), .int .i64 n] w (fun e w' => ∃ (r : Value) (xs : List Int), e = .returned r ∧ xs.length = n ∧ Permuted xs ∧ Own w.heap.size w' r xs ∧ Drew b w w') := by
  have HS := Lib.hid hs; have hbl := hs.lt; clear hs
  go_enter Try.func79, Try.ntmps79
  go_wp2_with fail
  refine (c_l01Unit n _ (by omega)).mono ?_; rintro e w1 ⟨r, rfl, ho, hb1⟩
  rcases ho.open with ⟨_, h0⟩ | ⟨g, cs, hv, hg, hblk, hmx⟩
  · have := congrArg List.length h0; simp at this; omega
  rw [iota_length] at hv hmx
  subst hv
  have HB0 := Lib.hid hblk; have HD0 := Lib.hid ((Drew.refl HS.out).under hb1)
  have HMX := Lib.hid hmx
  clear ho hblk hmx hb1
  go_wp2
  go_loopw [6, 7, 8] (fun i _ _ wr => ∃ (k : Nat) (xs : List Int), k < n ∧ i = .int .i64 k ∧ Hid (xs.length = n ∧ Permuted xs) ∧ Hid (Blk wr g 2 (xs.map (Value.int .i64) ++ cs)) ∧ Hid (Drew b w wr)) (fun i _ _ _ => (intOf i).toNat)
  case atStart => exact ⟨n - 1, iota n, by omega, by go_num, Lib.hid ⟨by simp, permuted_iota n⟩, HB0, HD0⟩
  case round =>
    clear HB0 HD0
    obtain ⟨k, xs, hk, rfl, HL, HB, HD⟩ := hrel
    obtain ⟨wo, rfl⟩ : ∃ wo : World, wo = wr := ⟨_, rfl⟩
    by_cases hk0 : 0 < k
    · go_wp2_with fail
      refine (c_l01Next b ((k : Int) + 1) _ HD.out.1 (by omega) (by omega)).mono ?_; rintro e w2 ⟨r, rfl, r0, r1, hd⟩
      obtain ⟨u, rfl⟩ : ∃ u : Nat, r = u := ⟨r.toNat, by omega⟩
      have hun : u < n := by omega
      have hB2 := hd.blk HB.out (by omega)
      have HD2 := Lib.hid (HD.out.trans hd)
      have hl := HL.out.1
      have l1 := hB2.labN k (by omega)
      have l2 := hB2.labN u (by omega)
      have f1 := hB2.frozen k
      have f2 := hB2.frozen u
      have s1 := hB2.labSet (k : Int) (by omega) (by omega) (nth xs (u : Int))
      rw [Int.toNat_natCast] at s1
      have s2 := s1.labSet (u : Int) (by omega) (by rw [List.length_set]; omega) (nth xs (k : Int))
      rw [Int.toNat_natCast] at s2
      have hg2 := s1.frozen u
      obtain ⟨z, hz⟩ : ∃ z, (w2.setCell ⟨g, k, none⟩ (.int .i64 (nth xs (u : Int)))).cell? ⟨g, u, none⟩ = some z := ⟨_, s1.labN u (by rw [List.length_set]; omega)⟩
      have HS2 := Lib.hid s2
      have hgb : b < g := by omega
      clear s1 s2 hd hl
      go_wp2
      go_roundw
      case rel =>
        refine ⟨k - 1, _, by omega, by go_num, Lib.hid ?_, HS2, Lib.hid ?_⟩
        · exact ⟨by simpa using HL.out.1, swap_perm2 HL.out.2 (by rw [HL.out.1]; exact hk) (by rw [HL.out.1]; exact hun)⟩
        · have kk := (HD2.out.2.setCell (p := ⟨g, k, none⟩) (.inr ?_) (.int .i64 (nth xs (u : Int)))).setCell (p := ⟨g, u, none⟩) (.inr ?_) (.int .i64 (nth xs (k : Int)))
          · refine ⟨?_, kk⟩
            exact HD2.out.1.keep (S := fun x => x = g) (((Keep.refl (fun x => x = g) w2).setCell (p := ⟨g, k, none⟩) (.inl rfl) _).setCell (p := ⟨g, u, none⟩) (.inl rfl) _) (fun p hp e => by have e : p = g := e; omega)
          · show w.heap.size ≤ g; omega
          · show w.heap.size ≤ g; omega
      case measure => simp [intOf]; omega
    · obtain rfl : k = 0 := by omega
      go_wp2
      go_ret
      exact ⟨_, xs, rfl, HL.out.1, HL.out.2, Own.shut HB.out (by omega) (by rw [HL.out.1]; exact HMX.out) HL.out.1.symm (by rw [HL.out.1]), HD.out⟩


/-- A pair of tables that can be read, all of it from lo on. -/
def SolAt (lo : Nat) (w : World) (v1 v2 : Value) (A B : List (List Int)) : Prop := RowsW lo w v1 A ∧ RowsW lo w v2 B
theorem SolAt.sol {lo : Nat} {w : World} {v1 v2 : Value} {A B : List (List Int)} (h : SolAt lo w v1 v2 A B) : Sol w v1 v2 A B := ⟨h.1.rows, h.2.rows⟩
theorem SolAt.drew {b lo : Nat} {w1 w2 : World} {v1 v2 : Value} {A B : List (List Int)} (h : SolAt lo w1 v1 v2 A B) (hd : Drew b w1 w2) (hb : b < lo) : SolAt lo w2 v1 v2 A B := ⟨drew_w hd h.1 hb, drew_w hd h.2 hb⟩
theorem rsolR_at {w w' : World} {A B : List (List Int)} {e : Ending} (h : RSolR w A B e w') : ∃ r1 r2, e = .returned (.agg #[r1, r2]) ∧ SolAt w.heap.size w' r1 r2 A B ∧ Below w.heap.size w w' := by
  obtain ⟨r1, r2, he, ⟨h1, h2⟩, hb⟩ := h
  exact ⟨r1, r2, he, ⟨h1.wr, h2.wr⟩, hb⟩
theorem RowsAt.mono {lo lo' : Nat} {w : World} {v : Value} {X : List (List Int)} (h : RowsAt lo w v X) (hl : lo' ≤ lo) : RowsAt lo' w v X := by
  obtain ⟨a, c, hv, h1, h2, hc⟩ := h
  exact ⟨a, c, hv, h1, h2, fun i hi => by obtain ⟨b, o, u, ha, hlo, hcell, hu⟩ := hc i hi; exact ⟨b, o, u, ha, by omega, hcell, hu.1, fun b o e => Nat.le_trans hl (hu.2 b o e)⟩⟩
theorem SolAt.mono {lo lo' : Nat} {w : World} {v1 v2 : Value} {A B : List (List Int)} (h : SolAt lo w v1 v2 A B) (hl : lo' ≤ lo) : SolAt lo' w v1 v2 A B := ⟨h.1.mono hl, h.2.mono hl⟩

set_option maxRecDepth 100000 in
set_option maxHeartbeats 1600000 in
theorem c_l02Twisted (b n : Nat) (w : World) (hs : Src w b) (h1 : 1 ≤ n) (h2 : n ≤ 12) :
    Calls Try.prog 131 #[.pointer (some ⟨b, 0, none⟩), .int .i64 n] w (fun e w' => ∃ (r1 r2 : Value) (A B : List (List Int)), e = .returned (.agg #[r1, r2]) ∧ SolAt w.heap.size w' r1 r2 A B ∧ isPM A B = true ∧ A.length = n ∧ Drew b w w') := by
  have HS := Lib.hid hs; have hbl := hs.lt; clear hs
  have HF0 : Hid (Blk (w.alloc (.cells #[.slice none 0 0, .slice none 0 0] 26)) w.heap.size 26 [.slice none 0 0, .slice none 0 0]) := Lib.hid (Blk.new w [.slice none 0 0, .slice none 0 0] 26)
  have HB0 : Hid (Below w.heap.size w (w.alloc (.cells #[.slice none 0 0, .slice none 0 0] 26))) := Lib.hid ((Below.refl _ _).alloc (Nat.le_refl _) _)
  go_enter Try.func131, Try.ntmps131
  have HS0 := Lib.hid (HS.out.under HB0.out)
  have HD0 := Lib.hid ((Drew.refl HS.out).under HB0.out)
  go_wp2_with fail
  refine (c_l01DrawP b n _ HS0.out h1 (by omega)).mono ?_; rintro e w1 ⟨r, p, rfl, hpl, hpp, hop, hd1⟩
  have HF1 := Lib.hid (hd1.blk HF0.out (by omega)); have HD1 := Lib.hid (HD0.out.trans hd1)
  have HP := Lib.hid (hop.mono (show w.heap.size ≤ _ by simp)); have HPP := Lib.hid (And.intro hpl hpp)
  clear hop hd1 hpl hpp
  go_wp2_with fail
  refine (c_l01Unit n _ (by omega)).mono ?_; rintro e w2 ⟨ru, rfl, hou, hb2⟩
  have HF2 := Lib.hid (HF1.out.under hb2); have HD2 := Lib.hid (HD1.out.under hb2); have HP2 := Lib.hid (HP.out.under hb2)
  have HQ2 := Lib.hid (hou.mono HD1.out.2.size)
  clear hou hb2
  go_wp2_with fail
  refine (c_l01Next b 4 _ HD2.out.1 (by omega) (by omega)).mono ?_; rintro e w3 ⟨t, rfl, t0, t1, hd3⟩
  obtain ⟨k0, rfl⟩ : ∃ k0 : Nat, t = k0 := ⟨t.toNat, by omega⟩
  have HF3 := Lib.hid (hd3.blk HF2.out (by omega)); have HD3 := Lib.hid (HD2.out.trans hd3)
  have HP3 := Lib.hid (hd3.own HP2.out hbl); have HQ3 := Lib.hid (hd3.own HQ2.out hbl)
  clear hd3
  go_wp2
  go_loopw [6, 7] (fun q k wr => ∃ (s : Nat) (qs : List Int), s ≤ 4 ∧ k = .int .i64 s ∧ Hid (Own w.heap.size wr q qs) ∧ Hid (qs.length = n ∧ Permuted qs) ∧ Hid (Own w.heap.size wr r p) ∧ Hid (Blk wr w.heap.size 26 [.slice none 0 0, .slice none 0 0]) ∧ Hid (Drew b w wr)) (fun _ k _ => (intOf k).toNat)
  case atStart => exact ⟨k0, iota n, by omega, rfl, HQ3, Lib.hid ⟨by simp, permuted_iota n⟩, HP3, HF3, HD3⟩
  case round =>
    clear HQ3 HP3 HF3 HD3
    obtain ⟨s, qs, hs4, rfl, HQ, HR, HP7, HF7, HD7⟩ := hrel
    by_cases hs0 : 0 < s
    · go_wp2_with fail
      refine (c_l01Then _ _ qs p _ HQ.out.ints HP7.out.ints (fun x hx => by have := HR.out.2.2 x hx; have := HR.out.1; have := HPP.out.1; omega) (by rw [HR.out.1]; omega)).mono ?_; rintro e w8 ⟨r8, rfl, ho8, hb8⟩
      have HQ8 := Lib.hid (ho8.mono HD7.out.2.size); have HP8 := Lib.hid (HP7.out.under hb8); have HF8 := Lib.hid (HF7.out.under hb8); have HD8 := Lib.hid (HD7.out.under hb8)
      have HR8 : Hid ((thenL qs p).length = n ∧ Permuted (thenL qs p)) := Lib.hid ⟨by rw [thenL_length]; exact HR.out.1, then_perm HR.out.2 HPP.out.2 (by rw [HPP.out.1, HR.out.1])⟩
      clear ho8 hb8
      go_wp2
      go_roundw
      case rel => exact ⟨s - 1, thenL qs p, by omega, by go_num, HQ8, HR8, HP8, HF8, HD8⟩
      case measure => simp [intOf]; omega
    · obtain rfl : s = 0 := by omega
      go_wp2_with fail
      refine (c_l01Next b 2 _ HD7.out.1 (by omega) (by omega)).mono ?_; rintro e w6 ⟨t, rfl, t0, t1, hd6⟩
      have HF6 := Lib.hid (hd6.blk HF7.out (by omega)); have HD6 := Lib.hid (HD7.out.trans hd6)
      have HP6 := Lib.hid (hd6.own HP7.out hbl); have HQ6 := Lib.hid (hd6.own HQ.out hbl)
      clear hd6
      have hnp : p.length = n := HPP.out.1
      have hnq : qs.length = n := HR.out.1
      have HNP := Lib.hid hnp; have HNQ := Lib.hid hnq
      clear hnp hnq
      by_cases ht : t = 0
      · subst ht
        go_wp2_with fail
        refine (c_l02Twist _ _ p qs _ HP6.out.ints HQ6.out.ints (by rw [HNP.out, HNQ.out]) (by rw [HNP.out]; omega)).mono ?_; rintro e w9 hz
        have PMX : isPM (twA p) (twB p qs) = true := tw_pm HPP.out.2 HR.out.2 (by rw [HNP.out, HNQ.out]) (by rw [HNP.out]; exact h1) (by rw [HNP.out]; exact h2)
        have LENX : (twA p).length = n := by simp [twA]; exact HNP.out
        obtain ⟨r8, r9, he, hsa, hb9⟩ := rsolR_at hz
        subst he
        obtain ⟨sa1, sl1, sc1, hv1⟩ := hsa.sol.1.any
        obtain ⟨sa2, sl2, sc2, hv2⟩ := hsa.sol.2.any
        subst hv1 hv2
        have hf := HF6.out.under hb9
        obtain ⟨z0, z1, z2, z3⟩ := two_cells hf
        have HSA := Lib.hid hsa; have HB9 := Lib.hid hb9
        clear hz hsa hb9 hf
        go_wp2
        have kz : Keep (fun x => x = w.heap.size) w9 ((w9.setCell ⟨w.heap.size, 0, none⟩ (.slice sa1 sl1 sc1)).setCell ⟨w.heap.size, 1, none⟩ (.slice sa2 sl2 sc2)) := keep_early _ _ _ _
        have hlt6 := HF6.out.lt
        refine bodyPost_ret (v := .agg #[.slice sa1 sl1 sc1, .slice sa2 sl2 sc2]) (by simp [results, Try.results131, go_sem, z0, z1]) rfl ⟨_, _, _, _, rfl, ⟨(HSA.out.1.keep kz (fun x hx e => by have e : x = w.heap.size := e; omega)).mono (by omega), (HSA.out.2.keep kz (fun x hx e => by have e : x = w.heap.size := e; omega)).mono (by omega)⟩, PMX, LENX, ?_⟩
        exact drew_set (drew_set (HD6.out.under HB9.out) (p := ⟨w.heap.size, 0, none⟩) (Nat.le_refl _) hbl _) (p := ⟨w.heap.size, 1, none⟩) (Nat.le_refl _) hbl _
      · go_wp2_with fail
        refine (c_l02Twist _ _ qs p _ HQ6.out.ints HP6.out.ints (by rw [HNP.out, HNQ.out]) (by rw [HNQ.out]; omega)).mono ?_; rintro e w9 hz
        have PMX : isPM (twA qs) (twB qs p) = true := tw_pm HR.out.2 HPP.out.2 (by rw [HNP.out, HNQ.out]) (by rw [HNQ.out]; exact h1) (by rw [HNQ.out]; exact h2)
        have LENX : (twA qs).length = n := by simp [twA]; exact HNQ.out
        obtain ⟨r8, r9, he, hsa, hb9⟩ := rsolR_at hz
        subst he
        obtain ⟨sa1, sl1, sc1, hv1⟩ := hsa.sol.1.any
        obtain ⟨sa2, sl2, sc2, hv2⟩ := hsa.sol.2.any
        subst hv1 hv2
        have hf := HF6.out.under hb9
        obtain ⟨z0, z1, z2, z3⟩ := two_cells hf
        have HSA := Lib.hid hsa; have HB9 := Lib.hid hb9
        clear hz hsa hb9 hf
        go_wp2
        have kz : Keep (fun x => x = w.heap.size) w9 ((w9.setCell ⟨w.heap.size, 0, none⟩ (.slice sa1 sl1 sc1)).setCell ⟨w.heap.size, 1, none⟩ (.slice sa2 sl2 sc2)) := keep_early _ _ _ _
        have hlt6 := HF6.out.lt
        refine bodyPost_ret (v := .agg #[.slice sa1 sl1 sc1, .slice sa2 sl2 sc2]) (by simp [results, Try.results131, go_sem, z0, z1]) rfl ⟨_, _, _, _, rfl, ⟨(HSA.out.1.keep kz (fun x hx e => by have e : x = w.heap.size := e; omega)).mono (by omega), (HSA.out.2.keep kz (fun x hx e => by have e : x = w.heap.size := e; omega)).mono (by omega)⟩, PMX, LENX, ?_⟩
        exact drew_set (drew_set (HD6.out.under HB9.out) (p := ⟨w.heap.size, 0, none⟩) (Nat.le_refl _) hbl _) (p := ⟨w.heap.size, 1, none⟩) (Nat.le_refl _) hbl _
end Go.Proofs.Ytkghonhghbcdlaa

namespace Go.Proofs.Ytkghonhghbcdlaa
set_option linter.unusedVariables false
set_option linter.unusedSimpArgs false
open Go Go.RowKit

def pgA (n : Nat) : List (List Int) := tabOf n fun x y => (2 * x - y + n) % n
def pgB (n : Nat) : List (List Int) := tabOf n fun x _ => x

set_option maxRecDepth 100000 in
set_option maxHeartbeats 4000000 in
theorem c_l02Polygon (n : Nat) (w : World) (hn1 : 1 ≤ n) (hn : n ≤ 12) :
    Calls Try.prog 130 #[.int .i64 n] w (RSolR w (pgA n) (pgB n)) := by
  go_enter Try.func130, Try.ntmps130
  go_wp2
  have f2 := Blk.new w [.slice none 0 0, .slice none 0 0] 26
  have hV : Below w.heap.size w (w.alloc (.cells #[.slice none 0 0, .slice none 0 0] 26)) := (Below.refl _ _).alloc (Nat.le_refl _) _
  have hsv : (w.alloc (.cells #[.slice none 0 0, .slice none 0 0] 26)).heap.size = w.heap.size + 1 := by simp
  have HSV := Lib.hid hsv
  change Blk (w.alloc (.cells #[.slice none 0 0, .slice none 0 0] 26)) _ _ _ at f2
  obtain ⟨V, hVV⟩ : ∃ V, w.alloc (.cells #[.slice none 0 0, .slice none 0 0] 26) = V := ⟨_, rfl⟩
  rw [hVV] at f2 hV HSV hsv ⊢
  rw [← hsv]
  clear hVV
  have HF2lt := Lib.hid f2.lt
  have HF2 := Lib.hid f2
  have hB1 : Below V.heap.size V (V.alloc (.cells #[.slice none 0 0, .slice none 0 0] 26)) := (Below.refl _ _).alloc (Nat.le_refl _) _
  have hout := Blk.new V [.slice none 0 0, .slice none 0 0] 26
  have hs1 : (V.alloc (.cells #[.slice none 0 0, .slice none 0 0] 26)).heap.size = V.heap.size + 1 := by simp
  have hqq : V.heap.size = V.heap.size := rfl
  change Blk (V.alloc (.cells #[.slice none 0 0, .slice none 0 0] 26)) _ _ _ at hout
  obtain ⟨W1, hW1⟩ : ∃ W, V.alloc (.cells #[.slice none 0 0, .slice none 0 0] 26) = W := ⟨_, rfl⟩
  rw [hW1] at hB1 hout hs1 ⊢
  clear hW1
  have hout' : Blk W1 (V.heap.size) 26 [.slice none 0 0, .slice none 0 0] := by rw [← hqq]; exact hout
  have HOut := Lib.hid (Out2.start (lo := V.heap.size + 1) (q := V.heap.size) (w := W1) (by omega) (by omega) hout')
  have HB1 := Lib.hid hB1; have HWW := Lib.hid hV; have HS1 := Lib.hid hs1
  have HQLE : Hid (V.heap.size ≤ V.heap.size) := Lib.hid (by omega)
  obtain ⟨gA, hgA⟩ : ∃ g : Int → Int → Int, g = fun x y : Int => (2 * x - y + (n : Int)) % (n : Int) := ⟨_, rfl⟩
  obtain ⟨gB, hgB⟩ : ∃ g : Int → Int → Int, g = fun x _ : Int => x := ⟨_, rfl⟩
  have hRA : pgA n = tabOf n gA := by unfold pgA; rw [hgA]
  have hRB : pgB n = tabOf n gB := by unfold pgB; rw [hgB]
  have HRA := Lib.hid hRA; have HRB := Lib.hid hRB
  have HGA : Hid (∀ x y : Int, gA x y = (2 * x - y + n) % n) := Lib.hid (by rw [hgA]; intro x y; rfl)
  have HGB : Hid (∀ x y : Int, gB x y = x) := Lib.hid (by rw [hgB]; intro x y; rfl)
  clear hgA hgB hRA hRB hB1 hout hout' hs1 hV hqq f2 hsv
  go_loopw [4] (fun a wr => ∃ (k : Nat) (va vb : Value), k ≤ n ∧ a = .int .i64 k ∧ Hid (Below V.heap.size V wr) ∧ Hid (Out2 (V.heap.size + 1) wr.heap.size (V.heap.size) wr va vb ((tabOf n gA).take k) ((tabOf n gB).take k))) (fun a _ => n - (intOf a).toNat)
  case atStart => exact ⟨0, _, _, Nat.zero_le _, rfl, HB1, HOut⟩
  case round =>
    clear HB1 HOut
    obtain ⟨k, va, vb, hk, rfl, HB, HO⟩ := hrel
    obtain ⟨wo, rfl⟩ : ∃ wo : World, wo = wr := ⟨_, rfl⟩
    by_cases hlt : k < n
    · go_wp2
      go_loopw [5, 6, 7] (fun s t y wi => ∃ (j : Nat) (sa : Option Addr) (sc : Nat) (ta : Option Addr) (tc : Nat), j ≤ n ∧ y = .int .i64 j ∧ s = .slice sa j sc ∧ t = .slice ta j tc ∧ Hid (Below wo.heap.size wo wi) ∧ Hid (Two wo.heap.size wi (.slice sa j sc) (.slice ta j tc) ((rowOf n (gA k)).take j) ((rowOf n (gB k)).take j))) (fun _ _ y _ => n - (intOf y).toNat)
      case atStart => exact ⟨0, _, _, _, _, Nat.zero_le _, rfl, rfl, rfl, Lib.hid (((Below.refl wo.heap.size wo).alloc (Nat.le_refl _) _).alloc (by simp) _), Lib.hid (Two.made0 wo)⟩
      case round =>
        obtain ⟨j, sa, sc, ta, tc, hj, rfl, rfl, rfl, Hb, HTw⟩ := hrel
        obtain ⟨wi, rfl⟩ : ∃ wi : World, wi = wr := ⟨_, rfl⟩
        by_cases hlj : j < n
        · have HEA : Hid (gA k j = (2 * (k : Int) - j) % n) := Lib.hid (by rw [HGA.out]; simp); have HEB := Lib.hid (HGB.out k j)
          have hn0 : (0 : Int) < n := by omega
          have hp0 : 0 ≤ 2 * (k : Int) - j + n := by omega
          have hp1 : 2 * (k : Int) - j + n ≤ 100 := by omega
          have w2 : Int.tmod (2 * (k : Int) - j + n) (n : Int) = (2 * (k : Int) - j + n) % (n : Int) := Int.tmod_eq_emod_of_nonneg (by omega)
          have hl1 : ((rowOf n (gA k)).take j).length = j := by simp; omega
          have hl2 : ((rowOf n (gB k)).take j).length = j := by simp; omega
          have HL1a := Lib.hid hl1; have HL2a := Lib.hid hl2
          have HN1a : Hid (((rowOf n (gA k)).take j).length ≤ 1099511627776) := by show _ ≤ _; rw [hl1]; omega
          have HN2a : Hid (((rowOf n (gB k)).take j).length ≤ 1099511627776) := by show _ ≤ _; rw [hl2]; omega
          have HS1a : Hid (wo.heap.size ≤ wi.heap.size) := Lib.hid Hb.out.size
          clear hl1 hl2
          go_wp2_with (at_builtin; go_loud (first
            | (refine wpList_app_int2 wo.heap.size wi _ ((rowOf n (gA k)).take j) _ _ _ wi.heap.size rfl rfl rfl rfl HTw.out.a rfl HN1a.out HS1a.out ?_; intro g c1 w1 hown1 hk1 hg1; rw [HL1a.out] at hown1; rw [HL1a.out]; have HT1 := Lib.hid (HTw.out.app1 hown1 hk1 hg1); have HZ2 := Lib.hid (HTw.out.a.frame Hb.out (Nat.le_refl _) HS1a.out hk1); have HS2a : Hid (wo.heap.size ≤ w1.heap.size) := Lib.hid HZ2.out.size; clear hown1 hk1 hg1)
            | (refine wpList_app_int2 wo.heap.size w1 _ ((rowOf n (gB k)).take j) _ _ _ w1.heap.size rfl rfl rfl rfl HT1.out.b rfl HN2a.out HS2a.out ?_; intro g2 c2 w4 hown4 hk4 hg4; rw [HL2a.out] at hown4; rw [HL2a.out]; have HT2 := Lib.hid (HT1.out.app2 hown4 hk4 hg4); have HZ4 := Lib.hid (HT1.out.b.frame HZ2.out (Nat.le_refl _) HS2a.out hk4); clear hown4 hk4 hg4)))
          go_roundw
          case rel =>
            refine ⟨j + 1, some ⟨g, 0, none⟩, c1, some ⟨g2, 0, none⟩, c2, by omega, by go_num, rfl, rfl, HZ4, ?_⟩
            rw [take_snoc (rowOf n (gA k)) _ (by simpa using hlj), take_snoc (rowOf n (gB k)) _ (by simpa using hlj), nth_rowOf _ _ _ hlj, nth_rowOf _ _ _ hlj, HEA.out, HEB.out]
            exact HT2
          case measure => simp [intOf]; omega
        · obtain rfl : n = j := by omega
          have hTw := HTw.out
          rw [List.take_of_length_le (by simp), List.take_of_length_le (by simp)] at hTw
          have HU := Lib.hid hTw; clear hTw
          have HO2 := Lib.hid (HO.out.under Hb.out)
          have HBi := Lib.hid (bb HB.out Hb.out)
          have hla : ((tabOf n gA).take k).length = k := by simp; omega
          have hlb : ((tabOf n gB).take k).length = k := by simp; omega
          have HNA : Hid (((tabOf n gA).take k).length ≤ 1099511627776) := by show _ ≤ _; rw [hla]; omega
          have HNB : Hid (((tabOf n gB).take k).length ≤ 1099511627776) := by show _ ≤ _; rw [hlb]; omega
          have HLA := Lib.hid hla; have HLB := Lib.hid hlb; clear hla hlb
          have HLO : Hid ((V.heap.size + 1) ≤ wi.heap.size) := Nat.le_trans HO2.out.lm HO2.out.mw
          obtain ⟨cA, cB, cF, cG⟩ := two_cells HO2.out.blk
          go_wp2_with (at_builtin; go_loud (first
            | (refine wpList_app_row2 (V.heap.size + 1) wo.heap.size wi va ((tabOf n gA).take k) _ (rowOf n (gA k)) _ _ rfl rfl rfl HO2.out.a HU.out.a rfl HNA.out HO2.out.lm HLO.out ?_; intro g c1 w1 hown1 hk1 hg1; rw [HLA.out] at hown1; rw [HLA.out]; have hq1 := HO2.out.blkq hk1; obtain ⟨dA, dB, dF, dG⟩ := two_cells hq1; have hh := HO2.out.app1 hown1 hk1 hg1; have hv := HO2.out.row1 HU.out.b hk1 (.slice (some ⟨g, 0, none⟩) (k + 1) c1); have hf := HO2.out.frame1 HBi.out HQLE.out hk1 (.slice (some ⟨g, 0, none⟩) (k + 1) c1); obtain ⟨eA, eB, eF, eG⟩ := two_cells hh.blk; have HH := Lib.hid hh; have HV := Lib.hid hv; have HF1 := Lib.hid hf; clear hown1 hk1 hg1 hq1 hh hv hf)
            | (refine wpList_app_row2s (V.heap.size + 1) wo.heap.size (w1.setCell ⟨(V.heap.size), 0, none⟩ (.slice (some ⟨g, 0, none⟩) (k + 1) c1)) vb ((tabOf n gB).take k) _ (rowOf n (gB k)) _ _ w1.heap.size (by simp [World.setCell]) rfl rfl rfl HH.out.b HV.out rfl HNB.out HH.out.lm (Nat.le_trans HH.out.lm HH.out.mw) ?_; intro g2 c2 w4 hown4 hk4 hg4; rw [HLB.out] at hown4; rw [HLB.out]; have hq4 := HH.out.blkq hk4; clear dA dB dF dG eA eB eF eG cA cB cF cG; obtain ⟨dA, dB, dF, dG⟩ := two_cells hq4; have HH2 := Lib.hid (HH.out.app2 hown4 hk4 hg4); have HF2b := Lib.hid (HH.out.frame2 HF1.out HQLE.out hk4 (.slice (some ⟨g2, 0, none⟩) (k + 1) c2)); clear hown4 hk4 hg4 hq4)))
          go_roundw
          case rel =>
            refine ⟨k + 1, .slice (some ⟨g, 0, none⟩) (k + 1) c1, .slice (some ⟨g2, 0, none⟩) (k + 1) c2, by omega, by go_num, HF2b, ?_⟩
            rw [take_snoc_row (tabOf n gA) _ (by simpa using hlt), take_snoc_row (tabOf n gB) _ (by simpa using hlt), row_tabOf _ _ _ hlt, row_tabOf _ _ _ hlt]
            exact HH2
          case measure => simp [intOf]; omega
    · obtain rfl : n = k := by omega
      have hO := HO.out
      rw [List.take_of_length_le (by simp), List.take_of_length_le (by simp)] at hO
      obtain ⟨ra1, rc1, hva, _⟩ := hO.a.out.rows.shape
      obtain ⟨ra2, rc2, hvb, _⟩ := hO.b.out.rows.shape
      rw [tabOf_length] at hva hvb
      subst hva hvb
      obtain ⟨y0, y1, y2, y3⟩ := two_cells hO.blk
      obtain ⟨z0, z1, z2, z3⟩ := two_cells (HF2.out.under HB.out)
      have HO' := Lib.hid hO; clear hO
      have hlt2 := HF2lt.out
      go_wp2
      refine bodyPost_ret (v := .agg #[.slice ra1 n rc1, .slice ra2 n rc2]) (by simp [results, Try.results130, go_sem, z0, z1]) rfl ⟨_, _, rfl, ⟨?_, ?_⟩, ((bb HWW.out HB.out).setCell (p := ⟨w.heap.size, 0, none⟩) (Nat.le_refl _) _).setCell (p := ⟨w.heap.size, 1, none⟩) (Nat.le_refl _) _⟩
      · try rw [HRA.out]
        exact OwnRows.mono (B := (V.heap.size + 1)) ((HO'.out.a.out.keep (keep1 _ w.heap.size 0 _) (fun b h1 h2 h3 => by have h3 : b = w.heap.size := h3; omega)).keep (keep1 _ w.heap.size 1 _) (fun b h1 h2 h3 => by have h3 : b = w.heap.size := h3; omega)) (by have := HSV.out; omega)
      · try rw [HRB.out]
        exact OwnRows.mono (B := (V.heap.size + 1)) ((HO'.out.b.out.keep (keep1 _ w.heap.size 0 _) (fun b h1 h2 h3 => by have h3 : b = w.heap.size := h3; omega)).keep (keep1 _ w.heap.size 1 _) (fun b h1 h2 h3 => by have h3 : b = w.heap.size := h3; omega)) (by have := HSV.out; omega)
end Go.Proofs.Ytkghonhghbcdlaa

namespace Go.Proofs.Ytkghonhghbcdlaa
set_option linter.unusedVariables false
set_option linter.unusedSimpArgs false
open Go Go.RowKit

def nvG (T : List (List Int)) (x y : Int) : Int := (idx (row T (val2 T x y)) x : Int)
def nvB (T : List (List Int)) : List (List Int) := tabOf T.length (nvG T)

set_option maxRecDepth 100000 in
set_option maxHeartbeats 4000000 in
theorem c_l02Involutive (v0 : Value) (T : List (List Int)) (w : World) (hT : Rows w v0 T) (hp : isTab T = true) :
    Calls Try.prog 132 #[v0] w (RSolR w T (nvB T)) := by
  have HR := Lib.hid hT
  obtain ⟨n, b0, o0, c0, rb0, ro0, rc0, rfl, hl0, hn0, hx0, hc0, hm0, t0⟩ := hT.tab hp
  have HL0 := Lib.hid hl0
  have HRW : Hid (∀ r ∈ T, r.length ≤ 1048576) := Lib.hid (fun r hr => by
    obtain ⟨i, hi, rfl⟩ := List.getElem_of_mem hr
    have := isTab_row hp (x := (i : Int)) (by omega) (by omega)
    rw [row_nat _ _ hi] at this
    omega)
  have HRL : Hid (∀ x : Int, 0 ≤ x → x < n → (row T x).length = n) := Lib.hid (fun x h0 h1 => by have := isTab_row hp h0 (by omega); omega)
  clear hl0 hT hp
  have HT0 := Lib.hid t0; clear t0
  go_enter Try.func132, Try.ntmps132
  go_wp2_with fail
  have hB0 : Below w.heap.size w (w.alloc (.cells #[.slice none 0 0, .slice none 0 0] 26)) := (Below.refl _ _).alloc (Nat.le_refl _) _
  have f0 := Blk.new w [.slice none 0 0, .slice none 0 0] 26
  have hs0 : (w.alloc (.cells #[.slice none 0 0, .slice none 0 0] 26)).heap.size = w.heap.size + 1 := by simp
  change Blk (w.alloc (.cells #[.slice none 0 0, .slice none 0 0] 26)) _ _ _ at f0
  obtain ⟨W0, hW⟩ : ∃ W, w.alloc (.cells #[.slice none 0 0, .slice none 0 0] 26) = W := ⟨_, rfl⟩
  rw [hW] at hB0 f0 hs0 ⊢
  clear hW
  refine (c_l01Own2 _ T _ (HR.out.below hB0) (by have := HL0.out; omega) HRW.out).mono ?_; rintro e V ⟨r1, rfl, ho, hb1⟩
  obtain ⟨ra1, rc1, hv1, -⟩ := OwnRows.shape' ho
  rw [HL0.out] at hv1
  subst hv1
  have HF := Lib.hid (f0.under hb1); have HO := Lib.hid ho; have HWV := Lib.hid (bb hB0 hb1); have HS0 := Lib.hid (show w.heap.size + 1 ≤ V.heap.size by have := hb1.size; omega); have HS00 := Lib.hid hs0
  clear f0 ho hb1 hB0 hs0
  go_wp2
  have hB1 : Below V.heap.size V (V.alloc (.cells #[.slice ra1 n rc1, .slice none 0 0] 26)) := (Below.refl _ _).alloc (Nat.le_refl _) _
  have hout := Blk.new V [.slice ra1 n rc1, .slice none 0 0] 26
  have hs1 : (V.alloc (.cells #[.slice ra1 n rc1, .slice none 0 0] 26)).heap.size = V.heap.size + 1 := by simp
  change Blk (V.alloc (.cells #[.slice ra1 n rc1, .slice none 0 0] 26)) _ _ _ at hout
  obtain ⟨W1, hW1⟩ : ∃ W, V.alloc (.cells #[.slice ra1 n rc1, .slice none 0 0] 26) = W := ⟨_, rfl⟩
  rw [hW1] at hB1 hout hs1 ⊢
  clear hW1
  have HB1 := Lib.hid hB1; have HOut := Lib.hid hout; have HS1 := Lib.hid (show V.heap.size + 1 ≤ W1.heap.size by omega)
  clear hB1 hout hs1
  obtain ⟨gB, hgB⟩ : ∃ g : Int → Int → Int, g = nvG T := ⟨_, rfl⟩
  have HRB : Hid (nvB T = tabOf n gB) := Lib.hid (by unfold nvB; rw [HL0.out, hgB])
  have HGB : Hid (∀ x y : Int, gB x y = (idx (row T (val2 T x y)) x : Int)) := Lib.hid (by rw [hgB]; intro x y; rfl)
  clear hgB
  go_loopw [4] (fun a wr => ∃ (k : Nat) (vb : Value), k ≤ n ∧ a = .int .i64 k ∧ Hid (Below V.heap.size V wr ∧ V.heap.size + 1 ≤ wr.heap.size) ∧ Hid (Blk wr V.heap.size 26 [.slice ra1 n rc1, vb]) ∧ Hid (OwnRows (V.heap.size + 1) wr vb ((tabOf n gB).take k))) (fun a _ => n - (intOf a).toNat)
  case atStart => exact ⟨0, _, Nat.zero_le _, rfl, Lib.hid ⟨HB1.out, HS1.out⟩, HOut, Lib.hid ⟨[], ⟨by simp, .inl ⟨rfl, rfl⟩⟩, RowVals.nil _ _⟩⟩
  case round =>
    clear HB1 HOut HS1
    obtain ⟨k, vb, hk, rfl, HB, HQ, HO2⟩ := hrel
    obtain ⟨wo, rfl⟩ : ∃ wo : World, wo = wr := ⟨_, rfl⟩
    by_cases hlt : k < n
    · go_wp2
      go_loopw [5, 6] (fun s y wi => ∃ (j : Nat) (sa : Option Addr) (sc : Nat), j ≤ n ∧ y = .int .i64 j ∧ s = .slice sa j sc ∧ Hid (Below wo.heap.size wo wi) ∧ Hid (Own wo.heap.size wi (.slice sa j sc) ((rowOf n (gB k)).take j))) (fun _ y _ => n - (intOf y).toNat)
      case atStart => exact ⟨0, _, _, Nat.zero_le _, rfl, rfl, Lib.hid ((Below.refl _ _).alloc (Nat.le_refl _) _), Lib.hid (by simpa using Own.made0 wo (Nat.le_refl _))⟩
      case round =>
        obtain ⟨j, sa, sc, hj, rfl, rfl, Hb, Ho⟩ := hrel
        obtain ⟨wi, rfl⟩ : ∃ wi : World, wi = wr := ⟨_, rfl⟩
        by_cases hlj : j < n
        · have hB2 := bb HWV.out (bb HB.out.1 Hb.out)
          have T' := HT0.out.below hB2
          have r1 := T'.row k hlt
          have x1 := T'.val k j hlt hlj
          obtain ⟨d1, d2⟩ := T'.rng k j (by omega) (by omega) (by omega) (by omega)
          have r2 := T'.rowi (val2 T k j) d1 d2
          have HI0 := (HR.out.below hB2).getS (val2 T k j).toNat (by have := HL0.out; omega)
          obtain ⟨b', o', a', c', e', h1', h2'⟩ := HI0
          have e'' := e'
          injection e'' with e''
          injection e'' with e1 e2 e3
          subst e1 e2
          rw [h1'] at r2
          have hrl := HRL.out (val2 T k j) d1 d2
          rw [show (((val2 T k j).toNat : Nat) : Int) = val2 T k j from by omega] at r2 h2' h1'
          injection r2 with r2
          rw [r2] at h2'
          have HI := Lib.hid h2'
          have r3 := T'.rowi (val2 T k j) d1 d2
          have HEB := Lib.hid (HGB.out k j)
          have hl1 : ((rowOf n (gB k)).take j).length = j := by simp; omega
          have HL1a := Lib.hid hl1
          have HN1a : Hid (((rowOf n (gB k)).take j).length ≤ 1099511627776) := by show _ ≤ _; rw [hl1]; omega
          have HS1a : Hid (wo.heap.size ≤ wi.heap.size) := Lib.hid Hb.out.size
          clear hl1 h2' h1' r2 e' T' hB2
          go_wp2_with fail
          refine (c_l01Index _ _ _ _ HI.out).mono ?_; rintro e we ⟨rfl, rfl⟩
          go_wp2_with (at_builtin; refine wpList_app_int2 wo.heap.size wi _ ((rowOf n (gB k)).take j) _ _ _ wi.heap.size rfl rfl rfl rfl Ho.out rfl HN1a.out HS1a.out ?_; intro g c1 w1 hown1 hk1 hg1; rw [HL1a.out] at hown1; rw [HL1a.out]; have HO1 := Lib.hid hown1; have HZ2 := Lib.hid (Ho.out.frame Hb.out (Nat.le_refl _) HS1a.out hk1); clear hown1 hk1 hg1)
          go_roundw
          case rel =>
            refine ⟨j + 1, some ⟨g, 0, none⟩, c1, by omega, by go_num, rfl, HZ2, ?_⟩
            rw [take_snoc (rowOf n (gB k)) _ (by simpa using hlj), nth_rowOf _ _ _ hlj, HEB.out]
            exact HO1
          case measure => simp [intOf]; omega
        · obtain rfl : n = j := by omega
          have hTw := Ho.out
          rw [List.take_of_length_le (by simp)] at hTw
          have HU := Lib.hid hTw; clear hTw
          have HOi := Lib.hid (HO2.out.inn.under Hb.out)
          have HQi := Lib.hid (HQ.out.under Hb.out)
          have HBi := Lib.hid (bb HB.out.1 Hb.out)
          have hlb : ((tabOf n gB).take k).length = k := by simp; omega
          have HNB : Hid (((tabOf n gB).take k).length ≤ 1099511627776) := by show _ ≤ _; rw [hlb]; omega
          have HLB := Lib.hid hlb; clear hlb
          have HLM := Lib.hid HB.out.2
          have HLO : Hid ((V.heap.size + 1) ≤ wi.heap.size) := Nat.le_trans HB.out.2 Hb.out.size
          obtain ⟨cA, cB, cF, cG⟩ := two_cells HQi.out
          go_wp2_with (at_builtin; refine wpList_app_row2 (V.heap.size + 1) wo.heap.size wi vb ((tabOf n gB).take k) _ (rowOf n (gB k)) _ _ rfl rfl rfl HOi.out HU.out rfl HNB.out HLM.out HLO.out ?_; intro g c1 w1 hown1 hk1 hg1; rw [HLB.out] at hown1; rw [HLB.out]; have hq1 := HQi.out.of_block (hk1.block _ HQi.out.lt (fun e => by have := (OwnRows.lt HO2.out e).1; omega)); obtain ⟨dA, dB, dF, dG⟩ := two_cells hq1; have HQ1 := Lib.hid (hq1.set 1 (.slice (some ⟨g, 0, none⟩) (k + 1) c1)); have HO1 := Lib.hid (hown1.keep (keep1 w1 V.heap.size 1 (.slice (some ⟨g, 0, none⟩) (k + 1) c1)) (fun b h1 _ h3 => by have h3 : b = V.heap.size := h3; omega)); have HF1 := Lib.hid (((OwnRows.frame HOi.out.out HBi.out (Nat.le_succ _) (Nat.le_trans (Nat.le_succ _) HLO.out) hk1).setCell (p := ⟨V.heap.size, 1, none⟩) (Nat.le_refl _) (.slice (some ⟨g, 0, none⟩) (k + 1) c1))); have HS1 := Lib.hid (show V.heap.size + 1 ≤ (w1.setCell ⟨V.heap.size, 1, none⟩ (.slice (some ⟨g, 0, none⟩) (k + 1) c1)).heap.size from HQ1.out.lt); clear hown1 hk1 hg1 hq1)
          go_roundw
          case rel =>
            refine ⟨k + 1, .slice (some ⟨g, 0, none⟩) (k + 1) c1, by omega, by go_num, Lib.hid ⟨HF1.out, HS1.out⟩, HQ1, ?_⟩
            rw [take_snoc_row (tabOf n gB) _ (by simpa using hlt), row_tabOf _ _ _ hlt]
            exact HO1
          case measure => simp [intOf]; omega
    · obtain rfl : n = k := by omega
      have hO := HO2.out
      rw [List.take_of_length_le (by simp)] at hO
      obtain ⟨ra2, rc2, hvb, _⟩ := hO.rows.shape
      rw [tabOf_length] at hvb
      subst hvb
      obtain ⟨y0, y1, y2, y3⟩ := two_cells HQ.out
      obtain ⟨z0, z1, z2, z3⟩ := two_cells (HF.out.under HB.out.1)
      have HO' := Lib.hid hO; clear hO
      have hlt2 := HS0.out
      go_wp2
      refine bodyPost_ret (v := .agg #[.slice ra1 n rc1, .slice ra2 n rc2]) (by simp [results, Try.results132, go_sem, z0, z1]) rfl ⟨_, _, rfl, ⟨?_, ?_⟩, ((bb HWV.out HB.out.1).setCell (p := ⟨w.heap.size, 0, none⟩) (Nat.le_refl _) _).setCell (p := ⟨w.heap.size, 1, none⟩) (Nat.le_refl _) _⟩
      · have hs00 := HS00.out
        exact OwnRows.mono (B := W0.heap.size) (((HO.out.under HB.out.1).keep (keep1 _ w.heap.size 0 _) (fun b h1 h2 h3 => by have h3 : b = w.heap.size := h3; omega)).keep (keep1 _ w.heap.size 1 _) (fun b h1 h2 h3 => by have h3 : b = w.heap.size := h3; omega)) (by omega)
      · rw [HRB.out]
        exact OwnRows.mono (B := (V.heap.size + 1)) ((HO'.out.keep (keep1 _ w.heap.size 0 _) (fun b h1 h2 h3 => by have h3 : b = w.heap.size := h3; omega)).keep (keep1 _ w.heap.size 1 _) (fun b h1 h2 h3 => by have h3 : b = w.heap.size := h3; omega)) (by omega)
end Go.Proofs.Ytkghonhghbcdlaa

namespace Go.Proofs.Ytkghonhghbcdlaa
set_option linter.unusedVariables false
set_option linter.unusedSimpArgs false

theorem isPM_mk {A B : List (List Int)} (h1 : isTab A = true) (h2 : isTab B = true) (h3 : A.length = B.length) : isPM A B = true := by simp [isPM, h1, h2, h3]
theorem isPM_tabOf {n : Nat} {g h : Int → Int → Int} (h1 : 1 ≤ n) (h2 : n ≤ 12) (hg : ∀ x y : Int, 0 ≤ x → x < n → 0 ≤ y → y < n → 0 ≤ g x y ∧ g x y < n) (hh : ∀ x y : Int, 0 ≤ x → x < n → 0 ≤ y → y < n → 0 ≤ h x y ∧ h x y < n) : isPM (tabOf n g) (tabOf n h) = true :=
  isPM_mk (isTab_tabOf h1 h2 fun x y hx hy => hg x y (by omega) (by omega) (by omega) (by omega)) (isTab_tabOf h1 h2 fun x y hx hy => hh x y (by omega) (by omega) (by omega) (by omega)) (by simp)

theorem pg_pm {n : Nat} (h1 : 1 ≤ n) (h2 : n ≤ 12) : isPM (pgA n) (pgB n) = true := by
  unfold pgA pgB
  refine isPM_tabOf h1 h2 (fun x y _ _ _ _ => ⟨Int.emod_nonneg _ (by omega), Int.emod_lt_of_pos _ (by omega)⟩) (fun x y a b _ _ => ⟨a, b⟩)
@[simp] theorem pgA_length (n : Nat) : (pgA n).length = n := by simp [pgA]
theorem pg_coll {n : Nat} (h1 : 1 ≤ n) (h2 : n ≤ 12) : collL (pgA n) (pgB n) = [] := by
  unfold collL
  refine quad_none (find2_none fun a ha b hb => ?_)
  rw [pgA_length] at ha hb ⊢
  unfold colP
  have a1 := div_lt_sq ha; have a2 := Nat.mod_lt a (show 0 < n by omega)
  have b1 := div_lt_sq hb; have b2 := Nat.mod_lt b (show 0 < n by omega)
  have g1 := Nat.div_add_mod a n
  have g2 := Nat.div_add_mod b n
  generalize a / n = x1 at a1 g1 ⊢
  generalize a % n = y1 at a2 g1 ⊢
  generalize b / n = x2 at b1 g2 ⊢
  generalize b % n = y2 at b2 g2 ⊢
  unfold pgA pgB
  rw [val2_tabOf' (by omega) (by omega) (by omega) (by omega), val2_tabOf' (by omega) (by omega) (by omega) (by omega), val2_tabOf' (by omega) (by omega) (by omega) (by omega), val2_tabOf' (by omega) (by omega) (by omega) (by omega)]
  by_cases e2 : (x1 : Int) = x2
  · by_cases e1 : (2 * (x1 : Int) - y1 + n) % n = (2 * (x2 : Int) - y2 + n) % n
    · have hx : x1 = x2 := by omega
      subst hx
      have hd := Int.emod_emod_of_dvd (2 * (x1 : Int) - y1 + n) (Int.dvd_refl (n : Int))
      have h3 : ((2 * (x1 : Int) - y1 + n) - (2 * (x1 : Int) - y2 + n)) % n = 0 := by rw [Int.sub_emod, e1]; simp
      have h4 : (n : Int) ∣ ((y2 : Int) - y1) := by
        have := Int.dvd_of_emod_eq_zero h3
        rwa [show (2 * (x1 : Int) - y1 + n) - (2 * (x1 : Int) - y2 + n) = y2 - y1 by omega] at this
      obtain ⟨c, hc⟩ := h4
      have hy : y1 = y2 := by
        rcases Int.lt_trichotomy c 0 with h | h | h
        · have : (n : Int) * c ≤ n * (-1) := Int.mul_le_mul_of_nonneg_left (by omega) (by omega)
          omega
        · subst h; omega
        · have : (n : Int) * 1 ≤ n * c := Int.mul_le_mul_of_nonneg_left (by omega) (by omega)
          omega
      have : a = b := by rw [← g1, ← g2, hy]
      simp [this]
    · have e3 : ¬ (2 * (x1 : Int) - y1) % n = (2 * (x2 : Int) - y2) % n := by simpa using e1
      simp [e3]
  · simp [e2]

theorem pr_pm {A B C D : List (List Int)} (h1 : isPM A B = true) (h2 : isPM C D = true) (hs : A.length * C.length ≤ 12) : isPM (prT A C) (prT B D) = true := by
  obtain ⟨a1, a2, a3⟩ := isPM_parts h1
  obtain ⟨c1, c2, c3⟩ := isPM_parts h2
  have l1 := (isTab_len a1).1; have l2 := (isTab_len c1).1
  have hmul : 1 ≤ A.length * C.length := Nat.mul_pos l1 l2
  have key : ∀ (X Y : List (List Int)), isTab X = true → isTab Y = true → X.length = A.length → Y.length = C.length → isTab (prT X Y) = true := by
    intro X Y hX hY e1 e2
    unfold prT
    rw [e1, e2]
    refine isTab_tabOf hmul hs fun x y hx hy => ?_
    obtain ⟨d1, d2, d3, d4⟩ := divI2 hx l2
    obtain ⟨d5, d6, d7, d8⟩ := divI2 hy l2
    have v1 := val2_lt hX d1 (by rw [e1]; exact d2) d5 (by rw [e1]; exact d6)
    have v2 := val2_lt hY d3 (by rw [e2]; exact d4) d7 (by rw [e2]; exact d8)
    rw [e1] at v1; rw [e2] at v2
    have := pairI v1.1 v1.2 v2.1 v2.2
    push_cast
    exact this
  exact isPM_mk (key A C a1 c1 rfl rfl) (key B D a2 c2 a3.symm c3.symm) (by simp [prT, a3, c3])
@[simp] theorem prT_length (A C : List (List Int)) : (prT A C).length = A.length * C.length := by simp [prT]

theorem un_pm {A B C D : List (List Int)} (h1 : isPM A B = true) (h2 : isPM C D = true) (hs : A.length + C.length ≤ 12) : isPM (unTA A C) (unTB B D) = true := by
  obtain ⟨a1, a2, a3⟩ := isPM_parts h1
  obtain ⟨c1, c2, c3⟩ := isPM_parts h2
  have l1 := (isTab_len a1).1; have l2 := (isTab_len c1).1
  have key : ∀ (X Y : List (List Int)) (z : Int → Int → Int), isTab X = true → isTab Y = true → X.length = A.length → Y.length = C.length → (∀ x y : Int, 0 ≤ x → x < ((A.length + C.length : Nat) : Int) → 0 ≤ y → y < ((A.length + C.length : Nat) : Int) → 0 ≤ z x y ∧ z x y < ((A.length + C.length : Nat) : Int)) → isTab (tabOf (A.length + C.length) (unG X Y z)) = true := by
    intro X Y z hX hY e1 e2 hz
    refine isTab_tabOf (by omega) hs fun x y hx hy => ?_
    unfold unG
    rw [e1]
    by_cases g1 : (x : Int) < A.length ∧ (y : Int) < A.length
    · rw [if_pos g1]
      have v1 := val2_lt hX (x := x) (y := y) (by omega) (by rw [e1]; exact g1.1) (by omega) (by rw [e1]; exact g1.2)
      rw [e1] at v1; omega
    · rw [if_neg g1]
      by_cases g2 : (A.length : Int) ≤ x ∧ (A.length : Int) ≤ y
      · rw [if_pos g2]
        have v1 := val2_lt hY (x := (x : Int) - A.length) (y := (y : Int) - A.length) (by omega) (by omega) (by omega) (by omega)
        omega
      · rw [if_neg g2]
        exact hz x y (by omega) (by omega) (by omega) (by omega)
  refine isPM_mk (key A C _ a1 c1 rfl rfl fun x y _ _ h1 h2 => ⟨h1, h2⟩) ?_ (by simp [unTA, unTB, a3, c3])
  unfold unTB
  rw [← a3, ← c3]
  exact key B D _ a2 c2 a3.symm c3.symm fun x y h1 h2 _ _ => ⟨h1, h2⟩
@[simp] theorem unTA_length (A C : List (List Int)) : (unTA A C).length = A.length + C.length := by simp [unTA]

theorem iv_pm {A B : List (List Int)} (hp : isPM A B = true) (hc : collL A B = []) : isPM (ivA A B A.length) (ivB A B A.length) = true := by
  have hP := pmL_perm hp hc
  have hl := isTab_len (isPM_parts hp).1
  unfold ivA ivB
  refine isPM_tabOf hl.1 hl.2 (fun x y a b c d => ?_) (fun x y a b c d => ?_)
  · obtain ⟨h0, h1, -⟩ := iv_range hP a b c d
    have := divI (k := (nth (invL (pmL A B A.length)) (x * A.length + y)).toNat) (n := A.length) (by omega) hl.1
    rw [show (((nth (invL (pmL A B A.length)) (x * A.length + y)).toNat : Nat) : Int) = nth (invL (pmL A B A.length)) (x * A.length + y) by omega] at this
    exact ⟨this.1, this.2.1⟩
  · obtain ⟨h0, h1, -⟩ := iv_range hP a b c d
    have := divI (k := (nth (invL (pmL A B A.length)) (x * A.length + y)).toNat) (n := A.length) (by omega) hl.1
    rw [show (((nth (invL (pmL A B A.length)) (x * A.length + y)).toNat : Nat) : Int) = nth (invL (pmL A B A.length)) (x * A.length + y) by omega] at this
    exact ⟨this.2.2.1, this.2.2.2⟩
@[simp] theorem ivA_length (A B : List (List Int)) (n : Nat) : (ivA A B n).length = n := by simp [ivA]

theorem ren_pm {A B : List (List Int)} {p : List Int} (hp : isPM A B = true) (hq : Permuted p) (hl : p.length = A.length) : isPM (renL A p) (renL B p) = true := by
  obtain ⟨a1, a2, a3⟩ := isPM_parts hp
  exact isPM_mk (isTab_renL ⟨a1, hq, hl⟩) (isTab_renL ⟨a2, hq, hl.trans a3⟩) (by rw [renL_length, renL_length]; exact a3)

def nv4 : List (List Int) := [[0, 1, 3, 2], [0, 1, 3, 2], [1, 0, 2, 3], [1, 0, 2, 3]]
def nv3 : List (List Int) := [[0, 1, 2], [0, 1, 2], [1, 0, 2]]
theorem nv4_pm : isTab nv4 = true ∧ isPM nv4 (nvB nv4) = true := by decide +kernel
theorem nv3_pm : isTab nv3 = true ∧ isPM nv3 (nvB nv3) = true := by decide +kernel
end Go.Proofs.Ytkghonhghbcdlaa

namespace Go.Proofs.Ytkghonhghbcdlaa
set_option linter.unusedVariables false
set_option linter.unusedSimpArgs false
open Go Go.RowKit

/-- What a draw of a pair map leaves. -/
def RDraw (b most : Nat) (w : World) (e : Ending) (w' : World) : Prop :=
  ∃ (r1 r2 : Value) (A B : List (List Int)), e = .returned (.agg #[r1, r2]) ∧ SolAt w.heap.size w' r1 r2 A B ∧ isPM A B = true ∧ A.length ≤ most ∧ Drew b w w'
theorem any_end {b most lo : Nat} {w w9 : World} {r1 r2 : Value} {A B : List (List Int)} (hsa : SolAt lo w9 r1 r2 A B) (hlo : w.heap.size < lo) (hbl : b < w.heap.size) (hp : isPM A B = true) (hl : A.length ≤ most) (hd : Drew b w w9) :
    RDraw b most w (.returned (.agg #[r1, r2])) ((w9.setCell ⟨w.heap.size, 0, none⟩ r1).setCell ⟨w.heap.size, 1, none⟩ r2) := by
  have kz : Keep (fun x => x = w.heap.size) w9 ((w9.setCell ⟨w.heap.size, 0, none⟩ r1).setCell ⟨w.heap.size, 1, none⟩ r2) := keep_early _ _ _ _
  exact ⟨_, _, A, B, rfl, ⟨(hsa.1.keep kz (fun x hx e => by have e : x = w.heap.size := e; omega)).mono (by omega), (hsa.2.keep kz (fun x hx e => by have e : x = w.heap.size := e; omega)).mono (by omega)⟩, hp, hl,
    drew_set (drew_set hd (p := ⟨w.heap.size, 0, none⟩) (Nat.le_refl _) hbl _) (p := ⟨w.heap.size, 1, none⟩) (Nat.le_refl _) hbl _⟩
theorem SolAt.any {lo : Nat} {w : World} {v1 v2 : Value} {A B : List (List Int)} (h : SolAt lo w v1 v2 A B) : ∃ a1 l1 c1 a2 l2 c2, v1 = .slice a1 l1 c1 ∧ v2 = .slice a2 l2 c2 := by
  obtain ⟨a1, l1, c1, e1⟩ := h.sol.1.any
  obtain ⟨a2, l2, c2, e2⟩ := h.sol.2.any
  exact ⟨a1, l1, c1, a2, l2, c2, e1, e2⟩
theorem SolAt.under {lo : Nat} {w1 w2 : World} {v1 v2 : Value} {A B : List (List Int)} (h : SolAt lo w1 v1 v2 A B) (hb : Below w1.heap.size w1 w2) : SolAt lo w2 v1 v2 A B := by
  exact ⟨h.1.under hb, h.2.under hb⟩

theorem hsz_alloc (w : World) (o : Obj) : (w.alloc o).heap.size = w.heap.size + 1 := by simp
theorem ints_blk {w : World} {g : Nat} (xs : List Int) (hg : Blk w g 2 (xs.map (Value.int .i64))) (hm : xs.length ≤ maxLen) : Ints w (.slice (some ⟨g, 0, none⟩) xs.length xs.length) xs :=
  ⟨_, _, rfl, Nat.le_refl _, hm, fun i hi => ⟨g, 0, rfl, by
    have := hg.cell (i := i) (by simpa using hi)
    rw [Nat.zero_add, this]; simp⟩⟩
theorem rows_blk {w : World} {g : Nat} (vs : List Value) (X : List (List Int)) (hg : Blk w g 27 vs) (hl : vs.length = X.length) (hm : X.length ≤ maxLen) (h : ∀ i (h1 : i < vs.length) (h2 : i < X.length), Ints w vs[i] X[i]) : Rows w (.slice (some ⟨g, 0, none⟩) X.length X.length) X :=
  ⟨_, _, rfl, Nat.le_refl _, hm, fun i hi => ⟨g, 0, vs[i], rfl, by
    have := hg.cell (i := i) (by omega)
    rw [Nat.zero_add, this], h i (by omega) hi⟩⟩
theorem nv4_rows (w : World) (W : World) (hW : W = (((((w.alloc (.cells #[.int .i64 0, .int .i64 1, .int .i64 3, .int .i64 2] 2)).alloc (.cells #[.int .i64 0, .int .i64 1, .int .i64 3, .int .i64 2] 2)).alloc (.cells #[.int .i64 1, .int .i64 0, .int .i64 2, .int .i64 3] 2)).alloc (.cells #[.int .i64 1, .int .i64 0, .int .i64 2, .int .i64 3] 2)).alloc (.cells #[.slice (some ⟨w.heap.size, 0, none⟩) 4 4, .slice (some ⟨w.heap.size + 1, 0, none⟩) 4 4, .slice (some ⟨w.heap.size + 1 + 1, 0, none⟩) 4 4, .slice (some ⟨w.heap.size + 1 + 1 + 1, 0, none⟩) 4 4] 27))) :
    Rows W (.slice (some ⟨w.heap.size + 1 + 1 + 1 + 1, 0, none⟩) 4 4) nv4 ∧ Below w.heap.size w W := by
  subst hW
  have hb1 := (Blk.new w [.int .i64 0, .int .i64 1, .int .i64 3, .int .i64 2] 2)
  have hb2 := (Blk.new (w.alloc (.cells [.int .i64 0, .int .i64 1, .int .i64 3, .int .i64 2].toArray 2)) [.int .i64 0, .int .i64 1, .int .i64 3, .int .i64 2] 2)
  have hb3 := (Blk.new ((w.alloc (.cells [.int .i64 0, .int .i64 1, .int .i64 3, .int .i64 2].toArray 2)).alloc (.cells [.int .i64 0, .int .i64 1, .int .i64 3, .int .i64 2].toArray 2)) [.int .i64 1, .int .i64 0, .int .i64 2, .int .i64 3] 2)
  have hb4 := (Blk.new (((w.alloc (.cells [.int .i64 0, .int .i64 1, .int .i64 3, .int .i64 2].toArray 2)).alloc (.cells [.int .i64 0, .int .i64 1, .int .i64 3, .int .i64 2].toArray 2)).alloc (.cells [.int .i64 1, .int .i64 0, .int .i64 2, .int .i64 3].toArray 2)) [.int .i64 1, .int .i64 0, .int .i64 2, .int .i64 3] 2)
  have hb5 := (Blk.new ((((w.alloc (.cells [.int .i64 0, .int .i64 1, .int .i64 3, .int .i64 2].toArray 2)).alloc (.cells [.int .i64 0, .int .i64 1, .int .i64 3, .int .i64 2].toArray 2)).alloc (.cells [.int .i64 1, .int .i64 0, .int .i64 2, .int .i64 3].toArray 2)).alloc (.cells [.int .i64 1, .int .i64 0, .int .i64 2, .int .i64 3].toArray 2)) [.slice (some ⟨w.heap.size, 0, none⟩) 4 4, .slice (some ⟨w.heap.size + 1, 0, none⟩) 4 4, .slice (some ⟨w.heap.size + 1 + 1, 0, none⟩) 4 4, .slice (some ⟨w.heap.size + 1 + 1 + 1, 0, none⟩) 4 4] 27)
  simp only [hsz_alloc] at hb2 hb3 hb4 hb5
  refine ⟨rows_blk _ nv4 hb5 rfl (by decide) fun i h1 h2 => ?_, (((((Below.refl w.heap.size w).alloc (Nat.le_refl _) _).alloc (by simp) _).alloc (by simp; omega) _).alloc (by simp; omega) _).alloc (by simp; omega) _⟩
  match i, h1, h2 with
  | 0, _, _ => exact ints_blk [0, 1, 3, 2] ((((hb1.alloc _).alloc _).alloc _).alloc _) (by decide)
  | 1, _, _ => exact ints_blk [0, 1, 3, 2] (((hb2.alloc _).alloc _).alloc _) (by decide)
  | 2, _, _ => exact ints_blk [1, 0, 2, 3] ((hb3.alloc _).alloc _) (by decide)
  | 3, _, _ => exact ints_blk [1, 0, 2, 3] (hb4.alloc _) (by decide)
theorem nv3_rows (w : World) (W : World) (hW : W = ((((w.alloc (.cells #[.int .i64 0, .int .i64 1, .int .i64 2] 2)).alloc (.cells #[.int .i64 0, .int .i64 1, .int .i64 2] 2)).alloc (.cells #[.int .i64 1, .int .i64 0, .int .i64 2] 2)).alloc (.cells #[.slice (some ⟨w.heap.size, 0, none⟩) 3 3, .slice (some ⟨w.heap.size + 1, 0, none⟩) 3 3, .slice (some ⟨w.heap.size + 1 + 1, 0, none⟩) 3 3] 27))) :
    Rows W (.slice (some ⟨w.heap.size + 1 + 1 + 1, 0, none⟩) 3 3) nv3 ∧ Below w.heap.size w W := by
  subst hW
  have hb1 := (Blk.new w [.int .i64 0, .int .i64 1, .int .i64 2] 2)
  have hb2 := (Blk.new (w.alloc (.cells [.int .i64 0, .int .i64 1, .int .i64 2].toArray 2)) [.int .i64 0, .int .i64 1, .int .i64 2] 2)
  have hb3 := (Blk.new ((w.alloc (.cells [.int .i64 0, .int .i64 1, .int .i64 2].toArray 2)).alloc (.cells [.int .i64 0, .int .i64 1, .int .i64 2].toArray 2)) [.int .i64 1, .int .i64 0, .int .i64 2] 2)
  have hb5 := (Blk.new (((w.alloc (.cells [.int .i64 0, .int .i64 1, .int .i64 2].toArray 2)).alloc (.cells [.int .i64 0, .int .i64 1, .int .i64 2].toArray 2)).alloc (.cells [.int .i64 1, .int .i64 0, .int .i64 2].toArray 2)) [.slice (some ⟨w.heap.size, 0, none⟩) 3 3, .slice (some ⟨w.heap.size + 1, 0, none⟩) 3 3, .slice (some ⟨w.heap.size + 1 + 1, 0, none⟩) 3 3] 27)
  simp only [hsz_alloc] at hb2 hb3 hb5
  refine ⟨rows_blk _ nv3 hb5 rfl (by decide) fun i h1 h2 => ?_, ((((Below.refl w.heap.size w).alloc (Nat.le_refl _) _).alloc (by simp) _).alloc (by simp; omega) _).alloc (by simp; omega) _⟩
  match i, h1, h2 with
  | 0, _, _ => exact ints_blk [0, 1, 2] (((hb1.alloc _).alloc _).alloc _) (by decide)
  | 1, _, _ => exact ints_blk [0, 1, 2] ((hb2.alloc _).alloc _) (by decide)
  | 2, _, _ => exact ints_blk [1, 0, 2] (hb3.alloc _) (by decide)

set_option maxRecDepth 100000 in
set_option maxHeartbeats 4000000 in
theorem c_l02Any (b : Nat) : ∀ (most : Nat) (w : World), Src w b → 1 ≤ most → most ≤ 12 → Calls Try.prog 115 #[.pointer (some ⟨b, 0, none⟩), .int .i64 most] w (RDraw b most w) := by
  intro most
  induction most using Nat.strongRecOn with
  | _ most ih =>
  intro w hs h1 h2
  have HIH := Lib.hid ih
  have HS := Lib.hid hs; have hbl := hs.lt; clear hs ih
  have HF0 : Hid (Blk (w.alloc (.cells #[.slice none 0 0, .slice none 0 0] 26)) w.heap.size 26 [.slice none 0 0, .slice none 0 0]) := Lib.hid (Blk.new w [.slice none 0 0, .slice none 0 0] 26)
  have HB0 : Hid (Below w.heap.size w (w.alloc (.cells #[.slice none 0 0, .slice none 0 0] 26))) := Lib.hid ((Below.refl _ _).alloc (Nat.le_refl _) _)
  go_enter Try.func115, Try.ntmps115
  have HS0 := Lib.hid (HS.out.under HB0.out)
  have HD0 := Lib.hid ((Drew.refl HS.out).under HB0.out)
  go_wp2_with fail
  refine (c_l01Next b most _ HS0.out (by omega) (by omega)).mono ?_; rintro e w1 ⟨t, rfl, t0, t1, hd1⟩
  obtain ⟨m, rfl⟩ : ∃ m : Nat, t = m := ⟨t.toNat, by omega⟩
  have hm : m < most := by omega
  have HF1 := Lib.hid (hd1.blk HF0.out (by omega)); have HD1 := Lib.hid (HD0.out.trans hd1)
  clear hd1 HF0 HD0 t0 t1
  go_wp2_with fail
  refine (c_l01Next b 8 _ HD1.out.1 (by omega) (by omega)).mono ?_; rintro e w2 ⟨kd, rfl, k0, k8, hd2⟩
  have HF2 := Lib.hid (hd2.blk HF1.out (by omega)); have HD2 := Lib.hid (HD1.out.trans hd2)
  clear hd2 HF1 HD1
  have HS2 := Lib.hid (show w.heap.size < w2.heap.size from HF2.out.lt)
  obtain ⟨n, hn⟩ : ∃ n : Nat, n = m + 1 := ⟨_, rfl⟩
  have hnI : 1 + (m : Int) = n := by omega
  have hn1 : 1 ≤ n := by omega
  have hnm : n ≤ most := by omega
  clear hn hm

  by_cases e0 : kd = 0
  · subst e0
    go_wp2_with fail
    refine (c_l02Flip n _ (by omega)).mono ?_; rintro e w9 hz
    obtain ⟨r8, r9, he, hsa, hb9⟩ := rsolR_at hz
    subst he
    obtain ⟨sa1, sl1, sc1, sa2, sl2, sc2, hv1, hv2⟩ := hsa.any
    subst hv1 hv2
    have hf := HF2.out.under hb9
    obtain ⟨z0, z1, z2, z3⟩ := two_cells hf
    have HSA := Lib.hid hsa; have HD9 := Lib.hid (HD2.out.under hb9); have HLT := HF2.out.lt
    have HPM := Lib.hid (tw_pm (permuted_iota n) (permuted_iota n) rfl (by simpa using hn1) (by simp; omega)); have HLN := Lib.hid (show (twA (iota n)).length ≤ most by simp [twA]; omega)
    clear hsa hf
    go_wp2
    exact bodyPost_ret (v := .agg #[.slice sa1 sl1 sc1, .slice sa2 sl2 sc2]) (by simp [results, Try.results115, go_sem, z0, z1]) rfl (any_end HSA.out HLT hbl HPM.out HLN.out HD9.out)
  have y0 : (kd == 0) = false := by simp [e0]
  by_cases e1 : kd = 1
  · subst e1
    go_wp2_with fail
    refine (c_l02Polygon n _ hn1 (by omega)).mono ?_; rintro e w9 hz
    obtain ⟨r8, r9, he, hsa, hb9⟩ := rsolR_at hz
    subst he
    obtain ⟨sa1, sl1, sc1, sa2, sl2, sc2, hv1, hv2⟩ := hsa.any
    subst hv1 hv2
    have hf := HF2.out.under hb9
    obtain ⟨z0, z1, z2, z3⟩ := two_cells hf
    have HSA := Lib.hid hsa; have HD9 := Lib.hid (HD2.out.under hb9); have HLT := HF2.out.lt
    have HPM := Lib.hid (pg_pm hn1 (by omega)); have HLN := Lib.hid (show (pgA n).length ≤ most by simp; omega)
    clear hsa hf
    go_wp2
    exact bodyPost_ret (v := .agg #[.slice sa1 sl1 sc1, .slice sa2 sl2 sc2]) (by simp [results, Try.results115, go_sem, z0, z1]) rfl (any_end HSA.out HLT hbl HPM.out HLN.out HD9.out)
  have y1 : (kd == 1) = false := by simp [e1]
  by_cases e2 : kd = 2
  · subst e2
    by_cases h4 : 4 ≤ n
    · have h4I : (4 : Int) ≤ n := by omega
      by_cases hev : n % 2 = 0
      · obtain ⟨k, hk⟩ : ∃ k : Nat, k = n / 2 := ⟨_, rfl⟩
        have u1 : Int.tmod (n : Int) 2 = 0 := by rw [Int.tmod_eq_emod_of_nonneg (by omega)]; omega
        have u2 : IntKind.i64.wrap ((n : Int) / 2) = k := by rw [IntKind.wrap_i64]; omega
        have hk2 : 2 ≤ k ∧ k ≤ 6 ∧ k * 2 ≤ most := by omega
        clear hk hev
        go_wp2_with fail
        refine (c_l02Twisted b k _ HD2.out.1 (by omega) (by omega)).mono ?_; rintro e w3 ⟨r3, r4, XA, XB, rfl, hsa3, hpm3, hln3, hd3⟩
        have HF3 := Lib.hid (hd3.blk HF2.out (by omega)); have HD3 := Lib.hid (HD2.out.trans hd3); have HSA3 := Lib.hid hsa3; have HP3 := Lib.hid (And.intro hpm3 hln3)
        have hbw2 := HD2.out.2.size
        clear hd3 hsa3 hpm3 hln3
        go_wp2_with fail
        refine (c_l02Twisted b 2 _ HD3.out.1 (by omega) (by omega)).mono ?_; rintro e w4 ⟨r5, r6, YA, YB, rfl, hsa4, hpm4, hln4, hd4⟩
        have HF4 := Lib.hid (hd4.blk HF3.out (by omega)); have HD4 := Lib.hid (HD3.out.trans hd4); have HSA4 := Lib.hid hsa4; have HP4 := Lib.hid (And.intro hpm4 hln4)
        have HSA3' := Lib.hid (HSA3.out.drew hd4 (by omega))
        clear hd4 hsa4 hpm4 hln4
        go_wp2_with fail
        refine (c_l02Product _ _ XA XB _ _ YA YB _ HSA3'.out.sol HSA4.out.sol HP3.out.1 HP4.out.1 (by rw [HP3.out.2, HP4.out.2]; omega)).mono ?_; rintro e w9 hz
        obtain ⟨r8, r9, he, hsa, hb9⟩ := rsolR_at hz
        subst he
        obtain ⟨sa1, sl1, sc1, sa2, sl2, sc2, hv1, hv2⟩ := hsa.any
        subst hv1 hv2
        have hf := HF4.out.under hb9
        obtain ⟨z0, z1, z2, z3⟩ := two_cells hf
        have HSA := Lib.hid hsa; have HD9 := Lib.hid (HD4.out.under hb9); have HLT := HF4.out.lt
        have HPM := Lib.hid (pr_pm HP3.out.1 HP4.out.1 (by rw [HP3.out.2, HP4.out.2]; omega)); have HLN := Lib.hid (show (prT XA YA).length ≤ most by rw [prT_length, HP3.out.2, HP4.out.2]; omega)
        clear hsa hf
        go_wp2
        exact bodyPost_ret (v := .agg #[.slice sa1 sl1 sc1, .slice sa2 sl2 sc2]) (by simp [results, Try.results115, go_sem, z0, z1]) rfl (any_end HSA.out HLT hbl HPM.out HLN.out HD9.out)
      · have u1 : ¬ Int.tmod (n : Int) 2 = 0 := by rw [Int.tmod_eq_emod_of_nonneg (by omega)]; omega
        go_wp2_with fail
        refine (c_l02Twisted b n _ HD2.out.1 hn1 (by omega)).mono ?_; rintro e w9 ⟨r8, r9, XA, XB, rfl, hsa, hpm, hln, hd9⟩
        obtain ⟨sa1, sl1, sc1, sa2, sl2, sc2, hv1, hv2⟩ := hsa.any
        subst hv1 hv2
        have hf := hd9.blk HF2.out (by omega)
        obtain ⟨z0, z1, z2, z3⟩ := two_cells hf
        have HSA := Lib.hid hsa; have HD9 := Lib.hid (HD2.out.trans hd9); have HLT := HF2.out.lt
        have HPM := Lib.hid (hpm); have HLN := Lib.hid (show XA.length ≤ most by omega)
        clear hsa hf
        go_wp2
        exact bodyPost_ret (v := .agg #[.slice sa1 sl1 sc1, .slice sa2 sl2 sc2]) (by simp [results, Try.results115, go_sem, z0, z1]) rfl (any_end HSA.out HLT hbl HPM.out HLN.out HD9.out)
    · have h4I : ¬ ((4 : Int) ≤ n) := by omega
      go_wp2_with fail
      refine (c_l02Twisted b n _ HD2.out.1 hn1 (by omega)).mono ?_; rintro e w9 ⟨r8, r9, XA, XB, rfl, hsa, hpm, hln, hd9⟩
      obtain ⟨sa1, sl1, sc1, sa2, sl2, sc2, hv1, hv2⟩ := hsa.any
      subst hv1 hv2
      have hf := hd9.blk HF2.out (by omega)
      obtain ⟨z0, z1, z2, z3⟩ := two_cells hf
      have HSA := Lib.hid hsa; have HD9 := Lib.hid (HD2.out.trans hd9); have HLT := HF2.out.lt
      have HPM := Lib.hid (hpm); have HLN := Lib.hid (show XA.length ≤ most by omega)
      clear hsa hf
      go_wp2
      exact bodyPost_ret (v := .agg #[.slice sa1 sl1 sc1, .slice sa2 sl2 sc2]) (by simp [results, Try.results115, go_sem, z0, z1]) rfl (any_end HSA.out HLT hbl HPM.out HLN.out HD9.out)
  have y2 : (kd == 2) = false := by simp [e2]
  by_cases e3 : kd = 3
  · subst e3
    by_cases hn2 : 2 ≤ n
    · have hn2I : (2 : Int) ≤ n := by omega
      go_wp2_with fail
      refine (c_l01Next b ((n : Int) - 1) _ HD2.out.1 (by omega) (by omega)).mono ?_; rintro e w3 ⟨t, rfl, t0, t1, hd3⟩
      obtain ⟨q, hq⟩ : ∃ q : Nat, q = t.toNat + 1 := ⟨_, rfl⟩
      have hqI : 1 + t = q := by omega
      have hq1 : 1 ≤ q ∧ q < n := by omega
      have hqr : (n : Int) - q = (n - q : Nat) := by omega
      have HF3 := Lib.hid (hd3.blk HF2.out (by omega)); have HD3 := Lib.hid (HD2.out.trans hd3)
      have hbw2 := HD3.out.2.size
      clear hd3 hq
      go_wp2_with fail
      refine (HIH.out q (by omega) _ HD3.out.1 (by omega) (by omega)).mono ?_; rintro e w4 ⟨r3, r4, XA, XB, rfl, hsa3, hpm3, hln3, hd4⟩
      have HF4 := Lib.hid (hd4.blk HF3.out (by omega)); have HD4 := Lib.hid (HD3.out.trans hd4); have HSA3 := Lib.hid hsa3; have HP3 := Lib.hid (And.intro hpm3 hln3)
      clear hd4 hsa3 hpm3 hln3
      go_wp2_with fail
      refine (c_l02Twisted b (n - q) _ HD4.out.1 (by omega) (by omega)).mono ?_; rintro e w5 ⟨r5, r6, YA, YB, rfl, hsa4, hpm4, hln4, hd5⟩
      have HF5 := Lib.hid (hd5.blk HF4.out (by omega)); have HD5 := Lib.hid (HD4.out.trans hd5); have HSA4 := Lib.hid hsa4; have HP4 := Lib.hid (And.intro hpm4 hln4)
      have HSA3' := Lib.hid (HSA3.out.drew hd5 (by omega))
      clear hd5 hsa4 hpm4 hln4
      have hsz : XA.length + YA.length ≤ most := by have := HP3.out.2; have := HP4.out.2; omega
      go_wp2_with fail
      refine (c_l02Union _ _ XA XB _ _ YA YB _ HSA3'.out.sol HSA4.out.sol HP3.out.1 HP4.out.1 (by omega)).mono ?_; rintro e w9 hz
      obtain ⟨r8, r9, he, hsa, hb9⟩ := rsolR_at hz
      subst he
      obtain ⟨sa1, sl1, sc1, sa2, sl2, sc2, hv1, hv2⟩ := hsa.any
      subst hv1 hv2
      have hf := HF5.out.under hb9
      obtain ⟨z0, z1, z2, z3⟩ := two_cells hf
      have HSA := Lib.hid hsa; have HD9 := Lib.hid (HD5.out.under hb9); have HLT := HF5.out.lt
      have HPM := Lib.hid (un_pm HP3.out.1 HP4.out.1 (by omega)); have HLN := Lib.hid (show (unTA XA YA).length ≤ most by rw [unTA_length]; omega)
      clear hsa hf
      go_wp2
      exact bodyPost_ret (v := .agg #[.slice sa1 sl1 sc1, .slice sa2 sl2 sc2]) (by simp [results, Try.results115, go_sem, z0, z1]) rfl (any_end HSA.out HLT hbl HPM.out HLN.out HD9.out)
    · have hn2I : ¬ ((2 : Int) ≤ n) := by omega
      go_wp2_with fail
      refine (c_l02Twisted b n _ HD2.out.1 hn1 (by omega)).mono ?_; rintro e w9 ⟨r8, r9, XA, XB, rfl, hsa, hpm, hln, hd9⟩
      obtain ⟨sa1, sl1, sc1, sa2, sl2, sc2, hv1, hv2⟩ := hsa.any
      subst hv1 hv2
      have hf := hd9.blk HF2.out (by omega)
      obtain ⟨z0, z1, z2, z3⟩ := two_cells hf
      have HSA := Lib.hid hsa; have HD9 := Lib.hid (HD2.out.trans hd9); have HLT := HF2.out.lt
      have HPM := Lib.hid (hpm); have HLN := Lib.hid (show XA.length ≤ most by omega)
      clear hsa hf
      go_wp2
      exact bodyPost_ret (v := .agg #[.slice sa1 sl1 sc1, .slice sa2 sl2 sc2]) (by simp [results, Try.results115, go_sem, z0, z1]) rfl (any_end HSA.out HLT hbl HPM.out HLN.out HD9.out)
  have y3 : (kd == 3) = false := by simp [e3]
  by_cases e4 : kd = 4
  · subst e4
    by_cases hm4 : 4 ≤ most
    · have hmI : (4 : Int) ≤ most := by omega
      go_wp2_with fail
      obtain ⟨W8, hW8⟩ : ∃ W, W = (((((w2.alloc (.cells #[.int .i64 0, .int .i64 1, .int .i64 3, .int .i64 2] 2)).alloc (.cells #[.int .i64 0, .int .i64 1, .int .i64 3, .int .i64 2] 2)).alloc (.cells #[.int .i64 1, .int .i64 0, .int .i64 2, .int .i64 3] 2)).alloc (.cells #[.int .i64 1, .int .i64 0, .int .i64 2, .int .i64 3] 2)).alloc (.cells #[.slice (some ⟨w2.heap.size, 0, none⟩) 4 4, .slice (some ⟨w2.heap.size + 1, 0, none⟩) 4 4, .slice (some ⟨w2.heap.size + 1 + 1, 0, none⟩) 4 4, .slice (some ⟨w2.heap.size + 1 + 1 + 1, 0, none⟩) 4 4] 27)) := ⟨_, rfl⟩
      obtain ⟨hr8, hb8⟩ := nv4_rows w2 W8 hW8
      rw [← hW8]
      have HF8 := Lib.hid (HF2.out.under hb8); have HD8 := Lib.hid (HD2.out.under hb8); have HR8 := Lib.hid hr8
      clear hr8 hb8 hW8
      refine (c_l02Involutive _ nv4 _ HR8.out nv4_pm.1).mono ?_; rintro e w9 hz
      obtain ⟨r8, r9, he, hsa, hb9⟩ := rsolR_at hz
      subst he
      obtain ⟨sa1, sl1, sc1, sa2, sl2, sc2, hv1, hv2⟩ := hsa.any
      subst hv1 hv2
      have hf := HF8.out.under hb9
      obtain ⟨z0, z1, z2, z3⟩ := two_cells hf
      have HSA := Lib.hid hsa; have HD9 := Lib.hid (HD8.out.under hb9); have HLT := HF8.out.lt
      have HPM := Lib.hid (nv4_pm.2); have HLN := Lib.hid (show nv4.length ≤ most by simp [nv4]; omega)
      clear hsa hf
      go_wp2
      exact bodyPost_ret (v := .agg #[.slice sa1 sl1 sc1, .slice sa2 sl2 sc2]) (by simp [results, Try.results115, go_sem, z0, z1]) rfl (any_end HSA.out HLT hbl HPM.out HLN.out HD9.out)
    · have hmI : ¬ ((4 : Int) ≤ most) := by omega
      go_wp2_with fail
      refine (c_l02Twisted b n _ HD2.out.1 hn1 (by omega)).mono ?_; rintro e w9 ⟨r8, r9, XA, XB, rfl, hsa, hpm, hln, hd9⟩
      obtain ⟨sa1, sl1, sc1, sa2, sl2, sc2, hv1, hv2⟩ := hsa.any
      subst hv1 hv2
      have hf := hd9.blk HF2.out (by omega)
      obtain ⟨z0, z1, z2, z3⟩ := two_cells hf
      have HSA := Lib.hid hsa; have HD9 := Lib.hid (HD2.out.trans hd9); have HLT := HF2.out.lt
      have HPM := Lib.hid (hpm); have HLN := Lib.hid (show XA.length ≤ most by omega)
      clear hsa hf
      go_wp2
      exact bodyPost_ret (v := .agg #[.slice sa1 sl1 sc1, .slice sa2 sl2 sc2]) (by simp [results, Try.results115, go_sem, z0, z1]) rfl (any_end HSA.out HLT hbl HPM.out HLN.out HD9.out)
  have y4 : (kd == 4) = false := by simp [e4]
  by_cases e5 : kd = 5
  · subst e5
    by_cases hn2 : 2 ≤ n
    · have hn2I : (2 : Int) ≤ n := by omega
      go_wp2_with fail
      refine (c_l02Polygon n _ hn1 (by omega)).mono ?_; rintro e w3 hz
      obtain ⟨r3, r4, he, hsa3, hb3⟩ := rsolR_at hz
      subst he
      have HF3 := Lib.hid (HF2.out.under hb3); have HD3 := Lib.hid (HD2.out.under hb3); have HSA3 := Lib.hid hsa3
      clear hz hsa3 hb3
      go_wp2_with fail
      refine (c_l02InverseC _ _ (pgA n) (pgB n) _ HSA3.out.sol (pg_coll hn1 (by omega)) (pg_pm hn1 (by omega))).mono ?_; rintro e w9 hz
      obtain ⟨r8, r9, he, hsa, hb9⟩ := rsolR_at hz
      subst he
      obtain ⟨sa1, sl1, sc1, sa2, sl2, sc2, hv1, hv2⟩ := hsa.any
      subst hv1 hv2
      have hf := HF3.out.under hb9
      obtain ⟨z0, z1, z2, z3⟩ := two_cells hf
      have HSA := Lib.hid hsa; have HD9 := Lib.hid (HD3.out.under hb9); have HLT := HF3.out.lt
      have HPM := Lib.hid (iv_pm (pg_pm hn1 (by omega)) (pg_coll hn1 (by omega))); have HLN := Lib.hid (show (ivA (pgA n) (pgB n) (pgA n).length).length ≤ most by simp; omega)
      clear hsa hf
      go_wp2
      exact bodyPost_ret (v := .agg #[.slice sa1 sl1 sc1, .slice sa2 sl2 sc2]) (by simp [results, Try.results115, go_sem, z0, z1]) rfl (any_end HSA.out HLT hbl HPM.out HLN.out HD9.out)
    · have hn2I : ¬ ((2 : Int) ≤ n) := by omega
      go_wp2_with fail
      refine (c_l02Twisted b n _ HD2.out.1 hn1 (by omega)).mono ?_; rintro e w9 ⟨r8, r9, XA, XB, rfl, hsa, hpm, hln, hd9⟩
      obtain ⟨sa1, sl1, sc1, sa2, sl2, sc2, hv1, hv2⟩ := hsa.any
      subst hv1 hv2
      have hf := hd9.blk HF2.out (by omega)
      obtain ⟨z0, z1, z2, z3⟩ := two_cells hf
      have HSA := Lib.hid hsa; have HD9 := Lib.hid (HD2.out.trans hd9); have HLT := HF2.out.lt
      have HPM := Lib.hid (hpm); have HLN := Lib.hid (show XA.length ≤ most by omega)
      clear hsa hf
      go_wp2
      exact bodyPost_ret (v := .agg #[.slice sa1 sl1 sc1, .slice sa2 sl2 sc2]) (by simp [results, Try.results115, go_sem, z0, z1]) rfl (any_end HSA.out HLT hbl HPM.out HLN.out HD9.out)
  have y5 : (kd == 5) = false := by simp [e5]
  by_cases e6 : kd = 6
  · subst e6
    by_cases hm3 : 3 ≤ most
    · have hmI : (3 : Int) ≤ most := by omega
      go_wp2_with fail
      obtain ⟨W8, hW8⟩ : ∃ W, W = ((((w2.alloc (.cells #[.int .i64 0, .int .i64 1, .int .i64 2] 2)).alloc (.cells #[.int .i64 0, .int .i64 1, .int .i64 2] 2)).alloc (.cells #[.int .i64 1, .int .i64 0, .int .i64 2] 2)).alloc (.cells #[.slice (some ⟨w2.heap.size, 0, none⟩) 3 3, .slice (some ⟨w2.heap.size + 1, 0, none⟩) 3 3, .slice (some ⟨w2.heap.size + 1 + 1, 0, none⟩) 3 3] 27)) := ⟨_, rfl⟩
      obtain ⟨hr8, hb8⟩ := nv3_rows w2 W8 hW8
      rw [← hW8]
      have HF8 := Lib.hid (HF2.out.under hb8); have HD8 := Lib.hid (HD2.out.under hb8); have HR8 := Lib.hid hr8
      clear hr8 hb8 hW8
      refine (c_l02Involutive _ nv3 _ HR8.out nv3_pm.1).mono ?_; rintro e w9 hz
      obtain ⟨r8, r9, he, hsa, hb9⟩ := rsolR_at hz
      subst he
      obtain ⟨sa1, sl1, sc1, sa2, sl2, sc2, hv1, hv2⟩ := hsa.any
      subst hv1 hv2
      have hf := HF8.out.under hb9
      obtain ⟨z0, z1, z2, z3⟩ := two_cells hf
      have HSA := Lib.hid hsa; have HD9 := Lib.hid (HD8.out.under hb9); have HLT := HF8.out.lt
      have HPM := Lib.hid (nv3_pm.2); have HLN := Lib.hid (show nv3.length ≤ most by simp [nv3]; omega)
      clear hsa hf
      go_wp2
      exact bodyPost_ret (v := .agg #[.slice sa1 sl1 sc1, .slice sa2 sl2 sc2]) (by simp [results, Try.results115, go_sem, z0, z1]) rfl (any_end HSA.out HLT hbl HPM.out HLN.out HD9.out)
    · have hmI : ¬ ((3 : Int) ≤ most) := by omega
      go_wp2_with fail
      refine (c_l02Twisted b n _ HD2.out.1 hn1 (by omega)).mono ?_; rintro e w9 ⟨r8, r9, XA, XB, rfl, hsa, hpm, hln, hd9⟩
      obtain ⟨sa1, sl1, sc1, sa2, sl2, sc2, hv1, hv2⟩ := hsa.any
      subst hv1 hv2
      have hf := hd9.blk HF2.out (by omega)
      obtain ⟨z0, z1, z2, z3⟩ := two_cells hf
      have HSA := Lib.hid hsa; have HD9 := Lib.hid (HD2.out.trans hd9); have HLT := HF2.out.lt
      have HPM := Lib.hid (hpm); have HLN := Lib.hid (show XA.length ≤ most by omega)
      clear hsa hf
      go_wp2
      exact bodyPost_ret (v := .agg #[.slice sa1 sl1 sc1, .slice sa2 sl2 sc2]) (by simp [results, Try.results115, go_sem, z0, z1]) rfl (any_end HSA.out HLT hbl HPM.out HLN.out HD9.out)
  have y6 : (kd == 6) = false := by simp [e6]
  go_wp2_with fail
  refine (c_l02Twisted b n _ HD2.out.1 hn1 (by omega)).mono ?_; rintro e w9 ⟨r8, r9, XA, XB, rfl, hsa, hpm, hln, hd9⟩
  obtain ⟨sa1, sl1, sc1, sa2, sl2, sc2, hv1, hv2⟩ := hsa.any
  subst hv1 hv2
  have hf := hd9.blk HF2.out (by omega)
  obtain ⟨z0, z1, z2, z3⟩ := two_cells hf
  have HSA := Lib.hid hsa; have HD9 := Lib.hid (HD2.out.trans hd9); have HLT := HF2.out.lt
  have HPM := Lib.hid (hpm); have HLN := Lib.hid (show XA.length ≤ most by omega)
  clear hsa hf
  go_wp2
  exact bodyPost_ret (v := .agg #[.slice sa1 sl1 sc1, .slice sa2 sl2 sc2]) (by simp [results, Try.results115, go_sem, z0, z1]) rfl (any_end HSA.out HLT hbl HPM.out HLN.out HD9.out)
end Go.Proofs.Ytkghonhghbcdlaa

namespace Go.Proofs.Ytkghonhghbcdlaa
set_option linter.unusedVariables false
set_option linter.unusedSimpArgs false
open Go Go.RowKit

theorem OwnSol.atW {lo hi : Nat} {w : World} {v1 v2 : Value} {A B : List (List Int)} (h : OwnSol lo hi w v1 v2 A B) : SolAt lo w v1 v2 A B := by
  obtain ⟨l1, h1, l2, h2, a, b, c, d, e, f, g⟩ := h
  exact ⟨f.out.wr.mono a, g.out.wr.mono c⟩
theorem SolAt.shape {lo : Nat} {w : World} {v1 v2 : Value} {A B : List (List Int)} (h : SolAt lo w v1 v2 A B) : ∃ a1 c1 a2 c2, v1 = .slice a1 A.length c1 ∧ v2 = .slice a2 B.length c2 := by
  obtain ⟨a1, c1, e1, _⟩ := h.1
  obtain ⟨a2, c2, e2, _⟩ := h.2
  exact ⟨a1, c1, a2, c2, e1, e2⟩
theorem SolAt.keep {lo : Nat} {S : Nat → Prop} {w w' : World} {v1 v2 : Value} {A B : List (List Int)} (h : SolAt lo w v1 v2 A B) (k : Keep S w w') (hS : ∀ b, lo ≤ b → ¬ S b) : SolAt lo w' v1 v2 A B := ⟨h.1.keep k hS, h.2.keep k hS⟩

set_option maxRecDepth 100000 in
set_option maxHeartbeats 4000000 in
theorem c_l02Draw (b most : Nat) (w : World) (hs : Src w b) (h1 : 1 ≤ most) (h2 : most ≤ 12) : Calls Try.prog 78 #[.pointer (some ⟨b, 0, none⟩), .int .i64 most] w (RDraw b most w) := by
  have HS := Lib.hid hs; have hbl := hs.lt; clear hs
  have HF0 : Hid (Blk (w.alloc (.cells #[.slice none 0 0, .slice none 0 0] 26)) w.heap.size 26 [.slice none 0 0, .slice none 0 0]) := Lib.hid (Blk.new w [.slice none 0 0, .slice none 0 0] 26)
  have HB0 : Hid (Below w.heap.size w (w.alloc (.cells #[.slice none 0 0, .slice none 0 0] 26))) := Lib.hid ((Below.refl _ _).alloc (Nat.le_refl _) _)
  go_enter Try.func78, Try.ntmps78
  have HS0 := Lib.hid (HS.out.under HB0.out)
  have HD0 := Lib.hid ((Drew.refl HS.out).under HB0.out)
  go_wp2_with fail
  refine (c_l02Any b most _ HS0.out h1 h2).mono ?_; rintro e w1 ⟨r1, r2, A, B, rfl, hsa, hpm, hln, hd1⟩
  obtain ⟨sa1, sc1, sa2, sc2, hv1, hv2⟩ := hsa.shape
  subst hv1 hv2
  have hba : Below w1.heap.size w1 (w1.alloc (.cells #[.slice sa1 A.length sc1, .slice sa2 B.length sc2] 26)) := (Below.refl _ _).alloc (Nat.le_refl _) _
  have hq : w.heap.size < w1.heap.size := by have := hd1.2.size; simp at this; omega
  have HBX := Lib.hid (show Blk (w1.alloc (.cells #[.slice sa1 A.length sc1, .slice sa2 B.length sc2] 26)) w1.heap.size 26 [.slice sa1 A.length sc1, .slice sa2 B.length sc2] from Blk.new w1 [.slice sa1 A.length sc1, .slice sa2 B.length sc2] 26)
  have HF1 := Lib.hid ((hd1.blk HF0.out (by omega)).under hba); have HD1 := Lib.hid ((HD0.out.trans hd1).under hba)
  have HSA1 := Lib.hid ((hsa.under hba).mono (show w.heap.size + 1 ≤ _ by simp)); have HPM := Lib.hid hpm; have HLN := Lib.hid hln
  have hl1 := (isTab_len (isPM_parts hpm).1).1
  clear hd1 hsa hpm hln hba HD0 HF0 HS0 HB0
  go_wp2_with fail
  refine (c_l01Next b 4 _ HD1.out.1 (by omega) (by omega)).mono ?_; rintro e w2 ⟨t, rfl, t0, t1, hd2⟩
  have HF2 := Lib.hid (hd2.blk HF1.out (by omega)); have HD2 := Lib.hid (HD1.out.trans hd2)
  have HSA2 := Lib.hid (HSA1.out.drew hd2 (by omega)); have HBX2 := Lib.hid (hd2.blk HBX.out (by omega))
  have hw2 : w1.heap.size < w2.heap.size := HBX2.out.lt
  clear hd2 HF1 HD1 HSA1 HBX
  by_cases ht : 0 < t
  · have HK : Hid (∀ w' : World, Keep (fun k => k = b ∨ k = w.heap.size ∨ w2.heap.size ≤ k) w2 w' → w'.cell? ⟨w1.heap.size, 0, none⟩ = some (.slice sa1 A.length sc1) ∧ w'.cell? ⟨w1.heap.size, 1, none⟩ = some (.slice sa2 B.length sc2)) := Lib.hid (fun w' k => by
      have := HBX2.out.of_block (k.block w1.heap.size hw2 (by omega))
      obtain ⟨x0, x1, -, -⟩ := two_cells this
      exact ⟨x0, x1⟩)
    have K0 : Keep (fun k => k = b ∨ k = w.heap.size ∨ w2.heap.size ≤ k) w2 w2.drew := (Keep.refl _ w2).drew
    have HDw := Lib.hid (HD2.out.under ((Below.refl w2.heap.size w2).drew))
    have HSrc := Lib.hid HDw.out.1
    have HFw := Lib.hid (HF2.out.under ((Below.refl w2.heap.size w2).drew))
    have HSAw := Lib.hid (HSA2.out.under ((Below.refl w2.heap.size w2).drew))
    have HRW := Lib.hid (show ∀ p : List Int, p.length = A.length → Permuted p → RenOk A p ∧ RenOk B p from fun p e1 e2 => ⟨⟨(isPM_parts HPM.out).1, e2, e1⟩, (isPM_parts HPM.out).2.1, e2, e1.trans (isPM_parts HPM.out).2.2⟩)
    have hl2 : A.length ≤ 1000 := by have := HLN.out; omega
    have hws : w2.drew.heap.size = w2.heap.size := rfl
    obtain ⟨zc0, zc1⟩ := HK.out _ K0
    go_wp2
    go_region_held3 (fun w' => w'.cell? ⟨w1.heap.size, 0, none⟩ = some (.slice sa1 A.length sc1) ∧ w'.cell? ⟨w1.heap.size, 1, none⟩ = some (.slice sa2 B.length sc2))
      (first | exact HK.out _ K0 | exact HK.out _ K3 | exact HK.out _ K4 | exact HK.out _ K5)
      (first
        | (go_at_call 79; (with_reducible refine (c_l01DrawP b A.length _ HSrc.out hl1 hl2).mono ?_); rintro e w3 ⟨r, p, rfl, hpl, hpp, hop, hd3⟩; have K3 := K0.trans (keep_mono hd3.2 (T := fun k => k = b ∨ k = w.heap.size ∨ w2.heap.size ≤ k) (fun x hx => .inl hx)); have HD3 := Lib.hid (HDw.out.trans hd3); have HF3 := Lib.hid (hd3.blk HFw.out (by omega)); have HS3 := Lib.hid (HSAw.out.drew hd3 (by omega)).sol; have HRA := Lib.hid (HRW.out p hpl hpp).1; have HRB := Lib.hid (HRW.out p hpl hpp).2; have HP3 := Lib.hid hop.ints; have HPP := Lib.hid (And.intro hpl hpp); obtain ⟨zd0, zd1⟩ := HK.out _ K3; clear hd3 hop hpl hpp)
        | (go_at_call 116; (with_reducible refine (c_l02Rename _ _ _ A B p _ HS3.out HP3.out HRA.out HRB.out).mono ?_); rintro e w4 ⟨u1, u2, rfl, hos, hb4⟩; obtain ⟨ua1, uc1, ua2, uc2, hu1, hu2⟩ := hos.atW.shape; rw [renL_length] at hu1 hu2; subst hu1 hu2; have K4 := K3.trans (keep_mono (Keep.of_below hb4) (T := fun k => k = b ∨ k = w.heap.size ∨ w2.heap.size ≤ k) (fun x hx => .inr (.inr (Nat.le_trans K3.size hx)))); obtain ⟨ze0, ze1⟩ := HK.out _ K4; have K5 := (K4.setCell (p := ⟨w.heap.size, 0, none⟩) (.inl (.inr (.inl rfl))) (.slice ua1 A.length uc1)).setCell (p := ⟨w.heap.size, 1, none⟩) (.inl (.inr (.inl rfl))) (.slice ua2 B.length uc2); have HD4 := Lib.hid (HD3.out.under hb4); have hf4 := HF3.out.under hb4; obtain ⟨y0, y1, y2, y3⟩ := two_cells hf4; have HSO := Lib.hid hos.atW; have HSZ := Lib.hid (show w.heap.size < w3.heap.size from HF3.out.lt); clear hos hb4))
    all_goals
      have HPM4 := Lib.hid (ren_pm HPM.out HPP.out.2 HPP.out.1)
      have HLN4 : Hid ((renL A p).length ≤ most) := Lib.hid (by rw [renL_length]; exact HLN.out)
      rename_i hHz
      clear hHz
      go_wp2
      exact bodyPost_ret (v := .agg #[.slice ua1 A.length uc1, .slice ua2 B.length uc2]) (by simp [results, Try.results78, go_sem, y0, y1]) rfl (any_end HSO.out HSZ.out hbl HPM4.out HLN4.out HD4.out)
  · have HFin := Lib.hid HD2.out
    obtain ⟨x0, x1, -, -⟩ := two_cells HBX2.out
    obtain ⟨z0, z1, z2, z3⟩ := two_cells HF2.out
    go_wp2
    exact bodyPost_ret (v := .agg #[.slice sa1 A.length sc1, .slice sa2 B.length sc2]) (by simp [results, Try.results78, go_sem, z0, z1]) rfl (any_end HSA2.out (Nat.lt_succ_self _) hbl HPM.out HLN.out HFin.out)
end Go.Proofs.Ytkghonhghbcdlaa

namespace Go.Proofs.Ytkghonhghbcdlaa
set_option linter.unusedVariables false
set_option linter.unusedSimpArgs false
open Go Go.RowKit

/-- The table can be read now, and after all changes that leave the blocks from lo on as they are. -/
def RdR (lo : Nat) (w : World) (v : Value) (X : List (List Int)) : Prop :=
  ∀ (S : Nat → Prop) (w' : World), Keep S w w' → (∀ b, lo ≤ b → b < w.heap.size → ¬ S b) → Rows w' v X
theorem keep_low {S : Nat → Prop} {w w' : World} (k : Keep S w w') : Keep (fun b => S b ∧ b < w.heap.size) w w' := ⟨k.os, k.tape, k.output, k.size, fun x hx hn => k.block x hx (fun e => hn ⟨e, hx⟩)⟩
theorem RowsW.rd {lo : Nat} {w : World} {v : Value} {X : List (List Int)} (h : RowsW lo w v X) : RdR lo w v X := fun _ _ k hS => (h.keepB k hS).rows
theorem RowsAt.rd {lo : Nat} {w : World} {v : Value} {X : List (List Int)} (h : RowsAt lo w v X) : RdR lo w v X := fun _ _ k hS => (h.keep (keep_low k) (fun b hb e => hS b hb e.2 e.1)).rows
namespace RdR
variable {lo : Nat} {w w' : World} {v : Value} {X : List (List Int)}
theorem rows (h : RdR lo w v X) : Rows w v X := h (fun _ => False) w (Keep.refl _ _) (fun _ _ _ e => e)
theorem keep (h : RdR lo w v X) {S : Nat → Prop} (k : Keep S w w') (hS : ∀ b, lo ≤ b → b < w.heap.size → ¬ S b) : RdR lo w' v X := by
  intro S2 w2 k2 h2
  refine h (fun b => S b ∨ S2 b) w2 ?_ ?_
  · refine ⟨k2.os.trans k.os, k2.tape.trans k.tape, k2.output.trans k.output, Nat.le_trans k.size k2.size, fun x hx hn => ?_⟩
    have e1 := k.block x hx (fun e => hn (.inl e))
    have e2 := k2.block x (Nat.lt_of_lt_of_le hx k.size) (fun e => hn (.inr e))
    exact e2.trans e1
  · intro b h3 h4 h5
    rcases h5 with h5 | h5
    · exact hS b h3 h4 h5
    · exact h2 b h3 (Nat.lt_of_lt_of_le h4 k.size) h5
theorem drew {b : Nat} (h : RdR lo w v X) (hd : Drew b w w') (hb : b < lo) : RdR lo w' v X := h.keep hd.2 (fun x hx _ e => by have e : x = b := e; omega)
theorem under (h : RdR lo w v X) (hb : Below w.heap.size w w') : RdR lo w' v X :=
  h.keep (S := fun b => w.heap.size ≤ b) (Keep.of_below hb) fun b _ h1 h2 => by have h2 : w.heap.size ≤ b := h2; omega
theorem mono {lo' : Nat} (h : RdR lo w v X) (hl : lo' ≤ lo) : RdR lo' w v X := fun S w' k hS => h S w' k (fun b hb h2 => hS b (Nat.le_trans hl hb) h2)
end RdR
/-- A pair of tables that can be read, in blocks from lo on. -/
def RdS (lo : Nat) (w : World) (v1 v2 : Value) (A B : List (List Int)) : Prop := RdR lo w v1 A ∧ RdR lo w v2 B
namespace RdS
variable {lo : Nat} {w w' : World} {v1 v2 : Value} {A B : List (List Int)}
theorem sol (h : RdS lo w v1 v2 A B) : Sol w v1 v2 A B := ⟨h.1.rows, h.2.rows⟩
theorem keep (h : RdS lo w v1 v2 A B) {S : Nat → Prop} (k : Keep S w w') (hS : ∀ b, lo ≤ b → b < w.heap.size → ¬ S b) : RdS lo w' v1 v2 A B := ⟨h.1.keep k hS, h.2.keep k hS⟩
theorem drew {b : Nat} (h : RdS lo w v1 v2 A B) (hd : Drew b w w') (hb : b < lo) : RdS lo w' v1 v2 A B := ⟨h.1.drew hd hb, h.2.drew hd hb⟩
theorem under (h : RdS lo w v1 v2 A B) (hb : Below w.heap.size w w') : RdS lo w' v1 v2 A B := ⟨h.1.under hb, h.2.under hb⟩
theorem mono {lo' : Nat} (h : RdS lo w v1 v2 A B) (hl : lo' ≤ lo) : RdS lo' w v1 v2 A B := ⟨h.1.mono hl, h.2.mono hl⟩
end RdS
/-- What a draw of a pair of tables leaves, which need be no pair map. -/
def RSpoil (b : Nat) (w : World) (e : Ending) (w' : World) : Prop :=
  ∃ (r1 r2 : Value) (A B : List (List Int)), e = .returned (.agg #[r1, r2]) ∧ RdS w.heap.size w' r1 r2 A B ∧ A.length ≤ 101 ∧ Drew b w w'
theorem spoil_end {b lo : Nat} {w w9 : World} {r1 r2 : Value} {A B : List (List Int)} (hsa : RdS lo w9 r1 r2 A B) (hlo : w.heap.size < lo) (hbl : b < w.heap.size) (hl : A.length ≤ 101) (hd : Drew b w w9) :
    RSpoil b w (.returned (.agg #[r1, r2])) ((w9.setCell ⟨w.heap.size, 0, none⟩ r1).setCell ⟨w.heap.size, 1, none⟩ r2) := by
  have kz : Keep (fun x => x = w.heap.size) w9 ((w9.setCell ⟨w.heap.size, 0, none⟩ r1).setCell ⟨w.heap.size, 1, none⟩ r2) := keep_early _ _ _ _
  exact ⟨_, _, A, B, rfl, (hsa.keep kz (fun x hx _ e => by have e : x = w.heap.size := e; omega)).mono (by omega), hl,
    drew_set (drew_set hd (p := ⟨w.heap.size, 0, none⟩) (Nat.le_refl _) hbl _) (p := ⟨w.heap.size, 1, none⟩) (Nat.le_refl _) hbl _⟩
end Go.Proofs.Ytkghonhghbcdlaa

namespace Go.Proofs.Ytkghonhghbcdlaa
set_option linter.unusedVariables false
set_option linter.unusedSimpArgs false
open Go Go.RowKit

theorem wide_tab {A : List (List Int)} (h : isTab A = true) : Wide A.length A := fun r hr => by
  obtain ⟨i, hi, rfl⟩ := List.getElem_of_mem hr
  have := isTab_row h (x := (i : Int)) (by omega) (by omega)
  rw [row_nat _ _ hi] at this; omega
theorem SolAt.rd {lo : Nat} {w : World} {v1 v2 : Value} {A B : List (List Int)} (h : SolAt lo w v1 v2 A B) : RdS lo w v1 v2 A B := ⟨h.1.rd, h.2.rd⟩
theorem RowsAt.monoB {lo lo' : Nat} {w : World} {v : Value} {X : List (List Int)} (h : RowsAt lo w v X) (hl : lo' ≤ lo) : RowsAt lo' w v X := h.mono hl
/-- A store of a slice into a table of a pair. -/
theorem SolAt.putS {lo m n1 c1 n2 c2 : Nat} {w : World} {a1 a2 : Option Addr} {A B : List (List Int)} (h : SolAt lo w (.slice a1 n1 c1) (.slice a2 n2 c2) A B) (hA : Wide m A) (hB : Wide m B) {p : Addr} {a0 : Option Addr} {n0 c0 : Nat} (hp : w.cell? p = some (.slice a0 n0 c0)) {u : Value} {ys : List Int} (hu : IntsW lo w u ys) (hy : ys.length ≤ m) :
    ∃ Y Z, Y.length = A.length ∧ SolAt lo (w.setCell p u) (.slice a1 n1 c1) (.slice a2 n2 c2) Y Z := by
  obtain ⟨Y, h1, _, h2⟩ := h.1.putS hA hp hu hy
  obtain ⟨Z, _, _, h4⟩ := h.2.putS hB hp hu hy
  exact ⟨Y, Z, h1, h2, h4⟩
theorem SolAt.putI {lo m n1 c1 n2 c2 : Nat} {w : World} {a1 a2 : Option Addr} {A B : List (List Int)} (h : SolAt lo w (.slice a1 n1 c1) (.slice a2 n2 c2) A B) (hA : Wide m A) (hB : Wide m B) {p : Addr} {y0 : Int} (hp : w.cell? p = some (.int .i64 y0)) (z : Int) :
    ∃ Y Z, Y.length = A.length ∧ SolAt lo (w.setCell p (.int .i64 z)) (.slice a1 n1 c1) (.slice a2 n2 c2) Y Z := by
  obtain ⟨Y, h1, _, h2⟩ := h.1.putI hA hp z
  obtain ⟨Z, _, _, h4⟩ := h.2.putI hB hp z
  exact ⟨Y, Z, h1, h2, h4⟩
/-- Where a table's cells lie. -/
theorem RowsW.home {lo : Nat} {w : World} {a : Option Addr} {n c : Nat} {X : List (List Int)} (h : RowsW lo w (.slice a n c) X) (hX : 0 < X.length) : ∃ tb, a = some ⟨tb, 0, none⟩ ∧ lo ≤ tb ∧ tb < w.heap.size := by
  obtain ⟨b, a', c', ha, hlo, hc, _⟩ := h.at 0 hX
  exact ⟨b, ha, hlo, cell_lt hc⟩
theorem RowsW.cellAt {lo : Nat} {w : World} {tb n c : Nat} {X : List (List Int)} (h : RowsW lo w (.slice (some ⟨tb, 0, none⟩) n c) X) (k : Nat) (hk : k < X.length) :
    ∃ a' c', w.cell? ⟨tb, k, none⟩ = some (.slice a' (row X k).length c') ∧ w.frozen? ⟨tb, k, none⟩ = false ∧ IntsW lo w (.slice a' (row X k).length c') (row X k) := by
  obtain ⟨b, a', c', ha, hlo, hc, hf, hi⟩ := h.at k hk
  injection ha with ha; injection ha with ha; subst ha
  exact ⟨a', c', hc, hf, hi⟩
theorem RowsW.rowAt {lo m : Nat} {w : World} {tb n c : Nat} {X : List (List Int)} (h : RowsW lo w (.slice (some ⟨tb, 0, none⟩) n c) X) (k : Nat) (hk : k < X.length) (hl : (row X k).length = m) (hm : 0 < m) :
    ∃ rb c', w.cell? ⟨tb, k, none⟩ = some (.slice (some ⟨rb, 0, none⟩) m c') ∧ lo ≤ rb ∧ rb < w.heap.size ∧ IntsW lo w (.slice (some ⟨rb, 0, none⟩) m c') (row X k) := by
  obtain ⟨a', c', hc, _, hi⟩ := h.cellAt k hk
  obtain ⟨rb, ha, hlo, h0, _⟩ := hi.at0 0 (by omega)
  subst ha
  rw [hl] at hc hi
  exact ⟨rb, c', hc, hlo, cell_lt h0, hi⟩
theorem IntsW.cellAt {lo : Nat} {w : World} {rb n c : Nat} {xs : List Int} (h : IntsW lo w (.slice (some ⟨rb, 0, none⟩) n c) xs) (k : Nat) (hk : k < xs.length) : w.cell? ⟨rb, k, none⟩ = some (.int .i64 (nth xs k)) ∧ w.frozen? ⟨rb, k, none⟩ = false := by
  obtain ⟨b, ha, hlo, hc, hf⟩ := h.at0 k hk
  injection ha with ha; injection ha with ha; subst ha
  exact ⟨hc, hf⟩
theorem RowsAt.isSlice {lo : Nat} {w : World} {v : Value} {X : List (List Int)} (h : RowsAt lo w v X) : ∃ a c, v = .slice a X.length c := by
  obtain ⟨a, c, hv, _⟩ := h
  exact ⟨a, c, hv⟩

set_option maxRecDepth 100000 in
set_option maxHeartbeats 8000000 in
theorem c_l02Spoil (b most : Nat) (w : World) (hs : Src w b) (h1 : 1 ≤ most) (h2 : most ≤ 12) : Calls Try.prog 41 #[.pointer (some ⟨b, 0, none⟩), .int .i64 most] w (RSpoil b w) := by
  have HS := Lib.hid hs; have hbl := hs.lt; clear hs
  have HF0 : Hid (Blk (w.alloc (.cells #[.slice none 0 0, .slice none 0 0] 26)) w.heap.size 26 [.slice none 0 0, .slice none 0 0]) := Lib.hid (Blk.new w [.slice none 0 0, .slice none 0 0] 26)
  have HB0 : Hid (Below w.heap.size w (w.alloc (.cells #[.slice none 0 0, .slice none 0 0] 26))) := Lib.hid ((Below.refl _ _).alloc (Nat.le_refl _) _)
  go_enter Try.func41, Try.ntmps41
  have HS0 := Lib.hid (HS.out.under HB0.out)
  have HD0 := Lib.hid ((Drew.refl HS.out).under HB0.out)
  go_wp2_with fail
  refine (c_l02Draw b most _ HS0.out h1 h2).mono ?_; rintro e w1 ⟨r1, r2, A, B, rfl, hsa, hpm, hln, hd1⟩
  obtain ⟨sa1, sc1, sa2, sc2, hv1, hv2⟩ := hsa.shape
  subst hv1 hv2
  obtain ⟨n, hnA⟩ : ∃ n, A.length = n := ⟨_, rfl⟩
  have hnB : B.length = n := by rw [← hnA]; exact (isPM_parts hpm).2.2.symm
  have hn1 : 1 ≤ n := by have := (isTab_len (isPM_parts hpm).1).1; omega
  have hn12 : n ≤ 12 := by omega
  rw [hnA, hnB] at hsa ⊢
  obtain ⟨tb, hsa1, tb0, tb1⟩ := hsa.1.home (by omega)
  obtain ⟨tc, hsa2, tc0, tc1⟩ := hsa.2.home (by omega)
  subst hsa1 hsa2
  have hwA : Wide n A := by rw [← hnA]; exact wide_tab (isPM_parts hpm).1
  have hwB : Wide n B := by rw [← hnB]; exact wide_tab (isPM_parts hpm).2.1
  have hrB : ∀ k : Nat, k < n → (row B k).length = n := fun k hk => by rw [← hnB]; exact isTab_row (isPM_parts hpm).2.1 (by omega) (by omega)
  have HRow : Hid (∀ k : Nat, k < n → ∃ rb c', w1.cell? ⟨tc, k, none⟩ = some (.slice (some ⟨rb, 0, none⟩) n c') ∧ w.heap.size < rb ∧ rb < w1.heap.size ∧ IntsW (w.heap.size + 1) w1 (.slice (some ⟨rb, 0, none⟩) n c') (row B k)) := Lib.hid fun k hk => by
    obtain ⟨rb, c', q1, q2, q3, q4⟩ := hsa.2.rowAt k (by omega) (hrB k hk) hn1
    simp at q2
    exact ⟨rb, c', q1, by omega, q3, q4.mono (by simp)⟩
  have HN := Lib.hid (And.intro hnA hnB); have HW := Lib.hid (And.intro hwA hwB); have HRB := Lib.hid hrB
  have hba : Below w1.heap.size w1 (w1.alloc (.cells #[.slice (some ⟨tb, 0, none⟩) n sc1, .slice (some ⟨tc, 0, none⟩) n sc2] 26)) := (Below.refl _ _).alloc (Nat.le_refl _) _
  have hq : w.heap.size < w1.heap.size := by have := hd1.2.size; simp at this; omega
  have HBX := Lib.hid (show Blk (w1.alloc (.cells #[.slice (some ⟨tb, 0, none⟩) n sc1, .slice (some ⟨tc, 0, none⟩) n sc2] 26)) w1.heap.size 26 [.slice (some ⟨tb, 0, none⟩) n sc1, .slice (some ⟨tc, 0, none⟩) n sc2] from Blk.new w1 [.slice (some ⟨tb, 0, none⟩) n sc1, .slice (some ⟨tc, 0, none⟩) n sc2] 26)
  have HF1 := Lib.hid ((hd1.blk HF0.out (by omega)).under hba); have HD1 := Lib.hid ((HD0.out.trans hd1).under hba)
  have HSA1 := Lib.hid ((hsa.under hba).mono (show w.heap.size + 1 ≤ _ by simp))
  have HKA : Hid (Keep (fun k => w1.heap.size ≤ k) w1 (w1.alloc (.cells #[.slice (some ⟨tb, 0, none⟩) n sc1, .slice (some ⟨tc, 0, none⟩) n sc2] 26))) := Lib.hid (Keep.of_below hba)
  have HRd1 := Lib.hid ((hsa.mono (show w.heap.size + 1 ≤ _ by simp)).rd)
  simp at tb0 tc0
  have htb : w.heap.size < tb := by omega
  have htc : w.heap.size < tc := by omega
  clear hd1 hsa hpm hln hba HD0 HF0 HS0 HB0 hnA hnB hwA hwB hrB tb0 tc0
  go_wp2_with fail
  refine (c_l01Next b 24 _ HD1.out.1 (by omega) (by omega)).mono ?_; rintro e w2 ⟨kd, rfl, kd0, kd1, hd2⟩
  have HF2 := Lib.hid (hd2.blk HF1.out (by omega)); have HD2 := Lib.hid (HD1.out.trans hd2)
  have HSA2 := Lib.hid (HSA1.out.drew hd2 (by omega)); have HBX2 := Lib.hid (hd2.blk HBX.out (by omega))
  have hw2 : w1.heap.size < w2.heap.size := HBX2.out.lt
  have HKW2 : Hid (Keep (fun k => k = b ∨ w1.heap.size ≤ k) w1 w2) := Lib.hid ((keep_mono HKA.out (fun x h => .inr h)).trans (keep_mono hd2.2 (fun x h => .inl h)))
  -- the cells of the second table's rows, at w2 and later
  have HRow2 : Hid (∀ k : Nat, k < n → ∃ rb c', rb < w1.heap.size ∧ w.heap.size < rb ∧ ∀ w' : World, Keep (fun j => j = b ∨ w2.heap.size ≤ j) w2 w' → w'.cell? ⟨tc, k, none⟩ = some (.slice (some ⟨rb, 0, none⟩) n c') ∧ IntsW (w.heap.size + 1) w' (.slice (some ⟨rb, 0, none⟩) n c') (row B k)) := Lib.hid fun k hk => by
    obtain ⟨rb, c', q1, q2, q3, q4⟩ := HRow.out k hk
    have q5 := cell_of_block (HKA.out.block tc tc1 (by omega)) q1
    have q6 := cell_of_block (hd2.2.block tc (cell_lt q5) (by omega)) q5
    have q7 : IntsW (w.heap.size + 1) _ _ _ := (q4.keep HKA.out (fun x _ h e => by omega)).keep hd2.2 (fun x h _ e => by have e : x = b := e; omega)
    refine ⟨rb, c', q3, q2, fun w' k' => ⟨cell_of_block (k'.block tc (cell_lt q6) (by omega)) q6, q7.keep k' (fun x h h2 e => by rcases e with e | e <;> omega)⟩⟩
  obtain ⟨rbF, rcF, hrF⟩ : ∃ (rbF rcF : Nat → Nat), ∀ k : Nat, k < n → rbF k < w1.heap.size ∧ w.heap.size < rbF k ∧ ∀ w' : World, Keep (fun j => j = b ∨ w2.heap.size ≤ j) w2 w' → w'.cell? ⟨tc, k, none⟩ = some (.slice (some ⟨rbF k, 0, none⟩) n (rcF k)) ∧ IntsW (w.heap.size + 1) w' (.slice (some ⟨rbF k, 0, none⟩) n (rcF k)) (row B k) := by
    refine ⟨fun k => if h : k < n then Classical.choose (HRow2.out k h) else 0, fun k => if h : k < n then Classical.choose (Classical.choose_spec (HRow2.out k h)) else 0, fun k hk => ?_⟩
    simp only [hk, dite_true]
    exact Classical.choose_spec (Classical.choose_spec (HRow2.out k hk))
  have HRF := Lib.hid hrF
  clear hd2 HF1 HD1 HSA1 HBX HRow HKA HRow2 hrF
  have HK : Hid (∀ w' : World, Keep (fun k => k = b ∨ w2.heap.size ≤ k ∨ (k < w1.heap.size ∧ w.heap.size < k)) w2 w' → w'.cell? ⟨w1.heap.size, 0, none⟩ = some (.slice (some ⟨tb, 0, none⟩) n sc1) ∧ w'.cell? ⟨w1.heap.size, 1, none⟩ = some (.slice (some ⟨tc, 0, none⟩) n sc2)) := Lib.hid (fun w' k => by
      have := HBX2.out.of_block (k.block w1.heap.size hw2 (by omega))
      obtain ⟨x0, x1, -, -⟩ := two_cells this
      exact ⟨x0, x1⟩)
  have K0 : Keep (fun j => j = b ∨ w2.heap.size ≤ j) w2 w2.drew := (Keep.refl _ w2).drew
  have HUP : Hid (∀ w' : World, Keep (fun j => j = b ∨ w2.heap.size ≤ j) w2 w' → Keep (fun k => k = b ∨ w2.heap.size ≤ k ∨ (k < w1.heap.size ∧ w.heap.size < k)) w2 w') := Lib.hid fun w' k => keep_mono k (fun x hx => by rcases hx with h | h; exact .inl h; exact .inr (.inl h))
  have HDw := Lib.hid (HD2.out.under ((Below.refl w2.heap.size w2).drew))
  have HSrc := Lib.hid HDw.out.1
  have HFw := Lib.hid (HF2.out.under ((Below.refl w2.heap.size w2).drew))
  have HSAw := Lib.hid (HSA2.out.under ((Below.refl w2.heap.size w2).drew))
  have hnI : (1 : Int) ≤ n := by omega
  have hbI : (n : Int) ≤ 9223372036854775807 := by omega
  by_cases e0 : kd = 0
  · subst e0
    obtain ⟨zc0, zc1⟩ := HK.out _ (HUP.out _ K0)
    go_wp2
    go_region_held3 (fun w' => w'.cell? ⟨w1.heap.size, 0, none⟩ = some (.slice (some ⟨tb, 0, none⟩) n sc1) ∧ w'.cell? ⟨w1.heap.size, 1, none⟩ = some (.slice (some ⟨tc, 0, none⟩) n sc2))
      (first | exact HK.out _ (HUP.out _ K0) | exact HK.out _ (HUP.out _ K3) | exact HK.out _ (HUP.out _ K4) | exact HK.out _ K5)
      (first
        | (go_at_call 43; (with_reducible refine (c_l01Next b n _ HSrc.out hnI hbI).mono ?_); rintro e w3 ⟨x, rfl, x0, x1, hd3⟩; obtain ⟨X, rfl⟩ : ∃ X : Nat, x = X := ⟨x.toNat, by omega⟩; have K3 := K0.trans (keep_mono hd3.2 (T := fun j => j = b ∨ w2.heap.size ≤ j) (fun x hx => .inl hx)); have HD3 := Lib.hid (HDw.out.trans hd3); have HSrc3 := Lib.hid hd3.1; have HF3 := Lib.hid (hd3.blk HFw.out (by omega)); have HSA3 := Lib.hid (HSAw.out.drew hd3 (by omega)); obtain ⟨zd0, zd1⟩ := HK.out _ (HUP.out _ K3); have hXn : X < n := (by omega); clear hd3)
        | (go_at_call 79; (with_reducible refine (c_l01DrawP b n _ HSrc3.out hn1 (by omega)).mono ?_); rintro e w4 ⟨r, p, rfl, hpl, hpp, hop, hd4⟩; obtain ⟨ra, rc, hr, -⟩ := hop.shape; rw [hpl] at hr; subst hr; have hsz3 := K3.size; have K4 := K3.trans (keep_mono hd4.2 (T := fun j => j = b ∨ w2.heap.size ≤ j) (fun x hx => .inl hx)); have HD4 := Lib.hid (HD3.out.trans hd4); have HF4 := Lib.hid (hd4.blk HF3.out (by omega)); have HSA4 := Lib.hid (HSA3.out.drew hd4 (by omega)); obtain ⟨ze0, ze1⟩ := HK.out _ (HUP.out _ K4); obtain ⟨xa, xc, hcell, hfrz, -⟩ := HSA4.out.1.cellAt X (by rw [HN.out.1]; exact hXn); have HPut := Lib.hid (HSA4.out.putS HW.out.1 HW.out.2 hcell (hop.wr.mono (show w.heap.size + 1 ≤ _ by have := HSA3.out; have := HF3.out.lt; omega)) (by rw [hpl]; exact Nat.le_refl _)); have K5 := (HUP.out _ K4).setCell (p := ⟨tb, X, none⟩) (.inl (.inr (.inr ⟨tb1, htb⟩))) (.slice ra n rc); clear hd4 hpp hop))
    all_goals
      rename_i hHz
      clear hHz
      obtain ⟨Y, Z, hYl, hput⟩ := HPut.out
      have HP := Lib.hid hput; have HYl := Lib.hid (show Y.length ≤ 101 by rw [hYl, HN.out.1]; omega)
      have HD6 := Lib.hid (drew_set HD4.out (p := ⟨tb, X, none⟩) (show w.heap.size ≤ tb by omega) (show b < tb by omega) (.slice ra n rc))
      obtain ⟨y0, y1⟩ := HK.out _ K5
      obtain ⟨z0, z1, -, -⟩ := two_cells (HF4.out.other (a := ⟨tb, X, none⟩) (show w.heap.size ≠ tb by omega) (.slice ra n rc))
      obtain ⟨-, -, x4, x5⟩ := two_cells HF4.out
      clear hput hYl
      go_wp2
      exact bodyPost_ret (v := .agg #[.slice (some ⟨tb, 0, none⟩) n sc1, .slice (some ⟨tc, 0, none⟩) n sc2]) (by simp [results, Try.results41, go_sem, z0, z1]) rfl (spoil_end HP.out.rd (Nat.lt_succ_self _) hbl HYl.out HD6.out)
  have s0 : (kd == 0) = false := by simp [e0]
  by_cases e1 : kd = 1
  · subst e1
    obtain ⟨zc0, zc1⟩ := HK.out _ (HUP.out _ K0)
    go_wp2
    have HRc : Hid (∀ w' : World, Keep (fun j => j = b ∨ w2.heap.size ≤ j) w2 w' → ∀ k : Nat, k < n → w'.cell? ⟨tc, k, none⟩ = some (.slice (some ⟨rbF k, 0, none⟩) n (rcF k))) := Lib.hid fun w' k' k hk => ((HRF.out k hk).2.2 w' k').1
    go_region_held3 (fun w' => (w'.cell? ⟨w1.heap.size, 0, none⟩ = some (.slice (some ⟨tb, 0, none⟩) n sc1) ∧ w'.cell? ⟨w1.heap.size, 1, none⟩ = some (.slice (some ⟨tc, 0, none⟩) n sc2)) ∧ ∀ k : Nat, k < n → w'.cell? ⟨tc, k, none⟩ = some (.slice (some ⟨rbF k, 0, none⟩) n (rcF k)))
      (first | exact ⟨HK.out _ (HUP.out _ K0), HRc.out _ K0⟩ | exact ⟨HK.out _ (HUP.out _ K3), HRc.out _ K3⟩)
      ((go_at_call 43; (with_reducible refine (c_l01Next b n _ HSrc.out hnI hbI).mono ?_); rintro e w3 ⟨x, rfl, x0, x1, hd3⟩; obtain ⟨X, rfl⟩ : ∃ X : Nat, x = X := ⟨x.toNat, by omega⟩; have K3 := K0.trans (keep_mono hd3.2 (T := fun j => j = b ∨ w2.heap.size ≤ j) (fun x hx => .inl hx)); have HD3 := Lib.hid (HDw.out.trans hd3); have HSrc3 := Lib.hid hd3.1; have HF3 := Lib.hid (hd3.blk HFw.out (by omega)); have HSA3 := Lib.hid (HSAw.out.drew hd3 (by omega)); obtain ⟨zd0, zd1⟩ := HK.out _ (HUP.out _ K3); have hXn : X < n := (by omega); have zx := HRc.out _ K3 X hXn; clear hd3))
    all_goals
      rename_i hHz
      clear hHz
      obtain ⟨rb1, rb0, hrow⟩ := HRF.out X hXn
      have HRw := Lib.hid hrow
      clear hrow
      obtain ⟨rb, hrb⟩ : ∃ rb, rbF X = rb := ⟨_, rfl⟩
      obtain ⟨rc, hrc⟩ : ∃ rc, rcF X = rc := ⟨_, rfl⟩
      rw [hrb] at rb1 rb0
      rw [hrb, hrc] at HRw
      go_wp2_with fail
      refine (c_l01Next b n _ HSrc3.out hnI hbI).mono ?_; rintro e w4 ⟨y, rfl, y0, y1, hd4⟩
      obtain ⟨Y, rfl⟩ : ∃ Y : Nat, y = Y := ⟨y.toNat, by omega⟩
      have K4 := K3.trans (keep_mono hd4.2 (T := fun j => j = b ∨ w2.heap.size ≤ j) (fun x hx => .inl hx))
      have HD4 := Lib.hid (HD3.out.trans hd4); have HF4 := Lib.hid (hd4.blk HF3.out (by omega)); have HSA4 := Lib.hid (HSA3.out.drew hd4 (by omega))
      clear hd4 zx zd0 zd1
      go_wp2_with fail
      refine (c_l01Next b n _ HD4.out.1 hnI hbI).mono ?_; rintro e w5 ⟨t, rfl, t0, t1, hd5⟩
      have K5 := K4.trans (keep_mono hd5.2 (T := fun j => j = b ∨ w2.heap.size ≤ j) (fun x hx => .inl hx))
      have HD5 := Lib.hid (HD4.out.trans hd5); have HF5 := Lib.hid (hd5.blk HF4.out (by omega)); have HSA5 := Lib.hid (HSA4.out.drew hd5 (by omega))
      have hYn : Y < n := by omega
      obtain ⟨hcell, hfrz⟩ := (HRw.out _ K5).2.cellAt Y (by rw [HRB.out X hXn]; exact hYn)
      obtain ⟨Y', Z', hYl, hput⟩ := HSA5.out.putI HW.out.1 HW.out.2 hcell t
      have HP := Lib.hid hput; have HYl := Lib.hid (show Y'.length ≤ 101 by rw [hYl, HN.out.1]; omega)
      have HD6 := Lib.hid (drew_set HD5.out (p := ⟨rb, Y, none⟩) (show w.heap.size ≤ rb by omega) (show b < rb by omega) (.int .i64 t))
      have K6 := (HUP.out _ K5).setCell (p := ⟨rb, Y, none⟩) (.inl (.inr (.inr ⟨rb1, rb0⟩))) (.int .i64 t)
      obtain ⟨y0, y1⟩ := HK.out _ K6
      obtain ⟨z0, z1, -, -⟩ := two_cells (HF5.out.other (a := ⟨rb, Y, none⟩) (show w.heap.size ≠ rb by omega) (.int .i64 t))
      obtain ⟨-, -, x4, x5⟩ := two_cells HF5.out
      clear hput hYl hd5
      go_wp2
      exact bodyPost_ret (v := .agg #[.slice (some ⟨tb, 0, none⟩) n sc1, .slice (some ⟨tc, 0, none⟩) n sc2]) (by simp [results, Try.results41, go_sem, z0, z1]) rfl (spoil_end HP.out.rd (Nat.lt_succ_self _) hbl HYl.out HD6.out)
  have s1 : (kd == 1) = false := by simp [e1]
  by_cases e2 : kd = 2
  · subst e2
    go_wp2_with fail
    refine (c_l01Tables b n _ HD2.out.1 hn1 (by omega)).mono ?_; rintro e w3 ⟨r3, X, rfl, hXl, hXr, hor, hd3⟩
    obtain ⟨ra, rc, hr, -⟩ := OwnRows.shape' hor
    rw [hXl] at hr
    subst hr
    have HO3 := Lib.hid hor.wr; have HD3 := Lib.hid (HD2.out.trans hd3); have HX := Lib.hid (show X.length ≤ 101 by omega)
    have HF3 := Lib.hid (hd3.blk HF2.out (by omega)); have HBX3 := Lib.hid (hd3.blk HBX2.out (by omega))
    have hw3 : w2.heap.size ≤ w3.heap.size := hd3.2.size
    clear hor hd3 hXl hXr
    go_wp2_with fail
    refine (c_l01Tables b n _ HD3.out.1 hn1 (by omega)).mono ?_; rintro e w4 ⟨r4, X2, rfl, hXl, hXr, hor, hd4⟩
    obtain ⟨ra4, rc4, hr, -⟩ := OwnRows.shape' hor
    rw [hXl] at hr
    subst hr
    have HO4 := Lib.hid (hor.wr.mono hw3); have HD4 := Lib.hid (HD3.out.trans hd4)
    have HO34 := Lib.hid (drew_w hd4 HO3.out (by omega))
    have HF4 := Lib.hid (hd4.blk HF3.out (by omega)); have HBX4 := Lib.hid (hd4.blk HBX3.out (by omega))
    clear hor hd4 hXl hXr
    obtain ⟨x0, x1, x2, x3⟩ := two_cells HBX4.out
    obtain ⟨-, -, x4, x5⟩ := two_cells HF4.out
    have HBX5 := Lib.hid ((HBX4.out.set 0 (.slice ra n rc)).set 1 (.slice ra4 n rc4))
    have kz : Keep (fun x => x = w1.heap.size) w4 ((w4.setCell ⟨w1.heap.size, 0, none⟩ (.slice ra n rc)).setCell ⟨w1.heap.size, 1, none⟩ (.slice ra4 n rc4)) := keep_early _ _ _ _
    obtain ⟨z0, z1, -, -⟩ := two_cells (HF4.out.of_block (kz.block w.heap.size HF4.out.lt (by omega)))
    obtain ⟨y0, y1, -, -⟩ := two_cells HBX5.out
    have HD6 := Lib.hid (drew_set (drew_set HD4.out (p := ⟨w1.heap.size, 0, none⟩) (show w.heap.size ≤ w1.heap.size by omega) (show b < w1.heap.size by omega) (.slice ra n rc)) (p := ⟨w1.heap.size, 1, none⟩) (show w.heap.size ≤ w1.heap.size by omega) (show b < w1.heap.size by omega) (.slice ra4 n rc4))
    have HRd := Lib.hid (RdS.keep (v1 := .slice ra n rc) (v2 := .slice ra4 n rc4) ⟨HO34.out.rd, HO4.out.rd⟩ kz (fun x hx _ e => by have e : x = w1.heap.size := e; omega))
    have hwq : w.heap.size < w2.heap.size := by omega
    clear kz HBX5 HBX4 HBX3 HBX2 HF2 HF3
    go_wp2
    exact bodyPost_ret (v := .agg #[.slice ra n rc, .slice ra4 n rc4]) (by simp [results, Try.results41, go_sem, z0, z1]) rfl (spoil_end HRd.out hwq hbl HX.out HD6.out)
  have s2 : (kd == 2) = false := by simp [e2]
  by_cases e3 : kd = 3
  · subst e3
    go_wp2_with fail
    refine (c_l01Bad b n _ HD2.out.1 hn1 (by omega)).mono ?_; rintro e w3 ⟨r3, X, rfl, hXl, hXr, hor, hd3⟩
    obtain ⟨ra, rc, hr⟩ := hor.isSlice
    subst hr
    have HO3 := Lib.hid hor; have HD3 := Lib.hid (HD2.out.trans hd3); have HX := Lib.hid hXl
    have HF3 := Lib.hid (hd3.blk HF2.out (by omega)); have HBX3 := Lib.hid (hd3.blk HBX2.out (by omega))
    have K3 := HKW2.out.trans (keep_mono hd3.2 (T := fun k => k = b ∨ w1.heap.size ≤ k) (fun x h => .inl h))
    have K9 := K3.setCell (p := ⟨w1.heap.size, 1, none⟩) (.inl (.inr (Nat.le_refl _))) (.slice ra X.length rc)
    have HO9 := Lib.hid ((HO3.out.rd.keep ((Keep.refl (fun x => x = w1.heap.size) w3).setCell (p := ⟨w1.heap.size, 1, none⟩) (.inl rfl) (.slice ra X.length rc)) (fun x hx _ e => by have e : x = w1.heap.size := e; omega)).mono (show w.heap.size + 1 ≤ w2.heap.size by omega))
    have HRd : Hid (RdS (w.heap.size + 1) (w3.setCell ⟨w1.heap.size, 1, none⟩ (.slice ra X.length rc)) (.slice (some ⟨tb, 0, none⟩) n sc1) (.slice ra X.length rc) _ _) := Lib.hid ⟨HRd1.out.1.keep K9 (fun x hx h2 e => by rcases e with e | e <;> omega), HO9.out⟩
    have HD6 := Lib.hid (drew_set HD3.out (p := ⟨w1.heap.size, 1, none⟩) (show w.heap.size ≤ w1.heap.size by omega) (show b < w1.heap.size by omega) (.slice ra X.length rc))
    have HLn := Lib.hid (show A.length ≤ 101 by rw [HN.out.1]; omega)
    obtain ⟨x0, x1, x2, x3⟩ := two_cells HBX3.out
    obtain ⟨-, -, x4, x5⟩ := two_cells HF3.out
    obtain ⟨y0, y1, -, -⟩ := two_cells (HBX3.out.set 1 (.slice ra X.length rc))
    obtain ⟨z0, z1, -, -⟩ := two_cells (HF3.out.other (a := ⟨w1.heap.size, 1, none⟩) (show w.heap.size ≠ w1.heap.size by omega) (.slice ra X.length rc))
    clear hor hd3 hXl hXr K3 K9
    go_wp2
    exact bodyPost_ret (v := .agg #[.slice (some ⟨tb, 0, none⟩) n sc1, .slice ra X.length rc]) (by simp [results, Try.results41, go_sem, z0, z1]) rfl (spoil_end HRd.out (Nat.lt_succ_self _) hbl HLn.out HD6.out)
  have s3 : (kd == 3) = false := by simp [e3]
  by_cases e4 : kd = 4
  · subst e4
    go_wp2_with fail
    refine (c_l01Bad b n _ HD2.out.1 hn1 (by omega)).mono ?_; rintro e w3 ⟨r3, X, rfl, hXl, hXr, hor, hd3⟩
    obtain ⟨ra, rc, hr⟩ := hor.isSlice
    subst hr
    have HO3 := Lib.hid hor; have HD3 := Lib.hid (HD2.out.trans hd3); have HX := Lib.hid hXl
    have HF3 := Lib.hid (hd3.blk HF2.out (by omega)); have HBX3 := Lib.hid (hd3.blk HBX2.out (by omega))
    have K3 := HKW2.out.trans (keep_mono hd3.2 (T := fun k => k = b ∨ w1.heap.size ≤ k) (fun x h => .inl h))
    have K9 := K3.setCell (p := ⟨w1.heap.size, 0, none⟩) (.inl (.inr (Nat.le_refl _))) (.slice ra X.length rc)
    have HO9 := Lib.hid ((HO3.out.rd.keep ((Keep.refl (fun x => x = w1.heap.size) w3).setCell (p := ⟨w1.heap.size, 0, none⟩) (.inl rfl) (.slice ra X.length rc)) (fun x hx _ e => by have e : x = w1.heap.size := e; omega)).mono (show w.heap.size + 1 ≤ w2.heap.size by omega))
    have HRd : Hid (RdS (w.heap.size + 1) (w3.setCell ⟨w1.heap.size, 0, none⟩ (.slice ra X.length rc)) (.slice ra X.length rc) (.slice (some ⟨tc, 0, none⟩) n sc2) _ _) := Lib.hid ⟨HO9.out, HRd1.out.2.keep K9 (fun x hx h2 e => by rcases e with e | e <;> omega)⟩
    have HD6 := Lib.hid (drew_set HD3.out (p := ⟨w1.heap.size, 0, none⟩) (show w.heap.size ≤ w1.heap.size by omega) (show b < w1.heap.size by omega) (.slice ra X.length rc))
    have HLn := Lib.hid HX.out
    obtain ⟨x0, x1, x2, x3⟩ := two_cells HBX3.out
    obtain ⟨-, -, x4, x5⟩ := two_cells HF3.out
    obtain ⟨y0, y1, -, -⟩ := two_cells (HBX3.out.set 0 (.slice ra X.length rc))
    obtain ⟨z0, z1, -, -⟩ := two_cells (HF3.out.other (a := ⟨w1.heap.size, 0, none⟩) (show w.heap.size ≠ w1.heap.size by omega) (.slice ra X.length rc))
    clear hor hd3 hXl hXr K3 K9
    go_wp2
    exact bodyPost_ret (v := .agg #[.slice ra X.length rc, .slice (some ⟨tc, 0, none⟩) n sc2]) (by simp [results, Try.results41, go_sem, z0, z1]) rfl (spoil_end HRd.out (Nat.lt_succ_self _) hbl HLn.out HD6.out)
  have s4 : (kd == 4) = false := by simp [e4]
  obtain ⟨x0, x1, -, -⟩ := two_cells HBX2.out
  obtain ⟨z0, z1, x4, x5⟩ := two_cells HF2.out
  have HYl := Lib.hid (show A.length ≤ 101 by rw [HN.out.1]; omega)
  go_wp2
  exact bodyPost_ret (v := .agg #[.slice (some ⟨tb, 0, none⟩) n sc1, .slice (some ⟨tc, 0, none⟩) n sc2]) (by simp [results, Try.results41, go_sem, z0, z1]) rfl (spoil_end HSA2.out.rd (Nat.lt_succ_self _) hbl HYl.out HD2.out)


end Go.Proofs.Ytkghonhghbcdlaa

namespace Go.Proofs.Ytkghonhghbcdlaa
set_option linter.unusedVariables false
set_option linter.unusedSimpArgs false
open Go Go.RowKit

set_option maxHeartbeats 800000 in
theorem c_hasRow5 (v1 v2 : Value) (xs : List (List Int)) (ys : List Int) (w : World) (hx : Rows w v1 xs) (hy : Ints w v2 ys) :
    Calls Try.prog 38 #[v1, v2] w (RVal w (.bool (decide (ys ∈ xs)))) := by
  obtain ⟨a, c, rfl, hc, hm⟩ := hx.shape
  obtain ⟨a2, c2, rfl, hc2, hm2⟩ := hy.shape
  go_enter Try.func38, Try.ntmps38
  go_wp2
  go_loopw [5] (fun i wr => ∃ k : Nat, k ≤ xs.length ∧ i = .int .i64 k ∧ Hid (Below w.heap.size w wr) ∧ Hid (ys ∉ xs.take k)) (fun i _ => xs.length - (intOf i).toNat)
  case atStart => exact ⟨0, Nat.zero_le _, rfl, Lib.hid (Below.refl _ _), Lib.hid (by simp)⟩
  case round =>
    obtain ⟨k, hk, rfl, HB, HT⟩ := hrel
    obtain ⟨wo, rfl⟩ : ∃ wo : World, wo = wr := ⟨_, rfl⟩
    by_cases hlt : k < xs.length
    · obtain ⟨b, o, u1, u2, rfl, hcell, hu⟩ := (hx.below HB.out).getS k hlt
      have HU := Lib.hid hu
      have HY := Lib.hid (hy.below HB.out)
      clear hu
      by_cases he : row xs k = ys
      · have hd : decide (row xs k = ys) = true := by simp [he]
        have HD := Lib.hid hd
        have HE := Lib.hid he; clear he
        go_wp2_with fail
        refine (c_likeInts _ _ (row xs k) ys _ HU.out HY.out).mono ?_; rintro e w2 ⟨rfl, hb⟩
        rw [HD.out]
        have HB2 := Lib.hid (bb HB.out (below_of_drewN hb))
        clear hb
        go_wp2
        go_ret
        refine ⟨ret_bool ?_, HB2.out⟩
        rw [← HE.out]
        simp [row_mem (t := xs) (x := (k : Int)) (by omega) (by omega)]
      · have hd : decide (row xs k = ys) = false := by simp [he]
        have HD := Lib.hid hd
        have HE := Lib.hid he; clear he
        go_wp2_with fail
        refine (c_likeInts _ _ (row xs k) ys _ HU.out HY.out).mono ?_; rintro e w2 ⟨rfl, hb⟩
        rw [HD.out]
        have HB2 := Lib.hid (bb HB.out (below_of_drewN hb))
        clear hb
        go_wp2
        go_roundw
        case rel => exact ⟨k + 1, by omega, by go_num, HB2, Lib.hid (by
          rw [take_snoc_row _ _ hlt]
          intro h
          rcases List.mem_append.1 h with h | h
          · exact HT.out h
          · simp at h; exact HE.out h.symm)⟩
        case measure => simp [intOf]; omega
    · go_wp2
      go_ret
      refine ⟨ret_bool ?_, HB.out⟩
      have h := HT.out
      rw [List.take_of_length_le (by omega)] at h
      simp [h]

/-- The length of a slice's value. -/
def lenV : Value → Nat
  | .slice _ n _ => n
  | _ => 0
theorem c_l01UnitI (N : Int) (n : Nat) (hN : N = n) (w : World) (hn : n ≤ 1048576) :
    Calls Try.prog 99 #[.int .i64 N] w (RInts w (iota n)) := by
  subst hN
  exact c_l01Unit n w hn
/-- What the draw of a system leaves. -/
def RGr2 (b : Nat) (w : World) (e : Ending) (w' : World) : Prop :=
  ∃ (n : Int) (r : Value) (L : List (List Int)), e = .returned (.tuple #[.int .i64 n, r]) ∧ (-1 ≤ n ∧ n ≤ 1000) ∧ OwnRows w.heap.size w' r L ∧ Drew b w w'
set_option maxRecDepth 100000 in
set_option maxHeartbeats 4000000 in
theorem c_l01Group2 (b m : Nat) (w : World) (hs : Src w b) (h1 : 1 ≤ m) (h2 : m ≤ 100) :
    Calls Try.prog 73 #[.pointer (some ⟨b, 0, none⟩), .int .i64 m] w (RGr2 b w) := by
  have hbl := hs.lt
  have HS0 := Lib.hid hs
  clear hs
  go_enter Try.func73, Try.ntmps73
  have HB0 : Hid (Below w.heap.size w (w.alloc (.cells #[] 27))) := Lib.hid ((Below.refl _ _).alloc (Nat.le_refl _) _)
  go_wp2_with fail
  refine (c_l01Next b m _ HS0.out (by omega) (by omega)).mono ?_; rintro e w1 ⟨n0, rfl, n1, n2, hd1⟩
  obtain ⟨N, hN⟩ : ∃ N : Nat, 1 + n0 = (N : Int) := ⟨(1 + n0).toNat, by omega⟩
  have hN1 : 1 ≤ N ∧ N ≤ 100 := by omega
  have HD1 := Lib.hid (hd1.under ((Below.refl w1.heap.size w1).alloc (Nat.le_refl _) (.cells #[] 27)))
  have HO1 := Lib.hid ((OwnRows.made0 w1 (Nat.le_refl w1.heap.size)).mono hd1.2.size)
  clear hd1 HB0
  go_wp2_with fail
  refine (c_l01Next b 4 _ HD1.out.1 (by omega) (by omega)).mono ?_; rintro e w2 ⟨k0, rfl, k1, k2, hd2⟩
  obtain ⟨K, rfl⟩ : ∃ K : Nat, k0 = K := ⟨k0.toNat, by omega⟩
  have HD2 := Lib.hid (HD1.out.trans hd2)
  have HO2 := Lib.hid (HO1.out.keep hd2.2 (fun x h1 h2 e => by have e : x = b := e; omega))
  clear hd2 hN n1 n2
  go_wp2
  go_loopw [7, 8] (fun t x wr => ∃ (j l : Nat) (X : List (List Int)) (ta : Option Addr) (tc : Nat), l + j ≤ 3 ∧ x = .int .i64 j ∧ t = .slice ta l tc ∧ Hid (X.length = l) ∧ Hid (OwnRows w.heap.size wr (.slice ta l tc) X) ∧ Hid (Drew b w wr)) (fun _ x _ => (intOf x).toNat)
  case atStart => exact ⟨K, 0, [], _, _, by omega, rfl, rfl, Lib.hid rfl, HO2, HD2⟩
  case round =>
    clear HO2 HD2 HO1 HD1
    obtain ⟨j, l, X, ta, tc, hjl, rfl, rfl, HX, HO, HDr⟩ := hrel
    obtain ⟨wo, rfl⟩ : ∃ wo : World, wo = wr := ⟨_, rfl⟩
    have hwo : w.heap.size ≤ wo.heap.size := HDr.out.2.size
    by_cases hj : 0 < j
    · go_wp2_with fail
      refine (c_l01Draw b N _ HDr.out.1 (by omega) (by omega)).mono ?_; rintro e w3 ⟨rr, ys, rfl, hyl, hor, hd3⟩
      obtain ⟨ra, rc, hv, -, -⟩ := hor.ints.shape
      rw [hyl] at hv
      subst hv
      have HDi := Lib.hid (HDr.out.trans hd3)
      have HRI := Lib.hid (HO.out.inn.keep hd3.2 (fun x h1 h2 e => by have e : x = b := e; omega))
      have HOr := Lib.hid hor
      have HSz : Hid (wo.heap.size ≤ w3.heap.size ∧ w.heap.size ≤ w3.heap.size) := Lib.hid ⟨hd3.2.size, by have := hd3.2.size; omega⟩
      clear hor hd3 hyl HO HDr
      go_wp2_with (at_builtin; refine wpList_app_row2 w.heap.size wo.heap.size w3 _ X _ ys _ _ rfl rfl rfl HRI.out HOr.out rfl (by have := HX.out; omega) (by have := hwo; omega) HSz.out.2 ?_; intro ga gc w9 hown hkeep hor; have HOwn := Lib.hid hown; have HKp := Lib.hid hkeep; clear hown hkeep hor)
      go_roundw
      case rel =>
        have hX := HX.out
        exact ⟨j - 1, l + 1, X ++ [ys], some ⟨ga, 0, none⟩, gc, by omega, by go_num, by rw [hX], Lib.hid (by simp [hX]), Lib.hid (by have h := HOwn.out; rw [hX] at h; exact h), Lib.hid (drew_app HDi.out HRI.out.out HKp.out hbl)⟩
      case measure => simp [intOf]; omega
    · obtain rfl : j = 0 := by omega
      have hl3 : l ≤ 3 := by omega
      go_wp2_with fail
      refine (c_l01Next b 30 _ HDr.out.1 (by omega) (by omega)).mono ?_; rintro e w4 ⟨kd, rfl, q0, q1, hd4⟩
      have HD4 := Lib.hid (HDr.out.trans hd4)
      have HO4 := Lib.hid (HO.out.keep hd4.2 (fun x h1 h2 e => by have e : x = b := e; omega))
      have hw4 : w.heap.size ≤ w4.heap.size := HD4.out.2.size
      clear hd4 HO HDr
      by_cases e0 : kd = 0
      · subst e0
        go_wp2_with fail
        refine (c_l01UnitI _ (N + 1) (by omega) _ (by omega)).mono ?_; rintro e w5 ⟨ru, rfl, hou, hb5⟩
        obtain ⟨ua, uc, hu, -, -⟩ := hou.ints.shape
        rw [iota_length] at hu
        subst hu
        have HRI := Lib.hid (HO4.out.inn.under hb5); have HU := Lib.hid hou; have HD5 := Lib.hid (HD4.out.under hb5)
        have HSz : Hid (w.heap.size ≤ w4.heap.size ∧ w.heap.size ≤ w5.heap.size) := Lib.hid ⟨hw4, by have := hb5.size; omega⟩
        clear hou hb5
        go_wp2_with (at_builtin; refine wpList_app_row2 w.heap.size w4.heap.size w5 _ X _ (iota (N + 1)) _ _ rfl rfl rfl HRI.out HU.out rfl (by have := HX.out; omega) HSz.out.1 HSz.out.2 ?_; intro ga gc w9 hown hkeep hor; have HOwn := Lib.hid hown; have HKp := Lib.hid hkeep; clear hown hkeep hor)
        go_ret2
        exact ⟨_, _, X ++ [iota (N + 1)], rfl, by omega, HOwn.out, drew_app HD5.out HRI.out.out HKp.out hbl⟩
      have z0 : (kd == 0) = false := by simp [e0]
      by_cases e1 : kd = 1
      · subst e1
        have hbel : Below w4.heap.size w4 (w4.alloc (.cells #[.int .i64 (-1), .int .i64 0, .int .i64 13, .int .i64 ((N : Int) + 1)] 2)) := (Below.refl _ _).alloc (Nat.le_refl _) _
        have HD5 := Lib.hid (HD4.out.under hbel)
        have HO5 := Lib.hid (HO4.out.under hbel)
        have hlt := HD4.out.1.lt
        have hown : Own w4.heap.size (w4.alloc (.cells #[.int .i64 (-1), .int .i64 0, .int .i64 13, .int .i64 ((N : Int) + 1)] 2)) (.slice (some ⟨w4.heap.size, 0, none⟩) 4 4) [-1, 0, 13, (N : Int) + 1] :=
          Own.shut (cs := []) (by simpa using Blk.new w4 [.int .i64 (-1), .int .i64 0, .int .i64 13, .int .i64 ((N : Int) + 1)] 2) (Nat.le_refl _) (by simp [maxLen]) (by simp) (by simp)
        have HW := Lib.hid hown
        clear hbel hown
        go_wp2_with fail
        refine (c_l01Pick b w4.heap.size _ [-1, 0, 13, (N : Int) + 1] _ HD5.out.1 HW.out hlt (by simp) (by simp)).mono ?_; rintro e w6 ⟨x, rfl, hx, hd6⟩
        have HD6 := Lib.hid (HD5.out.trans hd6)
        have HO6 := Lib.hid (HO5.out.keep hd6.2 (fun x h1 h2 e => by have e : x = b := e; omega))
        have hxr : -1 ≤ x ∧ x ≤ 1000 := by simp at hx; omega
        have HXr := Lib.hid hxr
        clear hx hd6 hxr
        go_wp2
        go_ret2
        exact ⟨_, _, X, rfl, HXr.out, HO6.out, HD6.out⟩
      have z1 : (kd == 1) = false := by simp [e1]
      by_cases e2 : kd = 2
      · subst e2
        go_wp2
        go_loopw [7] (fun t wr => ∃ (l : Nat) (X : List (List Int)) (ta : Option Addr) (tc : Nat), l ≤ 17 ∧ t = .slice ta l tc ∧ Hid (X.length = l) ∧ Hid (OwnRows w.heap.size wr (.slice ta l tc) X) ∧ Hid (Drew b w wr)) (fun t _ => 17 - lenV t)
        case atStart => exact ⟨l, X, _, _, by omega, rfl, HX, HO4, HD4⟩
        case round =>
          clear HX HO4 HD4 hl3 hjl
          obtain ⟨l, X, ta, tc, hl, rfl, HX, HO, HDr⟩ := hrel
          obtain ⟨wo, rfl⟩ : ∃ wo : World, wo = wr := ⟨_, rfl⟩
          have hwo : w.heap.size ≤ wo.heap.size := HDr.out.2.size
          by_cases hlt : l < 17
          · go_wp2_with fail
            refine (c_l01Unit N _ (by omega)).mono ?_; rintro e w5 ⟨ru, rfl, hou, hb5⟩
            obtain ⟨ua, uc, hu, -, -⟩ := hou.ints.shape
            rw [iota_length] at hu
            subst hu
            have HRI := Lib.hid (HO.out.inn.under hb5); have HU := Lib.hid hou; have HD5 := Lib.hid (HDr.out.under hb5)
            have HSz : Hid (w.heap.size ≤ wo.heap.size ∧ w.heap.size ≤ w5.heap.size) := Lib.hid ⟨hwo, by have := hb5.size; omega⟩
            clear hou hb5 HO HDr
            go_wp2_with (at_builtin; refine wpList_app_row2 w.heap.size wo.heap.size w5 _ X _ (iota N) _ _ rfl rfl rfl HRI.out HU.out rfl (by have := HX.out; omega) HSz.out.1 HSz.out.2 ?_; intro ga gc w9 hown hkeep hor; have HOwn := Lib.hid hown; have HKp := Lib.hid hkeep; clear hown hkeep hor)
            go_roundw
            case rel =>
              have hX := HX.out
              exact ⟨l + 1, X ++ [iota N], some ⟨ga, 0, none⟩, gc, by omega, by rw [hX], Lib.hid (by simp [hX]), Lib.hid (by have h := HOwn.out; rw [hX] at h; exact h), Lib.hid (drew_app HD5.out HRI.out.out HKp.out hbl)⟩
            case measure => simp [lenV]; have := HX.out; omega
          · go_wp2
            go_ret2
            exact ⟨_, _, X, rfl, by omega, HO.out, HDr.out⟩
      have z2 : (kd == 2) = false := by simp [e2]
      go_wp2
      go_ret2
      exact ⟨_, _, X, rfl, by omega, HO4.out, HD4.out⟩

set_option maxRecDepth 100000 in
set_option maxHeartbeats 1600000 in
theorem c_DrawGroup (v : Value) (n : Nat) (w : World) (hv : BytesR w v n) (hn : n ≤ 4096) :
    Calls Try.prog 31 #[v] w (fun e w' => ∃ (k : Int) (r : Value) (L : List (List Int)), e = .returned (.tuple #[.int .i64 k, r]) ∧ (-1 ≤ k ∧ k ≤ 1000) ∧ Rows w' r L ∧ Below w.heap.size w w') := by
  have HV := Lib.hid hv
  obtain ⟨a, c, hva, -⟩ := hv
  subst hva
  go_enter Try.func31, Try.ntmps31
  go_wp2_with fail
  refine (c_l01From _ n _ HV.out hn).mono ?_; rintro e w1 ⟨b, rfl, hwb, hs, hb1⟩
  have HS := Lib.hid hs; have HB1 := Lib.hid hb1
  have hbel : Below w1.heap.size w1 (w1.alloc (.cells #[.int .i64 4, .int .i64 5, .int .i64 6, .int .i64 7] 2)) := (Below.refl _ _).alloc (Nat.le_refl _) _
  have HD2 := Lib.hid ((Drew.refl hs).under hbel)
  have hlt := hs.lt
  have hown : Own w1.heap.size (w1.alloc (.cells #[.int .i64 4, .int .i64 5, .int .i64 6, .int .i64 7] 2)) (.slice (some ⟨w1.heap.size, 0, none⟩) 4 4) [4, 5, 6, 7] :=
    Own.shut (cs := []) (by simpa using Blk.new w1 [.int .i64 4, .int .i64 5, .int .i64 6, .int .i64 7] 2) (Nat.le_refl _) (by simp [maxLen]) (by simp) (by simp)
  have HW := Lib.hid hown
  clear hbel hown hs hb1
  go_wp2_with fail
  refine (c_l01Pick b w1.heap.size _ [4, 5, 6, 7] _ HD2.out.1 HW.out hlt (by simp) (by simp)).mono ?_; rintro e w2 ⟨x, rfl, hx, hd⟩
  obtain ⟨m, rfl⟩ : ∃ m : Nat, x = m := ⟨x.toNat, by simp at hx; omega⟩
  have hm : 1 ≤ m ∧ m ≤ 100 := by simp at hx; omega
  have HD3 := Lib.hid (HD2.out.trans hd)
  clear hx hd
  go_wp2_with fail
  refine (c_l01Group2 b m _ HD3.out.1 hm.1 hm.2).mono ?_; rintro e w3 ⟨k, r, L, rfl, hk, ho, hd⟩
  obtain ⟨ra, rc, hr, hrows⟩ := OwnRows.shape' ho
  subst hr
  have HR := Lib.hid hrows; have HB := Lib.hid ((HD3.out.trans hd).below HB1.out hwb HB1.out.size)
  clear ho hd hrows
  go_wp2
  go_ret2
  exact ⟨k, _, L, rfl, hk, HR.out, HB.out⟩
end Go.Proofs.Ytkghonhghbcdlaa

namespace Go.Proofs.Ytkghonhghbcdlaa
set_option linter.unusedVariables false
set_option linter.unusedSimpArgs false
open Go Go.RowKit

set_option maxRecDepth 100000 in
set_option maxHeartbeats 1600000 in
theorem c_DrawProduct (v : Value) (n : Nat) (w : World) (hv : BytesR w v n) (hn : n ≤ 4096) :
    Calls Try.prog 16 #[v] w (fun e w' => ∃ (v1 v2 v3 v4 : Value) (A B C D : List (List Int)), e = .returned (.tuple #[.agg #[v1, v2], .agg #[v3, v4]]) ∧ Sol w' v1 v2 A B ∧ Sol w' v3 v4 C D ∧ Below w.heap.size w w') := by
  obtain ⟨HF0, HG0, HB0, hsz⟩ := boxes2 w [.slice none 0 0, .slice none 0 0] [.slice none 0 0, .slice none 0 0] 26 26
  have HV := Lib.hid (hv.below HB0); have HF := Lib.hid HF0; have HG := Lib.hid HG0; have HB := Lib.hid HB0
  obtain ⟨a, c, hva, -⟩ := hv
  subst hva
  clear HF0 HG0 HB0
  go_enter Try.func16, Try.ntmps16
  go_wp2_with fail
  refine (c_l01From _ n _ HV.out hn).mono ?_; rintro e w1 ⟨b, rfl, hwb, hs, hb1⟩
  have HS := Lib.hid hs; have HB1 := Lib.hid (below_under HB.out (by rw [hsz]; omega) hb1); have HF1 := Lib.hid (HF.out.under hb1); have HG1 := Lib.hid (HG.out.under hb1)
  have hs1 : w.heap.size + 1 + 1 ≤ w1.heap.size := by have := hb1.size; rw [hsz] at this; exact this
  rw [hsz] at hwb
  clear hs hb1 HV hsz HB HF HG
  go_wp2_with fail
  refine (c_l02Spoil b 4 _ HS.out (by omega) (by omega)).mono ?_; rintro e w2 ⟨r1, r2, A, B, rfl, hrd, hl, hd⟩
  obtain ⟨sa1, sl1, sc1, hv1⟩ := hrd.sol.1.any
  obtain ⟨sa2, sl2, sc2, hv2⟩ := hrd.sol.2.any
  subst hv1 hv2
  have hba : Below w2.heap.size w2 (w2.alloc (.cells #[.slice sa1 sl1 sc1, .slice sa2 sl2 sc2] 26)) := (Below.refl _ _).alloc (Nat.le_refl _) _
  have HD2 := Lib.hid (hd.under hba); have HRd := Lib.hid (hrd.under hba)
  have HF2 := Lib.hid ((hd.blk HF1.out (by omega)).under hba); have HG2 := Lib.hid ((hd.blk HG1.out (by omega)).under hba)
  have HA2 := Lib.hid (show Blk (w2.alloc (.cells #[.slice sa1 sl1 sc1, .slice sa2 sl2 sc2] 26)) w2.heap.size 26 [.slice sa1 sl1 sc1, .slice sa2 sl2 sc2] from Blk.new w2 [.slice sa1 sl1 sc1, .slice sa2 sl2 sc2] 26)
  have hw2 : w1.heap.size ≤ w2.heap.size := hd.2.size
  have hb2 : b < w1.heap.size := HS.out.lt
  clear hrd hd hba HF1 HG1 HS
  go_wp2_with fail
  refine (c_l02Spoil b 3 _ HD2.out.1 (by omega) (by omega)).mono ?_; rintro e w3 ⟨r3, r4, C, D, rfl, hrd, hl3, hd⟩
  obtain ⟨sa3, sl3, sc3, hv1⟩ := hrd.sol.1.any
  obtain ⟨sa4, sl4, sc4, hv2⟩ := hrd.sol.2.any
  subst hv1 hv2
  have hba : Below w3.heap.size w3 (w3.alloc (.cells #[.slice sa3 sl3 sc3, .slice sa4 sl4 sc4] 26)) := (Below.refl _ _).alloc (Nat.le_refl _) _
  have HZB := Lib.hid ((hd.blk HF2.out (by omega)).under hba); have HYB := Lib.hid ((hd.blk HG2.out (by omega)).under hba)
  obtain ⟨z0, z1, z2, z3⟩ := two_cells ((hd.blk HF2.out (by omega)).under hba)
  obtain ⟨y0, y1, y2, y3⟩ := two_cells ((hd.blk HG2.out (by omega)).under hba)
  obtain ⟨a0, a1, -, -⟩ := two_cells ((hd.blk HA2.out (by omega)).under hba)
  obtain ⟨b0, b1, -, -⟩ := two_cells (Blk.new w3 [.slice sa3 sl3 sc3, .slice sa4 sl4 sc4] 26)
  have HSl := Lib.hid ((hrd.mono (show w.heap.size + 2 ≤ _ by simp; omega)).under hba)
  have HSr := Lib.hid (((HRd.out.drew hd hb2).mono (show w.heap.size + 2 ≤ _ by omega)).under hba)
  have HBw := Lib.hid (((HD2.out.trans hd).under hba).below HB1.out (by omega) (by omega))
  have hlt3 : w.heap.size + 2 ≤ w3.heap.size := by have := (HD2.out.trans hd).2.size; omega
  have hlt2 : w.heap.size + 2 ≤ w2.heap.size := by omega
  have K0 : Keep (fun k => k = w.heap.size ∨ k = w.heap.size + 1) (w3.alloc (.cells #[.slice sa3 sl3 sc3, .slice sa4 sl4 sc4] 26)) (w3.alloc (.cells #[.slice sa3 sl3 sc3, .slice sa4 sl4 sc4] 26)).drew := (Keep.refl _ _).drew
  have HK : Hid (∀ w' : World, Keep (fun k => k = w.heap.size ∨ k = w.heap.size + 1) (w3.alloc (.cells #[.slice sa3 sl3 sc3, .slice sa4 sl4 sc4] 26)) w' → (w'.cell? ⟨w2.heap.size, 0, none⟩ = some (.slice sa1 sl1 sc1) ∧ w'.cell? ⟨w2.heap.size, 1, none⟩ = some (.slice sa2 sl2 sc2)) ∧ w'.cell? ⟨w3.heap.size, 0, none⟩ = some (.slice sa3 sl3 sc3) ∧ w'.cell? ⟨w3.heap.size, 1, none⟩ = some (.slice sa4 sl4 sc4)) := Lib.hid fun w' k =>
    ⟨⟨cell_of_block (k.block _ (cell_lt a0) (by omega)) a0, cell_of_block (k.block _ (cell_lt a1) (by omega)) a1⟩, cell_of_block (k.block _ (cell_lt b0) (by omega)) b0, cell_of_block (k.block _ (cell_lt b1) (by omega)) b1⟩
  clear hba hrd hd
  go_wp2
  go_region_held3 (fun w' => (w'.cell? ⟨w2.heap.size, 0, none⟩ = some (.slice sa1 sl1 sc1) ∧ w'.cell? ⟨w2.heap.size, 1, none⟩ = some (.slice sa2 sl2 sc2)) ∧ w'.cell? ⟨w3.heap.size, 0, none⟩ = some (.slice sa3 sl3 sc3) ∧ w'.cell? ⟨w3.heap.size, 1, none⟩ = some (.slice sa4 sl4 sc4))
    (first | exact HK.out _ K0 | exact HK.out _ (((K0.setCell (p := ⟨w.heap.size, 0, none⟩) (.inl (.inl rfl)) _)).setCell (p := ⟨w.heap.size, 1, none⟩) (.inl (.inl rfl)) _) | exact HK.out _ (((((K0.setCell (p := ⟨w.heap.size, 0, none⟩) (.inl (.inl rfl)) _)).setCell (p := ⟨w.heap.size, 1, none⟩) (.inl (.inl rfl)) _).setCell (p := ⟨w.heap.size + 1, 0, none⟩) (.inl (.inr rfl)) _).setCell (p := ⟨w.heap.size + 1, 1, none⟩) (.inl (.inr rfl)) _))
    (fail)
  rename_i hHz
  clear hHz
  have kz : Keep (fun k => k = w.heap.size ∨ k = w.heap.size + 1) (w3.alloc (.cells #[.slice sa3 sl3 sc3, .slice sa4 sl4 sc4] 26)) (((((w3.alloc (.cells #[.slice sa3 sl3 sc3, .slice sa4 sl4 sc4] 26)).setCell ⟨w.heap.size, 0, none⟩ (.slice sa1 sl1 sc1)).setCell ⟨w.heap.size, 1, none⟩ (.slice sa2 sl2 sc2)).setCell ⟨w.heap.size + 1, 0, none⟩ (.slice sa3 sl3 sc3)).setCell ⟨w.heap.size + 1, 1, none⟩ (.slice sa4 sl4 sc4)).drew :=
    (((((Keep.refl _ _).setCell (p := ⟨w.heap.size, 0, none⟩) (.inl (.inl rfl)) _).setCell (p := ⟨w.heap.size, 1, none⟩) (.inl (.inl rfl)) _).setCell (p := ⟨w.heap.size + 1, 0, none⟩) (.inl (.inr rfl)) _).setCell (p := ⟨w.heap.size + 1, 1, none⟩) (.inl (.inr rfl)) _).drew
  have R1 := Lib.hid ((HSr.out.keep kz (fun x hx _ e => by rcases e with e | e <;> omega)).sol)
  have R2 := Lib.hid ((HSl.out.keep kz (fun x hx _ e => by rcases e with e | e <;> omega)).sol)
  have hbx := HBw.out.trans (kz.below (B := w.heap.size) fun k hk => ⟨by simp; omega, fun e => by rcases e with e | e <;> omega⟩)
  have HBx := Lib.hid hbx
  have hz := (((HZB.out.set 0 (.slice sa1 sl1 sc1)).set 1 (.slice sa2 sl2 sc2)).other (a := ⟨w.heap.size + 1, 0, none⟩) (by simp) (.slice sa3 sl3 sc3)).other (a := ⟨w.heap.size + 1, 1, none⟩) (by simp) (.slice sa4 sl4 sc4)
  have hy := (((HYB.out.other (a := ⟨w.heap.size, 0, none⟩) (by simp) (.slice sa1 sl1 sc1)).other (a := ⟨w.heap.size, 1, none⟩) (by simp) (.slice sa2 sl2 sc2)).set 0 (.slice sa3 sl3 sc3)).set 1 (.slice sa4 sl4 sc4)
  obtain ⟨e0, e1, -, -⟩ := two_cells hz.drew
  obtain ⟨e2, e3, -, -⟩ := two_cells hy.drew
  clear hz hy kz hbx z0 z1 z2 z3 y0 y1 y2 y3 a0 a1 b0 b1
  go_wp2
  exact bodyPost_ret (v := .tuple #[.agg #[.slice sa1 sl1 sc1, .slice sa2 sl2 sc2], .agg #[.slice sa3 sl3 sc3, .slice sa4 sl4 sc4]]) (by simp [results, Try.results16, go_sem, e0, e1, e2, e3]) rfl ⟨_, _, _, _, A, B, C, D, rfl, R1.out, R2.out, HBx.out⟩
end Go.Proofs.Ytkghonhghbcdlaa

namespace Go.Proofs.Ytkghonhghbcdlaa
set_option linter.unusedVariables false
set_option linter.unusedSimpArgs false
open Go Go.RowKit

set_option maxRecDepth 100000 in
set_option maxHeartbeats 1600000 in
theorem c_l02DrawSet (b n : Nat) (w : World) (hs : Src w b) (h2 : n ≤ 1000) :
    Calls Try.prog 44 #[.pointer (some ⟨b, 0, none⟩), .int .i64 n] w (fun e w' => ∃ (r : Value) (xs : List Int), e = .returned r ∧ Own w.heap.size w' r xs ∧ Drew b w w') := by
  have hbl := hs.lt
  have hbel : Below w.heap.size w (w.alloc (.cells #[] 2)) := (Below.refl _ _).alloc (Nat.le_refl _) _
  have HD0 := Lib.hid ((Drew.refl hs).under hbel)
  have HO0 := Lib.hid (Own.made0 w (Nat.le_refl w.heap.size))
  clear hs hbel
  go_enter Try.func44, Try.ntmps44
  go_wp2
  go_loopw [5, 6] (fun s x wr => ∃ (k l : Nat) (xs : List Int) (sa : Option Addr) (sc : Nat), k ≤ n ∧ l ≤ k ∧ x = .int .i64 k ∧ s = .slice sa l sc ∧ Hid (xs.length = l) ∧ Hid (Own w.heap.size wr (.slice sa l sc) xs) ∧ Hid (Drew b w wr)) (fun _ x _ => n - (intOf x).toNat)
  case atStart => exact ⟨0, 0, [], _, _, Nat.zero_le _, Nat.le_refl _, rfl, rfl, Lib.hid rfl, HO0, HD0⟩
  case round =>
    clear HO0 HD0
    obtain ⟨k, l, xs, sa, sc, hk, hlk, rfl, rfl, HL, HO, HDr⟩ := hrel
    obtain ⟨wo, rfl⟩ : ∃ wo : World, wo = wr := ⟨_, rfl⟩
    have hwo : w.heap.size ≤ wo.heap.size := HDr.out.2.size
    by_cases hlt : k < n
    · go_wp2_with fail
      refine (c_l01Next b 2 _ HDr.out.1 (by omega) (by omega)).mono ?_; rintro e w3 ⟨t, rfl, t0, t1, hd3⟩
      have HDi := Lib.hid (HDr.out.trans hd3)
      have HOi := Lib.hid (hd3.own HO.out hbl)
      have hw3 : w.heap.size ≤ w3.heap.size := HDi.out.2.size
      clear hd3 HO HDr
      by_cases ht : t = 0
      · subst ht
        go_wp2_with (at_builtin; refine wpList_app_int2 w.heap.size w3 _ xs (k : Int) _ _ w3.heap.size rfl rfl rfl rfl HOi.out rfl (by have := HL.out; omega) hw3 ?_; intro ga gc w9 hown hkeep hor; have HOwn := Lib.hid hown; have HKp := Lib.hid hkeep; clear hown hkeep hor)
        go_roundw
        case rel =>
          have hX := HL.out
          exact ⟨k + 1, l + 1, xs ++ [(k : Int)], some ⟨ga, 0, none⟩, gc, by omega, by omega, by go_num, by rw [hX], Lib.hid (by simp [hX]), Lib.hid (by have h := HOwn.out; rw [hX] at h; exact h), Lib.hid (drew_int HDi.out HOi.out HKp.out hbl (Nat.le_refl _))⟩
        case measure => simp [intOf]; omega
      · have htb : (t == 0) = false := by simpa using ht
        go_wp2
        go_roundw
        case rel => exact ⟨k + 1, l, xs, sa, sc, by omega, by omega, by go_num, rfl, HL, HOi, HDi⟩
        case measure => simp [intOf]; omega
    · go_wp2_with fail
      refine (c_l01Next b 16 _ HDr.out.1 (by omega) (by omega)).mono ?_; rintro e w3 ⟨t, rfl, t0, t1, hd3⟩
      have HDi := Lib.hid (HDr.out.trans hd3)
      have HOi := Lib.hid (hd3.own HO.out hbl)
      have hw3 : w.heap.size ≤ w3.heap.size := HDi.out.2.size
      clear hd3 HO HDr
      by_cases ht : t = 0
      · subst ht
        have hbel : Below w3.heap.size w3 (w3.alloc (.cells #[.int .i64 0, .int .i64 n, .int .i64 (-1)] 2)) := (Below.refl _ _).alloc (Nat.le_refl _) _
        have HD5 := Lib.hid (HDi.out.under hbel)
        have HO5 := Lib.hid (HOi.out.under hbel)
        have hlt2 := HDi.out.1.lt
        have hown : Own w3.heap.size (w3.alloc (.cells #[.int .i64 0, .int .i64 n, .int .i64 (-1)] 2)) (.slice (some ⟨w3.heap.size, 0, none⟩) 3 3) [0, (n : Int), -1] :=
          Own.shut (cs := []) (by simpa using Blk.new w3 [.int .i64 0, .int .i64 n, .int .i64 (-1)] 2) (Nat.le_refl _) (by simp [maxLen]) (by simp) (by simp)
        have HW := Lib.hid hown
        clear hbel hown
        go_wp2_with fail
        refine (c_l01Pick b w3.heap.size _ [0, (n : Int), -1] _ HD5.out.1 HW.out hlt2 (by simp) (by simp)).mono ?_; rintro e w6 ⟨x, rfl, hx, hd6⟩
        have HD6 := Lib.hid (HD5.out.trans hd6)
        have HO6 := Lib.hid (hd6.own HO5.out hbl)
        have hw6 : w.heap.size ≤ w6.heap.size := HD6.out.2.size
        clear hx hd6
        go_wp2_with (at_builtin; refine wpList_app_int2 w.heap.size w6 _ xs x _ _ w6.heap.size rfl rfl rfl rfl HO6.out rfl (by have := HL.out; omega) hw6 ?_; intro ga gc w9 hown hkeep hor; have HOwn := Lib.hid hown; have HKp := Lib.hid hkeep; clear hown hkeep hor)
        go_ret
        exact ⟨_, xs ++ [x], rfl, HOwn.out, drew_int HD6.out HO6.out HKp.out hbl (Nat.le_refl _)⟩
      · have htb : (t == 0) = false := by simpa using ht
        go_wp2
        go_ret
        exact ⟨_, xs, rfl, HOi.out, HDi.out⟩

/-- Different numbers below N. -/
structure Cl (N : Nat) (xs : List Int) : Prop where
  nd : xs.Nodup
  rng : ∀ y ∈ xs, 0 ≤ y ∧ y < (N : Int)
theorem Cl.one {N x : Nat} (h : x < N) : Cl N [(x : Int)] := ⟨by simp, fun y hy => by simp at hy; omega⟩
theorem Cl.len {N : Nat} {xs : List Int} (h : Cl N xs) : xs.length ≤ N := by
  have : xs ⊆ iota N := fun y hy => (mem_iota _ _).2 (h.rng y hy)
  have := List.Nodup.length_le_of_subset h.nd this
  simpa using this
theorem Cl.snoc {N : Nat} {xs : List Int} {z : Int} (h : Cl N xs) (hz : z ∉ xs) (h0 : 0 ≤ z) (h1 : z < N) : Cl N (xs ++ [z]) := by
  refine ⟨?_, fun y hy => ?_⟩
  · rw [List.nodup_append]
    exact ⟨h.nd, by simp, by intro a ha b hb; simp at hb; subst hb; rintro rfl; exact hz ha⟩
  · rcases List.mem_append.1 hy with hy | hy
    · exact h.rng y hy
    · simp at hy; subst hy; exact ⟨h0, h1⟩
theorem Cl.nat {N i : Nat} {xs : List Int} (h : Cl N xs) (hi : i < xs.length) : ∃ p : Nat, nth xs i = p ∧ p < N := by
  have := h.rng (nth xs i) (nth_mem (by omega) (by omega))
  exact ⟨(nth xs i).toNat, by omega, by omega⟩
set_option maxRecDepth 100000 in
set_option maxHeartbeats 4000000 in
theorem c_DrawSub (v : Value) (n : Nat) (w : World) (hv : BytesR w v n) (hn : n ≤ 4096) :
    Calls Try.prog 8 #[v] w (fun e w' => ∃ (v1 v2 v3 : Value) (A B : List (List Int)) (L : List Int), e = .returned (.tuple #[.agg #[v1, v2], v3]) ∧ Sol w' v1 v2 A B ∧ Ints w' v3 L ∧ Below w.heap.size w w') := by
  obtain ⟨HF0, HB0, hsz⟩ := boxes1' w [.slice none 0 0, .slice none 0 0] 26
  have HV := Lib.hid (hv.below HB0); have HF := Lib.hid HF0; have HB := Lib.hid HB0
  obtain ⟨a, c, hva, -⟩ := hv
  subst hva
  clear HF0 HB0
  go_enter Try.func8, Try.ntmps8
  go_wp2_with fail
  refine (c_l01From _ n _ HV.out hn).mono ?_; rintro e w1 ⟨b, rfl, hwb, hs, hb1⟩
  have HS := Lib.hid hs; have HB1 := Lib.hid (below_under HB.out (by rw [hsz]; omega) hb1); have HF1 := Lib.hid (HF.out.under hb1)
  have hs1 : w.heap.size + 1 ≤ w1.heap.size := by have := hb1.size; rw [hsz] at this; exact this
  rw [hsz] at hwb
  clear hs hb1 HV HB HF hsz
  go_wp2_with fail
  refine (c_l02Spoil b 7 _ HS.out (by omega) (by omega)).mono ?_; rintro e w2 ⟨r1, r2, A, B, rfl, hrd, hl, hd⟩
  obtain ⟨sa1, sl1, sc1, hv1⟩ := hrd.sol.1.any
  obtain ⟨sa2, sl2, sc2, hv2⟩ := hrd.sol.2.any
  subst hv1 hv2
  have hsl1 : sl1 = A.length := by
    obtain ⟨_, _, h, _⟩ := hrd.sol.1.shape
    injection h
  have hba : Below w2.heap.size w2 (w2.alloc (.cells #[.slice sa1 sl1 sc1, .slice sa2 sl2 sc2] 26)) := (Below.refl _ _).alloc (Nat.le_refl _) _
  have hw2 : w1.heap.size ≤ w2.heap.size := hd.2.size
  have hb2 : b < w1.heap.size := HS.out.lt
  have HD2 := Lib.hid (hd.under hba); have HRd := Lib.hid (hrd.under hba)
  have HF2 := Lib.hid ((hd.blk HF1.out (by omega)).under hba)
  have HX2 := Lib.hid (show Blk (w2.alloc (.cells #[.slice sa1 sl1 sc1, .slice sa2 sl2 sc2] 26)) w2.heap.size 26 [.slice sa1 sl1 sc1, .slice sa2 sl2 sc2] from Blk.new w2 [.slice sa1 sl1 sc1, .slice sa2 sl2 sc2] 26)
  have HSL := Lib.hid (And.intro hsl1 hl)
  clear hrd hd hba HF1 HS hsl1 hl
  obtain ⟨x0, x1, -, -⟩ := two_cells HX2.out
  go_wp2_with fail
  refine (c_l02Map _ _ A B _ HRd.out.sol).mono ?_; rintro e w3 ⟨rfl, hb3⟩
  have HD3 := Lib.hid (HD2.out.under hb3); have HR3 := Lib.hid (HRd.out.under hb3); have HF3 := Lib.hid (HF2.out.under hb3); have HX3 := Lib.hid (HX2.out.under hb3)
  clear hb3 x0 x1 HD2 HRd HF2 HX2
  obtain ⟨x0, x1, -, -⟩ := two_cells HX3.out
  by_cases hp : isPM A B = true
  case neg =>
    have hp' : isPM A B = false := by simpa using hp
    rw [hp']
    clear hp hp'
    have hbel : Below w3.heap.size w3 w3.drew := (Below.refl _ _).drew
    have HDv := Lib.hid (HD3.out.under hbel); have HRv := Lib.hid (HR3.out.under hbel); have HFv := Lib.hid (HF3.out.under hbel); have HXv := Lib.hid (HX3.out.under hbel)
    have HSrc := Lib.hid HDv.out.1
    have hl2 : sl1 ≤ 1000 := by have := HSL.out; omega
    have K0 : Keep (fun k => k = b ∨ k = w.heap.size) w3 w3.drew := (Keep.refl _ _).drew
    have HK : Hid (∀ w' : World, Keep (fun k => k = b ∨ k = w.heap.size) w3 w' → w'.cell? ⟨w2.heap.size, 0, none⟩ = some (.slice sa1 sl1 sc1) ∧ w'.cell? ⟨w2.heap.size, 1, none⟩ = some (.slice sa2 sl2 sc2)) := Lib.hid fun w' k => by
      obtain ⟨y0, y1, -, -⟩ := two_cells (HX3.out.of_block (k.block _ HX3.out.lt (by omega)))
      exact ⟨y0, y1⟩
    obtain ⟨zc0, zc1⟩ := HK.out _ K0
    clear hbel x0 x1
    go_wp2
    go_region_held3 (fun w' => w'.cell? ⟨w2.heap.size, 0, none⟩ = some (.slice sa1 sl1 sc1) ∧ w'.cell? ⟨w2.heap.size, 1, none⟩ = some (.slice sa2 sl2 sc2))
      (first | exact HK.out _ K0 | exact HK.out _ K5 | exact HK.out _ ((K5.setCell (p := ⟨w.heap.size, 0, none⟩) (.inl (.inr rfl)) _).setCell (p := ⟨w.heap.size, 1, none⟩) (.inl (.inr rfl)) _))
      ((go_at_call 44; (with_reducible refine (c_l02DrawSet b sl1 _ HSrc.out hl2).mono ?_); rintro e w5 ⟨r5, xs, rfl, ho, hd5⟩; have K5 := K0.trans (keep_mono hd5.2 (T := fun k => k = b ∨ k = w.heap.size) (fun x hx => .inl hx)); have HO5 := Lib.hid ho; have HD5 := Lib.hid hd5; obtain ⟨zd0, zd1⟩ := HK.out _ K5; obtain ⟨z0, z1, z2, z3⟩ := two_cells (hd5.blk HFv.out (by omega)); clear ho hd5))
    all_goals
      rename_i hHz
      clear hHz
      have hz := (HD5.out.blk HFv.out (show w.heap.size ≠ b by omega)).set 0 (.slice sa1 sl1 sc1) |>.set 1 (.slice sa2 sl2 sc2)
      obtain ⟨e0, e1, -, -⟩ := two_cells hz
      have kz : Keep (fun x => x = w.heap.size) w5 ((w5.setCell ⟨w.heap.size, 0, none⟩ (.slice sa1 sl1 sc1)).setCell ⟨w.heap.size, 1, none⟩ (.slice sa2 sl2 sc2)) := keep_early _ _ _ _
      have R1 := Lib.hid (((HRv.out.drew HD5.out hb2).keep kz (fun x hx _ e => by have e : x = w.heap.size := e; omega)).sol)
      have R3 := Lib.hid ((HO5.out.keep kz (fun x hx _ e => by have e : x = w.heap.size := e; have := HFv.out.lt; omega)).ints)
      have HBx := Lib.hid ((((HDv.out.trans HD5.out).below HB1.out (by omega) (by omega)).trans (kz.below (B := w.heap.size) fun k hk => ⟨by have := HD5.out.2.size; have := HFv.out.lt; omega, fun e => by have e : k = w.heap.size := e; omega⟩)))
      clear hz kz z0 z1 z2 z3 zc0 zc1 zd0 zd1
      go_wp2
      exact bodyPost_ret (v := .tuple #[.agg #[.slice sa1 sl1 sc1, .slice sa2 sl2 sc2], r5]) (by simp [results, Try.results8, go_sem, e0, e1]) rfl ⟨_, _, _, A, B, xs, rfl, R1.out, R3.out, HBx.out⟩
  rw [hp]
  have HP := Lib.hid hp
  clear hp
  go_wp2_with fail
  refine (c_l01Next b 4 _ HD3.out.1 (by omega) (by omega)).mono ?_; rintro e w4 ⟨t, rfl, t0, t1, hd4⟩
  have HD4 := Lib.hid (HD3.out.trans hd4); have HR4 := Lib.hid (HR3.out.drew hd4 hb2); have HF4 := Lib.hid (hd4.blk HF3.out (by omega)); have HX4 := Lib.hid (hd4.blk HX3.out (by have := HX3.out; omega))
  clear hd4 x0 x1 HD3 HR3 HF3 HX3
  obtain ⟨x0, x1, -, -⟩ := two_cells HX4.out
  by_cases ht : t = 0
  case pos =>
    subst ht
    have hbel : Below w4.heap.size w4 w4.drew := (Below.refl _ _).drew
    have HDv := Lib.hid (HD4.out.under hbel); have HRv := Lib.hid (HR4.out.under hbel); have HFv := Lib.hid (HF4.out.under hbel); have HXv := Lib.hid (HX4.out.under hbel)
    have HSrc := Lib.hid HDv.out.1
    have hl2 : sl1 ≤ 1000 := by have := HSL.out; omega
    have K0 : Keep (fun k => k = b ∨ k = w.heap.size) w4 w4.drew := (Keep.refl _ _).drew
    have HK : Hid (∀ w' : World, Keep (fun k => k = b ∨ k = w.heap.size) w4 w' → w'.cell? ⟨w2.heap.size, 0, none⟩ = some (.slice sa1 sl1 sc1) ∧ w'.cell? ⟨w2.heap.size, 1, none⟩ = some (.slice sa2 sl2 sc2)) := Lib.hid fun w' k => by
      obtain ⟨y0, y1, -, -⟩ := two_cells (HX4.out.of_block (k.block _ HX4.out.lt (by omega)))
      exact ⟨y0, y1⟩
    obtain ⟨zc0, zc1⟩ := HK.out _ K0
    clear hbel x0 x1
    go_wp2
    go_region_held3 (fun w' => w'.cell? ⟨w2.heap.size, 0, none⟩ = some (.slice sa1 sl1 sc1) ∧ w'.cell? ⟨w2.heap.size, 1, none⟩ = some (.slice sa2 sl2 sc2))
      (first | exact HK.out _ K0 | exact HK.out _ K5 | exact HK.out _ ((K5.setCell (p := ⟨w.heap.size, 0, none⟩) (.inl (.inr rfl)) _).setCell (p := ⟨w.heap.size, 1, none⟩) (.inl (.inr rfl)) _))
      ((go_at_call 44; (with_reducible refine (c_l02DrawSet b sl1 _ HSrc.out hl2).mono ?_); rintro e w5 ⟨r5, xs, rfl, ho, hd5⟩; have K5 := K0.trans (keep_mono hd5.2 (T := fun k => k = b ∨ k = w.heap.size) (fun x hx => .inl hx)); have HO5 := Lib.hid ho; have HD5 := Lib.hid hd5; obtain ⟨zd0, zd1⟩ := HK.out _ K5; obtain ⟨z0, z1, z2, z3⟩ := two_cells (hd5.blk HFv.out (by omega)); clear ho hd5))
    all_goals
      rename_i hHz
      clear hHz
      have hz := (HD5.out.blk HFv.out (show w.heap.size ≠ b by omega)).set 0 (.slice sa1 sl1 sc1) |>.set 1 (.slice sa2 sl2 sc2)
      obtain ⟨e0, e1, -, -⟩ := two_cells hz
      have kz : Keep (fun x => x = w.heap.size) w5 ((w5.setCell ⟨w.heap.size, 0, none⟩ (.slice sa1 sl1 sc1)).setCell ⟨w.heap.size, 1, none⟩ (.slice sa2 sl2 sc2)) := keep_early _ _ _ _
      have R1 := Lib.hid (((HRv.out.drew HD5.out hb2).keep kz (fun x hx _ e => by have e : x = w.heap.size := e; omega)).sol)
      have R3 := Lib.hid ((HO5.out.keep kz (fun x hx _ e => by have e : x = w.heap.size := e; have := HFv.out.lt; omega)).ints)
      have HBx := Lib.hid ((((HDv.out.trans HD5.out).below HB1.out (by omega) (by omega)).trans (kz.below (B := w.heap.size) fun k hk => ⟨by have := HD5.out.2.size; have := HFv.out.lt; omega, fun e => by have e : k = w.heap.size := e; omega⟩)))
      clear hz kz z0 z1 z2 z3 zc0 zc1 zd0 zd1
      go_wp2
      exact bodyPost_ret (v := .tuple #[.agg #[.slice sa1 sl1 sc1, .slice sa2 sl2 sc2], r5]) (by simp [results, Try.results8, go_sem, e0, e1]) rfl ⟨_, _, _, A, B, xs, rfl, R1.out, R3.out, HBx.out⟩
  have htb : (t == 0) = false := by simpa using ht
  clear ht
  -- the least closed set
  obtain ⟨N, b0, o0, c0, rb0, ro0, rc0, b0s, o0s, c0s, rb0s, ro0s, rc0s, ev1, ev2, hl0, hl0s, hn1, hn12, hc0, hm0, hc0s, hm0s, -, -⟩ := HR4.out.sol.tabs HP.out
  injection ev1 with ev1 e1 e2
  injection ev2 with ev2 e3 e4
  subst ev1 e1 e2 ev2 e3 e4
  clear hl0 hl0s
  obtain ⟨sl1, hsl⟩ : ∃ k, k = sl2 := ⟨_, rfl⟩
  subst hsl
  have hn1I : (1 : Int) ≤ (sl1 : Int) := by omega
  have hn2I : (sl1 : Int) ≤ 9223372036854775807 := by omega
  go_wp2_with fail
  refine (c_l01Next b sl1 _ HD4.out.1 hn1I hn2I).mono ?_; rintro e w5 ⟨x, rfl, u0, u1, hd5⟩
  obtain ⟨X, rfl⟩ : ∃ X : Nat, x = X := ⟨x.toNat, by omega⟩
  have HD5 := Lib.hid (HD4.out.trans hd5); have HR5 := Lib.hid (HR4.out.drew hd5 hb2); have HF5 := Lib.hid (hd5.blk HF4.out (by omega)); have HX5 := Lib.hid (hd5.blk HX4.out (by omega))
  clear hd5 x0 x1 HD4 HR4 HF4 HX4
  have HT : Hid (∃ rb1 ro1 rc1 rb2 ro2 rc2, TabAt w5 b0 o0 sl1 A rb1 ro1 rc1 ∧ TabAt w5 b0s o0s sl1 B rb2 ro2 rc2) := Lib.hid (by
    obtain ⟨N', b0', o0', c0', rb1, ro1, rc1, b0s', o0s', c0s', rb2, ro2, rc2, ev1, ev2, -, -, -, -, -, -, -, -, t1, t2⟩ := HR5.out.sol.tabs HP.out
    injection ev1 with ev1 e1 e2
    injection ev1 with ev1; injection ev1 with ev1 ev3
    injection ev2 with ev2 e3 e4
    injection ev2 with ev2; injection ev2 with ev2 ev4
    subst e1 ev1 ev3 ev2 ev4
    exact ⟨_, _, _, _, _, _, t1, t2⟩)
  obtain ⟨rb1, ro1, rc1, rb2, ro2, rc2, ht1, ht2⟩ := HT.out
  have HT1 := Lib.hid ht1; have HT2 := Lib.hid ht2
  clear ht1 ht2 HT
  have HQ := Lib.hid (show ∀ W', Below w5.heap.size w5 W' → W'.cell? ⟨w2.heap.size, 0, none⟩ = some (.slice (some ⟨b0, o0, none⟩) sl1 sc1) ∧ W'.cell? ⟨w2.heap.size, 1, none⟩ = some (.slice (some ⟨b0s, o0s, none⟩) sl1 sc2) from fun W' k => by
    obtain ⟨y0, y1, -, -⟩ := two_cells (HX5.out.under k)
    exact ⟨y0, y1⟩)
  have HIn : Hid (Own w5.heap.size (w5.alloc (.cells #[.int .i64 X] 2)) (.slice (some ⟨w5.heap.size, 0, none⟩) 1 1) [(X : Int)]) := Lib.hid (Own.shut (cs := []) (by simpa using Blk.new w5 [.int .i64 (X : Int)] 2) (Nat.le_refl _) (by simp [maxLen]) (by simp) (by simp))
  have HBn := Lib.hid (show Below w5.heap.size w5 (w5.alloc (.cells #[.int .i64 X] 2)) from (Below.refl _ _).alloc (Nat.le_refl _) _)
  have HCl := Lib.hid (Cl.one (N := sl1) (x := X) (by omega))
  go_wp2
  go_loopw [6, 7] (fun v6 v7 wr => ∃ (i l : Nat) (xs : List Int) (ia : Option Addr) (ic : Nat), i ≤ l ∧ l ≤ sl1 ∧ v6 = .slice ia l ic ∧ v7 = .int .i64 i ∧ Hid (xs.length = l) ∧ Hid (Cl sl1 xs) ∧ Hid (Own w5.heap.size wr (.slice ia l ic) xs) ∧ Hid (Below w5.heap.size w5 wr)) (fun _ v7 _ => sl1 - (intOf v7).toNat)
  case atStart => exact ⟨0, 1, [(X : Int)], _, _, Nat.zero_le _, hn1, rfl, rfl, Lib.hid rfl, HCl, HIn, HBn⟩
  case round =>
    clear HIn HBn HCl
    obtain ⟨i, l, xs, ia, ic, hil, hlN, rfl, rfl, HL, HC, HO, HB⟩ := hrel
    obtain ⟨wo, rfl⟩ : ∃ wo : World, wo = wr := ⟨_, rfl⟩
    by_cases hlt : i < l
    · go_wp2
      go_loopw [6, 8] (fun v6 v8 wr => ∃ (k l' : Nat) (ys : List Int) (ja : Option Addr) (jc : Nat), k ≤ i + 1 ∧ i < l' ∧ l' ≤ sl1 ∧ v6 = .slice ja l' jc ∧ v8 = .int .i64 k ∧ Hid (ys.length = l') ∧ Hid (Cl sl1 ys) ∧ Hid (Own w5.heap.size wr (.slice ja l' jc) ys) ∧ Hid (Below w5.heap.size w5 wr)) (fun _ v8 _ => i + 1 - (intOf v8).toNat)
      case atStart => exact ⟨0, l, xs, ia, ic, Nat.zero_le _, hlt, hlN, rfl, rfl, HL, HC, HO, HB⟩
      case round =>
        clear HL HC HO HB hlt hlN hil
        obtain ⟨k, l', ys, ja, jc, hk, hil, hlN, rfl, rfl, HL, HC, HO, HB⟩ := hrel
        obtain ⟨wi, rfl⟩ : ∃ wi : World, wi = wr := ⟨_, rfl⟩
        by_cases hki : k ≤ i
        · obtain ⟨q0, q1⟩ := HQ.out wi HB.out
          obtain ⟨g, go, hja, gi⟩ := HO.out.ints.get i (by rw [HL.out]; exact hil)
          subst hja
          have gk := HO.out.ints.at k (by rw [HL.out]; omega)
          obtain ⟨p, hp0, hpN⟩ := HC.out.nat (i := i) (by rw [HL.out]; exact hil)
          obtain ⟨r, hr0, hrN⟩ := HC.out.nat (i := k) (by rw [HL.out]; omega)
          rw [hp0] at gi
          rw [hr0] at gk
          have t1 := HT1.out.below HB.out
          have t2 := HT2.out.below HB.out
          have a1 := t1.row p hpN; have a2 := t1.row r hrN; have a3 := t2.row p hpN; have a4 := t2.row r hrN
          have v1 := t1.val p r hpN hrN; have v2 := t2.val p r hpN hrN; have v3 := t1.val r p hrN hpN; have v4 := t2.val r p hrN hpN
          have z1r := t1.rng p r (by omega) (by omega) (by omega) (by omega); have z2r := t2.rng p r (by omega) (by omega) (by omega) (by omega)
          have z3r := t1.rng r p (by omega) (by omega) (by omega) (by omega); have z4r := t2.rng r p (by omega) (by omega) (by omega) (by omega)
          obtain ⟨z1, hz1⟩ : ∃ z, val2 A (p : Int) (r : Int) = z := ⟨_, rfl⟩
          obtain ⟨z2, hz2⟩ : ∃ z, val2 B (p : Int) (r : Int) = z := ⟨_, rfl⟩
          obtain ⟨z3, hz3⟩ : ∃ z, val2 A (r : Int) (p : Int) = z := ⟨_, rfl⟩
          obtain ⟨z4, hz4⟩ : ∃ z, val2 B (r : Int) (p : Int) = z := ⟨_, rfl⟩
          rw [hz1] at v1 z1r; rw [hz2] at v2 z2r; rw [hz3] at v3 z3r; rw [hz4] at v4 z4r
          have HZ := Lib.hid (show ∀ z ∈ [z1, z2, z3, z4], 0 ≤ z ∧ z < (sl1 : Int) by
            intro z hz
            simp only [List.mem_cons, List.not_mem_nil, or_false] at hz
            rcases hz with rfl | rfl | rfl | rfl
            · exact z1r
            · exact z2r
            · exact z3r
            · exact z4r)
          have hkI : (k : Int) ≤ (i : Int) := by omega
          have hkl : k < l' := by omega
          have HO4 := Lib.hid (HO.out.under (show Below wi.heap.size wi (wi.drew.alloc (.cells #[.int .i64 z1, .int .i64 z2, .int .i64 z3, .int .i64 z4] 2)) from (Below.refl _ _).drew.alloc (Nat.le_refl _) _))
          have HB4 := Lib.hid (bb HB.out (show Below wi.heap.size wi (wi.drew.alloc (.cells #[.int .i64 z1, .int .i64 z2, .int .i64 z3, .int .i64 z4] 2)) from (Below.refl _ _).drew.alloc (Nat.le_refl _) _))
          have HK4 := Lib.hid (show Blk (wi.drew.alloc (.cells #[.int .i64 z1, .int .i64 z2, .int .i64 z3, .int .i64 z4] 2)) wi.heap.size 2 ([z1, z2, z3, z4].map (Value.int .i64) ++ []) by simpa using Blk.new wi.drew [.int .i64 z1, .int .i64 z2, .int .i64 z3, .int .i64 z4] 2)
          have HNe := Lib.hid (show ∀ b, (Value.slice (some ⟨g, go, none⟩) l' jc).ownBlock = some b → b < wi.heap.size from fun b e => (HO.out.lt e).2)
          have hg4 : w5.heap.size ≤ wi.heap.size := HB.out.size
          clear t1 t2 z1r z2r z3r z4r hz1 hz2 hz3 hz4 hp0 hr0
          go_wp2
          go_still_tail 56, (by kernel_rfl)
          change wpList _ _ _ _ _ wi.drew
          go_wp2
          clear a1 a2 a3 a4 v1 v2 v3 v4 gi gk q0 q1
          go_loopw [6, 10] (fun v6 v10 wr => ∃ (j l2 : Nat) (zs : List Int) (ja : Option Addr) (jc : Nat), j ≤ 4 ∧ i < l2 ∧ l2 ≤ sl1 ∧ v6 = .slice ja l2 jc ∧ v10 = .int .i64 j ∧ Hid (zs.length = l2) ∧ Hid (Cl sl1 zs) ∧ Hid (Own w5.heap.size wr (.slice ja l2 jc) zs) ∧ Hid (Below w5.heap.size w5 wr) ∧ Hid (Blk wr wi.heap.size 2 ([z1, z2, z3, z4].map (Value.int .i64) ++ [])) ∧ Hid (wi.heap.size < wr.heap.size ∧ (Value.slice ja l2 jc).ownBlock ≠ some wi.heap.size)) (fun _ v10 _ => 4 - (intOf v10).toNat)
          case atStart => exact ⟨0, l', ys, _, _, Nat.zero_le _, hil, hlN, rfl, rfl, HL, HC, HO4, HB4, HK4, Lib.hid ⟨by simp, fun e => by have := HNe.out _ e; omega⟩⟩
          case round =>
            clear HL HC HO4 HB4 HK4 HNe HO HB hil hlN
            obtain ⟨j, l2, zs, ja, jc, hj, hil, hlN, rfl, rfl, HL, HC, HO, HB, HK, HNe⟩ := hrel
            obtain ⟨wj, rfl⟩ : ∃ wj : World, wj = wr := ⟨_, rfl⟩
            by_cases hj4 : j < 4
            · have l1 := HK.out.labN j (by simpa using hj4)
              obtain ⟨z, hz⟩ : ∃ z, nth [z1, z2, z3, z4] j = z := ⟨_, rfl⟩
              have hzm : z ∈ [z1, z2, z3, z4] := by rw [← hz]; exact nth_mem (by omega) (by simp; omega)
              have HZm := Lib.hid (HZ.out z hzm)
              rw [hz] at l1
              clear hz hzm
              have hsz : w5.heap.size ≤ wj.heap.size := HB.out.size
              by_cases hmem : z ∈ zs
              · have hd : decide (z ∈ zs) = true := by simp [hmem]
                have HD' := Lib.hid hd
                clear hmem hd
                go_wp2_with fail
                refine (c_l01Has _ zs z _ HO.out.ints).mono ?_; rintro e w' ⟨rfl, rfl⟩
                rw [HD'.out]
                go_wp2
                go_roundw
                case rel => exact ⟨j + 1, l2, zs, ja, jc, by omega, hil, hlN, rfl, by go_num, HL, HC, HO, HB, HK, HNe⟩
                case measure => simp [intOf]; omega
              · have hd : decide (z ∈ zs) = false := by simp [hmem]
                have HD' := Lib.hid hd
                have HC2 := Lib.hid (HC.out.snoc hmem HZm.out.1 HZm.out.2)
                clear hmem hd
                go_wp2_with fail
                refine (c_l01Has _ zs z _ HO.out.ints).mono ?_; rintro e w' ⟨rfl, rfl⟩
                rw [HD'.out]
                go_wp2_with (at_builtin; refine wpList_app_int2 w5.heap.size wj _ zs z _ _ wj.heap.size rfl rfl rfl rfl HO.out rfl (by have := HL.out; omega) hsz ?_; intro ga gc w9 hown hkeep hor; have HOwn := Lib.hid hown; have HKp := Lib.hid hkeep; have HOr := Lib.hid hor; clear hown hkeep hor)
                go_roundw
                case rel =>
                  have hX := HL.out
                  have hln := HC2.out.len
                  simp only [List.length_append, List.length_singleton, hX] at hln
                  exact ⟨j + 1, l2 + 1, zs ++ [z], some ⟨ga, 0, none⟩, gc, by omega, by omega, hln, by rw [hX], by go_num, Lib.hid (by simp [hX]), HC2, Lib.hid (by have h := HOwn.out; rw [hX] at h; exact h), Lib.hid (HO.out.frame HB.out (Nat.le_refl _) hsz HKp.out), Lib.hid (HK.out.of_block (HKp.out.block _ HK.out.lt HNe.out.2)), Lib.hid ⟨Nat.lt_of_lt_of_le HNe.out.1 HKp.out.size, fun e => by
                    simp [Value.ownBlock] at e
                    rcases HOr.out with h | h
                    · exact HNe.out.2 (by rw [← e]; exact h)
                    · have := HNe.out.1; omega⟩⟩
                case measure => simp [intOf]; omega
            · obtain rfl : j = 4 := by omega
              go_wp2
              go_roundw
              case rel => exact ⟨k + 1, l2, zs, ja, jc, by omega, hil, hlN, rfl, by go_num, HL, HC, HO, HB⟩
              case measure => simp [intOf]; omega
        · have hkI : ¬ (k : Int) ≤ (i : Int) := by omega
          go_wp2
          go_roundw
          case rel => exact ⟨i + 1, l', ys, ja, jc, by omega, hlN, rfl, by go_num, HL, HC, HO, HB⟩
          case measure => simp [intOf]; omega
    · have hltI : ¬ (i : Int) < (l : Int) := by omega
      have HI := Lib.hid (show ∀ W', Below wo.heap.size wo W' → Ints W' (.slice ia l ic) xs from fun W' k => (HO.out.under k).ints)
      have hwo : w5.heap.size ≤ wo.heap.size := HB.out.size
      have HO6 := Lib.hid (Own.made0 (B := wo.heap.size) wo (Nat.le_refl _))
      have HB6 := Lib.hid (show Below wo.heap.size wo (wo.alloc (.cells #[] 2)) from (Below.refl _ _).alloc (Nat.le_refl _) _)
      go_wp2
      go_loopw [11, 12] (fun v11 v12 wr => ∃ (k l2 : Nat) (zs : List Int) (sa : Option Addr) (sc : Nat), k ≤ sl1 ∧ l2 ≤ k ∧ v11 = .slice sa l2 sc ∧ v12 = .int .i64 k ∧ Hid (zs.length = l2) ∧ Hid (Own wo.heap.size wr (.slice sa l2 sc) zs) ∧ Hid (Below wo.heap.size wo wr)) (fun _ v12 _ => sl1 - (intOf v12).toNat)
      case atStart => exact ⟨0, 0, [], _, _, Nat.zero_le _, Nat.le_refl _, rfl, rfl, Lib.hid rfl, HO6, HB6⟩
      case round =>
        clear HO6 HB6
        obtain ⟨k, l2, zs, sa, sc, hk, hlk, rfl, rfl, HL2, HO2, HB2⟩ := hrel
        obtain ⟨wi, rfl⟩ : ∃ wi : World, wi = wr := ⟨_, rfl⟩
        obtain ⟨q0, q1⟩ := HQ.out wi (bb HB.out HB2.out)
        have hwi : wo.heap.size ≤ wi.heap.size := HB2.out.size
        by_cases hkl : k < sl1
        · by_cases hmem : (k : Int) ∈ xs
          · have hd : decide ((k : Int) ∈ xs) = true := by simp [hmem]
            have HD' := Lib.hid hd
            clear hmem hd
            go_wp2_with fail
            refine (c_l01Has _ xs k _ (HI.out _ HB2.out)).mono ?_; rintro e w' ⟨rfl, rfl⟩
            rw [HD'.out]
            go_wp2_with (at_builtin; refine wpList_app_int2 wo.heap.size wi _ zs (k : Int) _ _ wi.heap.size rfl rfl rfl rfl HO2.out rfl (by have := HL2.out; omega) hwi ?_; intro ga gc w9 hown hkeep hor; have HOwn := Lib.hid hown; have HKp := Lib.hid hkeep; clear hown hkeep hor)
            go_roundw
            case rel =>
              have hX := HL2.out
              exact ⟨k + 1, l2 + 1, zs ++ [(k : Int)], some ⟨ga, 0, none⟩, gc, by omega, by omega, by rw [hX], by go_num, Lib.hid (by simp [hX]), Lib.hid (by have h := HOwn.out; rw [hX] at h; exact h), Lib.hid (HO2.out.frame HB2.out (Nat.le_refl _) hwi HKp.out)⟩
            case measure => simp [intOf]; omega
          · have hd : decide ((k : Int) ∈ xs) = false := by simp [hmem]
            have HD' := Lib.hid hd
            clear hmem hd
            go_wp2_with fail
            refine (c_l01Has _ xs k _ (HI.out _ HB2.out)).mono ?_; rintro e w' ⟨rfl, rfl⟩
            rw [HD'.out]
            go_wp2
            go_roundw
            case rel => exact ⟨k + 1, l2, zs, sa, sc, by omega, by omega, rfl, by go_num, HL2, HO2, HB2⟩
            case measure => simp [intOf]; omega
        · have hklI : ¬ (k : Int) < (sl1 : Int) := by omega
          have hF := HF5.out.under (bb HB.out HB2.out)
          have kz : Keep (fun x => x = w.heap.size) wi ((wi.setCell ⟨w.heap.size, 0, none⟩ (.slice (some ⟨b0, o0, none⟩) sl1 sc1)).setCell ⟨w.heap.size, 1, none⟩ (.slice (some ⟨b0s, o0s, none⟩) sl1 sc2)) := keep_early _ _ _ _
          obtain ⟨z0, z1, z2, z3⟩ := two_cells hF
          obtain ⟨e0, e1, -, -⟩ := two_cells ((hF.set 0 (.slice (some ⟨b0, o0, none⟩) sl1 sc1)).set 1 (.slice (some ⟨b0s, o0s, none⟩) sl1 sc2))
          have hq5 := HF5.out.lt
          have R1 := Lib.hid (((HR5.out.under (bb HB.out HB2.out)).keep kz (fun x hx _ e => by have e : x = w.heap.size := e; omega)).sol)
          have R3 := Lib.hid ((HO2.out.keep kz (fun x hx _ e => by have e : x = w.heap.size := e; omega)).ints)
          have hb5 : Below w.heap.size w w5 := HD5.out.below HB1.out (by omega) (by omega)
          have HBx := Lib.hid ((hb5.trans ((bb HB.out HB2.out).mono (by omega))).trans (kz.below (B := w.heap.size) fun k hk => ⟨by omega, fun e => by have e : k = w.heap.size := e; omega⟩))
          clear kz hF hb5
          go_wp2
          exact bodyPost_ret (v := .tuple #[.agg #[.slice (some ⟨b0, o0, none⟩) sl1 sc1, .slice (some ⟨b0s, o0s, none⟩) sl1 sc2], .slice sa l2 sc]) (by simp [results, Try.results8, go_sem, e0, e1]) rfl ⟨_, _, _, rfl, ⟨A, B, R1.out⟩, ⟨zs, R3.out⟩, HBx.out⟩
end Go.Proofs.Ytkghonhghbcdlaa

namespace Go.Proofs.Ytkghonhghbcdlaa
set_option linter.unusedVariables false
set_option linter.unusedSimpArgs false
open Go.RowKit

set_option maxHeartbeats 400000 in
theorem c_specIsSolution (v1 v2 : Value) (A B : List (List Int)) (w : World) (hx : Sol w v1 v2 A B) :
    Calls Try.prog 14 #[.agg #[v1, v2]] w (RVal w (.bool (isSol A B))) := by
  obtain ⟨a1, c1, rfl, _, _⟩ := hx.1.shape
  obtain ⟨a2, c2, rfl, _, _⟩ := hx.2.shape
  obtain ⟨f0, hW0, hsz⟩ := boxes1 w [.slice a1 A.length c1, .slice a2 B.length c2] 26
  have hy := hx.below hW0
  have HW := Lib.hid hW0
  clear hW0 hsz f0 hx
  go_enter Try.func14, Try.ntmps14
  go_wp2_with fail
  refine (c_l02Is _ _ _ _ _ hy).mono ?_; rintro e w' ⟨rfl, hb⟩
  have HB := Lib.hid (bb HW.out hb); clear hb hy
  go_wp2
  go_ret
  exact ⟨rfl, HB.out⟩

end Go.Proofs.Ytkghonhghbcdlaa

namespace Go.Proofs.Ytkghonhghbcdlaa
set_option linter.unusedVariables false
set_option linter.unusedSimpArgs false
open Go.RowKit

def clRes (A B : List (List Int)) (L : List Int) : Bool := if isPM A B && setOk A.length L then closL A B L else false

set_option maxRecDepth 100000 in
set_option maxHeartbeats 800000 in
theorem c_IsClosedSet (v0 u0 : Value) (A B : List (List Int)) (v1 : Value) (L : List Int) (w : World) (hA : Sol w v0 u0 A B) (hL : Ints w v1 L)  :
    Calls Try.prog 11 #[.agg #[v0, u0], v1] w (RVal w (.tuple #[.bool (clRes A B L), .int .i64 (setCode A B L)])) := by
  by_cases hp0 : isPM A B = true
  case neg =>
    have hq0 : isPM A B = false := by simpa using hp0
    have HQ := Lib.hid hq0; clear hp0
    obtain ⟨a0, c0, rfl, _, _⟩ := hA.1.shape
    obtain ⟨a0s, c0s, rfl, _, _⟩ := hA.2.shape
    obtain ⟨a1, c1, rfl, hc1, hm1⟩ := hL.shape
    go_enter Try.func11, Try.ntmps11
    go_wp2_with fail
    obtain ⟨f0, hW0, hsz⟩ := boxes1 w [.slice a0 A.length c0, .slice a0s B.length c0s] 26
    obtain ⟨W0, hW⟩ : ∃ W, (w.alloc (.cells #[.slice a0 A.length c0, .slice a0s B.length c0s] 26)) = W := ⟨_, rfl⟩
    rw [hW] at f0 hW0 hsz ⊢
    clear hW hsz
    refine (c_IsPairMap _ _ _ _ _ (hA.below hW0)).mono ?_; rintro e g0 ⟨rfl, hbg0⟩
    have hB0 := bb hW0 hbg0
    replace f0 := f0.under hbg0
    obtain ⟨cA0, cB0, -, -⟩ := two_cells f0
    clear hbg0
    have HB := Lib.hid hB0
    clear hB0 hW0
    go_wp2
    go_ret2
    exact ⟨by simp [clRes, setCode, HQ.out], HB.out⟩
  have HP0 := Lib.hid hp0
  have hl12 := isTab_len (isPM_parts HP0.out).1
  by_cases hp1 : setOk A.length L = true
  case neg =>
    have hq1 : setOk A.length L = false := by simpa using hp1
    have HQ := Lib.hid hq1; clear hp1
    obtain ⟨a0, c0, rfl, _, _⟩ := hA.1.shape
    obtain ⟨a0s, c0s, rfl, _, _⟩ := hA.2.shape
    obtain ⟨a1, c1, rfl, hc1, hm1⟩ := hL.shape
    go_enter Try.func11, Try.ntmps11
    go_wp2_with fail
    obtain ⟨f0, hW0, hsz⟩ := boxes1 w [.slice a0 A.length c0, .slice a0s B.length c0s] 26
    obtain ⟨W0, hW⟩ : ∃ W, (w.alloc (.cells #[.slice a0 A.length c0, .slice a0s B.length c0s] 26)) = W := ⟨_, rfl⟩
    rw [hW] at f0 hW0 hsz ⊢
    clear hW hsz
    refine (c_IsPairMap _ _ _ _ _ (hA.below hW0)).mono ?_; rintro e g0 ⟨rfl, hbg0⟩
    have hB0 := bb hW0 hbg0
    replace f0 := f0.under hbg0
    obtain ⟨cA0, cB0, -, -⟩ := two_cells f0
    clear hbg0
    go_wp2_with fail
    refine (c_isSet _ _ _ _ (hL.below hB0) (by omega) (by omega)).mono ?_; rintro e g1 ⟨rfl, hbg1⟩
    have hB1 := bb hB0 hbg1
    replace f0 := f0.under hbg1
    clear cA0 cB0
    obtain ⟨cA0, cB0, -, -⟩ := two_cells f0
    clear hbg1
    have HB := Lib.hid hB1
    clear hB0 hB1 hW0
    go_wp2
    go_ret2
    exact ⟨by simp [clRes, setCode, HQ.out, HP0.out], HB.out⟩
  have HP1 := Lib.hid hp1
  obtain ⟨a0, c0, rfl, _, _⟩ := hA.1.shape
  obtain ⟨a0s, c0s, rfl, _, _⟩ := hA.2.shape
  obtain ⟨a1, c1, rfl, hc1, hm1⟩ := hL.shape
  go_enter Try.func11, Try.ntmps11
  go_wp2_with fail
  obtain ⟨f0, hW0, hsz⟩ := boxes1 w [.slice a0 A.length c0, .slice a0s B.length c0s] 26
  obtain ⟨W0, hW⟩ : ∃ W, (w.alloc (.cells #[.slice a0 A.length c0, .slice a0s B.length c0s] 26)) = W := ⟨_, rfl⟩
  rw [hW] at f0 hW0 hsz ⊢
  clear hW hsz
  refine (c_IsPairMap _ _ _ _ _ (hA.below hW0)).mono ?_; rintro e g0 ⟨rfl, hbg0⟩
  have hB0 := bb hW0 hbg0
  replace f0 := f0.under hbg0
  obtain ⟨cA0, cB0, -, -⟩ := two_cells f0
  clear hbg0
  go_wp2_with fail
  refine (c_isSet _ _ _ _ (hL.below hB0) (by omega) (by omega)).mono ?_; rintro e g1 ⟨rfl, hbg1⟩
  have hB1 := bb hB0 hbg1
  replace f0 := f0.under hbg1
  clear cA0 cB0
  obtain ⟨cA0, cB0, -, -⟩ := two_cells f0
  clear hbg1
  go_wp2_with fail
  refine (c_isClosed _ _ _ _ _ _ _ (hA.below hB1) (hL.below hB1) HP0.out HP1.out).mono ?_; rintro e w2 ⟨rfl, hb⟩
  have HB := Lib.hid (bb hB1 hb); clear hb hB0 hB1 hW0 f0 hA hL
  go_wp2
  go_ret2
  exact ⟨by simp [clRes, setCode, HP0.out, HP1.out], HB.out⟩

set_option maxHeartbeats 1000000 in
theorem c_specIsClosedSet (v0 u0 : Value) (A B : List (List Int)) (v1 : Value) (L : List Int) (w : World) (hA : Sol w v0 u0 A B) (hL : Ints w v1 L) :
    Calls Try.prog 12 #[.agg #[v0, u0], v1] w (RVal w (.tuple #[.bool (clRes A B L), .int .i64 (setCode A B L)])) := by
  obtain ⟨a0, c0, rfl, _, _⟩ := hA.1.shape
  obtain ⟨a0s, c0s, rfl, _, _⟩ := hA.2.shape
  obtain ⟨a1, c1, rfl, _, _⟩ := hL.shape
  obtain ⟨f0, hW0, hsz⟩ := boxes1 w [.slice a0 A.length c0, .slice a0s B.length c0s] 26
  obtain ⟨W0, hW⟩ : ∃ W, w.alloc (.cells #[.slice a0 A.length c0, .slice a0s B.length c0s] 26) = W := ⟨_, rfl⟩
  rw [hW] at f0 hW0
  have hcase : (isPM A B = true ∧ setOk A.length L = true ∧ setCode A B L = 0) ∨ ((setCode A B L = 1 ∨ setCode A B L = 2) ∧ clRes A B L = false) := by
    unfold setCode clRes
    by_cases h1 : isPM A B = true
    · by_cases h2 : setOk A.length L = true
      · exact .inl ⟨h1, h2, by simp [h1, h2]⟩
      · simp [h1, h2]
    · simp [h1]
  have HC := Lib.hid hcase; have HW := Lib.hid hW; clear hcase hW hsz
  go_enter Try.func12, Try.ntmps12
  go_wp2_with fail
  rw [HW.out]
  refine (c_l02SetCode _ _ _ _ _ _ _ (hA.below hW0) (hL.below hW0)).mono ?_; rintro e w1 ⟨rfl, hb⟩
  have HB := Lib.hid (bb hW0 hb); obtain ⟨cA, cB, -, -⟩ := two_cells (f0.under hb)
  clear hb
  rcases HC.out with ⟨h1, h2, h3⟩ | ⟨h1, h2⟩
  · have H1 := Lib.hid h1; have H2 := Lib.hid h2; have H3 := Lib.hid h3
    rw [h3]
    clear h1 h2 h3
    go_wp2_with fail
    refine (c_l02Closed _ _ _ _ _ _ _ (hA.below HB.out) (hL.below HB.out) H1.out H2.out).mono ?_; rintro e w2 ⟨rfl, hb⟩
    have HB2 := Lib.hid (bb HB.out hb); clear hb hA hL f0 hW0
    go_wp2
    go_ret2
    exact ⟨by simp [clRes, H1.out, H2.out, H3.out], HB2.out⟩
  · have H2 := Lib.hid h2
    rcases h1 with h1 | h1
    · have H1 := Lib.hid h1
      rw [h1]
      clear h1 h2 hA hL f0 hW0
      go_wp2
      go_ret2
      exact ⟨by simp [H1.out, H2.out], HB.out⟩
    · have H1 := Lib.hid h1
      rw [h1]
      clear h1 h2 hA hL f0 hW0
      go_wp2
      go_ret2
      exact ⟨by simp [H1.out, H2.out], HB.out⟩
end Go.Proofs.Ytkghonhghbcdlaa

namespace Go.Proofs.Ytkghonhghbcdlaa
set_option linter.unusedVariables false
set_option linter.unusedSimpArgs false
open Go Go.RowKit

theorem Rows.tabN {w : World} {a : Option Addr} {n c N : Nat} {t : List (List Int)} (h : Rows w (.slice a n c) t) (ht : isTab t = true) (hN : t.length = N) :
    N = n ∧ ∃ (b o : Nat) (rb ro rc : Nat → Nat), a = some ⟨b, o, Option.none⟩ ∧ TabAt w b o N t rb ro rc := by
  obtain ⟨n', b, o, c', rb, ro, rc, e, hl, -, -, -, -, hT⟩ := h.tab ht
  injection e with e1 e2 e3
  subst e1 e2 e3
  have : n = N := by omega
  subst this
  exact ⟨rfl, b, o, rb, ro, rc, rfl, hT⟩
/-- What holds where the set is closed. -/
structure ClF (A B X Y : List (List Int)) (L : List Int) : Prop where
  pm : isPM A B = true
  pm2 : isPM X Y = true
  lenX : X.length = L.length
  lpos : 1 ≤ L.length ∧ L.length ≤ 12
  sol : isSol A B = true → isSol X Y = true
  vals : ∀ {N l i k : Nat}, A.length = N → L.length = l → i < l → k < l → ∃ (p r m m' : Nat) (z z' : Int), p < N ∧ r < N ∧ m < l ∧ m' < l ∧ nth L i = p ∧ nth L k = r ∧ val2 A p r = z ∧ val2 B p r = z' ∧ val2 X i k = m ∧ val2 Y i k = m' ∧ nth L m = z ∧ nth L m' = z'
theorem cl_facts {A B : List (List Int)} {L : List Int} (h : sbOk A B L = true) : ClF A B (sbT A L) (sbT B L) L := by
  have hp : isPM A B = true := by simp only [sbOk, Bool.and_eq_true] at h; exact h.1.1
  have hset : setOk A.length L = true := by simp only [sbOk, Bool.and_eq_true] at h; exact h.1.2
  have hP := sb_part h
  refine ⟨hp, sb_isPM h, sbT_len A L, ⟨(setOk_len hset).1, by have h1 := (setOk_len hset).2; have h2 := isTab_len (isPM_parts hp).1; omega⟩, fun hs => sb_sol h hs, fun {N l i k} hN hl hi hk => ?_⟩
  subst hN hl
  have ri : InR L.length (i : Int) := ⟨by omega, by omega⟩
  have rk : InR L.length (k : Int) := ⟨by omega, by omega⟩
  obtain ⟨p, hp1, hp2⟩ := (hP.rng i ri).nat
  obtain ⟨r, hr1, hr2⟩ := (hP.rng k rk).nat
  obtain ⟨m, hm1, hm2⟩ := (hP.rF i k ri rk).1.nat
  obtain ⟨m', hm1', hm2'⟩ := (hP.rF i k ri rk).2.nat
  have e1 := hP.vF i k ri rk
  have e2 := hP.vG i k ri rk
  rw [hm2, hp2, hr2] at e1
  rw [hm2', hp2, hr2] at e2
  exact ⟨p, r, m, m', _, _, hp1, hr1, hm1, hm1', hp2, hr2, rfl, rfl, hm2, hm2', e1, e2⟩
theorem cl_cases {A B X Y : List (List Int)} {L : List Int} {q1 q3 : Int} {ob : Bool} (hX : sbRA A B L = X) (hY : sbRB A B L = Y) (h1 : sbCode A B L = q1) (ho : clRes A B L = ob) (h3 : setCode A B L = q3) :
    (q3 ≠ 0 ∧ q3 = q1) ∨ (q3 = 0 ∧ ob = false ∧ q1 = 5) ∨ (q3 = 0 ∧ ob = true ∧ q1 = 0 ∧ ClF A B X Y L) := by
  by_cases hp : isPM A B = true
  · by_cases hs : setOk A.length L = true
    · by_cases hc : closL A B L = true
      · have hok := sbOk_of hp hs hc
        right; right
        refine ⟨by rw [← h3]; simp [setCode, hp, hs], by rw [← ho]; simp [clRes, hp, hs, hc], by rw [← h1]; simp [sbCode, hp, hs, hc], ?_⟩
        have e1 : X = sbT A L := by rw [← hX]; simp [sbRA, hok]
        have e2 : Y = sbT B L := by rw [← hY]; simp [sbRB, hok]
        rw [e1, e2]
        exact cl_facts hok
      · right; left
        exact ⟨by rw [← h3]; simp [setCode, hp, hs], by rw [← ho]; simp [clRes, hp, hs, hc], by rw [← h1]; simp [sbCode, hp, hs, hc]⟩
    · left
      rw [← h3, ← h1]
      simp [setCode, sbCode, hp, hs]
  · left
    rw [← h3, ← h1]
    simp [setCode, sbCode, hp]

set_option maxRecDepth 100000 in
set_option maxHeartbeats 16000000 in
theorem law_ClosedSets (v : Value) (bs : List Int) (w : World) (hv : Bytes w v bs) : Calls Try.prog 3 #[v] w (RVal w (.bool true)) := by
  have HV : Hid (BytesR w v bs.length) := Lib.hid hv
  obtain ⟨a, c, hva, -⟩ := hv
  subst hva
  go_enter Try.func3, Try.ntmps3
  go_wp2_with fail
  refine (c_big a bs.length c _).mono ?_; rintro e w' ⟨rfl, rfl⟩
  by_cases hbig : 4096 < bs.length
  case pos =>
    have hd : decide (4096 < bs.length) = true := by simpa using hbig
    rw [hd]; clear hd hbig
    go_wp2
    go_ret
    exact ⟨rfl, Below.refl _ _⟩
  have hd : decide (4096 < bs.length) = false := by simpa using hbig
  rw [hd]; clear hd
  go_wp2_with fail
  refine (c_DrawSub _ bs.length _ HV.out (by omega)).mono ?_; rintro e w1 ⟨v1, v2, v3, A, B, L, rfl, hs, hi, hb⟩
  obtain ⟨a1, l1, c1, hr1⟩ := hs.1.any
  obtain ⟨d1, m1, k1, hr2⟩ := hs.2.any
  obtain ⟨sa, sc, hr3, -, -⟩ := hi.shape
  subst hr1 hr2 hr3
  have H1 := Lib.hid ((((LS.addS (w := w) (L := []) (M := []) (Bx := []) ⟨fun e he => by simp at he, fun e he => by simp at he, fun e he => by simp at he, hb⟩ hs).addI hi)).box (.slice a1 l1 c1) (.slice d1 m1 k1))
  clear hs hb hi hbig
  obtain ⟨X, hX⟩ : ∃ X, sbRA A B L = X := ⟨_, rfl⟩
  obtain ⟨Y, hY⟩ : ∃ X, sbRB A B L = X := ⟨_, rfl⟩
  obtain ⟨q1, hq1⟩ : ∃ X, sbCode A B L = X := ⟨_, rfl⟩
  obtain ⟨ob, hob⟩ : ∃ X, clRes A B L = X := ⟨_, rfl⟩
  obtain ⟨q3, hq3⟩ : ∃ X, setCode A B L = X := ⟨_, rfl⟩
  have hcase := cl_cases hX hY hq1 hob hq3
  have E := Lib.hid (And.intro (And.intro hX (And.intro hY hq1)) (And.intro hob hq3))
  have hqq1 : (q1 != q1) = false := by simp
  have hqq3 : (q3 != q3) = false := by simp
  have hoo : (ob != ob) = false := by simp
  have HCs := Lib.hid hcase
  clear hX hY hq1 hob hq3 hcase
  obtain ⟨x00, x01, -, -⟩ := two_cells (LS.getB (q := w1.heap.size) (a := .slice a1 l1 c1) (b := .slice d1 m1 k1) H1.out (by simp))
  go_wp2_with fail
  refine (c_SubSolution _ _ A B _ L _ ⟨H1.out.getR (X := A) (by simp), H1.out.getR (X := B) (by simp)⟩ (H1.out.getI (xs := L) (by simp))).mono ?_; rintro e w2 ⟨r1, r2, rfl, hs, hb⟩
  rw [E.out.1.1, E.out.1.2.1] at hs
  rw [E.out.1.2.2]
  obtain ⟨a2, l2, c2, hr1⟩ := (hs.sol).1.any
  obtain ⟨d2, m2, k2, hr2⟩ := (hs.sol).2.any
  subst hr1 hr2
  have H2 := Lib.hid (((H1.out.under hb).addS hs.sol).box (.slice a2 l2 c2) (.slice d2 m2 k2))
  clear hs hb x00 x01
  obtain ⟨x00, x01, -, -⟩ := two_cells (LS.getB (q := w1.heap.size) (a := .slice a1 l1 c1) (b := .slice d1 m1 k1) H2.out (by simp))
  go_wp2_with fail
  refine (c_specSubSolution _ _ A B _ L _ ⟨H2.out.getR (X := A) (by simp), H2.out.getR (X := B) (by simp)⟩ (H2.out.getI (xs := L) (by simp))).mono ?_; rintro e w3 ⟨r1, r2, rfl, hs, hb⟩
  rw [E.out.1.1, E.out.1.2.1] at hs
  rw [E.out.1.2.2]
  obtain ⟨a3, l3, c3, hr1⟩ := (hs.sol).1.any
  obtain ⟨d3, m3, k3, hr2⟩ := (hs.sol).2.any
  subst hr1 hr2
  have H3 := Lib.hid (((H2.out.under hb).addS hs.sol).box (.slice a3 l3 c3) (.slice d3 m3 k3))
  clear hs hb x00 x01
  obtain ⟨x00, x01, -, -⟩ := two_cells (LS.getB (q := w1.heap.size) (a := .slice a1 l1 c1) (b := .slice d1 m1 k1) H3.out (by simp))
  go_wp2_with fail
  refine (c_IsClosedSet _ _ A B _ L _ ⟨H3.out.getR (X := A) (by simp), H3.out.getR (X := B) (by simp)⟩ (H3.out.getI (xs := L) (by simp))).mono ?_; rintro e w4 ⟨rfl, hb⟩
  rw [E.out.2.1, E.out.2.2]
  have H4 := Lib.hid (H3.out.under hb)
  clear hb x00 x01
  obtain ⟨x00, x01, -, -⟩ := two_cells (LS.getB (q := w1.heap.size) (a := .slice a1 l1 c1) (b := .slice d1 m1 k1) H4.out (by simp))
  go_wp2_with fail
  refine (c_specIsClosedSet _ _ A B _ L _ ⟨H4.out.getR (X := A) (by simp), H4.out.getR (X := B) (by simp)⟩ (H4.out.getI (xs := L) (by simp))).mono ?_; rintro e w5 ⟨rfl, hb⟩
  rw [E.out.2.1, E.out.2.2]
  have H5 := Lib.hid (H4.out.under hb)
  clear hb x00 x01
  obtain ⟨x00, x01, -, -⟩ := two_cells (LS.getB (q := w2.heap.size) (a := .slice a2 l2 c2) (b := .slice d2 m2 k2) H5.out (by simp))
  obtain ⟨x10, x11, -, -⟩ := two_cells (LS.getB (q := w3.heap.size) (a := .slice a3 l3 c3) (b := .slice d3 m3 k3) H5.out (by simp))
  go_wp2_with fail
  refine (c_likeSolution5 _ _ _ _ X Y X Y _ ⟨H5.out.getR (X := X) (by simp), H5.out.getR (X := Y) (by simp)⟩ ⟨H5.out.getR (X := X) (by simp), H5.out.getR (X := Y) (by simp)⟩).mono ?_; rintro e w6 ⟨rfl, hb⟩
  rw [show (decide (X = X) && decide (Y = Y)) = true from by simp]
  have H6 := Lib.hid (H5.out.under hb)
  clear hb x00 x01 x10 x11
  clear hqq1 hqq3 hoo
  rcases HCs.out with ⟨hc3, hc1⟩ | ⟨hc3, hco, hc1⟩ | ⟨hc3, hco, hc1, hfacts⟩
  · subst hc1
    have hb3 : (q3 != 0) = true := by simpa using hc3
    have hbb : (q3 == q3) = true := by simp
    clear hc3
    go_wp2
    go_ret
    exact ⟨rfl, H6.out.2.2.2⟩
  · subst hc3 hco hc1
    go_wp2
    go_ret
    exact ⟨rfl, H6.out.2.2.2⟩
  subst hc3 hco hc1
  have F := Lib.hid hfacts
  clear hfacts E HCs
  obtain ⟨N, hN⟩ : ∃ N, A.length = N := ⟨_, rfl⟩
  obtain ⟨l, hl⟩ : ∃ l, L.length = l := ⟨_, rfl⟩
  obtain ⟨P1, P2, P3⟩ := isPM_parts F.out.pm
  obtain ⟨R1, R2, R3⟩ := isPM_parts F.out.pm2
  obtain ⟨e1, b1, o1, rb1, ro1, rc1, e2, T1⟩ := (H6.out.getR (v := .slice a1 l1 c1) (X := A) (by simp)).tabN P1 hN
  obtain ⟨e3, b2, o2, rb2, ro2, rc2, e4, T2⟩ := (H6.out.getR (v := .slice d1 m1 k1) (X := B) (by simp)).tabN (N := N) P2 (P3.symm.trans hN)
  obtain ⟨e5, b3, o3, rb3, ro3, rc3, e6, T3⟩ := (H6.out.getR (v := .slice a2 l2 c2) (X := X) (by simp)).tabN (N := l) R1 (F.out.lenX.trans hl)
  obtain ⟨e7, b4, o4, rb4, ro4, rc4, e8, T4⟩ := (H6.out.getR (v := .slice d2 m2 k2) (X := Y) (by simp)).tabN (N := l) R2 (R3.symm.trans (F.out.lenX.trans hl))
  subst e1 e2 e3 e4 e5 e6 e7 e8
  have HI := Lib.hid (show ∀ W', Below w6.heap.size w6 W' → Ints W' (.slice sa L.length sc) L from fun W' k => (H6.out.under k).getI (v := .slice sa L.length sc) (xs := L) (by simp))
  rw [hl] at HI
  have HT1 := Lib.hid T1; have HT2 := Lib.hid T2; have HT3 := Lib.hid T3; have HT4 := Lib.hid T4
  have HQ := Lib.hid (show ∀ W', Below w6.heap.size w6 W' → (W'.cell? ⟨w1.heap.size, 0, none⟩ = some (.slice (some ⟨b1, o1, none⟩) N c1) ∧ W'.cell? ⟨w1.heap.size, 1, none⟩ = some (.slice (some ⟨b2, o2, none⟩) N k1)) ∧ W'.cell? ⟨w2.heap.size, 0, none⟩ = some (.slice (some ⟨b3, o3, none⟩) l c2) ∧ W'.cell? ⟨w2.heap.size, 1, none⟩ = some (.slice (some ⟨b4, o4, none⟩) l k2) from fun W' k => by
    obtain ⟨y0, y1, -, -⟩ := two_cells (LS.getB (q := w1.heap.size) (a := .slice (some ⟨b1, o1, none⟩) N c1) (b := .slice (some ⟨b2, o2, none⟩) N k1) (H6.out.under k) (by simp))
    obtain ⟨y2, y3, -, -⟩ := two_cells (LS.getB (q := w2.heap.size) (a := .slice (some ⟨b3, o3, none⟩) l c2) (b := .slice (some ⟨b4, o4, none⟩) l k2) (H6.out.under k) (by simp))
    exact ⟨⟨y0, y1⟩, y2, y3⟩)
  have HNl := Lib.hid (And.intro hN hl)
  have HH := Lib.hid H6.out
  rw [hl] at HH
  have HWb := Lib.hid H6.out.2.2.2
  obtain ⟨lp, lp12⟩ := F.out.lpos
  rw [hl] at lp lp12
  clear T1 T2 T3 T4 P1 P2 P3 R1 R2 R3 hN H1 H2 H3 H4 H5
  rw [hl]
  clear hl H6
  go_wp2
  go_loopw [13] (fun v13 wr => ∃ i : Nat, i ≤ l ∧ v13 = .int .i64 i ∧ Hid (Below w6.heap.size w6 wr)) (fun v13 _ => l - (intOf v13).toNat)
  case atStart => exact ⟨0, Nat.zero_le _, rfl, Lib.hid (Below.refl _ _)⟩
  case round =>
    obtain ⟨i, hil, rfl, HB⟩ := hrel
    obtain ⟨wo, rfl⟩ : ∃ wo : World, wo = wr := ⟨_, rfl⟩
    by_cases hlt : i < l
    · go_wp2
      go_loopw [14] (fun v14 wr => ∃ k : Nat, k ≤ l ∧ v14 = .int .i64 k ∧ Hid (Below w6.heap.size w6 wr)) (fun v14 _ => l - (intOf v14).toNat)
      case atStart => exact ⟨0, Nat.zero_le _, rfl, HB⟩
      case round =>
        clear HB
        obtain ⟨k, hkl, rfl, HB⟩ := hrel
        obtain ⟨wi, rfl⟩ : ∃ wi : World, wi = wr := ⟨_, rfl⟩
        by_cases hlk : k < l
        · obtain ⟨p, r, m, m', z, z', hp, hr, hm, hm', f1, f2, f3, f4, f5, f6, f7, f8⟩ := F.out.vals HNl.out.1 HNl.out.2 hlt hlk
          have ti := HI.out wi HB.out
          obtain ⟨gb, go, hga, gi⟩ := ti.get i (by rw [HNl.out.2]; exact hlt)
          subst hga
          have gk := ti.at k (by rw [HNl.out.2]; exact hlk)
          have gm := ti.at m (by rw [HNl.out.2]; exact hm)
          have gn := ti.at m' (by rw [HNl.out.2]; exact hm')
          have t1 := HT1.out.below HB.out; have t2 := HT2.out.below HB.out; have t3 := HT3.out.below HB.out; have t4 := HT4.out.below HB.out
          have x1 := t1.row p hp; have x2 := t1.val p r hp hr; have x3 := t2.row p hp; have x4 := t2.val p r hp hr
          have y1 := t3.row i hlt; have y2 := t3.val i k hlt hlk; have y3 := t4.row i hlt; have y4 := t4.val i k hlt hlk
          rw [f1] at gi; rw [f2] at gk; rw [f7] at gm; rw [f8] at gn
          rw [f3] at x2; rw [f4] at x4; rw [f5] at y2; rw [f6] at y4
          obtain ⟨⟨s0, s1⟩, s2, s3⟩ := HQ.out wi HB.out
          have hzz : (z != z) = false := by simp
          have hzz' : (z' != z') = false := by simp
          clear ti t1 t2 t3 t4 f1 f2 f3 f4 f5 f6 f7 f8
          go_wp2
          go_quiet (fail)
          go_wp2
          go_roundw
          case rel => exact ⟨k + 1, by omega, by go_num, Lib.hid (below_drewN HB.out _)⟩
          case measure => simp [intOf]; omega
        · go_wp2
          go_roundw
          case rel => exact ⟨i + 1, by omega, by go_num, HB⟩
          case measure => simp [intOf]; omega
    · have HZ := Lib.hid (HH.out.under HB.out)
      obtain ⟨sv, hsv⟩ : ∃ s, isSol A B = s := ⟨_, rfl⟩
      have HSv := Lib.hid hsv
      clear hsv
      obtain ⟨x00, x01, -, -⟩ := two_cells (LS.getB (q := w1.heap.size) (a := .slice (some ⟨b1, o1, none⟩) N c1) (b := .slice (some ⟨b2, o2, none⟩) N k1) HZ.out (by simp))
      go_wp2_with fail
      refine (c_specIsSolution _ _ A B _ ⟨HZ.out.getR (X := A) (by simp), HZ.out.getR (X := B) (by simp)⟩).mono ?_; rintro e w7 ⟨rfl, hb⟩
      rw [HSv.out]
      have H7 := Lib.hid (HZ.out.under hb)
      clear hb x00 x01
      by_cases hsv2 : sv = true
      · subst hsv2
        obtain ⟨x00, x01, -, -⟩ := two_cells (LS.getB (q := w2.heap.size) (a := .slice (some ⟨b3, o3, none⟩) l c2) (b := .slice (some ⟨b4, o4, none⟩) l k2) H7.out (by simp))
        go_wp2_with fail
        refine (c_IsSolution _ _ X Y _ ⟨H7.out.getR (X := X) (by simp), H7.out.getR (X := Y) (by simp)⟩).mono ?_; rintro e w8 ⟨rfl, hb⟩
        rw [F.out.sol HSv.out]
        have H8 := Lib.hid (H7.out.under hb)
        clear hb x00 x01
        go_wp2
        go_ret
        exact ⟨rfl, H8.out.2.2.2⟩
      · have hsv3 : sv = false := by simpa using hsv2
        subst hsv3
        clear hsv2
        go_wp2
        go_ret
        exact ⟨rfl, H7.out.2.2.2⟩
end Go.Proofs.Ytkghonhghbcdlaa
