/-
  All permutations, the reference's functions: a recursion that grows a list of lists.
-/
import Derived.Test.YtkcobfkmeaakoaaP5
import Derived.Test.YtkcobfkmeaakoaaS2a
import Derived.Test.YtkcobfkmeaakoaaS1
namespace Go.Proofs.Ytkcobfkmeaakoaa
open Go.RowKit

theorem Keep.chain {S T : Nat → Prop} {w w1 w2 : World} (h1 : Keep S w w1) (h2 : Keep T w1 w2) (hT : ∀ b, b < w.heap.size → T b → S b) : Keep S w w2 :=
  ⟨h2.os.trans h1.os, h2.tape.trans h1.tape, h2.output.trans h1.output, Nat.le_trans h1.size h2.size, fun k hk hn => (h2.block k (Nat.lt_of_lt_of_le hk h1.size) (fun h => hn (hT k hk h))).trans (h1.block k hk hn)⟩
theorem Own.keepR {B B0 : Nat} {w w' : World} {u v : Value} {xs : List Int} {yss : List (List Int)} (h : Own B w u xs) (hv : OwnRows B0 w v yss) (k : Keep (fun b => v.ownBlock = some b) w w') : Own B w' u xs := by
  obtain ⟨us', h3, h4⟩ := hv
  obtain ⟨hl, hn' | ⟨g, cap, cur, hv5, hbg, hg, r⟩⟩ := h
  · exact ⟨hl, .inl hn'⟩
  · refine ⟨hl, .inr ⟨g, cap, cur, hv5, hbg, ?_, r⟩⟩
    rw [k.block g (Array.getElem?_eq_some_iff.1 hg).1 ?_]; exact hg
    intro e
    obtain ⟨_, hnn | ⟨g', cap', cur', hv', _, hg', _⟩⟩ := h3
    · rw [hnn.1] at e; cases e
    · rw [hv'] at e
      simp [Value.ownBlock] at e
      subst e
      rw [hg] at hg'
      simp at hg'

def partG (n m : Nat) (start : List Int) (k : Nat) : List (List Int) := ((iota k).filter fun x => decide (¬ x ∈ start)).flatMap fun x => growL n m (start ++ [x])
theorem partG_succ (n m : Nat) (start : List Int) (k : Nat) : partG n m start (k + 1) = partG n m start k ++ (if (k : Int) ∈ start then [] else growL n m (start ++ [(k : Int)])) := by
  unfold partG
  rw [show iota (k + 1) = iota k ++ [(k : Int)] from by simp [iota, List.range_succ], List.filter_append, List.flatMap_append]
  congr 1
  by_cases h : (k : Int) ∈ start
  · simp [h]
  · simp [h]
theorem partG_mono (n m : Nat) (start : List Int) (k : Nat) : ∀ d, (partG n m start k).length ≤ (partG n m start (k + d)).length
  | 0 => Nat.le_refl _
  | d + 1 => by
    have := partG_mono n m start k d
    rw [← Nat.add_assoc, partG_succ, List.length_append]; omega
theorem partG_le {n m : Nat} {start : List Int} {k : Nat} (h : k ≤ n) : (partG n m start k).length ≤ (growL n (m + 1) start).length := by
  have := partG_mono n m start k (n - k)
  rw [show k + (n - k) = n from by omega] at this
  exact this

def GrowPost (w : World) (v : Value) (B : Nat) (ys : List (List Int)) (e : Ending) (w' : World) : Prop :=
  ∃ r, e = .returned r ∧ OwnRows B w' r ys ∧ Keep (fun b => v.ownBlock = some b) w w' ∧ ∀ b, r.ownBlock = some b → v.ownBlock = some b ∨ w.heap.size ≤ b

set_option maxRecDepth 100000 in
set_option maxHeartbeats 1600000 in
theorem c_l01GrowS (n : Nat) (hn : n ≤ 1048576) (m : Nat) (start : List Int) (hm : start.length + (m + 1) = n) (u v : Value) (xss : List (List Int)) (B hi : Nat) (w : World) (hx : OwnRows B w v xss) (hu : Own hi w u start) (hB : B ≤ w.heap.size) (hb : xss.length + (growL n (m + 1) start).length ≤ 1099511627776)
    (ih : ∀ (start : List Int) (hm : start.length + m = n) (u v : Value) (xss : List (List Int)) (B hi : Nat) (w : World) (hx : OwnRowsIn B hi w v xss) (hu : Own hi w u start) (hB : B ≤ hi) (hhi : hi ≤ w.heap.size) (hb : xss.length + (growL n m start).length ≤ 1099511627776), Calls Try.prog 158 #[.int .i64 n, u, v] w (GrowPost w v B (xss ++ growL n m start))) :
    Calls Try.prog 158 #[.int .i64 n, u, v] w (GrowPost w v B (xss ++ growL n (m + 1) start)) := by
  obtain ⟨a, c, rfl, _⟩ := hu.shape
  obtain ⟨a2, c2, rfl, _⟩ := hx.rows.shape
  have he : ((start.length : Int) == (n : Int)) = false := by simp; omega
  have HX := Lib.hid hx; have HU := Lib.hid hu; have IH := Lib.hid ih; have HBd := Lib.hid hb; have HMs := Lib.hid hm
  clear hx hu hb hm ih
  go_enter Try.func158, Try.ntmps158
  go_wp2
  go_loopw [2, 7] (fun s x wr => ∃ (k : Nat) (ys : List (List Int)) (ra : Option Addr) (rc : Nat), k ≤ n ∧ x = .int .i64 k ∧ s = .slice ra ys.length rc ∧ Hid (ys = xss ++ partG n m start k) ∧ Hid (OwnRows B wr (.slice ra ys.length rc) ys) ∧ Hid (Keep (fun b => (Value.slice a2 xss.length c2).ownBlock = some b) w wr) ∧ Hid (∀ b, (Value.slice ra ys.length rc).ownBlock = some b → (Value.slice a2 xss.length c2).ownBlock = some b ∨ w.heap.size ≤ b) ∧ Hid (Own hi wr (.slice a start.length c) start)) (fun _ x _ => n - (intOf x).toNat)
  case atStart => exact ⟨0, xss, a2, c2, Nat.zero_le _, rfl, rfl, Lib.hid (by simp [partG, iota]), HX, Lib.hid (Keep.refl _ _), Lib.hid fun b e => .inl e, HU⟩
  case round =>
    clear HU HX
    obtain ⟨k, ys, ra, rc, hk, rfl, rfl, HY, HR, HK, HOB, HU⟩ := hrel
    obtain ⟨wo, rfl⟩ : ∃ wo : World, wo = wr := ⟨_, rfl⟩
    by_cases hlt : k < n
    · by_cases hin : (k : Int) ∈ start
      · have d1 : decide ((k : Int) ∈ start) = true := by simp [hin]
        have e := partG_succ n m start k
        rw [if_pos hin, List.append_nil] at e
        have HE := Lib.hid e
        clear hin e
        go_wp2_with fail
        refine (c_l01Has _ _ _ _ HU.out.ints).mono ?_; rintro e w' ⟨rfl, rfl⟩
        go_wp2
        go_roundw
        case rel => exact ⟨k + 1, ys, ra, rc, by omega, by go_num, rfl, Lib.hid (by rw [HE.out]; exact HY.out), HR, HK, HOB, HU⟩
        case measure => simp [intOf]; omega
      · have d1 : decide ((k : Int) ∈ start) = false := by simp [hin]
        have e := partG_succ n m start k
        rw [if_neg hin] at e
        have HE := Lib.hid e
        have hle := partG_le (m := m) (start := start) (show k + 1 ≤ n by omega)
        have HLe := Lib.hid hle
        clear hin e hle
        go_wp2_with fail
        refine (c_l01Has _ _ _ _ HU.out.ints).mono ?_; rintro e w' ⟨rfl, rfl⟩
        go_wp2_with fail
        refine (c_l01Own _ start _ HU.out.ints (by have := HMs.out; omega)).mono ?_; rintro e w1 ⟨r1, rfl, ho1, hb1⟩
        obtain ⟨a1, c1, rfl, _⟩ := ho1.shape
        have HO1 := Lib.hid ho1; have HB1 := Lib.hid hb1; have HSz := Lib.hid hb1.size
        have HSl : Hid (start.length ≤ 1099511627776) := by have := HMs.out; show _ ≤ _; omega
        clear ho1 hb1
        go_wp2_with (at_builtin; go_must (refine wpList_app_int wo.heap.size w1 _ start k _ _ rfl rfl rfl HO1.out rfl HSl.out HSz.out ?_); intro a' c' w2 hown' hkeep; have Hk := Lib.hid hkeep; have Ho' := Lib.hid hown'; clear hkeep hown')
        have hb2 : Below wo.heap.size wo w2 := HO1.out.frame HB1.out (Nat.le_refl _) HSz.out Hk.out
        have hown2 := HR.out.inn.under hb2
        have hl2 : start.length + 1 = (start ++ [(k : Int)]).length := by simp
        refine (IH.out (start ++ [(k : Int)]) (by have := HMs.out; simp; omega) _ _ ys B wo.heap.size w2 hown2 (by have := Ho'.out; simpa using this) (Nat.le_trans hB HK.out.size) hb2.size ?_).mono ?_
        · have h1 := HLe.out; rw [HE.out, List.length_append] at h1
          have h2 := HBd.out
          rw [HY.out, List.length_append]
          omega
        rintro e w3 ⟨r, rfl, hr, hk3, hob3⟩
        obtain ⟨ra3, rc3, rfl, _⟩ := hr.rows.shape
        have HR3 := Lib.hid hr; have HK3 := Lib.hid hk3; have HOB3 := Lib.hid hob3; have HB2 := Lib.hid hb2; have HOwn2 := Lib.hid hown2
        clear hr hk3 hob3 hb2 hown2 hl2
        go_wp2
        go_roundw
        case rel =>
          refine ⟨k + 1, ys ++ growL n m (start ++ [(k : Int)]), ra3, rc3, by omega, by go_num, by simp, Lib.hid (by rw [HE.out, HY.out, List.append_assoc]), HR3, Lib.hid ?_, Lib.hid fun b hb => ?_, Lib.hid ?_⟩
          · refine (HK.out.under HB2.out).chain HK3.out fun b hb h => ?_
            rcases HOB.out b h with h1 | h1
            · exact h1
            · omega
          · rcases HOB3.out b hb with h1 | h1
            · exact HOB.out b h1
            · exact .inr (Nat.le_trans HK.out.size (Nat.le_trans HB2.out.size h1))
          · exact (HU.out.under HB2.out).keepR HOwn2.out.out HK3.out
        case measure => simp [intOf]; omega
    · obtain rfl : k = n := by omega
      have hfin : xss ++ growL k (m + 1) start = ys := HY.out.symm
      have HF := Lib.hid hfin
      clear hfin
      go_wp2
      go_ret
      exact ⟨_, rfl, by rw [HF.out]; exact HR.out, HK.out, HOB.out⟩

set_option maxRecDepth 100000 in
set_option maxHeartbeats 1600000 in
theorem c_l01Grow (n : Nat) (hn : n ≤ 1048576) : ∀ (m : Nat) (start : List Int) (hm : start.length + m = n) (u v : Value) (xss : List (List Int)) (B hi : Nat) (w : World) (hx : OwnRowsIn B hi w v xss) (hu : Own hi w u start) (hB : B ≤ hi) (hhi : hi ≤ w.heap.size) (hb : xss.length + (growL n m start).length ≤ 1099511627776),
    Calls Try.prog 158 #[.int .i64 n, u, v] w (GrowPost w v B (xss ++ growL n m start))
  | 0, start, hm, u, v, xss, B, hi, w, hx, hu, hB, hhi, hb => by
    obtain ⟨a, c, rfl, _⟩ := hu.shape
    obtain ⟨a2, c2, rfl, _⟩ := hx.rows.shape
    have hl : start.length = n := by omega
    have he : ((start.length : Int) == (n : Int)) = true := by simp [hl]
    have HX := Lib.hid hx; have HU := Lib.hid hu
    have hb1 : Hid (xss.length ≤ 1099511627776) := by show _ ≤ _; omega
    have hB2 : Hid (B ≤ w.heap.size) := by show _ ≤ _; omega
    clear hx hu hl hm hb
    go_enter Try.func158, Try.ntmps158
    go_wp2_with (at_builtin; go_must (refine wpList_app_row2 B hi w _ xss _ start _ _ rfl rfl rfl HX.out HU.out rfl hb1.out hB hB2.out ?_); intro g c' w' hown' hkeep hg; have Hk := Lib.hid hkeep; have Ho' := Lib.hid hown'; have HG := Lib.hid hg; clear hkeep hown' hg)
    go_ret
    refine ⟨_, rfl, Ho'.out, Hk.out, fun b e => ?_⟩
    simp [Value.ownBlock] at e
    subst e
    exact HG.out
  | m + 1, start, hm, u, v, xss, B, hi, w, hx, hu, hB, hhi, hb => c_l01GrowS n hn m start hm u v xss B hi w hx.out hu (Nat.le_trans hB hhi) hb (c_l01Grow n hn m)

theorem growL_length (n : Nat) : ∀ (m : Nat) (start : List Int), (growL n m start).length ≤ n ^ m
  | 0, start => by simp [growL]
  | m + 1, start => by
    have h : ∀ k, (partG n m start k).length ≤ k * n ^ m := by
      intro k
      induction k with
      | zero => simp [partG, iota]
      | succ k ih =>
        rw [partG_succ, List.length_append, Nat.add_mul, Nat.one_mul]
        have : (if (k : Int) ∈ start then [] else growL n m (start ++ [(k : Int)])).length ≤ n ^ m := by
          split
          · simp
          · exact growL_length n m _
        omega
    have := h n
    rw [Nat.pow_succ, Nat.mul_comm]
    exact this
theorem allPerms_le {n : Nat} (h : n ≤ 7) : (allPerms n).length ≤ 823543 := by
  refine Nat.le_trans (growL_length n n []) ?_
  have h1 : n ^ n ≤ 7 ^ n := Nat.pow_le_pow_left h n
  have h2 : 7 ^ n ≤ 7 ^ 7 := Nat.pow_le_pow_right (by omega) h
  omega

set_option maxRecDepth 100000 in
set_option maxHeartbeats 800000 in
theorem c_l01Perms (n : Nat) (w : World) (hn0 : 1 ≤ n) (hn : n ≤ 7) :
    Calls Try.prog 113 #[.int .i64 n] w (RRows w (allPerms n)) := by
  obtain ⟨m, rfl⟩ : ∃ m, n = m + 1 := ⟨n - 1, by omega⟩
  have h1 : Hid (Own w.heap.size ((w.alloc (.cells #[] 2)).alloc (.cells #[] 25)) (.slice (some ⟨w.heap.size, 0, none⟩) 0 0) []) := Lib.hid ((Own.made0 w (Nat.le_refl _)).under ((Below.refl _ _).alloc (Nat.le_refl _) _))
  have h2 : Hid (OwnRows w.heap.size ((w.alloc (.cells #[] 2)).alloc (.cells #[] 25)) (.slice (some ⟨w.heap.size + 1, 0, none⟩) 0 0) []) := by
    have := OwnRows.made0 (B := w.heap.size) (w.alloc (.cells #[] 2)) (by simp)
    show OwnRows _ _ _ _
    simpa using this
  have h3 : Hid (Below w.heap.size w ((w.alloc (.cells #[] 2)).alloc (.cells #[] 25))) := Lib.hid (((Below.refl _ _).alloc (Nat.le_refl _) _).alloc (by simp) _)
  have hle := allPerms_le hn
  go_enter Try.func113, Try.ntmps113
  go_wp2_with fail
  refine (c_l01GrowS (m + 1) (by omega) m [] (by simp) _ _ [] w.heap.size w.heap.size _ h2.out h1.out h3.out.size (by simpa [allPerms] using Nat.le_trans hle (by omega)) (c_l01Grow (m + 1) (by omega) m)).mono ?_; rintro e w3 ⟨r, rfl, hr, hk, -⟩
  have HR := Lib.hid hr; have HK := Lib.hid hk; clear hr hk
  go_wp2
  go_ret
  refine ⟨_, rfl, by simpa [allPerms] using HR.out, ?_⟩
  exact h3.out.trans (HK.out.below fun k hk => ⟨Nat.lt_of_lt_of_le hk h3.out.size, fun e => by simp [Value.ownBlock] at e; omega⟩)
end Go.Proofs.Ytkcobfkmeaakoaa
