/-
  The orbit of an element, the reference's function.
-/
import Derived.Test.YtkghonhghbcdlaaI15
import Derived.Test.YtkghonhghbcdlaaI11
import Derived.StillTailTactics
import Derived.BigQuiet
import Derived.Test.YtkghonhghbcdlaaA1
import Derived.Deep.RegionHeld3
namespace Go.Proofs.Ytkghonhghbcdlaa
set_option linter.unusedVariables false
set_option linter.unusedSimpArgs false
open Go.RowKit

/-- What holds of the list of reached elements: i of them are done, and k permutations at the next one. -/
structure OI (L : List (List Int)) (x : Int) (xs : List Int) (i k : Nat) : Prop where
  nd : xs.Nodup
  re : ∀ y ∈ xs, Reach L x y
  st : x ∈ xs
  done : ∀ j, j < i → ∀ p ∈ L, nth p (nth xs j) ∈ xs
  part : ∀ m, m < k → nth (row L m) (nth xs i) ∈ xs
theorem OI.start (L : List (List Int)) (x : Int) : OI L x [x] 0 0 :=
  ⟨by simp, by intro y hy; simp at hy; subst hy; exact .here, by simp, by intro j hj; omega, by intro m hm; omega⟩
theorem OI.old {L : List (List Int)} {x : Int} {xs : List Int} {i k : Nat} (h : OI L x xs i k) (hk : nth (row L k) (nth xs i) ∈ xs) : OI L x xs i (k + 1) :=
  ⟨h.nd, h.re, h.st, h.done, by
    intro m hm
    by_cases e : m = k
    · subst e; exact hk
    · exact h.part m (by omega)⟩
theorem OI.new {L : List (List Int)} {x : Int} {xs : List Int} {i k : Nat} (h : OI L x xs i k) (hi : i < xs.length) (hkl : k < L.length) (hk : ¬ nth (row L k) (nth xs i) ∈ xs) : OI L x (xs ++ [nth (row L k) (nth xs i)]) i (k + 1) := by
  have hn : ∀ j : Nat, j < xs.length → nth (xs ++ [nth (row L k) (nth xs i)]) j = nth xs j := fun j hj => nth_append_left _ _ _ (by omega) (by omega)
  refine ⟨?_, ?_, List.mem_append.2 (.inl h.st), ?_, ?_⟩
  · rw [List.nodup_append]
    refine ⟨h.nd, by simp, ?_⟩
    intro a ha b hb e
    simp at hb
    rw [e, hb] at ha
    exact hk ha
  · intro y hy
    rcases List.mem_append.1 hy with hy | hy
    · exact h.re y hy
    · simp at hy
      subst hy
      exact (h.re _ (nth_mem (by omega) (by omega))).step (row_mem (t := L) (x := k) (by omega) (by omega))
  · intro j hj p hp
    rw [hn j (by omega)]
    exact List.mem_append.2 (.inl (h.done j hj p hp))
  · intro m hm
    rw [hn i hi]
    by_cases e : m = k
    · subst e; exact List.mem_append.2 (.inr (by simp))
    · exact List.mem_append.2 (.inl (h.part m (by omega)))
theorem OI.next {L : List (List Int)} {x : Int} {xs : List Int} {i : Nat} (h : OI L x xs i L.length) : OI L x xs (i + 1) 0 :=
  ⟨h.nd, h.re, h.st, by
    intro j hj p hp
    by_cases e : j = i
    · subst e
      obtain ⟨m, hm, rfl⟩ := List.getElem_of_mem hp
      have := h.part m hm
      rwa [row_nat _ _ hm] at this
    · exact h.done j (by omega) p hp, by intro m hm; omega⟩
theorem OI.range {L : List (List Int)} {x : Int} {xs : List Int} {i k n : Nat} (h : OI L x xs i k) (hs : SysOk n L) (h0 : 0 ≤ x) (h1 : x < n) : ∀ y ∈ xs, 0 ≤ y ∧ y < n := fun y hy => (h.re y hy).range hs h0 h1
theorem OI.len {L : List (List Int)} {x : Int} {xs : List Int} {i k n : Nat} (h : OI L x xs i k) (hs : SysOk n L) (h0 : 0 ≤ x) (h1 : x < n) : xs.length ≤ n := by
  have : xs ⊆ iota n := fun y hy => (mem_iota _ _).2 (h.range hs h0 h1 y hy)
  have := List.Nodup.length_le_of_subset h.nd this
  simpa using this
theorem OI.all {L : List (List Int)} {x : Int} {xs : List Int} {i n : Nat} (h : OI L x xs i 0) (hi : xs.length ≤ i) (hs : SysOk n L) (h0 : 0 ≤ x) (h1 : x < n) (y : Int) : y ∈ xs ↔ Reach L x y := by
  refine ⟨h.re y, fun hr => ?_⟩
  refine reach_closed hs (S := (· ∈ xs)) hr h0 h1 h.st ?_
  intro z _ _ hz p hp
  obtain ⟨j, hj0, hj1, rfl⟩ := mem_nth hz
  obtain ⟨j', rfl⟩ : ∃ j' : Nat, j = j' := ⟨j.toNat, by omega⟩
  exact h.done j' (by omega) p hp

/-- The list of what is reached, each once. -/
def IsOrb (L : List (List Int)) (x : Int) (xs : List Int) : Prop := xs.Nodup ∧ ∀ y, y ∈ xs ↔ Reach L x y

set_option maxHeartbeats 1600000 in
theorem c_l01Orbit (n : Nat) (v : Value) (L : List (List Int)) (x : Int) (w : World) (hx : Rows w v L) (hn : n ≤ 12) (hL : L.length ≤ 16) (hs : SysOk n L) (h0 : 0 ≤ x) (h1 : x < n) :
    Calls Try.prog 113 #[v, .int .i64 x] w (fun e w' => ∃ xs, IsOrb L x xs ∧ xs.length ≤ n ∧ RInts w xs e w') := by
  obtain ⟨a, c, rfl, hc, hm⟩ := hx.shape
  have HS := Lib.hid hs; have H0 := Lib.hid h0; have H1 := Lib.hid h1; clear hs h0 h1
  go_enter Try.func113, Try.ntmps113
  go_wp2
  go_loopw [5, 6, 7] (fun s i _ wr => ∃ (k : Nat) (xs : List Int) (sa : Option Addr) (sc : Nat), k ≤ xs.length ∧ i = .int .i64 k ∧ s = .slice sa xs.length sc ∧ Hid (Below w.heap.size w wr) ∧ Hid (Own w.heap.size wr (.slice sa xs.length sc) xs) ∧ Hid (OI L x xs k 0)) (fun _ i _ _ => n - (intOf i).toNat)
  case atStart => exact ⟨0, [x], _, _, Nat.zero_le _, rfl, rfl, Lib.hid ((Below.refl _ _).alloc (Nat.le_refl _) _), Lib.hid (Own.of_blk (xs := [x]) (Blk.new _ [.int .i64 x] _) (Nat.le_refl _) (by simp [maxLen]) rfl rfl), Lib.hid (OI.start L x)⟩
  case round =>
    obtain ⟨i, xs, sa, sc, hi, rfl, rfl, HB, HO, HI⟩ := hrel
    have hxn := HI.out.len HS.out H0.out H1.out
    by_cases hlt : i < xs.length
    · obtain ⟨wo, rfl⟩ : ∃ wo : World, wo = wr := ⟨_, rfl⟩
      have HLT := Lib.hid hlt
      go_wp2
      go_loopw [5, 7] (fun s k wr => ∃ (k' : Nat) (xs : List Int) (sa : Option Addr) (sc : Nat), k' ≤ L.length ∧ i < xs.length ∧ k = .int .i64 k' ∧ s = .slice sa xs.length sc ∧ Hid (Below w.heap.size w wr) ∧ Hid (Own w.heap.size wr (.slice sa xs.length sc) xs) ∧ Hid (OI L x xs i k')) (fun _ k _ => L.length - (intOf k).toNat)
      case atStart => exact ⟨0, xs, _, _, Nat.zero_le _, hlt, rfl, rfl, HB, HO, HI⟩
      case round =>
        clear HB HO HI hxn hlt HLT
        obtain ⟨k, xs, sa, sc, hk, hix, rfl, rfl, HB, HO, HI⟩ := hrel
        have hxn := HI.out.len HS.out H0.out H1.out
        by_cases hlk : k < L.length
        · obtain ⟨b, o, ra, rc, rfl, c1, hr⟩ := (hx.below HB.out).getS k hlk
          obtain ⟨bo, oo, rfl, c2⟩ := HO.out.ints.get i hix
          obtain ⟨hy0, hy1⟩ := HI.out.range HS.out H0.out H1.out _ (nth_mem (p := xs) (x := i) (by omega) (by omega))
          have hrl : (row L k).length = n := (HS.out _ (row_mem (t := L) (x := k) (by omega) (by omega))).2
          have hy2 : nth xs i < (row L k).length := by omega
          obtain ⟨b2, o2, rfl, c3⟩ := hr.geti (nth xs i) hy0 hy2
          have HOi := Lib.hid HO.out.ints
          have hk0 : (0 : Int) ≤ k := by omega
          have hk1 : (k : Int) < L.length := by omega
          have hi0 : (0 : Int) ≤ i := by omega
          have hi1 : (i : Int) < xs.length := by omega
          have hxl : xs.length ≤ 1099511627776 := by omega
          have HXL := Lib.hid hxl; have HBs := Lib.hid HB.out.size
          clear hrl hr hxl
          by_cases hm : nth (row L k) (nth xs i) ∈ xs
          · have d1 : decide (nth (row L k) (nth xs i) ∈ xs) = true := by simp [hm]
            have HM := Lib.hid hm; clear hm
            go_wp2
            go_quiet ((go_at_call 45; exact quiet_left (c_l01Has _ _ _ _ (HOi.out.below (below_drewN (Below.refl _ _) _)))))
            go_wp2
            go_roundw
            case rel => exact ⟨k + 1, xs, _, sc, by omega, hix, by go_num, rfl, Lib.hid (below_drewN HB.out _), Lib.hid (HO.out.under (below_drewN (Below.refl _ _) _)), Lib.hid (HI.out.old HM.out)⟩
            case measure => simp [intOf]; omega
          · have d1 : decide (nth (row L k) (nth xs i) ∈ xs) = false := by simp [hm]
            have HM := Lib.hid hm; clear hm
            go_wp2
            go_quiet ((go_at_call 45; exact quiet_left (c_l01Has _ _ _ _ (HOi.out.below (below_drewN (Below.refl _ _) _)))))
            go_wp2
            rename_i nq
            have hbq : Below wr.heap.size wr (wr.drewN nq) := below_drewN (Below.refl _ _) nq
            generalize wr.drewN nq = wq at hbq ⊢
            have q1 := cell_under hbq c1
            have q2 := cell_under hbq c2
            have q3 := cell_under hbq c3
            have hbd := hbq.drew
            have HOd := Lib.hid (HO.out.under hbd); have HBd := Lib.hid (bb HB.out hbd); have HBsd := Lib.hid (bb HB.out hbd).size
            have d1' := cell_under hbd c1
            have d2 := cell_under hbd c2
            have d3 := cell_under hbd c3
            clear c1 c2 c3 hbd hbq
            go_region_law (first
              | (refine step_app_int w.heap.size _ _ xs (nth (row L k) (nth xs i)) (.tmp 35) (.tmp 46) rfl rfl rfl HOd.out rfl HXL.out HBsd.out ?_; intro a' c' w' hown' hkeep hg'; have Hk := Lib.hid hkeep; have Ho' := Lib.hid hown'; clear hkeep hown' hg'))
            all_goals
              go_wp2
              go_roundw
              case rel => exact ⟨k + 1, xs ++ [nth (row L k) (nth xs i)], some ⟨a', 0, none⟩, c', by omega, by simp; omega, by go_num, by simp, Lib.hid (HOd.out.frame HBd.out (Nat.le_refl _) HBsd.out Hk.out), Lib.hid (by have := Ho'.out; simpa using this), Lib.hid (HI.out.new hix hlk HM.out)⟩
              case measure => simp [intOf]; omega
        · obtain rfl : k = L.length := by omega
          go_wp2
          go_roundw
          case rel => exact ⟨i + 1, xs, sa, sc, by omega, by go_num, rfl, HB, HO, Lib.hid HI.out.next⟩
          case measure => simp [intOf]; omega
    · go_wp2
      go_ret
      exact ⟨xs, ⟨HI.out.nd, fun y => HI.out.all (by omega) HS.out H0.out H1.out y⟩, hxn, _, rfl, HO.out, HB.out⟩
end Go.Proofs.Ytkghonhghbcdlaa
