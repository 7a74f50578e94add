/-
  The numbers of the orbits, the reference's function.
-/
import Derived.Test.YtkghonhghbcdlaaI16
namespace Go.Proofs.Ytkghonhghbcdlaa
set_option linter.unusedVariables false
set_option linter.unusedSimpArgs false
open Go.RowKit

theorem Blk.lab {w : World} {g : Nat} {t : TypeId} {l : List Int} {cs : List Value} (h : Blk w g t (l.map (Value.int .i64) ++ cs)) (k : Int) (h0 : 0 ≤ k) (hk : k < l.length) : w.cell? ⟨g, k.toNat, none⟩ = some (.int .i64 (nth l k)) := by
  have h1 : k.toNat < l.length := by omega
  rw [h.cell (by simp; omega), List.getElem_append_left (by simpa using h1)]
  simp [nth, h1]
theorem Blk.labN {w : World} {g : Nat} {t : TypeId} {l : List Int} {cs : List Value} (h : Blk w g t (l.map (Value.int .i64) ++ cs)) (k : Nat) (hk : k < l.length) : w.cell? ⟨g, k, none⟩ = some (.int .i64 (nth l k)) := h.lab (k : Int) (by omega) (by omega)
theorem Blk.labSet {w : World} {g : Nat} {t : TypeId} {l : List Int} {cs : List Value} (h : Blk w g t (l.map (Value.int .i64) ++ cs)) (k : Int) (h0 : 0 ≤ k) (hk : k < l.length) (y : Int) : Blk (w.setCell ⟨g, k.toNat, none⟩ (.int .i64 y)) g t ((l.set k.toNat y).map (Value.int .i64) ++ cs) := by
  have := h.set k.toNat (.int .i64 y)
  rwa [List.set_append, if_pos (by simp; omega), ← List.map_set] at this

theorem Ints.otherB {w : World} {b o n c g : Nat} {xs : List Int} (h : Ints w (.slice (some ⟨b, o, none⟩) n c) xs) (hne : b ≠ g) (i : Nat) (u : Value) : Ints (w.setCell ⟨g, i, none⟩ u) (.slice (some ⟨b, o, none⟩) n c) xs := by
  obtain ⟨a, c', hv, hc, hm, hcell⟩ := h
  cases hv
  refine ⟨_, _, rfl, hc, hm, fun k hk => ?_⟩
  obtain ⟨b', o', ha, h1⟩ := hcell k hk
  cases ha
  refine ⟨_, _, rfl, ?_⟩
  have e := Below.heap_setCell w ⟨g, i, none⟩ u b hne
  simp only [World.cell?] at h1 ⊢
  rw [e]
  exact h1
/-- l is l0 with number m at the elements of xs. -/
def Marked (n : Nat) (l0 l : List Int) (m : Int) (xs : List Int) : Prop := l.length = n ∧ ∀ y : Nat, y < n → nth l y = if (y : Int) ∈ xs then m else nth l0 y
theorem Marked.none {n : Nat} {l : List Int} {m : Int} (h : l.length = n) : Marked n l l m [] := ⟨h, by intro y _; simp⟩
theorem Marked.snoc {n : Nat} {l0 l : List Int} {m : Int} {xs : List Int} (h : Marked n l0 l m xs) {z : Int} (h0 : 0 ≤ z) (h1 : z < n) : Marked n l0 (l.set z.toNat m) m (xs ++ [z]) := by
  refine ⟨by simpa using h.1, fun y hy => ?_⟩
  rw [nth_set _ _ _ _ h0 (by rw [h.1]; exact h1) (by omega), h.2 y hy]
  by_cases e : (y : Int) = z
  · simp [e]
  · simp [e]
open Classical in
theorem Marked.labs {n : Nat} {L : List (List Int)} {k : Nat} {l : List Int} {xs : List Int} (h : Marked n (labs L n k).1 l (labs L n k).2 xs) (ho : IsOrb L k xs) (hf : nth (labs L n k).1 k < 0) : labs L n (k + 1) = (l, (labs L n k).2 + 1) := by
  refine labs_new hf h.1 fun y hy => ?_
  rw [h.2 y hy]
  by_cases e : (y : Int) ∈ xs
  · rw [if_pos e, if_pos ((ho.2 _).1 e)]
  · rw [if_neg e, if_neg (fun hr => e ((ho.2 _).2 hr))]

set_option maxHeartbeats 1600000 in
theorem c_l01Orbits (n : Nat) (v : Value) (L : List (List Int)) (w : World) (hx : Rows w v L) (hn0 : 1 ≤ n) (hn : n ≤ 12) (hL : L.length ≤ 16) (hs : SysOk n L) :
    Calls Try.prog 76 #[.int .i64 n, v] w (RInts w (orbL L n)) := by
  obtain ⟨a, c, rfl, hc, hm⟩ := hx.shape
  have HS := Lib.hid hs; clear hs
  go_enter Try.func76, Try.ntmps76
  go_wp2
  go_loopw [5, 6] (fun s i wr => ∃ (k : Nat) (sa : Option Addr) (sc : Nat), k ≤ n ∧ i = .int .i64 k ∧ s = .slice sa k sc ∧ Hid (Below w.heap.size w wr) ∧ Hid (Own w.heap.size wr (.slice sa k sc) (List.replicate k (-1)))) (fun _ i _ => n - (intOf i).toNat)
  case atStart => exact ⟨0, _, _, Nat.zero_le _, rfl, rfl, Lib.hid ((Below.refl _ _).alloc (Nat.le_refl _) _), Lib.hid (Own.made0 w (Nat.le_refl _))⟩
  case round =>
    obtain ⟨k, sa, sc, hk, rfl, rfl, HB, HO⟩ := hrel
    by_cases hlt : k < n
    · have HBs := Lib.hid HB.out.size
      go_wp2_with (at_builtin; refine wpList_app_int w.heap.size wr _ (List.replicate k (-1)) (-1) _ _ rfl rfl rfl HO.out rfl (by simp; omega) HBs.out ?_; intro a' c' w' hown' hkeep; rw [List.length_replicate]; have Hk := Lib.hid hkeep; have Ho' := Lib.hid hown'; clear hkeep hown')
      go_roundw
      case rel =>
        have h1 := Ho'.out
        rw [List.length_replicate, ← List.replicate_succ'] at h1
        exact ⟨k + 1, a', c', by omega, by go_num, rfl, Lib.hid (HO.out.frame HB.out (Nat.le_refl _) HBs.out Hk.out), Lib.hid h1⟩
      case measure => simp [intOf]; omega
    · obtain rfl : k = n := by omega
      obtain ⟨g, cs, hv, hg, hblk, hmax⟩ : ∃ g cs, (Value.slice sa k sc) = .slice (some ⟨g, 0, none⟩) k (k + cs.length) ∧ w.heap.size ≤ g ∧ Blk wr g 2 ((labs L k 0).1.map (Value.int .i64) ++ cs) ∧ k + cs.length ≤ maxLen := by
        rcases HO.out.open with ⟨_, h⟩ | ⟨g, cs, h1, h2, h3, h4⟩
        · have := congrArg List.length h; simp at this; omega
        · rw [List.length_replicate] at h1 h4
          exact ⟨g, cs, h1, h2, h3, h4⟩
      cases hv
      have HBk := Lib.hid hblk; have HG := Lib.hid hg; have HM := Lib.hid hmax
      clear hblk hg hmax HO hlt hk
      obtain ⟨wo, rfl⟩ : ∃ wo : World, wo = wr := ⟨_, rfl⟩
      go_wp2
      go_loopw [7, 8, 9, 10] (fun m x _ _ wr => ∃ (j : Nat), j ≤ k ∧ x = .int .i64 j ∧ m = .int .i64 (labs L k j).2 ∧ Hid (Below w.heap.size w wr) ∧ Hid (Blk wr g 2 ((labs L k j).1.map (Value.int .i64) ++ cs))) (fun _ x _ _ _ => k - (intOf x).toNat)
      case atStart => exact ⟨0, Nat.zero_le _, rfl, rfl, HB, HBk⟩
      case round =>
        clear HB HBk
        obtain ⟨j, hj, rfl, rfl, HB, HBk⟩ := hrel
        obtain ⟨wo, rfl⟩ : ∃ wo : World, wo = wr := ⟨_, rfl⟩
        by_cases hlt : j < k
        · have hll := labs_length L k j
          have c1 := HBk.out.labN j (by omega)
          have hnx := labs_next L k j
          obtain ⟨m, hm'⟩ : ∃ m, (labs L k j).2 = m := ⟨_, rfl⟩
          obtain ⟨l, hl'⟩ : ∃ l, (labs L k j).1 = l := ⟨_, rfl⟩
          rw [hl'] at c1 HBk hll
          rw [hm'] at hnx
          have HLb : Hid (labs L k j = (l, m)) := by show _ = _; rw [← hl', ← hm']
          rw [hm']
          obtain ⟨hm0, hm1⟩ := hnx
          have HLL := Lib.hid hll
          clear hm' hl' hll
          by_cases hf : nth l j < 0
          · have HF := Lib.hid hf
            go_wp2_with fail
            refine (c_l01Orbit k _ L j wo (hx.below HB.out) (by omega) hL HS.out (by omega) (by omega)).mono ?_; rintro e w1 ⟨xs, hio, hxl, r, rfl, ho, hb⟩
            obtain ⟨ra, rc, rfl, _⟩ := ho.shape
            have hxpos : 0 < xs.length := List.length_pos_of_mem ((hio.2 _).2 (.here (L := L) (x := (j : Int))))
            obtain ⟨br, orr, rfl, _⟩ := ho.ints.get 0 hxpos
            have HIO := Lib.hid hio; have HO := Lib.hid ho; have HB1 := Lib.hid (bb HB.out hb); have HBk1 := Lib.hid (HBk.out.under hb)
            have HLt := Lib.hid HBk.out.lt
            clear hio ho hb c1
            obtain ⟨wq, rfl⟩ : ∃ wq : World, wq = w1 := ⟨_, rfl⟩
            go_wp2
            go_loopw [10] (fun i wr => ∃ (i' : Nat) (l2 : List Int), i' ≤ xs.length ∧ i = .int .i64 i' ∧ Hid (Marked k l l2 m (xs.take i')) ∧ Hid (Below w.heap.size w wr) ∧ Hid (Blk wr g 2 (l2.map (Value.int .i64) ++ cs)) ∧ Hid (Ints wr (.slice (some ⟨br, orr, none⟩) xs.length rc) xs) ∧ Hid (br ≠ g)) (fun i _ => xs.length - (intOf i).toNat)
            case atStart => exact ⟨0, l, Nat.zero_le _, rfl, Lib.hid (by simpa using Marked.none HLL.out), HB1, HBk1, Lib.hid HO.out.ints, Lib.hid (by have h1 := (HO.out.lt (k := br) (by simp [Value.ownBlock])).1; have h2 := HLt.out; omega)⟩
            case round =>
              clear HBk1 HB1
              obtain ⟨i, l2, hi, rfl, HMk, HB2, HBk2, HI2, HNE⟩ := hrel
              by_cases hix : i < xs.length
              · obtain ⟨bo, oo, hv, c1⟩ := HI2.out.get i hix
                cases hv
                obtain ⟨hy0, hy1⟩ := ((HIO.out.2 _).1 (nth_mem (p := xs) (x := i) (by omega) (by omega))).range HS.out (by omega) (by omega)
                have hl2 := HMk.out.1
                have c2 := HBk2.out.lab (nth xs i) hy0 (by rw [hl2]; exact hy1)
                have c3 := HBk2.out.frozen (nth xs i).toNat
                have hset := HBk2.out.labSet (nth xs i) hy0 (by rw [hl2]; exact hy1) m
                have HSet := Lib.hid hset; have HL2 := Lib.hid hl2
                clear hset hl2
                go_wp2
                go_roundw
                case rel =>
                  refine ⟨i + 1, _, by omega, by go_num, Lib.hid ?_, Lib.hid (HB2.out.setCell (p := ⟨g, (nth xs i).toNat, none⟩) HG.out _), HSet, Lib.hid ?_, HNE⟩
                  · rw [take_snoc _ _ hix]
                    exact HMk.out.snoc hy0 hy1
                  · exact HI2.out.otherB HNE.out _ _
                case measure => simp [intOf]; omega
              · obtain rfl : i = xs.length := by omega
                have hmk := HMk.out
                rw [List.take_of_length_le (Nat.le_refl _)] at hmk
                have hlb : (labs L k j).1 = l := by rw [HLb.out]
                have hlm : (labs L k j).2 = m := by rw [HLb.out]
                rw [← hlb, ← hlm] at hmk
                have hnew := hmk.labs HIO.out (by rw [hlb]; exact HF.out)
                rw [hlm] at hnew
                have HNew := Lib.hid hnew
                clear hmk hlb hlm hnew
                go_wp2
                go_roundw
                case rel => exact ⟨j + 1, by omega, by go_num, by rw [HNew.out], HB2, Lib.hid (by rw [HNew.out]; exact HBk2.out)⟩
                case measure => simp [intOf]; omega
          · have HF := Lib.hid hf
            go_wp2
            go_roundw
            case rel =>
              have e : labs L k (j + 1) = labs L k j := labs_old (by rw [HLb.out]; have := HF.out; omega)
              exact ⟨j + 1, by omega, by go_num, by rw [e, HLb.out], HB, by rw [e, HLb.out]; assumption⟩
            case measure => simp [intOf]; omega
        · obtain rfl : j = k := by omega
          go_wp2
          go_ret
          exact ⟨_, rfl, Own.shut HBk.out HG.out (by rw [labs_length]; exact HM.out) (by rw [labs_length]) (by rw [labs_length]), HB.out⟩
end Go.Proofs.Ytkghonhghbcdlaa
