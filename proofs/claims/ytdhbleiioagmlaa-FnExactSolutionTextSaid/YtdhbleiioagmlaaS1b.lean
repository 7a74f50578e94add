/-
  What the reference's functions on texts of lists return (layer 1).
-/
import Derived.Test.YtdhbleiioagmlaaI1
import Derived.Test.YtdhbleiioagmlaaS1
import Derived.Test.YtdhbleiioagmlaaP2
namespace Go.Proofs.Ytdhbleiioagmlaa
open Go.RowKit

/-- 'string(b)', b a slice over a block that the call itself has made. -/
theorem convert_blk (w : World) (b n c : Nat) (xs : List Int) (cs : List Value) (h : Blk w b 5 (xs.map (Value.int .u8) ++ cs)) (hn : n = xs.length) :
    (convert 90 9 (.slice (some ⟨b, 0, none⟩) n c)).run Try.prog w = .ok (.string (strOfNums xs)) w := by
  subst hn
  refine run_convert_bytes_arg (P := Try.prog) w 90 5 Try.underlying90 Try.underlying5 b 0 xs.length c xs rfl (fun i hi => ?_) 9 Try.underlying9
  rw [Nat.zero_add, h.cell (by simp; omega)]
  simp [List.getElem_append, hi]

set_option maxHeartbeats 400000 in
theorem c_l01Digit (x : Int) (w : World) (h0 : 0 ≤ x) (h1 : x < 12) :
    Calls Try.prog 115 #[.int .i64 x] w (RVal w (.string (strOfNums [digit x]))) := by
  have hb : Below w.heap.size w (w.alloc (.cells #[.int .u8 (digit x)] 5)) := (Below.refl _ _).alloc (Nat.le_refl _) _
  have hcv := convert_blk (w.alloc (.cells #[.int .u8 (digit x)] 5)) w.heap.size 1 1 [digit x] [] (Blk.new w [.int .u8 (digit x)] 5) rfl
  by_cases h : x < 10
  · have hd : digit x = 48 + x := by simp [digit, h]
    rw [hd] at hcv hb ⊢
    have HB := Lib.hid hb; clear hb hd
    go_enter Try.func115, Try.ntmps115
    go_wp2
    go_ret
    exact ⟨rfl, HB.out⟩
  · have hd : digit x = 97 + x - 10 := by simp [digit, h]; omega
    rw [hd] at hcv hb ⊢
    have HB := Lib.hid hb; clear hb hd
    go_enter Try.func115, Try.ntmps115
    go_wp2
    go_ret
    exact ⟨rfl, HB.out⟩

theorem textOf_snoc (p : List Int) (k : Nat) (h : k < p.length) : textOf (p.take k) ++ strOfNums [digit (nth p k)] = textOf (p.take (k+1)) := by
  unfold textOf
  rw [take_snoc _ _ h, ← strOfNums_append, List.map_append]
  rfl
theorem textOf_size (p : List Int) : (textOf p).size = p.length := by simp [textOf, strOfNums_size]
theorem num1_size (x : Int) : (strOfNums [x]).size = 1 := by simp [strOfNums_size]

set_option maxHeartbeats 400000 in
theorem c_l01Line (v : Value) (xs : List Int) (w : World) (hx : Ints w v xs) (hr : ∀ x ∈ xs, 0 ≤ x ∧ x < 12) (hn : xs.length ≤ 1048576) :
    Calls Try.prog 92 #[v] w (RVal w (.string (textOf xs))) := by
  obtain ⟨a, c, rfl, hc, hm⟩ := hx.shape
  have HR := Lib.hid hr; clear hr
  go_enter Try.func92, Try.ntmps92
  go_wp2
  go_loopw [3, 4] (fun t i wr => ∃ k : Nat, k ≤ xs.length ∧ i = .int .i64 k ∧ t = .string (textOf (xs.take k)) ∧ Below w.heap.size w wr) (fun _ i _ => xs.length - (intOf i).toNat)
  case atStart => exact ⟨0, Nat.zero_le _, rfl, rfl, Below.refl _ _⟩
  case round =>
    obtain ⟨k, hk, rfl, rfl, hb⟩ := hrel
    by_cases hlt : k < xs.length
    · obtain ⟨b, o, rfl, hcell⟩ := (hx.below hb).get k hlt
      have hr1 := HR.out _ (nth_mem (p := xs) (x := k) (by omega) (by omega))
      have hs1 : (textOf (xs.take k)).size ≤ 1048576 := by rw [textOf_size]; simp; omega
      have hs2 : (strOfNums [digit (nth xs k)]).size ≤ 1 := by rw [num1_size]; omega
      go_wp2_with fail
      refine (c_l01Digit _ _ hr1.1 hr1.2).mono ?_; rintro e w' ⟨rfl, hb'⟩
      have HB := Lib.hid (bo hb hb'); clear hb hb' hcell hr1
      go_wp2
      go_roundw
      case rel => exact ⟨k + 1, by omega, by go_num, by rw [textOf_snoc _ _ hlt], HB.out⟩
      case measure => simp [intOf]; omega
    · have HB := Lib.hid hb; clear hb
      go_wp2
      go_ret
      exact ⟨congrArg (fun l => Ending.returned (.string (textOf l))) (List.take_of_length_le (by omega)), HB.out⟩

theorem inf_uint8 : (Try.prog.info? 5).map (fun i => (i.zero, i.size, i.bytes)) = some (some (.int .u8 0), 1, 1) := by kernel_rfl

theorem digits_const (x : Int) (h0 : 0 ≤ x) (h1 : x < 12) (t : TypeId) (ht : Try.prog.underlying t = some .string) (w : World) :
    (Instr.index t (.string ⟨#[48, 49, 50, 51, 52, 53, 54, 55, 56, 57, 97, 98]⟩) (.int .i64 x)).run Try.prog w = .ok (.int .u8 (digit x)) w := by
  have : x = 0 ∨ x = 1 ∨ x = 2 ∨ x = 3 ∨ x = 4 ∨ x = 5 ∨ x = 6 ∨ x = 7 ∨ x = 8 ∨ x = 9 ∨ x = 10 ∨ x = 11 := by omega
  rcases this with rfl | rfl | rfl | rfl | rfl | rfl | rfl | rfl | rfl | rfl | rfl | rfl <;> simp [digit, ht, go_sem] <;> rfl

theorem dig_set (xs : List Int) (k : Nat) (h : k < xs.length) (r : List Value) (hr : r.length = xs.length) :
    (((xs.take k).map digit).map (Value.int .u8) ++ r.drop k).set k (.int .u8 (digit (nth xs k))) = ((xs.take (k+1)).map digit).map (Value.int .u8) ++ r.drop (k+1) := by
  have hlk : (((xs.take k).map digit).map (Value.int .u8)).length = k := by simp; omega
  rw [List.set_append, if_neg (by omega), hlk, Nat.sub_self, List.drop_eq_getElem_cons (by omega : k < r.length), take_snoc _ _ h]
  simp only [List.set_cons_zero, List.map_append, List.map_cons, List.map_nil, List.append_assoc, List.cons_append, List.nil_append]

set_option maxHeartbeats 400000 in
theorem c_digitsText (v : Value) (xs : List Int) (w : World) (hx : Ints w v xs) (hr : ∀ x ∈ xs, 0 ≤ x ∧ x < 12) (hn : xs.length ≤ 1048576) :
    Calls Try.prog 97 #[v] w (RVal w (.string (textOf xs))) := by
  obtain ⟨a, c, rfl, hc, hm⟩ := hx.shape
  have HR := Lib.hid hr; clear hr
  have hmk := run_make_row' (P := Try.prog) 90 5 (.int .u8 0) 1 Try.underlying90 inf_uint8 rfl .i64 .i64 xs.length (by omega) (by omega)
  go_enter Try.func97, Try.ntmps97
  go_wp2
  have hB0 : Below w.heap.size w (w.alloc (.cells (madeCells #[.int .u8 0] xs.length) 5)) := (Below.refl _ _).alloc (Nat.le_refl _) _
  have hK0 : Blk (w.alloc (.cells (madeCells #[.int .u8 0] xs.length) 5)) w.heap.size 5 (((xs.take 0).map digit).map (Value.int .u8) ++ (List.replicate xs.length (Value.int .u8 0)).drop 0) := by
    simpa using Blk.made w (.int .u8 0) xs.length 5
  clear hmk
  go_loopw [11] (fun i wr => ∃ k : Nat, k ≤ xs.length ∧ i = .int .i64 k ∧ Below w.heap.size w wr ∧ Blk wr w.heap.size 5 (((xs.take k).map digit).map (Value.int .u8) ++ (List.replicate xs.length (Value.int .u8 0)).drop k)) (fun i _ => xs.length - (intOf i).toNat)
  case atStart => exact ⟨0, Nat.zero_le _, rfl, hB0, hK0⟩
  case round =>
    clear hB0 hK0
    obtain ⟨k, hk, rfl, hb, hblk⟩ := hrel
    by_cases hlt : k < xs.length
    · obtain ⟨b, o, rfl, hcell⟩ := (hx.below hb).get k hlt
      have hr1 := HR.out _ (nth_mem (p := xs) (x := k) (by omega) (by omega))
      have hix := digits_const (nth xs k) hr1.1 hr1.2 9 Try.underlying9
      have h2 : ∃ u, wr.cell? ⟨w.heap.size, k, none⟩ = some u := ⟨_, hblk.cell (by simp; omega)⟩
      obtain ⟨u, h2⟩ := h2
      have h3 := hblk.frozen k
      have Hb := Lib.hid hb; have Hblk := Lib.hid hblk; clear hb hblk
      go_wp2
      go_roundw
      case rel =>
        refine ⟨k + 1, by omega, by go_num, Hb.out.setCell (p := ⟨w.heap.size, k, none⟩) (Nat.le_refl _) _, ?_⟩
        have := Hblk.out.set k (.int .u8 (digit (nth xs k)))
        rwa [dig_set _ _ hlt _ (by simp)] at this
      case measure => simp [intOf]; omega
    · obtain rfl : k = xs.length := by omega
      have hcv := convert_blk wr w.heap.size xs.length xs.length (xs.map digit) [] (by simpa using hblk) (by simp)
      have Hb := Lib.hid hb; clear hb hblk
      go_wp2
      go_ret
      exact ⟨rfl, Hb.out⟩
end Go.Proofs.Ytdhbleiioagmlaa
