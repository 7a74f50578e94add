/-
  The text of a table: the program's function. Condition: a table.
-/
import Derived.Test.YtdhbleiioagmlaaI22
import Derived.Test.YtdhbleiioagmlaaJ1
namespace Go.Proofs.Ytdhbleiioagmlaa
open Go.RowKit

theorem ret_str {a b : ByteArray} (h : a = b) : Ending.returned (.string a) = Ending.returned (.string b) := by rw [h]
theorem inf_string : (Try.prog.info? 9).map (fun i => (i.zero, i.size, i.bytes)) = some (some (.string ⟨#[]⟩), 1, 16) := by kernel_rfl
set_option maxHeartbeats 1600000 in
theorem c_tableText (v : Value) (t : List (List Int)) (w : World) (hx : Rows w v t) (ht : isTab t = true) :
    Calls Try.prog 62 #[v] w (RVal w (.string (tabText t))) := by
  obtain ⟨a, c, rfl, hc, hm⟩ := hx.shape
  obtain ⟨h1, h12⟩ := isTab_len ht
  have HT := Lib.hid ht; clear ht
  have hmk := run_make_row' (P := Try.prog) 78 9 (.string ⟨#[]⟩) 16 Try.underlying78 inf_string rfl .i64 .i64 t.length (by omega) (by omega)
  have hb0 : Hid (Below w.heap.size w (w.alloc (.cells (madeCells #[.string ⟨#[]⟩] t.length) 9))) := Lib.hid ((Below.refl _ _).alloc (Nat.le_refl _) _)
  have hk0 : Hid (Blk (w.alloc (.cells (madeCells #[.string ⟨#[]⟩] t.length) 9)) w.heap.size 9 (((t.map textOf).take 0).map Value.string ++ (List.replicate t.length (Value.string ⟨#[]⟩)).drop 0)) := by
    have := Blk.made w (.string ⟨#[]⟩) t.length 9
    show Blk _ _ _ _
    simpa using this
  go_enter Try.func62, Try.ntmps62
  go_wp2
  clear hmk
  go_loopw [4, 5, 11] (fun _ _ i wr => ∃ k : Nat, k ≤ t.length ∧ i = .int .i64 k ∧ Hid (Below w.heap.size w wr) ∧ Hid (Blk wr w.heap.size 9 (((t.map textOf).take k).map Value.string ++ (List.replicate t.length (Value.string ⟨#[]⟩)).drop k))) (fun _ _ i _ => t.length - (intOf i).toNat)
  case atStart => exact ⟨0, Nat.zero_le _, rfl, hb0, hk0⟩
  case round =>
    clear hb0 hk0
    obtain ⟨k, hk, rfl, HB, HBk⟩ := hrel
    obtain ⟨wo, rfl⟩ : ∃ wo : World, wo = wr := ⟨_, rfl⟩
    by_cases hlt : k < t.length
    · obtain ⟨b, o, ra, rc, rfl, hcell, hu⟩ := (hx.below HB.out).getS k hlt
      have hrow := isTab_row HT.out (x := k) (by omega) (by omega)
      have hin : ∀ x ∈ row t k, 0 ≤ x ∧ x < 12 := fun x hx => by
        have := isTab_val HT.out (row_mem (t := t) (x := k) (by omega) (by omega)) hx
        omega
      have HU := Lib.hid hu; have HIn := Lib.hid hin
      have hrl : (row t k).length ≤ 1048576 := by omega
      clear hu hin hrow
      go_wp2_with fail
      refine (c_digitsText _ _ _ HU.out HIn.out hrl).mono ?_; rintro e w1 ⟨rfl, hb1⟩
      have hbk1 := HBk.out.under hb1
      have hcell1 := hbk1.cell (i := k) (by simp; omega)
      obtain ⟨z, hz⟩ : ∃ z, w1.cell? ⟨w.heap.size, k, none⟩ = some z := ⟨_, hcell1⟩
      have hfr := hbk1.frozen k
      have HB1 := Lib.hid (bb HB.out hb1)
      have hset := hbk1.set k (.string (textOf (row t k)))
      have hset2 : Hid (Blk (w1.setCell ⟨w.heap.size, k, none⟩ (.string (textOf (row t k)))) w.heap.size 9 (((t.map textOf).take (k + 1)).map Value.string ++ (List.replicate t.length (Value.string ⟨#[]⟩)).drop (k + 1))) := by
        show Blk _ _ _ _
        have hl : (((t.map textOf).take k).map Value.string).length = k := by simp; omega
        rw [List.set_append, if_neg (by omega), hl, Nat.sub_self, List.drop_eq_getElem_cons (by simpa using hlt)] at hset
        rw [List.take_succ_eq_append_getElem (by simpa using hlt), List.map_append, List.append_assoc]
        rw [row_nat _ _ hlt] at hset ⊢
        simpa using hset
      have HBk1 := hset2
      clear hb1 hbk1 hcell1 hset hset2 hcell
      go_wp2
      go_roundw
      case rel => exact ⟨k + 1, by omega, by go_num, Lib.hid (HB1.out.setCell (p := ⟨w.heap.size, k, none⟩) (Nat.le_refl _) _), HBk1⟩
      case measure => simp [intOf]; omega
    · obtain rfl : k = t.length := by omega
      have hbk := HBk.out
      rw [List.take_of_length_le (by simp), List.drop_eq_nil_of_le (by simp), List.append_nil] at hbk
      have hcells : Hid (∀ (j : Nat) (x : ByteArray), (t.map textOf)[j]? = some x → wo.cell? ⟨w.heap.size, 0 + j, none⟩ = some (.string x)) := by
        intro j x hj
        obtain ⟨hj1, rfl⟩ := List.getElem?_eq_some_iff.1 hj
        rw [Nat.zero_add, hbk.cell (by simpa using hj1)]
        simp
      have HLt := Lib.hid hbk.lt
      have hml : (t.map textOf).length = t.length := by simp
      have hjl : Hid ((Lib.join ((t.map textOf).map (·.data.toList)) [47]).length ≤ 140737488355328) := by
        have := tabText_size (t := t) (n := 12) (fun r hr => by
          obtain ⟨j, hj, rfl⟩ := List.getElem_of_mem hr
          have := isTab_row HT.out (x := j) (by omega) (by omega)
          rw [row_nat _ _ hj] at this; omega)
        have h3 := Nat.mul_le_mul h12 (show 12 + 1 ≤ 13 by omega)
        have e : (Lib.join ((t.map textOf).map (·.data.toList)) [47]).length = (tabText t).size := by
          unfold tabText
          rw [List.map_map]
          rfl
        show _ ≤ _
        rw [e]; omega
      have hj := Try.strings_Join w.heap.size 0 (t.map textOf).length (t.map textOf) ⟨#[47]⟩ wo hcells.out HLt.out (by rw [hml]; omega) (Nat.le_refl _) hjl.out
      rw [hml] at hj
      have HJ := Lib.hid hj
      clear hbk hj hml
      go_wp2_with fail
      refine HJ.out.mono ?_; rintro e w2 ⟨rfl, hb2⟩
      have HB2 := Lib.hid (bb HB.out hb2); clear hb2
      go_wp2
      go_ret
      refine ⟨ret_str ?_, HB2.out⟩
      unfold tabText
      rfl
end Go.Proofs.Ytdhbleiioagmlaa
