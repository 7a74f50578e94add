/-
  The text of a table: the reference's function. Condition: a table.
-/
import Derived.Test.YtdhbleiioagmlaaT1
import Derived.Test.YtdhbleiioagmlaaS1b
import Derived.Lib.Join
namespace Go.Proofs.Ytdhbleiioagmlaa
open Go.RowKit

def tabText (t : List (List Int)) : ByteArray := ⟨(Lib.join (t.map fun r => (textOf r).data.toList) [47]).toArray⟩
theorem join_snoc (x : List UInt8) (r : List (List UInt8)) (y sep : List UInt8) : Lib.join (x :: (r ++ [y])) sep = Lib.join (x :: r) sep ++ (sep ++ y) := by
  rw [Lib.join_cons, Lib.join_cons]
  simp [Lib.joinTail, List.append_assoc]
theorem tabText_nil : tabText [] = ⟨#[]⟩ := rfl
theorem tabText_one (r : List Int) : tabText [r] = textOf r := by
  unfold tabText
  rw [List.map_cons, List.map_nil, Lib.join_one]
theorem tabText_snoc {t : List (List Int)} {k : Nat} (hk : k < t.length) (h0 : 0 < k) : tabText (t.take (k + 1)) = tabText (t.take k) ++ ⟨#[47]⟩ ++ textOf (row t k) := by
  rw [take_snoc_row _ _ hk]
  obtain ⟨a, s, hs⟩ : ∃ a s, t.take k = a :: s := by
    cases h : t.take k with
    | nil =>
      have := congrArg List.length h
      rw [List.length_take, List.length_nil] at this
      omega
    | cons a s => exact ⟨a, s, rfl⟩
  rw [hs]
  unfold tabText
  rw [List.cons_append, List.map_cons, List.map_append, List.map_cons, List.map_nil, join_snoc, List.map_cons]
  apply ByteArray.ext
  simp [ByteArray.data_append]
theorem joinTail_len (n : Nat) : ∀ (r : List (List UInt8)), (∀ x ∈ r, x.length ≤ n) → (Lib.joinTail [47] r).length ≤ r.length * (n + 1)
  | [], _ => by simp [Lib.joinTail]
  | x :: r, h => by
    have ih := joinTail_len n r (fun y hy => h y (by simp [hy]))
    have h1 := h x (by simp)
    have e : (Lib.joinTail [47] (x :: r)).length = 1 + x.length + (Lib.joinTail [47] r).length := by simp [Lib.joinTail]; omega
    rw [e, List.length_cons, Nat.add_mul]
    omega
theorem tabText_size {t : List (List Int)} {n : Nat} (h : ∀ r ∈ t, r.length ≤ n) : (tabText t).size ≤ t.length * (n + 1) := by
  cases t with
  | nil => exact Nat.zero_le _
  | cons a t =>
    have ht : ∀ x ∈ t.map (fun r => (textOf r).data.toList), x.length ≤ n := by
      intro x hx
      obtain ⟨r, hr, rfl⟩ := List.mem_map.1 hx
      have := h r (by simp [hr])
      have e : (textOf r).data.toList.length = (textOf r).size := rfl
      rw [e, textOf_size]; exact this
    have h1 := joinTail_len n _ ht
    have h2 : (textOf a).data.toList.length ≤ n := by
      have e : (textOf a).data.toList.length = (textOf a).size := rfl
      rw [e, textOf_size]; exact h a (by simp)
    have e : (tabText (a :: t)).size = (textOf a).data.toList.length + (Lib.joinTail [47] (t.map fun r => (textOf r).data.toList)).length := by
      unfold tabText
      rw [List.map_cons, Lib.join_cons]
      show (List.toArray _).size = _
      simp
    rw [e, List.length_cons, Nat.add_mul]
    rw [List.length_map] at h1
    omega

set_option maxHeartbeats 800000 in
theorem c_l01Text (v : Value) (t : List (List Int)) (w : World) (hx : Rows w v t) (ht : isTab t = true) :
    Calls Try.prog 60 #[v] w (RVal w (.string (tabText t))) := by
  obtain ⟨a, c, rfl, hc, hm⟩ := hx.shape
  obtain ⟨h1, h12⟩ := isTab_len ht
  have HT := Lib.hid ht; clear ht
  go_enter Try.func60, Try.ntmps60
  go_wp2
  go_loopw [3, 4] (fun s i wr => ∃ k : Nat, k ≤ t.length ∧ i = .int .i64 k ∧ s = .string (tabText (t.take k)) ∧ Below w.heap.size w wr) (fun _ i _ => t.length - (intOf i).toNat)
  case atStart => exact ⟨0, Nat.zero_le _, rfl, rfl, Below.refl _ _⟩
  case round =>
    obtain ⟨k, hk, rfl, rfl, hb⟩ := hrel
    obtain ⟨wo, rfl⟩ : ∃ wo : World, wo = wr := ⟨_, rfl⟩
    by_cases hlt : k < t.length
    · obtain ⟨b, o, ra, rc, rfl, hcell, hu⟩ := (hx.below hb).getS k hlt
      have hrow := isTab_row HT.out (x := k) (by omega) (by omega)
      have hin : ∀ x ∈ row t k, 0 ≤ x ∧ x < 12 := fun x hx => by
        have := isTab_val HT.out (row_mem (t := t) (x := k) (by omega) (by omega)) hx
        omega
      have hs1 : (tabText (t.take k)).size ≤ 1048576 := by
        have := tabText_size (t := t.take k) (n := 12) (fun r hr => by
          obtain ⟨j, hj, rfl⟩ := List.getElem_of_mem (List.mem_of_mem_take hr)
          have := isTab_row HT.out (x := j) (by omega) (by omega)
          rw [row_nat _ _ hj] at this; omega)
        rw [List.length_take] at this
        have h3 := Nat.mul_le_mul (show min k t.length ≤ 12 by omega) (show 12 + 1 ≤ 13 by omega)
        omega
      have hs2 : (textOf (row t k)).size ≤ 12 := by rw [textOf_size]; omega
      have hs3 : (tabText (t.take k) ++ ⟨#[47]⟩).size ≤ 1048577 := by rw [ByteArray.size_append]; have : (ByteArray.mk #[47]).size = 1 := rfl; omega
      have HU := Lib.hid hu; have Hb := Lib.hid hb; have HIn := Lib.hid hin
      have hrl : (row t k).length ≤ 1048576 := by omega
      clear hu hb hin hrow
      by_cases h0 : k = 0
      · have hk0 : (k : Int) ≤ 0 := by omega
        have hstep : tabText (t.take k) ++ textOf (row t k) = tabText (t.take (k + 1)) := by
          subst h0
          rw [take_snoc_row _ _ hlt, List.take_zero, List.nil_append, tabText_one, tabText_nil]
          apply ByteArray.ext
          simp [ByteArray.data_append]
        have HStep := Lib.hid hstep; clear hstep h0
        go_wp2_with fail
        refine (c_l01Line _ _ _ HU.out HIn.out hrl).mono ?_; rintro e w' ⟨rfl, hb'⟩
        have HB := Lib.hid (bb Hb.out hb'); clear hb' hcell
        go_wp2
        go_roundw
        case rel => exact ⟨k + 1, by omega, by go_num, by rw [← HStep.out], HB.out⟩
        case measure => simp [intOf]; omega
      · have hk0 : (0 : Int) < k := by omega
        have HStep := Lib.hid (tabText_snoc hlt (by omega))
        clear h0
        go_wp2_with fail
        refine (c_l01Line _ _ _ HU.out HIn.out hrl).mono ?_; rintro e w' ⟨rfl, hb'⟩
        have HB := Lib.hid (bb Hb.out hb'); clear hb' hcell
        go_wp2
        go_roundw
        case rel => exact ⟨k + 1, by omega, by go_num, by rw [HStep.out], HB.out⟩
        case measure => simp [intOf]; omega
    · have HB := Lib.hid hb; clear hb
      obtain rfl : k = t.length := by omega
      go_wp2
      go_ret
      exact ⟨congrArg (fun l => Ending.returned (.string (tabText l))) (List.take_of_length_le (by omega)), HB.out⟩
end Go.Proofs.Ytdhbleiioagmlaa
