/-
  The library's search in a slice of slices by a function value (slices.IndexFunc, slices.ContainsFunc), for whatever function that answers a plain Bool of the row.
-/
import Derived.Test.YtgmhnjccgldddaaI1
import Derived.Shelf.Abstract
namespace Go.Proofs.Ytgmhnjccgldddaa
set_option linter.unusedVariables false
set_option linter.unusedSimpArgs false
open Go.RowKit

/-- What is asked of the function value: at every row of the table, in every world in which all that lay lies as it lay, it answers p. -/
def Pays (w : World) (f : FuncId) (lb : Array Value) (t : List (List Int)) (p : List Int → Bool) : Prop :=
  ∀ W u r, Below w.heap.size w W → Ints W u r → r ∈ t → Calls Try.prog f (#[u] ++ lb) W (RVal W (.bool (p r)))

/-- The first row that meets p, or -1. -/
def firstBy (p : List Int → Bool) (t : List (List Int)) : Int := if t.any p then (t.findIdx p : Int) else -1

theorem firstBy_sign (p : List Int → Bool) (t : List (List Int)) : decide (0 ≤ firstBy p t) = t.any p := by
  unfold firstBy
  by_cases h : t.any p = true
  · rw [if_pos h, h]; simp
  · rw [if_neg h]; simp at h ⊢; exact h
theorem firstBy_hit {p : List Int → Bool} {t : List (List Int)} {k : Nat} (hk : k < t.length) (hn : ∀ r ∈ t.take k, p r = false) (hp : p (row t k) = true) : firstBy p t = k := by
  have ha : t.any p = true := List.any_eq_true.2 ⟨_, row_mem (t := t) (x := k) (by omega) (by omega), hp⟩
  unfold firstBy
  rw [if_pos ha]
  congr 1
  rw [row_nat _ _ hk] at hp
  rw [List.findIdx_eq hk]
  refine ⟨hp, fun j hj => ?_⟩
  have := hn t[j] (List.mem_take_iff_getElem.2 ⟨j, by omega, rfl⟩)
  simpa using this

set_option maxHeartbeats 400000 in
theorem c_IndexFunc (f : FuncId) (lb : Array Value) (p : List Int → Bool) (v : Value) (t : List (List Int)) (w : World) (hx : Rows w v t) (eg : ∀ args w, (callFunc f args).run Try.prog w = .ok (.enter f args) w) (hf : Pays w f lb t p) :
    Calls Try.prog 97 #[v, .func (.func f) #[] lb] w (RVal w (.int .i64 (firstBy p t))) := by
  obtain ⟨a, c, rfl, hc, hm⟩ := hx.shape
  go_enter Try.func97, Try.ntmps97
  go_wp2
  go_loopw [8] (fun i wr => ∃ k : Nat, k ≤ t.length ∧ i = .int .i64 k ∧ Below w.heap.size w wr ∧ Hid (∀ r ∈ t.take k, p r = false)) (fun i _ => t.length - (intOf i).toNat)
  case atStart => exact ⟨0, Nat.zero_le _, rfl, Below.refl _ _, Lib.hid (by simp)⟩
  case round =>
    obtain ⟨k, hk, rfl, hb, HA⟩ := hrel
    by_cases hlt : k < t.length
    · obtain ⟨b, o, u, rfl, hcell, hu⟩ := (hx.below hb).get k hlt
      have hpay := hf wr u _ hb hu (row_mem (t := t) (x := k) (by omega) (by omega))
      have Hp := Lib.hid hpay; clear hpay
      by_cases hp : p (row t k) = true
      · have HP := Lib.hid hp
        go_wp2_with fail
        refine Hp.out.mono ?_; rintro e w' ⟨rfl, hb'⟩
        have Hb := Lib.hid (bo hb hb'); clear hb hb' hu
        go_wp2
        go_ret
        exact ⟨ret_int (firstBy_hit hlt HA.out HP.out).symm, Hb.out⟩
      · have hp' : p (row t k) = false := by simpa using hp
        clear hp
        have HP := Lib.hid hp'
        go_wp2_with fail
        refine Hp.out.mono ?_; rintro e w' ⟨rfl, hb'⟩
        have Hb := Lib.hid (bo hb hb'); clear hb hb' hu
        go_wp2
        go_roundw
        case rel =>
          refine ⟨k + 1, by omega, by go_num, Hb.out, Lib.hid ?_⟩
          rw [take_snoc_row _ _ hlt]
          intro r hr
          rcases List.mem_append.1 hr with h | h
          · exact HA.out r h
          · simp at h; subst h; exact HP.out
        case measure => simp [intOf]; omega
    · have Hb := Lib.hid hb; clear hb
      go_wp2
      go_ret
      refine ⟨ret_int ?_, Hb.out⟩
      have h := HA.out
      rw [List.take_of_length_le (by omega)] at h
      unfold firstBy
      rw [if_neg]
      simpa using h

set_option maxHeartbeats 400000 in
theorem c_ContainsFunc (f : FuncId) (lb : Array Value) (p : List Int → Bool) (v : Value) (t : List (List Int)) (w : World) (hx : Rows w v t) (eg : ∀ args w, (callFunc f args).run Try.prog w = .ok (.enter f args) w) (hf : Pays w f lb t p) :
    Calls Try.prog 73 #[v, .func (.func f) #[] lb] w (RVal w (.bool (t.any p))) := by
  go_enter Try.func73, Try.ntmps73
  go_wp2_with fail
  refine (c_IndexFunc f lb p v t w hx eg hf).mono ?_; rintro e w' ⟨rfl, hb⟩
  have Hb := Lib.hid hb; clear hb
  have hp := firstBy_sign p t
  by_cases h : t.any p = true
  · rw [h] at hp
    have H := Lib.hid h; clear h
    have h0 : 0 ≤ firstBy p t := by simpa using hp
    clear hp
    go_wp2
    go_ret
    exact ⟨ret_bool (by rw [H.out]), Hb.out⟩
  · have h' : t.any p = false := by simpa using h
    rw [h'] at hp
    have H := Lib.hid h'; clear h h'
    have h0 : firstBy p t < 0 := by simpa using hp
    clear hp
    go_wp2
    go_ret
    exact ⟨ret_bool (by rw [H.out]; first | rfl | (simp; omega)), Hb.out⟩
end Go.Proofs.Ytgmhnjccgldddaa
