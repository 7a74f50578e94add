/-
  Sets of elements of a pair map and whether they are closed: the program's and the reference's functions. Conditions: a pair map; for 'closed': a set of its elements.
-/
import Derived.Test.YtgmhnjccgldddaaT1
import Derived.Test.YtgmhnjccgldddaaS1c
namespace Go.Proofs.Ytgmhnjccgldddaa
set_option linter.unusedVariables false
set_option linter.unusedSimpArgs false
open Go.RowKit

def setOk (n : Int) (l : List Int) : Bool := decide (0 < l.length) && (l.all fun x => inR x 0 (n - 1)) && incr l
theorem setOk_in {n : Int} {l : List Int} (h : setOk n l = true) {k : Nat} (hk : k < l.length) : 0 ≤ nth l k ∧ nth l k < n := by
  simp only [setOk, Bool.and_eq_true, List.all_eq_true] at h
  have := h.1.2 _ (nth_mem (p := l) (x := k) (by omega) (by omega))
  simp [inR] at this; omega
theorem setOk_len {n : Int} {l : List Int} (h : setOk n l = true) : 0 < l.length ∧ (l.length : Int) ≤ n := by
  have h' := h
  simp only [setOk, Bool.and_eq_true, decide_eq_true_eq] at h'
  refine ⟨h'.1.1, ?_⟩
  have hi := (incr_iff l).1 h'.2
  have hge : ∀ i : Nat, i < l.length → (i : Int) ≤ nth l i := by
    intro i
    induction i with
    | zero => intro hi; exact (setOk_in h (k := 0) hi).1
    | succ i ih =>
      intro h1
      have h2 := ih (by omega)
      have h3 := hi i h1
      have e : ((i + 1 : Nat) : Int) = (i : Int) + 1 := by omega
      rw [e]; omega
  have h1 := hge (l.length - 1) (by omega)
  have h2 := (setOk_in h (k := l.length - 1) (by omega)).2
  omega
def closF (A B : List (List Int)) (l : List Int) (a b : Nat) : Bool := decide (val2 A (nth l a) (nth l b) ∈ l) && decide (val2 B (nth l a) (nth l b) ∈ l)
def closL (A B : List (List Int)) (l : List Int) : Bool := all2 l.length (closF A B l)


set_option maxHeartbeats 400000 in
theorem c_slIndex (v : Value) (xs : List Int) (x : Int) (w : World) (hx : Ints w v xs) :
    Calls Try.prog 76 #[v, .int .i64 x] w fun e w' => e = .returned (.int .i64 (idx xs x)) ∧ w = w' := by
  obtain ⟨a, c, rfl, hc, hm⟩ := hx.shape
  go_enter Try.func76, Try.ntmps76
  go_wp2
  go_loop [8] (fun i => ∃ k : Nat, k ≤ xs.length ∧ i = .int .i64 k ∧ Hid (¬ x ∈ xs.take k)) (fun i => xs.length - (intOf i).toNat)
  case atStart => exact ⟨0, Nat.zero_le _, rfl, Lib.hid (by simp)⟩
  case round =>
    obtain ⟨k, hk, rfl, HA⟩ := hrel
    by_cases hlt : k < xs.length
    · obtain ⟨b, o, rfl, hcell⟩ := hx.get k hlt
      by_cases he : nth xs k = x
      · have he1 : (x == nth xs k) = true := by simp [he]
        have HE := Lib.hid he; clear he
        go_wp2
        go_ret
        exact ⟨ret_int (idx_first hlt HE.out HA.out).symm, rfl⟩
      · have he1 : (x == nth xs k) = false := by simp [Ne.symm he]
        have HE := Lib.hid he; clear he
        go_wp2
        go_round
        case rel =>
          refine ⟨k + 1, by omega, by go_num, Lib.hid ?_⟩
          rw [take_snoc _ _ hlt]
          intro hm
          rcases List.mem_append.1 hm with hm | hm
          · exact HA.out hm
          · simp at hm; exact HE.out hm.symm
        case measure => simp [intOf]; omega
    · go_wp2
      go_ret
      refine ⟨ret_int ?_, rfl⟩
      have := HA.out
      rw [List.take_of_length_le (by omega)] at this
      exact (idx_none this).symm





theorem quiet_left {P : Program} {f : FuncId} {args : Array Value} {w : World} {n : Nat} {v : Value}
    (h : Calls P f args (w.drewN n) fun e w' => e = .returned v ∧ w.drewN n = w') : Calls P f args (w.drewN n) fun e w'' => e = .returned v ∧ ∃ m, w'' = w.drewN m :=
  h.mono fun _ _ ⟨he, hm⟩ => ⟨he, n, hm.symm⟩


theorem setOk_no1 {n : Int} {l : List Int} {k : Nat} (hk : k < l.length) (h : inR (nth l k) 0 (n - 1) = false) : setOk n l = false := by
  have : (l.all fun x => inR x 0 (n - 1)) = false := List.all_eq_false.2 ⟨_, nth_mem (p := l) (x := k) (by omega) (by omega), by simp [h]⟩
  simp only [setOk, this, Bool.and_false, Bool.false_and]
theorem setOk_no2 {n : Int} {l : List Int} {k : Nat} (hk : k + 1 < l.length) (h : nth l ((k : Int) + 1) ≤ nth l k) : setOk n l = false := by
  have : incr l = false := by
    rw [Bool.eq_false_iff, ne_eq, incr_iff]
    intro hall
    have := hall k hk
    omega
  simp only [setOk, this, Bool.and_false]
theorem setOk_yes {n : Int} {l : List Int} (h1 : ∀ k, k < l.length → inR (nth l k) 0 (n - 1) = true) (h2 : ∀ k, k + 1 < l.length → nth l k < nth l ((k : Int) + 1)) : setOk n l = decide (0 < l.length) := by
  have e1 : (l.all fun x => inR x 0 (n - 1)) = true := by
    refine List.all_eq_true.2 fun x hx => ?_
    obtain ⟨k, hk, rfl⟩ := List.getElem_of_mem hx
    have := h1 k hk
    rwa [nth_nat _ _ hk] at this
  have e2 : incr l = true := (incr_iff l).2 h2
  simp only [setOk, e1, e2, Bool.and_true]


def setCode (A B : List (List Int)) (L : List Int) : Int := if isPM A B then (if setOk A.length L then 0 else 2) else 1
end Go.Proofs.Ytgmhnjccgldddaa
