/-
  The renamed table: the program's and the reference's functions. Condition: a table and a permutation of its elements.
-/
import Derived.Test.YtgmhnjccgldddaaI3
namespace Go.Proofs.Ytgmhnjccgldddaa
set_option linter.unusedVariables false
set_option linter.unusedSimpArgs false
open Go.RowKit

/-- The renamed table: at x and y what p makes of the value at the places that p leads there. -/
def renL (t : List (List Int)) (p : List Int) : List (List Int) := tabOf t.length fun x y => nth p (val2 t (nth (invL p) x) (nth (invL p) y))
@[simp] theorem renL_length (t : List (List Int)) (p : List Int) : (renL t p).length = t.length := by simp [renL]
/-- What renaming asks. -/
def RenOk (t : List (List Int)) (p : List Int) : Prop := isTab t = true ∧ Permuted p ∧ p.length = t.length

theorem val2_lt {t : List (List Int)} (h : isTab t = true) {x y : Int} (hx0 : 0 ≤ x) (hx : x < t.length) (hy0 : 0 ≤ y) (hy : y < t.length) : 0 ≤ val2 t x y ∧ val2 t x y < t.length :=
  isTab_val h (row_mem hx0 hx) (nth_mem hy0 (by rw [isTab_row h hx0 hx]; exact hy))

theorem eg_renamed1 : ∀ args w, (callFunc 84 args).run Try.prog w = .ok (.enter 84 args) w := Go.Proofs.enters_of Try.func84 (by kernel_rfl) rfl


set_option maxHeartbeats 800000 in
theorem c_renamed1 (b1 b2 b3 : Nat) (v1 v2 v3 : Value) (t : List (List Int)) (p : List Int) (x y : Nat) (w : World) (hbox1 : w.cell? ⟨b1, 0, none⟩ = some v1) (hbox2 : w.cell? ⟨b2, 0, none⟩ = some v2) (hbox3 : w.cell? ⟨b3, 0, none⟩ = some v3)
    (hp : Ints w v1 p) (ht : Rows w v2 t) (hq : Ints w v3 (invL p)) (hok : RenOk t p) (hx : x < t.length) (hy : y < t.length) :
    Calls Try.prog 84 #[.int .i64 x, .int .i64 y, .pointer (some ⟨b1, 0, none⟩), .pointer (some ⟨b2, 0, none⟩), .pointer (some ⟨b3, 0, none⟩)] w
      (RVal w (.int .i64 (nth p (val2 t (nth (invL p) x) (nth (invL p) y))))) := by
  obtain ⟨htab, hperm, hlen⟩ := hok
  obtain ⟨a1, c1, rfl, _, _⟩ := hp.shape
  obtain ⟨a2, c2, rfl, _, _⟩ := ht.shape
  obtain ⟨a3, c3, rfl, _, _⟩ := hq.shape
  have hu := invL_lt hperm (y := x) (by omega) (by omega)
  have hv := invL_lt hperm (y := y) (by omega) (by omega)
  obtain ⟨b, o, rfl, k1⟩ := hq.get x (by simp; omega)
  have k2 := hq.at y (by simp; omega)
  generalize hgu : nth (invL p) x = u at *
  generalize hgv : nth (invL p) y = z at *
  have hlq : (invL p).length = t.length := by simp [hlen]
  have hxq : (x : Int) < p.length := by omega
  have hyq : (y : Int) < p.length := by omega
  have hx0 : (0 : Int) ≤ x := by omega
  have hy0 : (0 : Int) ≤ y := by omega
  obtain ⟨bt, ot, ra, rc, rfl, k3, hr⟩ := ht.getSi u hu.1 (by omega)
  have hrl := isTab_row htab hu.1 (by omega)
  have hzr : z < (row t u).length := by omega
  obtain ⟨br, or_, rfl, k4⟩ := hr.geti z hv.1 hzr
  have hval := val2_lt htab (x := u) (y := z) hu.1 (by omega) hv.1 (by omega)
  obtain ⟨bp, op, rfl, k5⟩ := hp.geti (val2 t u z) hval.1 (by omega)
  have e : nth (row t u) z = val2 t u z := rfl
  rw [e] at k4
  have hvp : val2 t u z < p.length := by omega
  obtain ⟨hu0, hu1⟩ := hu
  obtain ⟨hv0, hv1⟩ := hv
  obtain ⟨hw0, hw1⟩ := hval
  have hut : u < t.length := by omega
  generalize val2 t u z = s at *
  clear hgu hgv hp ht hq htab hperm hr e hrl hlq hlen
  go_enter Try.func84, Try.ntmps84
  go_wp2
  go_quiet (fail)
  go_wp2
  go_ret
  exact ⟨rfl, below_drewN (Below.refl _ _) _⟩

set_option maxHeartbeats 800000 in
theorem c_renamed (v1 v2 : Value) (t : List (List Int)) (p : List Int) (w : World) (ht : Rows w v1 t) (hp : Ints w v2 p) (hok : RenOk t p) :
    Calls Try.prog 62 #[v1, v2] w (RRows w (renL t p)) := by
  obtain ⟨a, c, rfl, _, _⟩ := ht.shape
  obtain ⟨a2, c2, rfl, _, _⟩ := hp.shape
  have hl := isTab_len hok.1
  obtain ⟨f0, f1, hW0, hsz⟩ := boxes2' w [.slice a t.length c] [.slice a2 p.length c2] 22 26
  have eg := eg_renamed1
  have hr : ∀ x ∈ p, 0 ≤ x ∧ x < p.length := hok.2.1.2
  have hn : p.length ≤ 1048576 := by have := hok.2.2; omega
  have hn2 : t.length ≤ 1048576 := by omega
  have hsz1 : w.heap.size + 2 ≤ ((w.alloc (.cells #[.slice a t.length c] 22)).alloc (.cells #[.slice a2 p.length c2] 26)).heap.size := by omega
  obtain ⟨W, hW⟩ : ∃ W, (w.alloc (.cells #[.slice a t.length c] 22)).alloc (.cells #[.slice a2 p.length c2] 26) = W := ⟨_, rfl⟩
  have HW := Lib.hid hW; have HOK := Lib.hid hok; have HR := Lib.hid hr
  clear hW hsz hok hr hl
  go_enter Try.func62, Try.ntmps62
  go_wp2_with fail
  rw [HW.out] at f0 f1 hW0 hsz1 ⊢
  refine (c_inverse _ _ _ (hp.below hW0) HR.out hn).mono ?_; rintro e w1 ⟨q, rfl, ho, hb1⟩
  obtain ⟨qa, qc, hqv, _⟩ := ho.shape
  rw [invL_length] at hqv
  subst hqv
  obtain ⟨f2, hb2, hz2⟩ := boxes1' w1 [.slice qa p.length qc] 26
  have hpay : Pays2 (w1.alloc (.cells #[.slice qa p.length qc] 26)) 84 #[.pointer (some ⟨w.heap.size + 1, 0, none⟩), .pointer (some ⟨w.heap.size, 0, none⟩), .pointer (some ⟨w1.heap.size, 0, none⟩)] t.length
      (fun x y => nth p (val2 t (nth (invL p) x) (nth (invL p) y))) := fun W' x y hb h1 h2 =>
    c_renamed1 (w.heap.size + 1) w.heap.size w1.heap.size _ _ _ t p x y W' ((((f1.under hb1).under hb2).under hb).cell (i := 0) (by simp)) ((((f0.under hb1).under hb2).under hb).cell (i := 0) (by simp)) ((f2.under hb).cell (i := 0) (by simp))
      (((hp.below hW0).below hb1).below (bb hb2 hb)) (((ht.below hW0).below hb1).below (bb hb2 hb)) (ho.ints.below (bb hb2 hb)) HOK.out h1 h2
  have g0 := ((f0.under hb1).under hb2).cell (i := 0) (by simp)
  simp only [List.getElem_cons_zero] at g0
  have HP := Lib.hid hpay; have HB := Lib.hid (bb (bb hW0 hb1) hb2)
  clear hpay hb1 hb2 hz2 f0 f1 f2 ho hW0 ht hp hsz1
  go_wp2_with fail
  refine (c_tableBy t.length _ _ _ _ hn2 eg HP.out).mono ?_; rintro e w' ⟨r, rfl, ho, hb⟩
  have HO := Lib.hid (ho.mono HB.out.size); have HB2 := Lib.hid (bb HB.out hb); clear ho hb
  go_wp2
  go_ret
  exact ⟨r, rfl, HO.out, HB2.out⟩
end Go.Proofs.Ytgmhnjccgldddaa
