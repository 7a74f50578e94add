/-
  What the law FnSolutionForms is proved of.
-/
import Derived.Test.YtgmhnjccgldddaaS1c
import Derived.Test.YtgmhnjccgldddaaT2
import Derived.Test.YtgmhnjccgldddaaLTables
import Derived.Test.YtgmhnjccgldddaaI14
import Derived.Test.YtgmhnjccgldddaaI20
import Derived.Test.YtgmhnjccgldddaaS2b
import Derived.Test.YtgmhnjccgldddaaLIsInvolutive
import Derived.Test.YtgmhnjccgldddaaRows
import Derived.Test.YtgmhnjccgldddaaBase
import Derived.ProofKit
import Derived.OpenShut
import Derived.ShutString
import Derived.ChangeOld
import Derived.Lib.SmallJoins
import Derived.Deep.Slices
import Derived.Test.YtgmhnjccgldddaaLawC
import Derived.Test.YtgmhnjccgldddaaLawB
import Derived.Test.YtgmhnjccgldddaaI1c
import Derived.Test.YtgmhnjccgldddaaD3
import Derived.Test.YtgmhnjccgldddaaP5
import Derived.Test.YtgmhnjccgldddaaS2a
import Derived.Test.YtgmhnjccgldddaaS1
import Derived.Test.YtgmhnjccgldddaaD2
import Derived.Deep.RegionHeld3
import Derived.Test.YtgmhnjccgldddaaI3d
import Derived.Test.YtgmhnjccgldddaaA1
import Derived.Test.YtgmhnjccgldddaaP6
import Derived.Test.YtgmhnjccgldddaaI6
import Derived.StillTailTactics
import Derived.Test.YtgmhnjccgldddaaI24
import Derived.Test.YtgmhnjccgldddaaI3c
import Derived.Deep.RegionLaw
import Derived.RangeFuncNested
import Derived.RangeFuncBound
import Derived.RangeFuncCalls
import Derived.RangeFuncLeaves
import Derived.Shelf.Abstract
import Derived.Shelf.RegionOpen
import Derived.OwnWalkIn
import Derived.TacticsInMore
import Derived.LoopNIn
import Derived.LoopIn
import Derived.RegionTactic
import Derived.BigRegion
import Derived.ChangeAlike
import Derived.Test.YtgmhnjccgldddaaI4
import Derived.Test.YtgmhnjccgldddaaI1
namespace Go.Proofs.Ytgmhnjccgldddaa
set_option linter.unusedVariables false
set_option linter.unusedSimpArgs false
open Go.RowKit

end Go.Proofs.Ytgmhnjccgldddaa

namespace Go.Proofs.Ytgmhnjccgldddaa
set_option linter.unusedVariables false
set_option linter.unusedSimpArgs false
open Go.RowKit

def twOk (p q : List Int) : Bool := isPerm p && isPerm q && decide (p.length = q.length)
def twCm (p q : List Int) : Bool := decide (thenL p q = thenL q p)
def twRA (p q : List Int) : List (List Int) := if twOk p q && twCm p q then twA p else []
def twRB (p q : List Int) : List (List Int) := if twOk p q && twCm p q then twB p q else []
def twCode (p q : List Int) : Int := if twOk p q then (if twCm p q then 0 else 5) else 2
theorem twOk_of {p q : List Int} (h1 : isPerm p = true) (h2 : isPerm q = true) (h3 : p.length = q.length) : twOk p q = true := by simp [twOk, h1, h2, h3]
theorem twOk_no1 {p q : List Int} (h1 : isPerm p = false) : twOk p q = false := by simp [twOk, h1]
theorem twOk_no2 {p q : List Int} (h1 : isPerm q = false) : twOk p q = false := by simp [twOk, h1]
theorem twOk_no3 {p q : List Int} (h1 : p.length ≠ q.length) : twOk p q = false := by simp [twOk, h1]
theorem perm_inT {xs : List Int} (h : isPerm xs = true) : (∀ x ∈ xs, 0 ≤ x ∧ x < xs.length) ∧ xs.length ≤ 12 := by
  simp [isPerm, inR] at h; exact ⟨h.2.2, by omega⟩


theorem tw_total (p q : List Int) : total (twRA p q) ≤ 144 ∧ total (twRB p q) ≤ 144 := by
  unfold twRA twRB
  split
  · rename_i h
    have hl : p.length ≤ 12 := by simp [twOk, isPerm, inR] at h; omega
    have h1 := total_le _ (tab_rows (g := fun _ y => nth p y) hl)
    have h2 := total_le _ (tab_rows (g := fun x _ => nth q x) hl)
    rw [tabOf_length] at h1 h2
    unfold twA twB
    omega
  · simp [total]
end Go.Proofs.Ytgmhnjccgldddaa

namespace Go.Proofs.Ytgmhnjccgldddaa
set_option linter.unusedVariables false
set_option linter.unusedSimpArgs false
open Go.RowKit

theorem val2_tabOf' {n : Nat} {g : Int → Int → Int} {x y : Int} (hx0 : 0 ≤ x) (hx : x < n) (hy0 : 0 ≤ y) (hy : y < n) : val2 (tabOf n g) x y = g x y := by
  show nth (row (tabOf n g) x) y = _
  rw [row_tabOfi _ _ _ hx0 hx, nth_rowOfi _ _ _ hy0 hy]
theorem perm_lt {p : List Int} (h : Permuted p) {x : Int} (h0 : 0 ≤ x) (h1 : x < p.length) : 0 ≤ nth p x ∧ nth p x < p.length := h.2 _ (nth_mem h0 h1)
theorem perm_inj {p : List Int} (h : Permuted p) {x y : Int} (h0 : 0 ≤ x) (h1 : x < p.length) (g0 : 0 ≤ y) (g1 : y < p.length) (e : nth p x = nth p y) : x = y := by
  rw [← nth_invL h h0 h1, e, nth_invL h g0 g1]
theorem isPerm_parts {p : List Int} (h : isPerm p = true) : 1 ≤ p.length ∧ p.length ≤ 12 ∧ Permuted p := by
  simp only [isPerm, Bool.and_eq_true, inR, decide_eq_true_eq] at h
  exact ⟨by omega, by omega, h.2⟩

section
variable {p q : List Int} (hp : Permuted p) (hq : Permuted q) (hl : q.length = p.length) (h1 : 1 ≤ p.length) (h12 : p.length ≤ 12)
include hp hq hl h1 h12
omit hp hq hl h1 h12 in
theorem tw_A0 {x y : Int} (hx0 : 0 ≤ x) (hx : x < p.length) (hy0 : 0 ≤ y) (hy : y < p.length) : val2 (twA p) x y = nth p y := val2_tabOf' hx0 hx hy0 hy
omit hp hq hl h1 h12 in
theorem tw_B0 {x y : Int} (hx0 : 0 ≤ x) (hx : x < p.length) (hy0 : 0 ≤ y) (hy : y < p.length) : val2 (twB p q) x y = nth q x := val2_tabOf' hx0 hx hy0 hy
theorem tw_pm : isPM (twA p) (twB p q) = true := by
  have ha : isTab (twA p) = true := isTab_tabOf h1 h12 fun x y hx hy => perm_lt hp (by omega) (by omega)
  have hb : isTab (twB p q) = true := isTab_tabOf h1 h12 fun x y hx hy => by have := perm_lt hq (x := x) (by omega) (by omega); omega
  have hab : (twA p).length = (twB p q).length := by simp [twA, twB]
  simp [isPM, ha, hb, hab]
theorem tw_coll : collL (twA p) (twB p q) = [] := by
  have hla : (twA p).length = p.length := by simp [twA]
  unfold collL
  refine quad_none (find2_none fun a ha b hb => ?_)
  rw [hla] at ha hb ⊢
  unfold colP
  have a1 := div_lt_sq ha; have a2 := Nat.mod_lt a (show 0 < p.length by omega)
  have b1 := div_lt_sq hb; have b2 := Nat.mod_lt b (show 0 < p.length by omega)
  have g1 := Nat.div_add_mod a p.length
  have g2 := Nat.div_add_mod b p.length
  generalize a / p.length = x1 at a1 g1 ⊢
  generalize a % p.length = y1 at a2 g1 ⊢
  generalize b / p.length = x2 at b1 g2 ⊢
  generalize b % p.length = y2 at b2 g2 ⊢
  rw [tw_A0 (by omega) (by omega) (by omega) (by omega), tw_A0 (by omega) (by omega) (by omega) (by omega), tw_B0 (by omega) (by omega) (by omega) (by omega), tw_B0 (by omega) (by omega) (by omega) (by omega)]
  by_cases e1 : nth p (y1 : Int) = nth p (y2 : Int)
  · by_cases e2 : nth q (x1 : Int) = nth q (x2 : Int)
    · have f1 := perm_inj hp (by omega) (by omega) (by omega) (by omega) e1
      have f2 := perm_inj hq (by omega) (by omega) (by omega) (by omega) e2
      have : a = b := by
        rw [← g1, ← g2, show x1 = x2 by omega, show y1 = y2 by omega]
      simp [this]
    · simp [e2]
  · simp [e1]
theorem tw_nd : nondegL (twA p) (twB p q) = true := by
  have e : ∀ {n : Nat} {g : Int → Int → Int} {r : List Int}, isPerm r = true → (∀ x : Nat, x < n → rowOf n (g x) = r) → permRows (tabOf n g) = true := by
    intro n g r hr hg
    unfold permRows tabOf
    rw [List.all_eq_true]
    intro s hs
    rw [List.mem_map] at hs
    obtain ⟨x, hx, rfl⟩ := hs
    have e := hg x (by simpa using hx)
    show isPerm (rowOf n (g x)) = true
    rw [e]; exact hr
  have ip : isPerm p = true := by simp [isPerm, inR, hp]; omega
  have iq : isPerm q = true := by simp [isPerm, inR, hq]; omega
  unfold nondegL
  rw [Bool.and_eq_true]
  refine ⟨e ip fun x hx => rowOf_self p, ?_⟩
  have hlb : (twB p q).length = p.length := by simp [twB]
  unfold transL
  rw [hlb]
  refine e iq fun x hx => ?_
  have : rowOf p.length (fun y => val2 (twB p q) y x) = rowOf p.length (nth q) := rowOf_congr fun y hy => tw_B0 (by omega) (by omega) (by omega) (by omega)
  rw [this, ← hl, rowOf_self]
theorem tw_inv : involL (twA p) (twB p q) = decide (invL p = q) := by
  have hla : (twA p).length = p.length := by simp [twA]
  have key : ∀ x y : Nat, x < p.length → y < p.length → ivF (twA p) (twB p q) x y = (decide (nth p (nth q x) = x) && decide (nth q (nth p y) = y)) := by
    intro x y hx hy
    have a := perm_lt hp (x := y) (by omega) (by omega)
    have b := perm_lt hq (x := x) (by omega) (by omega)
    unfold ivF
    rw [tw_A0 (x := x) (y := y) (by omega) (by omega) (by omega) (by omega), tw_B0 (x := x) (y := y) (by omega) (by omega) (by omega) (by omega),
      tw_A0 (by omega) (by omega) (by omega) (by omega), tw_B0 (by omega) (by omega) (by omega) (by omega)]
  rw [Bool.eq_iff_iff]
  unfold involL
  rw [all2_iff, hla, decide_eq_true_eq]
  constructor
  · intro h
    apply ext_nth (by simp; omega)
    intro k hk
    simp at hk
    obtain ⟨x, x0, x1, ex⟩ := ex_pre hp (y := (k : Int)) (by omega) (by omega)
    have := h 0 (by omega) x.toNat (by omega)
    rw [key _ _ (by omega) (by omega)] at this
    simp only [Bool.and_eq_true, decide_eq_true_eq] at this
    have e := this.2
    rw [show ((x.toNat : Nat) : Int) = x by omega, ex] at e
    rw [e, ← ex, nth_invL hp x0 x1]
  · intro h x hx y hy
    rw [key x y hx hy, ← h]
    have e2 := nth_invL hp (x := (y : Int)) (by omega) (by omega)
    obtain ⟨z, z0, z1, ez⟩ := ex_pre hp (y := (x : Int)) (by omega) (by omega)
    have e1 : nth p (nth (invL p) x) = x := by rw [← ez, nth_invL hp z0 z1]
    simp [e1, e2]
theorem tw_sol (hc : thenL p q = thenL q p) : isSol (twA p) (twB p q) = true := by
  have hla : (twA p).length = p.length := by simp [twA]
  have hcom : ∀ y : Int, 0 ≤ y → y < p.length → nth q (nth p y) = nth p (nth q y) := by
    intro y y0 y1
    have e : nth (thenL p q) y = nth (thenL q p) y := by rw [hc]
    rw [nth_thenL _ _ _ y0 y1, nth_thenL _ _ _ y0 (by omega)] at e
    exact e
  have hyF : yF (twA p) (twB p q) = [] := by
    unfold yF
    have : find3 (twA p).length (yP (twA p) (twB p q)) = none := find3_none fun x hx y hy z hz => by
      rw [hla] at hx hy hz
      have px := perm_lt hp (x := x) (by omega) (by omega)
      have py := perm_lt hp (x := y) (by omega) (by omega)
      have pz := perm_lt hp (x := z) (by omega) (by omega)
      have qx := perm_lt hq (x := x) (by omega) (by omega)
      have qy := perm_lt hq (x := y) (by omega) (by omega)
      have tA := fun (x y : Int) (a : 0 ≤ x) (b : x < p.length) (c : 0 ≤ y) (d : y < p.length) => tw_A0 (p := p) (x := x) (y := y) a b c d
      have tB := fun (x y : Int) (a : 0 ≤ x) (b : x < p.length) (c : 0 ≤ y) (d : y < p.length) => tw_B0 (p := p) (q := q) (x := x) (y := y) a b c d
      unfold yP yL yR
      rw [tA x y (by omega) (by omega) (by omega) (by omega), tB x y (by omega) (by omega) (by omega) (by omega), tA y z (by omega) (by omega) (by omega) (by omega), tB y z (by omega) (by omega) (by omega) (by omega),
        tA (nth q x) z (by omega) (by omega) (by omega) (by omega), tB (nth q x) z (by omega) (by omega) (by omega) (by omega), tA x (nth p z) (by omega) (by omega) (by omega) (by omega), tB x (nth p z) (by omega) (by omega) (by omega) (by omega),
        tA (nth p y) (nth p z) (by omega) (by omega) (by omega) (by omega), tB (nth p y) (nth p z) (by omega) (by omega) (by omega) (by omega), tA (nth q x) (nth q y) (by omega) (by omega) (by omega) (by omega), tB (nth q x) (nth q y) (by omega) (by omega) (by omega) (by omega), hcom y (by omega) (by omega)]
      simp
    rw [this]; rfl
  simp [isSol, tw_pm hp hq hl h1 h12, tw_coll hp hq hl h1 h12, hyF]
end
theorem then_back {p : List Int} (hp : Permuted p) : thenL p (invL p) = iota p.length := by
  apply ext_nth (by simp)
  intro k hk
  simp at hk
  rw [nth_thenL _ _ _ (by omega) (by omega), nth_invL hp (by omega) (by omega)]
  rw [nth_nat _ _ (by simpa using hk)]
  simp [iota]
end Go.Proofs.Ytgmhnjccgldddaa

namespace Go.Proofs.Ytgmhnjccgldddaa
set_option linter.unusedVariables false
set_option linter.unusedSimpArgs false
open Go.ChangeShapes Go.WideShapes Go.ChangeAt Go.RowKit

theorem own_knob : ownKnob Try.prog.godebug = none := by kernel_rfl
theorem laid_out : laidOutB Try.prog = true := by kernel_rfl
theorem cells_int64 : Try.prog.cellsOf 2 = 1 := by kernel_rfl
theorem cells_ints : Try.prog.cellsOf 26 = 1 := by kernel_rfl

section
variable {H : Type} {enc : TypeId × Value → H} {w : World} {base : Nat} {spare : Nat → Bool} {held : Bool}

theorem ints_of_trod {fuel : Nat} {u : Value} {x : DataW H × List MemPlace} (h : DataW.trod enc Try.prog w base spare held fuel 26 [u] = some x) : ∃ xs, Ints w u xs := by
  rcases open_ints Try.underlying26 Try.underlying2 cells_int64 h with ⟨hcs, _⟩ | ⟨a, len, cap, zs, hcs, _, hl, hm, hz, _, hcell, _⟩
  · simp at hcs; subst hcs
    exact ⟨[], Ints.nil w⟩
  · simp at hcs; subst hcs
    have hge : len ≤ zs.length := by rw [hz]; split <;> omega
    have hlen : (zs.take len).length = len := by simp; omega
    refine ⟨zs.take len, some a, cap, by rw [hlen], by rw [hlen]; exact hl, hm, fun i hi => ?_⟩
    have hi' : i < zs.length := by omega
    obtain ⟨b, off, rfl, hc⟩ := ints_at hcell (by omega)
    refine ⟨b, off, rfl, ?_⟩
    rw [hc i hi']
    simp [hi']

theorem rows_of_trod {fuel : Nat} {u : Value} {x : DataW H × List MemPlace} (h : DataW.trod enc Try.prog w base spare held fuel 22 [u] = some x) : ∃ xss, Rows w u xss := by
  rcases Deep.open_slice1 Try.underlying22 cells_ints h with ⟨hcs, _⟩ | ⟨a, len, cap, m, n, V, D, Pl, hcs, _, hl, hm, hmm, _, hx⟩
  · simp at hcs; subst hcs
    exact ⟨[], Rows.nil w⟩
  · simp at hcs; subst hcs
    have hge : len ≤ m := by rw [hmm]; split <;> omega
    have each : ∀ i, i < len → ∃ xs, Ints w (V i) xs := fun i hi => ints_of_trod (hx i (by omega)).2
    obtain ⟨Z, hZ⟩ := Deep.choose_lt each
    refine ⟨(List.range len).map Z, some a, cap, by simp, by simpa using hl, hm, fun i hi => ?_⟩
    have hi' : i < len := by simpa using hi
    have h0 := (hx 0 (by omega)).1
    obtain ⟨b, off, spot⟩ := a
    have hspot : spot = none := by simpa [Addr.add] using World.cell?_spot h0
    subst hspot
    refine ⟨b, off, V i, rfl, ?_, ?_⟩
    · have := (hx i (by omega)).1
      rwa [Go.WideShapes.add_plain] at this
    · simpa using hZ i hi'

end
end Go.Proofs.Ytgmhnjccgldddaa

namespace Go.Proofs.Ytgmhnjccgldddaa
set_option linter.unusedVariables false
set_option linter.unusedSimpArgs false
open Go.RowKit

def pmCodeN (A B : List (List Int)) : Int := if isPM A B then 0 else 1
def ndRes (A B : List (List Int)) : Bool := if isPM A B then nondegL A B else false
end Go.Proofs.Ytgmhnjccgldddaa

namespace Go.Proofs.Ytgmhnjccgldddaa
set_option linter.unusedVariables false
set_option linter.unusedSimpArgs false
open Go.RowKit

def flN (n : Int) : List Int := iota n.toNat
def flA (n : Int) : List (List Int) := if inR n 1 12 then twA (flN n) else []
def flB (n : Int) : List (List Int) := if inR n 1 12 then twB (flN n) (flN n) else []
def flCode (n : Int) : Int := if inR n 1 12 then 0 else 2

set_option maxHeartbeats 400000 in
theorem c_l02Flip (n : Nat) (w : World) (hn : n ≤ 1048576) :
    Calls Try.prog 98 #[.int .i64 n] w (RSolR w (twA (iota n)) (twB (iota n) (iota n))) := by
  obtain ⟨f0, hW0, hsz⟩ := boxes1 w [.slice none 0 0, .slice none 0 0] 29
  have HF := Lib.hid f0; have HW := Lib.hid hW0; clear f0 hW0
  go_enter Try.func98, Try.ntmps98
  go_wp2_with fail
  refine (c_l01Unit n _ hn).mono ?_; rintro e w1 ⟨r1, rfl, ho1, hb1⟩
  have HO := Lib.hid ho1; have HB1 := Lib.hid hb1; clear ho1 hb1
  go_wp2_with fail
  refine (c_l02Twist _ _ (iota n) (iota n) _ HO.out.ints HO.out.ints rfl (by rw [iota_length]; exact hn)).mono ?_; rintro e w2 ⟨s1, s2, rfl, hs, hb2⟩
  obtain ⟨a1, c1, rfl, _⟩ := OwnRows.shape' hs.1
  obtain ⟨a2, c2, rfl, _⟩ := OwnRows.shape' hs.2
  obtain ⟨g0, g1, g2, g3⟩ := two_cells ((HF.out.under HB1.out).under hb2)
  have HS := Lib.hid hs; have HB2 := Lib.hid hb2; have HZ := Lib.hid hsz; clear hs hb2 hsz
  go_wp2
  have hz := HZ.out
  have hs1 : (w.alloc (.cells #[.slice none 0 0, .slice none 0 0] 29)).heap.size ≤ w1.heap.size := HB1.out.size
  refine bodyPost_ret (v := .agg #[.slice a1 (twA (iota n)).length c1, .slice a2 (twB (iota n) (iota n)).length c2]) (by simp [results, Try.results98, go_sem, g0, g1]) rfl ⟨_, _, rfl, ⟨?_, ?_⟩, ((bb (bb HW.out HB1.out) HB2.out).setCell (p := ⟨w.heap.size, 0, none⟩) (Nat.le_refl _) _).setCell (p := ⟨w.heap.size, 1, none⟩) (Nat.le_refl _) _⟩
  · exact ((HS.out.1.keep (keep1 _ w.heap.size 0 _) (fun b h1 h2 h3 => by have h3 : b = w.heap.size := h3; omega)).keep (keep1 _ w.heap.size 1 _) (fun b h1 h2 h3 => by have h3 : b = w.heap.size := h3; omega)).mono (by omega)
  · exact ((HS.out.2.keep (keep1 _ w.heap.size 0 _) (fun b h1 h2 h3 => by have h3 : b = w.heap.size := h3; omega)).keep (keep1 _ w.heap.size 1 _) (fun b h1 h2 h3 => by have h3 : b = w.heap.size := h3; omega)).mono (by omega)


theorem fl_total (n : Int) : total (flA n) ≤ 144 ∧ total (flB n) ≤ 144 := by
  unfold flA flB
  split
  · rename_i h
    have hl : (flN n).length ≤ 12 := by simp [inR] at h; simp [flN]; omega
    have h1 := total_le _ (tab_rows (g := fun _ y => nth (flN n) y) hl)
    have h2 := total_le _ (tab_rows (g := fun x _ => nth (flN n) x) hl)
    rw [tabOf_length] at h1 h2
    unfold twA twB
    omega
  · simp [total]

end Go.Proofs.Ytgmhnjccgldddaa

namespace Go.Proofs.Ytgmhnjccgldddaa
set_option linter.unusedVariables false
set_option linter.unusedSimpArgs false
open Go.RowKit

theorem isPerm_in {xs : List Int} (h : isPerm xs = true) : (∀ x ∈ xs, 0 ≤ x ∧ x < xs.length) ∧ xs.length ≤ 1048576 := by
  simp [isPerm, inR] at h; exact ⟨h.2.2, by omega⟩

def invRes (xs : List Int) : List Int := if isPerm xs then invL xs else []
def invCode (xs : List Int) : Int := if isPerm xs then 0 else 1
theorem invRes_length (xs : List Int) : (invRes xs).length ≤ xs.length := by unfold invRes; split <;> simp



end Go.Proofs.Ytgmhnjccgldddaa

namespace Go.Proofs.Ytgmhnjccgldddaa
set_option linter.unusedVariables false
set_option linter.unusedSimpArgs false
open Go Go.RowKit Go.ChangeShapes Go.WideShapes Go.ChangeAt

section
variable {H : Type} {enc : TypeId × Value → H} {w : World} {base : Nat} {spare : Nat → Bool} {held : Bool}
theorem cells_u8 : Try.prog.cellsOf 5 = 1 := by kernel_rfl
theorem bytes_of_trod {fuel : Nat} {u : Value} {x : DataW H × List MemPlace} (h : DataW.trod enc Try.prog w base spare held fuel 41 [u] = some x) : ∃ bs, Bytes w u bs := by
  rcases open_ints Try.underlying41 Try.underlying5 cells_u8 h with ⟨hcs, _⟩ | ⟨a, len, cap, zs, hcs, _, hl, hm, hz, _, hcell, hwf⟩
  · simp at hcs; subst hcs
    exact ⟨[], none, 0, rfl, Nat.le_refl _, by decide, fun i hi => absurd hi (by simp)⟩
  · simp at hcs; subst hcs
    have hge : len ≤ zs.length := by rw [hz]; split <;> omega
    have hlen : (zs.take len).length = len := by simp; omega
    refine ⟨zs.take len, some a, cap, by rw [hlen], by rw [hlen]; exact hl, hm, fun i hi => ?_⟩
    have hi' : i < zs.length := by omega
    obtain ⟨b, off, rfl, hc⟩ := ints_at hcell (by omega)
    have hr := hwf (zs.getD i 0) (by simp [List.getD, hi'])
    have hci := hc i hi'
    generalize zs.getD i 0 = z at hr hci
    simp [Lit.wf, IntKind.min, IntKind.max, IntKind.signed, IntKind.bits] at hr
    exact ⟨b, off, z, rfl, hci, by omega, by omega⟩
end

structure TwF (w W : World) (v1 v2 : Value) (p q : List Int) (sb : Nat) (r1 r2 : Value) (A B : List (List Int)) : Prop where
  hp : Ints W v1 p
  hq : Ints W v2 q
  hs : Blk W sb 29 [r1, r2]
  hsol : Sol W r1 r2 A B
  hb : Below w.heap.size w W
theorem TwF.under {w W W' : World} {v1 v2 : Value} {p q : List Int} {sb : Nat} {r1 r2 : Value} {A B : List (List Int)} (h : TwF w W v1 v2 p q sb r1 r2 A B) (k : Below W.heap.size W W') : TwF w W' v1 v2 p q sb r1 r2 A B :=
  ⟨h.hp.below k, h.hq.below k, h.hs.under k, h.hsol.below k, h.hb.trans (k.mono h.hb.size)⟩
theorem TwF.new {w W : World} {v1 v2 : Value} {p q : List Int} {sb : Nat} {r1 r2 : Value} {A B : List (List Int)} (h : TwF w W v1 v2 p q sb r1 r2 A B) (o : Obj) : TwF w (W.alloc o) v1 v2 p q sb r1 r2 A B := h.under ((Below.refl _ _).alloc (Nat.le_refl _) o)

theorem tw_cases (p q : List Int) : twCode p q = 2 ∨ (twCode p q = 5 ∧ thenRes p q ≠ thenRes q p) ∨
    (twCode p q = 0 ∧ isPerm p = true ∧ isPerm q = true ∧ q.length = p.length ∧ thenL p q = thenL q p ∧ twRA p q = twA p ∧ twRB p q = twB p q) := by
  by_cases h1 : isPerm p = true
  · by_cases h2 : isPerm q = true
    · by_cases h3 : p.length = q.length
      · by_cases h4 : thenL p q = thenL q p
        · exact .inr (.inr ⟨by simp [twCode, twOk, twCm, h1, h2, h3, h4], h1, h2, h3.symm, h4, by simp [twRA, twOk, twCm, h1, h2, h3, h4], by simp [twRB, twOk, twCm, h1, h2, h3, h4]⟩)
        · refine .inr (.inl ⟨by simp [twCode, twOk, twCm, h1, h2, h3, h4], ?_⟩)
          simp [thenRes, okThen, h1, h2, h3, h4]
      · exact .inl (by simp [twCode, twOk, h3])
    · exact .inl (by simp [twCode, twOk, h2])
  · exact .inl (by simp [twCode, twOk, h1])

theorem inv_perm {p : List Int} (h : isPerm p = true) : isPerm (invL p) = true := by
  obtain ⟨⟨h1, h2⟩, hp⟩ := isPerm_in' h
  have : Permuted (invL p) := by
    rw [permuted_iff]
    intro x x0 x1
    rw [invL_length] at x1
    have := perm_lt hp x0 x1
    rw [← nth_invL hp x0 x1]
    exact nth_mem this.1 (by rw [invL_length]; exact this.2)
  simp [isPerm, inR, this]; omega
theorem iota_perm {n : Nat} (h1 : 1 ≤ n) (h2 : n ≤ 12) : isPerm (iota n) = true := by
  have : Permuted (iota n) := ⟨iota_nodup n, fun x hx => by simpa using (mem_iota n x).1 hx⟩
  simp [isPerm, inR, this]; omega
theorem then_unit {p : List Int} (h : isPerm p = true) : thenRes p (invL p) = iota p.length := by
  have h2 := inv_perm h
  simp only [thenRes, okThen, h, h2, invL_length]
  simpa using then_back (isPerm_in' h).2
theorem flip_unit {n : Nat} (h1 : 1 ≤ n) (h2 : n ≤ 12) : flA n = twA (iota n) ∧ flB n = twB (iota n) (iota n) ∧ flCode n = 0 := by
  have h : inR n 1 12 = true := by simp [inR]; omega
  exact ⟨by simp [flA, flN, h], by simp [flB, flN, h], by simp [flCode, h]⟩
theorem twist_unit {n : Nat} (h1 : 1 ≤ n) (h2 : n ≤ 12) : twRA (iota n) (iota n) = twA (iota n) ∧ twRB (iota n) (iota n) = twB (iota n) (iota n) ∧ twCode (iota n) (iota n) = 0 := by
  have h := iota_perm h1 h2
  exact ⟨by simp [twRA, twOk, twCm, h], by simp [twRB, twOk, twCm, h], by simp [twCode, twOk, twCm, h]⟩
end Go.Proofs.Ytgmhnjccgldddaa

namespace Go.Proofs.Ytgmhnjccgldddaa
set_option linter.unusedVariables false
set_option linter.unusedSimpArgs false
open Go Go.RowKit

def LS (w W : World) (L : List (Value × List Int)) (M : List (Value × List (List Int))) (Bx : List (Nat × Value × Value)) : Prop :=
  (∀ e ∈ L, Ints W e.1 e.2) ∧ (∀ e ∈ M, Rows W e.1 e.2) ∧ (∀ e ∈ Bx, Blk W e.1 29 [e.2.1, e.2.2]) ∧ Below w.heap.size w W
namespace LS
variable {w W W' : World} {L : List (Value × List Int)} {M : List (Value × List (List Int))} {Bx : List (Nat × Value × Value)}
theorem under (h : LS w W L M Bx) (k : Below W.heap.size W W') : LS w W' L M Bx :=
  ⟨fun e he => (h.1 e he).below k, fun e he => (h.2.1 e he).below k, fun e he => (h.2.2.1 e he).under k, h.2.2.2.trans (k.mono h.2.2.2.size)⟩
theorem addI (h : LS w W L M Bx) {v : Value} {xs : List Int} (hi : Ints W v xs) : LS w W ((v, xs) :: L) M Bx :=
  ⟨fun e he => by rcases List.mem_cons.1 he with rfl | he; exact hi; exact h.1 e he, h.2⟩
theorem addR (h : LS w W L M Bx) {v : Value} {X : List (List Int)} (hi : Rows W v X) : LS w W L ((v, X) :: M) Bx :=
  ⟨h.1, fun e he => by rcases List.mem_cons.1 he with rfl | he; exact hi; exact h.2.1 e he, h.2.2⟩
theorem addS (h : LS w W L M Bx) {v1 v2 : Value} {A B : List (List Int)} (hs : Sol W v1 v2 A B) : LS w W L ((v1, A) :: (v2, B) :: M) Bx := (h.addR hs.2).addR hs.1
theorem box (h : LS w W L M Bx) (a b : Value) : LS w (W.alloc (.cells #[a, b] 29)) L M ((W.heap.size, a, b) :: Bx) := by
  have h2 := h.under ((Below.refl W.heap.size W).alloc (Nat.le_refl _) (.cells #[a, b] 29))
  exact ⟨h2.1, h2.2.1, fun e he => by rcases List.mem_cons.1 he with rfl | he; exact Blk.new W [a, b] 29; exact h2.2.2.1 e he, h2.2.2.2⟩
theorem getI (h : LS w W L M Bx) {v : Value} {xs : List Int} (he : (v, xs) ∈ L) : Ints W v xs := h.1 _ he
theorem getR (h : LS w W L M Bx) {v : Value} {X : List (List Int)} (he : (v, X) ∈ M) : Rows W v X := h.2.1 _ he
theorem getB (h : LS w W L M Bx) {q : Nat} {a b : Value} (he : (q, a, b) ∈ Bx) : Blk W q 29 [a, b] := h.2.2.1 _ he
end LS
end Go.Proofs.Ytgmhnjccgldddaa

namespace Go.Proofs.Ytgmhnjccgldddaa
set_option linter.unusedVariables false
set_option linter.unusedSimpArgs false
open Go Go.RowKit

theorem wp_move {P : Program} {o : Oper} {a : Act} {w : World} {K : Act → World → Prop} {Q : Exit → Act → World → Prop} {s : Operand} (ho : o.op = .move s) (h : K (a.put o.dst (a.eval s)) w) : o.wp P a w K Q := by
  have key : ∀ ρ : Operand → Value, (execOp ρ o).run P w = .ok (.value (ρ s)) w := fun ρ => by simp [execOp, ho, go_sem]
  have e := key a.eval
  unfold Oper.wp
  rw [e]
  exact h
theorem wp_pick {P : Program} {o : Oper} {a : Act} {w : World} {K : Act → World → Prop} {Q : Exit → Act → World → Prop} {c x y : Operand} {b : Bool} (ho : o.op = .pick c x y) (hc : a.eval c = .bool b) (h : K (a.put o.dst (if b then a.eval x else a.eval y)) w) : o.wp P a w K Q := by
  have key : ∀ ρ : Operand → Value, ρ c = .bool b → (execOp ρ o).run P w = .ok (.value (if b then ρ x else ρ y)) w := fun ρ hc => by cases b <;> simp [execOp, ho, hc, go_sem]
  have e := key a.eval hc
  unfold Oper.wp
  rw [e]
  exact h
/-- 'a && b' where both are variables: the second one's move and the choice behind it. -/
theorem wpList_and {P : Program} {ops : Array Oper} {Q : Exit → Act → World → Prop} {rest : List Oper} {a : Act} {w : World} {d1 d2 t1 t2 g : Nat} {s c : Operand} {p1 p2 : String} {f1 f2 : Array Edge} {gd2 : Option (Nat × Bool)} (x y : Bool)
    (hs : a.eval s = .bool y)
    (hx : Region.wanted ⟨some d1, .move s, t1, p1, f1, some (g, true)⟩ (yielded ops a.tmps) = x)
    (h2 : ∀ v, Region.wanted ⟨some d2, .pick c (.tmp d1) (.const (.bool false)), t2, p2, f2, gd2⟩ (yielded ops (a.put (some d1) v).tmps) = true)
    (hc : ∀ v, (a.put (some d1) v).eval c = .bool x)
    (hd : ∀ v, (a.put (some d1) v).eval (.tmp d1) = v)
    (h : ∀ v, wpList P ops Q rest ((a.put (some d1) v).put (some d2) (.bool (x && y))) w) :
    wpList P ops Q (⟨some d1, .move s, t1, p1, f1, some (g, true)⟩ :: ⟨some d2, .pick c (.tmp d1) (.const (.bool false)), t2, p2, f2, gd2⟩ :: rest) a w := by
  cases x with
  | true =>
    refine wpList_step fun K hK => ?_
    rw [if_pos hx]
    refine wp_move rfl (hK _ _ ?_)
    refine wpList_step fun K hK => ?_
    rw [if_pos (h2 _)]
    refine wp_pick (b := true) rfl (hc _) (hK _ _ ?_)
    have := h (.bool y)
    simp only [if_true]
    rw [hd, hs]
    simpa using this
  | false =>
    refine wpList_step fun K hK => ?_
    rw [if_neg (by rw [hx]; simp)]
    refine hK _ _ ?_
    refine wpList_step fun K hK => ?_
    rw [if_pos (h2 _)]
    refine wp_pick (b := false) rfl (hc _) (hK _ _ ?_)
    have := h undef
    simpa [Act.eval] using this

/-- The walk stands here. -/
structure Stop (p : Prop) : Prop where
  out : p
/-- As Q, but that the ordinary end stands at R. -/
def upTo (Q : Exit → Act → World → Prop) (R : Act → World → Prop) (e : Exit) (a : Act) (w : World) : Prop :=
  (e = .normal ∧ Stop (R a w)) ∨ (e ≠ .normal ∧ Q e a w)
theorem upTo_normal {Q : Exit → Act → World → Prop} {R : Act → World → Prop} {a : Act} {w : World} (h : Stop (R a w)) : upTo Q R .normal a w := .inl ⟨rfl, h⟩
theorem upTo_lets {Q : Exit → Act → World → Prop} {R : Act → World → Prop} (h : LetsOut (upTo Q R)) : LetsOut Q := by
  obtain ⟨a, w, h⟩ := h
  rcases h with ⟨h, _⟩ | ⟨_, h⟩
  · cases h
  · exact ⟨a, w, h⟩
theorem wp_upTo {P : Program} {o : Oper} {a : Act} {w : World} {K K' : Act → World → Prop} {Q : Exit → Act → World → Prop} {R : Act → World → Prop} (h : ∀ a w, K a w → K' a w) (hh : o.wp P a w K (upTo Q R)) : o.wp P a w K' Q := by
  unfold Oper.wp at *
  generalize (execOp a.eval o).run P w = r at *
  have hq : ∀ c a w, upTo Q R (.panic c) a w → Q (.panic c) a w := fun c a w h => by
    rcases h with ⟨h, _⟩ | ⟨_, h⟩
    · cases h
    · exact h
  cases r with
  | ok n w' =>
    cases n <;> simp only [Oper.upon] at hh ⊢ <;>
      first
        | exact h _ _ hh
        | exact Calls.mono hh (fun e w'' he => by cases e <;> first | exact h _ _ he | exact hq _ _ _ he | exact upTo_lets he)
        | exact Rows.mono hh (fun _ _ he => h _ _ he)
  | halt x w' => cases x <;> simp only [Oper.upon] at hh ⊢ <;> first | exact hh | exact hq _ _ _ hh
theorem wpList_app2 {P : Program} {ops : Array Oper} {Q : Exit → Act → World → Prop} {l2 : List Oper} : ∀ (l1 : List Oper) (a : Act) (w : World), wpList P ops (upTo Q (wpList P ops Q l2)) l1 a w → wpList P ops Q (l1 ++ l2) a w
  | [], a, w, h => by
    rcases h with ⟨_, h⟩ | ⟨h, _⟩
    · exact h.out
    · exact absurd rfl h
  | o :: l1, a, w, h => by
    simp only [List.cons_append, wpList] at h ⊢
    split
    · rename_i hw
      rw [if_pos hw] at h
      rcases h with h | ⟨h, h2⟩
      · exact .inl (wp_upTo (fun a w h => wpList_app2 l1 a w h) h)
      · exact .inr ⟨h, upTo_lets h2⟩
    · rename_i hw
      rw [if_neg hw] at h
      exact wpList_app2 l1 _ _ h
/-- Walk the first n operations, and stand there. -/
theorem wpList_cut {P : Program} {ops : Array Oper} {Q : Exit → Act → World → Prop} {l : List Oper} {a : Act} {w : World} (n : Nat) (h : wpList P ops (upTo Q (wpList P ops Q (l.drop n))) (l.take n) a w) : wpList P ops Q l a w := by
  have := wpList_app2 _ _ _ h
  rwa [List.take_append_drop] at this
end Go.Proofs.Ytgmhnjccgldddaa

namespace Go.Proofs.Ytgmhnjccgldddaa
set_option linter.unusedVariables false
set_option linter.unusedSimpArgs false
open Go.RowKit

theorem Keep.chain {S T : Nat → Prop} {w w1 w2 : World} (h1 : Keep S w w1) (h2 : Keep T w1 w2) (hT : ∀ b, b < w.heap.size → T b → S b) : Keep S w w2 :=
  ⟨h2.os.trans h1.os, h2.tape.trans h1.tape, h2.output.trans h1.output, Nat.le_trans h1.size h2.size, fun k hk hn => (h2.block k (Nat.lt_of_lt_of_le hk h1.size) (fun h => hn (hT k hk h))).trans (h1.block k hk hn)⟩
theorem Own.keepR {B B0 : Nat} {w w' : World} {u v : Value} {xs : List Int} {yss : List (List Int)} (h : Own B w u xs) (hv : OwnRows B0 w v yss) (k : Keep (fun b => v.ownBlock = some b) w w') : Own B w' u xs := by
  obtain ⟨us', h3, h4⟩ := hv
  obtain ⟨hl, hn' | ⟨g, cap, cur, hv5, hbg, hg, r⟩⟩ := h
  · exact ⟨hl, .inl hn'⟩
  · refine ⟨hl, .inr ⟨g, cap, cur, hv5, hbg, ?_, r⟩⟩
    rw [k.block g (Array.getElem?_eq_some_iff.1 hg).1 ?_]; exact hg
    intro e
    obtain ⟨_, hnn | ⟨g', cap', cur', hv', _, hg', _⟩⟩ := h3
    · rw [hnn.1] at e; cases e
    · rw [hv'] at e
      simp [Value.ownBlock] at e
      subst e
      rw [hg] at hg'
      simp at hg'

def partG (n m : Nat) (start : List Int) (k : Nat) : List (List Int) := ((iota k).filter fun x => decide (¬ x ∈ start)).flatMap fun x => growL n m (start ++ [x])
theorem partG_succ (n m : Nat) (start : List Int) (k : Nat) : partG n m start (k + 1) = partG n m start k ++ (if (k : Int) ∈ start then [] else growL n m (start ++ [(k : Int)])) := by
  unfold partG
  rw [show iota (k + 1) = iota k ++ [(k : Int)] from by simp [iota, List.range_succ], List.filter_append, List.flatMap_append]
  congr 1
  by_cases h : (k : Int) ∈ start
  · simp [h]
  · simp [h]
theorem partG_mono (n m : Nat) (start : List Int) (k : Nat) : ∀ d, (partG n m start k).length ≤ (partG n m start (k + d)).length
  | 0 => Nat.le_refl _
  | d + 1 => by
    have := partG_mono n m start k d
    rw [← Nat.add_assoc, partG_succ, List.length_append]; omega
theorem partG_le {n m : Nat} {start : List Int} {k : Nat} (h : k ≤ n) : (partG n m start k).length ≤ (growL n (m + 1) start).length := by
  have := partG_mono n m start k (n - k)
  rw [show k + (n - k) = n from by omega] at this
  exact this

def GrowPost (w : World) (v : Value) (B : Nat) (ys : List (List Int)) (e : Ending) (w' : World) : Prop :=
  ∃ r, e = .returned r ∧ OwnRows B w' r ys ∧ Keep (fun b => v.ownBlock = some b) w w' ∧ ∀ b, r.ownBlock = some b → v.ownBlock = some b ∨ w.heap.size ≤ b


theorem growL_length (n : Nat) : ∀ (m : Nat) (start : List Int), (growL n m start).length ≤ n ^ m
  | 0, start => by simp [growL]
  | m + 1, start => by
    have h : ∀ k, (partG n m start k).length ≤ k * n ^ m := by
      intro k
      induction k with
      | zero => simp [partG, iota]
      | succ k ih =>
        rw [partG_succ, List.length_append, Nat.add_mul, Nat.one_mul]
        have : (if (k : Int) ∈ start then [] else growL n m (start ++ [(k : Int)])).length ≤ n ^ m := by
          split
          · simp
          · exact growL_length n m _
        omega
    have := h n
    rw [Nat.pow_succ, Nat.mul_comm]
    exact this
theorem allPerms_le {n : Nat} (h : n ≤ 7) : (allPerms n).length ≤ 823543 := by
  refine Nat.le_trans (growL_length n n []) ?_
  have h1 : n ^ n ≤ 7 ^ n := Nat.pow_le_pow_left h n
  have h2 : 7 ^ n ≤ 7 ^ 7 := Nat.pow_le_pow_right (by omega) h
  omega

end Go.Proofs.Ytgmhnjccgldddaa

namespace Go.Proofs.Ytgmhnjccgldddaa
set_option linter.unusedVariables false
set_option linter.unusedSimpArgs false
open Go Go.RowKit

theorem Own.keep1 {B : Nat} {w : World} {v : Value} {xs : List Int} (h : Own B w v xs) {p : Addr} (z : Value) (hp : v.ownBlock ≠ some p.block) : Own B (w.setCell p z) v xs := by
  obtain ⟨hl, hn | ⟨g, cap, cur, hv, hb, hg, r⟩⟩ := h
  · exact ⟨hl, .inl hn⟩
  · refine ⟨hl, .inr ⟨g, cap, cur, hv, hb, ?_, r⟩⟩
    rw [Below.heap_setCell _ _ _ _ (by intro e; apply hp; rw [hv, ← e]; rfl)]; exact hg
theorem drew_set {b : Nat} {w w' : World} (h : Drew b w w') {p : Addr} (hp : w.heap.size ≤ p.block) (hb : b < p.block) (z : Value) : Drew b w (w'.setCell p z) :=
  ⟨h.1.keep (S := fun x => x = p.block) ((Keep.refl (fun x => x = p.block) w').setCell (p := p) (.inl rfl) z) (fun q hq e => by omega), h.2.setCell (p := p) (.inr hp) z⟩
theorem drew_app {b B : Nat} {w w1 w2 : World} {v : Value} {xss : List (List Int)} (h : Drew b w w1) (ho : OwnRows B w1 v xss) (k : Keep (fun x => v.ownBlock = some x) w1 w2) (hb : b < w.heap.size) (hB : w.heap.size ≤ B := by exact Nat.le_refl _) : Drew b w w2 :=
  ⟨h.1.keep k (fun p hp e => by have := (OwnRows.lt ho e).1; omega), h.2.chain k (fun x hx e => by have := (OwnRows.lt ho e).1; omega)⟩

set_option maxRecDepth 100000 in
set_option maxHeartbeats 4000000 in
theorem c_l01Tables (b n : Nat) (w : World) (hs : Src w b) (h1 : 1 ≤ n) (h2 : n ≤ 1000) :
    Calls Try.prog 56 #[.pointer (some ⟨b, 0, none⟩), .int .i64 n] w (fun e w' => ∃ (r : Value) (X : List (List Int)), e = .returned r ∧ X.length = n ∧ (∀ row ∈ X, row.length = n) ∧ OwnRows w.heap.size w' r X ∧ Drew b w w') := by
  have hbl := hs.lt
  have hbel : Below w.heap.size w (w.alloc (.cells #[] 26)) := (Below.refl _ _).alloc (Nat.le_refl _) _
  have HD0 := Lib.hid ((Drew.refl hs).under hbel)
  have HO0 := Lib.hid (OwnRows.made0 w (Nat.le_refl w.heap.size))
  clear hs hbel
  go_enter Try.func56, Try.ntmps56
  go_wp2_with fail
  refine (c_l01Next b 3 _ HD0.out.1 (by omega) (by omega)).mono ?_; rintro e w1 ⟨kd, rfl, k0, k3, hd1⟩
  have HD1 := Lib.hid (HD0.out.trans hd1)
  have HO1 := Lib.hid (HO0.out.keep hd1.2 (fun x h1 h2 e => by have e : x = b := e; omega))
  clear hd1
  go_wp2_with fail
  refine (c_l01Draw b n _ HD1.out.1 h1 h2).mono ?_; rintro e w2 ⟨rf, fs, rfl, hfl, hof, hd2⟩
  have HD2 := Lib.hid (HD1.out.trans hd2)
  have HO2 := Lib.hid (HO1.out.keep hd2.2 (fun x h1 h2 e => by have e : x = b := e; omega))
  rcases hof.open with ⟨_, h0⟩ | ⟨gf, cf, hv, hgf, hblk, hmx⟩
  · rw [h0] at hfl; simp at hfl; omega
  rw [hfl] at hv hmx
  subst hv
  have HF2 := Lib.hid (And.intro (hof.mono HD1.out.2.size) hfl)
  clear hof hd2 hblk hmx hgf
  go_wp2
  go_loopw [5, 8] (fun t x wr => ∃ (k : Nat) (X : List (List Int)) (ta : Option Addr) (tc : Nat), k ≤ n ∧ x = .int .i64 k ∧ t = .slice ta k tc ∧ Hid (X.length = k ∧ ∀ row ∈ X, row.length = n) ∧ Hid (OwnRows w.heap.size wr (.slice ta k tc) X) ∧ Hid (Own w.heap.size wr (.slice (some ⟨gf, 0, none⟩) n (n + cf.length)) fs ∧ fs.length = n) ∧ Hid (Drew b w wr)) (fun _ x _ => n - (intOf x).toNat)
  case atStart => exact ⟨0, [], _, _, Nat.zero_le _, rfl, rfl, Lib.hid (by simp), HO2, HF2, HD2⟩
  case round =>
    clear HO2 HF2 HD2 HO1 HD1 HO0 HD0
    obtain ⟨k, X, ta, tc, hk, rfl, rfl, HX, HO, HF, HDr⟩ := hrel
    obtain ⟨wo, rfl⟩ : ∃ wo : World, wo = wr := ⟨_, rfl⟩
    have hwo : w.heap.size ≤ wo.heap.size := HDr.out.2.size
    by_cases hlt : k < n
    · go_wp2_with fail
      refine (c_l01Draw b n _ HDr.out.1 h1 h2).mono ?_; rintro e w3 ⟨rr, ys0, rfl, hyl, hor, hd3⟩
      rcases hor.open with ⟨_, h0⟩ | ⟨g, cs, hv, hgo, hblk, hmx⟩
      · rw [h0] at hyl; simp at hyl; omega
      rw [hyl] at hv hmx
      subst hv
      have HMX := Lib.hid hmx
      have HD2 := Lib.hid (HDr.out.trans hd3); have HB2 := Lib.hid hblk; have HY0 := Lib.hid hyl
      have HR2 := Lib.hid (HO.out.inn.keep hd3.2 (fun x h1 h2 e => by have e : x = b := e; omega))
      have HF2 := Lib.hid (And.intro (hd3.own HF.out.1 hbl) (And.intro HF.out.2 (HF.out.1.lt (k := gf) rfl).2))
      clear hor hd3 hblk hmx hyl HO HF HDr
      by_cases hk0 : kd = 0
      · subst hk0
        go_wp2
        go_loopw [10] (fun y wi => ∃ (j : Nat) (ys : List Int), j ≤ n ∧ y = .int .i64 j ∧ Hid (ys.length = n) ∧ Hid (Blk wi g 2 (ys.map (Value.int .i64) ++ cs)) ∧ Hid (OwnRowsIn w.heap.size wo.heap.size wi (.slice ta k tc) X) ∧ Hid (Own w.heap.size wi (.slice (some ⟨gf, 0, none⟩) n (n + cf.length)) fs ∧ fs.length = n ∧ gf < wo.heap.size) ∧ Hid (Drew b w wi)) (fun y _ => n - (intOf y).toNat)
        case atStart => exact ⟨0, ys0, Nat.zero_le _, rfl, HY0, HB2, HR2, HF2, HD2⟩
        case round =>
          clear HY0 HB2 HR2 HF2 HD2
          obtain ⟨j, ys, hj, rfl, HY, HBk, HR, HFs, HD⟩ := hrel
          obtain ⟨wi, rfl⟩ : ∃ wi : World, wi = wr := ⟨_, rfl⟩
          by_cases hlj : j < n
          · go_wp2_with fail
            refine (c_l01Next b n _ HD.out.1 (by omega) (by omega)).mono ?_; rintro e w4 ⟨z, rfl, z0, z1, hd⟩
            have hB4 := hd.blk HBk.out (by omega)
            have hl := HY.out
            have l1 := hB4.labN j (by omega)
            have f1 := hB4.frozen j
            have s1 := hB4.labSet (j : Int) (by omega) (by omega) z
            rw [Int.toNat_natCast] at s1
            have HS := Lib.hid s1
            have HRk := Lib.hid ((HR.out.keep hd.2 (fun x h1 h2 e => by have e : x = b := e; omega)).keep ((Keep.refl (fun x => x = g) w4).setCell (p := ⟨g, j, none⟩) (.inl rfl) (.int .i64 z)) (fun x h1 h2 e => by have e : x = g := e; have := hgo; omega))
            have HFk := Lib.hid (And.intro ((hd.own HFs.out.1 hbl).keep1 (p := ⟨g, j, none⟩) (.int .i64 z) (fun e => by simp [Value.ownBlock] at e; have := HFs.out.2.2; have := hgo; omega)) HFs.out.2)
            have HDk := Lib.hid (drew_set (HD.out.trans hd) (p := ⟨g, j, none⟩) (by show w.heap.size ≤ g; have := hgo; have := hwo; omega) (by show b < g; have := hgo; have := hwo; omega) (.int .i64 z))
            clear hB4 hl s1 hd
            go_wp2
            go_roundw
            case rel => exact ⟨j + 1, _, by omega, by go_num, Lib.hid (by simpa using HY.out), HS, HRk, HFk, HDk⟩
            case measure => simp [intOf]; omega
          · have HRI := Lib.hid HR.out
            have HFi := Lib.hid HFs.out
            have HDi := Lib.hid HD.out
            have HYs := Lib.hid HY.out
            have HOr := Lib.hid (Own.shut HBk.out (Nat.le_refl _) (by rw [HYs.out]; exact HMX.out) HYs.out.symm (by rw [HYs.out]) : Own g wi (.slice (some ⟨g, 0, none⟩) n (n + cs.length)) ys)
            have HSz : Hid (wo.heap.size ≤ wi.heap.size ∧ w.heap.size ≤ wi.heap.size) := Lib.hid ⟨by have := HOr.out.lt (k := g) rfl; have := hgo; omega, by have := HDi.out.2.size; omega⟩
            go_wp2_with (at_builtin; refine wpList_app_row2 w.heap.size wo.heap.size wi _ X _ ys _ _ rfl rfl rfl HRI.out (HOr.out.mono (by have := hgo; omega)) rfl (by have := HX.out.1; omega) (by have := hwo; omega) HSz.out.2 ?_; intro ga gc w9 hown hkeep hor; have HOwn := Lib.hid hown; have HKp := Lib.hid hkeep; clear hown hkeep hor)
            go_roundw
            case rel =>
              have hX := HX.out
              refine ⟨k + 1, X ++ [ys], some ⟨ga, 0, none⟩, gc, by omega, by go_num, by rw [hX.1], Lib.hid ⟨by simp [hX.1], fun r hr => ?_⟩, Lib.hid (by have h := HOwn.out; rw [hX.1] at h; exact h), Lib.hid ⟨HFi.out.1.keepR HRI.out.out HKp.out, HFi.out.2.1⟩, Lib.hid (drew_app HDi.out HRI.out.out HKp.out hbl)⟩
              rcases List.mem_append.1 hr with h | h
              · exact hX.2 r h
              · simp at h; subst h; exact HYs.out
            case measure => simp [intOf]; omega
      · by_cases hk1 : kd = 1
        · subst hk1
          go_wp2
          go_loopw [11] (fun y wi => ∃ (j : Nat) (ys : List Int), j ≤ n ∧ y = .int .i64 j ∧ Hid (ys.length = n) ∧ Hid (Blk wi g 2 (ys.map (Value.int .i64) ++ cs)) ∧ Hid (OwnRowsIn w.heap.size wo.heap.size wi (.slice ta k tc) X) ∧ Hid (Own w.heap.size wi (.slice (some ⟨gf, 0, none⟩) n (n + cf.length)) fs ∧ fs.length = n ∧ gf < wo.heap.size) ∧ Hid (Drew b w wi)) (fun y _ => n - (intOf y).toNat)
          case atStart => exact ⟨0, ys0, Nat.zero_le _, rfl, HY0, HB2, HR2, HF2, HD2⟩
          case round =>
            clear HY0 HB2 HR2 HF2 HD2
            obtain ⟨j, ys, hj, rfl, HY, HBk, HR, HFs, HD⟩ := hrel
            obtain ⟨wi, rfl⟩ : ∃ wi : World, wi = wr := ⟨_, rfl⟩
            by_cases hlj : j < n
            · have hmod0 := Int.emod_nonneg ((k : Int) + (j : Int)) (show (n : Int) ≠ 0 by omega)
              have hmod1 := Int.emod_lt_of_pos ((k : Int) + (j : Int)) (show (0 : Int) < n by omega)
              obtain ⟨u, hu⟩ : ∃ u : Nat, ((k : Int) + (j : Int)) % (n : Int) = u := ⟨(((k : Int) + (j : Int)) % (n : Int)).toNat, by omega⟩
              have hun : u < n := by omega
              obtain ⟨_, _, e1, hcf⟩ := HFs.out.1.ints.get u (by rw [HFs.out.2.1]; exact hun)
              injection e1 with e1; injection e1 with e1 e2; subst e1 e2
              rw [Nat.zero_add] at hcf
              have hl := HY.out
              have l1 := HBk.out.labN j (by omega)
              have f1 := HBk.out.frozen j
              obtain ⟨z, hz⟩ : ∃ z, nth fs u = z := ⟨_, rfl⟩
              rw [hz] at hcf
              have s1 := HBk.out.labSet (j : Int) (by omega) (by omega) z
              rw [Int.toNat_natCast] at s1
              have HS := Lib.hid s1
              have HRk := Lib.hid (HR.out.keep ((Keep.refl (fun x => x = g) wi).setCell (p := ⟨g, j, none⟩) (.inl rfl) (.int .i64 z)) (fun x h1 h2 e => by have e : x = g := e; have := hgo; omega))
              have HFk := Lib.hid (And.intro (HFs.out.1.keep1 (p := ⟨g, j, none⟩) (.int .i64 z) (fun e => by simp [Value.ownBlock] at e; have := HFs.out.2.2; have := hgo; omega)) HFs.out.2)
              have HDk := Lib.hid (drew_set HD.out (p := ⟨g, j, none⟩) (by show w.heap.size ≤ g; have := hgo; have := hwo; omega) (by show b < g; have := hgo; have := hwo; omega) (.int .i64 z))
              clear hl s1 hz hmod0 hmod1
              go_wp2
              go_roundw
              case rel => exact ⟨j + 1, _, by omega, by go_num, Lib.hid (by simpa using HY.out), HS, HRk, HFk, HDk⟩
              case measure => simp [intOf]; omega
            · have HRI := Lib.hid HR.out
              have HFi := Lib.hid HFs.out
              have HDi := Lib.hid HD.out
              have HYs := Lib.hid HY.out
              have HOr := Lib.hid (Own.shut HBk.out (Nat.le_refl _) (by rw [HYs.out]; exact HMX.out) HYs.out.symm (by rw [HYs.out]) : Own g wi (.slice (some ⟨g, 0, none⟩) n (n + cs.length)) ys)
              have HSz : Hid (wo.heap.size ≤ wi.heap.size ∧ w.heap.size ≤ wi.heap.size) := Lib.hid ⟨by have := HOr.out.lt (k := g) rfl; have := hgo; omega, by have := HDi.out.2.size; omega⟩
              go_wp2_with (at_builtin; refine wpList_app_row2 w.heap.size wo.heap.size wi _ X _ ys _ _ rfl rfl rfl HRI.out (HOr.out.mono (by have := hgo; omega)) rfl (by have := HX.out.1; omega) (by have := hwo; omega) HSz.out.2 ?_; intro ga gc w9 hown hkeep hor; have HOwn := Lib.hid hown; have HKp := Lib.hid hkeep; clear hown hkeep hor)
              go_roundw
              case rel =>
                have hX := HX.out
                refine ⟨k + 1, X ++ [ys], some ⟨ga, 0, none⟩, gc, by omega, by go_num, by rw [hX.1], Lib.hid ⟨by simp [hX.1], fun r hr => ?_⟩, Lib.hid (by have h := HOwn.out; rw [hX.1] at h; exact h), Lib.hid ⟨HFi.out.1.keepR HRI.out.out HKp.out, HFi.out.2.1⟩, Lib.hid (drew_app HDi.out HRI.out.out HKp.out hbl)⟩
                rcases List.mem_append.1 hr with h | h
                · exact hX.2 r h
                · simp at h; subst h; exact HYs.out
              case measure => simp [intOf]; omega
        · have hz0 : (kd == 0) = false := by simp [hk0]
          have hz1 : (kd == 1) = false := by simp [hk1]
          have HRI := Lib.hid HR2.out
          have HFi := Lib.hid HF2.out
          have HDi := Lib.hid HD2.out
          have HYs := Lib.hid HY0.out
          have HOr := Lib.hid (Own.shut HB2.out (Nat.le_refl _) (by rw [HYs.out]; exact HMX.out) HYs.out.symm (by rw [HYs.out]) : Own g w3 (.slice (some ⟨g, 0, none⟩) n (n + cs.length)) ys0)
          have HSz : Hid (wo.heap.size ≤ w3.heap.size ∧ w.heap.size ≤ w3.heap.size) := Lib.hid ⟨by have := HOr.out.lt (k := g) rfl; have := hgo; omega, by have := HDi.out.2.size; omega⟩
          go_wp2_with (at_builtin; refine wpList_app_row2 w.heap.size wo.heap.size w3 _ X _ ys0 _ _ rfl rfl rfl HRI.out (HOr.out.mono (by have := hgo; omega)) rfl (by have := HX.out.1; omega) (by have := hwo; omega) HSz.out.2 ?_; intro ga gc w9 hown hkeep hor; have HOwn := Lib.hid hown; have HKp := Lib.hid hkeep; clear hown hkeep hor)
          go_roundw
          case rel =>
            have hX := HX.out
            refine ⟨k + 1, X ++ [ys0], some ⟨ga, 0, none⟩, gc, by omega, by go_num, by rw [hX.1], Lib.hid ⟨by simp [hX.1], fun r hr => ?_⟩, Lib.hid (by have h := HOwn.out; rw [hX.1] at h; exact h), Lib.hid ⟨HFi.out.1.keepR HRI.out.out HKp.out, HFi.out.2.1⟩, Lib.hid (drew_app HDi.out HRI.out.out HKp.out hbl)⟩
            rcases List.mem_append.1 hr with h | h
            · exact hX.2 r h
            · simp at h; subst h; exact HYs.out
          case measure => simp [intOf]; omega
    · obtain rfl : n = k := by omega
      go_wp2
      go_ret
      exact ⟨_, X, rfl, HX.out.1, HX.out.2, HO.out, HDr.out⟩
end Go.Proofs.Ytgmhnjccgldddaa

namespace Go.Proofs.Ytgmhnjccgldddaa
set_option linter.unusedVariables false
set_option linter.unusedSimpArgs false
open Go Go.RowKit

theorem OwnRowsIn.put {lo hi : Nat} {w : World} {sa : Option Addr} {n c : Nat} {t : List (List Int)} (h : OwnRowsIn lo hi w (.slice sa n c) t) {u y m : Nat} (hu : u < t.length) (hm : (row t u).length = m) (hy : y < m) :
    ∃ b g cr z0, sa = some ⟨b, 0, none⟩ ∧ lo ≤ b ∧ b < hi ∧ lo ≤ g ∧ g < hi ∧ b ≠ g ∧ w.cell? ⟨b, u, none⟩ = some (.slice (some ⟨g, 0, none⟩) m cr) ∧ w.cell? ⟨g, y, none⟩ = some z0 ∧ w.frozen? ⟨g, y, none⟩ = false ∧
      ∀ z : Int, OwnRowsIn lo hi (w.setCell ⟨g, y, none⟩ (.int .i64 z)) (.slice sa n c) (t.set u ((row t u).set y z)) := by
  obtain ⟨us, h1, h2, h3, h4⟩ := h
  have hul : u < us.length := by rw [h2.len]; exact hu
  obtain ⟨a, c', hv, _, _, hc⟩ := ownsRow_cells h1
  obtain ⟨b, hab, hcell⟩ := hc u hul
  injection hv with e1 e2 e3
  subst e1 hab
  have hrow : t[u] = row t u := (row_nat t u hu).symm
  have hown := h2.own u hul hu
  rcases hown.open with ⟨_, k2⟩ | ⟨g, cs, k1, k2, k3, k4⟩
  · rw [hrow] at k2; rw [k2] at hm; simp at hm; omega
  · have hy' : y < (t[u]).length := by rw [hrow]; omega
    have hv1 : us[u] = .slice (some ⟨g, 0, none⟩) m ((t[u]).length + cs.length) := by rw [k1, hrow, hm]
    have hput := fun z => h2.put hul hu hv1 hy' z
    obtain ⟨p1, p2⟩ := h2.cellAt hul hu hv1 hy'
    have hg := h4 u hul g (by rw [hv1]; rfl)
    have hb1 := World.ownsRow.lt h1 b rfl
    have hbg : b ≠ g := by
      obtain ⟨hl, hn | ⟨g', cap, cur, hv', hb', hg', r⟩⟩ := h1
      · simp at hn
      · injection hv' with e1 e2 e3
        injection e1 with e1
        injection e1 with e1
        subst e1
        have := hown.ne (g := b) (t := 26) (cs := cur.toList) (by unfold Blk; simpa using hg') (by decide)
        intro e
        apply this
        rw [hv1, e]; rfl
    refine ⟨b, g, _, _, rfl, hb1.1, h3 b rfl, k2, hg, hbg, by rw [hcell, hv1], p1, p2, fun z => ⟨us, ?_, ?_, h3, h4⟩⟩
    · refine ownsRow_ne h1 hown ?_
      rw [hv1]
      exact keepB _ _ _ _ _ _
    · have := hput z
      rw [hrow] at this; exact this

/-- Two tables side by side, apart from a box q. -/
def TwoIn (lo q : Nat) (W : World) (va vb : Value) (X Y : List (List Int)) : Prop :=
  ∃ l1 h1 l2 h2, lo ≤ l1 ∧ lo ≤ l2 ∧ h1 ≤ l2 ∧ h1 ≤ W.heap.size ∧ h2 ≤ W.heap.size ∧ (h1 ≤ q ∨ q < l1) ∧ (h2 ≤ q ∨ q < l2) ∧ OwnRowsIn l1 h1 W va X ∧ OwnRowsIn l2 h2 W vb Y
theorem size_set (w : World) (a : Addr) (v : Value) : (w.setCell a v).heap.size = w.heap.size := by simp [World.setCell]
theorem TwoIn.keep {lo q : Nat} {S : Nat → Prop} {W W' : World} {va vb : Value} {X Y : List (List Int)} (h : TwoIn lo q W va vb X Y) (k : Keep S W W') (hS : ∀ b, lo ≤ b → b ≠ q → b < W.heap.size → ¬ S b) : TwoIn lo q W' va vb X Y := by
  obtain ⟨l1, h1, l2, h2, a, b, c, d1, d, e, f, o1, o2⟩ := h
  have hs := k.size
  exact ⟨l1, h1, l2, h2, a, b, c, by omega, by omega, e, f, o1.keep k (fun x x1 x2 => hS x (by omega) (by omega) (by omega)), o2.keep k (fun x x1 x2 => hS x (by omega) (by omega) (by omega))⟩
theorem TwoIn.under {lo q : Nat} {W W' : World} {va vb : Value} {X Y : List (List Int)} (h : TwoIn lo q W va vb X Y) (hb : Below W.heap.size W W') : TwoIn lo q W' va vb X Y :=
  h.keep (S := fun b => W.heap.size ≤ b) (Keep.of_below hb) fun x _ _ x1 x2 => by omega
/-- An entry of each written, in either order. -/
theorem TwoIn.put {lo q : Nat} {W : World} {sa sb : Option Addr} {n c n' c' : Nat} {X Y : List (List Int)} (h : TwoIn lo q W (.slice sa n c) (.slice sb n' c') X Y) {u y m m' : Nat}
    (hu : u < X.length) (hu' : u < Y.length) (hm : (row X u).length = m) (hm' : (row Y u).length = m') (hy : y < m) (hy' : y < m') :
    ∃ b1 g1 r1 b2 g2 r2 z1 z2, sa = some ⟨b1, 0, none⟩ ∧ sb = some ⟨b2, 0, none⟩ ∧ (lo ≤ b1 ∧ lo ≤ g1 ∧ lo ≤ b2 ∧ lo ≤ g2) ∧ (q ≠ b1 ∧ q ≠ g1 ∧ q ≠ b2 ∧ q ≠ g2) ∧ (b1 ≠ g1 ∧ b1 ≠ g2 ∧ b2 ≠ g1 ∧ b2 ≠ g2 ∧ g1 ≠ g2) ∧
      W.cell? ⟨b1, u, none⟩ = some (.slice (some ⟨g1, 0, none⟩) m r1) ∧ W.cell? ⟨b2, u, none⟩ = some (.slice (some ⟨g2, 0, none⟩) m' r2) ∧ W.cell? ⟨g1, y, none⟩ = some z1 ∧ W.frozen? ⟨g1, y, none⟩ = false ∧ W.cell? ⟨g2, y, none⟩ = some z2 ∧ W.frozen? ⟨g2, y, none⟩ = false ∧
      (∀ s t : Int, TwoIn lo q ((W.setCell ⟨g1, y, none⟩ (.int .i64 s)).setCell ⟨g2, y, none⟩ (.int .i64 t)) (.slice sa n c) (.slice sb n' c') (X.set u ((row X u).set y s)) (Y.set u ((row Y u).set y t))) ∧
      ∀ s t : Int, TwoIn lo q ((W.setCell ⟨g2, y, none⟩ (.int .i64 t)).setCell ⟨g1, y, none⟩ (.int .i64 s)) (.slice sa n c) (.slice sb n' c') (X.set u ((row X u).set y s)) (Y.set u ((row Y u).set y t)) := by
  obtain ⟨l1, h1, l2, h2, a, b, cc, d1, d, e, f, o1, o2⟩ := h
  have ok1 := fun (W' : World) (o : OwnRowsIn l1 h1 W' (.slice sa n c) X) => o.put hu hm hy
  obtain ⟨b1, g1, r1, z1, rfl, p1, p2, p3, p4, p5, p6, p7, p8, p9⟩ := o1.put hu hm hy
  obtain ⟨b2, g2, r2, z2, rfl, k1, k2, k3, k4, k5, k6, k7, k8, k9⟩ := o2.put hu' hm' hy'
  refine ⟨b1, g1, r1, b2, g2, r2, z1, z2, rfl, rfl, ⟨by omega, by omega, by omega, by omega⟩, ⟨by omega, by omega, by omega, by omega⟩, ⟨by omega, by omega, by omega, by omega, by omega⟩, p6, k6, p7, p8, k7, k8, ?_, ?_⟩
  · intro s t
    have kk := (Keep.refl (fun x => x = g1) W).setCell (p := ⟨g1, y, none⟩) (.inl rfl) (.int .i64 s)
    have o2' := o2.keep kk (fun x x1 x2 e => by omega)
    obtain ⟨b2', g2', r2', z2', hb', _, _, _, _, _, j6, _, _, j9⟩ := o2'.put hu' hm' hy'
    have k6' : (W.setCell ⟨g1, y, none⟩ (.int .i64 s)).cell? ⟨b2, u, none⟩ = some (.slice (some ⟨g2, 0, none⟩) m' r2) := (World.cell?_of_block (w := W) (kk.block b2 (cell_lt k6) (by omega))).trans k6
    injection hb' with hb'; injection hb' with hb'; subst hb'
    rw [k6'] at j6
    injection j6 with j6; injection j6 with j6; injection j6 with j6; injection j6 with j6; subst j6
    have kk2 := (Keep.refl (fun x => x = g2) (W.setCell ⟨g1, y, none⟩ (.int .i64 s))).setCell (p := ⟨g2, y, none⟩) (.inl rfl) (.int .i64 t)
    exact ⟨l1, h1, l2, h2, a, b, cc, by rw [size_set, size_set]; exact d1, by rw [size_set, size_set]; exact d, e, f, (p9 s).keep kk2 (fun x x1 x2 e => by omega), j9 t⟩
  · intro s t
    have kk := (Keep.refl (fun x => x = g2) W).setCell (p := ⟨g2, y, none⟩) (.inl rfl) (.int .i64 t)
    have o1' := o1.keep kk (fun x x1 x2 e => by omega)
    obtain ⟨b1', g1', r1', z1', hb', _, _, _, _, _, j6, _, _, j9⟩ := o1'.put hu hm hy
    have k6' : (W.setCell ⟨g2, y, none⟩ (.int .i64 t)).cell? ⟨b1, u, none⟩ = some (.slice (some ⟨g1, 0, none⟩) m r1) := (World.cell?_of_block (w := W) (kk.block b1 (cell_lt p6) (by omega))).trans p6
    injection hb' with hb'; injection hb' with hb'; subst hb'
    rw [k6'] at j6
    injection j6 with j6; injection j6 with j6; injection j6 with j6; injection j6 with j6; subst j6
    have kk2 := (Keep.refl (fun x => x = g1) (W.setCell ⟨g2, y, none⟩ (.int .i64 t))).setCell (p := ⟨g1, y, none⟩) (.inl rfl) (.int .i64 s)
    exact ⟨l1, h1, l2, h2, a, b, cc, by rw [size_set, size_set]; exact d1, by rw [size_set, size_set]; exact d, e, f, j9 s, (k9 t).keep kk2 (fun x x1 x2 e => by omega)⟩
end Go.Proofs.Ytgmhnjccgldddaa

namespace Go.Proofs.Ytgmhnjccgldddaa
set_option linter.unusedVariables false
set_option linter.unusedSimpArgs false
open Go.RowKit

theorem Own.keepN {B : Nat} {S : Nat → Prop} {w w' : World} {v : Value} {xs : List Int} (h : Own B w v xs) (k : Keep S w w') (hs : ∀ b, v.ownBlock = some b → ¬ S b) : Own B w' v xs := by
  obtain ⟨hl, h | ⟨g, cap, cur, hv, hb, hg, r⟩⟩ := h
  · exact ⟨hl, .inl h⟩
  · exact ⟨hl, .inr ⟨g, cap, cur, hv, hb, by rw [k.block g (Array.getElem?_eq_some_iff.1 hg).1 (hs g (by rw [hv]; rfl))]; exact hg, r⟩⟩

/-- Two tables in the variable at block q; all of them below m. -/
structure Out2 (lo m q : Nat) (w : World) (va vb : Value) (A B : List (List Int)) : Prop where
  ql : q < lo
  lm : lo ≤ m
  mw : m ≤ w.heap.size
  blk : Blk w q 29 [va, vb]
  a : OwnRowsIn lo m w va A
  b : OwnRowsIn lo m w vb B
  ne : ∀ k, va.ownBlock = some k → vb.ownBlock ≠ some k
/-- .. the first of them has grown. -/
structure Out2h (lo m q : Nat) (w : World) (va vb : Value) (A B : List (List Int)) : Prop where
  ql : q < lo
  lm : lo ≤ m
  mw : m ≤ w.heap.size
  blk : Blk w q 29 [va, vb]
  a : OwnRows lo w va A
  b : OwnRowsIn lo m w vb B
  ne : ∀ k, va.ownBlock = some k → vb.ownBlock ≠ some k

theorem OwnRowsIn.ltv {lo m : Nat} {w : World} {v : Value} {A : List (List Int)} (h : OwnRowsIn lo m w v A) {k : Nat} (hk : v.ownBlock = some k) : lo ≤ k ∧ k < m ∧ k < w.heap.size := by
  obtain ⟨us, h1, h2, h3, h4⟩ := h
  have := World.ownsRow.lt h1 k hk
  exact ⟨this.1, h3 k hk, this.2⟩

theorem Out2.under {lo m q : Nat} {w w' : World} {va vb : Value} {A B : List (List Int)} (h : Out2 lo m q w va vb A B) (hb : Below w.heap.size w w') : Out2 lo m q w' va vb A B :=
  ⟨h.ql, h.lm, Nat.le_trans h.mw hb.size, h.blk.under hb, h.a.under hb, h.b.under hb, h.ne⟩
theorem Out2.start {lo q : Nat} {w : World} (hq : q < lo) (hl : lo ≤ w.heap.size) (hb : Blk w q 29 [.slice none 0 0, .slice none 0 0]) : Out2 lo w.heap.size q w (.slice none 0 0) (.slice none 0 0) [] [] :=
  ⟨hq, hl, Nat.le_refl _, hb, OwnRowsIn.nil0 _ _ _, OwnRowsIn.nil0 _ _ _, by intro k hk; cases hk⟩

/-- 'out.First = append(out.First, first)'. -/
theorem Out2.app1 {lo m q : Nat} {w w' : World} {va vb : Value} {A B : List (List Int)} {xs : List Int} {g l c : Nat} (h : Out2 lo m q w va vb A B) (ho : OwnRows lo w' (.slice (some ⟨g, 0, none⟩) l c) (A ++ [xs]))
    (hk : Keep (fun b => va.ownBlock = some b) w w') (hg : va.ownBlock = some g ∨ w.heap.size ≤ g) :
    Out2h lo m q (w'.setCell ⟨q, 0, none⟩ (.slice (some ⟨g, 0, none⟩) l c)) (.slice (some ⟨g, 0, none⟩) l c) vb (A ++ [xs]) B := by
  have hq := h.ql; have hl := h.lm; have hm := h.mw
  have hsz := hk.size
  have hva : ∀ b, va.ownBlock = some b → lo ≤ b ∧ b < m := fun b e => ⟨(h.a.ltv e).1, (h.a.ltv e).2.1⟩
  have hvb : ∀ b, vb.ownBlock = some b → lo ≤ b ∧ b < m := fun b e => ⟨(h.b.ltv e).1, (h.b.ltv e).2.1⟩
  have hblk := h.blk.of_block (hk.block _ h.blk.lt (fun e => by have := hva _ e; omega))
  refine ⟨hq, hl, by simp [World.setCell]; omega, hblk.set 0 _, ?_, ?_, ?_⟩
  · exact ho.keep (keep1 w' q 0 _) (fun b h1 _ h3 => by have h3 : b = q := h3; omega)
  · have h1 := h.b.keepT (h.a.out) (fun b e1 e2 => h.ne b e2 e1) hk
    exact h1.keep (keep1 w' q 0 _) (fun b h1 _ h3 => by have h3 : b = q := h3; omega)
  · intro k e e2
    simp [Value.ownBlock] at e
    subst e
    rcases hg with hg | hg
    · exact h.ne _ hg e2
    · have := hvb _ e2; omega
/-- 'out.Second = append(out.Second, second)'. -/
theorem Out2h.app2 {lo m q : Nat} {w w' : World} {va vb : Value} {A B : List (List Int)} {xs : List Int} {g l c : Nat} (h : Out2h lo m q w va vb A B) (ho : OwnRows lo w' (.slice (some ⟨g, 0, none⟩) l c) (B ++ [xs]))
    (hk : Keep (fun b => vb.ownBlock = some b) w w') (hg : vb.ownBlock = some g ∨ w.heap.size ≤ g) :
    Out2 lo (w'.setCell ⟨q, 1, none⟩ (.slice (some ⟨g, 0, none⟩) l c)).heap.size q (w'.setCell ⟨q, 1, none⟩ (.slice (some ⟨g, 0, none⟩) l c)) va (.slice (some ⟨g, 0, none⟩) l c) A (B ++ [xs]) := by
  have hq := h.ql; have hl := h.lm; have hm := h.mw
  have hsz := hk.size
  have hva : ∀ b, va.ownBlock = some b → lo ≤ b ∧ b < w.heap.size := fun b e => OwnRows.lt h.a e
  have hvb : ∀ b, vb.ownBlock = some b → lo ≤ b ∧ b < m := fun b e => ⟨(h.b.ltv e).1, (h.b.ltv e).2.1⟩
  have hblk := h.blk.of_block (hk.block _ h.blk.lt (fun e => by have := hvb _ e; omega))
  refine ⟨hq, by simp [World.setCell]; omega, Nat.le_refl _, hblk.set 1 _, ?_, ?_, ?_⟩
  · have h1 := h.a.keepT (h.b.out) (fun b e1 e2 => h.ne b e1 e2) hk
    exact (h1.keep (keep1 w' q 1 _) (fun b h1 _ h3 => by have h3 : b = q := h3; omega)).inn
  · exact (ho.keep (keep1 w' q 1 _) (fun b h1 _ h3 => by have h3 : b = q := h3; omega)).inn
  · intro k e e2
    simp [Value.ownBlock] at e2
    subst e2
    rcases hg with hg | hg
    · exact h.ne _ e hg
    · have := hva _ e; omega
theorem Out2.blkq {lo m q : Nat} {w w' : World} {va vb : Value} {A B : List (List Int)} (h : Out2 lo m q w va vb A B) (hk : Keep (fun b => va.ownBlock = some b) w w') : Blk w' q 29 [va, vb] := by
  have hq := h.ql
  exact h.blk.of_block (hk.block _ h.blk.lt (fun e => by have := (h.a.ltv e).1; omega))
theorem Out2h.blkq {lo m q : Nat} {w w' : World} {va vb : Value} {A B : List (List Int)} (h : Out2h lo m q w va vb A B) (hk : Keep (fun b => vb.ownBlock = some b) w w') : Blk w' q 29 [va, vb] := by
  have hq := h.ql
  exact h.blk.of_block (hk.block _ h.blk.lt (fun e => by have := (h.b.ltv e).1; omega))
/-- A row that the call has made since stays as it was. -/
theorem Out2.row1 {lo m q : Nat} {w w' : World} {va vb u : Value} {A B : List (List Int)} {ys : List Int} (h : Out2 lo m q w va vb A B) (hu : Own m w u ys) (hk : Keep (fun b => va.ownBlock = some b) w w') (x : Value) : Own m (w'.setCell ⟨q, 0, none⟩ x) u ys := by
  have hq := h.ql; have hl := h.lm
  have h1 := hu.keep hk (fun b h1 _ h3 => by have := (h.a.ltv h3).2.1; omega)
  exact h1.keep (keep1 w' q 0 _) (fun b h1 _ h3 => by have h3 : b = q := h3; omega)
theorem Out2.frame1 {lo m q B0 : Nat} {w0 w w' : World} {va vb : Value} {A B : List (List Int)} (h : Out2 lo m q w va vb A B) (hb : Below B0 w0 w) (h0 : B0 ≤ q) (hk : Keep (fun b => va.ownBlock = some b) w w') (x : Value) : Below B0 w0 (w'.setCell ⟨q, 0, none⟩ x) := by
  have hq := h.ql; have hl := h.lm; have hm := h.mw
  exact (OwnRows.frame h.a.out hb (by omega) (by omega) hk).setCell (p := ⟨q, 0, none⟩) h0 x
theorem Out2h.frame2 {lo m q B0 : Nat} {w0 w w' : World} {va vb : Value} {A B : List (List Int)} (h : Out2h lo m q w va vb A B) (hb : Below B0 w0 w) (h0 : B0 ≤ q) (hk : Keep (fun b => vb.ownBlock = some b) w w') (x : Value) : Below B0 w0 (w'.setCell ⟨q, 1, none⟩ x) := by
  have hq := h.ql; have hl := h.lm; have hm := h.mw
  exact (OwnRows.frame h.b.out hb (by omega) (by omega) hk).setCell (p := ⟨q, 1, none⟩) h0 x
/-- A block outside of both tables stays as it was. -/
theorem Out2.blk1 {lo m q p : Nat} {w w' : World} {va vb : Value} {A B : List (List Int)} {t : TypeId} {cs : List Value} (h : Out2 lo m q w va vb A B) (hp : p < q) (hB : Blk w p t cs) (hk : Keep (fun b => va.ownBlock = some b) w w') (x : Value) : Blk (w'.setCell ⟨q, 0, none⟩ x) p t cs := by
  have hq := h.ql
  exact (hB.of_block (hk.block _ hB.lt (fun e => by have := (h.a.ltv e).1; omega))).other (a := ⟨q, 0, none⟩) (by show p ≠ q; omega) x
theorem Out2h.blk2 {lo m q p : Nat} {w w' : World} {va vb : Value} {A B : List (List Int)} {t : TypeId} {cs : List Value} (h : Out2h lo m q w va vb A B) (hp : p < q) (hB : Blk w p t cs) (hk : Keep (fun b => vb.ownBlock = some b) w w') (x : Value) : Blk (w'.setCell ⟨q, 1, none⟩ x) p t cs := by
  have hq := h.ql
  exact (hB.of_block (hk.block _ hB.lt (fun e => by have := (h.b.ltv e).1; omega))).other (a := ⟨q, 1, none⟩) (by show p ≠ q; omega) x

theorem wpList_app_int2 {ops : Array Oper} {rest : List Oper} {o : Oper} {a : Act} {Q : Exit → Act → World → Prop} (B : Nat) (w : World) (v : Value) (xs : List Int) (y : Int) (s x : Operand) (sz : Nat) (hsz : sz = w.heap.size) (hgd : o.guard = none)
    (ho : o.op = .call { callee := .builtin .append, args := #[s, x], argTypes := #[26, 26] })
    (hs : a.eval s = v) (hown : Own B w v xs) (hx : a.eval x = .slice (some ⟨sz, 0, none⟩) 1 1) (hn : xs.length ≤ 1099511627776) (hB2 : B ≤ w.heap.size)
    (h : ∀ g c' w', Own B w' (.slice (some ⟨g, 0, none⟩) (xs.length + 1) c') (xs ++ [y]) → Keep (fun b => v.ownBlock = some b) w w' → (v.ownBlock = some g ∨ w.heap.size ≤ g) → wpList Try.prog ops Q rest (a.put o.dst (.slice (some ⟨g, 0, none⟩) (xs.length + 1) c')) w') :
    wpList Try.prog ops Q (o :: rest) a (w.alloc (.cells #[.int .i64 y] 2)) := by
  subst hsz
  exact wpList_plain hgd fun _ hK => wp_app_int B w v xs y s x ho hs hown hx hn hB2 fun g c' w' h2 h3 h4 => hK _ _ (h g c' w' h2 h3 h4)
theorem wpList_app_row2s {ops : Array Oper} {rest : List Oper} {o : Oper} {a : Act} {Q : Exit → Act → World → Prop} (B m : Nat) (w : World) (v : Value) (xss : List (List Int)) (u : Value) (xs : List Int) (s x : Operand) (sz : Nat) (hsz : sz = w.heap.size) (hgd : o.guard = none)
    (ho : o.op = .call { callee := .builtin .append, args := #[s, x], argTypes := #[22, 22] })
    (hs : a.eval s = v) (hown : OwnRowsIn B m w v xss) (hu : Own m w u xs) (hx : a.eval x = .slice (some ⟨sz, 0, none⟩) 1 1) (hn : xss.length ≤ 1099511627776) (hB : B ≤ m) (hB2 : B ≤ w.heap.size)
    (h : ∀ g c' w', OwnRows B w' (.slice (some ⟨g, 0, none⟩) (xss.length + 1) c') (xss ++ [xs]) → Keep (fun b => v.ownBlock = some b) w w' → (v.ownBlock = some g ∨ w.heap.size ≤ g) → wpList Try.prog ops Q rest (a.put o.dst (.slice (some ⟨g, 0, none⟩) (xss.length + 1) c')) w') :
    wpList Try.prog ops Q (o :: rest) a (w.alloc (.cells #[u] 26)) := by
  subst hsz
  exact wpList_app_row2 B m w v xss u xs s x hgd ho hs hown hu hx hn hB hB2 h

/-- A pair of tables of the call's own (not apart from each other), beside a code. -/
def RSolRO (w0 : World) (A B : List (List Int)) (c : Int) (e : Ending) (w' : World) : Prop :=
  ∃ r1 r2, e = .returned (.tuple #[.agg #[r1, r2], .int .i64 c]) ∧ (OwnRows w0.heap.size w' r1 A ∧ OwnRows w0.heap.size w' r2 B) ∧ Below w0.heap.size w0 w'
theorem storedO {w w2 : World} {r1 r2 : Value} {A B : List (List Int)} {lo q : Nat} (hB : Below w.heap.size w w2) (hs : OwnRows lo w2 r1 A ∧ OwnRows lo w2 r2 B) (hq : w.heap.size ≤ q) (hlo : q < lo) :
    (OwnRows w.heap.size ((w2.setCell ⟨q, 0, none⟩ r1).setCell ⟨q, 1, none⟩ r2) r1 A ∧ OwnRows w.heap.size ((w2.setCell ⟨q, 0, none⟩ r1).setCell ⟨q, 1, none⟩ r2) r2 B) ∧ Below w.heap.size w ((w2.setCell ⟨q, 0, none⟩ r1).setCell ⟨q, 1, none⟩ r2) := by
  have k : Keep (fun b => b = q) w2 ((w2.setCell ⟨q, 0, none⟩ r1).setCell ⟨q, 1, none⟩ r2) := ((Keep.refl (fun b => b = q) w2).setCell (p := ⟨q, 0, none⟩) (.inl rfl) _).setCell (p := ⟨q, 1, none⟩) (.inl rfl) _
  exact ⟨⟨(hs.1.keep k (fun b h1 _ h3 => by omega)).mono (by omega), (hs.2.keep k (fun b h1 _ h3 => by omega)).mono (by omega)⟩, (hB.setCell (p := ⟨q, 0, none⟩) hq _).setCell (p := ⟨q, 1, none⟩) hq _⟩
/-- The box of a result, laid ahead of the call and filled behind it. -/
theorem box_early {w3 : World} {q : Nat} {u v a b : Value} {t : TypeId} (h : Blk w3 q t [u, v]) : Blk ((w3.setCell ⟨q, 0, none⟩ a).setCell ⟨q, 1, none⟩ b) q t [a, b] := (h.set 0 a).set 1 b
theorem keep_early (w3 : World) (q : Nat) (a b : Value) : Keep (fun k => k = q) w3 ((w3.setCell ⟨q, 0, none⟩ a).setCell ⟨q, 1, none⟩ b) :=
  ((Keep.refl (fun k => k = q) w3).setCell (p := ⟨q, 0, none⟩) (.inl rfl) _).setCell (p := ⟨q, 1, none⟩) (.inl rfl) _
theorem keep_late (w3 : World) (o : Obj) : Keep (fun k => k = w3.heap.size) w3 (w3.alloc o) := (Keep.refl _ w3).alloc o

/-- Two lists of the call's own that grow side by side. -/
structure Two (B : Nat) (w : World) (u v : Value) (xs ys : List Int) : Prop where
  a : Own B w u xs
  b : Own B w v ys
  ne : ∀ k, u.ownBlock = some k → v.ownBlock ≠ some k
theorem Two.app1 {B g l c : Nat} {w w' : World} {u v : Value} {xs ys : List Int} {x : Int} (h : Two B w u v xs ys) (ho : Own B w' (.slice (some ⟨g, 0, none⟩) l c) (xs ++ [x])) (hk : Keep (fun b => u.ownBlock = some b) w w') (hg : u.ownBlock = some g ∨ w.heap.size ≤ g) :
    Two B w' (.slice (some ⟨g, 0, none⟩) l c) v (xs ++ [x]) ys := by
  refine ⟨ho, h.b.keepN hk (fun b e1 e2 => h.ne b e2 e1), ?_⟩
  intro k e e2
  simp [Value.ownBlock] at e
  subst e
  rcases hg with hg | hg
  · exact h.ne _ hg e2
  · have := (h.b.lt e2).2; omega
theorem Two.app2 {B g l c : Nat} {w w' : World} {u v : Value} {xs ys : List Int} {x : Int} (h : Two B w u v xs ys) (ho : Own B w' (.slice (some ⟨g, 0, none⟩) l c) (ys ++ [x])) (hk : Keep (fun b => v.ownBlock = some b) w w') (hg : v.ownBlock = some g ∨ w.heap.size ≤ g) :
    Two B w' u (.slice (some ⟨g, 0, none⟩) l c) xs (ys ++ [x]) := by
  refine ⟨h.a.keepN hk (fun b e1 e2 => h.ne b e1 e2), ho, ?_⟩
  intro k e e2
  simp [Value.ownBlock] at e2
  subst e2
  rcases hg with hg | hg
  · exact h.ne _ e hg
  · have := (h.a.lt e).2; omega
theorem Two.made0 (w : World) : Two w.heap.size ((w.alloc (.cells #[] 2)).alloc (.cells #[] 2)) (.slice (some ⟨w.heap.size, 0, none⟩) 0 0) (.slice (some ⟨w.heap.size + 1, 0, none⟩) 0 0) [] [] := by
  refine ⟨(Own.made0 w (Nat.le_refl _)).under ((Below.refl _ _).alloc (Nat.le_refl _) _), ?_, ?_⟩
  · have := Own.made0 (B := w.heap.size) (w.alloc (.cells #[] 2)) (by simp)
    simpa using this
  · intro k e e2
    simp [Value.ownBlock] at e e2
    omega
theorem Two.under {B : Nat} {w w' : World} {u v : Value} {xs ys : List Int} (h : Two B w u v xs ys) (hb : Below w.heap.size w w') : Two B w' u v xs ys := ⟨h.a.under hb, h.b.under hb, h.ne⟩
end Go.Proofs.Ytgmhnjccgldddaa

namespace Go.Proofs.Ytgmhnjccgldddaa
set_option linter.unusedVariables false
set_option linter.unusedSimpArgs false
open Go Go.RowKit

/-- Integers that can be read, in a block from lo on. -/
def IntsAt (lo : Nat) (w : World) (v : Value) (xs : List Int) : Prop := Ints w v xs ∧ ∀ b o, (∃ n c, v = .slice (some ⟨b, o, none⟩) n c) → lo ≤ b
theorem Own.at' {lo : Nat} {w : World} {v : Value} {xs : List Int} (h : Own lo w v xs) : IntsAt lo w v xs := by
  refine ⟨h.ints, fun b o hv => ?_⟩
  obtain ⟨n, c, rfl⟩ := hv
  obtain ⟨hl, hn | ⟨g, cap, cur, hv, hb, hg, r⟩⟩ := h
  · cases hn.1
  · injection hv with e1; injection e1 with e1; injection e1 with e1; subst e1; exact hb
theorem IntsAt.keep {lo : Nat} {S : Nat → Prop} {w w' : World} {v : Value} {xs : List Int} (h : IntsAt lo w v xs) (k : Keep S w w') (hS : ∀ b, lo ≤ b → ¬ S b) : IntsAt lo w' v xs := by
  obtain ⟨⟨a, c, hv, h1, h2, hc⟩, hb⟩ := h
  refine ⟨⟨a, c, hv, h1, h2, fun i hi => ?_⟩, hb⟩
  obtain ⟨b, o, ha, hcell⟩ := hc i hi
  exact ⟨b, o, ha, cell_of_block (k.block b (cell_lt hcell) (hS b (hb b o ⟨_, _, by rw [hv, ha]⟩))) hcell⟩
/-- A table that can be read, all of it in blocks from lo on. -/
def RowsAt (lo : Nat) (w : World) (v : Value) (X : List (List Int)) : Prop :=
  ∃ (a : Option Addr) (c : Nat), v = .slice a X.length c ∧ X.length ≤ c ∧ c ≤ maxLen ∧ ∀ i (h : i < X.length), ∃ b o u, a = some ⟨b, o, none⟩ ∧ lo ≤ b ∧ w.cell? ⟨b, o + i, none⟩ = some u ∧ IntsAt lo w u X[i]
theorem RowsAt.rows {lo : Nat} {w : World} {v : Value} {X : List (List Int)} (h : RowsAt lo w v X) : Rows w v X := by
  obtain ⟨a, c, hv, h1, h2, hc⟩ := h
  exact ⟨a, c, hv, h1, h2, fun i hi => by obtain ⟨b, o, u, ha, _, hcell, hu⟩ := hc i hi; exact ⟨b, o, u, ha, hcell, hu.1⟩⟩
theorem RowsAt.keep {lo : Nat} {S : Nat → Prop} {w w' : World} {v : Value} {X : List (List Int)} (h : RowsAt lo w v X) (k : Keep S w w') (hS : ∀ b, lo ≤ b → ¬ S b) : RowsAt lo w' v X := by
  obtain ⟨a, c, hv, h1, h2, hc⟩ := h
  refine ⟨a, c, hv, h1, h2, fun i hi => ?_⟩
  obtain ⟨b, o, u, ha, hlo, hcell, hu⟩ := hc i hi
  exact ⟨b, o, u, ha, hlo, cell_of_block (k.block b (cell_lt hcell) (hS b hlo)) hcell, hu.keep k hS⟩
theorem OwnRows.at' {lo : Nat} {w : World} {v : Value} {X : List (List Int)} (h : OwnRows lo w v X) : RowsAt lo w v X := by
  obtain ⟨us, h1, h2⟩ := h
  have hlt := fun k (hk : v.ownBlock = some k) => World.ownsRow.lt h1 k hk
  obtain ⟨a, c, hv, hc, hm, hcell⟩ := ownsRow_cells h1
  rw [h2.len] at hv hc
  refine ⟨a, c, hv, hc, hm, fun i hi => ?_⟩
  have hi' : i < us.length := by rw [h2.len]; exact hi
  obtain ⟨g, ha, hg⟩ := hcell i hi'
  exact ⟨g, 0, us[i], ha, (hlt g (by rw [hv, ha]; rfl)).1, by rwa [Nat.zero_add], (h2.own i hi' hi).at'⟩
theorem RowVals.others {B : Nat} {w w' : World} {us : List Value} {xss : List (List Int)} (h : RowVals B w us xss) {k : Nat} (hk : k < us.length) (hkeep : Keep (fun b => us[k].ownBlock = some b) w w') (i : Nat) (hi : i < us.length) (hi' : i < xss.length) (e : k ≠ i) : Own B w' us[i] xss[i] := by
  have h0 := h.own i hi hi'
  obtain ⟨hl, hn | ⟨g, cap, cur, hv, hb, hg, r⟩⟩ := h0
  · exact ⟨hl, .inl hn⟩
  · refine ⟨hl, .inr ⟨g, cap, cur, hv, hb, ?_, r⟩⟩
    rw [hkeep.block g (Array.getElem?_eq_some_iff.1 hg).1 ?_]; exact hg
    intro e2
    have h1 : (us[i]).ownBlock = some g := by rw [hv]; rfl
    rcases Nat.lt_or_gt_of_ne e with hlt | hlt
    · have := List.pairwise_iff_getElem.1 h.apart k i hk hi hlt
      rcases this with h3 | h3
      · rw [h3] at e2; cases e2
      · exact h3 (e2.trans h1.symm)
    · have := List.pairwise_iff_getElem.1 h.apart i k hi hk hlt
      rcases this with h3 | h3
      · rw [h3] at h1; cases h1
      · exact h3 (h1.trans e2.symm)
/-- The first row appended to, and stored anew. -/
theorem first_row {lo : Nat} {w : World} {sa : Option Addr} {n c : Nat} {X : List (List Int)} (h : OwnRows lo w (.slice sa n c) X) (hX : 0 < X.length) :
    ∃ (b : Nat) (u : Value), sa = some ⟨b, 0, none⟩ ∧ lo ≤ b ∧ w.cell? ⟨b, 0, none⟩ = some u ∧ w.frozen? ⟨b, 0, none⟩ = false ∧ Own lo w u (row X 0) ∧
      ∀ (w' : World) (u' : Value) (ys : List Int), Keep (fun k => u.ownBlock = some k) w w' → Own lo w' u' ys → w'.cell? ⟨b, 0, none⟩ = some u ∧ w'.frozen? ⟨b, 0, none⟩ = false ∧ RowsAt lo (w'.setCell ⟨b, 0, none⟩ u') (.slice sa n c) (X.set 0 ys) := by
  obtain ⟨us, h1, h2⟩ := h
  have hlt := fun k (hk : (Value.slice sa n c).ownBlock = some k) => World.ownsRow.lt h1 k hk
  have h1' := h1
  obtain ⟨hl, hn | ⟨g, cap, cur, hv, hb, hg, hr1, hr2, hr3, hr4⟩⟩ := h1'
  · have := h2.len; have := hn.2; omega
  injection hv with e1 e2 e3
  subst e1
  have hul : 0 < us.length := by rw [h2.len]; exact hX
  obtain ⟨a, c', hv', hc', hm', hcell⟩ := ownsRow_cells h1
  injection hv' with e1 e4 e5
  subst e1
  have hblk : Blk w g 26 cur.toList := by unfold Blk; simpa using hg
  obtain ⟨g', hg', hcc⟩ := hcell 0 hul
  injection hg' with hg'; injection hg' with hg'; subst hg'
  have hrow : row X 0 = X[0] := row_nat X 0 hX
  have hown := h2.own 0 hul hX
  refine ⟨g, us[0], rfl, hb, hcc, hblk.frozen 0, by rw [hrow]; exact hown, fun w' u' ys hk ho => ?_⟩
  have hne : ∀ i (hi : i < us.length), us[i].ownBlock ≠ some g := fun i hi => (h2.own i hi (by rw [← h2.len]; exact hi)).ne hblk (by decide)
  have hblk' := hblk.of_block (hk.block g hblk.lt (hne 0 hul))
  have hcw : ∀ i (hi : i < us.length), w'.cell? ⟨g, i, none⟩ = some us[i] := fun i hi => by
    obtain ⟨g', hg', hcc⟩ := hcell i hi
    injection hg' with hg'; injection hg' with hg'; subst hg'
    exact cell_of_block (hk.block g hblk.lt (hne 0 hul)) hcc
  have hks : Keep (fun x => x = g) w' (w'.setCell ⟨g, 0, none⟩ u') := (Keep.refl (fun x => x = g) w').setCell (p := ⟨g, 0, none⟩) (.inl rfl) u'
  have hu'g : u'.ownBlock ≠ some g := ho.ne hblk' (by decide)
  have hfar : ∀ {v : Value} {xs : List Int}, Own lo w' v xs → v.ownBlock ≠ some g → IntsAt lo (w'.setCell ⟨g, 0, none⟩ u') v xs := fun h1 h2 => (h1.keep1 (p := ⟨g, 0, none⟩) u' h2).at'
  refine ⟨hcw 0 hul, hblk'.frozen 0, some ⟨g, 0, none⟩, c, ?_, ?_, ?_, fun i hi => ?_⟩
  · rw [List.length_set, ← h2.len]; rw [e4]
  · rw [List.length_set, ← h2.len, e5]; exact hc'
  · rw [e5]; exact hm'
  · rw [List.length_set] at hi
    have hi' : i < us.length := by rw [h2.len]; exact hi
    by_cases e : i = 0
    · subst e
      refine ⟨g, 0, u', rfl, hb, (by first | exact World.cell?_setCell_same _ _ _ (hcw 0 hul) | exact World.cell?_setCell_same _ _ (hcw 0 hul)), ?_⟩
      simp only [List.getElem_set_self]
      exact hfar ho hu'g
    · refine ⟨g, 0, us[i], rfl, hb, ?_, ?_⟩
      · have hs := hblk'.set 0 u'
        have h3 : i < cur.toList.length := by
          have := hcell i hi'
          rw [← hr4] at hi'
          simp at hi' ⊢; omega
        have := hs.cell (i := i) (by simpa using h3)
        rw [Nat.zero_add, this, List.getElem_set_ne (by omega)]
        have h4 := hblk'.cell (i := i) h3
        rw [hcw i hi'] at h4
        exact h4.symm
      · rw [List.getElem_set_ne (by omega)]
        exact hfar (h2.others hul hk i hi' hi (by omega)) (hne i hi')

theorem drew_at {b lo : Nat} {w1 w2 : World} {v : Value} {X : List (List Int)} (h : Drew b w1 w2) (hr : RowsAt lo w1 v X) (hb : b < lo) : RowsAt lo w2 v X := hr.keep h.2 (fun x hx e => by have e : x = b := e; omega)
theorem drew_int {b B : Nat} {w w1 w2 : World} {v : Value} {xs : List Int} (h : Drew b w w1) (ho : Own B w1 v xs) (k : Keep (fun x => v.ownBlock = some x) w1 w2) (hb : b < w.heap.size) (hB : w.heap.size ≤ B) : Drew b w w2 :=
  ⟨h.1.keep k (fun p hp e => by have := (ho.lt e).1; omega), h.2.chain k (fun x hx e => by have := (ho.lt e).1; omega)⟩
theorem keep_mono {S T : Nat → Prop} {w w' : World} (k : Keep S w w') (h : ∀ x, S x → T x) : Keep T w w' := ⟨k.os, k.tape, k.output, k.size, fun x hx hn => k.block x hx (fun e => hn (h x e))⟩
set_option maxRecDepth 100000 in
set_option maxHeartbeats 4000000 in
theorem c_l01Bad (b n : Nat) (w : World) (hs : Src w b) (h1 : 1 ≤ n) (h2 : n ≤ 100) :
    Calls Try.prog 57 #[.pointer (some ⟨b, 0, none⟩), .int .i64 n] w (fun e w' => ∃ (r : Value) (X : List (List Int)), e = .returned r ∧ X.length ≤ 101 ∧ (∀ row ∈ X, row.length ≤ 101) ∧ RowsAt w.heap.size w' r X ∧ Drew b w w') := by
  have hbl := hs.lt
  have HS := Lib.hid hs
  clear hs
  go_enter Try.func57, Try.ntmps57
  go_wp2_with fail
  refine (c_l01Tables b n _ HS.out h1 (by omega)).mono ?_; rintro e w1 ⟨r, X, rfl, hXl, hXr, hor, hd1⟩
  obtain ⟨ra, rc, hr, -⟩ := OwnRows.shape' hor
  rw [hXl] at hr
  subst hr
  have HO := Lib.hid hor; have HD1 := Lib.hid hd1; have HX := Lib.hid (And.intro hXl hXr)
  clear hor hd1 hXl hXr
  go_wp2_with fail
  refine (c_l01Next b 30 _ HD1.out.1 (by omega) (by omega)).mono ?_; rintro e w2 ⟨kd, rfl, k0, k30, hd2⟩
  have HD2 := Lib.hid (HD1.out.trans hd2)
  have HO2 := Lib.hid (HO.out.keep hd2.2 (fun x h1 h2 e => by have e : x = b := e; omega))
  clear hd2
  by_cases e0 : kd = 0
  · subst e0
    go_wp2_with fail
    refine (c_l01Unit n _ (by omega)).mono ?_; rintro e w3 ⟨ru, rfl, hou, hb3⟩
    have HO3 := Lib.hid (HO2.out.under hb3).inn; have HU := Lib.hid hou; have HD3 := Lib.hid (HD2.out.under hb3)
    have HB := Lib.hid hb3.size; have HW := Lib.hid HD2.out.2.size
    obtain ⟨ua, uc, hu, -, -⟩ := hou.ints.shape
    rw [iota_length] at hu
    subst hu
    clear hou
    have HI2 := Lib.hid (HO2.out.inn.under hb3)
    clear hb3
    go_wp2_with (at_builtin; refine wpList_app_row2 w.heap.size w2.heap.size w3 _ X _ (iota n) _ _ rfl rfl rfl HI2.out HU.out rfl (by have := HX.out.1; omega) HW.out (Nat.le_trans HW.out HB.out) ?_; intro ga gc w9 hown hkeep hor; have HOwn := Lib.hid hown; have HKp := Lib.hid hkeep; clear hown hkeep hor)
    go_ret
    refine ⟨_, X ++ [iota n], rfl, by have := HX.out.1; simp; omega, fun r hr => ?_, HOwn.out.at', drew_app HD3.out HI2.out.out HKp.out hbl⟩
    rcases List.mem_append.1 hr with h | h
    · have := HX.out.2 r h; omega
    · simp at h; subst h; simp; omega
  by_cases e1 : kd = 1
  · subst e1
    obtain ⟨tb, u, hra, htb, hc0, hf0, hou, hfin⟩ := first_row HO2.out (by have := HX.out.1; omega)
    subst hra
    have HFin := Lib.hid hfin; have HOu := Lib.hid hou; have HW := Lib.hid HD2.out.2.size
    have hrl : (row X 0).length = n := HX.out.2 _ (row_mem (by omega) (by have := HX.out.1; omega))
    have HRl := Lib.hid hrl
    obtain ⟨ua, uc, hu, -, -⟩ := hou.ints.shape
    rw [hrl] at hu
    subst hu
    clear hfin hou hrl
    go_wp2_with (at_builtin; refine wpList_app_int2 w.heap.size w2 _ (row X 0) 0 _ _ w2.heap.size rfl rfl rfl rfl HOu.out rfl (by rw [HRl.out]; omega) HW.out ?_; intro ga gc w9 hown hkeep hor; rw [HRl.out] at hown; rw [HRl.out]; obtain ⟨q1, q2, q3⟩ := HFin.out w9 _ _ hkeep hown; have HQ3 := Lib.hid q3; have HKp := Lib.hid hkeep; clear hown hkeep hor q3)
    go_ret
    refine ⟨_, X.set 0 (row X 0 ++ [0]), rfl, by have := HX.out.1; simp; omega, fun r hr => ?_, HQ3.out, ?_⟩
    · rcases List.mem_or_eq_of_mem_set hr with h | h
      · have := HX.out.2 r h; omega
      · subst h; have := HRl.out; simp; omega
    · exact drew_set (drew_int HD2.out HOu.out HKp.out hbl (Nat.le_refl _)) (p := ⟨tb, 0, none⟩) htb (by show b < tb; omega) _
  have z0 : (kd == 0) = false := by simp [e0]
  have z1 : (kd == 1) = false := by simp [e1]
  by_cases e2 : kd = 2
  · subst e2
    have hXl := HX.out.1
    have hrl : (row X ((0 : Nat) : Int)).length = n := HX.out.2 _ (row_mem (by omega) (by omega))
    have HRl := Lib.hid hrl
    obtain ⟨tb, g, cr, zz, hra, t1, t2, t3, t4, t5, hc, -, -, -⟩ := HO2.out.inn.put (u := 0) (y := 0) (m := n) (by omega) hrl (by omega)
    subst hra
    have HK : Hid (∀ w' : World, Keep (fun k => k = b ∨ k = g) w2 w' → w'.cell? ⟨tb, 0, none⟩ = some (.slice (some ⟨g, 0, none⟩) n cr)) := Lib.hid (fun w' k => cell_of_block (k.block tb (cell_lt hc) (by omega)) hc)
    have hbel : Below w2.heap.size w2 (w2.alloc (.cells #[.int .i64 (-1), .int .i64 n, .int .i64 1099511627776] 2)).drew := ((Below.refl _ _).alloc (Nat.le_refl _) _).drew
    have HD3 := Lib.hid (HD2.out.under hbel)
    have HOw : Hid (Own w2.heap.size (w2.alloc (.cells #[.int .i64 (-1), .int .i64 n, .int .i64 1099511627776] 2)).drew (.slice (some ⟨w2.heap.size, 0, none⟩) 3 3) [-1, (n : Int), 1099511627776]) := Lib.hid
      ((Own.shut (cs := []) (by simpa using Blk.new w2 [.int .i64 (-1), .int .i64 n, .int .i64 1099511627776] 2) (Nat.le_refl _) (by simp [maxLen]) (by simp) (by simp) : Own w2.heap.size (w2.alloc (.cells #[.int .i64 (-1), .int .i64 n, .int .i64 1099511627776] 2)) (.slice (some ⟨w2.heap.size, 0, none⟩) 3 3) [-1, (n : Int), 1099511627776]).under (Below.refl _ _).drew)
    have hlt2 := HD2.out.1.lt
    have HSrc := Lib.hid HD3.out.1
    have hn0 : 0 < n := by omega
    have hn00 : (0 : Int) < (n : Int) := by omega
    have K0 : Keep (fun k => k = b ∨ k = g) w2 w2.drew := (Keep.refl _ w2).drew
    have K1 : Keep (fun k => k = b ∨ k = g) w2 (w2.alloc (.cells #[.int .i64 (-1), .int .i64 n, .int .i64 1099511627776] 2)).drew := ((Keep.refl _ w2).alloc _).drew
    have zc := HK.out _ K0
    have HO3 := Lib.hid (HO2.out.inn.under hbel)
    clear hbel hc
    go_wp2
    go_region_held3 (fun w' => w'.cell? ⟨tb, 0, none⟩ = some (.slice (some ⟨g, 0, none⟩) n cr))
      (first | exact HK.out _ K0 | exact HK.out _ K1 | exact HK.out _ K5 | exact HK.out _ K6 | exact HK.out _ (K5.setCell (.inl (.inr rfl)) _))
      ((go_at_call 80; (with_reducible refine (c_l01Pick b w2.heap.size _ [-1, (n : Int), 1099511627776] _ HSrc.out HOw.out hlt2 (by simp) (by simp)).mono ?_); rintro e w5 ⟨x, rfl, hx, hd5⟩; have K5 := K1.trans (keep_mono hd5.2 (T := fun k => k = b ∨ k = g) (fun x hx => .inl hx)); have c5 := HK.out _ K5; obtain ⟨tb5, g5, cr5, zz5, f1, f2, f3, f4, f5, f6, f7, f8, f9, f10⟩ := (HO3.out.keep hd5.2 (fun x h1 h2 e => by have e : x = b := e; omega)).put (u := 0) (y := 0) (m := n) (by omega) HRl.out (by omega); injection f1 with f1; injection f1 with f1; subst f1; rw [c5] at f7; injection f7 with f7; injection f7 with f7; injection f7 with f7; injection f7 with f7; subst f7; have HF10 := Lib.hid f10; have HD5 := Lib.hid (HD3.out.trans hd5); clear f10 hd5 hx))
    all_goals
      have HD6 := Lib.hid (drew_set HD5.out (p := ⟨g, 0, none⟩) (by show w.heap.size ≤ g; omega) (by show b < g; omega) (.int .i64 x))
      have HT := Lib.hid (HF10.out x).out.at'
      rename_i hHz
      clear hHz
      go_wp2
      go_ret
      refine ⟨_, X.set 0 ((row X ((0 : Nat) : Int)).set 0 x), rfl, by have := HX.out.1; simp; omega, fun r hr => ?_, HT.out, HD6.out⟩
      rcases List.mem_or_eq_of_mem_set hr with h | h
      · have := HX.out.2 r h; omega
      · subst h; have := HRl.out; rw [List.length_set]; omega
  have z2 : (kd == 2) = false := by simp [e2]
  by_cases e3 : kd = 3
  · subst e3
    have HN := Lib.hid (OwnRows.made0 w2 (Nat.le_refl w2.heap.size))
    have HD3 := Lib.hid (HD2.out.under ((Below.refl w2.heap.size w2).alloc (Nat.le_refl _) (.cells #[] 26)))
    go_wp2
    go_ret
    exact ⟨_, [], rfl, by simp, by simp, (HN.out.mono HD2.out.2.size).at', HD3.out⟩
  have z3 : (kd == 3) = false := by simp [e3]
  by_cases e4 : kd = 4
  · subst e4
    go_wp2_with fail
    refine (c_l01Tables b 13 _ HD2.out.1 (by omega) (by omega)).mono ?_; rintro e w3 ⟨r3, Y, rfl, hYl, hYr, hor, hd3⟩
    have HO3 := Lib.hid hor; have HD3 := Lib.hid (HD2.out.trans hd3); have HY := Lib.hid (And.intro hYl hYr)
    clear hor hd3 hYl hYr
    go_wp2
    go_ret
    exact ⟨_, Y, rfl, by have := HY.out.1; omega, fun r hr => by have := HY.out.2 r hr; omega, (HO3.out.mono HD2.out.2.size).at', HD3.out⟩
  have z4 : (kd == 4) = false := by simp [e4]
  go_wp2
  go_ret
  exact ⟨_, X, rfl, by have := HX.out.1; omega, fun r hr => by have := HX.out.2 r hr; omega, HO2.out.at', HD2.out⟩
end Go.Proofs.Ytgmhnjccgldddaa

namespace Go.Proofs.Ytgmhnjccgldddaa
set_option linter.unusedVariables false
set_option linter.unusedSimpArgs false
open Go Go.RowKit

/-- The source at block b. -/
def Dice (w : World) (b : Nat) : Prop :=
  ∃ (v : Value) (n i : Nat) (h : Int), Blk w b 70 [v, .int .i64 i, .int .u64 h] ∧ BytesB w v n b ∧ i ≤ n ∧ 0 ≤ h ∧ h ≤ 18446744073709551615
theorem Dice.keep {S : Nat → Prop} {w w' : World} {b : Nat} (h : Dice w b) (k : Keep S w w') (hs : ∀ p, p ≤ b → ¬ S p) : Dice w' b := by
  obtain ⟨v, n, i, x, h1, h2, h3⟩ := h
  exact ⟨v, n, i, x, h1.of_block (k.block b h1.lt (hs b (Nat.le_refl _))), h2.keep k (fun p hp => hs p (by omega)), h3⟩
theorem Dice.lt {w : World} {b : Nat} (h : Dice w b) : b < w.heap.size := by
  obtain ⟨v, n, i, x, h1, _⟩ := h; exact h1.lt
theorem Dice.under {w w' : World} {b : Nat} (h : Dice w b) (hb : Below w.heap.size w w') : Dice w' b :=
  h.keep (S := fun k => w.heap.size ≤ k) (Keep.of_below hb) (fun p hp e => by have := h.lt; omega)

/-- A draw leaves all but the source as it was. -/
def Rolled (b : Nat) (w w' : World) : Prop := Dice w' b ∧ Keep (fun k => k = b) w w'
theorem Rolled.refl {b : Nat} {w : World} (h : Dice w b) : Rolled b w w := ⟨h, Keep.refl _ _⟩
theorem Rolled.trans {b : Nat} {w w' w'' : World} (h : Rolled b w w') (k : Rolled b w' w'') : Rolled b w w'' := ⟨k.1, h.2.trans k.2⟩
theorem Rolled.under {b : Nat} {w w' w'' : World} (h : Rolled b w w') (k : Below w'.heap.size w' w'') : Rolled b w w'' := ⟨h.1.under k, h.2.under k⟩
theorem Rolled.own {b B : Nat} {w w' : World} {v : Value} {xs : List Int} (h : Rolled b w w') (ho : Own B w v xs) (hB : b < B) : Own B w' v xs := ho.keep h.2 (fun k h1 h2 e => by have e : k = b := e; omega)
theorem Rolled.below {b B : Nat} {w0 w w' : World} (h : Rolled b w w') (hb : Below B w0 w) (hB : B ≤ b) (hs : B ≤ w.heap.size) : Below B w0 w' := hb.trans (h.2.below fun k hk => ⟨by omega, fun e => by have e : k = b := e; omega⟩)
theorem Rolled.blk {b g : Nat} {w w' : World} {t : TypeId} {cs : List Value} (h : Rolled b w w') (hk : Blk w g t cs) (hg : g ≠ b) : Blk w' g t cs := hk.of_block (h.2.block g hk.lt hg)

set_option maxRecDepth 100000 in
set_option maxHeartbeats 1600000 in
theorem c_below (b : Nat) (n : Int) (w : World) (hs : Dice w b) (h1 : 1 ≤ n) (h2 : n ≤ 9223372036854775807) :
    Calls Try.prog 28 #[.pointer (some ⟨b, 0, none⟩), .int .i64 n] w (fun e w' => ∃ r : Int, e = .returned (.int .i64 r) ∧ 0 ≤ r ∧ r < n ∧ Rolled b w w') := by
  obtain ⟨v, m, i, h, hblk, hby, him, hh0, hh1⟩ := hs
  have HBy := Lib.hid hby
  obtain ⟨a, c, hv, hmc, hcm, hcell⟩ := hby
  subst hv
  obtain ⟨W, hW⟩ : ∃ W : Int, IntKind.u64.wrap (IntKind.u64.wrap (h * 6364136223846793005) + 1442695040888963407) = W := ⟨_, rfl⟩
  have hWr := wrap64 (IntKind.u64.wrap (h * 6364136223846793005) + 1442695040888963407)
  rw [hW] at hWr
  obtain ⟨hW0, hW1⟩ := hWr
  obtain ⟨X, hX⟩ : ∃ X : Int, bits BinOp.and IntKind.u64 (W / 8589934592) 16777215 = X := ⟨_, rfl⟩
  have hXr : 0 ≤ X ∧ X < 16777216 := by
    rw [and_24 _ (by omega) (by omega)] at hX; omega
  obtain ⟨hX0, hX1⟩ := hXr
  have hXw : IntKind.i64.wrap X = X := by rw [IntKind.wrap_i64]; omega
  have hb2 := hblk.set 2 (.int .u64 W)
  have hk2 : Keep (fun k => k = b) w (w.setCell ⟨b, 2, none⟩ (.int .u64 W)) := (Keep.refl (fun k => k = b) w).setCell (p := ⟨b, 2, none⟩) (.inl rfl) _
  have hBy2 := HBy.out.keep hk2 (fun p hp e => by have e : p = b := e; omega)
  go_enter Try.func28, Try.ntmps28
  have c0 := hblk.cell (i := 0) (by simp); have c1 := hblk.cell (i := 1) (by simp); have c2 := hblk.cell (i := 2) (by simp)
  have f2 := hblk.frozen 2
  have d0 := hb2.cell (i := 0) (by simp); have d1 := hb2.cell (i := 1) (by simp)
  simp only [List.getElem_cons_zero, List.getElem_cons_succ, List.set_cons_succ, List.set_cons_zero] at c0 c1 c2 d0 d1 hb2
  have HB2 := Lib.hid hb2; have HK2 := Lib.hid hk2; have HBY2 := Lib.hid hBy2
  clear hb2 hk2 hBy2 hblk
  by_cases hlt : i < m
  · obtain ⟨p0, o0, x, ha0, hpb, hcx, hx0, hx1⟩ := hcell i hlt
    subst ha0
    go_wp2
    go_quiet (fail)
    rename_i nq
    have hbq : Below (w.setCell ⟨b, 2, none⟩ (.int .u64 W)).heap.size (w.setCell ⟨b, 2, none⟩ (.int .u64 W)) ((w.setCell ⟨b, 2, none⟩ (.int .u64 W)).drewN nq) := below_drewN (Below.refl _ _) nq
    generalize (w.setCell ⟨b, 2, none⟩ (.int .u64 W)).drewN nq = wq at hbq ⊢
    have hBq := HB2.out.under hbq
    have e0 := hBq.cell (i := 0) (by simp); have e1 := hBq.cell (i := 1) (by simp)
    simp only [List.getElem_cons_zero, List.getElem_cons_succ] at e0 e1
    have g1 := hBq.frozen 1
    have hcx2 := cell_of_block (HK2.out.block p0 (cell_lt hcx) (fun e => by have e : p0 = b := e; omega)) hcx
    have hcq := cell_under hbq hcx2
    have HBq := Lib.hid hBq; have hKq := Lib.hid (HK2.out.under hbq)
    clear hBq c0 c1 c2 f2 d0 d1 hcx hcx2 hbq hW hX hXw
    go_wp2
    go_quiet (fail)
    have hbq : Below wq.heap.size wq (wq.drewN nq) := below_drewN (Below.refl _ _) nq
    have hBr := HBq.out.under hbq
    have hKr := hKq.out.under hbq
    generalize wq.drewN nq = wr at hbq hBr hKr ⊢
    have k1 := hBr.cell (i := 1) (by simp)
    simp only [List.getElem_cons_zero, List.getElem_cons_succ] at k1
    have g2 := hBr.frozen 1
    have hBs := hBr.set 1 (.int .i64 ((i + 1 : Nat) : Int))
    have hKs := hKr.setCell (p := ⟨b, 1, none⟩) (.inl rfl) (.int .i64 ((i + 1 : Nat) : Int))
    have HBs := Lib.hid hBs; have HKs := Lib.hid hKs
    have hmm : i + 1 ≤ m := hlt
    have hi63 : m ≤ 9223372036854775807 := by unfold maxLen at hcm; omega
    clear e0 e1 g1 hcq hbq hBr hKr hBs hKs
    have hn0 : 0 < n := by omega
    have hv0 := Int.emod_nonneg (X + x) (show n ≠ 0 by omega)
    have hv1 := Int.emod_lt_of_pos (X + x) hn0
    have HR := Lib.hid (And.intro hv0 hv1)
    clear hv0 hv1
    go_wp2
    go_ret
    exact ⟨(X + x) % n, rfl, HR.out.1, HR.out.2, ⟨_, m, i + 1, W, HBs.out, HBy.out.keep HKs.out (fun p hp e => by have e : p = b := e; omega), hmm, hW0, hW1⟩, HKs.out⟩
  · have hlt' : ¬ ((i : Int) < m) := by omega
    clear hlt
    go_wp2
    go_quiet (fail)
    have hbq : Below (w.setCell ⟨b, 2, none⟩ (.int .u64 W)).heap.size (w.setCell ⟨b, 2, none⟩ (.int .u64 W)) ((w.setCell ⟨b, 2, none⟩ (.int .u64 W)).drewN nq) := below_drewN (Below.refl _ _) nq
    generalize (w.setCell ⟨b, 2, none⟩ (.int .u64 W)).drewN nq = wq at hbq ⊢
    have HBs := Lib.hid (HB2.out.under hbq); have HKs := Lib.hid (HK2.out.under hbq)
    have hn0 : 0 < n := by omega
    have hv0 := Int.emod_nonneg X (show n ≠ 0 by omega)
    have hv1 := Int.emod_lt_of_pos X hn0
    have HR := Lib.hid (And.intro hv0 hv1)
    clear hv0 hv1 c0 c1 c2 f2 d0 d1 hbq hW hX hXw
    go_wp2
    go_ret
    exact ⟨X % n, rfl, HR.out.1, HR.out.2, ⟨_, m, i, W, HBs.out, HBy.out.keep HKs.out (fun p hp e => by have e : p = b := e; omega), him, hW0, hW1⟩, HKs.out⟩
set_option maxRecDepth 100000 in
set_option maxHeartbeats 1600000 in
theorem c_roll (v : Value) (n : Nat) (sd : Int) (w : World) (hv : BytesR w v n) (hn : n ≤ 4096) :
    Calls Try.prog 27 #[v, .int .u64 sd] w (fun e w' => ∃ b : Nat, e = .returned (.pointer (some ⟨b, 0, none⟩)) ∧ w.heap.size ≤ b ∧ Dice w' b ∧ Below w.heap.size w w') := by
  have HV := Lib.hid hv
  obtain ⟨a, c, hva, hnc, hcm, hcell⟩ := hv
  subst hva
  clear hcell
  obtain ⟨h0, hh0⟩ : ∃ h : Int, IntKind.u64.wrap (IntKind.u64.wrap (sd * 5507) + (n : Int)) = h := ⟨_, rfl⟩
  have hr := wrap64 (IntKind.u64.wrap (sd * 5507) + (n : Int))
  rw [hh0] at hr
  have HR := Lib.hid hr
  have HB1 : Hid (Below w.heap.size w (w.alloc (.cells #[.slice a n c, .int .i64 0, .int .u64 h0] 70))) := Lib.hid ((Below.refl _ _).alloc (Nat.le_refl _) _)
  have HK1 : Hid (Blk (w.alloc (.cells #[.slice a n c, .int .i64 0, .int .u64 h0] 70)) w.heap.size 70 [.slice a n c, .int .i64 0, .int .u64 h0]) := Lib.hid (Blk.new w [.slice a n c, .int .i64 0, .int .u64 h0] 70)
  go_enter Try.func27, Try.ntmps27
  have HR0 : Hid (0 ≤ h0 ∧ h0 ≤ 18446744073709551615) := HR
  go_wp2
  go_loopw [6] (fun i wr => ∃ (k : Nat) (h : Int), k ≤ n ∧ i = .int .i64 k ∧ Hid (Blk wr w.heap.size 70 [.slice a n c, .int .i64 0, .int .u64 h]) ∧ Hid (0 ≤ h ∧ h ≤ 18446744073709551615) ∧ Hid (Below w.heap.size w wr)) (fun i _ => n - (intOf i).toNat)
  case atStart => exact ⟨0, h0, Nat.zero_le _, rfl, HK1, HR0, HB1⟩
  case round =>
    clear HB1 HK1 HR0 HR hr
    obtain ⟨k, h, hk, rfl, HK, HH, HB⟩ := hrel
    by_cases hlt : k < n
    · obtain ⟨a', c', hva', -, -, hc⟩ := HV.out.below HB.out
      injection hva' with e1 e2 e3
      subst e1 e3
      clear e2
      obtain ⟨p0, o0, x, ha0, hcell, hx0, hx1⟩ := hc k hlt
      subst ha0
      clear hc
      have hk4 : (k : Int) < 4096 := by omega
      have c0 := HK.out.cell (i := 2) (by simp)
      simp only [List.getElem_cons_zero, List.getElem_cons_succ] at c0
      have f0 := HK.out.frozen 2
      obtain ⟨W, hW⟩ : ∃ W : Int, IntKind.u64.wrap (IntKind.u64.wrap (IntKind.u64.wrap (h * 1099511628211) + IntKind.u64.wrap x) + 5) = W := ⟨_, rfl⟩
      have hWr := wrap64 (IntKind.u64.wrap (IntKind.u64.wrap (h * 1099511628211) + IntKind.u64.wrap x) + 5)
      rw [hW] at hWr
      have HWr := Lib.hid hWr
      have HKs := Lib.hid (HK.out.set 2 (.int .u64 W))
      clear hWr
      go_wp2
      go_still_tail 15, (by kernel_rfl)
      change wpList _ _ _ _ _ wr.drew
      go_wp2
      go_roundw
      case rel => exact ⟨k + 1, W, by omega, by go_num, by first | exact HKs | exact Lib.hid HKs.out.drew, HWr, by first | exact Lib.hid (HB.out.setCell (p := ⟨w.heap.size, 2, none⟩) (Nat.le_refl _) _) | exact Lib.hid (HB.out.setCell (p := ⟨w.heap.size, 2, none⟩) (Nat.le_refl _) _).drew⟩
      case measure => simp [intOf]; omega
    · go_wp2
      go_ret
      exact ⟨w.heap.size, rfl, Nat.le_refl _, ⟨_, n, 0, h, HK.out, (HV.out.b (Nat.le_refl _)).keep (Keep.of_below HB.out) (fun p hp e => by omega), Nat.zero_le _, HH.out.1, HH.out.2⟩, HB.out⟩

end Go.Proofs.Ytgmhnjccgldddaa

namespace Go.Proofs.Ytgmhnjccgldddaa
set_option linter.unusedVariables false
set_option linter.unusedSimpArgs false
open Go Go.RowKit

set_option maxHeartbeats 800000 in
theorem c_hasRow5 (v1 v2 : Value) (xs : List (List Int)) (ys : List Int) (w : World) (hx : Rows w v1 xs) (hy : Ints w v2 ys) :
    Calls Try.prog 29 #[v1, v2] w (RVal w (.bool (decide (ys ∈ xs)))) := by
  obtain ⟨a, c, rfl, hc, hm⟩ := hx.shape
  obtain ⟨a2, c2, rfl, hc2, hm2⟩ := hy.shape
  go_enter Try.func29, Try.ntmps29
  go_wp2
  go_loopw [5] (fun i wr => ∃ k : Nat, k ≤ xs.length ∧ i = .int .i64 k ∧ Hid (Below w.heap.size w wr) ∧ Hid (ys ∉ xs.take k)) (fun i _ => xs.length - (intOf i).toNat)
  case atStart => exact ⟨0, Nat.zero_le _, rfl, Lib.hid (Below.refl _ _), Lib.hid (by simp)⟩
  case round =>
    obtain ⟨k, hk, rfl, HB, HT⟩ := hrel
    obtain ⟨wo, rfl⟩ : ∃ wo : World, wo = wr := ⟨_, rfl⟩
    by_cases hlt : k < xs.length
    · obtain ⟨b, o, u1, u2, rfl, hcell, hu⟩ := (hx.below HB.out).getS k hlt
      have HU := Lib.hid hu
      have HY := Lib.hid (hy.below HB.out)
      clear hu
      by_cases he : row xs k = ys
      · have hd : decide (row xs k = ys) = true := by simp [he]
        have HD := Lib.hid hd
        have HE := Lib.hid he; clear he
        go_wp2_with fail
        refine (c_likeInts _ _ (row xs k) ys _ HU.out HY.out).mono ?_; rintro e w2 ⟨rfl, hb⟩
        rw [HD.out]
        have HB2 := Lib.hid (bb HB.out (below_of_drewN hb))
        clear hb
        go_wp2
        go_ret
        refine ⟨ret_bool ?_, HB2.out⟩
        rw [← HE.out]
        simp [row_mem (t := xs) (x := (k : Int)) (by omega) (by omega)]
      · have hd : decide (row xs k = ys) = false := by simp [he]
        have HD := Lib.hid hd
        have HE := Lib.hid he; clear he
        go_wp2_with fail
        refine (c_likeInts _ _ (row xs k) ys _ HU.out HY.out).mono ?_; rintro e w2 ⟨rfl, hb⟩
        rw [HD.out]
        have HB2 := Lib.hid (bb HB.out (below_of_drewN hb))
        clear hb
        go_wp2
        go_roundw
        case rel => exact ⟨k + 1, by omega, by go_num, HB2, Lib.hid (by
          rw [take_snoc_row _ _ hlt]
          intro h
          rcases List.mem_append.1 h with h | h
          · exact HT.out h
          · simp at h; exact HE.out h.symm)⟩
        case measure => simp [intOf]; omega
    · go_wp2
      go_ret
      refine ⟨ret_bool ?_, HB.out⟩
      have h := HT.out
      rw [List.take_of_length_le (by omega)] at h
      simp [h]


end Go.Proofs.Ytgmhnjccgldddaa

namespace Go.Proofs.Ytgmhnjccgldddaa
set_option linter.unusedVariables false
set_option linter.unusedSimpArgs false

theorem sorted_eq : ∀ {l m : List Int}, l.Perm m → l.Pairwise (· ≤ ·) → m.Pairwise (· ≤ ·) → l = m
  | [], m, h, _, _ => (h.nil_eq)
  | a :: l, [], h, _, _ => by have := h.length_eq; simp at this
  | a :: l, b :: m, h, hl, hm => by
    rw [List.pairwise_cons] at hl hm
    have h1 : a ∈ b :: m := h.subset (by simp)
    have h2 : b ∈ a :: l := h.symm.subset (by simp)
    have e : a = b := by
      rcases List.mem_cons.1 h1 with h1 | h1
      · exact h1
      · rcases List.mem_cons.1 h2 with h2 | h2
        · exact h2.symm
        · have := hm.1 a h1; have := hl.1 b h2; omega
    subst e
    rw [sorted_eq h.cons_inv hl.2 hm.2]

/-- The numbers 0 to n - 1 of M in ascending order. -/
def csort (n : Nat) (M : List Int) : List Int := (List.range n).flatMap fun (s : Nat) => List.replicate (M.count (s : Int)) (s : Int)
/-- The numbers 1 to n of M in ascending order. -/
def cycS (n : Nat) (M : List Int) : List Int := (List.range n).flatMap fun (s : Nat) => List.replicate (M.count ((s : Int) + 1)) ((s : Int) + 1)
theorem csort_succ (n : Nat) (M : List Int) : csort (n + 1) M = csort n M ++ List.replicate (M.count (n : Int)) (n : Int) := by
  simp [csort, List.range_succ]
theorem cycS_succ (n : Nat) (M : List Int) : cycS (n + 1) M = cycS n M ++ List.replicate (M.count ((n : Int) + 1)) ((n : Int) + 1) := by
  simp [cycS, List.range_succ]
theorem csort_cyc (M : List Int) : ∀ n, csort (n + 1) M = List.replicate (M.count 0) 0 ++ cycS n M
  | 0 => by simp [csort, cycS]
  | n + 1 => by rw [csort_succ, csort_cyc M n, cycS_succ]; simp
theorem count_csort (M : List Int) (x : Int) : ∀ n : Nat, (csort n M).count x = if 0 ≤ x ∧ x < n then M.count x else 0
  | 0 => by
    rw [if_neg (by omega)]; simp [csort]
  | n + 1 => by
    rw [csort_succ, List.count_append, count_csort M x n, List.count_replicate]
    by_cases e : x = n
    · subst e; simp; omega
    · have e' : ¬ ((n : Int) == x) = true := by simp; omega
      rw [if_neg e']
      by_cases h : 0 ≤ x ∧ x < n
      · rw [if_pos h, if_pos (by omega)]; rfl
      · rw [if_neg h, if_neg (by omega)]
theorem mem_csort {M : List Int} {x : Int} : ∀ {n : Nat}, x ∈ csort n M → 0 ≤ x ∧ x < n := by
  intro n h
  have := List.count_pos_iff.2 h
  rw [count_csort] at this
  by_cases e : 0 ≤ x ∧ x < n
  · exact e
  · rw [if_neg e] at this; omega
theorem csort_sorted (M : List Int) : ∀ n : Nat, (csort n M).Pairwise (· ≤ ·)
  | 0 => by simp [csort]
  | n + 1 => by
    rw [csort_succ, List.pairwise_append]
    refine ⟨csort_sorted M n, ?_, ?_⟩
    · rw [List.pairwise_replicate]; exact .inr (by omega)
    · intro a ha b hb
      have h1 := mem_csort ha
      have h2 := List.eq_of_mem_replicate hb
      omega
theorem csort_perm {M : List Int} {n : Nat} (h : ∀ x ∈ M, 0 ≤ x ∧ x < n) : (csort n M).Perm M := by
  rw [List.perm_iff_count]
  intro x
  rw [count_csort]
  by_cases e : 0 ≤ x ∧ x < n
  · rw [if_pos e]
  · rw [if_neg e]
    exact (List.count_eq_zero.2 fun hm => e (h x hm)).symm
/-- What sorting makes of M. -/
theorem sort_is {M S : List Int} {n : Nat} (h : ∀ x ∈ M, 0 ≤ x ∧ x < n) (hp : S.Perm M) (hs : S.Pairwise (· ≤ ·)) : S = csort n M :=
  sorted_eq (hp.trans (csort_perm h).symm) hs (csort_sorted M n)
theorem cycS_pos {M : List Int} {n : Nat} {x : Int} (h : x ∈ cycS n M) : 0 < x := by
  simp only [cycS, List.mem_flatMap] at h
  obtain ⟨s, _, hs⟩ := h
  have := List.eq_of_mem_replicate hs
  omega
theorem cycS_sum (M : List Int) : ∀ n : Nat, (cycS n M).sum = ((List.range n).map fun (s : Nat) => (M.count ((s : Int) + 1) : Int) * ((s : Int) + 1)).sum
  | 0 => rfl
  | n + 1 => by
    rw [cycS_succ, List.sum_append, cycS_sum M n, List.range_succ, List.map_append, List.sum_append]
    simp
theorem cycS_length (M : List Int) (n : Nat) : (cycS n M).length ≤ M.length := by
  have h : (csort (n + 1) M).length ≤ M.length := by
    have : ∀ k : Nat, (csort k M).length ≤ (M.filter fun (x : Int) => decide (0 ≤ x ∧ x < (k : Int))).length := by
      intro k
      induction k with
      | zero => simp [csort]
      | succ k ih =>
        rw [csort_succ, List.length_append, List.length_replicate]
        have e : (M.filter fun (x : Int) => decide (0 ≤ x ∧ x < ((k + 1 : Nat) : Int))).length = (M.filter fun (x : Int) => decide (0 ≤ x ∧ x < (k : Int))).length + M.count (k : Int) := by
          clear ih
          induction M with
          | nil => rfl
          | cons a M ih =>
            simp only [List.filter_cons, List.count_cons]
            by_cases h1 : 0 ≤ a ∧ a < (k : Int)
            · have h2 : 0 ≤ a ∧ a < ((k + 1 : Nat) : Int) := by omega
              have h3 : ¬ (a == (k : Int)) = true := by simp; omega
              rw [if_pos (by simpa using h2), if_pos (by simpa using h1), if_neg h3, List.length_cons, List.length_cons, ih]; omega
            · by_cases h4 : a = k
              · have h2 : 0 ≤ a ∧ a < ((k + 1 : Nat) : Int) := by omega
                have h3 : (a == (k : Int)) = true := by simp [h4]
                rw [if_pos (by simpa using h2), if_neg (by simpa using h1), if_pos h3, List.length_cons, ih]; omega
              · have h2 : ¬ (0 ≤ a ∧ a < ((k + 1 : Nat) : Int)) := by omega
                have h3 : ¬ (a == (k : Int)) = true := by simpa using h4
                rw [if_neg (by simpa using h2), if_neg (by simpa using h1), if_neg h3, ih]; rfl
        rw [e]; omega
    exact Nat.le_trans (this (n + 1)) (List.length_filter_le _ _)
  rw [csort_cyc, List.length_append] at h
  omega
end Go.Proofs.Ytgmhnjccgldddaa

namespace Go.Proofs.Ytgmhnjccgldddaa
set_option linter.unusedVariables false
set_option linter.unusedSimpArgs false

theorem orbL_range {L : List (List Int)} {n : Nat} (hs : SysOk n L) {y : Nat} (hy : y < n) : 0 ≤ nth (orbL L n) y ∧ nth (orbL L n) y < n := by
  have h1 := (labs_iff hs n y (Nat.le_refl _) hy).2 ⟨y, hy, .here⟩
  have h2 := labs_range L n n y hy
  have h3 := (labs_next L n n).2
  exact ⟨h1, by unfold orbL; omega⟩
theorem orbL_len (L : List (List Int)) (n : Nat) : (orbL L n).length = n := labs_length L n n
theorem orbL_mem {L : List (List Int)} {n : Nat} (hs : SysOk n L) {x : Int} (hx : x ∈ orbL L n) : 0 ≤ x ∧ x < n := by
  obtain ⟨k, hk, rfl⟩ := List.getElem_of_mem hx
  rw [orbL_len] at hk
  have := orbL_range hs hk
  rwa [nth_nat _ _ (by rw [orbL_len]; exact hk)] at this

/-- How often each number 0 to n - 1 stands among the first k of X. -/
def cnt (X : List Int) (n k : Nat) : List Int := rowOf n fun o => ((X.take k).count o : Int)
@[simp] theorem cnt_length (X : List Int) (n k : Nat) : (cnt X n k).length = n := by simp [cnt]
theorem cnt_nth {X : List Int} {n k : Nat} {o : Int} (h0 : 0 ≤ o) (h1 : o < n) : nth (cnt X n k) o = ((X.take k).count o : Int) := nth_rowOfi _ _ _ h0 h1
theorem cnt_zero (X : List Int) (n : Nat) : cnt X n 0 = List.replicate n 0 := by
  unfold cnt
  have := rowOf_const n 0
  simpa using this
theorem cnt_step {X : List Int} {n k : Nat} (hk : k < X.length) (h0 : 0 ≤ nth X k) (h1 : nth X k < n) : (cnt X n k).set (nth X k).toNat (nth (cnt X n k) (nth X k) + 1) = cnt X n (k + 1) := by
  apply ext_nth (by simp)
  intro j hj
  simp at hj
  rw [nth_set _ _ _ _ h0 (by simpa using h1) (by omega), cnt_nth (by omega) (by omega), cnt_nth (by omega) (by omega), cnt_nth (by omega) (by omega), take_snoc _ _ hk, List.count_append]
  by_cases e : (j : Int) = nth X k
  · rw [if_pos e, e]; simp
  · rw [if_neg e]
    have : [nth X k].count (j : Int) = 0 := by
      rw [List.count_eq_zero]; simp; omega
    omega
noncomputable def cyM (p : List Int) : List Int := cnt (orbL [p] p.length) p.length p.length
noncomputable def cyL (p : List Int) : List Int := cycS p.length (cyM p)
theorem cyM_eq (p : List Int) : cyM p = rowOf p.length fun o => ((orbL [p] p.length).count o : Int) := by
  unfold cyM cnt
  rw [List.take_of_length_le (by rw [orbL_len]; exact Nat.le_refl _)]
theorem cyM_range (p : List Int) : ∀ x ∈ cyM p, 0 ≤ x ∧ x < ((p.length + 1 : Nat) : Int) := by
  intro x hx
  rw [cyM_eq] at hx
  unfold rowOf at hx
  rw [List.mem_map] at hx
  obtain ⟨j, _, rfl⟩ := hx
  have := List.count_le_length (a := (j : Int)) (l := orbL [p] p.length)
  rw [orbL_len] at this
  show 0 ≤ ((orbL [p] p.length).count (j : Int) : Int) ∧ ((orbL [p] p.length).count (j : Int) : Int) < _
  omega
theorem cyM_zero {p : List Int} (hs : SysOk p.length [p]) (h1 : 1 ≤ p.length) : (cyM p).count 0 < p.length := by
  have hl : (cyM p).length = p.length := by simp [cyM]
  have hle := List.count_le_length (a := (0 : Int)) (l := cyM p)
  rcases Nat.lt_or_ge ((cyM p).count 0) p.length with h | h
  · exact h
  · exfalso
    have he : (cyM p).count 0 = (cyM p).length := by omega
    rw [List.count_eq_length] at he
    have hr := orbL_range hs (y := 0) (by omega)
    rw [show ((0 : Nat) : Int) = 0 from rfl] at hr
    have hm : nth (cyM p) (nth (orbL [p] p.length) 0) ∈ cyM p := nth_mem hr.1 (by rw [hl]; exact hr.2)
    have := he _ hm
    rw [cyM_eq, nth_rowOfi _ _ _ hr.1 hr.2] at this
    have h0 : nth (orbL [p] p.length) 0 ∈ orbL [p] p.length := nth_mem (by omega) (by rw [orbL_len]; omega)
    have := List.count_pos_iff.2 h0
    omega
/-- The first place of a number above 0, or -1. -/
def posI : List Int → Int
  | [] => -1
  | x :: l => if 0 < x then 0 else if posI l < 0 then -1 else posI l + 1
theorem posI_rep (z : Nat) (x : Int) (l : List Int) (hx : 0 < x) : posI (List.replicate z 0 ++ x :: l) = z := by
  induction z with
  | zero => simp [posI, hx]
  | succ z ih => rw [List.replicate_succ, List.cons_append, posI, ih, if_neg (by omega), if_neg (by omega)]; omega
theorem cyS_parts {p : List Int} (hs : SysOk p.length [p]) (h1 : 1 ≤ p.length) {S : List Int} (hS : S = csort (p.length + 1) (cyM p)) :
    (posI S = ((cyM p).count 0 : Nat)) ∧ (cyM p).count 0 < S.length ∧ S.drop ((cyM p).count 0) = cyL p := by
  have hlen : S.length = p.length := by
    rw [hS, (csort_perm (cyM_range p)).length_eq]; simp [cyM]
  have hz := cyM_zero hs h1
  have hcs := csort_cyc (cyM p) p.length
  rw [← hS] at hcs
  have hd : S.drop ((cyM p).count 0) = cyL p := by
    rw [hcs, List.drop_left' (by simp)]; rfl
  refine ⟨?_, by omega, hd⟩
  have hne : cyL p ≠ [] := by
    intro e
    have : (S.drop ((cyM p).count 0)).length = 0 := by rw [hd, e]; rfl
    rw [List.length_drop] at this; omega
  obtain ⟨x, l, hxl⟩ := List.exists_cons_of_ne_nil hne
  have hx : 0 < x := cycS_pos (M := cyM p) (n := p.length) (by show x ∈ cyL p; rw [hxl]; simp)
  rw [hcs]
  show posI (_ ++ cyL p) = _
  rw [hxl, posI_rep _ _ _ hx]

/-- One more than the greatest number. -/
def grt (L : List Int) : Int := L.foldl (fun m x => if m ≤ x then x + 1 else m) 0
theorem grt_snoc (L : List Int) (k : Nat) (h : k < L.length) : grt (L.take (k + 1)) = if grt (L.take k) ≤ nth L k then nth L k + 1 else grt (L.take k) := by
  unfold grt; rw [take_snoc _ _ h, List.foldl_append]; rfl
theorem grt_ge (L : List Int) : 0 ≤ grt L ∧ ∀ x ∈ L, x < grt L := by
  have : ∀ (m : Int) (L : List Int), m ≤ L.foldl (fun m x => if m ≤ x then x + 1 else m) m ∧ ∀ x ∈ L, x < L.foldl (fun m x => if m ≤ x then x + 1 else m) m := by
    intro m L
    induction L generalizing m with
    | nil => simp
    | cons a L ih =>
      rw [List.foldl_cons]
      by_cases hma : m ≤ a
      · rw [if_pos hma]
        have h := ih (a + 1)
        refine ⟨by omega, fun x hx => ?_⟩
        rcases List.mem_cons.1 hx with rfl | hx
        · omega
        · exact h.2 x hx
      · rw [if_neg hma]
        have h := ih m
        refine ⟨h.1, fun x hx => ?_⟩
        rcases List.mem_cons.1 hx with rfl | hx
        · omega
        · exact h.2 x hx
  exact this 0 L
theorem grt_le {L : List Int} {n : Nat} (h : ∀ x ∈ L, x < n) : grt L ≤ n := by
  have : ∀ (m : Int) (L : List Int), m ≤ n → (∀ x ∈ L, x < n) → L.foldl (fun m x => if m ≤ x then x + 1 else m) m ≤ n := by
    intro m L
    induction L generalizing m with
    | nil => intro h _; exact h
    | cons a L ih =>
      intro h1 h2
      rw [List.foldl_cons]
      refine ih _ ?_ (fun x hx => h2 x (by simp [hx]))
      have := h2 a (by simp)
      split <;> omega
  exact this 0 L (by omega) h
/-- Beyond the greatest label there is nothing to count. -/
theorem cyM_tail {p : List Int} (hs : SysOk p.length [p]) (s : Int) (h : 0 < s) : ((cyM p).take (grt (orbL [p] p.length)).toNat).count s = (cyM p).count s := by
  obtain ⟨g0, g1⟩ := grt_ge (orbL [p] p.length)
  have hle := grt_le (L := orbL [p] p.length) (n := p.length) (fun x hx => (orbL_mem hs hx).2)
  have hsplit : (cyM p).count s = ((cyM p).take (grt (orbL [p] p.length)).toNat).count s + ((cyM p).drop (grt (orbL [p] p.length)).toNat).count s := by
    rw [← List.count_append, List.take_append_drop]
  have hz : ((cyM p).drop (grt (orbL [p] p.length)).toNat).count s = 0 := by
    rw [List.count_eq_zero]
    intro hm
    obtain ⟨k, hk, e⟩ := List.getElem_of_mem hm
    rw [List.getElem_drop] at e
    rw [List.length_drop] at hk
    have hl : (cyM p).length = p.length := by simp [cyM]
    have e2 := nth_nat (cyM p) ((grt (orbL [p] p.length)).toNat + k) (by omega)
    rw [e] at e2
    rw [cyM_eq, nth_rowOfi _ _ _ (by omega) (by omega)] at e2
    have : (orbL [p] p.length).count (((grt (orbL [p] p.length)).toNat + k : Nat) : Int) = 0 := by
      rw [List.count_eq_zero]
      intro hmm
      have := g1 _ hmm
      omega
    omega
  omega
/-- The list after o labels of size s + 1. -/
noncomputable def cyO (p : List Int) (s o : Nat) : List Int := cycS s (cyM p) ++ List.replicate (((cyM p).take o).count ((s : Int) + 1)) ((s : Int) + 1)
theorem cyO_zero (p : List Int) (s : Nat) : cyO p s 0 = cycS s (cyM p) := by simp [cyO]
theorem cyO_done {p : List Int} (hs : SysOk p.length [p]) (s : Nat) : cyO p s (grt (orbL [p] p.length)).toNat = cycS (s + 1) (cyM p) := by
  unfold cyO; rw [cyM_tail hs _ (by omega), cycS_succ]
theorem cyO_step {p : List Int} {s o : Nat} (ho : o < p.length) : cyO p s (o + 1) = if nth (cyM p) o = (s : Int) + 1 then cyO p s o ++ [(s : Int) + 1] else cyO p s o := by
  have hl : (cyM p).length = p.length := by simp [cyM]
  unfold cyO
  rw [take_snoc _ _ (by omega), List.count_append]
  split
  · rename_i e
    rw [e]
    have : [(s : Int) + 1].count ((s : Int) + 1) = 1 := by simp
    rw [this, List.replicate_succ', List.append_assoc]
  · rename_i e
    have : [nth (cyM p) o].count ((s : Int) + 1) = 0 := by rw [List.count_eq_zero]; simp; omega
    rw [this]; rfl
theorem cyO_len (p : List Int) (s o : Nat) : (cyO p s o).length ≤ p.length + p.length := by
  have h1 := cycS_length (cyM p) s
  have h2 := List.count_le_length (a := (s : Int) + 1) (l := (cyM p).take o)
  have hl : (cyM p).length = p.length := by simp [cyM]
  rw [List.length_take] at h2
  unfold cyO
  rw [List.length_append, List.length_replicate]
  omega
end Go.Proofs.Ytgmhnjccgldddaa

namespace Go.Proofs.Ytgmhnjccgldddaa
set_option linter.unusedVariables false
set_option linter.unusedSimpArgs false

/-- The least number of steps that lead x back. -/
def MinPer (p : List Int) (x : Int) (c : Nat) : Prop := 1 ≤ c ∧ iter (nth p) c x = x ∧ ∀ r, 1 ≤ r → r < c → iter (nth p) r x ≠ x
theorem minPer_ex {p : List Int} (hp : Permuted p) {x : Int} (h0 : 0 ≤ x) (h1 : x < p.length) : ∃ c, MinPer p x c ∧ c ≤ p.length := by
  obtain ⟨r, r1, r2, r3⟩ := comes_back hp h0 h1
  have key : ∀ d, d ≤ p.length + 1 → (∃ c, MinPer p x c ∧ c ≤ p.length) ∨ (∀ j, 1 ≤ j → j < d → iter (nth p) j x ≠ x) := by
    intro d
    induction d with
    | zero => exact fun _ => .inr fun j h1 h2 => by omega
    | succ d ih =>
      intro hd1
      rcases ih (by omega) with h | h
      · exact .inl h
      · by_cases hd : 1 ≤ d ∧ iter (nth p) d x = x
        · exact .inl ⟨d, ⟨hd.1, hd.2, h⟩, by omega⟩
        · refine .inr fun j h1 h2 => ?_
          by_cases e : j = d
          · subst e; exact fun e2 => hd ⟨h1, e2⟩
          · exact h j h1 (by omega)
  rcases key (p.length + 1) (Nat.le_refl _) with h | h
  · exact h
  · exact absurd r3 (h r r1 (by omega))
theorem MinPer.uniq {p : List Int} {x : Int} {a b : Nat} (ha : MinPer p x a) (hb : MinPer p x b) : a = b := by
  rcases Nat.lt_trichotomy a b with h | h | h
  · exact absurd ha.2.1 (hb.2.2 a ha.1 h)
  · exact h
  · exact absurd hb.2.1 (ha.2.2 b hb.1 h)
theorem iter_comm (f : Int → Int) (a b : Nat) (x : Int) : iter f a (iter f b x) = iter f b (iter f a x) := by rw [← iter_add, ← iter_add, Nat.add_comm]
theorem MinPer.step {p : List Int} (hp : Permuted p) {x : Int} (h0 : 0 ≤ x) (h1 : x < p.length) {c : Nat} (h : MinPer p x c) (k : Nat) : MinPer p (iter (nth p) k x) c := by
  refine ⟨h.1, by rw [iter_comm, h.2.1], fun r r1 r2 e => ?_⟩
  rw [iter_comm] at e
  exact h.2.2 r r1 r2 (iter_inj hp (iter_lt hp h0 h1 r).1 (iter_lt hp h0 h1 r).2 h0 h1 k e)
theorem MinPer.nodup {p : List Int} (hp : Permuted p) {x : Int} (h0 : 0 ≤ x) (h1 : x < p.length) {c : Nat} (h : MinPer p x c) : ((List.range c).map fun k => iter (nth p) k x).Nodup := by
  rw [List.Nodup, List.pairwise_map, List.pairwise_iff_getElem]
  intro i j hi hj hij e
  simp only [List.getElem_range] at e
  simp at hj
  refine h.2.2 (j - i) (by omega) (by omega) ?_
  have e2 : iter (nth p) i (iter (nth p) (j - i) x) = iter (nth p) i x := by rw [← iter_add, show i + (j - i) = j from by omega, e]
  exact iter_inj hp (iter_lt hp h0 h1 _).1 (iter_lt hp h0 h1 _).2 h0 h1 i e2

/-- Sums and least common multiples of the numbers of D from 1 to k. -/
def sumD (D : Nat → Bool) : Nat → Nat
  | 0 => 0
  | k + 1 => sumD D k + if D (k + 1) then k + 1 else 0
def lcmD (D : Nat → Bool) : Nat → Nat → Nat
  | 0, l => l
  | k + 1, l => lcmD D k (if D (k + 1) then Nat.lcm l (k + 1) else l)
def chkD : Nat → Nat → Nat → Bool
  | 0, _, l => decide (l ≤ 60)
  | k + 1, b, l => chkD k b l && (if k + 1 ≤ b then chkD k (b - (k + 1)) (Nat.lcm l (k + 1)) else true)
theorem chkD_ok (D : Nat → Bool) : ∀ (k b l : Nat), chkD k b l = true → sumD D k ≤ b → lcmD D k l ≤ 60
  | 0, b, l, h, _ => by simpa [chkD, lcmD] using h
  | k + 1, b, l, h, hs => by
    simp only [chkD, Bool.and_eq_true] at h
    unfold lcmD
    unfold sumD at hs
    by_cases hd : D (k + 1) = true
    · rw [if_pos hd] at hs ⊢
      have h2 := h.2
      rw [if_pos (show k + 1 ≤ b by omega)] at h2
      exact chkD_ok D k _ _ h2 (by omega)
    · rw [if_neg hd] at hs ⊢
      exact chkD_ok D k b l h.1 (by omega)
theorem chk12 : chkD 12 12 1 = true := by decide +kernel
theorem lcmD_dvd (D : Nat → Bool) : ∀ (k l : Nat), l ∣ lcmD D k l
  | 0, l => Nat.dvd_refl _
  | k + 1, l => by
    unfold lcmD
    refine Nat.dvd_trans ?_ (lcmD_dvd D k _)
    split
    · exact Nat.dvd_lcm_left _ _
    · exact Nat.dvd_refl _
theorem lcmD_mem (D : Nat → Bool) : ∀ (k l d : Nat), 1 ≤ d → d ≤ k → D d = true → d ∣ lcmD D k l
  | 0, l, d, h1, h2, _ => by omega
  | k + 1, l, d, h1, h2, hd => by
    unfold lcmD
    by_cases e : d = k + 1
    · subst e
      rw [if_pos hd]
      exact Nat.dvd_trans (Nat.dvd_lcm_right _ _) (lcmD_dvd D k _)
    · exact lcmD_mem D k _ d h1 (by omega) hd
theorem lcmD_pos (D : Nat → Bool) : ∀ (k l : Nat), 0 < l → 0 < lcmD D k l
  | 0, l, h => h
  | k + 1, l, h => by
    unfold lcmD
    refine lcmD_pos D k _ ?_
    split
    · exact Nat.lcm_pos h (by omega)
    · exact h

open Classical in
theorem ord_le {p : List Int} (hp : Permuted p) (hn : p.length ≤ 12) : ∃ L, 1 ≤ L ∧ L ≤ 60 ∧ pw p (L - 1) = iota p.length := by
  let D : Nat → Bool := fun d => decide (∃ x : Int, 0 ≤ x ∧ x < p.length ∧ MinPer p x d)
  have hD : ∀ d, D d = true → ∃ x : Int, 0 ≤ x ∧ x < p.length ∧ MinPer p x d := fun d h => by simpa [D] using h
  have hx : ∀ d, ∃ x : Int, D d = true → 0 ≤ x ∧ x < p.length ∧ MinPer p x d := fun d => by
    by_cases h : D d = true
    · obtain ⟨x, hx⟩ := hD d h; exact ⟨x, fun _ => hx⟩
    · exact ⟨0, fun h2 => absurd h2 h⟩
  let X : Nat → Int := fun d => Classical.choose (hx d)
  have hX : ∀ d, D d = true → 0 ≤ X d ∧ X d < p.length ∧ MinPer p (X d) d := fun d => Classical.choose_spec (hx d)
  -- the orbits, one for each length
  have key : ∀ k, ∃ U : List Int, U.length = sumD D k ∧ U.Nodup ∧ (∀ y ∈ U, 0 ≤ y ∧ y < p.length ∧ ∃ d, d ≤ k ∧ MinPer p y d) := by
    intro k
    induction k with
    | zero => exact ⟨[], rfl, List.nodup_nil, by simp⟩
    | succ k ih =>
      obtain ⟨U, h1, h2, h3⟩ := ih
      by_cases hd : D (k + 1) = true
      · obtain ⟨x0, x1, hm⟩ := hX (k + 1) hd
        refine ⟨U ++ (List.range (k + 1)).map fun j => iter (nth p) j (X (k + 1)), ?_, ?_, ?_⟩
        · unfold sumD; rw [if_pos hd, List.length_append, h1]; simp
        · rw [List.nodup_append]
          refine ⟨h2, hm.nodup hp x0 x1, fun a ha b hb e => ?_⟩
          rw [List.mem_map] at hb
          obtain ⟨j, _, rfl⟩ := hb
          obtain ⟨_, _, d, hdk, hmd⟩ := h3 a ha
          rw [e] at hmd
          have := hmd.uniq (hm.step hp x0 x1 j)
          omega
        · intro y hy
          rcases List.mem_append.1 hy with hy | hy
          · obtain ⟨a, b, d, c, e⟩ := h3 y hy; exact ⟨a, b, d, by omega, e⟩
          · rw [List.mem_map] at hy
            obtain ⟨j, _, rfl⟩ := hy
            have := iter_lt hp x0 x1 j
            exact ⟨this.1, this.2, k + 1, Nat.le_refl _, hm.step hp x0 x1 j⟩
      · refine ⟨U, ?_, h2, fun y hy => ?_⟩
        · unfold sumD; rw [if_neg hd, h1]; rfl
        · obtain ⟨a, b, d, c, e⟩ := h3 y hy; exact ⟨a, b, d, by omega, e⟩
  obtain ⟨U, u1, u2, u3⟩ := key 12
  have hsum : sumD D 12 ≤ 12 := by
    have hsub : U ⊆ iota p.length := fun y hy => (mem_iota _ _).2 ⟨(u3 y hy).1, (u3 y hy).2.1⟩
    have := List.Nodup.length_le_of_subset u2 hsub
    rw [iota_length] at this; omega
  have hL := chkD_ok D 12 12 1 chk12 hsum
  have hpos := lcmD_pos D 12 1 (by omega)
  refine ⟨lcmD D 12 1, hpos, hL, ?_⟩
  apply ext_nth (by simp)
  intro k hk
  have hk' : k < p.length := by simpa using hk
  rw [nth_pw p k (by omega) (by omega), nth_iota _ _ (by omega) (by omega)]
  obtain ⟨c, hc, hcl⟩ := minPer_ex hp (x := (k : Int)) (by omega) (by omega)
  have hDc : D c = true := by
    have : ∃ x : Int, 0 ≤ x ∧ x < p.length ∧ MinPer p x c := ⟨k, by omega, by omega, hc⟩
    simpa [D] using this
  obtain ⟨m, hm⟩ := lcmD_mem D 12 1 c hc.1 (by omega) hDc
  rw [show lcmD D 12 1 - 1 + 1 = c * m by omega]
  exact iter_mul _ _ _ hc.2.1 m

theorem sum_perm {l m : List Int} (h : l.Perm m) : l.sum = m.sum := by
  induction h with
  | nil => rfl
  | cons x _ ih => simp [ih]
  | swap x y l => simp; omega
  | trans _ _ ih1 ih2 => exact ih1.trans ih2
theorem sum_set : ∀ (l : List Int) (i : Nat) (v : Int) (h : i < l.length), (l.set i v).sum = l.sum - l[i] + v
  | a :: l, 0, v, h => by simp; omega
  | a :: l, i + 1, v, h => by
    have := sum_set l i v (by simpa using h)
    simp only [List.set_cons_succ, List.sum_cons, this, List.getElem_cons_succ]; omega
  | [], i, v, h => by simp at h
theorem cnt_sum {X : List Int} {n : Nat} (hX : ∀ x ∈ X, 0 ≤ x ∧ x < n) : ∀ k, k ≤ X.length → (cnt X n k).sum = k
  | 0, _ => by rw [cnt_zero]; simp
  | k + 1, h => by
    have hx := hX _ (nth_mem (p := X) (x := k) (by omega) (by omega))
    rw [← cnt_step (by omega) hx.1 hx.2, sum_set _ _ _ (by simp; omega), cnt_sum hX k (by omega)]
    have := nth_nat (cnt X n k) (nth X k).toNat (by simp; omega)
    rw [show (((nth X k).toNat : Nat) : Int) = nth X k by omega] at this
    rw [this]; omega
theorem cyL_sum {p : List Int} (hs : SysOk p.length [p]) : (cyL p).sum = p.length := by
  have h1 := sum_perm (csort_perm (cyM_range p))
  rw [csort_cyc, List.sum_append] at h1
  have h2 : (List.replicate ((cyM p).count 0) (0 : Int)).sum = 0 := by simp
  have h3 : (cyM p).sum = p.length := cnt_sum (fun x hx => orbL_mem hs hx) p.length (by rw [orbL_len]; exact Nat.le_refl _)
  unfold cyL; omega
theorem inv_then {p q : List Int} (hp : Permuted p) (hq : Permuted q) (hl : q.length = p.length) (hpq : Permuted (thenL p q)) : invL (thenL p q) = thenL (invL q) (invL p) := by
  apply ext_nth (by simp; omega)
  intro k hk
  simp at hk
  obtain ⟨x, x0, x1, e⟩ := ex_pre hpq (y := (k : Int)) (by omega) (by simpa using hk)
  simp at x1
  have hx := perm_lt hp x0 x1
  rw [nth_thenL _ _ _ (by omega) (by simp; omega), ← e, nth_invL hpq x0 (by simpa using x1), nth_thenL _ _ _ x0 x1, nth_invL hq hx.1 (by omega), nth_invL hp x0 x1]
theorem then_perm {p q : List Int} (hp : Permuted p) (hq : Permuted q) (hl : q.length = p.length) : Permuted (thenL p q) := by
  rw [permuted_iff]
  intro x x0 x1
  rw [thenL_length] at x1
  obtain ⟨y, y0, y1, e⟩ := ex_pre hq (y := x) x0 (by omega)
  obtain ⟨z, z0, z1, e2⟩ := ex_pre hp (y := y) y0 (by omega)
  rw [← e, ← e2, ← nth_thenL p q z z0 z1]
  exact nth_mem z0 (by simpa using z1)
end Go.Proofs.Ytgmhnjccgldddaa

namespace Go.Proofs.Ytgmhnjccgldddaa
set_option linter.unusedVariables false
set_option linter.unusedSimpArgs false
open Go.RowKit

def prT (A C : List (List Int)) : List (List Int) := tabOf (A.length * C.length) fun x y => val2 A (x / C.length) (y / C.length) * C.length + val2 C (x % C.length) (y % C.length)
def prOk (A B C D : List (List Int)) : Bool := isPM A B && isPM C D
def prSm (A C : List (List Int)) : Bool := decide (A.length * C.length ≤ 12)
def prRA (A B C D : List (List Int)) : List (List Int) := if prOk A B C D && prSm A C then prT A C else []
def prRB (A B C D : List (List Int)) : List (List Int) := if prOk A B C D && prSm A C then prT B D else []
def prCode (A B C D : List (List Int)) : Int := if prOk A B C D then (if prSm A C then 0 else 3) else 1
theorem prOk_of {A B C D : List (List Int)} (h1 : isPM A B = true) (h2 : isPM C D = true) : prOk A B C D = true := by simp [prOk, h1, h2]
theorem divN {k n m : Nat} (h : k < n * m) (hm : 1 ≤ m) : k / m < n ∧ k % m < m := ⟨Nat.div_lt_of_lt_mul (by rw [Nat.mul_comm]; exact h), Nat.mod_lt _ (by omega)⟩
theorem divI2 {k n m : Nat} (h : k < n * m) (hm : 1 ≤ m) : 0 ≤ (k : Int) / (m : Int) ∧ (k : Int) / (m : Int) < n ∧ 0 ≤ (k : Int) % (m : Int) ∧ (k : Int) % (m : Int) < m := by
  obtain ⟨h1, h2⟩ := divN h hm
  rw [← Int.natCast_ediv, ← Int.natCast_emod]; exact ⟨Int.natCast_nonneg _, Int.ofNat_lt.2 h1, Int.natCast_nonneg _, Int.ofNat_lt.2 h2⟩
theorem pairI {a b : Int} {n m : Nat} (ha0 : 0 ≤ a) (ha : a < n) (hb0 : 0 ≤ b) (hb : b < m) : 0 ≤ a * m + b ∧ a * m + b < n * m := by
  have h1 : 0 ≤ a * (m : Int) := Int.mul_nonneg ha0 (by omega)
  have h2 : (a + 1) * (m : Int) ≤ n * m := Int.mul_le_mul_of_nonneg_right (by omega) (by omega)
  have h3 : (a + 1) * (m : Int) = a * m + m := by rw [Int.add_mul, Int.one_mul]
  omega



set_option maxRecDepth 100000 in
set_option maxHeartbeats 4000000 in
theorem c_l02Product (v0 u0 : Value) (A B : List (List Int)) (v1 u1 : Value) (C D : List (List Int)) (w : World) (hA : Sol w v0 u0 A B) (hC : Sol w v1 u1 C D) (hp : isPM A B = true) (hq : isPM C D = true) (hsm : A.length * C.length ≤ 12) :
    Calls Try.prog 100 #[.agg #[v0, u0], .agg #[v1, u1]] w (RSolR w (prT A C) (prT B D)) := by
  obtain ⟨n0, b0, o0, c0, rb0, ro0, rc0, b0s, o0s, c0s, rb0s, ro0s, rc0s, rfl, rfl, hl0, hl0s, hn0, hx0, hc0, hm0, hc0s, hm0s, t0, t0s⟩ := hA.tabs hp
  have HL0 := Lib.hid hl0; clear hl0
  have HL0s := Lib.hid hl0s; clear hl0s
  obtain ⟨n1, b1, o1, c1, rb1, ro1, rc1, b1s, o1s, c1s, rb1s, ro1s, rc1s, rfl, rfl, hl1, hl1s, hn1, hx1, hc1, hm1, hc1s, hm1s, t1, t1s⟩ := hC.tabs hq
  have HL1 := Lib.hid hl1; clear hl1
  have HL1s := Lib.hid hl1s; clear hl1s
  go_enter Try.func100, Try.ntmps100
  go_wp2
  obtain ⟨f0, f1, f2, hW0, hsz⟩ := boxes3 w [.slice (some ⟨b0, o0, none⟩) n0 c0, .slice (some ⟨b0s, o0s, none⟩) n0 c0s] [.slice (some ⟨b1, o1, none⟩) n1 c1, .slice (some ⟨b1s, o1s, none⟩) n1 c1s] [.slice none 0 0, .slice none 0 0] 29 29 29
  obtain ⟨W0, hW⟩ : ∃ W, (((w.alloc (.cells #[.slice (some ⟨b0, o0, none⟩) n0 c0, .slice (some ⟨b0s, o0s, none⟩) n0 c0s] 29)).alloc (.cells #[.slice (some ⟨b1, o1, none⟩) n1 c1, .slice (some ⟨b1s, o1s, none⟩) n1 c1s] 29)).alloc (.cells #[.slice none 0 0, .slice none 0 0] 29)) = W := ⟨_, rfl⟩
  rw [hW] at f0 f1 f2 hW0 hsz ⊢
  have HSZ := Lib.hid hsz
  clear hW hsz
  obtain ⟨cA0, cB0, -, -⟩ := two_cells f0
  obtain ⟨cA1, cB1, -, -⟩ := two_cells f1
  obtain ⟨cA2, cB2, -, -⟩ := two_cells f2
  replace t0 := t0.below hW0; replace t0s := t0s.below hW0
  replace t1 := t1.below hW0; replace t1s := t1s.below hW0
  rw [HL0.out, HL1.out] at hsm
  obtain ⟨N, hN⟩ : ∃ N, N = n0 * n1 := ⟨_, rfl⟩
  have hNI : (n0 : Int) * n1 = N := by rw [hN]; push_cast; rfl
  obtain ⟨gA, hgA⟩ : ∃ g : Int → Int → Int, g = fun x y => val2 A (x / n1) (y / n1) * n1 + val2 C (x % n1) (y % n1) := ⟨_, rfl⟩
  obtain ⟨gB, hgB⟩ : ∃ g : Int → Int → Int, g = fun x y => val2 B (x / n1) (y / n1) * n1 + val2 D (x % n1) (y % n1) := ⟨_, rfl⟩
  have hRA : prT A C = tabOf N gA := by unfold prT; rw [HL0.out, HL1.out, hgA, hN]
  have hRB : prT B D = tabOf N gB := by unfold prT; rw [HL0s.out, HL1s.out, hgB, hN]
  have HRA := Lib.hid hRA; have HRB := Lib.hid hRB
  have HGA : Hid (∀ x y : Int, gA x y = val2 A (x / n1) (y / n1) * n1 + val2 C (x % n1) (y % n1)) := Lib.hid (by rw [hgA]; intro x y; rfl)
  have HGB : Hid (∀ x y : Int, gB x y = val2 B (x / n1) (y / n1) * n1 + val2 D (x % n1) (y % n1)) := Lib.hid (by rw [hgB]; intro x y; rfl)
  have HN := Lib.hid hN
  rw [← hN] at hsm
  clear hgA hgB hRA hRB hN hA hC hp hq
  go_quiet (fail)
  rename_i nq
  have hdn : Below W0.heap.size W0 (W0.drewN nq) := below_drewN (Below.refl _ _) nq
  replace f0 := f0.under hdn; replace f1 := f1.under hdn; replace f2 := f2.under hdn; replace hW0 := bb hW0 hdn
  have HT0 := Lib.hid (t0.below hdn); have HT0s := Lib.hid (t0s.below hdn); have HT1 := Lib.hid (t1.below hdn); have HT1s := Lib.hid (t1s.below hdn)
  have HSV : Hid ((W0.drewN nq).heap.size = w.heap.size + 1 + 1 + 1) := HSZ.out
  generalize W0.drewN nq = V at f0 f1 f2 hW0 HT0 HT0s HT1 HT1s HSV ⊢
  have HF2lt := Lib.hid f2.lt
  have hV := hW0
  clear t0 t0s t1 t1s cA0 cB0 cA1 cB1 cA2 cB2 hdn HSZ hW0
  go_wp2
  have hB1 : Below V.heap.size V (V.alloc (.cells #[.slice none 0 0, .slice none 0 0] 29)) := (Below.refl _ _).alloc (Nat.le_refl _) _
  have hout := Blk.new V [.slice none 0 0, .slice none 0 0] 29
  have hs1 : (V.alloc (.cells #[.slice none 0 0, .slice none 0 0] 29)).heap.size = V.heap.size + 1 := by simp
  have hqq : V.heap.size = V.heap.size := rfl
  change Blk (V.alloc (.cells #[.slice none 0 0, .slice none 0 0] 29)) _ _ _ at hout
  obtain ⟨W1, hW1⟩ : ∃ W, V.alloc (.cells #[.slice none 0 0, .slice none 0 0] 29) = W := ⟨_, rfl⟩
  rw [hW1] at hB1 hout hs1 ⊢
  clear hW1
  have hout' : Blk W1 (V.heap.size) 29 [.slice none 0 0, .slice none 0 0] := by rw [← hqq]; exact hout
  have HOut := Lib.hid (Out2.start (lo := V.heap.size + 1) (q := V.heap.size) (w := W1) (by omega) (by omega) hout')
  have HB1 := Lib.hid hB1; have HWW := Lib.hid hV; have HS1 := Lib.hid hs1
  have HQLE : Hid (V.heap.size ≤ V.heap.size) := Lib.hid (by omega)
  clear hB1 hout hout' hs1 hV hqq
  go_loopw [8, 9, 10, 11] (fun a _ _ _ wr => ∃ (k : Nat) (va vb : Value), k ≤ N ∧ a = .int .i64 k ∧ Hid (Below V.heap.size V wr) ∧ Hid (Out2 (V.heap.size + 1) wr.heap.size (V.heap.size) wr va vb ((tabOf N gA).take k) ((tabOf N gB).take k))) (fun a _ _ _ _ => N - (intOf a).toNat)
  case atStart => exact ⟨0, _, _, Nat.zero_le _, rfl, HB1, HOut⟩
  case round =>
    clear HB1 HOut
    obtain ⟨k, va, vb, hk, rfl, HB, HO⟩ := hrel
    obtain ⟨wo, rfl⟩ : ∃ wo : World, wo = wr := ⟨_, rfl⟩
    by_cases hlt : k < N
    · go_wp2
      go_loopw [9, 10, 11] (fun s t y wi => ∃ (j : Nat) (sa : Option Addr) (sc : Nat) (ta : Option Addr) (tc : Nat), j ≤ N ∧ y = .int .i64 j ∧ s = .slice sa j sc ∧ t = .slice ta j tc ∧ Hid (Below wo.heap.size wo wi) ∧ Hid (Two wo.heap.size wi (.slice sa j sc) (.slice ta j tc) ((rowOf N (gA k)).take j) ((rowOf N (gB k)).take j))) (fun _ _ y _ => N - (intOf y).toNat)
      case atStart => exact ⟨0, _, _, _, _, Nat.zero_le _, rfl, rfl, rfl, Lib.hid (((Below.refl wo.heap.size wo).alloc (Nat.le_refl _) _).alloc (by simp) _), Lib.hid (Two.made0 wo)⟩
      case round =>
        obtain ⟨j, sa, sc, ta, tc, hj, rfl, rfl, rfl, Hb, HTw⟩ := hrel
        obtain ⟨wi, rfl⟩ : ∃ wi : World, wi = wr := ⟨_, rfl⟩
        by_cases hlj : j < N
        · have hB2 := bb HB.out Hb.out
          obtain ⟨cA0, cB0, -, -⟩ := two_cells (f0.under hB2)
          obtain ⟨cA1, cB1, -, -⟩ := two_cells (f1.under hB2)
          have T0 := HT0.out.below hB2; have T1 := HT1.out.below hB2
          have hkN : k < n0 * n1 := by have := HN.out; omega
          have hjN : j < n0 * n1 := by have := HN.out; omega
          obtain ⟨d1, d2, d3, d4⟩ := divI2 hkN hn1
          obtain ⟨d5, d6, d7, d8⟩ := divI2 hjN hn1
          clear hkN hjN
          have HEA := Lib.hid (HGA.out k j); have HEB := Lib.hid (HGB.out k j)
          have w1 : IntKind.i64.wrap ((k : Int) / (n1 : Int)) = (k : Int) / (n1 : Int) := by rw [IntKind.wrap_i64]; omega
          have w2 : Int.tmod (k : Int) (n1 : Int) = (k : Int) % (n1 : Int) := Int.tmod_eq_emod_of_nonneg (by omega)
          have w3 : IntKind.i64.wrap ((j : Int) / (n1 : Int)) = (j : Int) / (n1 : Int) := by rw [IntKind.wrap_i64]; omega
          have w4 : Int.tmod (j : Int) (n1 : Int) = (j : Int) % (n1 : Int) := Int.tmod_eq_emod_of_nonneg (by omega)
          obtain ⟨x1, hx1⟩ : ∃ x : Int, (k : Int) / (n1 : Int) = x := ⟨_, rfl⟩
          obtain ⟨x2, hx2⟩ : ∃ x : Int, (k : Int) % (n1 : Int) = x := ⟨_, rfl⟩
          obtain ⟨x3, hx3⟩ : ∃ x : Int, (j : Int) / (n1 : Int) = x := ⟨_, rfl⟩
          obtain ⟨x4, hx4⟩ : ∃ x : Int, (j : Int) % (n1 : Int) = x := ⟨_, rfl⟩
          rw [hx1] at d1 d2 HEA HEB; rw [hx2] at d3 d4 HEA HEB; rw [hx3] at d5 d6 HEA HEB; rw [hx4] at d7 d8 HEA HEB
          replace w1 := w1.trans hx1; replace w2 := w2.trans hx2; replace w3 := w3.trans hx3; replace w4 := w4.trans hx4
          clear hx1 hx2 hx3 hx4
          have rA := T0.rowi _ d1 d2; have rC := T1.rowi _ d3 d4; have vA := T0.vali _ _ d1 d2 d5 d6; have vC := T1.vali _ _ d3 d4 d7 d8
          have gA1 := T0.rng _ _ d1 d2 d5 d6; have gC1 := T1.rng _ _ d3 d4 d7 d8
          have gB1 := HT0s.out.rng _ _ d1 d2 d5 d6; have gD1 := HT1s.out.rng _ _ d3 d4 d7 d8
          have pA := pairI gA1.1 gA1.2 gC1.1 gC1.2; have pB := pairI gB1.1 gB1.2 gD1.1 gD1.2
          have hm0 : ¬ (n1 = 0) := by omega
          obtain ⟨va1, hva⟩ : ∃ z, z = val2 A x1 x3 := ⟨_, rfl⟩
          obtain ⟨vb1, hvb⟩ : ∃ z, z = val2 B x1 x3 := ⟨_, rfl⟩
          obtain ⟨vc1, hvc⟩ : ∃ z, z = val2 C x2 x4 := ⟨_, rfl⟩
          obtain ⟨vd1, hvd⟩ : ∃ z, z = val2 D x2 x4 := ⟨_, rfl⟩
          rw [← hva] at vA gA1 pA HEA; rw [← hvb] at gB1 pB HEB; rw [← hvc] at vC gC1 pA HEA; rw [← hvd] at gD1 pB HEB
          have mA : 0 ≤ va1 * (n1 : Int) := Int.mul_nonneg gA1.1 (by omega)
          have mB : 0 ≤ vb1 * (n1 : Int) := Int.mul_nonneg gB1.1 (by omega)
          have u1 : IntKind.i64.wrap (va1 * (n1 : Int)) = va1 * (n1 : Int) := by rw [IntKind.wrap_i64]; omega
          have u2 : IntKind.i64.wrap (va1 * (n1 : Int) + vc1) = va1 * (n1 : Int) + vc1 := by rw [IntKind.wrap_i64]; omega
          have u3 : IntKind.i64.wrap (vb1 * (n1 : Int)) = vb1 * (n1 : Int) := by rw [IntKind.wrap_i64]; omega
          have u4 : IntKind.i64.wrap (vb1 * (n1 : Int) + vd1) = vb1 * (n1 : Int) + vd1 := by rw [IntKind.wrap_i64]; omega
          have HVB := Lib.hid hvb; have HVD := Lib.hid hvd; have HVA := Lib.hid hva; have HVC := Lib.hid hvc
          have HSA : Hid (∀ w' : World, Below V.heap.size V w' → w'.cell? ⟨w.heap.size, 0, none⟩ = some (.slice (some ⟨b0, o0, none⟩) n0 c0) ∧ w'.cell? ⟨w.heap.size + 1, 0, none⟩ = some (.slice (some ⟨b1, o1, none⟩) n1 c1) ∧ w'.cell? ⟨b0, o0 + x1.toNat, none⟩ = some (.slice (some ⟨rb0 x1.toNat, ro0 x1.toNat, none⟩) n0 (rc0 x1.toNat)) ∧ w'.cell? ⟨b1, o1 + x2.toNat, none⟩ = some (.slice (some ⟨rb1 x2.toNat, ro1 x2.toNat, none⟩) n1 (rc1 x2.toNat)) ∧ w'.cell? ⟨rb0 x1.toNat, ro0 x1.toNat + x3.toNat, none⟩ = some (.int .i64 va1) ∧ w'.cell? ⟨rb1 x2.toNat, ro1 x2.toNat + x4.toNat, none⟩ = some (.int .i64 vc1)) := Lib.hid (by
            intro w' hb
            have T0 := HT0.out.below hb; have T1 := HT1.out.below hb
            have a1 := T0.rowi _ d1 d2; have a2 := T1.rowi _ d3 d4; have a3 := T0.vali _ _ d1 d2 d5 d6; have a4 := T1.vali _ _ d3 d4 d7 d8
            rw [← HVA.out] at a3; rw [← HVC.out] at a4
            exact ⟨(two_cells (f0.under hb)).1, (two_cells (f1.under hb)).1, a1, a2, a3, a4⟩)
          have HSB : Hid (∀ w' : World, Below V.heap.size V w' → w'.cell? ⟨w.heap.size, 1, none⟩ = some (.slice (some ⟨b0s, o0s, none⟩) n0 c0s) ∧ w'.cell? ⟨w.heap.size + 1, 1, none⟩ = some (.slice (some ⟨b1s, o1s, none⟩) n1 c1s) ∧ w'.cell? ⟨b0s, o0s + x1.toNat, none⟩ = some (.slice (some ⟨rb0s x1.toNat, ro0s x1.toNat, none⟩) n0 (rc0s x1.toNat)) ∧ w'.cell? ⟨b1s, o1s + x2.toNat, none⟩ = some (.slice (some ⟨rb1s x2.toNat, ro1s x2.toNat, none⟩) n1 (rc1s x2.toNat)) ∧ w'.cell? ⟨rb0s x1.toNat, ro0s x1.toNat + x3.toNat, none⟩ = some (.int .i64 vb1) ∧ w'.cell? ⟨rb1s x2.toNat, ro1s x2.toNat + x4.toNat, none⟩ = some (.int .i64 vd1)) := Lib.hid (by
            intro w' hb
            have T0 := HT0s.out.below hb; have T1 := HT1s.out.below hb
            have a1 := T0.rowi _ d1 d2; have a2 := T1.rowi _ d3 d4; have a3 := T0.vali _ _ d1 d2 d5 d6; have a4 := T1.vali _ _ d3 d4 d7 d8
            rw [← HVB.out] at a3; rw [← HVD.out] at a4
            exact ⟨(two_cells (f0.under hb)).2.1, (two_cells (f1.under hb)).2.1, a1, a2, a3, a4⟩)
          clear hva hvb hvc hvd T0 T1 hB2
          have HX1 := Lib.hid (HTw.out.under ((Below.refl wi.heap.size wi).drew))
          have HZ1 := Lib.hid (bb Hb.out ((Below.refl wi.heap.size wi).drew))
          have hl1 : ((rowOf N (gA k)).take j).length = j := by simp; omega
          have hl2 : ((rowOf N (gB k)).take j).length = j := by simp; omega
          have HL1a := Lib.hid hl1; have HL2a := Lib.hid hl2
          have HN1a : Hid (((rowOf N (gA k)).take j).length ≤ 1099511627776) := by show _ ≤ _; rw [hl1]; omega
          have HN2a : Hid (((rowOf N (gB k)).take j).length ≤ 1099511627776) := by show _ ≤ _; rw [hl2]; omega
          have HS1a : Hid (wo.heap.size ≤ (wi.drew).heap.size) := Lib.hid HZ1.out.size
          clear hl1 hl2
          go_wp2
          go_region_held3 (fun w' => w'.cell? ⟨w.heap.size, 0, none⟩ = some (.slice (some ⟨b0, o0, none⟩) n0 c0) ∧ w'.cell? ⟨w.heap.size + 1, 0, none⟩ = some (.slice (some ⟨b1, o1, none⟩) n1 c1) ∧ w'.cell? ⟨b0, o0 + x1.toNat, none⟩ = some (.slice (some ⟨rb0 x1.toNat, ro0 x1.toNat, none⟩) n0 (rc0 x1.toNat)) ∧ w'.cell? ⟨b1, o1 + x2.toNat, none⟩ = some (.slice (some ⟨rb1 x2.toNat, ro1 x2.toNat, none⟩) n1 (rc1 x2.toNat)) ∧ w'.cell? ⟨rb0 x1.toNat, ro0 x1.toNat + x3.toNat, none⟩ = some (.int .i64 va1) ∧ w'.cell? ⟨rb1 x2.toNat, ro1 x2.toNat + x4.toNat, none⟩ = some (.int .i64 vc1)) (first | go_keep | exact HSA.out _ (bb HB.out HZ1.out) | exact HSA.out _ (bb HB.out HZ2.out)) ((first | (refine step_app_int wo.heap.size (wi.drew) _ ((rowOf N (gA k)).take j) _ _ _  rfl rfl rfl HX1.out.a rfl HN1a.out HS1a.out ?_; intro g c1 w1 hown1 hk1 hg1; rw [HL1a.out] at hown1; rw [HL1a.out]; have HT1 := Lib.hid (HX1.out.app1 hown1 hk1 hg1); have HZ2 := Lib.hid (HX1.out.a.frame HZ1.out (Nat.le_refl _) HS1a.out hk1); clear hown1 hk1 hg1)))
          go_wp2
          have hB3 := bb HB.out HZ2.out
          obtain ⟨cA0, cB0, -, -⟩ := two_cells (f0.under hB3)
          obtain ⟨cA1, cB1, -, -⟩ := two_cells (f1.under hB3)
          have T0s := HT0s.out.below hB3; have T1s := HT1s.out.below hB3
          have rB := T0s.rowi _ d1 d2; have rD := T1s.rowi _ d3 d4; have vB := T0s.vali _ _ d1 d2 d5 d6; have vD := T1s.vali _ _ d3 d4 d7 d8
          rw [← HVB.out] at vB
          rw [← HVD.out] at vD
          clear T0s T1s
          have HX2 := Lib.hid (HT1.out.under ((Below.refl w1.heap.size w1).drew))
          have HZ3 := Lib.hid (bb HZ2.out ((Below.refl w1.heap.size w1).drew))
          have HS2a : Hid (wo.heap.size ≤ (w1.drew).heap.size) := Lib.hid HZ3.out.size
          clear hB3
          go_wp2
          go_region_held3 (fun w' => w'.cell? ⟨w.heap.size, 1, none⟩ = some (.slice (some ⟨b0s, o0s, none⟩) n0 c0s) ∧ w'.cell? ⟨w.heap.size + 1, 1, none⟩ = some (.slice (some ⟨b1s, o1s, none⟩) n1 c1s) ∧ w'.cell? ⟨b0s, o0s + x1.toNat, none⟩ = some (.slice (some ⟨rb0s x1.toNat, ro0s x1.toNat, none⟩) n0 (rc0s x1.toNat)) ∧ w'.cell? ⟨b1s, o1s + x2.toNat, none⟩ = some (.slice (some ⟨rb1s x2.toNat, ro1s x2.toNat, none⟩) n1 (rc1s x2.toNat)) ∧ w'.cell? ⟨rb0s x1.toNat, ro0s x1.toNat + x3.toNat, none⟩ = some (.int .i64 vb1) ∧ w'.cell? ⟨rb1s x2.toNat, ro1s x2.toNat + x4.toNat, none⟩ = some (.int .i64 vd1)) (first | go_keep | exact HSB.out _ (bb HB.out HZ3.out) | exact HSB.out _ (bb HB.out HZ4.out)) ((first | (refine step_app_int wo.heap.size (w1.drew) _ ((rowOf N (gB k)).take j) _ _ _  rfl rfl rfl HX2.out.b rfl HN2a.out HS2a.out ?_; intro g2 c2 w4 hown4 hk4 hg4; rw [HL2a.out] at hown4; rw [HL2a.out]; have HT2 := Lib.hid (HX2.out.app2 hown4 hk4 hg4); have HZ4 := Lib.hid (HX2.out.b.frame HZ3.out (Nat.le_refl _) HS2a.out hk4); clear hown4 hk4 hg4)))
          go_wp2
          go_roundw
          case rel =>
            refine ⟨j + 1, some ⟨g, 0, none⟩, c1, some ⟨g2, 0, none⟩, c2, by omega, by go_num, rfl, rfl, HZ4, ?_⟩
            rw [take_snoc (rowOf N (gA k)) _ (by simpa using hlj), take_snoc (rowOf N (gB k)) _ (by simpa using hlj), nth_rowOf _ _ _ hlj, nth_rowOf _ _ _ hlj, HEA.out, HEB.out]
            exact HT2
          case measure => simp [intOf]; omega
        · obtain rfl : N = j := by omega
          have hTw := HTw.out
          rw [List.take_of_length_le (by simp), List.take_of_length_le (by simp)] at hTw
          have HU := Lib.hid hTw; clear hTw
          have HO2 := Lib.hid (HO.out.under Hb.out)
          have HBi := Lib.hid (bb HB.out Hb.out)
          have hla : ((tabOf N gA).take k).length = k := by simp; omega
          have hlb : ((tabOf N gB).take k).length = k := by simp; omega
          have HNA : Hid (((tabOf N gA).take k).length ≤ 1099511627776) := by show _ ≤ _; rw [hla]; omega
          have HNB : Hid (((tabOf N gB).take k).length ≤ 1099511627776) := by show _ ≤ _; rw [hlb]; omega
          have HLA := Lib.hid hla; have HLB := Lib.hid hlb; clear hla hlb
          have HLO : Hid ((V.heap.size + 1) ≤ wi.heap.size) := Nat.le_trans HO2.out.lm HO2.out.mw
          obtain ⟨cA, cB, cF, cG⟩ := two_cells HO2.out.blk
          go_wp2_with (at_builtin; go_loud (first
            | (refine wpList_app_row2 (V.heap.size + 1) wo.heap.size wi va ((tabOf N gA).take k) _ (rowOf N (gA k)) _ _ rfl rfl rfl HO2.out.a HU.out.a rfl HNA.out HO2.out.lm HLO.out ?_; intro g c1 w1 hown1 hk1 hg1; rw [HLA.out] at hown1; rw [HLA.out]; have hq1 := HO2.out.blkq hk1; obtain ⟨dA, dB, dF, dG⟩ := two_cells hq1; have hh := HO2.out.app1 hown1 hk1 hg1; have hv := HO2.out.row1 HU.out.b hk1 (.slice (some ⟨g, 0, none⟩) (k + 1) c1); have hf := HO2.out.frame1 HBi.out HQLE.out hk1 (.slice (some ⟨g, 0, none⟩) (k + 1) c1); obtain ⟨eA, eB, eF, eG⟩ := two_cells hh.blk; have HH := Lib.hid hh; have HV := Lib.hid hv; have HF1 := Lib.hid hf; clear hown1 hk1 hg1 hq1 hh hv hf)
            | (refine wpList_app_row2s (V.heap.size + 1) wo.heap.size (w1.setCell ⟨(V.heap.size), 0, none⟩ (.slice (some ⟨g, 0, none⟩) (k + 1) c1)) vb ((tabOf N gB).take k) _ (rowOf N (gB k)) _ _ w1.heap.size (by simp [World.setCell]) rfl rfl rfl HH.out.b HV.out rfl HNB.out HH.out.lm (Nat.le_trans HH.out.lm HH.out.mw) ?_; intro g2 c2 w4 hown4 hk4 hg4; rw [HLB.out] at hown4; rw [HLB.out]; have hq4 := HH.out.blkq hk4; clear dA dB dF dG eA eB eF eG cA cB cF cG; obtain ⟨dA, dB, dF, dG⟩ := two_cells hq4; have HH2 := Lib.hid (HH.out.app2 hown4 hk4 hg4); have HF2 := Lib.hid (HH.out.frame2 HF1.out HQLE.out hk4 (.slice (some ⟨g2, 0, none⟩) (k + 1) c2)); clear hown4 hk4 hg4 hq4)))
          go_roundw
          case rel =>
            refine ⟨k + 1, .slice (some ⟨g, 0, none⟩) (k + 1) c1, .slice (some ⟨g2, 0, none⟩) (k + 1) c2, by omega, by go_num, HF2, ?_⟩
            rw [take_snoc_row (tabOf N gA) _ (by simpa using hlt), take_snoc_row (tabOf N gB) _ (by simpa using hlt), row_tabOf _ _ _ hlt, row_tabOf _ _ _ hlt]
            exact HH2
          case measure => simp [intOf]; omega
    · obtain rfl : N = k := by omega
      have hO := HO.out
      rw [List.take_of_length_le (by simp), List.take_of_length_le (by simp)] at hO
      obtain ⟨ra1, rc1, hva, _⟩ := hO.a.out.rows.shape
      obtain ⟨ra2, rc2, hvb, _⟩ := hO.b.out.rows.shape
      rw [tabOf_length] at hva hvb
      subst hva hvb
      obtain ⟨y0, y1, y2, y3⟩ := two_cells hO.blk
      obtain ⟨z0, z1, z2, z3⟩ := two_cells (f2.under HB.out)
      have HO' := Lib.hid hO; clear hO
      have hlt2 := HF2lt.out
      go_wp2
      refine bodyPost_ret (v := .agg #[.slice ra1 N rc1, .slice ra2 N rc2]) (by simp [results, Try.results100, go_sem, z0, z1]) rfl ⟨_, _, rfl, ⟨?_, ?_⟩, ((bb HWW.out HB.out).setCell (p := ⟨w.heap.size + 1 + 1, 0, none⟩) (by show _ ≤ w.heap.size + 1 + 1; omega) _).setCell (p := ⟨w.heap.size + 1 + 1, 1, none⟩) (by show _ ≤ w.heap.size + 1 + 1; omega) _⟩
      · try rw [HRA.out]
        exact OwnRows.mono (B := (V.heap.size + 1)) ((HO'.out.a.out.keep (keep1 _ (w.heap.size + 1 + 1) 0 _) (fun b h1 h2 h3 => by have h3 : b = w.heap.size + 1 + 1 := h3; omega)).keep (keep1 _ (w.heap.size + 1 + 1) 1 _) (fun b h1 h2 h3 => by have h3 : b = w.heap.size + 1 + 1 := h3; omega)) (by have := HSV.out; omega)
      · try rw [HRB.out]
        exact OwnRows.mono (B := (V.heap.size + 1)) ((HO'.out.b.out.keep (keep1 _ (w.heap.size + 1 + 1) 0 _) (fun b h1 h2 h3 => by have h3 : b = w.heap.size + 1 + 1 := h3; omega)).keep (keep1 _ (w.heap.size + 1 + 1) 1 _) (fun b h1 h2 h3 => by have h3 : b = w.heap.size + 1 + 1 := h3; omega)) (by have := HSV.out; omega)

end Go.Proofs.Ytgmhnjccgldddaa

namespace Go.Proofs.Ytgmhnjccgldddaa
set_option linter.unusedVariables false
set_option linter.unusedSimpArgs false
open Go.RowKit

def unG (A C : List (List Int)) (z : Int → Int → Int) (x y : Int) : Int :=
  if x < A.length ∧ y < A.length then val2 A x y else if (A.length : Int) ≤ x ∧ (A.length : Int) ≤ y then A.length + val2 C (x - A.length) (y - A.length) else z x y
def unTA (A C : List (List Int)) : List (List Int) := tabOf (A.length + C.length) (unG A C fun _ y => y)
def unTB (A C : List (List Int)) : List (List Int) := tabOf (A.length + C.length) (unG A C fun x _ => x)
def unOk (A B C D : List (List Int)) : Bool := isPM A B && isPM C D
def unSm (A C : List (List Int)) : Bool := decide (A.length + C.length ≤ 12)
def unRA (A B C D : List (List Int)) : List (List Int) := if unOk A B C D && unSm A C then unTA A C else []
def unRB (A B C D : List (List Int)) : List (List Int) := if unOk A B C D && unSm A C then unTB B D else []
def unCode (A B C D : List (List Int)) : Int := if unOk A B C D then (if unSm A C then 0 else 3) else 1
theorem unOk_of {A B C D : List (List Int)} (h1 : isPM A B = true) (h2 : isPM C D = true) : unOk A B C D = true := by simp [unOk, h1, h2]




set_option maxRecDepth 100000 in
set_option maxHeartbeats 4000000 in
theorem c_l02Union (v0 u0 : Value) (A B : List (List Int)) (v1 u1 : Value) (C D : List (List Int)) (w : World) (hA : Sol w v0 u0 A B) (hC : Sol w v1 u1 C D) (hp : isPM A B = true) (hq : isPM C D = true) (hsm : A.length + C.length ≤ 12) :
    Calls Try.prog 102 #[.agg #[v0, u0], .agg #[v1, u1]] w (RSolR w (unTA A C) (unTB B D)) := by
  obtain ⟨n0, b0, o0, c0, rb0, ro0, rc0, b0s, o0s, c0s, rb0s, ro0s, rc0s, rfl, rfl, hl0, hl0s, hn0, hx0, hc0, hm0, hc0s, hm0s, t0, t0s⟩ := hA.tabs hp
  have HL0 := Lib.hid hl0; clear hl0
  have HL0s := Lib.hid hl0s; clear hl0s
  obtain ⟨n1, b1, o1, c1, rb1, ro1, rc1, b1s, o1s, c1s, rb1s, ro1s, rc1s, rfl, rfl, hl1, hl1s, hn1, hx1, hc1, hm1, hc1s, hm1s, t1, t1s⟩ := hC.tabs hq
  have HL1 := Lib.hid hl1; clear hl1
  have HL1s := Lib.hid hl1s; clear hl1s
  go_enter Try.func102, Try.ntmps102
  go_wp2
  obtain ⟨f0, f1, f2, hW0, hsz⟩ := boxes3 w [.slice (some ⟨b0, o0, none⟩) n0 c0, .slice (some ⟨b0s, o0s, none⟩) n0 c0s] [.slice (some ⟨b1, o1, none⟩) n1 c1, .slice (some ⟨b1s, o1s, none⟩) n1 c1s] [.slice none 0 0, .slice none 0 0] 29 29 29
  obtain ⟨W0, hW⟩ : ∃ W, (((w.alloc (.cells #[.slice (some ⟨b0, o0, none⟩) n0 c0, .slice (some ⟨b0s, o0s, none⟩) n0 c0s] 29)).alloc (.cells #[.slice (some ⟨b1, o1, none⟩) n1 c1, .slice (some ⟨b1s, o1s, none⟩) n1 c1s] 29)).alloc (.cells #[.slice none 0 0, .slice none 0 0] 29)) = W := ⟨_, rfl⟩
  rw [hW] at f0 f1 f2 hW0 hsz ⊢
  have HSZ := Lib.hid hsz
  clear hW hsz
  obtain ⟨cA0, cB0, -, -⟩ := two_cells f0
  obtain ⟨cA1, cB1, -, -⟩ := two_cells f1
  obtain ⟨cA2, cB2, -, -⟩ := two_cells f2
  replace t0 := t0.below hW0; replace t0s := t0s.below hW0
  replace t1 := t1.below hW0; replace t1s := t1s.below hW0
  rw [HL0.out, HL1.out] at hsm
  obtain ⟨N, hN⟩ : ∃ N, N = n0 + n1 := ⟨_, rfl⟩
  have hNI : (n0 : Int) + n1 = N := by omega
  obtain ⟨gA, hgA⟩ : ∃ g : Int → Int → Int, g = unG A C fun _ y => y := ⟨_, rfl⟩
  obtain ⟨gB, hgB⟩ : ∃ g : Int → Int → Int, g = unG B D fun x _ => x := ⟨_, rfl⟩
  have hRA : unTA A C = tabOf N gA := by unfold unTA; rw [HL0.out, HL1.out, hgA, hN]
  have hRB : unTB B D = tabOf N gB := by unfold unTB; rw [HL0s.out, HL1s.out, hgB, hN]
  have HRA := Lib.hid hRA; have HRB := Lib.hid hRB
  have HGA : Hid (∀ x y : Int, gA x y = if x < n0 ∧ y < n0 then val2 A x y else if (n0 : Int) ≤ x ∧ (n0 : Int) ≤ y then n0 + val2 C (x - n0) (y - n0) else y) := Lib.hid (by rw [hgA]; intro x y; unfold unG; rw [HL0.out])
  have HGB : Hid (∀ x y : Int, gB x y = if x < n0 ∧ y < n0 then val2 B x y else if (n0 : Int) ≤ x ∧ (n0 : Int) ≤ y then n0 + val2 D (x - n0) (y - n0) else x) := Lib.hid (by rw [hgB]; intro x y; unfold unG; rw [HL0s.out])
  have HN := Lib.hid hN
  rw [← hN] at hsm
  clear hgA hgB hRA hRB hN hA hC hp hq
  go_quiet (fail)
  rename_i nq
  have hdn : Below W0.heap.size W0 (W0.drewN nq) := below_drewN (Below.refl _ _) nq
  replace f0 := f0.under hdn; replace f1 := f1.under hdn; replace f2 := f2.under hdn; replace hW0 := bb hW0 hdn
  have HT0 := Lib.hid (t0.below hdn); have HT0s := Lib.hid (t0s.below hdn); have HT1 := Lib.hid (t1.below hdn); have HT1s := Lib.hid (t1s.below hdn)
  have HSV : Hid ((W0.drewN nq).heap.size = w.heap.size + 1 + 1 + 1) := HSZ.out
  generalize W0.drewN nq = V at f0 f1 f2 hW0 HT0 HT0s HT1 HT1s HSV ⊢
  have HF2lt := Lib.hid f2.lt
  have hV := hW0
  clear t0 t0s t1 t1s cA0 cB0 cA1 cB1 cA2 cB2 hdn HSZ hW0
  go_wp2
  have hB1 : Below V.heap.size V (V.alloc (.cells #[.slice none 0 0, .slice none 0 0] 29)) := (Below.refl _ _).alloc (Nat.le_refl _) _
  have hout := Blk.new V [.slice none 0 0, .slice none 0 0] 29
  have hs1 : (V.alloc (.cells #[.slice none 0 0, .slice none 0 0] 29)).heap.size = V.heap.size + 1 := by simp
  have hqq : V.heap.size = V.heap.size := rfl
  change Blk (V.alloc (.cells #[.slice none 0 0, .slice none 0 0] 29)) _ _ _ at hout
  obtain ⟨W1, hW1⟩ : ∃ W, V.alloc (.cells #[.slice none 0 0, .slice none 0 0] 29) = W := ⟨_, rfl⟩
  rw [hW1] at hB1 hout hs1 ⊢
  clear hW1
  have hout' : Blk W1 (V.heap.size) 29 [.slice none 0 0, .slice none 0 0] := by rw [← hqq]; exact hout
  have HOut := Lib.hid (Out2.start (lo := V.heap.size + 1) (q := V.heap.size) (w := W1) (by omega) (by omega) hout')
  have HB1 := Lib.hid hB1; have HWW := Lib.hid hV; have HS1 := Lib.hid hs1
  have HQLE : Hid (V.heap.size ≤ V.heap.size) := Lib.hid (by omega)
  clear hB1 hout hout' hs1 hV hqq
  go_loopw [8, 9, 10, 11] (fun a _ _ _ wr => ∃ (k : Nat) (va vb : Value), k ≤ N ∧ a = .int .i64 k ∧ Hid (Below V.heap.size V wr) ∧ Hid (Out2 (V.heap.size + 1) wr.heap.size (V.heap.size) wr va vb ((tabOf N gA).take k) ((tabOf N gB).take k))) (fun a _ _ _ _ => N - (intOf a).toNat)
  case atStart => exact ⟨0, _, _, Nat.zero_le _, rfl, HB1, HOut⟩
  case round =>
    clear HB1 HOut
    obtain ⟨k, va, vb, hk, rfl, HB, HO⟩ := hrel
    obtain ⟨wo, rfl⟩ : ∃ wo : World, wo = wr := ⟨_, rfl⟩
    by_cases hlt : k < N
    · go_wp2
      go_loopw [9, 10, 11] (fun s t y wi => ∃ (j : Nat) (sa : Option Addr) (sc : Nat) (ta : Option Addr) (tc : Nat), j ≤ N ∧ y = .int .i64 j ∧ s = .slice sa j sc ∧ t = .slice ta j tc ∧ Hid (Below wo.heap.size wo wi) ∧ Hid (Two wo.heap.size wi (.slice sa j sc) (.slice ta j tc) ((rowOf N (gA k)).take j) ((rowOf N (gB k)).take j))) (fun _ _ y _ => N - (intOf y).toNat)
      case atStart => exact ⟨0, _, _, _, _, Nat.zero_le _, rfl, rfl, rfl, Lib.hid (((Below.refl wo.heap.size wo).alloc (Nat.le_refl _) _).alloc (by simp) _), Lib.hid (Two.made0 wo)⟩
      case round =>
        obtain ⟨j, sa, sc, ta, tc, hj, rfl, rfl, rfl, Hb, HTw⟩ := hrel
        obtain ⟨wi, rfl⟩ : ∃ wi : World, wi = wr := ⟨_, rfl⟩
        by_cases hlj : j < N
        · have hB2 := bb HB.out Hb.out
          have hkN : (k : Int) < N := by omega
          have hjN : (j : Int) < N := by omega
          have hNe := HN.out
          by_cases h1 : k < n0 ∧ j < n0
          · have i1 : (k : Int) < n0 := by omega
            have i2 : (j : Int) < n0 := by omega
            obtain ⟨x, hx⟩ : ∃ x : Int, x = k := ⟨_, rfl⟩
            obtain ⟨y, hy⟩ : ∃ x : Int, x = j := ⟨_, rfl⟩
            have d1 : 0 ≤ x := by omega
            have d2 : x < n0 := by omega
            have d3 : 0 ≤ y := by omega
            have d4 : y < n0 := by omega
            have HEA : Hid (gA k j = val2 A k j) := Lib.hid (by rw [HGA.out, if_pos ⟨i1, i2⟩])
            have HEB : Hid (gB k j = val2 B k j) := Lib.hid (by rw [HGB.out, if_pos ⟨i1, i2⟩])
            subst hx hy
            have d5 : k < n0 := h1.1
            have d6 : j < n0 := h1.2
            clear h1 hNe
            have HSA : Hid (∀ w' : World, Below V.heap.size V w' → w'.cell? ⟨w.heap.size, 0, none⟩ = some (.slice (some ⟨b0, o0, none⟩) n0 c0) ∧ w'.cell? ⟨b0, o0 + k, none⟩ = some (.slice (some ⟨rb0 k, ro0 k, none⟩) n0 (rc0 k)) ∧ w'.cell? ⟨rb0 k, ro0 k + j, none⟩ = some (.int .i64 (val2 A k j))) := Lib.hid (by
              intro w' hb
              have T0 := HT0.out.below hb
              exact ⟨(two_cells (f0.under hb)).1, T0.row _ d5, T0.val _ _ d5 d6⟩)
            have HSB : Hid (∀ w' : World, Below V.heap.size V w' → w'.cell? ⟨w.heap.size, 1, none⟩ = some (.slice (some ⟨b0s, o0s, none⟩) n0 c0s) ∧ w'.cell? ⟨b0s, o0s + k, none⟩ = some (.slice (some ⟨rb0s k, ro0s k, none⟩) n0 (rc0s k)) ∧ w'.cell? ⟨rb0s k, ro0s k + j, none⟩ = some (.int .i64 (val2 B k j))) := Lib.hid (by
              intro w' hb
              have T0 := HT0s.out.below hb
              exact ⟨(two_cells (f0.under hb)).2.1, T0.row _ d5, T0.val _ _ d5 d6⟩)
            obtain ⟨q1, q2, q3⟩ := HSA.out wi hB2
            clear hB2
            have HX1 := Lib.hid (HTw.out.under (Below.refl wi.heap.size wi))
            have HZ1 := Lib.hid (bb Hb.out (Below.refl wi.heap.size wi))
            have hl1 : ((rowOf N (gA k)).take j).length = j := by simp; omega
            have hl2 : ((rowOf N (gB k)).take j).length = j := by simp; omega
            have HL1a := Lib.hid hl1; have HL2a := Lib.hid hl2
            have HN1a : Hid (((rowOf N (gA k)).take j).length ≤ 1099511627776) := by show _ ≤ _; rw [hl1]; omega
            have HN2a : Hid (((rowOf N (gB k)).take j).length ≤ 1099511627776) := by show _ ≤ _; rw [hl2]; omega
            have HS1a : Hid (wo.heap.size ≤ (wi).heap.size) := Lib.hid HZ1.out.size
            clear hl1 hl2
            go_wp2_with (at_builtin; go_loud (first | (refine wpList_app_int2 wo.heap.size (wi) _ ((rowOf N (gA k)).take j) _ _ _ wi.heap.size rfl rfl rfl rfl HX1.out.a rfl HN1a.out HS1a.out ?_; intro g c1 w1 hown1 hk1 hg1; rw [HL1a.out] at hown1; rw [HL1a.out]; have HT1 := Lib.hid (HX1.out.app1 hown1 hk1 hg1); have HZ2 := Lib.hid (HX1.out.a.frame HZ1.out (Nat.le_refl _) HS1a.out hk1); clear hown1 hk1 hg1; have hB3 := bb HB.out HZ2.out; clear q1 q2 q3; obtain ⟨q1, q2, q3⟩ := HSB.out w1 hB3; have HX2 := HT1; have HZ3 := HZ2; have HS2a : Hid (wo.heap.size ≤ w1.heap.size) := Lib.hid HZ3.out.size; clear hB3) | (refine wpList_app_int2 wo.heap.size w1 _ ((rowOf N (gB k)).take j) _ _ _ w1.heap.size rfl rfl rfl rfl HX2.out.b rfl HN2a.out HS2a.out ?_; intro g2 c2 w4 hown4 hk4 hg4; rw [HL2a.out] at hown4; rw [HL2a.out]; have HT2 := Lib.hid (HX2.out.app2 hown4 hk4 hg4); have HZ4 := Lib.hid (HX2.out.b.frame HZ3.out (Nat.le_refl _) HS2a.out hk4); clear hown4 hk4 hg4)))
            go_roundw
            case rel =>
              refine ⟨j + 1, some ⟨g, 0, none⟩, c1, some ⟨g2, 0, none⟩, c2, by omega, by go_num, rfl, rfl, HZ4, ?_⟩
              rw [take_snoc (rowOf N (gA k)) _ (by simpa using hlj), take_snoc (rowOf N (gB k)) _ (by simpa using hlj), nth_rowOf _ _ _ hlj, nth_rowOf _ _ _ hlj, HEA.out, HEB.out]
              exact HT2
            case measure => simp [intOf]; omega
          by_cases h2 : n0 ≤ k ∧ n0 ≤ j
          · have i1 : (n0 : Int) ≤ k := by omega
            have i2 : (n0 : Int) ≤ j := by omega
            have i3 : ¬ ((k : Int) < n0) := by omega
            have i4 : ¬ ((k : Int) < n0 ∧ (j : Int) < n0) := by omega
            obtain ⟨x, hx⟩ : ∃ x : Int, x = (k : Int) - n0 := ⟨_, rfl⟩
            obtain ⟨y, hy⟩ : ∃ x : Int, x = (j : Int) - n0 := ⟨_, rfl⟩
            have d1 : 0 ≤ x := by omega
            have d2 : x < n1 := by omega
            have d3 : 0 ≤ y := by omega
            have d4 : y < n1 := by omega
            have gC := HT1.out.rng _ _ d1 d2 d3 d4; have gD := HT1s.out.rng _ _ d1 d2 d3 d4
            obtain ⟨P, hP⟩ : ∃ P, P = val2 C x y := ⟨_, rfl⟩
            obtain ⟨Q, hQ⟩ : ∃ P, P = val2 D x y := ⟨_, rfl⟩
            have u1 : IntKind.i64.wrap ((k : Int) - n0) = x := by rw [IntKind.wrap_i64]; omega
            have u2 : IntKind.i64.wrap ((j : Int) - n0) = y := by rw [IntKind.wrap_i64]; omega
            have u3 : IntKind.i64.wrap (val2 C x y + n0) = val2 C x y + n0 := by rw [IntKind.wrap_i64]; omega
            have u4 : IntKind.i64.wrap (val2 D x y + n0) = val2 D x y + n0 := by rw [IntKind.wrap_i64]; omega
            have e1 : (k : Int) - n0 = x := hx.symm
            have e2 : (j : Int) - n0 = y := hy.symm
            have HEA : Hid (gA k j = val2 C x y + n0) := Lib.hid (by rw [HGA.out, if_neg i4, if_pos ⟨i1, i2⟩, e1, e2, Int.add_comm])
            have HEB : Hid (gB k j = val2 D x y + n0) := Lib.hid (by rw [HGB.out, if_neg i4, if_pos ⟨i1, i2⟩, e1, e2, Int.add_comm])
            clear h1 h2 hNe i4 hP hQ hx hy
            have HSA : Hid (∀ w' : World, Below V.heap.size V w' → w'.cell? ⟨w.heap.size + 1, 0, none⟩ = some (.slice (some ⟨b1, o1, none⟩) n1 c1) ∧ w'.cell? ⟨b1, o1 + x.toNat, none⟩ = some (.slice (some ⟨rb1 x.toNat, ro1 x.toNat, none⟩) n1 (rc1 x.toNat)) ∧ w'.cell? ⟨rb1 x.toNat, ro1 x.toNat + y.toNat, none⟩ = some (.int .i64 (val2 C x y))) := Lib.hid (by
              intro w' hb
              have T0 := HT1.out.below hb
              exact ⟨(two_cells (f1.under hb)).1, T0.rowi _ d1 d2, T0.vali _ _ d1 d2 d3 d4⟩)
            have HSB : Hid (∀ w' : World, Below V.heap.size V w' → w'.cell? ⟨w.heap.size + 1, 1, none⟩ = some (.slice (some ⟨b1s, o1s, none⟩) n1 c1s) ∧ w'.cell? ⟨b1s, o1s + x.toNat, none⟩ = some (.slice (some ⟨rb1s x.toNat, ro1s x.toNat, none⟩) n1 (rc1s x.toNat)) ∧ w'.cell? ⟨rb1s x.toNat, ro1s x.toNat + y.toNat, none⟩ = some (.int .i64 (val2 D x y))) := Lib.hid (by
              intro w' hb
              have T0 := HT1s.out.below hb
              exact ⟨(two_cells (f1.under hb)).2.1, T0.rowi _ d1 d2, T0.vali _ _ d1 d2 d3 d4⟩)
            obtain ⟨q1, q2, q3⟩ := HSA.out wi hB2
            clear hB2
            have HX1 := Lib.hid (HTw.out.under (Below.refl wi.heap.size wi))
            have HZ1 := Lib.hid (bb Hb.out (Below.refl wi.heap.size wi))
            have hl1 : ((rowOf N (gA k)).take j).length = j := by simp; omega
            have hl2 : ((rowOf N (gB k)).take j).length = j := by simp; omega
            have HL1a := Lib.hid hl1; have HL2a := Lib.hid hl2
            have HN1a : Hid (((rowOf N (gA k)).take j).length ≤ 1099511627776) := by show _ ≤ _; rw [hl1]; omega
            have HN2a : Hid (((rowOf N (gB k)).take j).length ≤ 1099511627776) := by show _ ≤ _; rw [hl2]; omega
            have HS1a : Hid (wo.heap.size ≤ (wi).heap.size) := Lib.hid HZ1.out.size
            clear hl1 hl2
            go_wp2_with (at_builtin; go_loud (first | (refine wpList_app_int2 wo.heap.size (wi) _ ((rowOf N (gA k)).take j) _ _ _ wi.heap.size rfl rfl rfl rfl HX1.out.a rfl HN1a.out HS1a.out ?_; intro g c1 w1 hown1 hk1 hg1; rw [HL1a.out] at hown1; rw [HL1a.out]; have HT1 := Lib.hid (HX1.out.app1 hown1 hk1 hg1); have HZ2 := Lib.hid (HX1.out.a.frame HZ1.out (Nat.le_refl _) HS1a.out hk1); clear hown1 hk1 hg1; have hB3 := bb HB.out HZ2.out; clear q1 q2 q3; obtain ⟨q1, q2, q3⟩ := HSB.out w1 hB3; have HX2 := HT1; have HZ3 := HZ2; have HS2a : Hid (wo.heap.size ≤ w1.heap.size) := Lib.hid HZ3.out.size; clear hB3) | (refine wpList_app_int2 wo.heap.size w1 _ ((rowOf N (gB k)).take j) _ _ _ w1.heap.size rfl rfl rfl rfl HX2.out.b rfl HN2a.out HS2a.out ?_; intro g2 c2 w4 hown4 hk4 hg4; rw [HL2a.out] at hown4; rw [HL2a.out]; have HT2 := Lib.hid (HX2.out.app2 hown4 hk4 hg4); have HZ4 := Lib.hid (HX2.out.b.frame HZ3.out (Nat.le_refl _) HS2a.out hk4); clear hown4 hk4 hg4)))
            go_roundw
            case rel =>
              refine ⟨j + 1, some ⟨g, 0, none⟩, c1, some ⟨g2, 0, none⟩, c2, by omega, by go_num, rfl, rfl, HZ4, ?_⟩
              rw [take_snoc (rowOf N (gA k)) _ (by simpa using hlj), take_snoc (rowOf N (gB k)) _ (by simpa using hlj), nth_rowOf _ _ _ hlj, nth_rowOf _ _ _ hlj, HEA.out, HEB.out]
              exact HT2
            case measure => simp [intOf]; omega
          · have i4 : ¬ ((k : Int) < n0 ∧ (j : Int) < n0) := by omega
            have i5 : ¬ ((n0 : Int) ≤ k ∧ (n0 : Int) ≤ j) := by omega
            have HEA : Hid (gA k j = j) := Lib.hid (by rw [HGA.out, if_neg i4, if_neg i5])
            have HEB : Hid (gB k j = k) := Lib.hid (by rw [HGB.out, if_neg i4, if_neg i5])
            clear hB2
            by_cases h3 : k < n0
            · have i1 : (k : Int) < n0 := by omega
              have i2 : ¬ ((j : Int) < n0) := by omega
              have i3 : ¬ ((n0 : Int) ≤ k) := by omega
              clear h1 h2 h3 i4 i5 hNe
              have HX1 := Lib.hid (HTw.out.under (Below.refl wi.heap.size wi))
              have HZ1 := Lib.hid (bb Hb.out (Below.refl wi.heap.size wi))
              have hl1 : ((rowOf N (gA k)).take j).length = j := by simp; omega
              have hl2 : ((rowOf N (gB k)).take j).length = j := by simp; omega
              have HL1a := Lib.hid hl1; have HL2a := Lib.hid hl2
              have HN1a : Hid (((rowOf N (gA k)).take j).length ≤ 1099511627776) := by show _ ≤ _; rw [hl1]; omega
              have HN2a : Hid (((rowOf N (gB k)).take j).length ≤ 1099511627776) := by show _ ≤ _; rw [hl2]; omega
              have HS1a : Hid (wo.heap.size ≤ (wi).heap.size) := Lib.hid HZ1.out.size
              clear hl1 hl2
              go_wp2_with (at_builtin; go_loud (first | (refine wpList_app_int2 wo.heap.size (wi) _ ((rowOf N (gA k)).take j) _ _ _ wi.heap.size rfl rfl rfl rfl HX1.out.a rfl HN1a.out HS1a.out ?_; intro g c1 w1 hown1 hk1 hg1; rw [HL1a.out] at hown1; rw [HL1a.out]; have HT1 := Lib.hid (HX1.out.app1 hown1 hk1 hg1); have HZ2 := Lib.hid (HX1.out.a.frame HZ1.out (Nat.le_refl _) HS1a.out hk1); clear hown1 hk1 hg1; have hB3 := bb HB.out HZ2.out; have HX2 := HT1; have HZ3 := HZ2; have HS2a : Hid (wo.heap.size ≤ w1.heap.size) := Lib.hid HZ3.out.size; clear hB3) | (refine wpList_app_int2 wo.heap.size w1 _ ((rowOf N (gB k)).take j) _ _ _ w1.heap.size rfl rfl rfl rfl HX2.out.b rfl HN2a.out HS2a.out ?_; intro g2 c2 w4 hown4 hk4 hg4; rw [HL2a.out] at hown4; rw [HL2a.out]; have HT2 := Lib.hid (HX2.out.app2 hown4 hk4 hg4); have HZ4 := Lib.hid (HX2.out.b.frame HZ3.out (Nat.le_refl _) HS2a.out hk4); clear hown4 hk4 hg4)))
              go_roundw
              case rel =>
                refine ⟨j + 1, some ⟨g, 0, none⟩, c1, some ⟨g2, 0, none⟩, c2, by omega, by go_num, rfl, rfl, HZ4, ?_⟩
                rw [take_snoc (rowOf N (gA k)) _ (by simpa using hlj), take_snoc (rowOf N (gB k)) _ (by simpa using hlj), nth_rowOf _ _ _ hlj, nth_rowOf _ _ _ hlj, HEA.out, HEB.out]
                exact HT2
              case measure => simp [intOf]; omega
            · have i1 : ¬ ((k : Int) < n0) := by omega
              have i2 : ¬ ((n0 : Int) ≤ j) := by omega
              have i3 : (n0 : Int) ≤ k := by omega
              clear h1 h2 h3 i4 i5 hNe
              have HX1 := Lib.hid (HTw.out.under (Below.refl wi.heap.size wi))
              have HZ1 := Lib.hid (bb Hb.out (Below.refl wi.heap.size wi))
              have hl1 : ((rowOf N (gA k)).take j).length = j := by simp; omega
              have hl2 : ((rowOf N (gB k)).take j).length = j := by simp; omega
              have HL1a := Lib.hid hl1; have HL2a := Lib.hid hl2
              have HN1a : Hid (((rowOf N (gA k)).take j).length ≤ 1099511627776) := by show _ ≤ _; rw [hl1]; omega
              have HN2a : Hid (((rowOf N (gB k)).take j).length ≤ 1099511627776) := by show _ ≤ _; rw [hl2]; omega
              have HS1a : Hid (wo.heap.size ≤ (wi).heap.size) := Lib.hid HZ1.out.size
              clear hl1 hl2
              go_wp2_with (at_builtin; go_loud (first | (refine wpList_app_int2 wo.heap.size (wi) _ ((rowOf N (gA k)).take j) _ _ _ wi.heap.size rfl rfl rfl rfl HX1.out.a rfl HN1a.out HS1a.out ?_; intro g c1 w1 hown1 hk1 hg1; rw [HL1a.out] at hown1; rw [HL1a.out]; have HT1 := Lib.hid (HX1.out.app1 hown1 hk1 hg1); have HZ2 := Lib.hid (HX1.out.a.frame HZ1.out (Nat.le_refl _) HS1a.out hk1); clear hown1 hk1 hg1; have hB3 := bb HB.out HZ2.out; have HX2 := HT1; have HZ3 := HZ2; have HS2a : Hid (wo.heap.size ≤ w1.heap.size) := Lib.hid HZ3.out.size; clear hB3) | (refine wpList_app_int2 wo.heap.size w1 _ ((rowOf N (gB k)).take j) _ _ _ w1.heap.size rfl rfl rfl rfl HX2.out.b rfl HN2a.out HS2a.out ?_; intro g2 c2 w4 hown4 hk4 hg4; rw [HL2a.out] at hown4; rw [HL2a.out]; have HT2 := Lib.hid (HX2.out.app2 hown4 hk4 hg4); have HZ4 := Lib.hid (HX2.out.b.frame HZ3.out (Nat.le_refl _) HS2a.out hk4); clear hown4 hk4 hg4)))
              go_roundw
              case rel =>
                refine ⟨j + 1, some ⟨g, 0, none⟩, c1, some ⟨g2, 0, none⟩, c2, by omega, by go_num, rfl, rfl, HZ4, ?_⟩
                rw [take_snoc (rowOf N (gA k)) _ (by simpa using hlj), take_snoc (rowOf N (gB k)) _ (by simpa using hlj), nth_rowOf _ _ _ hlj, nth_rowOf _ _ _ hlj, HEA.out, HEB.out]
                exact HT2
              case measure => simp [intOf]; omega
        · obtain rfl : N = j := by omega
          have hTw := HTw.out
          rw [List.take_of_length_le (by simp), List.take_of_length_le (by simp)] at hTw
          have HU := Lib.hid hTw; clear hTw
          have HO2 := Lib.hid (HO.out.under Hb.out)
          have HBi := Lib.hid (bb HB.out Hb.out)
          have hla : ((tabOf N gA).take k).length = k := by simp; omega
          have hlb : ((tabOf N gB).take k).length = k := by simp; omega
          have HNA : Hid (((tabOf N gA).take k).length ≤ 1099511627776) := by show _ ≤ _; rw [hla]; omega
          have HNB : Hid (((tabOf N gB).take k).length ≤ 1099511627776) := by show _ ≤ _; rw [hlb]; omega
          have HLA := Lib.hid hla; have HLB := Lib.hid hlb; clear hla hlb
          have HLO : Hid ((V.heap.size + 1) ≤ wi.heap.size) := Nat.le_trans HO2.out.lm HO2.out.mw
          obtain ⟨cA, cB, cF, cG⟩ := two_cells HO2.out.blk
          go_wp2_with (at_builtin; go_loud (first
            | (refine wpList_app_row2 (V.heap.size + 1) wo.heap.size wi va ((tabOf N gA).take k) _ (rowOf N (gA k)) _ _ rfl rfl rfl HO2.out.a HU.out.a rfl HNA.out HO2.out.lm HLO.out ?_; intro g c1 w1 hown1 hk1 hg1; rw [HLA.out] at hown1; rw [HLA.out]; have hq1 := HO2.out.blkq hk1; obtain ⟨dA, dB, dF, dG⟩ := two_cells hq1; have hh := HO2.out.app1 hown1 hk1 hg1; have hv := HO2.out.row1 HU.out.b hk1 (.slice (some ⟨g, 0, none⟩) (k + 1) c1); have hf := HO2.out.frame1 HBi.out HQLE.out hk1 (.slice (some ⟨g, 0, none⟩) (k + 1) c1); obtain ⟨eA, eB, eF, eG⟩ := two_cells hh.blk; have HH := Lib.hid hh; have HV := Lib.hid hv; have HF1 := Lib.hid hf; clear hown1 hk1 hg1 hq1 hh hv hf)
            | (refine wpList_app_row2s (V.heap.size + 1) wo.heap.size (w1.setCell ⟨(V.heap.size), 0, none⟩ (.slice (some ⟨g, 0, none⟩) (k + 1) c1)) vb ((tabOf N gB).take k) _ (rowOf N (gB k)) _ _ w1.heap.size (by simp [World.setCell]) rfl rfl rfl HH.out.b HV.out rfl HNB.out HH.out.lm (Nat.le_trans HH.out.lm HH.out.mw) ?_; intro g2 c2 w4 hown4 hk4 hg4; rw [HLB.out] at hown4; rw [HLB.out]; have hq4 := HH.out.blkq hk4; clear dA dB dF dG eA eB eF eG cA cB cF cG; obtain ⟨dA, dB, dF, dG⟩ := two_cells hq4; have HH2 := Lib.hid (HH.out.app2 hown4 hk4 hg4); have HF2 := Lib.hid (HH.out.frame2 HF1.out HQLE.out hk4 (.slice (some ⟨g2, 0, none⟩) (k + 1) c2)); clear hown4 hk4 hg4 hq4)))
          go_roundw
          case rel =>
            refine ⟨k + 1, .slice (some ⟨g, 0, none⟩) (k + 1) c1, .slice (some ⟨g2, 0, none⟩) (k + 1) c2, by omega, by go_num, HF2, ?_⟩
            rw [take_snoc_row (tabOf N gA) _ (by simpa using hlt), take_snoc_row (tabOf N gB) _ (by simpa using hlt), row_tabOf _ _ _ hlt, row_tabOf _ _ _ hlt]
            exact HH2
          case measure => simp [intOf]; omega
    · obtain rfl : N = k := by omega
      have hO := HO.out
      rw [List.take_of_length_le (by simp), List.take_of_length_le (by simp)] at hO
      obtain ⟨ra1, rc1, hva, _⟩ := hO.a.out.rows.shape
      obtain ⟨ra2, rc2, hvb, _⟩ := hO.b.out.rows.shape
      rw [tabOf_length] at hva hvb
      subst hva hvb
      obtain ⟨y0, y1, y2, y3⟩ := two_cells hO.blk
      obtain ⟨z0, z1, z2, z3⟩ := two_cells (f2.under HB.out)
      have HO' := Lib.hid hO; clear hO
      have hlt2 := HF2lt.out
      go_wp2
      refine bodyPost_ret (v := .agg #[.slice ra1 N rc1, .slice ra2 N rc2]) (by simp [results, Try.results102, go_sem, z0, z1]) rfl ⟨_, _, rfl, ⟨?_, ?_⟩, ((bb HWW.out HB.out).setCell (p := ⟨w.heap.size + 1 + 1, 0, none⟩) (by show _ ≤ w.heap.size + 1 + 1; omega) _).setCell (p := ⟨w.heap.size + 1 + 1, 1, none⟩) (by show _ ≤ w.heap.size + 1 + 1; omega) _⟩
      · try rw [HRA.out]
        exact OwnRows.mono (B := (V.heap.size + 1)) ((HO'.out.a.out.keep (keep1 _ (w.heap.size + 1 + 1) 0 _) (fun b h1 h2 h3 => by have h3 : b = w.heap.size + 1 + 1 := h3; omega)).keep (keep1 _ (w.heap.size + 1 + 1) 1 _) (fun b h1 h2 h3 => by have h3 : b = w.heap.size + 1 + 1 := h3; omega)) (by have := HSV.out; omega)
      · try rw [HRB.out]
        exact OwnRows.mono (B := (V.heap.size + 1)) ((HO'.out.b.out.keep (keep1 _ (w.heap.size + 1 + 1) 0 _) (fun b h1 h2 h3 => by have h3 : b = w.heap.size + 1 + 1 := h3; omega)).keep (keep1 _ (w.heap.size + 1 + 1) 1 _) (fun b h1 h2 h3 => by have h3 : b = w.heap.size + 1 + 1 := h3; omega)) (by have := HSV.out; omega)
end Go.Proofs.Ytgmhnjccgldddaa

namespace Go.Proofs.Ytgmhnjccgldddaa
set_option linter.unusedVariables false
set_option linter.unusedSimpArgs false
open Go.RowKit

set_option maxRecDepth 100000 in
set_option maxHeartbeats 800000 in
theorem c_renamedSolution (v0 u0 v1 : Value) (A B : List (List Int)) (p : List Int) (w : World) (hA : Sol w v0 u0 A B) (hp : Ints w v1 p) (hok1 : RenOk A p) (hok2 : RenOk B p) :
    Calls Try.prog 45 #[.agg #[v0, u0], v1] w (RSol w (renL A p) (renL B p)) := by
  obtain ⟨a0, c0, rfl, _, _⟩ := hA.1.shape
  obtain ⟨a0s, c0s, rfl, _, _⟩ := hA.2.shape
  obtain ⟨a1, c1, rfl, _, _⟩ := hp.shape
  have HK1 := Lib.hid hok1; have HK2 := Lib.hid hok2; clear hok1 hok2
  go_enter Try.func45, Try.ntmps45
  go_wp2_with fail
  obtain ⟨f0, f1, hW0, hsz⟩ := boxes2 w [.slice a0 A.length c0, .slice a0s B.length c0s] [.slice none 0 0, .slice none 0 0] 29 29
  obtain ⟨W0, hW⟩ : ∃ W, ((w.alloc (.cells #[.slice a0 A.length c0, .slice a0s B.length c0s] 29)).alloc (.cells #[.slice none 0 0, .slice none 0 0] 29)) = W := ⟨_, rfl⟩
  rw [hW] at f0 f1 hW0 hsz ⊢
  clear hW hsz
  have HRA := Lib.hid ((hA.1.below hW0).below (Below.refl _ _).drew); have HRB := Lib.hid ((hA.2.below hW0).below (Below.refl _ _).drew); have HPp := Lib.hid ((hp.below hW0).below (Below.refl _ _).drew)
  have HFc := Lib.hid f0.drew; have HGc := Lib.hid f1.drew; have HBc := Lib.hid hW0.drew; have HLt := Lib.hid f1.lt
  clear hA hp hW0 f0 f1
  have zz : W0.drew.cell? ⟨w.heap.size, 0, none⟩ = some (.slice a0 A.length c0) ∧ W0.drew.cell? ⟨w.heap.size, 1, none⟩ = some (.slice a0s B.length c0s) := ⟨(two_cells HFc.out).1, (two_cells HFc.out).2.1⟩
  go_region_held3 (fun w' => w'.cell? ⟨w.heap.size, 0, none⟩ = some (.slice a0 A.length c0) ∧ w'.cell? ⟨w.heap.size, 1, none⟩ = some (.slice a0s B.length c0s))
    (first | go_keep | exact ⟨(two_cells HFc.out).1, (two_cells HFc.out).2.1⟩)
    ((first | (go_at_call 62; (with_reducible refine (c_renamed _ _ A p _ HRA.out HPp.out HK1.out).mono ?_); rintro e w1 ⟨r1, rfl, ho1, hb1⟩; obtain ⟨ra1, rc1, hv1, _⟩ := ho1.rows.shape; rw [renL_length] at hv1; subst hv1; replace HFc := Lib.hid (HFc.out.under hb1); replace HGc := Lib.hid (HGc.out.under hb1); replace HBc := Lib.hid (bb HBc.out hb1); replace HRB := Lib.hid (HRB.out.below hb1); replace HPp := Lib.hid (HPp.out.below hb1); have HO1 := Lib.hid ho1; have HS1 := Lib.hid hb1.size; clear ho1 hb1) | (go_at_call 62; (with_reducible refine (c_renamed _ _ B p _ HRB.out HPp.out HK2.out).mono ?_); rintro e w2 ⟨r2, rfl, ho2, hb2⟩; obtain ⟨ra2, rc2, hv2, _⟩ := ho2.rows.shape; rw [renL_length] at hv2; subst hv2; replace HFc := Lib.hid (HFc.out.under hb2); replace HGc := Lib.hid (HGc.out.under hb2); have HB2 := Lib.hid (bb HBc.out hb2); have HO2 := Lib.hid ho2; have HBx := Lib.hid hb2; obtain ⟨z0, z1, z2, z3⟩ := two_cells HGc.out; clear ho2 hb2)))
  obtain ⟨hA, hB⟩ := stored (q := w.heap.size + 1) HB2.out (OwnSol.mk HO1.out HBx.out HO2.out HS1.out) (by omega) HLt.out
  have HA := Lib.hid hA; have HB := Lib.hid hB
  clear hA hB
  go_wp2
  exact bodyPost_ret (v := .agg #[.slice ra1 A.length rc1, .slice ra2 B.length rc2]) (by simp [results, Try.results45, go_sem, z0, z1]) rfl ⟨.slice ra1 A.length rc1, .slice ra2 B.length rc2, rfl, HA.out, HB.out⟩

set_option maxRecDepth 100000 in
set_option maxHeartbeats 800000 in
theorem c_l02Rename (v0 u0 v1 : Value) (A B : List (List Int)) (p : List Int) (w : World) (hA : Sol w v0 u0 A B) (hp : Ints w v1 p) (hok1 : RenOk A p) (hok2 : RenOk B p) :
    Calls Try.prog 41 #[.agg #[v0, u0], v1] w (RSol w (renL A p) (renL B p)) := by
  obtain ⟨a0, c0, rfl, _, _⟩ := hA.1.shape
  obtain ⟨a0s, c0s, rfl, _, _⟩ := hA.2.shape
  obtain ⟨a1, c1, rfl, _, _⟩ := hp.shape
  have HK1 := Lib.hid hok1; have HK2 := Lib.hid hok2; clear hok1 hok2
  go_enter Try.func41, Try.ntmps41
  go_wp2_with fail
  obtain ⟨f0, f1, hW0, hsz⟩ := boxes2 w [.slice a0 A.length c0, .slice a0s B.length c0s] [.slice none 0 0, .slice none 0 0] 29 29
  obtain ⟨W0, hW⟩ : ∃ W, ((w.alloc (.cells #[.slice a0 A.length c0, .slice a0s B.length c0s] 29)).alloc (.cells #[.slice none 0 0, .slice none 0 0] 29)) = W := ⟨_, rfl⟩
  rw [hW] at f0 f1 hW0 hsz ⊢
  clear hW hsz
  have HRA := Lib.hid ((hA.1.below hW0).below (Below.refl _ _).drew); have HRB := Lib.hid ((hA.2.below hW0).below (Below.refl _ _).drew); have HPp := Lib.hid ((hp.below hW0).below (Below.refl _ _).drew)
  have HFc := Lib.hid f0.drew; have HGc := Lib.hid f1.drew; have HBc := Lib.hid hW0.drew; have HLt := Lib.hid f1.lt
  clear hA hp hW0 f0 f1
  have zz : W0.drew.cell? ⟨w.heap.size, 0, none⟩ = some (.slice a0 A.length c0) ∧ W0.drew.cell? ⟨w.heap.size, 1, none⟩ = some (.slice a0s B.length c0s) := ⟨(two_cells HFc.out).1, (two_cells HFc.out).2.1⟩
  go_region_held3 (fun w' => w'.cell? ⟨w.heap.size, 0, none⟩ = some (.slice a0 A.length c0) ∧ w'.cell? ⟨w.heap.size, 1, none⟩ = some (.slice a0s B.length c0s))
    (first | go_keep | exact ⟨(two_cells HFc.out).1, (two_cells HFc.out).2.1⟩)
    ((first | (go_at_call 58; (with_reducible refine (c_l01Rename _ _ A p _ HRA.out HPp.out HK1.out).mono ?_); rintro e w1 ⟨r1, rfl, ho1, hb1⟩; obtain ⟨ra1, rc1, hv1, _⟩ := ho1.rows.shape; rw [renL_length] at hv1; subst hv1; replace HFc := Lib.hid (HFc.out.under hb1); replace HGc := Lib.hid (HGc.out.under hb1); replace HBc := Lib.hid (bb HBc.out hb1); replace HRB := Lib.hid (HRB.out.below hb1); replace HPp := Lib.hid (HPp.out.below hb1); have HO1 := Lib.hid ho1; have HS1 := Lib.hid hb1.size; clear ho1 hb1) | (go_at_call 58; (with_reducible refine (c_l01Rename _ _ B p _ HRB.out HPp.out HK2.out).mono ?_); rintro e w2 ⟨r2, rfl, ho2, hb2⟩; obtain ⟨ra2, rc2, hv2, _⟩ := ho2.rows.shape; rw [renL_length] at hv2; subst hv2; replace HFc := Lib.hid (HFc.out.under hb2); replace HGc := Lib.hid (HGc.out.under hb2); have HB2 := Lib.hid (bb HBc.out hb2); have HO2 := Lib.hid ho2; have HBx := Lib.hid hb2; obtain ⟨z0, z1, z2, z3⟩ := two_cells HGc.out; clear ho2 hb2)))
  obtain ⟨hA, hB⟩ := stored (q := w.heap.size + 1) HB2.out (OwnSol.mk HO1.out HBx.out HO2.out HS1.out) (by omega) HLt.out
  have HA := Lib.hid hA; have HB := Lib.hid hB
  clear hA hB
  go_wp2
  exact bodyPost_ret (v := .agg #[.slice ra1 A.length rc1, .slice ra2 B.length rc2]) (by simp [results, Try.results41, go_sem, z0, z1]) rfl ⟨.slice ra1 A.length rc1, .slice ra2 B.length rc2, rfl, HA.out, HB.out⟩
end Go.Proofs.Ytgmhnjccgldddaa

namespace Go.Proofs.Ytgmhnjccgldddaa
set_option linter.unusedVariables false
set_option linter.unusedSimpArgs false
open Go.RowKit

theorem eql_nilC (W : World) (a : Option Addr) (n c : Nat) : (binOp .eql 26 (.slice a n c) (.slice none 0 0)).run Try.prog W = .ok (.bool a.isNone) W := Lib.run_eql_slice_nil W _ _ a n c 0 0 Try.underlying26

set_option maxHeartbeats 800000 in
theorem c_Clone (v : Value) (xs : List Int) (w : World) (hx : Ints w v xs) (hn : xs.length ≤ 1048576) :
    Calls Try.prog 37 #[v] w (RInts w xs) := by
  obtain ⟨a, c, rfl, hc, hm, hcell⟩ := hx
  have hnl := eql_nilC
  cases a with
  | none =>
    have hl : xs = [] := by
      rcases Nat.eq_zero_or_pos xs.length with h | h
      · exact List.eq_nil_of_length_eq_zero h
      · obtain ⟨_, _, h1, _⟩ := hcell 0 h; cases h1
    subst hl
    go_enter Try.func37, Try.ntmps37
    go_wp2
    go_ret
    exact ⟨_, rfl, Own.nil _ _, Below.refl _ _⟩
  | some ad =>
    have h0 : Hid (Own w.heap.size (w.alloc (.cells #[] 2)) (.slice (some ⟨w.heap.size, 0, none⟩) 0 0) []) := Lib.hid (Own.made0 w (Nat.le_refl _))
    have hb0 : Hid (Below w.heap.size w (w.alloc (.cells #[] 2))) := Lib.hid ((Below.refl _ _).alloc (Nat.le_refl _) _)
    have hnews : Hid (∀ j u, (xs.map (Value.int .i64))[j]? = some u → (w.alloc (.cells #[] 2)).cell? (ad.add j) = some u) := by
      intro j u hj
      obtain ⟨hj1, rfl⟩ := List.getElem?_eq_some_iff.1 hj
      obtain ⟨b, o, h1, h2⟩ := hcell j (by simpa using hj1)
      cases h1
      have e : Addr.add ⟨b, o, none⟩ j = ⟨b, o + j, none⟩ := by simp [Addr.add]
      rw [e]
      simpa using cell_under hb0.out h2
    have hlen : (xs.map (Value.int .i64)).length = xs.length := by simp
    have HC := Lib.hid hcell; clear hcell
    have HLn := Lib.hid hlen; clear hlen
    go_enter Try.func37, Try.ntmps37
    obtain ⟨i0, hi, hz0, hz1, hz2⟩ := info_parts inf_int64
    have HInf := Lib.hid (And.intro hi (And.intro hz0 (And.intro hz1 hz2)))
    clear hi hz0 hz1 hz2
    have hxl : Hid (0 + xs.length ≤ maxLen) := by show _ ≤ _; unfold maxLen; omega
    have hxb : Hid ((0 + xs.length) * 8 ≤ 140737488355328) := by show _ ≤ _; omega
    have hone : Hid (∀ u ∈ xs.map (Value.int .i64), u.oneCell' = true) := by
      intro u hu
      obtain ⟨x, _, rfl⟩ := List.mem_map.1 hu
      rfl
    go_wp2_with (at_builtin; go_must (refine wpList_append_own _ rfl _ _ 26 rfl w.heap.size 2 i0 (.int .i64 0) 1 8 Try.underlying26 HInf.out.1 HInf.out.2.1 HInf.out.2.2.1 HInf.out.2.2.2 rfl (by decide) (.slice (some ⟨w.heap.size, 0, none⟩) 0 0) 0 [] rfl h0.out ad xs.length c (xs.map (Value.int .i64)) rfl (by simp) hnews.out hone.out hxl.out hxb.out hb0.out.size ?_); intro v' w' hown' hg hnil; have HO := Lib.hid hown'; have HG := Lib.hid hg; clear hown' hg hnil)
    go_ret
    refine ⟨_, rfl, ?_, ?_⟩
    · have := HO.out
      simpa [Own] using this
    · refine hb0.out.trans ((Keep.of_grown HG.out).below fun k hk => ⟨Nat.lt_of_lt_of_le hk hb0.out.size, fun e => ?_⟩)
      have e' : w.heap.size = k := by simpa [Value.ownBlock] using e
      omega
end Go.Proofs.Ytgmhnjccgldddaa

namespace Go.Proofs.Ytgmhnjccgldddaa
set_option linter.unusedVariables false
set_option linter.unusedSimpArgs false
open Go.RowKit

set_option maxHeartbeats 1600000 in
theorem c_cloneTable (v : Value) (t : List (List Int)) (w : World) (hx : Rows w v t) (hn : t.length ≤ 1048576) (hr : ∀ r ∈ t, r.length ≤ 1048576) :
    Calls Try.prog 63 #[v] w (RRows w t) := by
  obtain ⟨a, c, rfl, hc, hm⟩ := hx.shape
  have hmk := run_make_row' (P := Try.prog) 22 26 (.slice none 0 0) 24 Try.underlying22 inf_ints rfl .i64 .i64 t.length (by omega) (by omega)
  have HR := Lib.hid hr; clear hr
  have hB0 : Hid (Below w.heap.size w (w.alloc (.cells (madeCells #[.slice none 0 0] t.length) 26))) := Lib.hid ((Below.refl _ _).alloc (Nat.le_refl _) _)
  have hK0 : Hid (Blk (w.alloc (.cells (madeCells #[.slice none 0 0] t.length) 26)) w.heap.size 26 ([] ++ (List.replicate t.length (Value.slice none 0 0)).drop 0)) := by
    show Blk _ _ _ _
    simpa using Blk.made w (.slice none 0 0) t.length 26
  go_enter Try.func63, Try.ntmps63
  go_wp2
  clear hmk
  go_loopw [11, 4, 5] (fun i _ _ wr => ∃ (k : Nat) (us : List Value), k ≤ t.length ∧ i = .int .i64 k ∧ Hid (Below w.heap.size w wr) ∧ Hid (Blk wr w.heap.size 26 (us ++ (List.replicate t.length (Value.slice none 0 0)).drop k)) ∧ Hid (RowVals w.heap.size wr us (t.take k))) (fun i _ _ _ => t.length - (intOf i).toNat)
  case atStart => exact ⟨0, [], Nat.zero_le _, rfl, hB0, hK0, Lib.hid (RowVals.nil _ _)⟩
  case round =>
    clear hB0 hK0
    obtain ⟨k, us, hk, rfl, HB, HBk, HV⟩ := hrel
    obtain ⟨wo, rfl⟩ : ∃ wo : World, wo = wr := ⟨_, rfl⟩
    have hul : us.length = k := by rw [HV.out.len]; simp; omega
    by_cases hlt : k < t.length
    · obtain ⟨b, o, ra, rc, rfl, hcell, hu⟩ := (hx.below HB.out).getS k hlt
      have hrl : (row t k).length ≤ 1048576 := HR.out _ (row_mem (by omega) (by omega))
      have HU := Lib.hid hu; have HUl := Lib.hid hul
      clear hu hul
      go_wp2_with fail
      refine (c_Clone _ _ _ HU.out hrl).mono ?_; rintro e w1 ⟨r1, rfl, ho1, hb1⟩
      obtain ⟨x1, y1, hv1, _⟩ := ho1.shape
      subst hv1
      have hbk1 := HBk.out.under hb1
      obtain ⟨z, h2⟩ := fill_cell0 hbk1 (k := k) (by have := HUl.out; simp; omega)
      have h3 := hbk1.frozen k
      have hset := hbk1.set k (.slice x1 (row t k).length y1)
      rw [vals_set0 _ _ _ _ _ HUl.out hlt] at hset
      have hV1 := HV.out.snoc hb1 ho1 (Nat.le_trans (Below.size HB.out) (Nat.le_refl _))
      have hV2 := hV1.store hbk1 (by decide) k (.slice x1 (row t k).length y1)
      have HB1 := Lib.hid ((bb HB.out hb1).setCell (p := ⟨w.heap.size, k, none⟩) (Nat.le_refl _) (.slice x1 (row t k).length y1))
      have HS := Lib.hid hset; have HV2 := Lib.hid hV2
      clear hb1 hbk1 hset hV1 hV2 hcell ho1
      go_wp2
      go_roundw
      case rel =>
        refine ⟨k + 1, us ++ [.slice x1 (row t k).length y1], by omega, by go_num, HB1, HS, ?_⟩
        rw [take_snoc_row _ _ hlt]; exact HV2
      case measure => simp [intOf]; omega
    · obtain rfl : k = t.length := by omega
      have hv := HV.out
      rw [List.take_of_length_le (Nat.le_refl _)] at hv
      have hkk := HBk.out
      rw [List.drop_of_length_le (by simp), List.append_nil] at hkk
      have H1 := Lib.hid hv; have H2 := Lib.hid hkk; have HUl := Lib.hid hul
      clear hv hkk hul
      go_wp2
      go_ret
      exact ⟨_, rfl, ⟨us, ownsRow_blk H2.out (Nat.le_refl _) HUl.out.symm HUl.out.symm (by rw [HUl.out]; unfold maxLen; omega), H1.out⟩, HB.out⟩

set_option maxHeartbeats 1600000 in
theorem c_l01Own2 (v : Value) (t : List (List Int)) (w : World) (hx : Rows w v t) (hn : t.length ≤ 1048576) (hr : ∀ r ∈ t, r.length ≤ 1048576) :
    Calls Try.prog 110 #[v] w (RRows w t) := by
  obtain ⟨a, c, rfl, hc, hm⟩ := hx.shape
  have HR := Lib.hid hr; clear hr
  go_enter Try.func110, Try.ntmps110
  go_wp2
  go_loopw [3, 4] (fun s i wr => ∃ (k : Nat) (sa : Option Addr) (sc : Nat), k ≤ t.length ∧ i = .int .i64 k ∧ s = .slice sa k sc ∧ Below w.heap.size w wr ∧ OwnRows w.heap.size wr (.slice sa k sc) (t.take k)) (fun _ i _ => t.length - (intOf i).toNat)
  case atStart => exact ⟨0, _, _, Nat.zero_le _, rfl, rfl, (Below.refl _ _).alloc (Nat.le_refl _) _, OwnRows.made0 w (Nat.le_refl _)⟩
  case round =>
    obtain ⟨k, sa, sc, hk, rfl, rfl, hb, hown⟩ := hrel
    have hlen : (t.take k).length = k := by simp; omega
    by_cases hlt : k < t.length
    · obtain ⟨b, o, ra, rc, rfl, hcell, hu⟩ := (hx.below hb).getS k hlt
      have hrl : (row t k).length ≤ 1048576 := HR.out _ (row_mem (by omega) (by omega))
      have Hb := Lib.hid hb; have Ho := Lib.hid hown; have Hl := Lib.hid hlen; have Hs := Lib.hid hb.size; have HU := Lib.hid hu; clear hb hown hlen hu
      obtain ⟨wo, rfl⟩ : ∃ wo : World, wo = wr := ⟨_, rfl⟩
      go_wp2_with fail
      refine (c_l01Own _ _ _ HU.out hrl).mono ?_; rintro e w1 ⟨r, rfl, hor, hb1⟩
      obtain ⟨qa, qc, hqv, _⟩ := hor.shape
      subst hqv
      have HRr := Lib.hid hor; have HB1 := Lib.hid hb1; clear hor hb1 hcell
      go_wp2_with (at_builtin; refine wpList_app_row w.heap.size wo w1 _ (t.take k) _ (row t k) _ _ rfl rfl rfl Ho.out HB1.out HRr.out rfl (by rw [Hl.out]; omega) Hs.out ?_; intro a' c' w' hown' hkeep; rw [Hl.out]; have Hk := Lib.hid hkeep; have Ho' := Lib.hid hown'; clear hkeep hown')
      go_roundw
      case rel =>
        have h1 := Ho'.out
        rw [Hl.out, ← take_snoc_row _ _ hlt] at h1
        exact ⟨k + 1, a', c', by omega, by go_num, rfl, OwnRows.frame Ho.out (bb Hb.out HB1.out) (Nat.le_refl _) (Nat.le_trans Hs.out HB1.out.size) Hk.out, h1⟩
      case measure => simp [intOf]; omega
    · have Hb := Lib.hid hb; have Ho := Lib.hid hown; clear hb hown hlen
      obtain rfl : k = t.length := by omega
      go_wp2
      go_ret
      exact ⟨_, rfl, by have := Ho.out; rwa [List.take_of_length_le (Nat.le_refl _)] at this, Hb.out⟩

end Go.Proofs.Ytgmhnjccgldddaa

namespace Go.Proofs.Ytgmhnjccgldddaa
set_option linter.unusedVariables false
set_option linter.unusedSimpArgs false
open Go.RowKit

def lexS (A B C D : List (List Int)) : Bool := if A = C then lexR B D else lexR A C
def orI (x y : Int) : Int := if x = 0 then y else x
theorem orI_neg {A B C D : List (List Int)} : orI (cmpR A C) (cmpR B D) < 0 ↔ lexS A B C D = true := by
  unfold orI lexS
  by_cases h : A = C
  · rw [if_pos (cmpR_zero.2 h), if_pos h]; exact cmpR_neg
  · rw [if_neg (fun e => h (cmpR_zero.1 e)), if_neg h]; exact cmpR_neg

set_option maxHeartbeats 800000 in
theorem c_cmpOr (g : Nat) (x y : Int) (w : World) (h : Blk w g 3 [.int .i64 x, .int .i64 y]) :
    Calls Try.prog 91 #[.slice (some ⟨g, 0, none⟩) 2 2] w (fun e w' => e = .returned (.int .i64 (orI x y)) ∧ w = w') := by
  have h0 := h.cell (i := 0) (by simp); have h1 := h.cell (i := 1) (by simp)
  simp only [List.getElem_cons_zero, List.getElem_cons_succ] at h0 h1
  go_enter Try.func91, Try.ntmps91
  go_wp2
  go_loop [8, 5] (fun i _ => ∃ k : Nat, k ≤ 2 ∧ i = .int .i64 k ∧ Hid (1 ≤ k → x = 0) ∧ Hid (2 ≤ k → y = 0)) (fun i _ => 2 - (intOf i).toNat)
  case atStart => exact ⟨0, by omega, rfl, Lib.hid (by omega), Lib.hid (by omega)⟩
  case round =>
    obtain ⟨k, hk, rfl, HX, HY⟩ := hrel
    by_cases hlt : k < 2
    · rcases (show k = 0 ∨ k = 1 by omega) with rfl | rfl
      · by_cases hx : x = 0
        · have hz : (x != 0) = false := by simp [hx]
          have HZ := Lib.hid hx; clear hx
          go_wp2
          go_round
          case rel => exact ⟨1, by omega, by go_num, Lib.hid (fun _ => HZ.out), Lib.hid (by omega)⟩
          case measure => simp [intOf]
        · have hz : (x != 0) = true := by simp [hx]
          have HR : Hid (x = orI x y) := Lib.hid (by unfold orI; rw [if_neg hx])
          clear hx
          go_wp2
          go_ret
          exact ⟨ret_int HR.out, rfl⟩
      · by_cases hy : y = 0
        · have hz : (y != 0) = false := by simp [hy]
          have HZ := Lib.hid hy; clear hy
          go_wp2
          go_round
          case rel => exact ⟨2, by omega, by go_num, Lib.hid (fun _ => HX.out (by omega)), Lib.hid (fun _ => HZ.out)⟩
          case measure => simp [intOf]
        · have hz : (y != 0) = true := by simp [hy]
          have HR : Hid (y = orI x y) := Lib.hid (by unfold orI; rw [if_pos (HX.out (by omega))])
          clear hy
          go_wp2
          go_ret
          exact ⟨ret_int HR.out, rfl⟩
    · obtain rfl : k = 2 := by omega
      have HR : Hid (0 = orI x y) := Lib.hid (by unfold orI; rw [if_pos (HX.out (by omega)), HY.out (by omega)])
      go_wp2
      go_ret
      exact ⟨ret_int HR.out, rfl⟩

set_option maxRecDepth 100000 in
set_option maxHeartbeats 4000000 in
theorem c_compareSolutions (v0 u0 : Value) (A B : List (List Int)) (v1 u1 : Value) (C D : List (List Int)) (w : World) (hA : Sol w v0 u0 A B) (hC : Sol w v1 u1 C D)  :
    Calls Try.prog 66 #[.agg #[v0, u0], .agg #[v1, u1]] w (RVal w (.int .i64 (orI (cmpR A C) (cmpR B D)))) := by
  obtain ⟨a0, c0, rfl, _, _⟩ := hA.1.shape
  obtain ⟨a0s, c0s, rfl, _, _⟩ := hA.2.shape
  obtain ⟨a1, c1, rfl, _, _⟩ := hC.1.shape
  obtain ⟨a1s, c1s, rfl, _, _⟩ := hC.2.shape
  go_enter Try.func66, Try.ntmps66
  go_wp2
  obtain ⟨f0, f1, hW0, hsz⟩ := boxes2 w [.slice a0 A.length c0, .slice a0s B.length c0s] [.slice a1 C.length c1, .slice a1s D.length c1s] 29 29
  obtain ⟨W0, hW⟩ : ∃ W, ((w.alloc (.cells #[.slice a0 A.length c0, .slice a0s B.length c0s] 29)).alloc (.cells #[.slice a1 C.length c1, .slice a1s D.length c1s] 29)) = W := ⟨_, rfl⟩
  rw [hW] at f0 f1 hW0 hsz ⊢
  have HSZ := Lib.hid hsz
  clear hW hsz
  obtain ⟨cA0, cB0, -, -⟩ := two_cells f0
  obtain ⟨cA1, cB1, -, -⟩ := two_cells f1
  have HA1 := Lib.hid (hA.1.below hW0); have HA2 := Lib.hid (hA.2.below hW0); have HC1 := Lib.hid (hC.1.below hW0); have HC2 := Lib.hid (hC.2.below hW0); have HBW := Lib.hid hW0
  have HSk : Hid (∀ w' : World, Below W0.heap.size W0 w' → w'.cell? ⟨w.heap.size, 0, none⟩ = some (.slice a0 A.length c0) ∧ w'.cell? ⟨w.heap.size, 1, none⟩ = some (.slice a0s B.length c0s) ∧ w'.cell? ⟨w.heap.size + 1, 0, none⟩ = some (.slice a1 C.length c1) ∧ w'.cell? ⟨w.heap.size + 1, 1, none⟩ = some (.slice a1s D.length c1s)) := Lib.hid (fun w' hb => ⟨(two_cells (f0.under hb)).1, (two_cells (f0.under hb)).2.1, (two_cells (f1.under hb)).1, (two_cells (f1.under hb)).2.1⟩)
  clear hA hC hW0 f0 f1
  go_region_held3 (fun w' => w'.cell? ⟨w.heap.size, 0, none⟩ = some (.slice a0 A.length c0) ∧ w'.cell? ⟨w.heap.size, 1, none⟩ = some (.slice a0s B.length c0s) ∧ w'.cell? ⟨w.heap.size + 1, 0, none⟩ = some (.slice a1 C.length c1) ∧ w'.cell? ⟨w.heap.size + 1, 1, none⟩ = some (.slice a1s D.length c1s))
    (first | go_keep | exact HSk.out _ (Below.refl _ _).drew | exact HSk.out _ HX1.out | exact HSk.out _ HX2.out | exact HSk.out _ HX3.out)
    ((first
      | (go_at_call 65; (with_reducible refine (c_compareTables _ _ A C _ (HA1.out.below (Below.refl _ _).drew) (HC1.out.below (Below.refl _ _).drew)).mono ?_); rintro e w1 ⟨rfl, n1, hw1⟩; have HX1 := Lib.hid (show Below W0.heap.size W0 w1 by rw [hw1]; exact below_drewN (Below.refl _ _).drew n1); clear hw1)
      | (go_at_call 65; (with_reducible refine (c_compareTables _ _ B D _ (HA2.out.below HX1.out) (HC2.out.below HX1.out)).mono ?_); rintro e w2 ⟨rfl, n2, hw2⟩; have HX2 := Lib.hid (show Below W0.heap.size W0 w2 by rw [hw2]; exact below_drewN HX1.out n2); clear hw2)
      | (go_at_call 91; refine (c_cmpOr w2.heap.size (cmpR A C) (cmpR B D) _ (Blk.new w2 [.int .i64 (cmpR A C), .int .i64 (cmpR B D)] 3)).mono ?_; rintro e w3 ⟨rfl, hw3⟩; have HX3 := Lib.hid (show Below W0.heap.size W0 w3 by rw [← hw3]; exact HX2.out.alloc HX2.out.size _); clear hw3)))
  all_goals
    go_wp2
    go_ret
    exact ⟨rfl, bb HBW.out HX3.out⟩


end Go.Proofs.Ytgmhnjccgldddaa

namespace Go.Proofs.Ytgmhnjccgldddaa
set_option linter.unusedVariables false
set_option linter.unusedSimpArgs false
open Go Go.RowKit

variable {F : Fence} {n : Nat} {P : Program}

/-- The iterator's contract: it hands the rows of T, one after the other, in a slice that lies in blocks [size at its start, hi); between two rounds it writes these blocks alone. J hi k: what the caller keeps when k rows have come. -/
def SeqRows (F : Fence) (n : Nat) (P : Program) (g : Nat) (lb : Array Value) (T : List (List Int)) (w : World) : Prop :=
  ∀ (l : Nat) (J Jx : Nat → Nat → World → Prop) (W1 : World), Below w.heap.size w W1 →
    (∀ hi k W W', J hi k W → Keep (fun b => W1.heap.size ≤ b ∧ b < hi) W W' → J hi k W') →
    (∀ hi k W W', Jx hi k W → Keep (fun b => W1.heap.size ≤ b ∧ b < hi) W W' → Jx hi k W') →
    (∀ W', Below W1.heap.size W1 W' → J W'.heap.size 0 W') →
    (∀ hi k u W, J hi k W → W1.heap.size ≤ hi → hi ≤ W.heap.size → k < T.length → Ints W u (row T k) → YieldAt F (n - 1) P l #[u] W fun e W' =>
      (e = .returned (.bool true) ∧ J hi (k + 1) W' ∧ Keep (fun b => b < W1.heap.size ∨ hi ≤ b) W W') ∨ (e = .returned (.bool false) ∧ Jx hi (k + 1) W')) →
    CallsIn F n P g (#[.func (.yield l) #[] #[]] ++ lb) W1 fun e W' => (∃ v, e = .returned v) ∧ ((∃ hi, J hi T.length W') ∨ (∃ hi k, Jx hi k W'))

def rowsPost (S0 : Nat → Prop) (I : Nat → Nat → World → Prop) (Ix : Code → Nat → Nat → World → Prop) (hi k : Nat) (W : World) : Exit → Act → World → Prop
  | .normal, _, W' => Keep (fun b => S0 b ∨ hi ≤ b) W W' ∧ I hi k W'
  | .ret, _, W' => Keep (fun b => S0 b ∨ hi ≤ b) W W' ∧ Ix .ret hi k W'
  | .exit id, _, W' => Keep (fun b => S0 b ∨ hi ≤ b) W W' ∧ Ix (.exit id) hi k W'
  | .goto t, _, W' => Keep (fun b => S0 b ∨ hi ≤ b) W W' ∧ Ix (.goto t) hi k W'
  | .panic _, _, _ => False
  | .outgrown, _, _ => False

theorem keep_putObj (W : World) (l : Nat) (o : Obj) : Keep (fun b => b = l) W (W.putObj l o) :=
  (Keep.of_grown (grownBy_putObj' W l o)).mono fun k _ h => by cases h; rfl

theorem wpIn_rangeFunc_rows {g : Operand} {ps : Array Tmp} {assign body : Code} {Q : Exit → Act → World → Prop} {a : Act} {w : World}
    (hro : F.round = none) (h1 : 1 ≤ n) {gf : Nat} {lb : Array Value} (hg : a.eval g = .func (.func gf) #[] lb) (hFg : F.fn gf) (eg : ∀ args w, (callFunc gf args).run P w = .ok (.enter gf args) w)
    (S0 : Nat → Prop) (hS0 : ∀ b, S0 b → b < w.heap.size) {T : List (List Int)} (hseq : SeqRows F (n - 1) P gf lb T w) (hps : ps.size = 1)
    (I : Nat → Nat → World → Prop) (Ix : Code → Nat → Nat → World → Prop)
    (hI : ∀ hi k W W', I hi k W → Keep (fun b => w.heap.size ≤ b ∧ b < hi) W W' → I hi k W')
    (hIx : ∀ c hi k W W', Ix c hi k W → Keep (fun b => w.heap.size ≤ b ∧ b < hi) W W' → Ix c hi k W')
    (h0 : ∀ W', Below w.heap.size w W' → I W'.heap.size 0 W') (a₁ : Value → Act)
    (hassign : ∀ (l : Nat) (u : Value) (W : World) (K : Act → World → Prop), K (a₁ u) W →
      assign.wpIn (F.inRound l) (n - 1 - 1) P (Exit.then K (fun _ _ _ => False)) { tmps := (ps.zip #[u]).foldl (fun t (p, v) => t.setIfInBounds p v) a.tmps, defers := [] } W)
    (hbody : ∀ (l hi k : Nat) (u : Value) (W : World), I hi k W → w.heap.size ≤ hi → hi ≤ W.heap.size → k < T.length → Ints W u (row T k) → body.wpIn (F.inRound l) (n - 1 - 1) P (rowsPost S0 I Ix hi (k + 1) W) (a₁ u) W)
    (hdone : ∀ (D hi : Nat) (W : World), w.heap.size ≤ D → D < hi → I hi T.length W → W.heap[D]? = some (.deferred (some [])) → Q .normal { a with defers := { target := .collected D, args := #[] } :: a.defers } W)
    (hstop : ∀ (D hi k : Nat) (c : Code) (W : World), w.heap.size ≤ D → D < hi → Ix c hi k W → W.heap[D]? = some (.deferred (some [])) → c.wpIn F n P Q { a with defers := { target := .collected D, args := #[] } :: a.defers } W) :
    (Code.rangeFunc g ps assign body).wpIn F n P Q a w := by
  refine wpIn_rangeFunc ?_
  intro fn hfn
  rw [hro]
  obtain ⟨rec, hrec⟩ : ∃ rec : LoopState → Option Code → Loop, rec = fun st pe => { state := st, pending := pe, fn, tmps := a.tmps, params := ps, assign, body, defers := w.heap.size } := ⟨_, rfl⟩
  obtain ⟨W1, hW1⟩ : ∃ W1, (w.alloc (.deferred (some []))).alloc (.loop (rec .ready none)) = W1 := ⟨_, rfl⟩
  have hL1 : W1.heap[w.heap.size + 1]? = some (.loop (rec .ready none)) := by
    rw [← hW1]; have := World.alloc_heap_new (w.alloc (.deferred (some []))) (.loop (rec .ready none)); rwa [World.size_alloc] at this
  have hK1 : W1.heap[w.heap.size]? = some (.deferred (some [])) := by
    rw [← hW1]; exact (Below.heap_alloc _ _ _ (by simp)).trans (World.alloc_heap_new w _)
  have hsz : W1.heap.size = w.heap.size + 2 := by rw [← hW1]; simp
  have hb1 : Below w.heap.size w W1 := by
    rw [← hW1]; exact ((Below.refl _ w).alloc (Nat.le_refl _) _).alloc (by simp) _
  refine ⟨w.heap.size + 1, [{ target := .collected w.heap.size, args := #[] }], W1, { target := .fn (.func gf) lb, args := #[.func (.yield (w.heap.size + 1)) #[] #[]] }, W1, gf,
    #[.func (.yield (w.heap.size + 1)) #[] #[]] ++ lb, W1, ?_, ?_, ?_, ?_, fun _ => h1, ?_⟩
  · rw [← hW1, hrec]; exact run_enterLoop_outer _ _ _ _ _
  · simp only [resolve, hg]
    simp [go_sem]
  · intro f' hf'; simp [Target.leads] at hf'; subst hf'; exact hFg
  · simp [invoke, go_sem, eg]
  · have stepI : ∀ {hi k : Nat} {W : World} (o : Obj), w.heap.size + 2 ≤ hi → I hi k W → I hi k (W.putObj (w.heap.size + 1) o) := fun o hh h =>
      hI _ _ _ _ h ((keep_putObj _ _ _).mono fun b _ e => by subst e; omega)
    have stepIx : ∀ {c : Code} {hi k : Nat} {W : World} (o : Obj), w.heap.size + 2 ≤ hi → Ix c hi k W → Ix c hi k (W.putObj (w.heap.size + 1) o) := fun o hh h =>
      hIx _ _ _ _ _ h ((keep_putObj _ _ _).mono fun b _ e => by subst e; omega)
    have keptAt : ∀ {hi b : Nat} {W W' : World}, b < W1.heap.size → W1.heap.size ≤ W.heap.size → Keep (fun b => W1.heap.size ≤ b ∧ b < hi) W W' → W'.heap[b]? = W.heap[b]? := fun hb hW hk =>
      hk.block _ (by omega) (by omega)
    refine (hseq (w.heap.size + 1)
      (fun hi k W => I hi k W ∧ W.heap[w.heap.size + 1]? = some (.loop (rec .ready none)) ∧ W.heap[w.heap.size]? = some (.deferred (some [])) ∧ w.heap.size + 2 ≤ hi ∧ W1.heap.size ≤ W.heap.size)
      (fun hi k W => ∃ c, Ix c hi k W ∧ W.heap[w.heap.size + 1]? = some (.loop (rec .done (some c))) ∧ W.heap[w.heap.size]? = some (.deferred (some [])) ∧ w.heap.size + 2 ≤ hi ∧ W1.heap.size ≤ W.heap.size)
      W1 hb1 ?_ ?_ ?_ ?_).mono ?_
    · rintro hi k W W' ⟨h, hl, hk, hh, hs⟩ hkeep
      exact ⟨hI _ _ _ _ h (hkeep.mono fun b _ hb => ⟨by omega, hb.2⟩), (keptAt (by omega) hs hkeep).trans hl, (keptAt (by omega) hs hkeep).trans hk, hh, Nat.le_trans hs hkeep.size⟩
    · rintro hi k W W' ⟨c, h, hl, hk, hh, hs⟩ hkeep
      exact ⟨c, hIx _ _ _ _ _ h (hkeep.mono fun b _ hb => ⟨by omega, hb.2⟩), (keptAt (by omega) hs hkeep).trans hl, (keptAt (by omega) hs hkeep).trans hk, hh, Nat.le_trans hs hkeep.size⟩
    · intro W' hb
      exact ⟨h0 W' (bb hb1 hb), (hb.block _ (by omega)).trans hL1, (hb.block _ (by omega)).trans hK1, by have := hb.size; omega, hb.size⟩
    · -- ONE ROUND
      rintro hi k u W ⟨hi0, hl, hk, hh, hs⟩ hlo hhi hlen hu
      have hlt : w.heap.size + 1 < W.heap.size := (Array.getElem?_eq_some_iff.1 hl).1
      have hy := run_yield (P := P) (args := #[u]) hl (by rw [hrec]; simpa using hps.symm)
      rw [hrec] at hy
      refine ⟨fn, _, assign, body, hy, roundIn_of_wpIn hfn (hassign _ u W _ ⟨_, run_beginRound hl (by rw [hrec]), ?_⟩)⟩
      obtain ⟨W2, hW2⟩ : ∃ W2, W.putObj (w.heap.size + 1) (.loop { rec .ready none with state := .busy }) = W2 := ⟨_, rfl⟩
      have hl2 : W2.heap[w.heap.size + 1]? = some (.loop { rec .ready none with state := .busy }) := by rw [← hW2]; exact World.putObj_heap_same hlt
      have hk2 : W2.heap[w.heap.size]? = some (.deferred (some [])) := by rw [← hW2]; exact (World.putObj_heap_other (by omega)).trans hk
      have kp2 : Keep (fun b => b = w.heap.size + 1) W W2 := by rw [← hW2]; exact keep_putObj _ _ _
      have hi2 : I hi k W2 := by rw [← hW2]; exact stepI _ hh hi0
      have hu2 : Ints W2 u (row T k) := by
        obtain ⟨ua, uc, hv, huc, hum, hcell⟩ := hu
        refine ⟨ua, uc, hv, huc, hum, fun i hi' => ?_⟩
        obtain ⟨b, o, e, hc⟩ := hcell i hi'
        refine ⟨b, o, e, ?_⟩
        have hb : b ≠ w.heap.size + 1 := by
          rintro rfl
          simp [World.cell?, hl] at hc
        have hblt : b < W.heap.size := by
          rcases Nat.lt_or_ge b W.heap.size with h | h
          · exact h
          · simp [World.cell?, Array.getElem?_eq_none h] at hc
        simp only [World.cell?] at hc ⊢
        rw [kp2.block b hblt hb]
        exact hc
      rw [hW2]
      refine wpIn_mono (hbody _ hi k u W2 hi2 (by omega) (Nat.le_trans hhi kp2.size) hlen hu2) ?_
      have fin : ∀ (jump : Option Code) (W3 : World), Keep (fun b => S0 b ∨ hi ≤ b) W2 W3 →
          (Instr.endRound (w.heap.size + 1) jump).run P W3 = .ok (.bool jump.isNone) (W3.putObj (w.heap.size + 1) (.loop (rec (if jump.isNone then .ready else .done) jump))) ∧
          (W3.putObj (w.heap.size + 1) (.loop (rec (if jump.isNone then .ready else .done) jump))).heap[w.heap.size + 1]? = some (.loop (rec (if jump.isNone then .ready else .done) jump)) ∧
          (W3.putObj (w.heap.size + 1) (.loop (rec (if jump.isNone then .ready else .done) jump))).heap[w.heap.size]? = some (.deferred (some [])) ∧ W1.heap.size ≤ (W3.putObj (w.heap.size + 1) (.loop (rec (if jump.isNone then .ready else .done) jump))).heap.size ∧
          Keep (fun b => b < W1.heap.size ∨ hi ≤ b) W (W3.putObj (w.heap.size + 1) (.loop (rec (if jump.isNone then .ready else .done) jump))) := fun jump W3 hk3 => by
        have hno : ∀ b, w.heap.size ≤ b → b < w.heap.size + 2 → ¬ (S0 b ∨ hi ≤ b) := fun b h1 h2 h => by
          rcases h with h | h
          · have := hS0 b h; omega
          · omega
        have hsz2 : W2.heap.size = W.heap.size := by rw [← hW2]; simp [World.putObj]
        have hl3 := (hk3.block (w.heap.size + 1) (by omega) (hno _ (by omega) (by omega))).trans hl2
        have hd3 := (hk3.block (w.heap.size) (by omega) (hno _ (by omega) (by omega))).trans hk2
        have := run_endRound (P := P) jump hl3
        rw [hrec] at this ⊢
        refine ⟨this, World.putObj_heap_same (Array.getElem?_eq_some_iff.1 hl3).1, (World.putObj_heap_other (by omega)).trans hd3, Nat.le_trans hs (Nat.le_trans kp2.size (Nat.le_trans hk3.size (keep_putObj _ _ _).size)), ?_⟩
        refine ((kp2.mono (fun b _ e => ?_)).trans (hk3.mono (fun b _ e => ?_))).trans ((keep_putObj _ _ _).mono (fun b _ e => ?_))
        · exact .inl (by subst e; omega)
        · rcases e with e | e
          · exact .inl (by have := hS0 b e; omega)
          · exact .inr e
        · exact .inl (by subst e; omega)
      rintro e a3 W3 hp
      cases e with
      | normal =>
        obtain ⟨hk3, hi3⟩ := hp
        obtain ⟨hr, hl4, hk4, hs4, hkk⟩ := fin none W3 hk3
        exact ⟨_, _, hr, .inl ⟨rfl, ⟨stepI _ hh hi3, hl4, hk4, hh, hs4⟩, hkk⟩⟩
      | ret =>
        obtain ⟨hk3, hi3⟩ := hp
        obtain ⟨hr, hl4, hk4, hs4, hkk⟩ := fin (some .ret) W3 hk3
        exact ⟨_, _, hr, .inr ⟨rfl, .ret, stepIx _ hh hi3, hl4, hk4, hh, hs4⟩⟩
      | exit id =>
        obtain ⟨hk3, hi3⟩ := hp
        obtain ⟨hr, hl4, hk4, hs4, hkk⟩ := fin (some (.exit id)) W3 hk3
        exact ⟨_, _, hr, .inr ⟨rfl, .exit id, stepIx _ hh hi3, hl4, hk4, hh, hs4⟩⟩
      | goto t =>
        obtain ⟨hk3, hi3⟩ := hp
        obtain ⟨hr, hl4, hk4, hs4, hkk⟩ := fin (some (.goto t)) W3 hk3
        exact ⟨_, _, hr, .inr ⟨rfl, .goto t, stepIx _ hh hi3, hl4, hk4, hh, hs4⟩⟩
      | panic ch => exact hp.elim
      | outgrown => exact hp.elim
    · -- BEHIND THE ITERATOR
      rintro e W2 ⟨⟨v, rfl⟩, (⟨hi, h, hl, hk, hh, hs⟩ | ⟨hi, k, c, h, hl, hk, hh, hs⟩)⟩
      · exact ⟨none, _, by have := run_endLoop (P := P) hl (by rw [hrec]; simp); rw [hrec] at this; exact this, hdone _ hi _ (Nat.le_refl _) (by omega) (stepI _ hh h) ((World.putObj_heap_other (by omega)).trans hk)⟩
      · exact ⟨some c, _, by have := run_endLoop (P := P) hl (by rw [hrec]; simp); rw [hrec] at this; exact this, hstop _ hi k c _ (Nat.le_refl _) (by omega) (stepIx _ hh h) ((World.putObj_heap_other (by omega)).trans hk)⟩
end Go.Proofs.Ytgmhnjccgldddaa

namespace Go.Proofs.Ytgmhnjccgldddaa
set_option linter.unusedVariables false
set_option linter.unusedSimpArgs false
open Go.RowKit

theorem rowOf_set (n : Nat) (g : Int → Int) (k : Nat) (v : Int) : (rowOf n g).set k v = rowOf n (fun x => if x = k then v else g x) := by
  apply List.ext_getElem (by simp)
  intro i h1 h2
  have hi : i < n := by simpa using h2
  rw [List.getElem_set]
  simp only [rowOf, List.getElem_map, List.getElem_range]
  by_cases e : k = i
  · subst e; simp
  · rw [if_neg e, if_neg (by omega)]
/-- The list after r exchanges. -/
def revG (mid : List Int) (r : Nat) (x : Int) : Int := if x < r ∨ (mid.length : Int) - r ≤ x then nth mid (mid.length - 1 - x) else nth mid x
theorem revG_zero (mid : List Int) : rowOf mid.length (revG mid 0) = mid := by
  apply ext_nth (by simp)
  intro k hk
  have hk' : k < mid.length := by simpa using hk
  rw [nth_rowOf _ _ _ hk']
  unfold revG
  rw [if_neg (by omega)]
theorem revG_done (mid : List Int) (r : Nat) (h : (mid.length : Int) - 1 - r ≤ r) : rowOf mid.length (revG mid r) = mid.reverse := by
  apply ext_nth (by simp)
  intro k hk
  have hk' : k < mid.length := by simpa using hk
  rw [nth_rowOf _ _ _ hk', nth_nat _ _ (by simpa using hk'), List.getElem_reverse]
  have e : nth mid ((mid.length : Int) - 1 - k) = mid[mid.length - 1 - k] := by
    rw [show (mid.length : Int) - 1 - k = ((mid.length - 1 - k : Nat) : Int) from by omega, nth_nat]
  unfold revG
  by_cases c : (k : Int) < r ∨ (mid.length : Int) - r ≤ k
  · rw [if_pos c, e]
  · rw [if_neg c]
    have : (k : Int) = (mid.length : Int) - 1 - k := by omega
    rw [this, e]
theorem revG_step (mid : List Int) (r q : Nat) (hq : (q : Int) = (mid.length : Int) - 1 - r) (hlt : r < q) :
    rowOf mid.length (fun x => if x = q then revG mid r r else if x = r then revG mid r q else revG mid r x) = rowOf mid.length (revG mid (r + 1)) := by
  apply rowOf_congr
  intro y hy
  have e1 : revG mid r r = nth mid r := by unfold revG; rw [if_neg (by omega)]
  have e2 : revG mid r q = nth mid q := by unfold revG; rw [if_neg (by omega)]
  by_cases c1 : (y : Int) = q
  · rw [if_pos c1, e1]
    unfold revG
    rw [if_pos (by omega)]
    congr 1; omega
  · rw [if_neg c1]
    by_cases c2 : (y : Int) = r
    · rw [if_pos c2, e2]
      unfold revG
      rw [if_pos (by omega)]
      congr 1; omega
    · rw [if_neg c2]
      unfold revG
      by_cases c3 : (y : Int) < r ∨ (mid.length : Int) - r ≤ y
      · rw [if_pos c3, if_pos (by omega)]
      · rw [if_neg c3, if_neg (by omega)]

/-- The cell of the middle part of a block. -/
theorem Blk.mid {w : World} {b : Nat} {t : TypeId} {pre post : List Value} {m : Nat} {g : Int → Int} (h : Blk w b t (pre ++ ((rowOf m g).map (Value.int .i64) ++ post))) {o : Nat} (ho : o = pre.length) (k : Nat) (hk : k < m) :
    w.cell? ⟨b, o + k, none⟩ = some (.int .i64 (g k)) := by
  subst ho
  rw [h.cell (by simp; omega), List.getElem_append_right (by omega), List.getElem_append_left (by simp; omega)]
  simp [rowOf]
theorem Blk.midSet {w : World} {b : Nat} {t : TypeId} {pre post : List Value} {m : Nat} {g : Int → Int} (h : Blk w b t (pre ++ ((rowOf m g).map (Value.int .i64) ++ post))) {o : Nat} (ho : o = pre.length) (k : Nat) (hk : k < m) (v : Int) :
    Blk (w.setCell ⟨b, o + k, none⟩ (.int .i64 v)) b t (pre ++ ((rowOf m (fun x => if x = k then v else g x)).map (Value.int .i64) ++ post)) := by
  have := h.set (o + k) (.int .i64 v)
  subst ho
  rw [List.set_append, if_neg (by omega), show pre.length + k - pre.length = k from by omega, List.set_append, if_pos (by simp; omega), ← List.map_set, rowOf_set] at this
  exact this

set_option maxRecDepth 100000 in
set_option maxHeartbeats 1000000 in
theorem c_Reverse (b o c : Nat) (mid : List Int) (pre post : List Value) (w : World) (ho : o = pre.length) (hm : mid.length ≤ 1048576) (hc : mid.length ≤ c) (hc2 : c ≤ 1048576) (h : Blk w b 2 (pre ++ (mid.map (Value.int .i64) ++ post))) :
    Calls Try.prog 105 #[.slice (some ⟨b, o, none⟩) mid.length c] w fun e w' => (∃ v, e = .returned v) ∧ Blk w' b 2 (pre ++ (mid.reverse.map (Value.int .i64) ++ post)) ∧ Keep (fun x => x = b) w w' := by
  rw [← revG_zero mid] at h
  have HO := Lib.hid ho
  go_enter Try.func105, Try.ntmps105
  go_wp2
  have HB0 := Lib.hid h; clear h ho
  go_loopw [2, 3] (fun i j wr => ∃ (r : Nat) (J : Int), i = .int .i64 r ∧ j = .int .i64 J ∧ Hid (J = mid.length - 1 - r) ∧ r ≤ mid.length ∧ -2000000 ≤ J ∧ J ≤ 1048576 ∧ Hid (Blk wr b 2 (pre ++ ((rowOf mid.length (revG mid r)).map (Value.int .i64) ++ post))) ∧ Hid (Keep (fun x => x = b) w wr)) (fun i _ _ => mid.length - (intOf i).toNat)
  case atStart => exact ⟨0, _, rfl, rfl, Lib.hid (by omega), by omega, by omega, by omega, HB0, Lib.hid (Keep.refl _ _)⟩
  case round =>
    clear HB0
    obtain ⟨r, J, rfl, rfl, HJ, hr, hJ0, hJ1, HB, HK⟩ := hrel
    by_cases hlt : (r : Int) < J
    · obtain ⟨q, rfl⟩ : ∃ q : Nat, J = q := ⟨J.toNat, by omega⟩
      have hq1 : q < mid.length := by have := HJ.out; omega
      have hr1 : r < mid.length := by omega
      have h1 := HB.out.mid HO.out r hr1
      have h2 := HB.out.mid HO.out q hq1
      have f1 := HB.out.frozen (o + r)
      have f2 := HB.out.frozen (o + q)
      go_wp2
      go_region
      go_wp2
      go_roundw
      case rel =>
        refine ⟨r + 1, _, by go_num, rfl, Lib.hid (by have := HJ.out; omega), by omega, by omega, by omega, Lib.hid ?_, Lib.hid ?_⟩
        · have hb2 := (HB.out.midSet HO.out r hr1 (revG mid r q)).midSet HO.out q hq1 (revG mid r r)
          rw [revG_step mid r q HJ.out (by omega)] at hb2
          exact hb2
        · exact ((HK.out.setCell (p := ⟨b, o + r, none⟩) (.inl rfl) _).setCell (p := ⟨b, o + q, none⟩) (.inl rfl) _).drew
      case measure => simp [intOf]; omega
    · have hge : J ≤ (r : Int) := by omega
      clear hlt
      go_wp2
      go_end0
      refine ⟨⟨_, rfl⟩, ?_, HK.out⟩
      have := HB.out
      rwa [revG_done mid r (by have := HJ.out; omega)] at this
theorem c_Reverse' (b o c L : Nat) (mid : List Int) (pre post : List Value) (w : World) (hL : mid.length = L) (ho : o = pre.length) (hm : mid.length ≤ 1048576) (hc : mid.length ≤ c) (hc2 : c ≤ 1048576) (h : Blk w b 2 (pre ++ (mid.map (Value.int .i64) ++ post))) :
    Calls Try.prog 105 #[.slice (some ⟨b, o, none⟩) L c] w fun e w' => (∃ v, e = .returned v) ∧ Blk w' b 2 (pre ++ (mid.reverse.map (Value.int .i64) ++ post)) ∧ Keep (fun x => x = b) w w' := by
  subst hL; exact c_Reverse b o c mid pre post w ho hm hc hc2 h

theorem split_at (p : List Int) (m q : Nat) (h1 : m < q) (h2 : q < p.length) :
    ∃ (u d1 d2 : List Int) (a b : Int), p = u ++ a :: (d1 ++ b :: d2) ∧ u.length = m ∧ d1.length = q - m - 1 ∧ a = nth p m ∧ b = nth p q ∧ ∀ x ∈ d2, ∃ j : Nat, q < j ∧ j < p.length ∧ nth p j = x := by
  refine ⟨p.take m, (p.drop (m + 1)).take (q - m - 1), p.drop (q + 1), nth p m, nth p q, ?_, by simp; omega, by simp; omega, rfl, rfl, fun x hx => ?_⟩
  · have e1 : p = p.take m ++ p.drop m := (List.take_append_drop m p).symm
    have e2 : p.drop m = nth p m :: p.drop (m + 1) := by rw [List.drop_eq_getElem_cons (by omega), nth_nat _ _ (by omega)]
    have e3 : p.drop (m + 1) = (p.drop (m + 1)).take (q - m - 1) ++ (p.drop (m + 1)).drop (q - m - 1) := (List.take_append_drop _ _).symm
    have e4 : (p.drop (m + 1)).drop (q - m - 1) = nth p q :: p.drop (q + 1) := by
      rw [List.drop_drop, show m + 1 + (q - m - 1) = q from by omega, List.drop_eq_getElem_cons h2, nth_nat _ _ h2]
    rw [e4] at e3
    rw [e3] at e2
    rw [e2] at e1
    exact e1
  · obtain ⟨k, hk, rfl⟩ := List.getElem_of_mem hx
    have hk' : q + 1 + k < p.length := by simp at hk; omega
    refine ⟨q + 1 + k, by omega, hk', ?_⟩
    rw [nth_nat _ _ hk', List.getElem_drop]
theorem swap_split {p u d1 d2 : List Int} {a b : Int} {m q : Nat} (hpe : p = u ++ a :: (d1 ++ b :: d2)) (hu : u.length = m) (hd : d1.length = q - m - 1) (h : m < q) :
    ((p.map (Value.int .i64)).set m (.int .i64 b)).set q (.int .i64 a) = (u ++ [b]).map (Value.int .i64) ++ ((d1 ++ a :: d2).map (Value.int .i64) ++ []) := by
  subst hpe hu
  obtain rfl : q = u.length + (d1.length + 1) := by omega
  simp [List.set_append]
theorem drop_split {p u r : List Int} {a : Int} {m : Nat} (hpe : p = u ++ a :: r) (hu : u.length = m) : p.drop (m + 1) = r := by
  subst hpe hu
  rw [List.drop_append, List.drop_of_length_le (by omega), show u.length + 1 - u.length = 1 from by omega]
  rfl

def NextPost (b : Nat) (p : List Int) (w0 : World) (e : Ending) (w' : World) : Prop :=
  (∃ q, IsNext p q ∧ e = .returned (.bool true) ∧ Blk w' b 2 (q.map (Value.int .i64)) ∧ Keep (fun x => x = b) w0 w') ∨ (Desc p ∧ e = .returned (.bool false) ∧ Keep (fun x => x = b) w0 w')
theorem desc_step {p : List Int} {m : Nat} (h : m + 1 < p.length) (hd : Desc (p.drop (m + 1))) (hgt : nth p (m + 1 : Nat) < nth p m) : Desc (p.drop m) := by
  rw [List.drop_eq_getElem_cons (by omega)]
  refine List.pairwise_cons.2 ⟨fun x hx => ?_, hd⟩
  have h0 := hd
  rw [List.drop_eq_getElem_cons h] at hx h0
  rw [nth_nat _ _ h, nth_nat _ _ (by omega)] at hgt
  rcases List.mem_cons.1 hx with e | e
  · subst e; exact hgt
  · have := (List.pairwise_cons.1 h0).1 x e; omega

set_option maxRecDepth 100000 in
set_option maxHeartbeats 2000000 in
theorem c_nextPermutation (b : Nat) (p : List Int) (w : World) (hp : Permuted p) (h1 : 1 ≤ p.length) (hn : p.length ≤ 1048576) (h : Blk w b 2 (p.map (Value.int .i64))) :
    Calls Try.prog 87 #[.slice (some ⟨b, 0, none⟩) p.length p.length] w (NextPost b p w) := by
  have HP := Lib.hid hp; have HBk := Lib.hid h; clear h hp
  go_enter Try.func87, Try.ntmps87
  go_wp2
  go_loopw [3] (fun i wr => ∃ I : Int, i = .int .i64 I ∧ -1 ≤ I ∧ I ≤ (p.length : Int) - 2 ∧ Hid (∃ n, wr = w.drewN n) ∧ Hid (Desc (p.drop (I + 1).toNat))) (fun i _ => (intOf i + 1).toNat)
  case atStart =>
    refine ⟨_, rfl, by omega, by omega, Lib.hid ⟨0, rfl⟩, Lib.hid ?_⟩
    rw [show ((p.length : Int) - 2 + 1).toNat = p.length - 1 from by omega, List.drop_eq_getElem_cons (by omega), List.drop_of_length_le (by omega)]
    exact List.pairwise_singleton _ _
  case round =>
    obtain ⟨I, rfl, hI0, hI1, HN, HD⟩ := hrel
    by_cases h0 : 0 ≤ I
    · obtain ⟨m, rfl⟩ : ∃ m : Nat, I = m := ⟨I.toNat, by omega⟩
      have hb : Blk wr b 2 (p.map (Value.int .i64)) := by obtain ⟨n, hn⟩ := HN.out; rw [hn]; exact HBk.out.drewN n
      have k1 : wr.cell? ⟨b, m, none⟩ = some (.int .i64 (nth p m)) := by rw [hb.cell (by simp; omega)]; simp [nth_nat _ _ (show m < p.length by omega)]
      have k2 : wr.cell? ⟨b, m + 1, none⟩ = some (.int .i64 (nth p ((m : Int) + 1))) := by
        rw [hb.cell (by simp; omega), show (m : Int) + 1 = ((m + 1 : Nat) : Int) from by omega, nth_nat _ _ (show m + 1 < p.length by omega)]; simp
      have hm1 : (m : Int) < p.length := by omega
      have hm2 : (m : Int) + 1 < p.length := by omega
      have hm3 : (0 : Int) ≤ (m : Int) + 1 := by omega
      have Hb := Lib.hid hb
      clear hb
      obtain ⟨wo, rfl⟩ : ∃ wo : World, wo = wr := ⟨_, rfl⟩
      by_cases hc : nth p ((m : Int) + 1) < nth p m
      · have hc1 : decide (nth p ((m : Int) + 1) < nth p m) = true := by simp [hc]
        have HC := Lib.hid hc; clear hc
        go_wp2
        go_quiet (fail)
        go_wp2
        go_roundw
        case rel =>
          refine ⟨_, rfl, by omega, by omega, by obtain ⟨n, hn⟩ := HN.out; exact Lib.hid ⟨n + _, by rw [hn]; exact World.drewN_drewN w n _⟩, Lib.hid ?_⟩
          rw [show ((m : Int) - 1 + 1).toNat = m from by omega]
          refine desc_step (by omega) ?_ ?_
          · have h := HD.out; rwa [show ((m : Int) + 1).toNat = m + 1 from by omega] at h
          · have h := HC.out; rwa [show ((m + 1 : Nat) : Int) = (m : Int) + 1 from by omega]
        case measure => simp [intOf] <;> omega
      · have hc1 : decide (nth p ((m : Int) + 1) < nth p m) = false := by simp; omega
        have HC := Lib.hid hc; clear hc
        go_wp2
        go_quiet (fail)
        go_wp2
        go_loopw [4] (fun kk wr => ∃ q : Nat, kk = .int .i64 q ∧ m + 1 ≤ q ∧ q < p.length ∧ Hid (∃ n, wr = wo.drewN n) ∧ Hid (∀ j : Nat, q < j → j < p.length → nth p j < nth p m)) (fun kk _ => (intOf kk).toNat)
        case atStart => exact ⟨p.length - 1, by congr 1; omega, by omega, by omega, Lib.hid ⟨_, rfl⟩, Lib.hid (by intro j h1 h2; omega)⟩
        case round =>
          obtain ⟨q, rfl, hq0, hq1, HN2, HA⟩ := hrel
          have hb2 : Blk wr b 2 (p.map (Value.int .i64)) := by obtain ⟨n, hn⟩ := HN2.out; rw [hn]; exact Hb.out.drewN n
          have k1 : wr.cell? ⟨b, m, none⟩ = some (.int .i64 (nth p m)) := by rw [hb2.cell (by simp; omega)]; simp [nth_nat _ _ (show m < p.length by omega)]
          have k3 : wr.cell? ⟨b, q, none⟩ = some (.int .i64 (nth p q)) := by rw [hb2.cell (by simp; omega)]; simp [nth_nat _ _ (show q < p.length by omega)]
          have f1 := hb2.frozen m
          have f3 := hb2.frozen q
          have Hb2 := Lib.hid hb2; clear hb2
          by_cases hd : nth p q < nth p m
          · have hd1 : decide (nth p q < nth p m) = true := by simp [hd]
            have hq2 : m + 1 < q := by
              rcases Nat.lt_or_ge (m + 1) q with h | h
              · exact h
              · have : q = m + 1 := by omega
                subst this
                have h2 := HC.out
                rw [show ((m + 1 : Nat) : Int) = (m : Int) + 1 from by omega] at hd
                omega
            have HD2 := Lib.hid hd; clear hd
            go_wp2
            go_quiet (fail)
            go_wp2
            go_roundw
            case rel =>
              refine ⟨q - 1, by congr 1; omega, by omega, by omega, by obtain ⟨n, hn⟩ := HN2.out; exact Lib.hid ⟨n + _, by rw [hn]; exact World.drewN_drewN wo n _⟩, Lib.hid fun j h1 h2 => ?_⟩
              by_cases e : j = q
              · subst e; exact HD2.out
              · exact HA.out j (by omega) h2
            case measure => simp [intOf]; omega
          · have hd1 : decide (nth p q < nth p m) = false := by simp; omega
            have HD2 := Lib.hid hd; clear hd
            go_wp2
            go_quiet (fail)
            obtain ⟨W, hW⟩ : ∃ W, wr.drewN nq = W := ⟨_, rfl⟩
            have hbW : Blk W b 2 (p.map (Value.int .i64)) := by rw [← hW]; exact Hb2.out.drewN nq
            have hkW : Keep (fun x => x = b) w W := by
              obtain ⟨n1, e1⟩ := HN.out; obtain ⟨n2, e2⟩ := HN2.out
              rw [← hW, e2, e1]; exact (((Keep.refl _ w).drewN n1).drewN n2).drewN nq
            rw [hW]
            clear k1 k2 k3 f1 f3 hW
            have g1 : W.cell? ⟨b, m, none⟩ = some (.int .i64 (nth p m)) := by rw [hbW.cell (by simp; omega)]; simp [nth_nat _ _ (show m < p.length by omega)]
            have g3 : W.cell? ⟨b, q, none⟩ = some (.int .i64 (nth p q)) := by rw [hbW.cell (by simp; omega)]; simp [nth_nat _ _ (show q < p.length by omega)]
            have f1 := hbW.frozen m
            have f3 := hbW.frozen q
            have hqI : (q : Int) < p.length := by omega
            obtain ⟨u, d1, d2, a, c, hpe, hu, hdl, rfl, rfl, hlt⟩ := split_at p m q (by omega) hq1
            have hac : nth p m < nth p q := by
              have h1 := HD2.out
              have h2 : nth p m ≠ nth p q := fun e => by
                have := HP.out.inj (x := m) (y := q) (by omega) (by omega) (by omega) (by omega) e
                omega
              omega
            have hnext : IsNext p (u ++ nth p q :: (d1 ++ nth p m :: d2).reverse) := by
              refine ⟨u, d1, d2, _, _, hpe, rfl, ?_, hac, fun x hx => ?_⟩
              · have h := HD.out
                rw [show ((m : Int) + 1).toNat = m + 1 from by omega, drop_split hpe hu] at h
                exact h
              · obtain ⟨j, h1, h2, rfl⟩ := hlt x hx
                exact HA.out j h1 h2
            have hset := (hbW.set m (.int .i64 (nth p q))).set q (.int .i64 (nth p m))
            rw [swap_split hpe hu hdl (by omega)] at hset
            have hml : (d1 ++ nth p m :: d2).length = p.length - (m + 1) := by
              have := congrArg List.length hpe
              simp at this ⊢; omega
            have HX := Lib.hid hnext; have HS := Lib.hid hset.drew; have HM := Lib.hid hml; have HKW := Lib.hid hkW
            have hpl : ((u ++ [nth p q]).map (Value.int .i64)).length = m + 1 := by simp [hu]
            have HPL := Lib.hid hpl; skip
            clear hpe hu hdl hlt hac hnext hset hml hpl hbW hkW
            go_wp2
            go_region
            have e1 : p.length - (m + 1) = p.length - (m + 1) := rfl
            obtain ⟨W2, hW2⟩ : ∃ W2, ((W.setCell ⟨b, m, none⟩ (.int .i64 (nth p q))).setCell ⟨b, q, none⟩ (.int .i64 (nth p m))).drew = W2 := ⟨_, rfl⟩
            have HK2 : Hid (Keep (fun x => x = b) w W2) := by
              show Keep _ _ _
              rw [← hW2]
              exact ((HKW.out.setCell (p := ⟨b, m, none⟩) (.inl rfl) _).setCell (p := ⟨b, q, none⟩) (.inl rfl) _).drew
            rw [hW2] at HS ⊢
            clear hW2 g1 g3 f1 f3
            go_wp2_with fail
            refine (c_Reverse' b (m + 1) _ _ (d1 ++ nth p m :: d2) ((u ++ [nth p q]).map (Value.int .i64)) [] W2 HM.out HPL.out.symm (by rw [HM.out]; omega) (by rw [HM.out]; omega) (by omega) HS.out).mono ?_; rintro e w' ⟨⟨v, rfl⟩, hbk, hkk⟩
            have HBK := Lib.hid hbk; have HKK := Lib.hid hkk; clear hbk hkk
            go_wp2
            go_ret
            refine .inl ⟨_, HX.out, rfl, by simpa using HBK.out, HK2.out.trans ?_⟩
            exact HKK.out
    · have hd : decide (0 ≤ I) = false := by simp; omega
      have hlt : I < 0 := by omega
      have HI : Hid (I = -1) := by show _ = _; omega
      clear h0
      go_wp2
      go_quiet (fail)
      go_wp2
      go_ret
      refine .inr ⟨?_, rfl, ?_⟩
      · have h := HD.out; rw [HI.out] at h; simpa using h
      · obtain ⟨n1, e1⟩ := HN.out; rw [e1]; exact ((Keep.refl _ w).drewN n1).drewN _
end Go.Proofs.Ytgmhnjccgldddaa

namespace Go.Proofs.Ytgmhnjccgldddaa
set_option linter.unusedVariables false
set_option linter.unusedSimpArgs false
open Go Go.RowKit Go.Shelf
attribute [local go_sem] Oper.semAt_some

set_option maxHeartbeats 400000 in
theorem c_identityB (n : Nat) (w : World) (hn : n ≤ 1048576) :
    Calls Try.prog 86 #[.int .i64 n] w (fun e w' => ∃ g, e = .returned (.slice (some ⟨g, 0, none⟩) n n) ∧ w.heap.size ≤ g ∧ Blk w' g 2 ((iota n).map (Value.int .i64)) ∧ Below w.heap.size w w') := by
  have hmk := run_make_row' (P := Try.prog) 26 2 (.int .i64 0) 8 Try.underlying26 inf_int64 rfl .i64 .i64 n (by omega) (by omega)
  go_enter Try.func86, Try.ntmps86
  go_wp2
  have hB0 : Below w.heap.size w (w.alloc (.cells (madeCells #[.int .i64 0] n) 2)) := (Below.refl _ _).alloc (Nat.le_refl _) _
  have hK0 : Blk (w.alloc (.cells (madeCells #[.int .i64 0] n) 2)) w.heap.size 2 (((iota n).take 0).map (Value.int .i64) ++ (List.replicate n (Value.int .i64 0)).drop 0) := by
    simpa using Blk.made w (.int .i64 0) n 2
  clear hmk
  go_loopw [9, 4] (fun i _ wr => ∃ k : Nat, k ≤ n ∧ i = .int .i64 k ∧ Below w.heap.size w wr ∧ Blk wr w.heap.size 2 (((iota n).take k).map (Value.int .i64) ++ (List.replicate n (Value.int .i64 0)).drop k)) (fun i _ _ => n - (intOf i).toNat)
  case atStart => exact ⟨0, Nat.zero_le _, rfl, hB0, hK0⟩
  case round =>
    clear hB0 hK0
    obtain ⟨k, hk, rfl, hb, hblk⟩ := hrel
    by_cases hlt : k < n
    · obtain ⟨u, h2⟩ := fill_cell0 hblk (k := k) (by simp; omega)
      have h3 := hblk.frozen k
      have hk0 : (0 : Int) ≤ k := by omega
      have hk1 : (k : Int) < n := by omega
      have Hb := Lib.hid hb; have Hblk := Lib.hid hblk; clear hb hblk
      go_wp2
      go_roundw
      case rel =>
        refine ⟨k + 1, by omega, by go_num, Hb.out.setCell (p := ⟨w.heap.size, k, none⟩) (Nat.le_refl _) _, ?_⟩
        have := Hblk.out.set k (.int .i64 k)
        rwa [fill_set _ _ (by simpa using hlt) _ (by simp) _ (nth_iota n k hk0 hk1).symm] at this
      case measure => simp [intOf]; omega
    · have Hb := Lib.hid hb; have Hblk := Lib.hid hblk; clear hb hblk
      obtain rfl : k = n := by omega
      go_wp2
      go_ret
      have hr := Hblk.out
      rw [fill_done _ _ (by simp)] at hr
      exact ⟨_, rfl, Nat.le_refl _, hr, Hb.out⟩

theorem allPerms_inj {n i j : Nat} (hi : i < (allPerms n).length) (hj : j < (allPerms n).length) (h : row (allPerms n) i = row (allPerms n) j) : i = j := by
  rcases Nat.lt_trichotomy i j with g | g | g
  · have := allPerms_lt g hj; rw [h, lexB_irrefl] at this; cases this
  · exact g
  · have := allPerms_lt g hi; rw [h, lexB_irrefl] at this; cases this
/-- Which permutation lies in block b? -/
noncomputable def permAt (n b : Nat) (W : World) : Nat := Classical.epsilon fun k => k < (allPerms n).length ∧ Blk W b 2 ((row (allPerms n) k).map (Value.int .i64))
theorem permAt_eq {n b k : Nat} {W : World} (hk : k < (allPerms n).length) (h : Blk W b 2 ((row (allPerms n) k).map (Value.int .i64))) : permAt n b W = k := by
  have hs := Classical.epsilon_spec (p := fun k => k < (allPerms n).length ∧ Blk W b 2 ((row (allPerms n) k).map (Value.int .i64))) ⟨k, hk, h⟩
  refine allPerms_inj hs.1 hk ?_
  have h1 : some (Obj.cells ((row (allPerms n) (permAt n b W : Nat)).map (Value.int .i64)).toArray 2 (0, 0)) = some (Obj.cells ((row (allPerms n) k).map (Value.int .i64)).toArray 2 (0, 0)) := hs.2.symm.trans h
  simp only [Option.some.injEq, Obj.cells.injEq, and_true] at h1
  have h2 := congrArg Array.toList h1
  simp only at h2
  exact (List.map_inj_right (fun a b e => by injection e)).1 h2

set_option maxRecDepth 100000 in
set_option maxHeartbeats 1600000 in
theorem c_perms1 (N : Nat) (hN0 : 1 ≤ N) (hN : N ≤ 1048576) (n Bs : Nat) (w : World) (hbox : w.cell? ⟨Bs, 0, none⟩ = some (.int .i64 N)) :
    SeqRows Fence.wide n Try.prog 85 #[.pointer (some ⟨Bs, 0, none⟩)] (allPerms N) w := by
  intro l J Jx W1 hb hJ hJx h0 hY
  have hbox1 := cell_under hb hbox
  refine callsIn_of_wp Try.func85 rfl trivial ?_ rfl
  simp only [Try.ntmps85, List.size_toArray, List.length_cons, List.length_nil, Nat.reduceAdd, Nat.reduceSub, Array.replicate_succ, Array.replicate_zero, List.push_toArray, List.append_toArray, List.nil_append, List.cons_append]
  gi_wp2_with (refine ⟨trivial, fun h => (by cases h), ?_⟩; gi_at_call 86; refine (callsIn_wide.2 (c_identityB N _ hN)).mono ?_; rintro e W2 ⟨pb, rfl, hpb, hblk, hb2⟩)
  have hfirst := allPerms_first N
  have hJ0 := h0 W2 hb2
  have hlt := hblk.lt
  have hlen0 : ∀ k : Nat, k < (allPerms N).length → (row (allPerms N) k).length = N := fun k hk => (allPerms_row hk).2
  have hblk0 : Blk W2 pb 2 ((row (allPerms N) (0 : Nat)).map (Value.int .i64)) := by rw [hfirst.2]; exact hblk
  have HJ := Lib.hid hJ0; have HBk := Lib.hid hblk0; have HF := Lib.hid hfirst; have HLen := Lib.hid hlen0; have HSt := Lib.hid hJ; have HY := Lib.hid hY; have HSz := Lib.hid hb2.size
  clear hJ0 hblk0 hfirst hlen0 hJ hJx h0 hY hbox hbox1 hb hb2 hblk
  obtain ⟨hi, HHi⟩ : ∃ hi, Hid (hi = W2.heap.size) := ⟨_, rfl⟩
  rw [← HHi.out] at hlt HJ HSz
  gi_loopw [] (fun wr => ∃ k : Nat, Hid (k < (allPerms N).length) ∧ Hid (J hi k wr) ∧ Hid (Blk wr pb 2 ((row (allPerms N) k).map (Value.int .i64))) ∧ Hid (hi ≤ wr.heap.size)) (fun wr => (allPerms N).length - permAt N pb wr)
  case atStart => exact ⟨0, Lib.hid HF.out.1, HJ, HBk, Lib.hid (by rw [HHi.out]; exact Nat.le_refl _)⟩
  case round =>
    clear HJ HBk HF
    obtain ⟨k, HK, HJ, HBk, HS⟩ := hrel
    have hInts : Ints wr (.slice (some ⟨pb, 0, none⟩) N N) (row (allPerms N) k) := by
      have hl := HLen.out k HK.out
      exact (Own.of_blk HBk.out hpb (by rw [hl]; simp [maxLen]; omega) hl.symm hl.symm).ints
    obtain ⟨fn, tmps, assign, body, hy, hR⟩ := HY.out hi k _ wr HJ.out HSz.out HS.out HK.out hInts
    have HM := Lib.hid (permAt_eq HK.out HBk.out)
    clear hInts
    gi_wp2
    refine ⟨fun h => (by cases h), hR.mono ?_⟩
    rintro e W3 (⟨rfl, hJ3, hk3⟩ | ⟨rfl, hJx3⟩)
    · have hblk3 : Blk W3 pb 2 ((row (allPerms N) k).map (Value.int .i64)) := HBk.out.of_block (hk3.block pb HBk.out.lt (by omega))
      have HB3 := Lib.hid hblk3; have HJ3 := Lib.hid hJ3; have HS3 := Lib.hid (Nat.le_trans HS.out hk3.size)
      clear hblk3 hJ3 hk3 hR hy
      have hnx := fun (h : (row (allPerms N) k).length = N) => by
        have := c_nextPermutation pb (row (allPerms N) k) W3 (allPerms_row HK.out).1 (by omega) (by omega) HB3.out
        rw [h] at this
        exact this
      have HN := Lib.hid (hnx (HLen.out k HK.out))
      clear hnx
      gi_wp2_with (refine ⟨trivial, fun h => (by cases h), ?_⟩; gi_at_call 87; refine (callsIn_wide.2 HN.out).mono ?_; rintro e W4 (⟨q, hq, rfl, hblk4, hk4⟩ | ⟨hd, rfl, hk4⟩))
      · obtain ⟨h1, h2⟩ := allPerms_next HK.out hq
        have hJ4 := HSt.out hi (k + 1) W3 W4 HJ3.out (hk4.mono fun b _ e => by subst e; exact ⟨hpb, hlt⟩)
        rw [← h2] at hblk4
        have HM4 := Lib.hid (permAt_eq h1 hblk4)
        have HB4 := Lib.hid hblk4; have HJ4 := Lib.hid hJ4; have HS4 := Lib.hid (Nat.le_trans HS3.out hk4.size); have HK4 := Lib.hid h1
        clear hq hblk4 hk4 h1 h2 hJ4
        gi_wp2
        go_roundw
        case rel => exact ⟨k + 1, HK4, HJ4, HB4, HS4⟩
        case measure => rw [HM.out, HM4.out]; have := HK4.out; omega
      · have hl := allPerms_last HK.out hd
        have hJ4 := HSt.out hi (k + 1) W3 W4 HJ3.out (hk4.mono fun b _ e => by subst e; exact ⟨hpb, hlt⟩)
        rw [hl] at hJ4
        have HJ4 := Lib.hid hJ4
        clear hJ4 hl hd hk4
        gi_wp2
        refine bodyPost_ret (results_none rfl _ _ _) rfl ?_
        exact ⟨⟨_, rfl⟩, .inl ⟨hi, HJ4.out⟩⟩
    · have HJx3 := Lib.hid hJx3
      clear hJx3
      gi_wp2
      go_end0
      exact ⟨⟨_, rfl⟩, .inr ⟨hi, k + 1, HJx3.out⟩⟩
end Go.Proofs.Ytgmhnjccgldddaa

namespace Go.Proofs.Ytgmhnjccgldddaa
set_option linter.unusedVariables false
set_option linter.unusedSimpArgs false
open Go Go.RowKit Go.Shelf
attribute [local go_sem] Oper.semAt_some

theorem eg_permutations1 : ∀ args w, (callFunc 85 args).run Try.prog w = .ok (.enter 85 args) w := Go.Proofs.enters_of Try.func85 (by kernel_rfl) rfl
set_option maxHeartbeats 400000 in
theorem c_permutations (n : Int) (w : World) :
    Calls Try.prog 64 #[.int .i64 n] w (fun e w' => ∃ g, e = .returned (.func (.func 85) #[] #[.pointer (some ⟨g, 0, none⟩)]) ∧ w.heap.size ≤ g ∧ w'.cell? ⟨g, 0, none⟩ = some (.int .i64 n) ∧ Below w.heap.size w w') := by
  obtain ⟨f0, hW0, hsz⟩ := boxes1' w [.int .i64 n] 3
  have hf := one_cell f0
  have HW := Lib.hid hW0; have HF := Lib.hid hf
  clear f0 hW0 hsz hf
  go_enter Try.func64, Try.ntmps64
  go_wp2
  go_ret
  exact ⟨w.heap.size, rfl, Nat.le_refl _, HF.out, HW.out⟩

theorem stepIn_append {F : Fence} {n : Nat} {P : Program} {ops : Array Oper} {o : Oper} {a : Act} {K : Act → World → Prop} {Q : Exit → Act → World → Prop} {E : Prop} {W W' : World} {v' : Value} (hgd : o.guard = none) (hF : ∀ f, F.fn f) (s x : Operand) (t : TypeId)
    (ho : o.op = .call { callee := .builtin .append, args := #[s, x], argTypes := #[t, t] }) (hrun : (Builtin.append_ #[t, t] o.type #[a.eval s, a.eval x]).run P W = .ok v' W') (h : K (a.put o.dst v') W') :
    if Region.wanted o (yielded ops a.tmps) = true then Oper.wpIn F n P o a W K Q else E := by
  have hw : Region.wanted o (yielded ops a.tmps) = true := by simp [Region.wanted, hgd]
  rw [if_pos hw]
  refine ⟨fun f _ => hF f, ?_⟩
  rw [Oper.semAt_eq _ _ _ (by rw [ho]; intro c hc; cases hc)]
  unfold execOp
  simp only [ho, resolve, invoke, builtin, Sem.run_bind, Sem.run_pure, Result.andThen_ok, List.map_toArray, List.map_cons, List.map_nil, hrun]
  exact h

/-- 'append(s, u)' of one row: the run. -/
theorem run_app_row2 (B m : Nat) (w : World) (ty : TypeId) (v : Value) (xss : List (List Int)) (u : Value) (xs : List Int) (hown : OwnRowsIn B m w v xss) (hu : Own m w u xs) (hn : xss.length ≤ 1099511627776) (hB : B ≤ m) (hB2 : B ≤ w.heap.size) :
    ∃ g c' w', (Builtin.append_ #[22, 22] ty #[v, .slice (some ⟨w.heap.size, 0, none⟩) 1 1]).run Try.prog (w.alloc (.cells #[u] 26)) = .ok (.slice (some ⟨g, 0, none⟩) (xss.length + 1) c') w' ∧ OwnRows B w' (.slice (some ⟨g, 0, none⟩) (xss.length + 1) c') (xss ++ [xs]) ∧ Keep (fun b => v.ownBlock = some b) w w' := by
  obtain ⟨us, h1, h2, _, hlt⟩ := hown
  have h2' := rowvals_snoc h2 hlt hu hB
  have hlen := h2.len
  obtain ⟨ua, uc, hu1, _⟩ := hu.shape
  obtain ⟨i0, hi, hz0, hz1, hz2⟩ := info_parts inf_ints
  obtain ⟨g, cap, w', hr, h3, h4, h5, _⟩ := run_append_lies (P := Try.prog) (w.alloc (.cells #[u] 26)) 22 ty B 26 i0 (.slice none 0 0) 1 24 Try.underlying22 hi hz0 hz1 hz2 rfl (by decide) v us.length us (h1.alloc _) ⟨w.heap.size, 0, none⟩ 1 1 [u] rfl
    (by
      intro j u' hj
      match j, hj with
      | 0, hj => simp at hj; subst hj; simp [Addr.add])
    (by intro u' hu'; simp at hu'; subst hu'; subst hu1; rfl) (by decide) (by unfold maxLen; omega) (by omega) (by simp; omega) (w.heap.size + 1) (by simp)
  have hk := Keep.of_grown h4
  have hk2 : Keep (fun b => v.ownBlock = some b) w w' := ((Keep.refl _ w).alloc _).trans hk
  rw [hlen] at h3 hr
  exact ⟨g, cap, w', hr, ⟨us ++ [u], by simpa [hlen] using h3, rowvals_keepT h2' h1 hk2⟩, hk2⟩

end Go.Proofs.Ytgmhnjccgldddaa
