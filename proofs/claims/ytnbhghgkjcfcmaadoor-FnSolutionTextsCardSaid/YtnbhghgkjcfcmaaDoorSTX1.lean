/-
  Draws of texts, texts there and back, and the law FnSolutionTexts.
-/
import Derived.Test.YtnbhghgkjcfcmaaDoorI12
import Derived.Test.YtnbhghgkjcfcmaaDoorI3b
import Derived.BigQuiet
import Derived.Test.YtnbhghgkjcfcmaaDoorP3
import Derived.Deep.LoopGhost
import Derived.Test.YtnbhghgkjcfcmaaDoorI4
import Derived.Test.YtnbhghgkjcfcmaaDoorS1c
import Derived.Test.YtnbhghgkjcfcmaaDoorI3c
import Derived.Deep.AppendLies
import Derived.Deep.RegionHeld3
import Derived.Deep.RegionLaw
import Derived.Test.YtnbhghgkjcfcmaaDoorT1
import Derived.Test.YtnbhghgkjcfcmaaDoorLTables
import Derived.Test.YtnbhghgkjcfcmaaDoorI14
import Derived.Test.YtnbhghgkjcfcmaaDoorRows
import Derived.Test.YtnbhghgkjcfcmaaDoorBase
import Derived.ProofKit
import Derived.OpenShut
import Derived.ShutString
import Derived.ChangeOld
import Derived.Lib.SmallJoins
import Derived.Deep.Slices
import Derived.Test.YtnbhghgkjcfcmaaDoorLawC
import Derived.Test.YtnbhghgkjcfcmaaDoorLawB
import Derived.Test.YtnbhghgkjcfcmaaDoorI1c
import Derived.Test.YtnbhghgkjcfcmaaDoorD3
import Derived.Lib.SplitLaws
import Derived.Lib.IndexBytes
import Derived.Test.YtnbhghgkjcfcmaaDoorP1
import Derived.Test.YtnbhghgkjcfcmaaDoorI1
import Derived.Test.YtnbhghgkjcfcmaaDoorS1
import Derived.Lib.Bytealg
import Derived.Test.YtnbhghgkjcfcmaaDoorI2b
import Derived.Lib.Join
import Derived.Laws.BytesArg
import Derived.Laws.Concat
import Derived.Test.YtnbhghgkjcfcmaaDoorLawA
import Derived.Test.YtnbhghgkjcfcmaaDoorD1
import Derived.Test.YtnbhghgkjcfcmaaDoorD2
import Derived.Test.YtnbhghgkjcfcmaaDoorP5
import Derived.Test.YtnbhghgkjcfcmaaDoorI3d
import Derived.Test.YtnbhghgkjcfcmaaDoorA1
import Derived.Test.YtnbhghgkjcfcmaaDoorP6
namespace Go.Proofs.YtnbhghgkjcfcmaaDoor
set_option linter.unusedVariables false
set_option linter.unusedSimpArgs false
open Go.RowKit

def isSol (A B : List (List Int)) : Bool := isPM A B && decide (collL A B = []) && decide (yF A B = [])
theorem isSol_pm {A B : List (List Int)} (h : isSol A B = true) : isPM A B = true := by simp [isSol] at h; exact h.1.1
theorem isSol_coll {A B : List (List Int)} (h : isSol A B = true) : collL A B = [] := by simp [isSol] at h; exact h.1.2
theorem isSol_yF {A B : List (List Int)} (h : isSol A B = true) : yF A B = [] := by simp [isSol] at h; exact h.2
theorem eql_nil' (W : World) (a : Option Addr) (n c : Nat) : (binOp .eql 32 (.slice a n c) (.slice none 0 0)).run Tryd.prog W = .ok (.bool a.isNone) W := Lib.run_eql_slice_nil W _ _ a n c 0 0 Tryd.underlying32


end Go.Proofs.YtnbhghgkjcfcmaaDoor

namespace Go.Proofs.YtnbhghgkjcfcmaaDoor
set_option linter.unusedVariables false
set_option linter.unusedSimpArgs false
open Go.RowKit

theorem find2_none' {n m : Nat} {P : Nat → Nat → Bool} (h : find2 n m P = none) {x y : Nat} (hx : x < n) (hy : y < m) : P x y = false := by
  unfold find2 at h
  rw [List.findSome?_eq_none_iff] at h
  have h1 := h x (by simpa using hx)
  rw [Option.map_eq_none_iff, List.find?_eq_none] at h1
  simpa using h1 y (by simpa using hy)

/-- The pair map on the pairs' codes. -/
def pmL (A B : List (List Int)) (n : Nat) : List Int := rowOf (n * n) fun k => val2 A (k / n) (k % n) * n + val2 B (k / n) (k % n)
@[simp] theorem pmL_length (A B : List (List Int)) (n : Nat) : (pmL A B n).length = n * n := by simp [pmL]
theorem code_div {n : Nat} {x y : Int} (hy0 : 0 ≤ y) (hy : y < n) : (x * n + y) / (n : Int) = x ∧ (x * n + y) % (n : Int) = y := by
  have hn : (n : Int) ≠ 0 := by omega
  refine ⟨?_, ?_⟩
  · rw [Int.add_comm, Int.add_mul_ediv_right _ _ hn, Int.ediv_eq_zero_of_lt hy0 hy]; omega
  · rw [Int.add_comm, Int.add_mul_emod_self_right, Int.emod_eq_of_lt hy0 hy]
theorem code_lt {n : Nat} {x y : Int} (hx0 : 0 ≤ x) (hx : x < n) (hy0 : 0 ≤ y) (hy : y < n) : 0 ≤ x * n + y ∧ x * n + y < ((n * n : Nat) : Int) := by
  have h1 : 0 ≤ x * n := Int.mul_nonneg hx0 (by omega)
  have h2 : (x + 1) * n ≤ n * n := Int.mul_le_mul_of_nonneg_right (by omega) (by omega)
  rw [Int.add_mul] at h2
  refine ⟨by omega, ?_⟩
  rw [Int.natCast_mul]; omega
theorem code_inj {n : Nat} {x y u v : Int} (hy0 : 0 ≤ y) (hy : y < n) (hv0 : 0 ≤ v) (hv : v < n) (h : x * n + y = u * n + v) : x = u ∧ y = v := by
  have h1 := code_div (x := x) hy0 hy
  have h2 := code_div (x := u) hv0 hv
  rw [h] at h1
  exact ⟨h1.1.symm.trans h2.1, h1.2.symm.trans h2.2⟩
theorem nth_pmL {A B : List (List Int)} {n : Nat} {x y : Int} (hx0 : 0 ≤ x) (hx : x < n) (hy0 : 0 ≤ y) (hy : y < n) : nth (pmL A B n) (x * n + y) = val2 A x y * n + val2 B x y := by
  obtain ⟨h1, h2⟩ := code_lt hx0 hx hy0 hy
  obtain ⟨h3, h4⟩ := code_div (x := x) hy0 hy
  unfold pmL
  rw [nth_rowOfi _ _ _ h1 h2, h3, h4]
theorem code_ex {n : Nat} {k : Int} (h0 : 0 ≤ k) (h : k < ((n * n : Nat) : Int)) : ∃ x y : Int, (0 ≤ x ∧ x < n) ∧ (0 ≤ y ∧ y < n) ∧ k = x * n + y := by
  have hn : 0 < n := by
    rcases Nat.eq_zero_or_pos n with e | e
    · subst e; simp at h; omega
    · exact e
  refine ⟨k / n, k % n, ⟨Int.ediv_nonneg h0 (by omega), ?_⟩, ⟨Int.emod_nonneg _ (by omega), Int.emod_lt_of_pos _ (by omega)⟩, ?_⟩
  · rw [Int.natCast_mul] at h
    exact Int.ediv_lt_of_lt_mul (by omega) h
  · have := Int.emod_add_mul_ediv k n
    rw [Int.mul_comm] at this; omega
theorem pmL_perm {A B : List (List Int)} (hp : isPM A B = true) (hc : collL A B = []) : Permuted (pmL A B A.length) := by
  obtain ⟨q1, q2, q3⟩ := isPM_parts hp
  have hnone : find2 (A.length * A.length) (A.length * A.length) (colP A B A.length) = none := by
    unfold collL at hc
    cases h : find2 (A.length * A.length) (A.length * A.length) (colP A B A.length) with
    | none => rfl
    | some ab => rw [h] at hc; simp [quad] at hc
  refine ⟨?_, ?_⟩
  · unfold pmL rowOf
    rw [List.nodup_iff_pairwise_ne, List.pairwise_map]
    have hnd : (List.range (A.length * A.length)).Nodup := List.nodup_range
    refine List.Pairwise.imp_of_mem ?_ (List.nodup_iff_pairwise_ne.1 hnd)
    intro a b ha hb hne he
    simp only [List.mem_range] at ha hb
    have hf := find2_none' hnone ha hb
    have hn0 : 1 ≤ A.length := (isTab_len q1).1
    obtain ⟨a1, a2, a3, a4⟩ := divI ha hn0
    obtain ⟨b1, b2, b3, b4⟩ := divI hb hn0
    rw [colP_eq rfl rfl rfl rfl] at hf
    have v1 := val2_lt q2 (x := (a : Int) / (A.length : Int)) (y := (a : Int) % (A.length : Int)) a1 (by omega) a3 (by omega)
    have v2 := val2_lt q2 (x := (b : Int) / (A.length : Int)) (y := (b : Int) % (A.length : Int)) b1 (by omega) b3 (by omega)
    obtain ⟨e1, e2⟩ := code_inj (n := A.length) v1.1 (by omega) v2.1 (by omega) he
    simp [hne, e1, e2] at hf
  · intro z hz
    simp only [pmL, rowOf, List.mem_map, List.mem_range] at hz
    obtain ⟨a, ha, rfl⟩ := hz
    rw [pmL_length]
    obtain ⟨a1, a2, a3, a4⟩ := divI ha (isTab_len q1).1
    have v1 := val2_lt q1 (x := (a : Int) / (A.length : Int)) (y := (a : Int) % (A.length : Int)) a1 a2 a3 a4
    have v2 := val2_lt q2 (x := (a : Int) / (A.length : Int)) (y := (a : Int) % (A.length : Int)) a1 (by omega) a3 (by omega)
    exact code_lt v1.1 v1.2 v2.1 (by omega)

def IsCyc (p : List Int) (k : Int) (r : Nat) : Prop := 1 ≤ r ∧ iter (nth p) r k = k ∧ ∀ j, 1 ≤ j → j < r → iter (nth p) j k ≠ k
theorem IsCyc.eq {p : List Int} {k : Int} {r s : Nat} (h : IsCyc p k r) (h' : IsCyc p k s) : r = s := by
  rcases Nat.lt_trichotomy r s with g | g | g
  · exact absurd h.2.1 (h'.2.2 r h.1 g)
  · exact g
  · exact absurd h'.2.1 (h.2.2 s h'.1 g)
theorem isCyc_ex {p : List Int} (hp : Permuted p) {k : Int} (h0 : 0 ≤ k) (h1 : k < p.length) : ∃ r, IsCyc p k r ∧ r ≤ p.length := by
  obtain ⟨r, hr1, hr2, hr⟩ := comes_back hp h0 h1
  obtain ⟨s, ⟨hs1, hs2⟩, hs3⟩ := exists_least (p := fun r => 1 ≤ r ∧ iter (nth p) r k = k) ⟨r, hr1, hr⟩
  exact ⟨s, ⟨hs1, hs2, fun j j1 j2 e => by have := hs3 j ⟨j1, e⟩; omega⟩, Nat.le_trans (hs3 r ⟨hr1, hr⟩) hr2⟩
open Classical in
noncomputable def cyc (p : List Int) (k : Int) : Nat := if h : ∃ r, IsCyc p k r then Classical.choose h else 1
theorem cyc_eq {p : List Int} {k : Int} {r : Nat} (h : IsCyc p k r) : cyc p k = r := by
  have hex : ∃ r, IsCyc p k r := ⟨r, h⟩
  unfold cyc
  rw [dif_pos hex]
  exact (Classical.choose_spec hex).eq h
theorem cyc_le {p : List Int} (hp : Permuted p) {k : Int} (h0 : 0 ≤ k) (h1 : k < p.length) : 1 ≤ cyc p k ∧ cyc p k ≤ p.length := by
  obtain ⟨r, hr, hl⟩ := isCyc_ex hp h0 h1
  rw [cyc_eq hr]
  exact ⟨hr.1, hl⟩
/-- Behind the last step the value is not yet back before cyc steps: how far a walk can go. -/
theorem cyc_bound {p : List Int} (hp : Permuted p) {k : Int} (h0 : 0 ≤ k) (h1 : k < p.length) {r : Nat} (hr : ∀ j, 1 ≤ j → j < r → iter (nth p) j k ≠ k) (hr1 : 1 ≤ r) : r ≤ cyc p k := by
  obtain ⟨s, hs, _⟩ := isCyc_ex hp h0 h1
  rw [cyc_eq hs]
  rcases Nat.lt_or_ge s r with g | g
  · exact absurd hs.2.1 (hr s hs.1 g)
  · exact g

def gcdI (a b : Int) : Int := (Nat.gcd a.toNat b.toNat : Nat)
theorem gcdI_step {a b : Int} (ha : 0 ≤ a) (hb : 0 < b) : gcdI b (a % b) = gcdI a b := by
  unfold gcdI
  have e : (a % b).toNat = a.toNat % b.toNat := by
    obtain ⟨a', rfl⟩ := Int.eq_ofNat_of_zero_le ha
    obtain ⟨b', rfl⟩ := Int.eq_ofNat_of_zero_le (Int.le_of_lt hb)
    rw [← Int.natCast_emod]; simp only [Int.toNat_natCast]
  rw [e, Nat.gcd_comm b.toNat, ← Nat.gcd_rec, Nat.gcd_comm]
theorem gcdI_zero {a : Int} (ha : 0 ≤ a) : gcdI a 0 = a := by
  unfold gcdI; simp; omega
theorem gcdI_pos {a b : Int} (hb : 0 < b) (ha : 0 < a) : 0 < gcdI a b ∧ gcdI a b ≤ a := by
  unfold gcdI
  have h1 : 0 < Nat.gcd a.toNat b.toNat := Nat.gcd_pos_of_pos_left _ (by omega)
  have h2 := Nat.gcd_le_left b.toNat (show 0 < a.toNat by omega)
  omega
/-- The order behind k codes. -/
noncomputable def ordS (p : List Int) : Nat → Int
  | 0 => 1
  | k + 1 => ordS p k / gcdI (ordS p k) (cyc p k) * cyc p k
theorem ordS_pos {p : List Int} (hp : Permuted p) : ∀ k : Nat, k ≤ p.length → 1 ≤ ordS p k
  | 0, _ => by simp [ordS]
  | k + 1, h => by
    have ih := ordS_pos hp k (by omega)
    have hc := cyc_le hp (k := (k : Int)) (by omega) (by omega)
    obtain ⟨h1, h2⟩ := gcdI_pos (a := ordS p k) (b := (cyc p k : Nat)) (by omega) (by omega)
    have h3 : 1 ≤ ordS p k / gcdI (ordS p k) (cyc p k) := by
      have := Int.le_ediv_of_mul_le (a := 1) (b := ordS p k) h1 (by omega)
      exact this
    have h4 : (1 : Int) * 1 ≤ ordS p k / gcdI (ordS p k) (cyc p k) * cyc p k := Int.mul_le_mul h3 (by omega) (by omega) (by omega)
    simpa [ordS] using h4

end Go.Proofs.YtnbhghgkjcfcmaaDoor

namespace Go.Proofs.YtnbhghgkjcfcmaaDoor
set_option linter.unusedVariables false
set_option linter.unusedSimpArgs false
open Go.RowKit

/-- The rows of a table hold integers, arrays of rows do not: a table stays as it was where only the array of another turns. -/
theorem rowvals_keepT {B B0 : Nat} {w w' : World} {us us' : List Value} {xss : List (List Int)} {v : Value} {n : Nat} (h : RowVals B w us xss) (hv : w.ownsRow B0 32 1 v n us') (k : Keep (fun b => v.ownBlock = some b) w w') : RowVals B w' us xss := by
  refine ⟨h.len, fun i hi hi' => ?_, h.apart⟩
  have h5 := h.own i hi hi'
  obtain ⟨hl, hn' | ⟨g, cap, cur, hv5, hbg, hg, r⟩⟩ := h5
  · exact ⟨hl, .inl hn'⟩
  · refine ⟨hl, .inr ⟨g, cap, cur, hv5, hbg, ?_, r⟩⟩
    rw [k.block g (Array.getElem?_eq_some_iff.1 hg).1 ?_]; exact hg
    intro e
    obtain ⟨_, hnn | ⟨g', cap', cur', hv', _, hg', _⟩⟩ := hv
    · rw [hnn.1] at e; cases e
    · rw [hv'] at e
      simp [Value.ownBlock] at e
      subst e
      rw [hg] at hg'
      simp at hg'
theorem OwnRows.keepT {B B0 : Nat} {w w' : World} {u v : Value} {xss yss : List (List Int)} (h : OwnRows B w u xss) (hv : OwnRows B0 w v yss) (hne : ∀ b, u.ownBlock = some b → v.ownBlock ≠ some b) (k : Keep (fun b => v.ownBlock = some b) w w') : OwnRows B w' u xss := by
  obtain ⟨us, h1, h2⟩ := h
  obtain ⟨us', h3, h4⟩ := hv
  refine ⟨us, ?_, rowvals_keepT h2 h3 k⟩
  obtain ⟨hl, h | ⟨g, cap, cur, hv, hb, hg, r⟩⟩ := h1
  · exact ⟨hl, .inl h⟩
  · exact ⟨hl, .inr ⟨g, cap, cur, hv, hb, by rw [k.block g (Array.getElem?_eq_some_iff.1 hg).1 (hne g (by rw [hv]; rfl))]; exact hg, r⟩⟩

theorem OwnRowsIn.keepT {B B0 hi : Nat} {w w' : World} {u v : Value} {xss yss : List (List Int)} (h : OwnRowsIn B hi w u xss) (hv : OwnRows B0 w v yss) (hne : ∀ b, u.ownBlock = some b → v.ownBlock ≠ some b) (k : Keep (fun b => v.ownBlock = some b) w w') : OwnRowsIn B hi w' u xss := by
  obtain ⟨us, h1, h2, e1, e2⟩ := h
  obtain ⟨us', h3, h4⟩ := hv
  refine ⟨us, ?_, rowvals_keepT h2 h3 k, e1, e2⟩
  obtain ⟨hl, h | ⟨g, cap, cur, hv, hb, hg, r⟩⟩ := h1
  · exact ⟨hl, .inl h⟩
  · exact ⟨hl, .inr ⟨g, cap, cur, hv, hb, by rw [k.block g (Array.getElem?_eq_some_iff.1 hg).1 (hne g (by rw [hv]; rfl))]; exact hg, r⟩⟩
theorem rowvals_snoc {B m : Nat} {w : World} {us : List Value} {xss : List (List Int)} (h : RowVals B w us xss) (hlt : ∀ i (h : i < us.length) k, us[i].ownBlock = some k → k < m) {u : Value} {xs : List Int} (hu : Own m w u xs) (hB : B ≤ m) :
    RowVals B w (us ++ [u]) (xss ++ [xs]) := by
  refine ⟨by simp [h.len], fun i hi hi' => ?_, ?_⟩
  · by_cases e : i < us.length
    · rw [List.getElem_append_left e, List.getElem_append_left (by rw [← h.len]; exact e)]
      exact h.own i e (by rw [← h.len]; exact e)
    · have e2 : i = us.length := by simp at hi; omega
      subst e2
      rw [List.getElem_append_right (Nat.le_refl _), List.getElem_append_right (by rw [h.len]; exact Nat.le_refl _)]
      simp only [h.len, Nat.sub_self, List.getElem_cons_zero]
      exact hu.mono hB
  · rw [List.pairwise_append]
    refine ⟨h.apart, by simp, fun x hx y hy => ?_⟩
    simp at hy; subst hy
    obtain ⟨i, hi, rfl⟩ := List.getElem_of_mem hx
    cases e : us[i].ownBlock with
    | none => exact .inl rfl
    | some b =>
      refine .inr fun e2 => ?_
      have h1 := hlt i hi b e
      have h2 := (hu.lt e2.symm).1
      omega

/-- 'append(s, u)' at an operation: the new array is the old one or a new block. -/
theorem wp_app_row2 {o : Oper} {a : Act} {K : Act → World → Prop} {Q : Exit → Act → World → Prop} (B m : Nat) (w : World) (v : Value) (xss : List (List Int)) (u : Value) (xs : List Int) (s x : Operand)
    (ho : o.op = .call { callee := .builtin .append, args := #[s, x], argTypes := #[24, 24] })
    (hs : a.eval s = v) (hown : OwnRowsIn B m w v xss) (hu : Own m w u xs) (hx : a.eval x = .slice (some ⟨w.heap.size, 0, none⟩) 1 1) (hn : xss.length ≤ 1099511627776) (hB : B ≤ m) (hB2 : B ≤ w.heap.size)
    (h : ∀ g c' w', OwnRows B w' (.slice (some ⟨g, 0, none⟩) (xss.length + 1) c') (xss ++ [xs]) → Keep (fun b => v.ownBlock = some b) w w' → (v.ownBlock = some g ∨ w.heap.size ≤ g) → K (a.put o.dst (.slice (some ⟨g, 0, none⟩) (xss.length + 1) c')) w') :
    o.wp Tryd.prog a (w.alloc (.cells #[u] 32)) K Q := by
  obtain ⟨us, h1, h2, _, hlt⟩ := hown
  have h2' := rowvals_snoc h2 hlt hu hB
  have hlen := h2.len
  obtain ⟨ua, uc, hu1, _⟩ := hu.shape
  obtain ⟨i0, hi, hz0, hz1, hz2⟩ := info_parts inf_ints
  refine wp_append_lies _ s x 24 ho B 32 i0 (.slice none 0 0) 1 24 Tryd.underlying24 hi hz0 hz1 hz2 rfl (by decide) v us.length us hs (h1.alloc _) ⟨w.heap.size, 0, none⟩ 1 1 [u] hx rfl ?_ ?_ (by decide) (by unfold maxLen; omega) (by omega) (by simp; omega) (w.heap.size + 1) (by simp) ?_
  · intro j u' hj
    match j, hj with
    | 0, hj => simp at hj; subst hj; simp [Addr.add]
  · intro u' hu'; simp at hu'; subst hu'; subst hu1; rfl
  · intro g cap w' h3 h4 h5 _
    have hk := Keep.of_grown h4
    have hk2 : Keep (fun b => v.ownBlock = some b) w w' := ((Keep.refl _ w).alloc _).trans hk
    rw [hlen] at h3 ⊢
    refine h g cap w' ⟨us ++ [u], by simpa [hlen] using h3, rowvals_keepT h2' h1 hk2⟩ hk2 (by rcases h5 with h5 | h5; exact .inl h5; exact .inr (by omega))

theorem wpList_app_row2 {ops : Array Oper} {rest : List Oper} {o : Oper} {a : Act} {Q : Exit → Act → World → Prop} (B m : Nat) (w : World) (v : Value) (xss : List (List Int)) (u : Value) (xs : List Int) (s x : Operand) (hgd : o.guard = none)
    (ho : o.op = .call { callee := .builtin .append, args := #[s, x], argTypes := #[24, 24] })
    (hs : a.eval s = v) (hown : OwnRowsIn B m w v xss) (hu : Own m w u xs) (hx : a.eval x = .slice (some ⟨w.heap.size, 0, none⟩) 1 1) (hn : xss.length ≤ 1099511627776) (hB : B ≤ m) (hB2 : B ≤ w.heap.size)
    (h : ∀ g c' w', OwnRows B w' (.slice (some ⟨g, 0, none⟩) (xss.length + 1) c') (xss ++ [xs]) → Keep (fun b => v.ownBlock = some b) w w' → (v.ownBlock = some g ∨ w.heap.size ≤ g) → wpList Tryd.prog ops Q rest (a.put o.dst (.slice (some ⟨g, 0, none⟩) (xss.length + 1) c')) w') :
    wpList Tryd.prog ops Q (o :: rest) a (w.alloc (.cells #[u] 32)) :=
  wpList_plain hgd fun _ hK => wp_app_row2 B m w v xss u xs s x ho hs hown hu hx hn hB hB2 fun g c' w' h2 h3 h4 => hK _ _ (h g c' w' h2 h3 h4)

theorem step_app_row2 {ops : Array Oper} {o : Oper} {a : Act} {K : Act → World → Prop} {Q : Exit → Act → World → Prop} {E : Prop} (B m : Nat) (w : World) (v : Value) (xss : List (List Int)) (u : Value) (xs : List Int) (s x : Operand) (hgd : o.guard = none)
    (ho : o.op = .call { callee := .builtin .append, args := #[s, x], argTypes := #[24, 24] })
    (hs : a.eval s = v) (hown : OwnRowsIn B m w v xss) (hu : Own m w u xs) (hx : a.eval x = .slice (some ⟨w.heap.size, 0, none⟩) 1 1) (hn : xss.length ≤ 1099511627776) (hB : B ≤ m) (hB2 : B ≤ w.heap.size)
    (h : ∀ g c' w', OwnRows B w' (.slice (some ⟨g, 0, none⟩) (xss.length + 1) c') (xss ++ [xs]) → Keep (fun b => v.ownBlock = some b) w w' → (v.ownBlock = some g ∨ w.heap.size ≤ g) → K (a.put o.dst (.slice (some ⟨g, 0, none⟩) (xss.length + 1) c')) w') :
    if Region.wanted o (yielded ops a.tmps) = true then Oper.wp Tryd.prog o a (w.alloc (.cells #[u] 32)) K Q else E := by
  have hw : Region.wanted o (yielded ops a.tmps) = true := by simp [Region.wanted, hgd]
  rw [if_pos hw]
  exact wp_app_row2 B m w v xss u xs s x ho hs hown hu hx hn hB hB2 h
end Go.Proofs.YtnbhghgkjcfcmaaDoor

namespace Go.Proofs.YtnbhghgkjcfcmaaDoor
set_option linter.unusedVariables false
set_option linter.unusedSimpArgs false
open Go.RowKit

/-- The result can be read; nothing that was there has turned. -/
def RSolR (w0 : World) (A B : List (List Int)) (e : Ending) (w' : World) : Prop := ∃ r1 r2, e = .returned (.agg #[r1, r2]) ∧ (OwnRows w0.heap.size w' r1 A ∧ OwnRows w0.heap.size w' r2 B) ∧ Below w0.heap.size w0 w'

theorem rowOf_self (p : List Int) : rowOf p.length (nth p) = p := by
  apply ext_nth (by simp)
  intro k hk
  rw [nth_rowOf p.length (nth p) k (by simpa using hk)]

theorem rowOf_const (n : Nat) (c : Int) : rowOf n (fun _ => c) = List.replicate n c := by
  unfold rowOf
  rw [List.map_const']
  simp

theorem OwnRows.shape' {B : Nat} {w : World} {v : Value} {xss : List (List Int)} (h : OwnRows B w v xss) : ∃ a c, v = .slice a xss.length c ∧ Rows w (.slice a xss.length c) xss := by
  have hr := h.rows
  obtain ⟨a, c, rfl, _⟩ := hr.shape
  exact ⟨a, c, rfl, hr⟩

set_option maxHeartbeats 1000000 in
theorem c_l02Twist (v v' : Value) (p q : List Int) (w : World) (hp : Ints w v p) (hq : Ints w v' q) (hl : q.length = p.length) (hn : p.length ≤ 1048576) :
    Calls Tryd.prog 93 #[v, v'] w (RSolR w (twA p) (twB p q)) := by
  obtain ⟨a, c, rfl, hc, hm⟩ := hp.shape
  obtain ⟨a', c', rfl, hc', hm'⟩ := hq.shape
  have HL := Lib.hid hl; clear hl
  obtain ⟨f0, f1, hW0, hsz⟩ := boxes2 w [.slice none 0 0, .slice none 0 0] [.slice none 0 0, .slice none 0 0] 38 38
  go_enter Tryd.func93, Tryd.ntmps93
  go_wp2
  have hB0 : Below w.heap.size w ((w.alloc (.cells #[.slice none 0 0, .slice none 0 0] 38)).alloc (.cells #[.slice none 0 0, .slice none 0 0] 38)) := hW0
  go_loopw [6, 7, 8] (fun i _ _ wr => ∃ (k : Nat) (va vb : Value), k ≤ p.length ∧ i = .int .i64 k ∧ Hid (Below w.heap.size w wr ∧ w.heap.size + 2 ≤ wr.heap.size) ∧ Hid (Blk wr w.heap.size 38 [.slice none 0 0, .slice none 0 0]) ∧ Hid (Blk wr (w.heap.size + 1) 38 [va, vb]) ∧
    Hid (OwnRows (w.heap.size + 2) wr va ((twA p).take k)) ∧ Hid (OwnRows (w.heap.size + 2) wr vb ((twB p q).take k)) ∧ Hid (∀ b, va.ownBlock = some b → vb.ownBlock ≠ some b)) (fun i _ _ _ => p.length - (intOf i).toNat)
  case atStart => exact ⟨0, _, _, Nat.zero_le _, rfl, Lib.hid ⟨hB0, by simp⟩, Lib.hid f0, Lib.hid f1, Lib.hid ⟨[], ⟨by simp, .inl ⟨rfl, rfl⟩⟩, RowVals.nil _ _⟩, Lib.hid ⟨[], ⟨by simp, .inl ⟨rfl, rfl⟩⟩, RowVals.nil _ _⟩, Lib.hid (by intro b hb; cases hb)⟩
  case round =>
    clear hB0 f0 f1 hW0 hsz
    obtain ⟨k, va, vb, hk, rfl, HB, HQ0, HQ1, HA, HBt, HNE⟩ := hrel
    obtain ⟨wo, rfl⟩ : ∃ wo : World, wo = wr := ⟨_, rfl⟩
    by_cases hlt : k < p.length
    · have hkq : k < q.length := by rw [HL.out]; exact hlt
      go_wp2
      go_loopw [7, 8] (fun s y wi => ∃ (j : Nat) (sa : Option Addr) (sc : Nat), j ≤ p.length ∧ y = .int .i64 j ∧ s = .slice sa j sc ∧ Below wo.heap.size wo wi ∧ Own wo.heap.size wi (.slice sa j sc) (List.replicate j (nth q k))) (fun _ y _ => p.length - (intOf y).toNat)
      case atStart => exact ⟨0, _, _, Nat.zero_le _, rfl, rfl, (Below.refl _ _).alloc (Nat.le_refl _) _, Own.made0 wo (Nat.le_refl _)⟩
      case round =>
        obtain ⟨j, sa, sc, hj, rfl, rfl, hb, hown⟩ := hrel
        by_cases hlj : j < p.length
        · obtain ⟨b, o, rfl, hcell⟩ := ((hq.below HB.out.1).below hb).get k hkq
          have Hb := Lib.hid hb; have Ho := Lib.hid hown; have Hs := Lib.hid hb.size; clear hb hown
          go_wp2_with (at_builtin; refine wpList_app_int wo.heap.size wr _ (List.replicate j (nth q k)) (nth q k) _ _ rfl rfl rfl Ho.out rfl (by simp; omega) Hs.out ?_; intro a' c' w' hown' hkeep; rw [List.length_replicate]; have Hk := Lib.hid hkeep; have Ho' := Lib.hid hown'; clear hkeep hown')
          go_roundw
          case rel =>
            have h1 := Ho'.out
            rw [List.length_replicate, ← List.replicate_succ'] at h1
            exact ⟨j + 1, a', c', by omega, by go_num, rfl, Ho.out.frame Hb.out (Nat.le_refl _) Hs.out Hk.out, h1⟩
          case measure => simp [intOf]; omega
        · obtain rfl : j = p.length := by omega
          obtain ⟨wi, rfl⟩ : ∃ wi : World, wi = wr := ⟨_, rfl⟩
          have Hb := Lib.hid hb; have Ho := Lib.hid hown; clear hb hown
          have HQ1d := Lib.hid ((HQ1.out.under Hb.out).drew)
          obtain ⟨cA, cB, cF, cG⟩ := two_cells HQ1d.out
          have hpd := ((hp.below HB.out.1).below Hb.out).below ((Below.refl wi.heap.size wi).drew)
          have hAd := (HA.out.inn.under Hb.out).under ((Below.refl wi.heap.size wi).drew)
          have hlen : ((twA p).take k).length = k := by simp [twA]; omega
          have hBW := HB.out.2
          have hbs := Hb.out.size
          have HPd := Lib.hid hpd; have HAd := Lib.hid hAd; have HLen := Lib.hid hlen; have HBW := Lib.hid hBW; have Hbs := Lib.hid hbs
          have HK1 : Hid (((twA p).take k).length ≤ 1099511627776) := by show _ ≤ _; rw [hlen]; omega
          have HB2s : Hid (w.heap.size + 2 ≤ wi.heap.size) := by show _ ≤ _; omega
          clear hpd hAd hlen hBW hbs
          go_wp2
          go_region_law (first
            | (go_simp; go_at_call 103; refine (c_l01Own _ p _ HPd.out (by omega)).mono ?_; rintro e w1 ⟨r1, rfl, ho1', hb1'⟩; obtain ⟨ra1, rc1, rfl, _⟩ := ho1'.shape; have ho1 := Lib.hid ho1'; have hb1 := Lib.hid hb1'; have HAd1 := Lib.hid (HAd.out.under hb1'); have HB1s : Hid (w.heap.size + 2 ≤ w1.heap.size) := Nat.le_trans HB2s.out hb1'.size; obtain ⟨cA1, cB1, cF1, cG1⟩ := two_cells (HQ1d.out.under hb1'); have cA1z : (w1.alloc (.cells #[.slice ra1 p.length rc1] 32)).cell? ⟨w.heap.size + 1, 0, none⟩ = some va := (two_cells ((HQ1d.out.under hb1').alloc _)).1; clear ho1' hb1')
            | (refine step_app_row2 (w.heap.size + 2) wo.heap.size w1 va ((twA p).take k) (.slice ra1 p.length rc1) p (.tmp 31) (.tmp 34) rfl rfl rfl HAd1.out (ho1.out.mono Hbs.out) rfl HK1.out HBW.out HB1s.out ?_; intro g c2 w2 hown2 hk2 hg2; rw [HLen.out] at hown2; rw [HLen.out]
               have hq1 : ∀ b, va.ownBlock = some b → w.heap.size + 2 ≤ b := fun b e => (OwnRows.lt HA.out e).1
               have hQ2 := (HQ1d.out.under hb1.out).of_block (hk2.block _ (HQ1d.out.under hb1.out).lt (fun e => by have := hq1 _ e; omega))
               obtain ⟨cA2, cB2, cF2, cG2⟩ := two_cells hQ2
               have HQ2 := Lib.hid hQ2; have HK2 := Lib.hid hk2; have HG2 := Lib.hid hg2; have Hown2 := Lib.hid hown2; clear hQ2 hk2 hg2 hown2 hq1))
          all_goals
            have hbw := HBW.out
            have hva : ∀ b, va.ownBlock = some b → w.heap.size + 2 ≤ b ∧ b < wo.heap.size := fun b e => OwnRows.lt HA.out e
            have hvb : ∀ b, vb.ownBlock = some b → w.heap.size + 2 ≤ b ∧ b < wo.heap.size := fun b e => OwnRows.lt HBt.out e
            have hs1 : wo.heap.size ≤ w1.heap.size := Nat.le_trans Hbs.out hb1.out.size
            have hQ3 := HQ2.out.set 0 (.slice (some ⟨g, 0, none⟩) (k + 1) c2)
            have hA3 := Hown2.out.keep (keep1 w2 (w.heap.size + 1) 0 (.slice (some ⟨g, 0, none⟩) (k + 1) c2)) (fun b h1 h2 h3 => by have h3 : b = w.heap.size + 1 := h3; omega)
            have hB1 := ((HBt.out.inn.under Hb.out).under ((Below.refl wi.heap.size wi).drew)).under hb1.out
            have hB3 := (hB1.keepT HAd1.out.out (fun b e1 e2 => HNE.out b e2 e1) HK2.out).keep (keep1 w2 (w.heap.size + 1) 0 (.slice (some ⟨g, 0, none⟩) (k + 1) c2)) (fun b h1 h2 h3 => by have h3 : b = w.heap.size + 1 := h3; omega)
            have hu1 := (Ho.out.under ((Below.refl wi.heap.size wi).drew)).under hb1.out
            have hu3 := (hu1.keep HK2.out (fun b h1 h2 h3 => by have := hva b h3; omega)).keep (keep1 w2 (w.heap.size + 1) 0 (.slice (some ⟨g, 0, none⟩) (k + 1) c2)) (fun b h1 h2 h3 => by have h3 : b = w.heap.size + 1 := h3; omega)
            have hW1 : Below w.heap.size w w1 := bb (bb (bb HB.out.1 Hb.out) ((Below.refl wi.heap.size wi).drew)) hb1.out
            have hW3 := (OwnRows.frame HAd1.out.out hW1 (by omega) (by omega) HK2.out).setCell (p := ⟨w.heap.size + 1, 0, none⟩) (by show _ ≤ w.heap.size + 1; omega) (.slice (some ⟨g, 0, none⟩) (k + 1) c2)
            have hZ1 := (((HQ0.out.under Hb.out).drew).under hb1.out)
            have hZ3 := (hZ1.of_block (HK2.out.block _ hZ1.lt (fun e => by have := hva _ e; omega))).other (a := ⟨w.heap.size + 1, 0, none⟩) (by show w.heap.size ≠ w.heap.size + 1; omega) (.slice (some ⟨g, 0, none⟩) (k + 1) c2)
            have hne3 : ∀ b, (Value.slice (some ⟨g, 0, none⟩) (k + 1) c2).ownBlock = some b → vb.ownBlock ≠ some b := by
              intro b e e2
              simp [Value.ownBlock] at e
              subst e
              rcases HG2.out with h | h
              · exact HNE.out _ h e2
              · have := hvb _ e2; omega
            have hs3 : w1.heap.size ≤ (w2.setCell ⟨w.heap.size + 1, 0, none⟩ (.slice (some ⟨g, 0, none⟩) (k + 1) c2)).heap.size := by simpa [World.setCell] using HK2.out.size
            obtain ⟨w3, hw3⟩ : ∃ w3, w2.setCell ⟨w.heap.size + 1, 0, none⟩ (.slice (some ⟨g, 0, none⟩) (k + 1) c2) = w3 := ⟨_, rfl⟩
            rw [hw3] at hQ3 hA3 hB3 hu3 hW3 hZ3 hs3 ⊢
            obtain ⟨dA, dB, dF, dG⟩ := two_cells hQ3
            have hlb : ((twB p q).take k).length = k := by simp [twB]; omega
            have HLB := Lib.hid hlb
            have HB3 := Lib.hid hB3; have HU3 := Lib.hid hu3; have HQ3 := Lib.hid hQ3; have HA3 := Lib.hid hA3; have HW3 := Lib.hid hW3; have HZ3 := Lib.hid hZ3; have HN3 := Lib.hid hne3; have HVB := Lib.hid hvb
            have HK3 : Hid (((twB p q).take k).length ≤ 1099511627776) := by show _ ≤ _; rw [hlb]; omega
            have HS3 : Hid (w.heap.size + 2 ≤ w3.heap.size ∧ wo.heap.size ≤ w3.heap.size) := by have := HBW.out; exact ⟨by omega, by omega⟩
            have HG3 : Hid (g < w3.heap.size) := (OwnRows.lt hA3 rfl).2
            clear hbw hlb hB3 hu3 hQ3 hA3 hW3 hZ3 hne3 hvb hva hs1 hs3 hW1 hZ1 hu1 hB1 cA1 cA1z cB1 cF1 cG1 cA2 cB2 cF2 cG2 cA cB cF cG hw3
            go_wp2_with (at_builtin; refine wpList_app_row2 (w.heap.size + 2) wo.heap.size w3 vb ((twB p q).take k) _ (List.replicate p.length (nth q k)) _ _ rfl rfl rfl HB3.out HU3.out rfl HK3.out HBW.out HS3.out.1 ?_; intro g2 c4 w4 hown4 hk4 hg4; rw [HLB.out] at hown4; rw [HLB.out]; have hQ4 := HQ3.out.of_block (hk4.block _ HQ3.out.lt (fun e => by have := (HVB.out _ e).1; omega)); obtain ⟨eA, eB, eF, eG⟩ := two_cells hQ4; have HQ4 := Lib.hid hQ4; have Hown4 := Lib.hid hown4; have HK4 := Lib.hid hk4; have HG4 := Lib.hid hg4; clear hQ4 hown4 hk4 hg4)
            go_roundw
            case rel =>
              have hbw := HBW.out
              have hs3 := HS3.out
              have hs4 := HK4.out.size
              have hQ5 := HQ4.out.set 1 (.slice (some ⟨g2, 0, none⟩) (k + 1) c4)
              have hB5 := Hown4.out.keep (keep1 w4 (w.heap.size + 1) 1 (.slice (some ⟨g2, 0, none⟩) (k + 1) c4)) (fun b h1 h2 h3 => by have h3 : b = w.heap.size + 1 := h3; omega)
              have hA5 := (HA3.out.keepT HB3.out.out (fun b e1 e2 => HN3.out b e1 e2) HK4.out).keep (keep1 w4 (w.heap.size + 1) 1 (.slice (some ⟨g2, 0, none⟩) (k + 1) c4)) (fun b h1 h2 h3 => by have h3 : b = w.heap.size + 1 := h3; omega)
              have hW5 := (OwnRows.frame HB3.out.out HW3.out (by omega) (by omega) HK4.out).setCell (p := ⟨w.heap.size + 1, 1, none⟩) (by show _ ≤ w.heap.size + 1; omega) (.slice (some ⟨g2, 0, none⟩) (k + 1) c4)
              have hZ5 := (HZ3.out.of_block (HK4.out.block _ HZ3.out.lt (fun e => by have := (HVB.out _ e).1; omega))).other (a := ⟨w.heap.size + 1, 1, none⟩) (by show w.heap.size ≠ w.heap.size + 1; omega) (.slice (some ⟨g2, 0, none⟩) (k + 1) c4)
              have hs5 : w.heap.size + 2 ≤ (w4.setCell ⟨w.heap.size + 1, 1, none⟩ (.slice (some ⟨g2, 0, none⟩) (k + 1) c4)).heap.size := by have : w3.heap.size ≤ w4.heap.size := hs4; simp [World.setCell]; omega
              refine ⟨k + 1, .slice (some ⟨g, 0, none⟩) (k + 1) c2, .slice (some ⟨g2, 0, none⟩) (k + 1) c4, by omega, by go_num, Lib.hid ⟨hW5, hs5⟩, Lib.hid hZ5, Lib.hid hQ5, Lib.hid ?_, Lib.hid ?_, Lib.hid fun b e1 e2 => ?_⟩
              · rw [take_snoc_row _ _ (by simp [twA]; omega)]
                unfold twA
                rw [row_tabOf _ _ _ hlt, rowOf_self]
                exact hA5
              · rw [take_snoc_row _ _ (by simp [twB]; omega)]
                unfold twB
                rw [row_tabOf _ _ _ hlt, rowOf_const]
                exact hB5
              · simp [Value.ownBlock] at e1 e2
                subst e1
                subst e2
                rcases HG4.out with h | h
                · exact HN3.out _ rfl h
                · have := HG3.out; omega
            case measure => simp [intOf]; omega
    · obtain rfl : k = p.length := by omega
      have hA := HA.out
      have hB := HBt.out
      rw [List.take_of_length_le (by simp [twA])] at hA
      rw [List.take_of_length_le (by simp [twB])] at hB
      obtain ⟨ra1, rc1, rfl, hca⟩ := OwnRows.shape' hA
      obtain ⟨ra2, rc2, rfl, hcb⟩ := OwnRows.shape' hB
      obtain ⟨z0, z1, z2, z3⟩ := two_cells HQ0.out
      obtain ⟨y0, y1, y2, y3⟩ := two_cells HQ1.out
      have HA' := Lib.hid hA; have HB' := Lib.hid hB; clear hA hB hca hcb
      go_wp2
      refine bodyPost_ret (v := .agg #[.slice ra1 (twA p).length rc1, .slice ra2 (twB p q).length rc2]) (by simp [results, Tryd.results93, go_sem, z0, z1]) rfl ⟨_, _, rfl, ⟨?_, ?_⟩, (HB.out.1.setCell (p := ⟨w.heap.size, 0, none⟩) (Nat.le_refl _) _).setCell (p := ⟨w.heap.size, 1, none⟩) (Nat.le_refl _) _⟩
      · exact ((HA'.out.keep (keep1 _ w.heap.size 0 _) (fun b h1 h2 h3 => by have h3 : b = w.heap.size := h3; omega)).keep (keep1 _ w.heap.size 1 _) (fun b h1 h2 h3 => by have h3 : b = w.heap.size := h3; omega)).mono (by omega)
      · exact ((HB'.out.keep (keep1 _ w.heap.size 0 _) (fun b h1 h2 h3 => by have h3 : b = w.heap.size := h3; omega)).keep (keep1 _ w.heap.size 1 _) (fun b h1 h2 h3 => by have h3 : b = w.heap.size := h3; omega)).mono (by omega)
/-- A pair of tables that can be read, all of it below hi. -/
def RdSol (lo hi : Nat) (w : World) (v1 v2 : Value) (A B : List (List Int)) : Prop := ∃ w0 : World, lo = 0 ∧ Sol w0 v1 v2 A B ∧ w0.heap.size ≤ hi ∧ Below w0.heap.size w0 w
theorem RdSol.sol {lo hi : Nat} {w : World} {v1 v2 : Value} {A B : List (List Int)} (h : RdSol lo hi w v1 v2 A B) : Sol w v1 v2 A B := by
  obtain ⟨w0, _, h1, _, h2⟩ := h
  exact h1.below h2
theorem RdSol.under {lo hi : Nat} {w w' : World} {v1 v2 : Value} {A B : List (List Int)} (h : RdSol lo hi w v1 v2 A B) (hb : Below w.heap.size w w') : RdSol lo hi w' v1 v2 A B := by
  obtain ⟨w0, h0, h1, h3, h2⟩ := h
  exact ⟨w0, h0, h1, h3, bb h2 hb⟩
theorem RdSol.keep {lo hi : Nat} {S : Nat → Prop} {w w' : World} {v1 v2 : Value} {A B : List (List Int)} (h : RdSol lo hi w v1 v2 A B) (k : Keep S w w') (hs : ∀ b, lo ≤ b → b < hi → ¬ S b) : RdSol lo hi w' v1 v2 A B := by
  obtain ⟨w0, h0, h1, h3, h2⟩ := h
  subst h0
  exact ⟨w0, rfl, h1, h3, h2.trans (k.below fun b hb => ⟨by have := h2.size; omega, hs b (Nat.zero_le _) (by omega)⟩)⟩
def RSolRC (w0 : World) (A B : List (List Int)) (c : Int) (e : Ending) (w' : World) : Prop := ∃ r1 r2, e = .returned (.tuple #[.agg #[r1, r2], .int .i64 c]) ∧ RdSol 0 w'.heap.size w' r1 r2 A B ∧ Below w0.heap.size w0 w'

theorem OwnRowsIn.nil0 (lo hi : Nat) (w : World) : OwnRowsIn lo hi w (.slice none 0 0) [] :=
  ⟨[], ⟨by simp, .inl ⟨rfl, rfl⟩⟩, RowVals.nil _ _, (by intro k hk; cases hk), (by intro i hi; simp at hi)⟩
theorem OwnSol.nil0 {lo hi : Nat} {w : World} (h : lo ≤ hi) : OwnSol lo hi w (.slice none 0 0) (.slice none 0 0) [] [] :=
  ⟨lo, lo, lo, lo, Nat.le_refl _, h, Nat.le_refl _, h, .inl (Nat.le_refl _), OwnRowsIn.nil0 _ _ _, OwnRowsIn.nil0 _ _ _⟩

theorem total_le (t : List (List Int)) (h : ∀ r ∈ t, r.length ≤ 12) : total t ≤ t.length * 12 := by
  induction t with
  | nil => simp [total]
  | cons r t ih =>
    have h1 := h r (by simp)
    have h2 := ih fun r hr => h r (by simp [hr])
    simp only [total, List.length_cons]
    omega
theorem tab_rows {n : Nat} {g : Int → Int → Int} (hn : n ≤ 12) : ∀ r ∈ tabOf n g, r.length ≤ 12 := by
  intro r hr
  simp only [tabOf, List.mem_map] at hr
  obtain ⟨x, _, rfl⟩ := hr
  simpa using hn
end Go.Proofs.YtnbhghgkjcfcmaaDoor

namespace Go.Proofs.YtnbhghgkjcfcmaaDoor
set_option linter.unusedVariables false
set_option linter.unusedSimpArgs false
open Go.RowKit

def ivF (A B : List (List Int)) (x y : Nat) : Bool := decide (val2 A (val2 A x y) (val2 B x y) = x) && decide (val2 B (val2 A x y) (val2 B x y) = y)
def involL (A B : List (List Int)) : Bool := all2 A.length (ivF A B)



def pmCode' (A B : List (List Int)) : Int := if isPM A B then 0 else 1
def involRes (A B : List (List Int)) : Bool := if isPM A B then involL A B else false
end Go.Proofs.YtnbhghgkjcfcmaaDoor

namespace Go.Proofs.YtnbhghgkjcfcmaaDoor
set_option linter.unusedVariables false
set_option linter.unusedSimpArgs false
open Go.RowKit

theorem Rows.any {w : World} {v : Value} {t : List (List Int)} (h : Rows w v t) : ∃ a l c, v = .slice a l c := by
  obtain ⟨a, c, rfl, _, _⟩ := h.shape
  exact ⟨_, _, _, rfl⟩
theorem OwnRows.any {B : Nat} {w : World} {v : Value} {t : List (List Int)} (h : OwnRows B w v t) : ∃ a l c, v = .slice a l c := h.rows.any
theorem storedR {w w2 : World} {r1 r2 : Value} {A B : List (List Int)} {lo q : Nat} (hB : Below w.heap.size w w2) (hs : OwnRows lo w2 r1 A ∧ OwnRows lo w2 r2 B) (hq : w.heap.size ≤ q) (hlo : q < lo) :
    RdSol 0 ((w2.setCell ⟨q, 0, none⟩ r1).setCell ⟨q, 1, none⟩ r2).heap.size ((w2.setCell ⟨q, 0, none⟩ r1).setCell ⟨q, 1, none⟩ r2) r1 r2 A B ∧ Below w.heap.size w ((w2.setCell ⟨q, 0, none⟩ r1).setCell ⟨q, 1, none⟩ r2) := by
  have k : Keep (fun b => b = q) w2 ((w2.setCell ⟨q, 0, none⟩ r1).setCell ⟨q, 1, none⟩ r2) := ((Keep.refl (fun b => b = q) w2).setCell (p := ⟨q, 0, none⟩) (.inl rfl) _).setCell (p := ⟨q, 1, none⟩) (.inl rfl) _
  exact ⟨⟨_, rfl, ⟨(hs.1.keep k (fun b h1 _ h3 => by omega)).rows, (hs.2.keep k (fun b h1 _ h3 => by omega)).rows⟩, Nat.le_refl _, Below.refl _ _⟩, (hB.setCell (p := ⟨q, 0, none⟩) hq _).setCell (p := ⟨q, 1, none⟩) hq _⟩
theorem rsolR_of {w : World} {A B : List (List Int)} {e : Ending} {w' : World} (h : RSol w A B e w') : RSolR w A B e w' := by
  obtain ⟨r1, r2, he, hs, hb⟩ := h
  obtain ⟨lo1, hi1, lo2, hi2, h1, _, h3, _, _, k1, k2⟩ := hs
  exact ⟨r1, r2, he, ⟨k1.out.mono h1, k2.out.mono h3⟩, hb⟩
end Go.Proofs.YtnbhghgkjcfcmaaDoor

namespace Go.Proofs.YtnbhghgkjcfcmaaDoor
set_option linter.unusedVariables false
set_option linter.unusedSimpArgs false
open Go.RowKit

end Go.Proofs.YtnbhghgkjcfcmaaDoor

namespace Go.Proofs.YtnbhghgkjcfcmaaDoor
set_option linter.unusedVariables false
set_option linter.unusedSimpArgs false
open Go.RowKit

def twOk (p q : List Int) : Bool := isPerm p && isPerm q && decide (p.length = q.length)
def twCm (p q : List Int) : Bool := decide (thenL p q = thenL q p)
def twRA (p q : List Int) : List (List Int) := if twOk p q && twCm p q then twA p else []
def twRB (p q : List Int) : List (List Int) := if twOk p q && twCm p q then twB p q else []
def twCode (p q : List Int) : Int := if twOk p q then (if twCm p q then 0 else 5) else 2
theorem twOk_of {p q : List Int} (h1 : isPerm p = true) (h2 : isPerm q = true) (h3 : p.length = q.length) : twOk p q = true := by simp [twOk, h1, h2, h3]
theorem twOk_no1 {p q : List Int} (h1 : isPerm p = false) : twOk p q = false := by simp [twOk, h1]
theorem twOk_no2 {p q : List Int} (h1 : isPerm q = false) : twOk p q = false := by simp [twOk, h1]
theorem twOk_no3 {p q : List Int} (h1 : p.length ≠ q.length) : twOk p q = false := by simp [twOk, h1]
theorem perm_inT {xs : List Int} (h : isPerm xs = true) : (∀ x ∈ xs, 0 ≤ x ∧ x < xs.length) ∧ xs.length ≤ 12 := by
  simp [isPerm, inR] at h; exact ⟨h.2.2, by omega⟩


theorem tw_total (p q : List Int) : total (twRA p q) ≤ 144 ∧ total (twRB p q) ≤ 144 := by
  unfold twRA twRB
  split
  · rename_i h
    have hl : p.length ≤ 12 := by simp [twOk, isPerm, inR] at h; omega
    have h1 := total_le _ (tab_rows (g := fun _ y => nth p y) hl)
    have h2 := total_le _ (tab_rows (g := fun x _ => nth q x) hl)
    rw [tabOf_length] at h1 h2
    unfold twA twB
    omega
  · simp [total]
end Go.Proofs.YtnbhghgkjcfcmaaDoor

namespace Go.Proofs.YtnbhghgkjcfcmaaDoor
set_option linter.unusedVariables false
set_option linter.unusedSimpArgs false
open Go.RowKit

theorem val2_tabOf' {n : Nat} {g : Int → Int → Int} {x y : Int} (hx0 : 0 ≤ x) (hx : x < n) (hy0 : 0 ≤ y) (hy : y < n) : val2 (tabOf n g) x y = g x y := by
  show nth (row (tabOf n g) x) y = _
  rw [row_tabOfi _ _ _ hx0 hx, nth_rowOfi _ _ _ hy0 hy]
theorem perm_lt {p : List Int} (h : Permuted p) {x : Int} (h0 : 0 ≤ x) (h1 : x < p.length) : 0 ≤ nth p x ∧ nth p x < p.length := h.2 _ (nth_mem h0 h1)
theorem perm_inj {p : List Int} (h : Permuted p) {x y : Int} (h0 : 0 ≤ x) (h1 : x < p.length) (g0 : 0 ≤ y) (g1 : y < p.length) (e : nth p x = nth p y) : x = y := by
  rw [← nth_invL h h0 h1, e, nth_invL h g0 g1]
theorem isPerm_parts {p : List Int} (h : isPerm p = true) : 1 ≤ p.length ∧ p.length ≤ 12 ∧ Permuted p := by
  simp only [isPerm, Bool.and_eq_true, inR, decide_eq_true_eq] at h
  exact ⟨by omega, by omega, h.2⟩

section
variable {p q : List Int} (hp : Permuted p) (hq : Permuted q) (hl : q.length = p.length) (h1 : 1 ≤ p.length) (h12 : p.length ≤ 12)
include hp hq hl h1 h12
omit hp hq hl h1 h12 in
theorem tw_A0 {x y : Int} (hx0 : 0 ≤ x) (hx : x < p.length) (hy0 : 0 ≤ y) (hy : y < p.length) : val2 (twA p) x y = nth p y := val2_tabOf' hx0 hx hy0 hy
omit hp hq hl h1 h12 in
theorem tw_B0 {x y : Int} (hx0 : 0 ≤ x) (hx : x < p.length) (hy0 : 0 ≤ y) (hy : y < p.length) : val2 (twB p q) x y = nth q x := val2_tabOf' hx0 hx hy0 hy
theorem tw_pm : isPM (twA p) (twB p q) = true := by
  have ha : isTab (twA p) = true := isTab_tabOf h1 h12 fun x y hx hy => perm_lt hp (by omega) (by omega)
  have hb : isTab (twB p q) = true := isTab_tabOf h1 h12 fun x y hx hy => by have := perm_lt hq (x := x) (by omega) (by omega); omega
  have hab : (twA p).length = (twB p q).length := by simp [twA, twB]
  simp [isPM, ha, hb, hab]
theorem tw_coll : collL (twA p) (twB p q) = [] := by
  have hla : (twA p).length = p.length := by simp [twA]
  unfold collL
  refine quad_none (find2_none fun a ha b hb => ?_)
  rw [hla] at ha hb ⊢
  unfold colP
  have a1 := div_lt_sq ha; have a2 := Nat.mod_lt a (show 0 < p.length by omega)
  have b1 := div_lt_sq hb; have b2 := Nat.mod_lt b (show 0 < p.length by omega)
  have g1 := Nat.div_add_mod a p.length
  have g2 := Nat.div_add_mod b p.length
  generalize a / p.length = x1 at a1 g1 ⊢
  generalize a % p.length = y1 at a2 g1 ⊢
  generalize b / p.length = x2 at b1 g2 ⊢
  generalize b % p.length = y2 at b2 g2 ⊢
  rw [tw_A0 (by omega) (by omega) (by omega) (by omega), tw_A0 (by omega) (by omega) (by omega) (by omega), tw_B0 (by omega) (by omega) (by omega) (by omega), tw_B0 (by omega) (by omega) (by omega) (by omega)]
  by_cases e1 : nth p (y1 : Int) = nth p (y2 : Int)
  · by_cases e2 : nth q (x1 : Int) = nth q (x2 : Int)
    · have f1 := perm_inj hp (by omega) (by omega) (by omega) (by omega) e1
      have f2 := perm_inj hq (by omega) (by omega) (by omega) (by omega) e2
      have : a = b := by
        rw [← g1, ← g2, show x1 = x2 by omega, show y1 = y2 by omega]
      simp [this]
    · simp [e2]
  · simp [e1]
theorem tw_nd : nondegL (twA p) (twB p q) = true := by
  have e : ∀ {n : Nat} {g : Int → Int → Int} {r : List Int}, isPerm r = true → (∀ x : Nat, x < n → rowOf n (g x) = r) → permRows (tabOf n g) = true := by
    intro n g r hr hg
    unfold permRows tabOf
    rw [List.all_eq_true]
    intro s hs
    rw [List.mem_map] at hs
    obtain ⟨x, hx, rfl⟩ := hs
    have e := hg x (by simpa using hx)
    show isPerm (rowOf n (g x)) = true
    rw [e]; exact hr
  have ip : isPerm p = true := by simp [isPerm, inR, hp]; omega
  have iq : isPerm q = true := by simp [isPerm, inR, hq]; omega
  unfold nondegL
  rw [Bool.and_eq_true]
  refine ⟨e ip fun x hx => rowOf_self p, ?_⟩
  have hlb : (twB p q).length = p.length := by simp [twB]
  unfold transL
  rw [hlb]
  refine e iq fun x hx => ?_
  have : rowOf p.length (fun y => val2 (twB p q) y x) = rowOf p.length (nth q) := rowOf_congr fun y hy => tw_B0 (by omega) (by omega) (by omega) (by omega)
  rw [this, ← hl, rowOf_self]
theorem tw_inv : involL (twA p) (twB p q) = decide (invL p = q) := by
  have hla : (twA p).length = p.length := by simp [twA]
  have key : ∀ x y : Nat, x < p.length → y < p.length → ivF (twA p) (twB p q) x y = (decide (nth p (nth q x) = x) && decide (nth q (nth p y) = y)) := by
    intro x y hx hy
    have a := perm_lt hp (x := y) (by omega) (by omega)
    have b := perm_lt hq (x := x) (by omega) (by omega)
    unfold ivF
    rw [tw_A0 (x := x) (y := y) (by omega) (by omega) (by omega) (by omega), tw_B0 (x := x) (y := y) (by omega) (by omega) (by omega) (by omega),
      tw_A0 (by omega) (by omega) (by omega) (by omega), tw_B0 (by omega) (by omega) (by omega) (by omega)]
  rw [Bool.eq_iff_iff]
  unfold involL
  rw [all2_iff, hla, decide_eq_true_eq]
  constructor
  · intro h
    apply ext_nth (by simp; omega)
    intro k hk
    simp at hk
    obtain ⟨x, x0, x1, ex⟩ := ex_pre hp (y := (k : Int)) (by omega) (by omega)
    have := h 0 (by omega) x.toNat (by omega)
    rw [key _ _ (by omega) (by omega)] at this
    simp only [Bool.and_eq_true, decide_eq_true_eq] at this
    have e := this.2
    rw [show ((x.toNat : Nat) : Int) = x by omega, ex] at e
    rw [e, ← ex, nth_invL hp x0 x1]
  · intro h x hx y hy
    rw [key x y hx hy, ← h]
    have e2 := nth_invL hp (x := (y : Int)) (by omega) (by omega)
    obtain ⟨z, z0, z1, ez⟩ := ex_pre hp (y := (x : Int)) (by omega) (by omega)
    have e1 : nth p (nth (invL p) x) = x := by rw [← ez, nth_invL hp z0 z1]
    simp [e1, e2]
theorem tw_sol (hc : thenL p q = thenL q p) : isSol (twA p) (twB p q) = true := by
  have hla : (twA p).length = p.length := by simp [twA]
  have hcom : ∀ y : Int, 0 ≤ y → y < p.length → nth q (nth p y) = nth p (nth q y) := by
    intro y y0 y1
    have e : nth (thenL p q) y = nth (thenL q p) y := by rw [hc]
    rw [nth_thenL _ _ _ y0 y1, nth_thenL _ _ _ y0 (by omega)] at e
    exact e
  have hyF : yF (twA p) (twB p q) = [] := by
    unfold yF
    have : find3 (twA p).length (yP (twA p) (twB p q)) = none := find3_none fun x hx y hy z hz => by
      rw [hla] at hx hy hz
      have px := perm_lt hp (x := x) (by omega) (by omega)
      have py := perm_lt hp (x := y) (by omega) (by omega)
      have pz := perm_lt hp (x := z) (by omega) (by omega)
      have qx := perm_lt hq (x := x) (by omega) (by omega)
      have qy := perm_lt hq (x := y) (by omega) (by omega)
      have tA := fun (x y : Int) (a : 0 ≤ x) (b : x < p.length) (c : 0 ≤ y) (d : y < p.length) => tw_A0 (p := p) (x := x) (y := y) a b c d
      have tB := fun (x y : Int) (a : 0 ≤ x) (b : x < p.length) (c : 0 ≤ y) (d : y < p.length) => tw_B0 (p := p) (q := q) (x := x) (y := y) a b c d
      unfold yP yL yR
      rw [tA x y (by omega) (by omega) (by omega) (by omega), tB x y (by omega) (by omega) (by omega) (by omega), tA y z (by omega) (by omega) (by omega) (by omega), tB y z (by omega) (by omega) (by omega) (by omega),
        tA (nth q x) z (by omega) (by omega) (by omega) (by omega), tB (nth q x) z (by omega) (by omega) (by omega) (by omega), tA x (nth p z) (by omega) (by omega) (by omega) (by omega), tB x (nth p z) (by omega) (by omega) (by omega) (by omega),
        tA (nth p y) (nth p z) (by omega) (by omega) (by omega) (by omega), tB (nth p y) (nth p z) (by omega) (by omega) (by omega) (by omega), tA (nth q x) (nth q y) (by omega) (by omega) (by omega) (by omega), tB (nth q x) (nth q y) (by omega) (by omega) (by omega) (by omega), hcom y (by omega) (by omega)]
      simp
    rw [this]; rfl
  simp [isSol, tw_pm hp hq hl h1 h12, tw_coll hp hq hl h1 h12, hyF]
end
theorem then_back {p : List Int} (hp : Permuted p) : thenL p (invL p) = iota p.length := by
  apply ext_nth (by simp)
  intro k hk
  simp at hk
  rw [nth_thenL _ _ _ (by omega) (by omega), nth_invL hp (by omega) (by omega)]
  rw [nth_nat _ _ (by simpa using hk)]
  simp [iota]
end Go.Proofs.YtnbhghgkjcfcmaaDoor

namespace Go.Proofs.YtnbhghgkjcfcmaaDoor
set_option linter.unusedVariables false
set_option linter.unusedSimpArgs false
open Go.ChangeShapes Go.WideShapes Go.ChangeAt Go.RowKit

theorem own_knob : ownKnob Tryd.prog.godebug = none := by kernel_rfl
theorem laid_out : laidOutB Tryd.prog = true := by kernel_rfl
theorem cells_int64 : Tryd.prog.cellsOf 2 = 1 := by kernel_rfl
theorem cells_ints : Tryd.prog.cellsOf 32 = 1 := by kernel_rfl

section
variable {H : Type} {enc : TypeId × Value → H} {w : World} {base : Nat} {spare : Nat → Bool} {held : Bool}

theorem ints_of_trod {fuel : Nat} {u : Value} {x : DataW H × List MemPlace} (h : DataW.trod enc Tryd.prog w base spare held fuel 32 [u] = some x) : ∃ xs, Ints w u xs := by
  rcases open_ints Tryd.underlying32 Tryd.underlying2 cells_int64 h with ⟨hcs, _⟩ | ⟨a, len, cap, zs, hcs, _, hl, hm, hz, _, hcell, _⟩
  · simp at hcs; subst hcs
    exact ⟨[], Ints.nil w⟩
  · simp at hcs; subst hcs
    have hge : len ≤ zs.length := by rw [hz]; split <;> omega
    have hlen : (zs.take len).length = len := by simp; omega
    refine ⟨zs.take len, some a, cap, by rw [hlen], by rw [hlen]; exact hl, hm, fun i hi => ?_⟩
    have hi' : i < zs.length := by omega
    obtain ⟨b, off, rfl, hc⟩ := ints_at hcell (by omega)
    refine ⟨b, off, rfl, ?_⟩
    rw [hc i hi']
    simp [hi']


end
end Go.Proofs.YtnbhghgkjcfcmaaDoor

namespace Go.Proofs.YtnbhghgkjcfcmaaDoor
set_option linter.unusedVariables false
set_option linter.unusedSimpArgs false
open Go.RowKit

def pmCodeN (A B : List (List Int)) : Int := if isPM A B then 0 else 1
def ndRes (A B : List (List Int)) : Bool := if isPM A B then nondegL A B else false
end Go.Proofs.YtnbhghgkjcfcmaaDoor

namespace Go.Proofs.YtnbhghgkjcfcmaaDoor
set_option linter.unusedVariables false
set_option linter.unusedSimpArgs false
open Go.RowKit

def flN (n : Int) : List Int := iota n.toNat
def flA (n : Int) : List (List Int) := if inR n 1 12 then twA (flN n) else []
def flB (n : Int) : List (List Int) := if inR n 1 12 then twB (flN n) (flN n) else []
def flCode (n : Int) : Int := if inR n 1 12 then 0 else 2

set_option maxHeartbeats 400000 in
theorem c_l02Flip (n : Nat) (w : World) (hn : n ≤ 1048576) :
    Calls Tryd.prog 76 #[.int .i64 n] w (RSolR w (twA (iota n)) (twB (iota n) (iota n))) := by
  obtain ⟨f0, hW0, hsz⟩ := boxes1 w [.slice none 0 0, .slice none 0 0] 38
  have HF := Lib.hid f0; have HW := Lib.hid hW0; clear f0 hW0
  go_enter Tryd.func76, Tryd.ntmps76
  go_wp2_with fail
  refine (c_l01Unit n _ hn).mono ?_; rintro e w1 ⟨r1, rfl, ho1, hb1⟩
  have HO := Lib.hid ho1; have HB1 := Lib.hid hb1; clear ho1 hb1
  go_wp2_with fail
  refine (c_l02Twist _ _ (iota n) (iota n) _ HO.out.ints HO.out.ints rfl (by rw [iota_length]; exact hn)).mono ?_; rintro e w2 ⟨s1, s2, rfl, hs, hb2⟩
  obtain ⟨a1, c1, rfl, _⟩ := OwnRows.shape' hs.1
  obtain ⟨a2, c2, rfl, _⟩ := OwnRows.shape' hs.2
  obtain ⟨g0, g1, g2, g3⟩ := two_cells ((HF.out.under HB1.out).under hb2)
  have HS := Lib.hid hs; have HB2 := Lib.hid hb2; have HZ := Lib.hid hsz; clear hs hb2 hsz
  go_wp2
  have hz := HZ.out
  have hs1 : (w.alloc (.cells #[.slice none 0 0, .slice none 0 0] 38)).heap.size ≤ w1.heap.size := HB1.out.size
  refine bodyPost_ret (v := .agg #[.slice a1 (twA (iota n)).length c1, .slice a2 (twB (iota n) (iota n)).length c2]) (by simp [results, Tryd.results76, go_sem, g0, g1]) rfl ⟨_, _, rfl, ⟨?_, ?_⟩, ((bb (bb HW.out HB1.out) HB2.out).setCell (p := ⟨w.heap.size, 0, none⟩) (Nat.le_refl _) _).setCell (p := ⟨w.heap.size, 1, none⟩) (Nat.le_refl _) _⟩
  · exact ((HS.out.1.keep (keep1 _ w.heap.size 0 _) (fun b h1 h2 h3 => by have h3 : b = w.heap.size := h3; omega)).keep (keep1 _ w.heap.size 1 _) (fun b h1 h2 h3 => by have h3 : b = w.heap.size := h3; omega)).mono (by omega)
  · exact ((HS.out.2.keep (keep1 _ w.heap.size 0 _) (fun b h1 h2 h3 => by have h3 : b = w.heap.size := h3; omega)).keep (keep1 _ w.heap.size 1 _) (fun b h1 h2 h3 => by have h3 : b = w.heap.size := h3; omega)).mono (by omega)


theorem fl_total (n : Int) : total (flA n) ≤ 144 ∧ total (flB n) ≤ 144 := by
  unfold flA flB
  split
  · rename_i h
    have hl : (flN n).length ≤ 12 := by simp [inR] at h; simp [flN]; omega
    have h1 := total_le _ (tab_rows (g := fun _ y => nth (flN n) y) hl)
    have h2 := total_le _ (tab_rows (g := fun x _ => nth (flN n) x) hl)
    rw [tabOf_length] at h1 h2
    unfold twA twB
    omega
  · simp [total]

end Go.Proofs.YtnbhghgkjcfcmaaDoor

namespace Go.Proofs.YtnbhghgkjcfcmaaDoor
set_option linter.unusedVariables false
set_option linter.unusedSimpArgs false
open Go.RowKit

theorem isPerm_in {xs : List Int} (h : isPerm xs = true) : (∀ x ∈ xs, 0 ≤ x ∧ x < xs.length) ∧ xs.length ≤ 1048576 := by
  simp [isPerm, inR] at h; exact ⟨h.2.2, by omega⟩

def invRes (xs : List Int) : List Int := if isPerm xs then invL xs else []
def invCode (xs : List Int) : Int := if isPerm xs then 0 else 1
theorem invRes_length (xs : List Int) : (invRes xs).length ≤ xs.length := by unfold invRes; split <;> simp



end Go.Proofs.YtnbhghgkjcfcmaaDoor

namespace Go.Proofs.YtnbhghgkjcfcmaaDoor
set_option linter.unusedVariables false
set_option linter.unusedSimpArgs false
open Go Go.RowKit Go.ChangeShapes Go.WideShapes Go.ChangeAt

section
variable {H : Type} {enc : TypeId × Value → H} {w : World} {base : Nat} {spare : Nat → Bool} {held : Bool}
theorem cells_u8 : Tryd.prog.cellsOf 5 = 1 := by kernel_rfl
theorem bytes_of_trod {fuel : Nat} {u : Value} {x : DataW H × List MemPlace} (h : DataW.trod enc Tryd.prog w base spare held fuel 22 [u] = some x) : ∃ bs, Bytes w u bs := by
  rcases open_ints Tryd.underlying22 Tryd.underlying5 cells_u8 h with ⟨hcs, _⟩ | ⟨a, len, cap, zs, hcs, _, hl, hm, hz, _, hcell, hwf⟩
  · simp at hcs; subst hcs
    exact ⟨[], none, 0, rfl, Nat.le_refl _, by decide, fun i hi => absurd hi (by simp)⟩
  · simp at hcs; subst hcs
    have hge : len ≤ zs.length := by rw [hz]; split <;> omega
    have hlen : (zs.take len).length = len := by simp; omega
    refine ⟨zs.take len, some a, cap, by rw [hlen], by rw [hlen]; exact hl, hm, fun i hi => ?_⟩
    have hi' : i < zs.length := by omega
    obtain ⟨b, off, rfl, hc⟩ := ints_at hcell (by omega)
    have hr := hwf (zs.getD i 0) (by simp [List.getD, hi'])
    have hci := hc i hi'
    generalize zs.getD i 0 = z at hr hci
    simp [Lit.wf, IntKind.min, IntKind.max, IntKind.signed, IntKind.bits] at hr
    exact ⟨b, off, z, rfl, hci, by omega, by omega⟩
end

structure TwF (w W : World) (v1 v2 : Value) (p q : List Int) (sb : Nat) (r1 r2 : Value) (A B : List (List Int)) : Prop where
  hp : Ints W v1 p
  hq : Ints W v2 q
  hs : Blk W sb 38 [r1, r2]
  hsol : Sol W r1 r2 A B
  hb : Below w.heap.size w W
theorem TwF.under {w W W' : World} {v1 v2 : Value} {p q : List Int} {sb : Nat} {r1 r2 : Value} {A B : List (List Int)} (h : TwF w W v1 v2 p q sb r1 r2 A B) (k : Below W.heap.size W W') : TwF w W' v1 v2 p q sb r1 r2 A B :=
  ⟨h.hp.below k, h.hq.below k, h.hs.under k, h.hsol.below k, h.hb.trans (k.mono h.hb.size)⟩
theorem TwF.new {w W : World} {v1 v2 : Value} {p q : List Int} {sb : Nat} {r1 r2 : Value} {A B : List (List Int)} (h : TwF w W v1 v2 p q sb r1 r2 A B) (o : Obj) : TwF w (W.alloc o) v1 v2 p q sb r1 r2 A B := h.under ((Below.refl _ _).alloc (Nat.le_refl _) o)

theorem tw_cases (p q : List Int) : twCode p q = 2 ∨ (twCode p q = 5 ∧ thenRes p q ≠ thenRes q p) ∨
    (twCode p q = 0 ∧ isPerm p = true ∧ isPerm q = true ∧ q.length = p.length ∧ thenL p q = thenL q p ∧ twRA p q = twA p ∧ twRB p q = twB p q) := by
  by_cases h1 : isPerm p = true
  · by_cases h2 : isPerm q = true
    · by_cases h3 : p.length = q.length
      · by_cases h4 : thenL p q = thenL q p
        · exact .inr (.inr ⟨by simp [twCode, twOk, twCm, h1, h2, h3, h4], h1, h2, h3.symm, h4, by simp [twRA, twOk, twCm, h1, h2, h3, h4], by simp [twRB, twOk, twCm, h1, h2, h3, h4]⟩)
        · refine .inr (.inl ⟨by simp [twCode, twOk, twCm, h1, h2, h3, h4], ?_⟩)
          simp [thenRes, okThen, h1, h2, h3, h4]
      · exact .inl (by simp [twCode, twOk, h3])
    · exact .inl (by simp [twCode, twOk, h2])
  · exact .inl (by simp [twCode, twOk, h1])

theorem inv_perm {p : List Int} (h : isPerm p = true) : isPerm (invL p) = true := by
  obtain ⟨⟨h1, h2⟩, hp⟩ := isPerm_in' h
  have : Permuted (invL p) := by
    rw [permuted_iff]
    intro x x0 x1
    rw [invL_length] at x1
    have := perm_lt hp x0 x1
    rw [← nth_invL hp x0 x1]
    exact nth_mem this.1 (by rw [invL_length]; exact this.2)
  simp [isPerm, inR, this]; omega
theorem iota_perm {n : Nat} (h1 : 1 ≤ n) (h2 : n ≤ 12) : isPerm (iota n) = true := by
  have : Permuted (iota n) := ⟨iota_nodup n, fun x hx => by simpa using (mem_iota n x).1 hx⟩
  simp [isPerm, inR, this]; omega
theorem then_unit {p : List Int} (h : isPerm p = true) : thenRes p (invL p) = iota p.length := by
  have h2 := inv_perm h
  simp only [thenRes, okThen, h, h2, invL_length]
  simpa using then_back (isPerm_in' h).2
theorem flip_unit {n : Nat} (h1 : 1 ≤ n) (h2 : n ≤ 12) : flA n = twA (iota n) ∧ flB n = twB (iota n) (iota n) ∧ flCode n = 0 := by
  have h : inR n 1 12 = true := by simp [inR]; omega
  exact ⟨by simp [flA, flN, h], by simp [flB, flN, h], by simp [flCode, h]⟩
theorem twist_unit {n : Nat} (h1 : 1 ≤ n) (h2 : n ≤ 12) : twRA (iota n) (iota n) = twA (iota n) ∧ twRB (iota n) (iota n) = twB (iota n) (iota n) ∧ twCode (iota n) (iota n) = 0 := by
  have h := iota_perm h1 h2
  exact ⟨by simp [twRA, twOk, twCm, h], by simp [twRB, twOk, twCm, h], by simp [twCode, twOk, twCm, h]⟩
end Go.Proofs.YtnbhghgkjcfcmaaDoor

namespace Go.Proofs.YtnbhghgkjcfcmaaDoor
set_option linter.unusedVariables false
set_option linter.unusedSimpArgs false
open Go Go.RowKit

def LS (w W : World) (L : List (Value × List Int)) (M : List (Value × List (List Int))) (Bx : List (Nat × Value × Value)) : Prop :=
  (∀ e ∈ L, Ints W e.1 e.2) ∧ (∀ e ∈ M, Rows W e.1 e.2) ∧ (∀ e ∈ Bx, Blk W e.1 38 [e.2.1, e.2.2]) ∧ Below w.heap.size w W
namespace LS
variable {w W W' : World} {L : List (Value × List Int)} {M : List (Value × List (List Int))} {Bx : List (Nat × Value × Value)}
theorem under (h : LS w W L M Bx) (k : Below W.heap.size W W') : LS w W' L M Bx :=
  ⟨fun e he => (h.1 e he).below k, fun e he => (h.2.1 e he).below k, fun e he => (h.2.2.1 e he).under k, h.2.2.2.trans (k.mono h.2.2.2.size)⟩
theorem addI (h : LS w W L M Bx) {v : Value} {xs : List Int} (hi : Ints W v xs) : LS w W ((v, xs) :: L) M Bx :=
  ⟨fun e he => by rcases List.mem_cons.1 he with rfl | he; exact hi; exact h.1 e he, h.2⟩
theorem addR (h : LS w W L M Bx) {v : Value} {X : List (List Int)} (hi : Rows W v X) : LS w W L ((v, X) :: M) Bx :=
  ⟨h.1, fun e he => by rcases List.mem_cons.1 he with rfl | he; exact hi; exact h.2.1 e he, h.2.2⟩
theorem addS (h : LS w W L M Bx) {v1 v2 : Value} {A B : List (List Int)} (hs : Sol W v1 v2 A B) : LS w W L ((v1, A) :: (v2, B) :: M) Bx := (h.addR hs.2).addR hs.1
theorem box (h : LS w W L M Bx) (a b : Value) : LS w (W.alloc (.cells #[a, b] 38)) L M ((W.heap.size, a, b) :: Bx) := by
  have h2 := h.under ((Below.refl W.heap.size W).alloc (Nat.le_refl _) (.cells #[a, b] 38))
  exact ⟨h2.1, h2.2.1, fun e he => by rcases List.mem_cons.1 he with rfl | he; exact Blk.new W [a, b] 38; exact h2.2.2.1 e he, h2.2.2.2⟩
theorem getI (h : LS w W L M Bx) {v : Value} {xs : List Int} (he : (v, xs) ∈ L) : Ints W v xs := h.1 _ he
theorem getR (h : LS w W L M Bx) {v : Value} {X : List (List Int)} (he : (v, X) ∈ M) : Rows W v X := h.2.1 _ he
theorem getB (h : LS w W L M Bx) {q : Nat} {a b : Value} (he : (q, a, b) ∈ Bx) : Blk W q 38 [a, b] := h.2.2.1 _ he
end LS
end Go.Proofs.YtnbhghgkjcfcmaaDoor

namespace Go.Proofs.YtnbhghgkjcfcmaaDoor
set_option linter.unusedVariables false
set_option linter.unusedSimpArgs false
open Go

/-- The parts of a list of bytes between the bytes c. -/
def parts (c : UInt8) (l : List UInt8) : List (List UInt8) := Lib.split l [c]
theorem index_app {c : UInt8} : ∀ {a : List UInt8} (r : List UInt8), c ∉ a → Lib.index (a ++ c :: r) [c] = a.length
  | [], r, _ => by rw [Lib.index_one]; simp [Lib.indexByte]
  | b :: a, r, h => by
    have hb : (b == c) = false := by
      simp only [beq_eq_false_iff_ne]
      intro e; exact h (by simp [e])
    have ih := index_app (a := a) r (fun h' => h (List.mem_cons_of_mem _ h'))
    rw [Lib.index_one] at ih ⊢
    simp only [List.cons_append, Lib.indexByte, hb, Bool.false_eq_true, if_false, ih]
    rw [if_neg (by simp)]
    simp
theorem index_not {c : UInt8} : ∀ {l : List UInt8}, c ∉ l → Lib.index l [c] = -1
  | [], _ => by rw [Lib.index_one]; rfl
  | b :: l, h => by
    have hb : (b == c) = false := by
      simp only [beq_eq_false_iff_ne]
      intro e; exact h (by simp [e])
    have ih := index_not (l := l) (fun h' => h (List.mem_cons_of_mem _ h'))
    rw [Lib.index_one] at ih ⊢
    simp only [Lib.indexByte, hb, Bool.false_eq_true, if_false, ih]
    rfl
theorem parts_none {c : UInt8} {l : List UInt8} (h : c ∉ l) : parts c l = [l] := by
  unfold parts Lib.split
  rw [Lib.count_miss (index_not h)]
  rfl
theorem parts_hit {c : UInt8} {a : List UInt8} (r : List UInt8) (h : c ∉ a) : parts c (a ++ c :: r) = a :: parts c r := by
  have hi := index_app r h
  unfold parts Lib.split
  rw [Lib.count_hit (by simp) hi]
  have hd : (a ++ c :: r).drop (a.length + 1) = r := by simp
  simp only [List.length_singleton, hd]
  rw [Nat.add_comm, Lib.splitK, hi, if_neg (by simp)]
  simp [hd]
end Go.Proofs.YtnbhghgkjcfcmaaDoor

namespace Go.Proofs.YtnbhghgkjcfcmaaDoor
set_option linter.unusedVariables false
set_option linter.unusedSimpArgs false
open Go.RowKit

/-- The element of a digit, or -1. -/
def dv (c : Int) : Int := if 48 ≤ c ∧ c ≤ 57 then c - 48 else if 97 ≤ c ∧ c ≤ 98 then c - 87 else -1
def bsI (s : ByteArray) : List Int := s.data.toList.map fun c => (c.toNat : Int)
theorem bsI_length (s : ByteArray) : (bsI s).length = s.size := by simp [bsI]
theorem nth_bsI (s : ByteArray) (k : Nat) (h : k < s.size) : nth (bsI s) k = (s[k].toNat : Int) := by
  rw [nth_nat _ _ (by rw [bsI_length]; exact h)]
  simp [bsI]; rfl
def okD (l : List Int) : Bool := l.all fun c => decide (0 ≤ dv c)
def readD (l : List Int) : List Int := if okD l then l.map dv else []
theorem dv_ge (c : Int) : -1 ≤ dv c ∧ dv c ≤ 11 := by unfold dv; split <;> (try split) <;> omega
theorem dv_at (c : Int) : (dv c = c - 48 ∧ 48 ≤ c ∧ c ≤ 57) ∨ (dv c = c - 87 ∧ 97 ≤ c ∧ c ≤ 98) ∨ (dv c = -1 ∧ ¬ (48 ≤ c ∧ c ≤ 57) ∧ ¬ (97 ≤ c ∧ c ≤ 98)) := by
  unfold dv; split <;> (try split) <;> simp_all
theorem okD_no {l : List Int} {k : Nat} (hk : k < l.length) (h : dv (nth l k) < 0) : okD l = false := by
  unfold okD
  refine List.all_eq_false.2 ⟨_, nth_mem (p := l) (x := k) (by omega) (by omega), ?_⟩
  simp; omega
theorem okD_yes {l : List Int} (h : ∀ k : Nat, k < l.length → 0 ≤ dv (nth l k)) : okD l = true := by
  unfold okD
  refine List.all_eq_true.2 fun x hx => ?_
  obtain ⟨k, hk, rfl⟩ := List.getElem_of_mem hx
  have := h k hk
  rw [nth_nat _ _ hk] at this
  simpa using this

theorem lt_snoc' {k : Nat} {P : Nat → Prop} (h : ∀ x, x < k → P x) (hk : P k) : ∀ x, x < k + 1 → P x := by
  intro x hx
  by_cases e : x = k
  · rw [e]; exact hk
  · exact h x (by omega)

/-- The result: a list and whether there is one. -/
def RRead (w0 : World) (xs : List Int) (ok : Bool) (e : Ending) (w' : World) : Prop := ∃ r, e = .returned (.tuple #[r, .bool ok]) ∧ Own w0.heap.size w' r xs ∧ Below w0.heap.size w0 w'

theorem dig_all : ∀ c : Fin 256, Lib.indexByte [48, 49, 50, 51, 52, 53, 54, 55, 56, 57, 97, 98] (UInt8.ofNat c.val) = dv (c.val : Int) := by decide +kernel
theorem dig_at (c : UInt8) : Lib.indexByte [48, 49, 50, 51, 52, 53, 54, 55, 56, 57, 97, 98] c = dv (c.toNat : Int) := by
  have := dig_all ⟨c.toNat, c.toNat_lt⟩
  simpa using this

set_option maxRecDepth 100000 in
set_option maxHeartbeats 400000 in
theorem c_slIndexByte (s : ByteArray) (c : Int) (w : World) :
    Calls Tryd.prog 73 #[.string s, .int .u8 c] w fun e w' => e = .returned (.int .i64 (Lib.indexByte s.data.toList c.toNat.toUInt8)) ∧ w = w' := by
  go_enter Tryd.func73, Tryd.ntmps73
  go_wp2
  rw [run_callFunc_extern Tryd.func89 (by kernel_rfl) (by kernel_rfl) (by kernel_rfl) (e := Extern.BytealgIndexByte.indexByte) (by kernel_rfl), Lib.run_indexByteString]
  simp only [Result.andThen]
  rw [Oper.upon_value]
  go_wp2
  go_ret
  exact ⟨rfl, rfl⟩

set_option maxHeartbeats 400000 in
theorem c_digitAt (c : UInt8) (w : World) :
    Calls Tryd.prog 62 #[.string ⟨#[48, 49, 50, 51, 52, 53, 54, 55, 56, 57, 97, 98]⟩, .int .u8 (c.toNat : Int)] w fun e w' => e = .returned (.int .i64 (dv (c.toNat : Int))) ∧ w = w' := by
  go_enter Tryd.func62, Tryd.ntmps62
  go_wp2_with fail
  refine (c_slIndexByte _ _ _).mono ?_; rintro e w' ⟨rfl, rfl⟩
  go_wp2
  go_ret
  exact ⟨ret_int (dig_at c), rfl⟩

set_option maxHeartbeats 800000 in
theorem c_readDigits (s : ByteArray) (w : World) (hn : s.size ≤ 1099511627776) :
    Calls Tryd.prog 39 #[.string s] w (RRead w (readD (bsI s)) (okD (bsI s))) := by
  have hmk := run_make_row' (P := Tryd.prog) 32 2 (.int .i64 0) 8 Tryd.underlying32 inf_int64 rfl .i64 .i64 s.size (by omega) (by omega)
  go_enter Tryd.func39, Tryd.ntmps39
  go_wp2
  have hB0 : Below w.heap.size w (w.alloc (.cells (madeCells #[.int .i64 0] s.size) 2)) := (Below.refl _ _).alloc (Nat.le_refl _) _
  have hK0 : Blk (w.alloc (.cells (madeCells #[.int .i64 0] s.size) 2)) w.heap.size 2 (((((bsI s).map dv).take 0).map (Value.int .i64)) ++ (List.replicate s.size (Value.int .i64 0)).drop 0) := by
    simpa using Blk.made w (.int .i64 0) s.size 2
  clear hmk
  go_loopw [12, 5, 6] (fun i _ _ wr => ∃ k : Nat, k ≤ s.size ∧ i = .int .i64 k ∧ Below w.heap.size w wr ∧ Blk wr w.heap.size 2 (((((bsI s).map dv).take k).map (Value.int .i64)) ++ (List.replicate s.size (Value.int .i64 0)).drop k) ∧ Hid (∀ j : Nat, j < k → 0 ≤ dv (nth (bsI s) j))) (fun i _ _ _ => s.size - (intOf i).toNat)
  case atStart => exact ⟨0, Nat.zero_le _, rfl, hB0, hK0, Lib.hid (by intro j hj; omega)⟩
  case round =>
    clear hB0 hK0
    obtain ⟨k, hk, rfl, hb, hblk, HA⟩ := hrel
    by_cases hlt : k < s.size
    · have hnb := nth_bsI s k hlt
      have hge := dv_ge (s[k].toNat : Int)
      have Hb := Lib.hid hb; have Hblk := Lib.hid hblk; have HN := Lib.hid hnb
      obtain ⟨u, h2⟩ := fill_cell hblk (k := k) (by simp [bsI_length]; omega)
      have h3 := hblk.frozen k
      clear hb hblk hnb
      by_cases hd : dv (s[k].toNat : Int) < 0
      · go_wp2_with fail
        refine (c_digitAt _ _).mono ?_; rintro e w' ⟨rfl, rfl⟩
        go_wp2
        go_ret2
        have ho := okD_no (l := bsI s) (k := k) (by rw [bsI_length]; exact hlt) (by rw [HN.out]; exact hd)
        exact ⟨.slice none 0 0, by simp [ho], by simpa [readD, ho] using Own.nil _ _, Hb.out⟩
      · go_wp2_with fail
        refine (c_digitAt _ _).mono ?_; rintro e w' ⟨rfl, rfl⟩
        go_wp2
        go_roundw
        case rel =>
          refine ⟨k + 1, by omega, by go_num, Hb.out.setCell (p := ⟨w.heap.size, k, none⟩) (Nat.le_refl _) _, ?_, Lib.hid (lt_snoc' HA.out (by rw [HN.out]; omega))⟩
          have := Hblk.out.set k (.int .i64 (dv (s[k].toNat : Int)))
          rwa [fill_set _ _ (by simpa [bsI_length] using hlt) _ (by simp [bsI_length]) _ (by rw [nth_map _ _ _ (by omega) (by rw [bsI_length]; omega), HN.out])] at this
        case measure => simp [intOf]; omega
    · have Hb := Lib.hid hb; have Hblk := Lib.hid hblk; clear hb hblk
      obtain rfl : k = s.size := by omega
      go_wp2
      go_ret2
      have ho := okD_yes (l := bsI s) (fun j hj => HA.out j (by rwa [bsI_length] at hj))
      refine ⟨.slice (some ⟨w.heap.size, 0, none⟩) s.size s.size, by simp [ho], Own.of_blk (by have h := Hblk.out; rw [fill_done _ _ (by simp [bsI_length])] at h; simpa [readD, ho] using h) (Nat.le_refl _) (by simp [readD, ho, bsI_length, maxLen]; omega) (by simp [readD, ho, bsI_length]) (by simp [readD, ho, bsI_length]), Hb.out⟩

set_option maxHeartbeats 800000 in
theorem c_l01Read (s : ByteArray) (w : World) (hn : s.size ≤ 1099511627776) :
    Calls Tryd.prog 41 #[.string s] w (RRead w (readD (bsI s)) (okD (bsI s))) := by
  go_enter Tryd.func41, Tryd.ntmps41
  go_wp2
  go_loopw [4, 5, 6] (fun v i _ wr => ∃ (k : Nat) (sa : Option Addr) (sc : Nat), k ≤ s.size ∧ i = .int .i64 k ∧ v = .slice sa k sc ∧ Below w.heap.size w wr ∧ Own w.heap.size wr (.slice sa k sc) (((bsI s).map dv).take k) ∧ Hid (∀ j : Nat, j < k → 0 ≤ dv (nth (bsI s) j))) (fun _ i _ _ => s.size - (intOf i).toNat)
  case atStart => exact ⟨0, _, _, Nat.zero_le _, rfl, rfl, (Below.refl _ _).alloc (Nat.le_refl _) _, Own.made0 w (Nat.le_refl _), Lib.hid (by intro j hj; omega)⟩
  case round =>
    obtain ⟨k, sa, sc, hk, rfl, rfl, hb, hown, HA⟩ := hrel
    have hlen : (((bsI s).map dv).take k).length = k := by simp [bsI_length]; omega
    by_cases hlt : k < s.size
    · have hnb := nth_bsI s k hlt
      have htk : ((bsI s).map dv).take (k+1) = ((bsI s).map dv).take k ++ [dv (s[k].toNat : Int)] := by
        rw [take_snoc _ _ (by simp [bsI_length]; exact hlt), nth_map _ _ _ (by omega) (by rw [bsI_length]; omega), hnb]
      have hcase := dv_at (s[k].toNat : Int)
      have h0 : (0 : Int) ≤ (s[k].toNat : Int) := by omega
      have h255 : (s[k].toNat : Int) < 256 := by have := s[k].toNat_lt; omega
      have Hb := Lib.hid hb; have Ho := Lib.hid hown; have Hl := Lib.hid hlen; have Hs := Lib.hid hb.size; have HN := Lib.hid hnb; have HT := Lib.hid htk; clear hb hown hlen hnb htk
      rcases hcase with ⟨hv, c1, c2⟩ | ⟨hv, c1, c2⟩ | ⟨hv, c1, c2⟩
      · have i1 : inR (s[k].toNat : Int) 48 57 = true := by simp [inR]; omega
        have HV := Lib.hid hv.symm; clear hv
        go_wp2_with fail
        refine (c_l01In _ _ _ _).mono ?_; rintro e w' ⟨rfl, rfl⟩
        go_wp2_with (at_builtin; refine wpList_app_int w.heap.size wr _ (((bsI s).map dv).take k) ((s[k].toNat : Int) - 48) _ _ rfl rfl rfl Ho.out rfl (by rw [Hl.out]; omega) Hs.out ?_; intro a' c' w' hown' hkeep; rw [Hl.out]; have Hk := Lib.hid hkeep; have Ho' := Lib.hid hown'; clear hkeep hown')
        go_roundw
        case rel =>
          have h1 := Ho'.out
          rw [Hl.out, HV.out, ← HT.out] at h1
          exact ⟨k + 1, a', c', by omega, by go_num, rfl, Ho.out.frame Hb.out (Nat.le_refl _) Hs.out Hk.out, h1, Lib.hid (lt_snoc' HA.out (by rw [HN.out, ← HV.out]; omega))⟩
        case measure => simp [intOf]; omega
      · have i1 : inR (s[k].toNat : Int) 48 57 = false := by simp [inR]; omega
        have i2 : inR (s[k].toNat : Int) 97 98 = true := by simp [inR]; omega
        have HV : Hid ((s[k].toNat : Int) - 97 + 10 = dv (s[k].toNat : Int)) := by show _ = _; omega
        clear hv
        go_wp2_with fail
        refine (c_l01In _ _ _ _).mono ?_; rintro e w' ⟨rfl, rfl⟩
        go_wp2_with fail
        refine (c_l01In _ _ _ _).mono ?_; rintro e w' ⟨rfl, rfl⟩
        go_wp2_with (at_builtin; refine wpList_app_int w.heap.size wr _ (((bsI s).map dv).take k) ((s[k].toNat : Int) - 97 + 10) _ _ rfl rfl rfl Ho.out rfl (by rw [Hl.out]; omega) Hs.out ?_; intro a' c' w' hown' hkeep; rw [Hl.out]; have Hk := Lib.hid hkeep; have Ho' := Lib.hid hown'; clear hkeep hown')
        go_roundw
        case rel =>
          have h1 := Ho'.out
          rw [Hl.out, HV.out, ← HT.out] at h1
          exact ⟨k + 1, a', c', by omega, by go_num, rfl, Ho.out.frame Hb.out (Nat.le_refl _) Hs.out Hk.out, h1, Lib.hid (lt_snoc' HA.out (by rw [HN.out, ← HV.out]; omega))⟩
        case measure => simp [intOf]; omega
      · have i1 : inR (s[k].toNat : Int) 48 57 = false := by simp [inR]; omega
        have i2 : inR (s[k].toNat : Int) 97 98 = false := by simp [inR]; omega
        have ho := okD_no (l := bsI s) (k := k) (by rw [bsI_length]; exact hlt) (by rw [HN.out]; omega)
        have HO := Lib.hid ho
        clear hv c1 c2 ho
        go_wp2_with fail
        refine (c_l01In _ _ _ _).mono ?_; rintro e w' ⟨rfl, rfl⟩
        go_wp2_with fail
        refine (c_l01In _ _ _ _).mono ?_; rintro e w' ⟨rfl, rfl⟩
        go_wp2
        go_ret2
        exact ⟨.slice none 0 0, by simp [HO.out], by simpa [readD, HO.out] using Own.nil _ _, Hb.out⟩
    · have Hb := Lib.hid hb; have Ho := Lib.hid hown; clear hb hown hlen
      obtain rfl : k = s.size := by omega
      go_wp2
      go_ret2
      have ho := okD_yes (l := bsI s) (fun j hj => HA.out j (by rwa [bsI_length] at hj))
      exact ⟨.slice sa s.size sc, by simp [ho], by have h := Ho.out; rw [List.take_of_length_le (by simp [bsI_length])] at h; simpa [readD, ho] using h, Hb.out⟩

def ppOk (s : ByteArray) : Bool := okD (bsI s) && isPerm (readD (bsI s))
def ppRes (s : ByteArray) : List Int := if ppOk s then readD (bsI s) else []
def ppCode (s : ByteArray) : Int := if ppOk s then 0 else 6
theorem ppRes_length (s : ByteArray) : (ppRes s).length ≤ 12 := by
  unfold ppRes
  split
  · rename_i h
    simp [ppOk, isPerm, inR] at h; omega
  · simp

set_option maxHeartbeats 400000 in
theorem c_specParsePermutation (s : ByteArray) (w : World) (hn : s.size ≤ 1099511627776) :
    Calls Tryd.prog 15 #[.string s] w (RIntsC w (ppRes s) (ppCode s)) := by
  go_enter Tryd.func15, Tryd.ntmps15
  go_wp2_with fail
  refine (c_l01Read _ _ hn).mono ?_; rintro e w1 ⟨r, rfl, ho, hb⟩
  obtain ⟨ra, rc, rfl, _⟩ := ho.shape
  have HO := Lib.hid ho; have HB := Lib.hid hb; have hi := ho.ints
  clear ho hb
  by_cases h1 : okD (bsI s) = true
  · have H1 := Lib.hid h1
    by_cases h2 : isPerm (readD (bsI s)) = true
    · have H2 := Lib.hid h2
      go_wp2_with fail
      refine (c_l01Perm _ _ _ hi).mono ?_; rintro e w' ⟨rfl, rfl⟩
      go_wp2
      go_ret2
      have hok : ppOk s = true := by simp [ppOk, H1.out, H2.out]
      exact ⟨_, by simp [ppCode, hok]; rfl, by simpa [ppRes, hok] using HO.out, HB.out⟩
    · have h2' : isPerm (readD (bsI s)) = false := by simpa using h2
      have H2 := Lib.hid h2'; clear h2
      go_wp2_with fail
      refine (c_l01Perm _ _ _ hi).mono ?_; rintro e w' ⟨rfl, rfl⟩
      go_wp2
      go_ret2
      have hok : ppOk s = false := by simp [ppOk, H2.out]
      exact ⟨.slice none 0 0, by simp [ppCode, hok], by simpa [ppRes, hok] using Own.nil _ _, HB.out⟩
  · have h1' : okD (bsI s) = false := by simpa using h1
    have H1 := Lib.hid h1'; clear h1
    go_wp2
    go_ret2
    have hok : ppOk s = false := by simp [ppOk, H1.out]
    exact ⟨.slice none 0 0, by simp [ppCode, hok], by simpa [ppRes, hok] using Own.nil _ _, HB.out⟩

set_option maxHeartbeats 400000 in
theorem c_ParsePermutation (s : ByteArray) (w : World) (hn : s.size ≤ 1099511627776) :
    Calls Tryd.prog 14 #[.string s] w (RIntsC w (ppRes s) (ppCode s)) := by
  go_enter Tryd.func14, Tryd.ntmps14
  go_wp2_with fail
  refine (c_readDigits _ _ hn).mono ?_; rintro e w1 ⟨r, rfl, ho, hb⟩
  obtain ⟨ra, rc, rfl, _⟩ := ho.shape
  have HO := Lib.hid ho; have HB := Lib.hid hb; have hi := ho.ints
  clear ho hb
  by_cases h1 : okD (bsI s) = true
  · have H1 := Lib.hid h1
    by_cases h2 : isPerm (readD (bsI s)) = true
    · have H2 := Lib.hid h2
      go_wp2_with fail
      refine (c_IsPermutation _ _ _ hi).mono ?_; rintro e w2 ⟨rfl, hb2⟩
      have HB2 := Lib.hid hb2; clear hb2
      go_wp2
      go_ret2
      have hok : ppOk s = true := by simp [ppOk, H1.out, H2.out]
      exact ⟨_, by simp [ppCode, hok]; rfl, by simpa [ppRes, hok] using HO.out.under HB2.out, bb HB.out HB2.out⟩
    · have h2' : isPerm (readD (bsI s)) = false := by simpa using h2
      have H2 := Lib.hid h2'; clear h2
      go_wp2_with fail
      refine (c_IsPermutation _ _ _ hi).mono ?_; rintro e w2 ⟨rfl, hb2⟩
      have HB2 := Lib.hid hb2; clear hb2
      go_wp2
      go_ret2
      have hok : ppOk s = false := by simp [ppOk, H2.out]
      exact ⟨.slice none 0 0, by simp [ppCode, hok], by simpa [ppRes, hok] using Own.nil _ _, bb HB.out HB2.out⟩
  · have h1' : okD (bsI s) = false := by simpa using h1
    have H1 := Lib.hid h1'; clear h1
    go_wp2
    go_ret2
    have hok : ppOk s = false := by simp [ppOk, H1.out]
    exact ⟨.slice none 0 0, by simp [ppCode, hok], by simpa [ppRes, hok] using Own.nil _ _, HB.out⟩

end Go.Proofs.YtnbhghgkjcfcmaaDoor

namespace Go.Proofs.YtnbhghgkjcfcmaaDoor
set_option linter.unusedVariables false
set_option linter.unusedSimpArgs false
open Go

theorem parts_ne (c : UInt8) (l : List UInt8) : parts c l ≠ [] := by
  by_cases h : c ∈ l
  · obtain ⟨a, r, rfl, ha⟩ := List.eq_append_cons_of_mem h
    rw [parts_hit r ha]; simp
  · rw [parts_none h]; simp
theorem join_cons (a : List UInt8) (p : List UInt8) (ps : List (List UInt8)) (sep : List UInt8) : Lib.join (a :: p :: ps) sep = a ++ (sep ++ Lib.join (p :: ps) sep) := by
  rw [Lib.join_cons, Lib.join_cons]
  simp [Lib.joinTail]
theorem join_parts (c : UInt8) : ∀ (k : Nat) (l : List UInt8), l.length ≤ k → Lib.join (parts c l) [c] = l
  | k, l, hk => by
    by_cases h : c ∈ l
    · obtain ⟨a, r, rfl, ha⟩ := List.eq_append_cons_of_mem h
      rw [parts_hit r ha]
      match k, hk with
      | 0, hk => simp at hk
      | k + 1, hk =>
        have ih := join_parts c k r (by simp at hk; omega)
        match e : parts c r with
        | [] => exact absurd e (parts_ne c r)
        | p :: ps =>
          rw [e] at ih
          rw [join_cons, ih]
          simp
    · rw [parts_none h, Lib.join_one]
theorem parts_join (c : UInt8) : ∀ (ps : List (List UInt8)), ps ≠ [] → (∀ p ∈ ps, c ∉ p) → parts c (Lib.join ps [c]) = ps
  | [], h, _ => absurd rfl h
  | [p], _, h => by
    rw [Lib.join_one]
    exact parts_none (h p (by simp))
  | p :: q :: ps, _, h => by
    rw [join_cons]
    have ih := parts_join c (q :: ps) (by simp) (fun x hx => h x (List.mem_cons_of_mem _ hx))
    simp only [List.singleton_append]
    rw [parts_hit _ (h p (by simp)), ih]
theorem parts_mem {c : UInt8} : ∀ (k : Nat) (l : List UInt8), l.length ≤ k → ∀ p ∈ parts c l, ∀ b ∈ p, b ∈ l ∧ b ≠ c
  | k, l, hk, p, hp, b, hb => by
    by_cases h : c ∈ l
    · obtain ⟨a, r, rfl, ha⟩ := List.eq_append_cons_of_mem h
      rw [parts_hit r ha] at hp
      match k, hk with
      | 0, hk => simp at hk
      | k + 1, hk =>
        rcases List.mem_cons.1 hp with rfl | hp
        · exact ⟨by simp [hb], fun e => ha (by rw [← e]; exact hb)⟩
        · have := parts_mem k r (by simp at hk; omega) p hp b hb
          exact ⟨by simp [this.1], this.2⟩
    · rw [parts_none h] at hp
      simp at hp; subst hp
      exact ⟨hb, fun e => h (by rw [← e]; exact hb)⟩
theorem parts_cover {c : UInt8} : ∀ (k : Nat) (l : List UInt8), l.length ≤ k → ∀ b ∈ l, b ≠ c → ∃ p ∈ parts c l, b ∈ p
  | k, l, hk, b, hb, hbc => by
    by_cases h : c ∈ l
    · obtain ⟨a, r, rfl, ha⟩ := List.eq_append_cons_of_mem h
      rw [parts_hit r ha]
      match k, hk with
      | 0, hk => simp at hk
      | k + 1, hk =>
        rcases List.mem_append.1 hb with hb | hb
        · exact ⟨a, by simp, hb⟩
        · rcases List.mem_cons.1 hb with rfl | hb
          · exact absurd rfl hbc
          · obtain ⟨p, hp, hbp⟩ := parts_cover k r (by simp at hk; omega) b hb hbc
            exact ⟨p, by simp [hp], hbp⟩
    · rw [parts_none h]; exact ⟨l, by simp, hb⟩
theorem parts_len (c : UInt8) : ∀ (k : Nat) (l : List UInt8), l.length ≤ k → (((parts c l).map List.length).sum + (parts c l).length = l.length + 1)
  | k, l, hk => by
    by_cases h : c ∈ l
    · obtain ⟨a, r, rfl, ha⟩ := List.eq_append_cons_of_mem h
      rw [parts_hit r ha]
      match k, hk with
      | 0, hk => simp at hk
      | k + 1, hk =>
        have ih := parts_len c k r (by simp at hk; omega)
        simp only [List.map_cons, List.sum_cons, List.length_cons, List.length_append]
        omega
    · rw [parts_none h]; simp

/-- The numbers of a list of bytes. -/
def bI (p : List UInt8) : List Int := p.map fun c => (c.toNat : Int)
theorem bsI_eq (s : ByteArray) : bsI s = bI s.data.toList := rfl
def okP (p : List UInt8) : Bool := okD (bI p)
def rdP (p : List UInt8) : List Int := readD (bI p)
theorem rdP_len {p : List UInt8} (h : okP p = true) : (rdP p).length = p.length := by
  unfold okP at h
  unfold rdP readD
  rw [if_pos h]
  simp [bI]
/-- A table can be read. -/
def tOk (l : List UInt8) : Bool := (parts 47 l).all okP && isTab ((parts 47 l).map rdP)
def tRes (l : List UInt8) : List (List Int) := if tOk l then (parts 47 l).map rdP else []
theorem tRes_ok {l : List UInt8} (h : tOk l = true) : tRes l = (parts 47 l).map rdP := by simp [tRes, h]
theorem sum_same (n : Nat) : ∀ (ps : List (List UInt8)), (∀ p ∈ ps, p.length = n) → (ps.map List.length).sum = ps.length * n
  | [], _ => by simp
  | p :: ps, h => by
    simp only [List.map_cons, List.sum_cons, List.length_cons]
    rw [sum_same n ps (fun x hx => h x (List.mem_cons_of_mem _ hx)), h p (by simp), Nat.add_mul]
    omega
/-- A text of which a table can be read is short. -/
theorem tOk_short {l : List UInt8} (h : tOk l = true) : l.length ≤ 155 := by
  unfold tOk at h
  simp only [Bool.and_eq_true, List.all_eq_true] at h
  obtain ⟨h1, h2⟩ := h
  have hl := isTab_len h2
  rw [List.length_map] at hl
  have hr : ∀ p ∈ parts 47 l, p.length = (parts 47 l).length := by
    intro p hp
    obtain ⟨i, hi, rfl⟩ := List.getElem_of_mem hp
    have := isTab_row h2 (x := (i : Int)) (by omega) (by simp; omega)
    rw [row_nat _ _ (by simpa using hi), List.getElem_map, rdP_len (h1 _ hp)] at this
    simpa using this
  have h3 := sum_same _ _ hr
  have h4 := parts_len 47 l.length l (Nat.le_refl _)
  have h5 : (parts 47 l).length * (parts 47 l).length ≤ 12 * 12 := Nat.mul_le_mul hl.2 hl.2
  omega
theorem tOk_no {l : List UInt8} {p : List UInt8} (hp : p ∈ parts 47 l) (h : okP p = false) : tOk l = false := by
  unfold tOk
  rw [Bool.and_eq_false_iff]
  left
  rw [List.all_eq_false]
  exact ⟨p, hp, by simp [h]⟩

/-! Pairs of tables. -/
def sOk (l : List UInt8) : Bool := decide ((parts 124 l).length = 2) && (tOk ((parts 124 l).getD 0 []) && tOk ((parts 124 l).getD 1 []) && isPM (tRes ((parts 124 l).getD 0 [])) (tRes ((parts 124 l).getD 1 [])))
def sRA (l : List UInt8) : List (List Int) := if sOk l then tRes ((parts 124 l).getD 0 []) else []
def sRB (l : List UInt8) : List (List Int) := if sOk l then tRes ((parts 124 l).getD 1 []) else []
theorem okP_bar {p : List UInt8} (h : (124 : UInt8) ∈ p) : okP p = false := by
  obtain ⟨i, hi, e⟩ := List.getElem_of_mem h
  unfold okP
  refine okD_no (k := i) (by simpa [bI] using hi) ?_
  have : nth (bI p) i = 124 := by
    rw [nth_nat _ _ (by simpa [bI] using hi)]
    simp [bI, e]
  rw [this]; decide
theorem tOk_bar {l : List UInt8} (h : (124 : UInt8) ∈ l) : tOk l = false := by
  obtain ⟨p, hp, hb⟩ := parts_cover (c := 47) l.length l (Nat.le_refl _) 124 h (by decide)
  exact tOk_no hp (okP_bar hb)
theorem tOk_nil : tOk [] = false := by
  have : parts 47 [] = [[]] := parts_none (by simp)
  unfold tOk
  rw [this]
  decide
/-- The halves at the first bar: read just if there is one bar. -/
theorem cut_no {l : List UInt8} (h : (124 : UInt8) ∉ l) : sOk l = false := by
  unfold sOk; rw [parts_none h]; simp
theorem cut_one {a r : List UInt8} (ha : (124 : UInt8) ∉ a) (hr : (124 : UInt8) ∉ r) : sOk (a ++ 124 :: r) = (tOk a && tOk r && isPM (tRes a) (tRes r)) ∧ (sOk (a ++ 124 :: r) = true → sRA (a ++ 124 :: r) = tRes a ∧ sRB (a ++ 124 :: r) = tRes r) := by
  have e : parts 124 (a ++ 124 :: r) = [a, r] := by rw [parts_hit r ha, parts_none hr]
  refine ⟨by unfold sOk; rw [e]; simp, fun h => ?_⟩
  unfold sRA sRB
  rw [h, e]; simp
theorem cut_more {a r : List UInt8} (ha : (124 : UInt8) ∉ a) (hr : (124 : UInt8) ∈ r) : sOk (a ++ 124 :: r) = false ∧ tOk r = false := by
  obtain ⟨b, q, rfl, hb⟩ := List.eq_append_cons_of_mem hr
  refine ⟨?_, tOk_bar hr⟩
  unfold sOk
  rw [parts_hit _ ha, parts_hit _ hb]
  have := List.length_pos_iff.2 (parts_ne 124 q)
  simp only [List.length_cons]
  rw [decide_eq_false (by omega)]
  rfl
end Go.Proofs.YtnbhghgkjcfcmaaDoor

namespace Go.Proofs.YtnbhghgkjcfcmaaDoor
set_option linter.unusedVariables false
set_option linter.unusedSimpArgs false

/-- The digit of an element, as a number. -/
def digit (x : Int) : Int := if x < 10 then 48 + x else 87 + x
/-- The text of a list. -/
def textOf (p : List Int) : ByteArray := strOfNums (p.map digit)
theorem strOfNums_append (a b : List Int) : strOfNums (a ++ b) = strOfNums a ++ strOfNums b := by
  unfold strOfNums
  rw [List.map_append, ByteArray.mk_append_mk]
end Go.Proofs.YtnbhghgkjcfcmaaDoor

namespace Go.Proofs.YtnbhghgkjcfcmaaDoor
set_option linter.unusedVariables false
set_option linter.unusedSimpArgs false
open Go.RowKit

/-- 'string(b)', b a slice over a block that the call itself has made. -/
theorem convert_blk (w : World) (b n c : Nat) (xs : List Int) (cs : List Value) (h : Blk w b 5 (xs.map (Value.int .u8) ++ cs)) (hn : n = xs.length) :
    (convert 22 9 (.slice (some ⟨b, 0, none⟩) n c)).run Tryd.prog w = .ok (.string (strOfNums xs)) w := by
  subst hn
  refine run_convert_bytes_arg (P := Tryd.prog) w 22 5 Tryd.underlying22 Tryd.underlying5 b 0 xs.length c xs rfl (fun i hi => ?_) 9 Tryd.underlying9
  rw [Nat.zero_add, h.cell (by simp; omega)]
  simp [List.getElem_append, hi]

set_option maxHeartbeats 400000 in
theorem c_l01Digit (x : Int) (w : World) (h0 : 0 ≤ x) (h1 : x < 12) :
    Calls Tryd.prog 60 #[.int .i64 x] w (RVal w (.string (strOfNums [digit x]))) := by
  have hb : Below w.heap.size w (w.alloc (.cells #[.int .u8 (digit x)] 5)) := (Below.refl _ _).alloc (Nat.le_refl _) _
  have hcv := convert_blk (w.alloc (.cells #[.int .u8 (digit x)] 5)) w.heap.size 1 1 [digit x] [] (Blk.new w [.int .u8 (digit x)] 5) rfl
  by_cases h : x < 10
  · have hd : digit x = 48 + x := by simp [digit, h]
    rw [hd] at hcv hb ⊢
    have HB := Lib.hid hb; clear hb hd
    go_enter Tryd.func60, Tryd.ntmps60
    go_wp2
    go_ret
    exact ⟨rfl, HB.out⟩
  · have hd : digit x = 97 + x - 10 := by simp [digit, h]; omega
    rw [hd] at hcv hb ⊢
    have HB := Lib.hid hb; clear hb hd
    go_enter Tryd.func60, Tryd.ntmps60
    go_wp2
    go_ret
    exact ⟨rfl, HB.out⟩

theorem textOf_snoc (p : List Int) (k : Nat) (h : k < p.length) : textOf (p.take k) ++ strOfNums [digit (nth p k)] = textOf (p.take (k+1)) := by
  unfold textOf
  rw [take_snoc _ _ h, ← strOfNums_append, List.map_append]
  rfl
theorem textOf_size (p : List Int) : (textOf p).size = p.length := by simp [textOf, strOfNums_size]
theorem num1_size (x : Int) : (strOfNums [x]).size = 1 := by simp [strOfNums_size]

set_option maxHeartbeats 400000 in
theorem c_l01Line (v : Value) (xs : List Int) (w : World) (hx : Ints w v xs) (hr : ∀ x ∈ xs, 0 ≤ x ∧ x < 12) (hn : xs.length ≤ 1048576) :
    Calls Tryd.prog 37 #[v] w (RVal w (.string (textOf xs))) := by
  obtain ⟨a, c, rfl, hc, hm⟩ := hx.shape
  have HR := Lib.hid hr; clear hr
  go_enter Tryd.func37, Tryd.ntmps37
  go_wp2
  go_loopw [3, 4] (fun t i wr => ∃ k : Nat, k ≤ xs.length ∧ i = .int .i64 k ∧ t = .string (textOf (xs.take k)) ∧ Below w.heap.size w wr) (fun _ i _ => xs.length - (intOf i).toNat)
  case atStart => exact ⟨0, Nat.zero_le _, rfl, rfl, Below.refl _ _⟩
  case round =>
    obtain ⟨k, hk, rfl, rfl, hb⟩ := hrel
    by_cases hlt : k < xs.length
    · obtain ⟨b, o, rfl, hcell⟩ := (hx.below hb).get k hlt
      have hr1 := HR.out _ (nth_mem (p := xs) (x := k) (by omega) (by omega))
      have hs1 : (textOf (xs.take k)).size ≤ 1048576 := by rw [textOf_size]; simp; omega
      have hs2 : (strOfNums [digit (nth xs k)]).size ≤ 1 := by rw [num1_size]; omega
      go_wp2_with fail
      refine (c_l01Digit _ _ hr1.1 hr1.2).mono ?_; rintro e w' ⟨rfl, hb'⟩
      have HB := Lib.hid (bo hb hb'); clear hb hb' hcell hr1
      go_wp2
      go_roundw
      case rel => exact ⟨k + 1, by omega, by go_num, by rw [textOf_snoc _ _ hlt], HB.out⟩
      case measure => simp [intOf]; omega
    · have HB := Lib.hid hb; clear hb
      go_wp2
      go_ret
      exact ⟨congrArg (fun l => Ending.returned (.string (textOf l))) (List.take_of_length_le (by omega)), HB.out⟩

theorem inf_uint8 : (Tryd.prog.info? 5).map (fun i => (i.zero, i.size, i.bytes)) = some (some (.int .u8 0), 1, 1) := by kernel_rfl

theorem digits_const (x : Int) (h0 : 0 ≤ x) (h1 : x < 12) (t : TypeId) (ht : Tryd.prog.underlying t = some .string) (w : World) :
    (Instr.index t (.string ⟨#[48, 49, 50, 51, 52, 53, 54, 55, 56, 57, 97, 98]⟩) (.int .i64 x)).run Tryd.prog w = .ok (.int .u8 (digit x)) w := by
  have : x = 0 ∨ x = 1 ∨ x = 2 ∨ x = 3 ∨ x = 4 ∨ x = 5 ∨ x = 6 ∨ x = 7 ∨ x = 8 ∨ x = 9 ∨ x = 10 ∨ x = 11 := by omega
  rcases this with rfl | rfl | rfl | rfl | rfl | rfl | rfl | rfl | rfl | rfl | rfl | rfl <;> simp [digit, ht, go_sem] <;> rfl

theorem dig_set (xs : List Int) (k : Nat) (h : k < xs.length) (r : List Value) (hr : r.length = xs.length) :
    (((xs.take k).map digit).map (Value.int .u8) ++ r.drop k).set k (.int .u8 (digit (nth xs k))) = ((xs.take (k+1)).map digit).map (Value.int .u8) ++ r.drop (k+1) := by
  have hlk : (((xs.take k).map digit).map (Value.int .u8)).length = k := by simp; omega
  rw [List.set_append, if_neg (by omega), hlk, Nat.sub_self, List.drop_eq_getElem_cons (by omega : k < r.length), take_snoc _ _ h]
  simp only [List.set_cons_zero, List.map_append, List.map_cons, List.map_nil, List.append_assoc, List.cons_append, List.nil_append]

set_option maxHeartbeats 400000 in
theorem c_digitsText (v : Value) (xs : List Int) (w : World) (hx : Ints w v xs) (hr : ∀ x ∈ xs, 0 ≤ x ∧ x < 12) (hn : xs.length ≤ 1048576) :
    Calls Tryd.prog 43 #[v] w (RVal w (.string (textOf xs))) := by
  obtain ⟨a, c, rfl, hc, hm⟩ := hx.shape
  have HR := Lib.hid hr; clear hr
  have hmk := run_make_row' (P := Tryd.prog) 22 5 (.int .u8 0) 1 Tryd.underlying22 inf_uint8 rfl .i64 .i64 xs.length (by omega) (by omega)
  go_enter Tryd.func43, Tryd.ntmps43
  go_wp2
  have hB0 : Below w.heap.size w (w.alloc (.cells (madeCells #[.int .u8 0] xs.length) 5)) := (Below.refl _ _).alloc (Nat.le_refl _) _
  have hK0 : Blk (w.alloc (.cells (madeCells #[.int .u8 0] xs.length) 5)) w.heap.size 5 (((xs.take 0).map digit).map (Value.int .u8) ++ (List.replicate xs.length (Value.int .u8 0)).drop 0) := by
    simpa using Blk.made w (.int .u8 0) xs.length 5
  clear hmk
  go_loopw [11] (fun i wr => ∃ k : Nat, k ≤ xs.length ∧ i = .int .i64 k ∧ Below w.heap.size w wr ∧ Blk wr w.heap.size 5 (((xs.take k).map digit).map (Value.int .u8) ++ (List.replicate xs.length (Value.int .u8 0)).drop k)) (fun i _ => xs.length - (intOf i).toNat)
  case atStart => exact ⟨0, Nat.zero_le _, rfl, hB0, hK0⟩
  case round =>
    clear hB0 hK0
    obtain ⟨k, hk, rfl, hb, hblk⟩ := hrel
    by_cases hlt : k < xs.length
    · obtain ⟨b, o, rfl, hcell⟩ := (hx.below hb).get k hlt
      have hr1 := HR.out _ (nth_mem (p := xs) (x := k) (by omega) (by omega))
      have hix := digits_const (nth xs k) hr1.1 hr1.2 9 Tryd.underlying9
      have h2 : ∃ u, wr.cell? ⟨w.heap.size, k, none⟩ = some u := ⟨_, hblk.cell (by simp; omega)⟩
      obtain ⟨u, h2⟩ := h2
      have h3 := hblk.frozen k
      have Hb := Lib.hid hb; have Hblk := Lib.hid hblk; clear hb hblk
      go_wp2
      go_roundw
      case rel =>
        refine ⟨k + 1, by omega, by go_num, Hb.out.setCell (p := ⟨w.heap.size, k, none⟩) (Nat.le_refl _) _, ?_⟩
        have := Hblk.out.set k (.int .u8 (digit (nth xs k)))
        rwa [dig_set _ _ hlt _ (by simp)] at this
      case measure => simp [intOf]; omega
    · obtain rfl : k = xs.length := by omega
      have hcv := convert_blk wr w.heap.size xs.length xs.length (xs.map digit) [] (by simpa using hblk) (by simp)
      have Hb := Lib.hid hb; clear hb hblk
      go_wp2
      go_ret
      exact ⟨rfl, Hb.out⟩
end Go.Proofs.YtnbhghgkjcfcmaaDoor

namespace Go.Proofs.YtnbhghgkjcfcmaaDoor
set_option linter.unusedVariables false
set_option linter.unusedSimpArgs false
open Go.RowKit

def tabText (t : List (List Int)) : ByteArray := ⟨(Lib.join (t.map fun r => (textOf r).data.toList) [47]).toArray⟩
theorem join_snoc (x : List UInt8) (r : List (List UInt8)) (y sep : List UInt8) : Lib.join (x :: (r ++ [y])) sep = Lib.join (x :: r) sep ++ (sep ++ y) := by
  rw [Lib.join_cons, Lib.join_cons]
  simp [Lib.joinTail, List.append_assoc]
theorem tabText_nil : tabText [] = ⟨#[]⟩ := rfl
theorem tabText_one (r : List Int) : tabText [r] = textOf r := by
  unfold tabText
  rw [List.map_cons, List.map_nil, Lib.join_one]
theorem tabText_snoc {t : List (List Int)} {k : Nat} (hk : k < t.length) (h0 : 0 < k) : tabText (t.take (k + 1)) = tabText (t.take k) ++ ⟨#[47]⟩ ++ textOf (row t k) := by
  rw [take_snoc_row _ _ hk]
  obtain ⟨a, s, hs⟩ : ∃ a s, t.take k = a :: s := by
    cases h : t.take k with
    | nil =>
      have := congrArg List.length h
      rw [List.length_take, List.length_nil] at this
      omega
    | cons a s => exact ⟨a, s, rfl⟩
  rw [hs]
  unfold tabText
  rw [List.cons_append, List.map_cons, List.map_append, List.map_cons, List.map_nil, join_snoc, List.map_cons]
  apply ByteArray.ext
  simp [ByteArray.data_append]
theorem joinTail_len (n : Nat) : ∀ (r : List (List UInt8)), (∀ x ∈ r, x.length ≤ n) → (Lib.joinTail [47] r).length ≤ r.length * (n + 1)
  | [], _ => by simp [Lib.joinTail]
  | x :: r, h => by
    have ih := joinTail_len n r (fun y hy => h y (by simp [hy]))
    have h1 := h x (by simp)
    have e : (Lib.joinTail [47] (x :: r)).length = 1 + x.length + (Lib.joinTail [47] r).length := by simp [Lib.joinTail]; omega
    rw [e, List.length_cons, Nat.add_mul]
    omega
theorem tabText_size {t : List (List Int)} {n : Nat} (h : ∀ r ∈ t, r.length ≤ n) : (tabText t).size ≤ t.length * (n + 1) := by
  cases t with
  | nil => exact Nat.zero_le _
  | cons a t =>
    have ht : ∀ x ∈ t.map (fun r => (textOf r).data.toList), x.length ≤ n := by
      intro x hx
      obtain ⟨r, hr, rfl⟩ := List.mem_map.1 hx
      have := h r (by simp [hr])
      have e : (textOf r).data.toList.length = (textOf r).size := rfl
      rw [e, textOf_size]; exact this
    have h1 := joinTail_len n _ ht
    have h2 : (textOf a).data.toList.length ≤ n := by
      have e : (textOf a).data.toList.length = (textOf a).size := rfl
      rw [e, textOf_size]; exact h a (by simp)
    have e : (tabText (a :: t)).size = (textOf a).data.toList.length + (Lib.joinTail [47] (t.map fun r => (textOf r).data.toList)).length := by
      unfold tabText
      rw [List.map_cons, Lib.join_cons]
      show (List.toArray _).size = _
      simp
    rw [e, List.length_cons, Nat.add_mul]
    rw [List.length_map] at h1
    omega

set_option maxHeartbeats 800000 in
theorem c_l01Text (v : Value) (t : List (List Int)) (w : World) (hx : Rows w v t) (ht : isTab t = true) :
    Calls Tryd.prog 29 #[v] w (RVal w (.string (tabText t))) := by
  obtain ⟨a, c, rfl, hc, hm⟩ := hx.shape
  obtain ⟨h1, h12⟩ := isTab_len ht
  have HT := Lib.hid ht; clear ht
  go_enter Tryd.func29, Tryd.ntmps29
  go_wp2
  go_loopw [3, 4] (fun s i wr => ∃ k : Nat, k ≤ t.length ∧ i = .int .i64 k ∧ s = .string (tabText (t.take k)) ∧ Below w.heap.size w wr) (fun _ i _ => t.length - (intOf i).toNat)
  case atStart => exact ⟨0, Nat.zero_le _, rfl, rfl, Below.refl _ _⟩
  case round =>
    obtain ⟨k, hk, rfl, rfl, hb⟩ := hrel
    obtain ⟨wo, rfl⟩ : ∃ wo : World, wo = wr := ⟨_, rfl⟩
    by_cases hlt : k < t.length
    · obtain ⟨b, o, ra, rc, rfl, hcell, hu⟩ := (hx.below hb).getS k hlt
      have hrow := isTab_row HT.out (x := k) (by omega) (by omega)
      have hin : ∀ x ∈ row t k, 0 ≤ x ∧ x < 12 := fun x hx => by
        have := isTab_val HT.out (row_mem (t := t) (x := k) (by omega) (by omega)) hx
        omega
      have hs1 : (tabText (t.take k)).size ≤ 1048576 := by
        have := tabText_size (t := t.take k) (n := 12) (fun r hr => by
          obtain ⟨j, hj, rfl⟩ := List.getElem_of_mem (List.mem_of_mem_take hr)
          have := isTab_row HT.out (x := j) (by omega) (by omega)
          rw [row_nat _ _ hj] at this; omega)
        rw [List.length_take] at this
        have h3 := Nat.mul_le_mul (show min k t.length ≤ 12 by omega) (show 12 + 1 ≤ 13 by omega)
        omega
      have hs2 : (textOf (row t k)).size ≤ 12 := by rw [textOf_size]; omega
      have hs3 : (tabText (t.take k) ++ ⟨#[47]⟩).size ≤ 1048577 := by rw [ByteArray.size_append]; have : (ByteArray.mk #[47]).size = 1 := rfl; omega
      have HU := Lib.hid hu; have Hb := Lib.hid hb; have HIn := Lib.hid hin
      have hrl : (row t k).length ≤ 1048576 := by omega
      clear hu hb hin hrow
      by_cases h0 : k = 0
      · have hk0 : (k : Int) ≤ 0 := by omega
        have hstep : tabText (t.take k) ++ textOf (row t k) = tabText (t.take (k + 1)) := by
          subst h0
          rw [take_snoc_row _ _ hlt, List.take_zero, List.nil_append, tabText_one, tabText_nil]
          apply ByteArray.ext
          simp [ByteArray.data_append]
        have HStep := Lib.hid hstep; clear hstep h0
        go_wp2_with fail
        refine (c_l01Line _ _ _ HU.out HIn.out hrl).mono ?_; rintro e w' ⟨rfl, hb'⟩
        have HB := Lib.hid (bb Hb.out hb'); clear hb' hcell
        go_wp2
        go_roundw
        case rel => exact ⟨k + 1, by omega, by go_num, by rw [← HStep.out], HB.out⟩
        case measure => simp [intOf]; omega
      · have hk0 : (0 : Int) < k := by omega
        have HStep := Lib.hid (tabText_snoc hlt (by omega))
        clear h0
        go_wp2_with fail
        refine (c_l01Line _ _ _ HU.out HIn.out hrl).mono ?_; rintro e w' ⟨rfl, hb'⟩
        have HB := Lib.hid (bb Hb.out hb'); clear hb' hcell
        go_wp2
        go_roundw
        case rel => exact ⟨k + 1, by omega, by go_num, by rw [HStep.out], HB.out⟩
        case measure => simp [intOf]; omega
    · have HB := Lib.hid hb; clear hb
      obtain rfl : k = t.length := by omega
      go_wp2
      go_ret
      exact ⟨congrArg (fun l => Ending.returned (.string (tabText l))) (List.take_of_length_le (by omega)), HB.out⟩
end Go.Proofs.YtnbhghgkjcfcmaaDoor

namespace Go.Proofs.YtnbhghgkjcfcmaaDoor
set_option linter.unusedVariables false
set_option linter.unusedSimpArgs false
open Go.RowKit

def permText (xs : List Int) : ByteArray := if isPerm xs then textOf xs else ⟨#[]⟩
def permCode (xs : List Int) : Int := if isPerm xs then 0 else 1

theorem isPerm_lt {xs : List Int} (h : isPerm xs = true) : (1 ≤ xs.length ∧ xs.length ≤ 12) ∧ Permuted xs := by
  simp [isPerm, inR] at h; exact ⟨by omega, h.2⟩
theorem isPerm_digits {xs : List Int} (h : isPerm xs = true) : ∀ x ∈ xs, 0 ≤ x ∧ x < 12 := by
  intro x hx
  have h1 := isPerm_lt h
  have := h1.2.2 x hx
  omega


set_option maxHeartbeats 400000 in
theorem c_PermutationText (v : Value) (xs : List Int) (w : World) (hx : Ints w v xs) :
    Calls Tryd.prog 17 #[v] w (RVal w (.tuple #[.string (permText xs), .int .i64 (permCode xs)])) := by
  by_cases hp : isPerm xs = true
  · have HP := Lib.hid hp
    have h1 := isPerm_lt hp
    have h2 : xs.length ≤ 1048576 := by omega
    go_enter Tryd.func17, Tryd.ntmps17
    go_wp2_with fail
    refine (c_IsPermutation _ _ _ hx).mono ?_; rintro e w1 ⟨rfl, hb1⟩
    go_wp2_with fail
    refine (c_digitsText _ _ _ (hx.below hb1) (isPerm_digits HP.out) h2).mono ?_; rintro e w2 ⟨rfl, hb2⟩
    have HB := Lib.hid (bb hb1 hb2); clear hb1 hb2 hp
    go_wp2
    go_ret2
    exact ⟨by simp [permText, permCode, HP.out], HB.out⟩
  · have hp' : isPerm xs = false := by simpa using hp
    have HP := Lib.hid hp'
    clear hp
    go_enter Tryd.func17, Tryd.ntmps17
    go_wp2_with fail
    refine (c_IsPermutation _ _ _ hx).mono ?_; rintro e w1 ⟨rfl, hb1⟩
    have HB := Lib.hid hb1; clear hb1
    go_wp2
    go_ret2
    exact ⟨by simp [permText, permCode, HP.out], HB.out⟩

end Go.Proofs.YtnbhghgkjcfcmaaDoor

namespace Go.Proofs.YtnbhghgkjcfcmaaDoor
set_option linter.unusedVariables false
set_option linter.unusedSimpArgs false
open Go

theorem data_textOf (xs : List Int) : (textOf xs).data.toList = (xs.map digit).map fun n => n.toNat.toUInt8 := by
  unfold textOf strOfNums
  simp
theorem digit_byte {x : Int} (h0 : 0 ≤ x) (h1 : x < 12) : (((digit x).toNat.toUInt8).toNat : Int) = digit x ∧ dv (digit x) = x ∧ (digit x).toNat.toUInt8 ≠ 47 ∧ (digit x).toNat.toUInt8 ≠ 124 := by
  obtain ⟨n, rfl⟩ : ∃ n : Fin 12, x = n.val := ⟨⟨x.toNat, by omega⟩, by simp; omega⟩
  revert n
  have key : ∀ n : Fin 12, (((digit (n.val : Int)).toNat.toUInt8).toNat : Int) = digit (n.val : Int) ∧ dv (digit (n.val : Int)) = (n.val : Int) ∧ (digit (n.val : Int)).toNat.toUInt8 ≠ 47 ∧ (digit (n.val : Int)).toNat.toUInt8 ≠ 124 := by decide +kernel
  intro n _ _
  exact key n
theorem byte_digit : ∀ c : UInt8, 0 ≤ dv (c.toNat : Int) → (digit (dv (c.toNat : Int))).toNat.toUInt8 = c := by
  have key : ∀ c : Fin 256, 0 ≤ dv (c.val : Int) → (digit (dv (c.val : Int))).toNat.toUInt8 = UInt8.ofNat c.val := by decide +kernel
  intro c h
  have := key ⟨c.toNat, c.toNat_lt⟩ h
  simpa using this
/-- The text of a list is read as the list. -/
theorem text_read {xs : List Int} (h : ∀ x ∈ xs, 0 ≤ x ∧ x < 12) : okP (textOf xs).data.toList = true ∧ rdP (textOf xs).data.toList = xs ∧ 47 ∉ (textOf xs).data.toList ∧ 124 ∉ (textOf xs).data.toList := by
  have hb : bI (textOf xs).data.toList = xs.map digit := by
    rw [data_textOf]
    unfold bI
    rw [List.map_map]
    refine (List.map_map ..).trans ?_
    refine List.map_congr_left fun x hx => ?_
    exact (digit_byte (h x hx).1 (h x hx).2).1
  have hok : okD (xs.map digit) = true := by
    unfold okD
    refine List.all_eq_true.2 fun c hc => ?_
    obtain ⟨x, hx, rfl⟩ := List.mem_map.1 hc
    rw [(digit_byte (h x hx).1 (h x hx).2).2.1]
    simpa using (h x hx).1
  refine ⟨by unfold okP; rw [hb]; exact hok, ?_, ?_, ?_⟩
  · unfold rdP readD
    rw [hb, if_pos hok, List.map_map]
    conv => rhs; rw [← List.map_id xs]
    refine List.map_congr_left fun x hx => ?_
    exact (digit_byte (h x hx).1 (h x hx).2).2.1
  · rw [data_textOf]
    intro hm
    obtain ⟨c, hc, e⟩ := List.mem_map.1 hm
    obtain ⟨x, hx, rfl⟩ := List.mem_map.1 hc
    exact (digit_byte (h x hx).1 (h x hx).2).2.2.1 e
  · rw [data_textOf]
    intro hm
    obtain ⟨c, hc, e⟩ := List.mem_map.1 hm
    obtain ⟨x, hx, rfl⟩ := List.mem_map.1 hc
    exact (digit_byte (h x hx).1 (h x hx).2).2.2.2 e
/-- What is read has this text. -/
theorem read_text {p : List UInt8} (h : okP p = true) : (textOf (rdP p)).data.toList = p := by
  have h' : okD (bI p) = true := h
  rw [data_textOf]
  unfold rdP readD
  rw [if_pos h']
  unfold bI
  rw [List.map_map, List.map_map, List.map_map]
  conv => rhs; rw [← List.map_id p]
  refine List.map_congr_left fun c hc => ?_
  refine byte_digit c ?_
  unfold okD at h'
  have := List.all_eq_true.1 h' (c.toNat : Int) (List.mem_map.2 ⟨c, hc, rfl⟩)
  simpa using this
theorem data_tabText (t : List (List Int)) : (tabText t).data.toList = Lib.join (t.map fun r => (textOf r).data.toList) [47] := by
  unfold tabText; simp
theorem tab_digits {t : List (List Int)} (h : isTab t = true) : ∀ r ∈ t, ∀ x ∈ r, 0 ≤ x ∧ x < 12 := by
  intro r hr x hx
  have := isTab_val h hr hx
  have hl := isTab_len h
  omega
/-- The text of a table is read as the table. -/
theorem tab_read {t : List (List Int)} (h : isTab t = true) : tOk (tabText t).data.toList = true ∧ tRes (tabText t).data.toList = t ∧ 124 ∉ (tabText t).data.toList := by
  have hd := tab_digits h
  have hp : parts 47 (tabText t).data.toList = t.map fun r => (textOf r).data.toList := by
    rw [data_tabText]
    refine parts_join 47 _ ?_ ?_
    · have := (isTab_len h).1
      intro e
      have := congrArg List.length e
      simp at this
      subst this
      simp at *
    · intro p hp
      obtain ⟨r, hr, rfl⟩ := List.mem_map.1 hp
      exact (text_read (hd r hr)).2.2.1
  have hm : (parts 47 (tabText t).data.toList).map rdP = t := by
    rw [hp, List.map_map]
    conv => rhs; rw [← List.map_id t]
    refine List.map_congr_left fun r hr => ?_
    exact (text_read (hd r hr)).2.1
  have hok : tOk (tabText t).data.toList = true := by
    unfold tOk
    rw [hm, h, Bool.and_true, hp]
    refine List.all_eq_true.2 fun p hp => ?_
    obtain ⟨r, hr, rfl⟩ := List.mem_map.1 hp
    exact (text_read (hd r hr)).1
  refine ⟨hok, by rw [tRes_ok hok, hm], fun hb => ?_⟩
  obtain ⟨p, h1, h2⟩ := parts_cover (c := 47) _ _ (Nat.le_refl _) 124 hb (by decide)
  rw [hp] at h1
  obtain ⟨r, hr, rfl⟩ := List.mem_map.1 h1
  exact (text_read (hd r hr)).2.2.2 h2
/-- A table that is read has the text that it was read of. -/
theorem tab_text {l : List UInt8} (h : tOk l = true) : isTab (tRes l) = true ∧ (tabText (tRes l)).data.toList = l := by
  rw [tRes_ok h]
  have h' := h
  unfold tOk at h'
  rw [Bool.and_eq_true] at h'
  refine ⟨h'.2, ?_⟩
  rw [data_tabText, List.map_map]
  have : (parts 47 l).map ((fun r => (textOf r).data.toList) ∘ rdP) = parts 47 l := by
    conv => rhs; rw [← List.map_id (parts 47 l)]
    refine List.map_congr_left fun p hp => ?_
    exact read_text (List.all_eq_true.1 h'.1 p hp)
  rw [this]
  exact join_parts 47 _ _ (Nat.le_refl _)
theorem bytes_ext {s t : ByteArray} (h : s.data.toList = t.data.toList) : s = t := by
  apply ByteArray.ext
  exact Array.ext' h
/-- A permutation that is read has the text that it was read of. -/
theorem perm_text {s : ByteArray} (h : ppOk s = true) : isPerm (ppRes s) = true ∧ permText (ppRes s) = s := by
  have h2 : okD (bsI s) = true ∧ isPerm (readD (bsI s)) = true := by simpa [ppOk] using h
  have e : ppRes s = rdP s.data.toList := by unfold ppRes; rw [if_pos h]; rfl
  have hp : isPerm (ppRes s) = true := by rw [e]; exact h2.2
  refine ⟨hp, ?_⟩
  unfold permText
  rw [if_pos hp, e]
  exact bytes_ext (read_text h2.1)
end Go.Proofs.YtnbhghgkjcfcmaaDoor

namespace Go.Proofs.YtnbhghgkjcfcmaaDoor
set_option linter.unusedVariables false
set_option linter.unusedSimpArgs false

@[irreducible] def lcg (h : Nat) : Nat := (h * 6364136223846793005 + 1442695040888963407) % 18446744073709551616
theorem lcg_eq (h : Nat) : lcg h = (h * 6364136223846793005 + 1442695040888963407) % 18446744073709551616 := by unfold lcg; exact Eq.refl _
def itN (f : Nat → Nat) : Nat → Nat → Nat
  | 0, h => h
  | n + 1, h => f (itN f n h)
theorem itN_add (f : Nat → Nat) (a h : Nat) : ∀ b : Nat, itN f (a + b) h = itN f b (itN f a h)
  | 0 => by rw [Nat.add_zero, itN]
  | b + 1 => by
    have ih := itN_add f a h b
    show itN f ((a + b) + 1) h = itN f (b + 1) (itN f a h)
    rw [itN, itN, ih]
def lcgN (n h : Nat) : Nat := itN lcg n h
theorem lcgN_z (h : Nat) : lcgN 0 h = h := by unfold lcgN; rw [itN]
theorem lcgN_succ (n h : Nat) : lcgN (n + 1) h = lcg (lcgN n h) := by unfold lcgN; rw [itN]
theorem lcgN_add (a b h : Nat) : lcgN (a + b) h = lcgN b (lcgN a h) := by unfold lcgN; exact itN_add lcg a h b
theorem lcgN_one (h : Nat) : lcgN 1 h = lcg h := by rw [show (1 : Nat) = 0 + 1 by decide, lcgN_succ, lcgN_z]
/-- The factor and the summand of 2^k steps. -/
def lcgQ (p : Nat × Nat) : Nat × Nat := (p.1 * p.1 % 18446744073709551616, (p.1 * p.2 + p.2) % 18446744073709551616)
def lcgP : Nat → Nat × Nat
  | 0 => (6364136223846793005, 1442695040888963407)
  | k + 1 => lcgQ (lcgP k)
theorem mod_lin (x A C M : Nat) : ((x % M) * A + C) % M = (x * A + C) % M := by
  rw [Nat.add_mod ((x % M) * A) C, Nat.mul_mod (x % M) A, Nat.mod_mod, ← Nat.mul_mod, ← Nat.add_mod]
theorem mod_lin2 (h p q M : Nat) : (h * (p % M) + q % M) % M = (h * p + q) % M := by
  rw [Nat.add_mod (h * (p % M)) (q % M), Nat.mul_mod h (p % M)]
  simp only [Nat.mod_mod]
  rw [← Nat.mul_mod, ← Nat.add_mod]
theorem aff_twice (h A C M : Nat) : ((h * A + C) % M * A + C) % M = (h * (A * A % M) + (A * C + C) % M) % M := by
  rw [mod_lin, mod_lin2]
  congr 1
  rw [Nat.add_mul, Nat.mul_assoc, Nat.mul_comm C A, Nat.add_assoc]
theorem lcgN_pow : ∀ (k h : Nat), lcgN (2 ^ k) h = (h * (lcgP k).1 + (lcgP k).2) % 18446744073709551616
  | 0, h => by
    rw [Nat.pow_zero, lcgN_one, lcg_eq]
    exact Eq.refl _
  | k + 1, h => by
    rw [Nat.pow_succ, Nat.mul_two, lcgN_add, lcgN_pow k, lcgN_pow k]
    exact aff_twice _ _ _ _
theorem lcgP_low : ∀ k : Fin 20, (lcgP k.val).1 % 2 ^ (k.val + 1) = 1 ∧ (lcgP k.val).2 % 2 ^ (k.val + 1) = 2 ^ k.val := by decide +kernel
/-- 2^k steps add 2^k, as far as the lowest k + 1 bits go. -/
theorem lcg_low {k : Nat} (hk : k < 20) (h : Nat) : lcgN (2 ^ k) h % 2 ^ (k + 1) = (h + 2 ^ k) % 2 ^ (k + 1) := by
  obtain ⟨h1, h2⟩ := lcgP_low ⟨k, hk⟩
  have hd : 2 ^ (k + 1) ∣ 18446744073709551616 := by
    have : (18446744073709551616 : Nat) = 2 ^ 64 := by decide
    rw [this]
    exact Nat.pow_dvd_pow 2 (by omega)
  rw [lcgN_pow, Nat.mod_mod_of_dvd _ hd]
  generalize (lcgP k).1 = A at *
  generalize (lcgP k).2 = C at *
  generalize 2 ^ (k + 1) = M at *
  have h1 : A % M = 1 := h1
  have h2 : C % M = 2 ^ k := h2
  have := mod_lin2 h A C M
  rw [h1, h2, Nat.mul_one] at this
  exact this.symm
theorem mod_two_pow (h k : Nat) : h % 2 ^ (k + 1) = h % 2 ^ k + 2 ^ k * (h / 2 ^ k % 2) := by
  rw [Nat.pow_succ, Nat.mod_mul]
/-- An even number of steps leads to whatever lowest bits of the same parity. -/
theorem lcg_reach (h r : Nat) (hp : h % 2 = r % 2) : ∀ k : Nat, k < 20 → ∃ n, n % 2 = 0 ∧ n < 2 ^ (k + 1) ∧ lcgN n h % 2 ^ (k + 1) = r % 2 ^ (k + 1)
  | 0, _ => ⟨0, Eq.refl _, by decide, by rw [lcgN_z]; simpa using hp⟩
  | k + 1, hk => by
    obtain ⟨n, n0, n1, n2⟩ := lcg_reach h r hp k (by omega)
    have hp2 : 2 ^ (k + 1 + 1) = 2 ^ (k + 1) * 2 := Nat.pow_succ ..
    have hpos : 0 < 2 ^ (k + 1) := Nat.two_pow_pos _
    have hev : 2 ^ (k + 1) % 2 = 0 := by rw [Nat.pow_succ]; omega
    have e1 := mod_two_pow (lcgN n h) (k + 1)
    have e2 := mod_two_pow r (k + 1)
    rw [n2] at e1
    by_cases e : lcgN n h % 2 ^ (k + 1 + 1) = r % 2 ^ (k + 1 + 1)
    · exact ⟨n, n0, by omega, e⟩
    · refine ⟨n + 2 ^ (k + 1), by omega, by omega, ?_⟩
      rw [lcgN_add, lcg_low (k := k + 1) hk, e2, Nat.add_mod, e1]
      have hb1 : lcgN n h / 2 ^ (k + 1) % 2 < 2 := Nat.mod_lt _ (by decide)
      have hb2 : r / 2 ^ (k + 1) % 2 < 2 := Nat.mod_lt _ (by decide)
      have hlt : r % 2 ^ (k + 1) < 2 ^ (k + 1) := Nat.mod_lt _ hpos
      have hm : 2 ^ (k + 1) % 2 ^ (k + 1 + 1) = 2 ^ (k + 1) := Nat.mod_eq_of_lt (by omega)
      have hne : lcgN n h / 2 ^ (k + 1) % 2 ≠ r / 2 ^ (k + 1) % 2 := fun h5 => e (by rw [e1, e2, h5])
      rw [hm]
      clear e1 e2 e hm n1 n2 hev
      generalize lcgN n h / 2 ^ (k + 1) % 2 = u at *
      generalize r / 2 ^ (k + 1) % 2 = v at *
      generalize r % 2 ^ (k + 1) = s at *
      rw [hp2]
      generalize 2 ^ (k + 1) = p at *
      have hu : u = 0 ∧ v = 1 ∨ u = 1 ∧ v = 0 := by omega
      rcases hu with ⟨rfl, rfl⟩ | ⟨rfl, rfl⟩
      · rw [Nat.mul_zero, Nat.add_zero, Nat.mul_one, Nat.mod_eq_of_lt (by omega)]
      · rw [Nat.mul_one, Nat.mul_zero, Nat.add_zero, show s + p + p = s + p * 2 by omega, Nat.add_mod_right, Nat.mod_eq_of_lt (by omega)]

/-- The 24 bits that a number is made of. -/
def xOf (h : Nat) : Nat := h / 8589934592 % 16777216
@[irreducible] def s36 : Nat := 68719476736
theorem s36_eq : s36 = 2 ^ 36 := by unfold s36; decide
theorem s36_n : s36 = 68719476736 := by unfold s36; exact Eq.refl _
theorem lcgP_36 : lcgP 36 = (5149081397473837057, 14228472455390822400) := by decide +kernel
theorem lcg36 (h : Nat) : lcgN s36 h = (h * 5149081397473837057 + 14228472455390822400) % 18446744073709551616 := by
  rw [s36_eq, lcgN_pow, lcgP_36]
theorem lcgP_1 : lcgP 1 = (7520897724310334953, 1876011003808476466) := by decide +kernel
theorem lcg2 (h : Nat) : lcgN 2 h = (h * 7520897724310334953 + 1876011003808476466) % 18446744073709551616 := by
  rw [show (2 : Nat) = 2 ^ 1 by decide, lcgN_pow, lcgP_1]
theorem shift_a {h : Nat} (hr : h % 524288 = 180358) : xOf (lcgN s36 h) = (xOf h + 2792) % 16777216 ∧ lcgN s36 h % 524288 = 180358 := by
  obtain ⟨q, hq⟩ : ∃ q, h = 524288 * q + 180358 := ⟨h / 524288, by omega⟩
  obtain ⟨k, hk⟩ : ∃ k, h * 5149081397473837057 + 14228472455390822400 = h + 144115188075855872 * k + 23983097380864 := ⟨18732249 * q + 6444097, by omega⟩
  have e := lcg36 h
  rw [hk] at e
  clear hk hq
  unfold xOf
  generalize lcgN s36 h = z at *
  omega
theorem shift_b {h : Nat} (hr : h % 524288 = 13608) : xOf (lcgN s36 h) = (xOf h + 46376) % 16777216 ∧ lcgN s36 h % 524288 = 13608 := by
  obtain ⟨q, hq⟩ : ∃ q, h = 524288 * q + 13608 := ⟨h / 524288, by omega⟩
  obtain ⟨k, hk⟩ : ∃ k, h * 5149081397473837057 + 14228472455390822400 = h + 144115188075855872 * k + 398366806638592 := ⟨18732249 * q + 486298, by omega⟩
  have e := lcg36 h
  rw [hk] at e
  clear hk hq
  unfold xOf
  generalize lcgN s36 h = z at *
  omega
theorem shift_c {h : Nat} (hr : h % 524288 = 204337) : xOf (lcgN s36 h) = (xOf h + 18760) % 16777216 ∧ lcgN s36 h % 524288 = 204337 := by
  obtain ⟨q, hq⟩ : ∃ q, h = 524288 * q + 204337 := ⟨h / 524288, by omega⟩
  obtain ⟨k, hk⟩ : ∃ k, h * 5149081397473837057 + 14228472455390822400 = h + 144115188075855872 * k + 161147172945920 := ⟨18732249 * q + 7300841, by omega⟩
  have e := lcg36 h
  rw [hk] at e
  clear hk hq
  unfold xOf
  generalize lcgN s36 h = z at *
  omega
theorem shift_d {h : Nat} (hr : h % 524288 = 459979) : xOf (lcgN s36 h) = (xOf h + 23176) % 16777216 ∧ lcgN s36 h % 524288 = 459979 := by
  obtain ⟨q, hq⟩ : ∃ q, h = 524288 * q + 459979 := ⟨h / 524288, by omega⟩
  obtain ⟨k, hk⟩ : ∃ k, h * 5149081397473837057 + 14228472455390822400 = h + 144115188075855872 * k + 199080324104192 := ⟨18732249 * q + 16434656, by omega⟩
  have e := lcg36 h
  rw [hk] at e
  clear hk hq
  unfold xOf
  generalize lcgN s36 h = z at *
  omega
theorem two_a {h : Nat} (hr : h % 524288 = 180358) : lcgN 2 h % 524288 = 13608 := by
  rw [lcg2]
  omega
theorem two_c {h : Nat} (hr : h % 524288 = 204337) : lcgN 2 h % 524288 = 459979 := by
  rw [lcg2]
  omega
/-- The test. -/
def T3 (h : Nat) : Prop := xOf h % 3 = 0
theorem xOf_lt (h : Nat) : xOf h < 16777216 := Nat.mod_lt _ (by decide)
theorem tri_a {X Y : Nat} (h1 : X + 5584 < 16777216) (h2 : Y + 92752 < 16777216) (t0 : X % 3 = 0 ∨ Y % 3 = 0) (t1 : (X + 2792) % 16777216 % 3 = 0 ∨ (Y + 46376) % 16777216 % 3 = 0)
    (t2 : ((X + 2792) % 16777216 + 2792) % 16777216 % 3 = 0 ∨ ((Y + 46376) % 16777216 + 46376) % 16777216 % 3 = 0) : False := by
  have a1 : (X + 2792) % 16777216 = X + 2792 := by omega
  have a2 : (Y + 46376) % 16777216 = Y + 46376 := by omega
  have a3 : ((X + 2792) % 16777216 + 2792) % 16777216 = X + 2792 + 2792 := by omega
  have a4 : ((Y + 46376) % 16777216 + 46376) % 16777216 = Y + 46376 + 46376 := by omega
  generalize ((X + 2792) % 16777216 + 2792) % 16777216 = x2 at *
  generalize ((Y + 46376) % 16777216 + 46376) % 16777216 = y2 at *
  generalize (X + 2792) % 16777216 = x1 at *
  generalize (Y + 46376) % 16777216 = y1 at *
  subst a1 a2 a3 a4
  clear h1 h2
  omega
theorem seven_a (x y : Nat → Nat) (hx : ∀ i, x i < 16777216) (hy : ∀ i, y i < 16777216) (sx : ∀ i, x (i + 1) = (x i + 2792) % 16777216) (sy : ∀ i, y (i + 1) = (y i + 46376) % 16777216) (h : ∀ i, i < 7 → x i % 3 = 0 ∨ y i % 3 = 0) : False := by
  have go : ∀ j, j < 5 → x j + 5584 < 16777216 → y j + 92752 < 16777216 → False := fun j hj h1 h2 => by
    have t0 := h j (by omega)
    have t1 := h (j + 1) (by omega)
    have t2 := h (j + 1 + 1) (by omega)
    rw [sx (j + 1), sy (j + 1)] at t2
    rw [sx j, sy j] at t1 t2
    exact tri_a h1 h2 t0 t1 t2
  have jump : ∀ j, x (j + 2) = (x j + 5584) % 16777216 ∧ y (j + 2) = (y j + 92752) % 16777216 := fun j => by
    have a1 := sx j
    have a2 := sx (j + 1)
    have b1 := sy j
    have b2 := sy (j + 1)
    have hxj := hx j
    have hyj := hy j
    show x (j + 1 + 1) = _ ∧ y (j + 1 + 1) = _
    constructor <;> omega
  have j0 := jump 0
  have j2 := jump 2
  have g0 := go 0 (by omega)
  have g2 := go 2 (by omega)
  have g4 := go 4 (by omega)
  have b0 := hx 0; have c0 := hy 0
  have b2 := hx 2; have c2 := hy 2
  have b4 := hx 4; have c4 := hy 4
  have e2 : 0 + 2 = 2 := Eq.refl _
  have e4 : 2 + 2 = 4 := Eq.refl _
  rw [e2] at j0
  rw [e4] at j2
  clear h go jump sx sy hx hy e2 e4
  by_cases p0 : x 0 + 5584 < 16777216 <;> by_cases q0 : y 0 + 92752 < 16777216 <;> by_cases p2 : x 2 + 5584 < 16777216 <;> by_cases q2 : y 2 + 92752 < 16777216 <;> by_cases p4 : x 4 + 5584 < 16777216 <;> by_cases q4 : y 4 + 92752 < 16777216 <;> first | exact g0 p0 q0 | exact g2 p2 q2 | exact g4 p4 q4 | omega
theorem tri_c {X Y : Nat} (h1 : X + 37520 < 16777216) (h2 : Y + 46352 < 16777216) (t0 : X % 3 = 0 ∨ Y % 3 = 0) (t1 : (X + 18760) % 16777216 % 3 = 0 ∨ (Y + 23176) % 16777216 % 3 = 0)
    (t2 : ((X + 18760) % 16777216 + 18760) % 16777216 % 3 = 0 ∨ ((Y + 23176) % 16777216 + 23176) % 16777216 % 3 = 0) : False := by
  have a1 : (X + 18760) % 16777216 = X + 18760 := by omega
  have a2 : (Y + 23176) % 16777216 = Y + 23176 := by omega
  have a3 : ((X + 18760) % 16777216 + 18760) % 16777216 = X + 18760 + 18760 := by omega
  have a4 : ((Y + 23176) % 16777216 + 23176) % 16777216 = Y + 23176 + 23176 := by omega
  generalize ((X + 18760) % 16777216 + 18760) % 16777216 = x2 at *
  generalize ((Y + 23176) % 16777216 + 23176) % 16777216 = y2 at *
  generalize (X + 18760) % 16777216 = x1 at *
  generalize (Y + 23176) % 16777216 = y1 at *
  subst a1 a2 a3 a4
  clear h1 h2
  omega
theorem seven_c (x y : Nat → Nat) (hx : ∀ i, x i < 16777216) (hy : ∀ i, y i < 16777216) (sx : ∀ i, x (i + 1) = (x i + 18760) % 16777216) (sy : ∀ i, y (i + 1) = (y i + 23176) % 16777216) (h : ∀ i, i < 7 → x i % 3 = 0 ∨ y i % 3 = 0) : False := by
  have go : ∀ j, j < 5 → x j + 37520 < 16777216 → y j + 46352 < 16777216 → False := fun j hj h1 h2 => by
    have t0 := h j (by omega)
    have t1 := h (j + 1) (by omega)
    have t2 := h (j + 1 + 1) (by omega)
    rw [sx (j + 1), sy (j + 1)] at t2
    rw [sx j, sy j] at t1 t2
    exact tri_c h1 h2 t0 t1 t2
  have jump : ∀ j, x (j + 2) = (x j + 37520) % 16777216 ∧ y (j + 2) = (y j + 46352) % 16777216 := fun j => by
    have a1 := sx j
    have a2 := sx (j + 1)
    have b1 := sy j
    have b2 := sy (j + 1)
    have hxj := hx j
    have hyj := hy j
    show x (j + 1 + 1) = _ ∧ y (j + 1 + 1) = _
    constructor <;> omega
  have j0 := jump 0
  have j2 := jump 2
  have g0 := go 0 (by omega)
  have g2 := go 2 (by omega)
  have g4 := go 4 (by omega)
  have b0 := hx 0; have c0 := hy 0
  have b2 := hx 2; have c2 := hy 2
  have b4 := hx 4; have c4 := hy 4
  have e2 : 0 + 2 = 2 := Eq.refl _
  have e4 : 2 + 2 = 4 := Eq.refl _
  rw [e2] at j0
  rw [e4] at j2
  clear h go jump sx sy hx hy e2 e4
  by_cases p0 : x 0 + 37520 < 16777216 <;> by_cases q0 : y 0 + 46352 < 16777216 <;> by_cases p2 : x 2 + 37520 < 16777216 <;> by_cases q2 : y 2 + 46352 < 16777216 <;> by_cases p4 : x 4 + 37520 < 16777216 <;> by_cases q4 : y 4 + 46352 < 16777216 <;> first | exact g0 p0 q0 | exact g2 p2 q2 | exact g4 p4 q4 | omega
theorem stop_a {g : Nat} (hr : g % 524288 = 180358) (h : ∀ i, i < 7 → T3 (lcgN (i * s36) g) ∨ T3 (lcgN 2 (lcgN (i * s36) g))) : False := by
  have st : ∀ i, lcgN ((i + 1) * s36) g = lcgN s36 (lcgN (i * s36) g) := fun i => by rw [Nat.add_mul, Nat.one_mul, lcgN_add]
  have hm : ∀ i, lcgN (i * s36) g % 524288 = 180358 := fun i => by
    induction i with
    | zero => rw [Nat.zero_mul, lcgN_z]; exact hr
    | succ i ih => rw [st]; exact (shift_a ih).2
  have sw : ∀ u, lcgN 2 (lcgN s36 u) = lcgN s36 (lcgN 2 u) := fun u => by rw [← lcgN_add, ← lcgN_add, Nat.add_comm]
  exact seven_a (fun i => xOf (lcgN (i * s36) g)) (fun i => xOf (lcgN 2 (lcgN (i * s36) g))) (fun i => xOf_lt _) (fun i => xOf_lt _)
    (fun i => by show xOf (lcgN ((i + 1) * s36) g) = _; rw [st]; exact (shift_a (hm i)).1)
    (fun i => by show xOf (lcgN 2 (lcgN ((i + 1) * s36) g)) = _; rw [st, sw]; exact (shift_b (two_a (hm i))).1) h
theorem stop_c {g : Nat} (hr : g % 524288 = 204337) (h : ∀ i, i < 7 → T3 (lcgN (i * s36) g) ∨ T3 (lcgN 2 (lcgN (i * s36) g))) : False := by
  have st : ∀ i, lcgN ((i + 1) * s36) g = lcgN s36 (lcgN (i * s36) g) := fun i => by rw [Nat.add_mul, Nat.one_mul, lcgN_add]
  have hm : ∀ i, lcgN (i * s36) g % 524288 = 204337 := fun i => by
    induction i with
    | zero => rw [Nat.zero_mul, lcgN_z]; exact hr
    | succ i ih => rw [st]; exact (shift_c ih).2
  have sw : ∀ u, lcgN 2 (lcgN s36 u) = lcgN s36 (lcgN 2 u) := fun u => by rw [← lcgN_add, ← lcgN_add, Nat.add_comm]
  exact seven_c (fun i => xOf (lcgN (i * s36) g)) (fun i => xOf (lcgN 2 (lcgN (i * s36) g))) (fun i => xOf_lt _) (fun i => xOf_lt _)
    (fun i => by show xOf (lcgN ((i + 1) * s36) g) = _; rw [st]; exact (shift_c (hm i)).1)
    (fun i => by show xOf (lcgN 2 (lcgN ((i + 1) * s36) g)) = _; rw [st, sw]; exact (shift_d (two_c (hm i))).1) h
/-- Tests at every second or fourth number cannot all pass for 2^40 numbers. -/
theorem lcg_stop (h L : Nat) (hP : ∀ n, n % 2 = 0 → n + 2 ≤ L → T3 (lcgN n h) ∨ T3 (lcgN (n + 2) h)) : L < 1099511627776 := by
  rcases Nat.lt_or_ge L 1099511627776 with hlt | hge
  · exact hlt
  exfalso
  have key : ∀ n, n % 2 = 0 → n < 524288 → ∀ i, i < 7 → T3 (lcgN (i * s36) (lcgN n h)) ∨ T3 (lcgN 2 (lcgN (i * s36) (lcgN n h))) := fun n h0 h1 i hi => by
    have hs := s36_n
    have hb : i * s36 ≤ 6 * 68719476736 := by rw [hs]; exact Nat.mul_le_mul_right _ (by omega)
    have he : i * s36 % 2 = 0 := by rw [hs]; omega
    have := hP (n + i * s36) (by omega) (by omega)
    rw [lcgN_add, lcgN_add (n + i * s36) 2, lcgN_add] at this
    exact this
  rcases Nat.mod_two_eq_zero_or_one h with h2 | h2
  · obtain ⟨n, n0, n1, n2⟩ := lcg_reach h 180358 (by rw [h2]) 18 (by decide)
    exact stop_a (g := lcgN n h) n2 (key n n0 n1)
  · obtain ⟨n, n0, n1, n2⟩ := lcg_reach h 204337 (by rw [h2]) 18 (by decide)
    exact stop_c (g := lcgN n h) n2 (key n n0 n1)
end Go.Proofs.YtnbhghgkjcfcmaaDoor

namespace Go.Proofs.YtnbhghgkjcfcmaaDoor
set_option linter.unusedVariables false
set_option linter.unusedSimpArgs false

/-- r rounds can follow from the number h on. -/
inductive Chain : Nat → Nat → Prop
  | zero (h : Nat) : Chain h 0
  | step {h g r : Nat} : T3 (lcg h) → (g = 2 ∨ g = 4) → Chain (lcgN g h) r → Chain h (r + 1)
theorem Chain.head {h r : Nat} (c : Chain h (r + 1)) : T3 (lcg h) := by
  cases c with
  | step t _ _ => exact t
/-- Tests at every second or fourth number. -/
def Tests (h c : Nat) : Prop := ∀ n, n % 2 = 0 → n + 2 ≤ c → T3 (lcgN (n + 1) h) ∨ T3 (lcgN (n + 3) h)
theorem lcgN_shift (g n h : Nat) : lcgN n (lcgN g h) = lcgN (g + n) h := (lcgN_add g n h).symm
theorem Chain.tests : ∀ {r h : Nat}, Chain h (r + 1) → ∃ c, 2 * (r + 1) ≤ c ∧ Tests h c
  | 0, h, c => ⟨2, by omega, fun n h0 h1 => by
      obtain rfl : n = 0 := by omega
      left
      rw [lcgN_one]
      exact c.head⟩
  | r + 1, h, c => by
    have hd := c.head
    cases c with
    | @step _ g _ _ hg c' =>
      obtain ⟨m, h1, h2⟩ := Chain.tests c'
      have hd' := c'.head
      refine ⟨m + g, by rcases hg with rfl | rfl <;> omega, fun n h0 hn => ?_⟩
      by_cases e0 : n = 0
      · subst e0; left; rw [lcgN_one]; exact hd
      by_cases e1 : g ≤ n
      · have := h2 (n - g) (by rcases hg with rfl | rfl <;> omega) (by omega)
        rw [lcgN_shift, lcgN_shift] at this
        rwa [show g + (n - g + 1) = n + 1 from by omega, show g + (n - g + 3) = n + 3 from by omega] at this
      · obtain ⟨rfl, rfl⟩ : g = 4 ∧ n = 2 := by rcases hg with rfl | rfl <;> omega
        right
        have e : lcg (lcgN 4 h) = lcgN (2 + 3) h := by rw [← lcgN_one, lcgN_shift]
        rw [← e]; exact hd'
theorem Chain.few {h r : Nat} (c : Chain h r) : r ≤ 549755813888 := by
  cases r with
  | zero => omega
  | succ r =>
    obtain ⟨m, h1, h2⟩ := c.tests
    have := lcg_stop (lcg h) m (fun n h0 hn => by
      have := h2 n h0 hn
      have e : ∀ k, lcgN k (lcg h) = lcgN (k + 1) h := fun k => by rw [← lcgN_one, lcgN_shift, Nat.add_comm]
      rw [e, e]
      exact this)
    omega
theorem max_ex {P : Nat → Prop} (h0 : P 0) : ∀ B : Nat, (∀ r, P r → r ≤ B) → ∃ m, P m ∧ ∀ r, P r → r ≤ m
  | 0, hB => ⟨0, h0, hB⟩
  | B + 1, hB => by
    by_cases h : P (B + 1)
    · exact ⟨B + 1, h, hB⟩
    · exact max_ex h0 B fun r hr => by
        have := hB r hr
        by_cases e : r = B + 1
        · subst e; exact absurd hr h
        · omega
/-- How many rounds can follow at most. -/
noncomputable def rank (h : Nat) : Nat := Classical.choose (max_ex (P := Chain h) (.zero h) 549755813888 fun _ c => c.few)
theorem rank_is (h : Nat) : Chain h (rank h) ∧ ∀ r, Chain h r → r ≤ rank h := Classical.choose_spec (max_ex (P := Chain h) (.zero h) 549755813888 fun _ c => c.few)
theorem rank_le (h : Nat) : rank h ≤ 549755813888 := (rank_is h).1.few
theorem rank_step {h g : Nat} (t : T3 (lcg h)) (hg : g = 2 ∨ g = 4) : rank (lcgN g h) + 1 ≤ rank h := (rank_is h).2 _ (.step t hg (rank_is _).1)
/-- What is left of the rounds: n numbers of the code, i of them used, the number h. -/
noncomputable def pot (n i h : Nat) : Nat := if i < n then (n - i) + 549755813888 else rank h
theorem pot_le {n i h : Nat} (hn : n ≤ 4096) : pot n i h ≤ 549755817984 := by
  unfold pot
  split
  · omega
  · have := rank_le h; omega
/-- A round, where the code is not used up. -/
theorem pot_code {n i i' h h' : Nat} (hi : i < n) (hii : i < i') : pot n i' h' + 1 ≤ pot n i h := by
  unfold pot
  rw [if_pos hi]
  split
  · omega
  · have := rank_le h'; omega
/-- A round behind the code. -/
theorem pot_free {n i i' h g : Nat} (hi : n ≤ i) (hi' : n ≤ i') (t : T3 (lcg h)) (hg : g = 2 ∨ g = 4) : pot n i' (lcgN g h) + 1 ≤ pot n i h := by
  unfold pot
  rw [if_neg (by omega), if_neg (by omega)]
  exact rank_step t hg
end Go.Proofs.YtnbhghgkjcfcmaaDoor

namespace Go.Proofs.YtnbhghgkjcfcmaaDoor
set_option linter.unusedVariables false
set_option linter.unusedSimpArgs false
open Go Go.RowKit

/-- The source at block b: a code of m bytes, i of them used, the number h. -/
def SrcX (w : World) (b m i h : Nat) : Prop :=
  ∃ v : Value, Blk w b 73 [v, .int .i64 i, .int .u64 (h : Int)] ∧ BytesB w v m b ∧ i ≤ m ∧ h ≤ 18446744073709551615 ∧ m ≤ 4096
theorem Src.x {w : World} {b : Nat} (h : Src w b) : ∃ m i h, SrcX w b m i h := by
  obtain ⟨v, n, i, x, h1, h2, h3, h4, h5, h6⟩ := h
  obtain ⟨y, rfl⟩ : ∃ y : Nat, x = y := ⟨x.toNat, by omega⟩
  exact ⟨n, i, y, v, h1, h2, h3, by omega, h6⟩
theorem SrcX.src {w : World} {b m i h : Nat} (k : SrcX w b m i h) : Src w b := by
  obtain ⟨v, h1, h2, h3, h4, h5⟩ := k
  exact ⟨v, m, i, h, h1, h2, h3, by omega, by omega, h5⟩
theorem SrcX.keep {S : Nat → Prop} {w w' : World} {b m i h : Nat} (hs : SrcX w b m i h) (k : Keep S w w') (hS : ∀ p, p ≤ b → ¬ S p) : SrcX w' b m i h := by
  obtain ⟨v, h1, h2, h3⟩ := hs
  exact ⟨v, h1.of_block (k.block b h1.lt (hS b (Nat.le_refl _))), h2.keep k (fun p hp => hS p (by omega)), h3⟩
theorem SrcX.lt {w : World} {b m i h : Nat} (k : SrcX w b m i h) : b < w.heap.size := k.src.lt
theorem SrcX.under {w w' : World} {b m i h : Nat} (hs : SrcX w b m i h) (hb : Below w.heap.size w w') : SrcX w' b m i h :=
  hs.keep (S := fun k => w.heap.size ≤ k) (Keep.of_below hb) (fun p hp e => by have := hs.lt; omega)
theorem SrcX.m4 {w : World} {b m i h : Nat} (k : SrcX w b m i h) : m ≤ 4096 := by
  obtain ⟨v, h1, h2, h3, h4, h5⟩ := k; exact h5
/-- What a number that is drawn leaves: the next one. -/
def NextX (b m i h : Nat) (w w' : World) (i' : Nat) : Prop := SrcX w' b m i' (lcg h) ∧ (i < m → i < i') ∧ (m ≤ i → m ≤ i') ∧ Keep (fun k => k = b) w w'

set_option maxRecDepth 100000 in
set_option maxHeartbeats 1600000 in
theorem c_l01NextX (b m i h : Nat) (n : Int) (w : World) (hs : SrcX w b m i h) (h1 : 1 ≤ n) (h2 : n ≤ 9223372036854775807) :
    Calls Tryd.prog 34 #[.pointer (some ⟨b, 0, none⟩), .int .i64 n] w (fun e w' => ∃ (r : Int) (i' : Nat), e = .returned (.int .i64 r) ∧ 0 ≤ r ∧ r < n ∧ SrcX w' b m i' (lcg h) ∧ (i < m → i < i') ∧ (m ≤ i → m ≤ i' ∧ r = ((xOf (lcg h) : Nat) : Int) % n) ∧ Keep (fun k => k = b) w w') := by
  obtain ⟨v, hblk, hby, him, hhh, hm4⟩ := hs
  have HBy := Lib.hid hby
  obtain ⟨a, c, hv, hmc, hcm, hcell⟩ := hby
  subst hv
  obtain ⟨W, hW⟩ : ∃ W : Int, IntKind.u64.wrap (IntKind.u64.wrap ((h : Int) * 6364136223846793005) + 1442695040888963407) = W := ⟨_, rfl⟩
  have hWr := wrap64 (IntKind.u64.wrap ((h : Int) * 6364136223846793005) + 1442695040888963407)
  rw [hW] at hWr
  obtain ⟨hW0, hW1⟩ := hWr
  have hWl : W = ((lcg h : Nat) : Int) := by
    rw [← hW, lcg_eq, IntKind.wrap_u64, IntKind.wrap_u64]; omega
  obtain ⟨X, hX⟩ : ∃ X : Int, bits BinOp.and IntKind.u64 (W / 8589934592) 16777215 = X := ⟨_, rfl⟩
  have hXr : 0 ≤ X ∧ X < 16777216 := by
    rw [and_24 _ (by omega) (by omega)] at hX; omega
  obtain ⟨hX0, hX1⟩ := hXr
  have hXl : X = ((xOf (lcg h) : Nat) : Int) := by
    rw [and_24 _ (by omega) (by omega)] at hX
    unfold xOf; omega
  have HWl := Lib.hid hWl; have HXl := Lib.hid hXl
  clear hWl hXl
  have hXw : IntKind.i64.wrap X = X := by rw [IntKind.wrap_i64]; omega
  have hb2 := hblk.set 2 (.int .u64 W)
  have hk2 : Keep (fun k => k = b) w (w.setCell ⟨b, 2, none⟩ (.int .u64 W)) := (Keep.refl (fun k => k = b) w).setCell (p := ⟨b, 2, none⟩) (.inl rfl) _
  have hBy2 := HBy.out.keep hk2 (fun p hp e => by have e : p = b := e; omega)
  go_enter Tryd.func34, Tryd.ntmps34
  have c0 := hblk.cell (i := 0) (by simp); have c1 := hblk.cell (i := 1) (by simp); have c2 := hblk.cell (i := 2) (by simp)
  have f2 := hblk.frozen 2
  have d0 := hb2.cell (i := 0) (by simp); have d1 := hb2.cell (i := 1) (by simp)
  simp only [List.getElem_cons_zero, List.getElem_cons_succ, List.set_cons_succ, List.set_cons_zero] at c0 c1 c2 d0 d1 hb2
  have HB2 := Lib.hid hb2; have HK2 := Lib.hid hk2; have HBY2 := Lib.hid hBy2
  clear hb2 hk2 hBy2 hblk
  by_cases hlt : i < m
  · obtain ⟨p0, o0, x, ha0, hpb, hcx, hx0, hx1⟩ := hcell i hlt
    subst ha0
    go_wp2
    go_quiet (fail)
    rename_i nq
    have hbq : Below (w.setCell ⟨b, 2, none⟩ (.int .u64 W)).heap.size (w.setCell ⟨b, 2, none⟩ (.int .u64 W)) ((w.setCell ⟨b, 2, none⟩ (.int .u64 W)).drewN nq) := below_drewN (Below.refl _ _) nq
    generalize (w.setCell ⟨b, 2, none⟩ (.int .u64 W)).drewN nq = wq at hbq ⊢
    have hBq := HB2.out.under hbq
    have e0 := hBq.cell (i := 0) (by simp); have e1 := hBq.cell (i := 1) (by simp)
    simp only [List.getElem_cons_zero, List.getElem_cons_succ] at e0 e1
    have g1 := hBq.frozen 1
    have hcx2 := cell_of_block (HK2.out.block p0 (cell_lt hcx) (fun e => by have e : p0 = b := e; omega)) hcx
    have hcq := cell_under hbq hcx2
    have HBq := Lib.hid hBq; have hKq := Lib.hid (HK2.out.under hbq)
    clear hBq c0 c1 c2 f2 d0 d1 hcx hcx2 hbq hW hX hXw
    go_wp2
    go_quiet (fail)
    have hbq : Below wq.heap.size wq (wq.drewN nq) := below_drewN (Below.refl _ _) nq
    have hBr := HBq.out.under hbq
    have hKr := hKq.out.under hbq
    generalize wq.drewN nq = wr at hbq hBr hKr ⊢
    have k1 := hBr.cell (i := 1) (by simp)
    simp only [List.getElem_cons_zero, List.getElem_cons_succ] at k1
    have g2 := hBr.frozen 1
    have hBs := hBr.set 1 (.int .i64 ((i + 1 : Nat) : Int))
    have hKs := hKr.setCell (p := ⟨b, 1, none⟩) (.inl rfl) (.int .i64 ((i + 1 : Nat) : Int))
    have HBs := Lib.hid hBs; have HKs := Lib.hid hKs
    have hmm : i + 1 ≤ m := hlt
    have hi63 : m ≤ 9223372036854775807 := by unfold maxLen at hcm; omega
    clear e0 e1 g1 hcq hbq hBr hKr hBs hKs
    have hn0 : 0 < n := by omega
    have hv0 := Int.emod_nonneg (X + x) (show n ≠ 0 by omega)
    have hv1 := Int.emod_lt_of_pos (X + x) hn0
    have HR := Lib.hid (And.intro hv0 hv1)
    clear hv0 hv1
    go_wp2
    go_ret
    exact ⟨(X + x) % n, i + 1, rfl, HR.out.1, HR.out.2, ⟨_, by rw [← HWl.out]; exact HBs.out, HBy.out.keep HKs.out (fun p hp e => by have e : p = b := e; omega), hmm, by have := HWl.out; omega, hm4⟩, fun _ => by omega, fun h => by omega, HKs.out⟩
  · have hlt' : ¬ ((i : Int) < m) := by omega
    clear hlt
    go_wp2
    go_quiet (fail)
    have hbq : Below (w.setCell ⟨b, 2, none⟩ (.int .u64 W)).heap.size (w.setCell ⟨b, 2, none⟩ (.int .u64 W)) ((w.setCell ⟨b, 2, none⟩ (.int .u64 W)).drewN nq) := below_drewN (Below.refl _ _) nq
    generalize (w.setCell ⟨b, 2, none⟩ (.int .u64 W)).drewN nq = wq at hbq ⊢
    have HBs := Lib.hid (HB2.out.under hbq); have HKs := Lib.hid (HK2.out.under hbq)
    have hn0 : 0 < n := by omega
    have hv0 := Int.emod_nonneg X (show n ≠ 0 by omega)
    have hv1 := Int.emod_lt_of_pos X hn0
    have HR := Lib.hid (And.intro hv0 hv1)
    clear hv0 hv1 c0 c1 c2 f2 d0 d1 hbq hW hX hXw
    go_wp2
    go_ret
    exact ⟨X % n, i, rfl, HR.out.1, HR.out.2, ⟨_, by rw [← HWl.out]; exact HBs.out, HBy.out.keep HKs.out (fun p hp e => by have e : p = b := e; omega), him, by have := HWl.out; omega, hm4⟩, fun h => by omega, fun _ => ⟨by omega, by rw [HXl.out]⟩, HKs.out⟩
end Go.Proofs.YtnbhghgkjcfcmaaDoor

namespace Go.Proofs.YtnbhghgkjcfcmaaDoor
set_option linter.unusedVariables false
set_option linter.unusedSimpArgs false
open Go Go.RowKit

def signs : List ByteArray := [⟨#[48]⟩, ⟨#[49]⟩, ⟨#[50]⟩, ⟨#[53]⟩, ⟨#[57]⟩, ⟨#[97]⟩, ⟨#[98]⟩, ⟨#[99]⟩, ⟨#[47]⟩, ⟨#[124]⟩, ⟨#[32]⟩, ⟨#[44]⟩, ⟨#[45]⟩, ⟨#[58]⟩, ⟨#[120]⟩, ⟨#[121]⟩, ⟨#[115]⟩, ⟨#[10]⟩]
theorem signs_one : ∀ c ∈ signs, c.size = 1 := by
  intro c hc
  simp only [signs, List.mem_cons, List.not_mem_nil, or_false] at hc
  rcases hc with rfl | rfl | rfl | rfl | rfl | rfl | rfl | rfl | rfl | rfl | rfl | rfl | rfl | rfl | rfl | rfl | rfl | rfl <;> rfl
/-- What damage leaves. -/
def RDam (b m i h : Nat) (t : ByteArray) (w : World) (e : Ending) (w' : World) : Prop :=
  ∃ (r : ByteArray) (i' h' : Nat), e = .returned (.string r) ∧ r.size ≤ t.size + 1 ∧ SrcX w' b m i' h' ∧ (i < m → i < i') ∧ (m ≤ i → m ≤ i' ∧ ∃ g, (g = 1 ∨ g = 3) ∧ h' = lcgN g h) ∧ Keep (fun k => k = b) w w'
theorem lcgN_three (h : Nat) : lcg (lcg (lcg h)) = lcgN 3 h := by
  rw [show (3 : Nat) = 0 + 1 + 1 + 1 from rfl, lcgN_succ, lcgN_succ, lcgN_succ, lcgN_z]
set_option maxRecDepth 100000 in
set_option maxHeartbeats 4000000 in
theorem c_l01Damage (b m i h : Nat) (t : ByteArray) (w : World) (hs : SrcX w b m i h) (hn : t.size ≤ 1099511627776) :
    Calls Tryd.prog 35 #[.pointer (some ⟨b, 0, none⟩), .string t] w (RDam b m i h t w) := by
  have hbl := hs.lt
  have hbel : Below w.heap.size w (w.alloc (.cells (signs.map Value.string).toArray 9)) := (Below.refl _ _).alloc (Nat.le_refl _) _
  have HS0 := Lib.hid (hs.under hbel)
  have HK0 := Lib.hid ((Keep.refl (fun k => k = b) w).alloc (.cells (signs.map Value.string).toArray 9))
  have HB0 := Lib.hid (Blk.new w (signs.map Value.string) 9)
  clear hs hbel
  simp only [signs, List.map_cons, List.map_nil] at HS0 HK0 HB0
  go_enter Tryd.func35, Tryd.ntmps35
  go_wp2_with fail
  refine (c_l01NextX b m i h 18 _ HS0.out (by omega) (by omega)).mono ?_; rintro e w1 ⟨r, i1, rfl, r0, r1, hs1, hi1, hm1, hk1⟩
  obtain ⟨u, rfl⟩ : ∃ u : Nat, r = u := ⟨r.toNat, by omega⟩
  have hu : u < 18 := by omega
  have hblk := HB0.out.of_block (hk1.block w.heap.size HB0.out.lt (fun e => by have e : w.heap.size = b := e; omega))
  have hb2 : Blk w1 w.heap.size 9 (signs.map Value.string) := hblk
  have hul : u < signs.length := hu
  have hcell := hb2.cell (i := u) (by simpa using hul)
  rw [List.getElem_map] at hcell
  have hc1 := signs_one _ (List.getElem_mem hul)
  obtain ⟨c, hc⟩ : ∃ c, signs[u] = c := ⟨_, rfl⟩
  rw [hc] at hcell hc1
  have HK1 := Lib.hid (HK0.out.trans hk1)
  have HS1 := Lib.hid hs1; have HN1 := Lib.hid (And.intro hi1 hm1); have HC1 := Lib.hid hc1
  have hcs : c.size = 1 := hc1
  clear hblk hb2 hc hc1 hs1 hk1 hi1 hm1 HS0 HK0 HB0
  by_cases h0 : t.size = 0
  · have h0I : ((t.size : Int) == 0) = true := by simp [h0]
    have HT0 := Lib.hid h0
    clear h0 hcs
    go_wp2
    go_ret
    refine ⟨c, i1, lcg h, rfl, by have := HC1.out; omega, HS1.out, HN1.out.1, fun hm => ⟨(HN1.out.2 hm).1, 1, .inl rfl, (lcgN_one h).symm⟩, HK1.out⟩
  have h0I : ((t.size : Int) == 0) = false := by simp [h0]
  have ht1 : (1 : Int) ≤ (t.size : Int) := by omega
  have ht2 : (t.size : Int) ≤ 9223372036854775807 := by omega
  go_wp2_with fail
  refine (c_l01NextX b m i1 (lcg h) t.size _ HS1.out ht1 ht2).mono ?_; rintro e w2 ⟨k, i2, rfl, k0, k1, hs2, hi2, hm2, hk2⟩
  obtain ⟨K, rfl⟩ : ∃ K : Nat, k = K := ⟨k.toNat, by omega⟩
  have hK : K < t.size := by omega
  have HK2 := Lib.hid (HK1.out.trans hk2); have HS2 := Lib.hid hs2; have HN2 := Lib.hid (And.intro hi2 hm2)
  clear hs2 hi2 hm2 hk2 hcell
  go_wp2_with fail
  refine (c_l01NextX b m i2 (lcg (lcg h)) 3 _ HS2.out (by omega) (by omega)).mono ?_; rintro e w3 ⟨kd, i3, rfl, d0, d1, hs3, hi3, hm3, hk3⟩
  have HK3 := Lib.hid (HK2.out.trans hk3); have HS3 := Lib.hid hs3
  have HN3 : Hid ((i < m → i < i3) ∧ (m ≤ i → m ≤ i3 ∧ ∃ g, (g = 1 ∨ g = 3) ∧ lcg (lcg (lcg h)) = lcgN g h)) := Lib.hid ⟨fun hlt => by
      have a1 := HN1.out.1 hlt
      by_cases q1 : i1 < m
      · have a2 := HN2.out.1 q1
        by_cases q2 : i2 < m
        · have := hi3 q2; omega
        · have := (hm3 (by omega)).1; omega
      · have a2 := (HN2.out.2 (by omega)).1
        have := (hm3 a2).1; omega, fun hge => ⟨(hm3 (HN2.out.2 (HN1.out.2 hge).1).1).1, 3, .inr rfl, lcgN_three h⟩⟩
  clear hs3 hi3 hm3 hk3
  have z1 : (t.extract 0 K).size = K := by rw [ByteArray.size_extract]; omega
  have z2 : (t.extract (K + 1) t.size).size = t.size - (K + 1) := by rw [ByteArray.size_extract]; omega
  have z3 : (t.extract K t.size).size = t.size - K := by rw [ByteArray.size_extract]; omega
  have HZ := Lib.hid (And.intro z1 (And.intro z2 (And.intro z3 hcs)))
  have q1 : ¬ (9223372036854775807 < (t.extract 0 K).size + c.size) := by omega
  have q2 : ¬ (9223372036854775807 < (t.extract 0 K ++ c).size + (t.extract (K + 1) t.size).size) := by rw [ByteArray.size_append]; omega
  have q3 : ¬ (9223372036854775807 < (t.extract 0 K).size + (t.extract (K + 1) t.size).size) := by omega
  have q4 : ¬ (9223372036854775807 < (t.extract 0 K ++ c).size + (t.extract K t.size).size) := by rw [ByteArray.size_append]; omega
  by_cases e0 : kd = 0
  · subst e0
    go_wp2
    go_quiet (fail)
    rename_i nq
    have HS4 := Lib.hid (HS3.out.under (below_drewN (Below.refl _ w3) nq)); have HK4 := Lib.hid (HK3.out.drewN nq)
    go_wp2
    go_ret
    exact ⟨_, i3, _, rfl, by obtain ⟨z1, z2, z3, z4⟩ := HZ.out; simp only [ByteArray.size_append, z1, z2, z3, z4]; omega, HS4.out, HN3.out.1, HN3.out.2, HK4.out⟩
  have y0 : (kd == 0) = false := by simp [e0]
  by_cases e1 : kd = 1
  · subst e1
    go_wp2
    go_quiet (fail)
    rename_i nq
    have HS4 := Lib.hid (HS3.out.under (below_drewN (Below.refl _ w3) nq)); have HK4 := Lib.hid (HK3.out.drewN nq)
    go_wp2
    go_ret
    exact ⟨_, i3, _, rfl, by obtain ⟨z1, z2, z3, z4⟩ := HZ.out; simp only [ByteArray.size_append, z1, z2, z3, z4]; omega, HS4.out, HN3.out.1, HN3.out.2, HK4.out⟩
  have y1 : (kd == 1) = false := by simp [e1]
  go_wp2
  go_quiet (fail)
  rename_i nq
  have HS4 := Lib.hid (HS3.out.under (below_drewN (Below.refl _ w3) nq)); have HK4 := Lib.hid (HK3.out.drewN nq)
  go_wp2
  go_ret
  exact ⟨_, i3, _, rfl, by obtain ⟨z1, z2, z3, z4⟩ := HZ.out; simp only [ByteArray.size_append, z1, z2, z3, z4]; omega, HS4.out, HN3.out.1, HN3.out.2, HK4.out⟩
end Go.Proofs.YtnbhghgkjcfcmaaDoor

namespace Go.Proofs.YtnbhghgkjcfcmaaDoor
set_option linter.unusedVariables false
set_option linter.unusedSimpArgs false
open Go.RowKit

theorem Keep.chain {S T : Nat → Prop} {w w1 w2 : World} (h1 : Keep S w w1) (h2 : Keep T w1 w2) (hT : ∀ b, b < w.heap.size → T b → S b) : Keep S w w2 :=
  ⟨h2.os.trans h1.os, h2.tape.trans h1.tape, h2.output.trans h1.output, Nat.le_trans h1.size h2.size, fun k hk hn => (h2.block k (Nat.lt_of_lt_of_le hk h1.size) (fun h => hn (hT k hk h))).trans (h1.block k hk hn)⟩
theorem Own.keepR {B B0 : Nat} {w w' : World} {u v : Value} {xs : List Int} {yss : List (List Int)} (h : Own B w u xs) (hv : OwnRows B0 w v yss) (k : Keep (fun b => v.ownBlock = some b) w w') : Own B w' u xs := by
  obtain ⟨us', h3, h4⟩ := hv
  obtain ⟨hl, hn' | ⟨g, cap, cur, hv5, hbg, hg, r⟩⟩ := h
  · exact ⟨hl, .inl hn'⟩
  · refine ⟨hl, .inr ⟨g, cap, cur, hv5, hbg, ?_, r⟩⟩
    rw [k.block g (Array.getElem?_eq_some_iff.1 hg).1 ?_]; exact hg
    intro e
    obtain ⟨_, hnn | ⟨g', cap', cur', hv', _, hg', _⟩⟩ := h3
    · rw [hnn.1] at e; cases e
    · rw [hv'] at e
      simp [Value.ownBlock] at e
      subst e
      rw [hg] at hg'
      simp at hg'

def partG (n m : Nat) (start : List Int) (k : Nat) : List (List Int) := ((iota k).filter fun x => decide (¬ x ∈ start)).flatMap fun x => growL n m (start ++ [x])
theorem partG_succ (n m : Nat) (start : List Int) (k : Nat) : partG n m start (k + 1) = partG n m start k ++ (if (k : Int) ∈ start then [] else growL n m (start ++ [(k : Int)])) := by
  unfold partG
  rw [show iota (k + 1) = iota k ++ [(k : Int)] from by simp [iota, List.range_succ], List.filter_append, List.flatMap_append]
  congr 1
  by_cases h : (k : Int) ∈ start
  · simp [h]
  · simp [h]
theorem partG_mono (n m : Nat) (start : List Int) (k : Nat) : ∀ d, (partG n m start k).length ≤ (partG n m start (k + d)).length
  | 0 => Nat.le_refl _
  | d + 1 => by
    have := partG_mono n m start k d
    rw [← Nat.add_assoc, partG_succ, List.length_append]; omega
theorem partG_le {n m : Nat} {start : List Int} {k : Nat} (h : k ≤ n) : (partG n m start k).length ≤ (growL n (m + 1) start).length := by
  have := partG_mono n m start k (n - k)
  rw [show k + (n - k) = n from by omega] at this
  exact this

def GrowPost (w : World) (v : Value) (B : Nat) (ys : List (List Int)) (e : Ending) (w' : World) : Prop :=
  ∃ r, e = .returned r ∧ OwnRows B w' r ys ∧ Keep (fun b => v.ownBlock = some b) w w' ∧ ∀ b, r.ownBlock = some b → v.ownBlock = some b ∨ w.heap.size ≤ b


theorem growL_length (n : Nat) : ∀ (m : Nat) (start : List Int), (growL n m start).length ≤ n ^ m
  | 0, start => by simp [growL]
  | m + 1, start => by
    have h : ∀ k, (partG n m start k).length ≤ k * n ^ m := by
      intro k
      induction k with
      | zero => simp [partG, iota]
      | succ k ih =>
        rw [partG_succ, List.length_append, Nat.add_mul, Nat.one_mul]
        have : (if (k : Int) ∈ start then [] else growL n m (start ++ [(k : Int)])).length ≤ n ^ m := by
          split
          · simp
          · exact growL_length n m _
        omega
    have := h n
    rw [Nat.pow_succ, Nat.mul_comm]
    exact this
theorem allPerms_le {n : Nat} (h : n ≤ 7) : (allPerms n).length ≤ 823543 := by
  refine Nat.le_trans (growL_length n n []) ?_
  have h1 : n ^ n ≤ 7 ^ n := Nat.pow_le_pow_left h n
  have h2 : 7 ^ n ≤ 7 ^ 7 := Nat.pow_le_pow_right (by omega) h
  omega

end Go.Proofs.YtnbhghgkjcfcmaaDoor

namespace Go.Proofs.YtnbhghgkjcfcmaaDoor
set_option linter.unusedVariables false
set_option linter.unusedSimpArgs false
open Go Go.RowKit

theorem Own.keep1 {B : Nat} {w : World} {v : Value} {xs : List Int} (h : Own B w v xs) {p : Addr} (z : Value) (hp : v.ownBlock ≠ some p.block) : Own B (w.setCell p z) v xs := by
  obtain ⟨hl, hn | ⟨g, cap, cur, hv, hb, hg, r⟩⟩ := h
  · exact ⟨hl, .inl hn⟩
  · refine ⟨hl, .inr ⟨g, cap, cur, hv, hb, ?_, r⟩⟩
    rw [Below.heap_setCell _ _ _ _ (by intro e; apply hp; rw [hv, ← e]; rfl)]; exact hg
theorem drew_set {b : Nat} {w w' : World} (h : Drew b w w') {p : Addr} (hp : w.heap.size ≤ p.block) (hb : b < p.block) (z : Value) : Drew b w (w'.setCell p z) :=
  ⟨h.1.keep (S := fun x => x = p.block) ((Keep.refl (fun x => x = p.block) w').setCell (p := p) (.inl rfl) z) (fun q hq e => by omega), h.2.setCell (p := p) (.inr hp) z⟩
theorem drew_app {b B : Nat} {w w1 w2 : World} {v : Value} {xss : List (List Int)} (h : Drew b w w1) (ho : OwnRows B w1 v xss) (k : Keep (fun x => v.ownBlock = some x) w1 w2) (hb : b < w.heap.size) (hB : w.heap.size ≤ B := by exact Nat.le_refl _) : Drew b w w2 :=
  ⟨h.1.keep k (fun p hp e => by have := (OwnRows.lt ho e).1; omega), h.2.chain k (fun x hx e => by have := (OwnRows.lt ho e).1; omega)⟩

set_option maxRecDepth 100000 in
set_option maxHeartbeats 4000000 in
theorem c_l01Tables (b n : Nat) (w : World) (hs : Src w b) (h1 : 1 ≤ n) (h2 : n ≤ 1000) :
    Calls Tryd.prog 32 #[.pointer (some ⟨b, 0, none⟩), .int .i64 n] w (fun e w' => ∃ (r : Value) (X : List (List Int)), e = .returned r ∧ X.length = n ∧ (∀ row ∈ X, row.length = n) ∧ OwnRows w.heap.size w' r X ∧ Drew b w w') := by
  have hbl := hs.lt
  have hbel : Below w.heap.size w (w.alloc (.cells #[] 32)) := (Below.refl _ _).alloc (Nat.le_refl _) _
  have HD0 := Lib.hid ((Drew.refl hs).under hbel)
  have HO0 := Lib.hid (OwnRows.made0 w (Nat.le_refl w.heap.size))
  clear hs hbel
  go_enter Tryd.func32, Tryd.ntmps32
  go_wp2_with fail
  refine (c_l01Next b 3 _ HD0.out.1 (by omega) (by omega)).mono ?_; rintro e w1 ⟨kd, rfl, k0, k3, hd1⟩
  have HD1 := Lib.hid (HD0.out.trans hd1)
  have HO1 := Lib.hid (HO0.out.keep hd1.2 (fun x h1 h2 e => by have e : x = b := e; omega))
  clear hd1
  go_wp2_with fail
  refine (c_l01Draw b n _ HD1.out.1 h1 h2).mono ?_; rintro e w2 ⟨rf, fs, rfl, hfl, hof, hd2⟩
  have HD2 := Lib.hid (HD1.out.trans hd2)
  have HO2 := Lib.hid (HO1.out.keep hd2.2 (fun x h1 h2 e => by have e : x = b := e; omega))
  rcases hof.open with ⟨_, h0⟩ | ⟨gf, cf, hv, hgf, hblk, hmx⟩
  · rw [h0] at hfl; simp at hfl; omega
  rw [hfl] at hv hmx
  subst hv
  have HF2 := Lib.hid (And.intro (hof.mono HD1.out.2.size) hfl)
  clear hof hd2 hblk hmx hgf
  go_wp2
  go_loopw [5, 8] (fun t x wr => ∃ (k : Nat) (X : List (List Int)) (ta : Option Addr) (tc : Nat), k ≤ n ∧ x = .int .i64 k ∧ t = .slice ta k tc ∧ Hid (X.length = k ∧ ∀ row ∈ X, row.length = n) ∧ Hid (OwnRows w.heap.size wr (.slice ta k tc) X) ∧ Hid (Own w.heap.size wr (.slice (some ⟨gf, 0, none⟩) n (n + cf.length)) fs ∧ fs.length = n) ∧ Hid (Drew b w wr)) (fun _ x _ => n - (intOf x).toNat)
  case atStart => exact ⟨0, [], _, _, Nat.zero_le _, rfl, rfl, Lib.hid (by simp), HO2, HF2, HD2⟩
  case round =>
    clear HO2 HF2 HD2 HO1 HD1 HO0 HD0
    obtain ⟨k, X, ta, tc, hk, rfl, rfl, HX, HO, HF, HDr⟩ := hrel
    obtain ⟨wo, rfl⟩ : ∃ wo : World, wo = wr := ⟨_, rfl⟩
    have hwo : w.heap.size ≤ wo.heap.size := HDr.out.2.size
    by_cases hlt : k < n
    · go_wp2_with fail
      refine (c_l01Draw b n _ HDr.out.1 h1 h2).mono ?_; rintro e w3 ⟨rr, ys0, rfl, hyl, hor, hd3⟩
      rcases hor.open with ⟨_, h0⟩ | ⟨g, cs, hv, hgo, hblk, hmx⟩
      · rw [h0] at hyl; simp at hyl; omega
      rw [hyl] at hv hmx
      subst hv
      have HMX := Lib.hid hmx
      have HD2 := Lib.hid (HDr.out.trans hd3); have HB2 := Lib.hid hblk; have HY0 := Lib.hid hyl
      have HR2 := Lib.hid (HO.out.inn.keep hd3.2 (fun x h1 h2 e => by have e : x = b := e; omega))
      have HF2 := Lib.hid (And.intro (hd3.own HF.out.1 hbl) (And.intro HF.out.2 (HF.out.1.lt (k := gf) rfl).2))
      clear hor hd3 hblk hmx hyl HO HF HDr
      by_cases hk0 : kd = 0
      · subst hk0
        go_wp2
        go_loopw [10] (fun y wi => ∃ (j : Nat) (ys : List Int), j ≤ n ∧ y = .int .i64 j ∧ Hid (ys.length = n) ∧ Hid (Blk wi g 2 (ys.map (Value.int .i64) ++ cs)) ∧ Hid (OwnRowsIn w.heap.size wo.heap.size wi (.slice ta k tc) X) ∧ Hid (Own w.heap.size wi (.slice (some ⟨gf, 0, none⟩) n (n + cf.length)) fs ∧ fs.length = n ∧ gf < wo.heap.size) ∧ Hid (Drew b w wi)) (fun y _ => n - (intOf y).toNat)
        case atStart => exact ⟨0, ys0, Nat.zero_le _, rfl, HY0, HB2, HR2, HF2, HD2⟩
        case round =>
          clear HY0 HB2 HR2 HF2 HD2
          obtain ⟨j, ys, hj, rfl, HY, HBk, HR, HFs, HD⟩ := hrel
          obtain ⟨wi, rfl⟩ : ∃ wi : World, wi = wr := ⟨_, rfl⟩
          by_cases hlj : j < n
          · go_wp2_with fail
            refine (c_l01Next b n _ HD.out.1 (by omega) (by omega)).mono ?_; rintro e w4 ⟨z, rfl, z0, z1, hd⟩
            have hB4 := hd.blk HBk.out (by omega)
            have hl := HY.out
            have l1 := hB4.labN j (by omega)
            have f1 := hB4.frozen j
            have s1 := hB4.labSet (j : Int) (by omega) (by omega) z
            rw [Int.toNat_natCast] at s1
            have HS := Lib.hid s1
            have HRk := Lib.hid ((HR.out.keep hd.2 (fun x h1 h2 e => by have e : x = b := e; omega)).keep ((Keep.refl (fun x => x = g) w4).setCell (p := ⟨g, j, none⟩) (.inl rfl) (.int .i64 z)) (fun x h1 h2 e => by have e : x = g := e; have := hgo; omega))
            have HFk := Lib.hid (And.intro ((hd.own HFs.out.1 hbl).keep1 (p := ⟨g, j, none⟩) (.int .i64 z) (fun e => by simp [Value.ownBlock] at e; have := HFs.out.2.2; have := hgo; omega)) HFs.out.2)
            have HDk := Lib.hid (drew_set (HD.out.trans hd) (p := ⟨g, j, none⟩) (by show w.heap.size ≤ g; have := hgo; have := hwo; omega) (by show b < g; have := hgo; have := hwo; omega) (.int .i64 z))
            clear hB4 hl s1 hd
            go_wp2
            go_roundw
            case rel => exact ⟨j + 1, _, by omega, by go_num, Lib.hid (by simpa using HY.out), HS, HRk, HFk, HDk⟩
            case measure => simp [intOf]; omega
          · have HRI := Lib.hid HR.out
            have HFi := Lib.hid HFs.out
            have HDi := Lib.hid HD.out
            have HYs := Lib.hid HY.out
            have HOr := Lib.hid (Own.shut HBk.out (Nat.le_refl _) (by rw [HYs.out]; exact HMX.out) HYs.out.symm (by rw [HYs.out]) : Own g wi (.slice (some ⟨g, 0, none⟩) n (n + cs.length)) ys)
            have HSz : Hid (wo.heap.size ≤ wi.heap.size ∧ w.heap.size ≤ wi.heap.size) := Lib.hid ⟨by have := HOr.out.lt (k := g) rfl; have := hgo; omega, by have := HDi.out.2.size; omega⟩
            go_wp2_with (at_builtin; refine wpList_app_row2 w.heap.size wo.heap.size wi _ X _ ys _ _ rfl rfl rfl HRI.out (HOr.out.mono (by have := hgo; omega)) rfl (by have := HX.out.1; omega) (by have := hwo; omega) HSz.out.2 ?_; intro ga gc w9 hown hkeep hor; have HOwn := Lib.hid hown; have HKp := Lib.hid hkeep; clear hown hkeep hor)
            go_roundw
            case rel =>
              have hX := HX.out
              refine ⟨k + 1, X ++ [ys], some ⟨ga, 0, none⟩, gc, by omega, by go_num, by rw [hX.1], Lib.hid ⟨by simp [hX.1], fun r hr => ?_⟩, Lib.hid (by have h := HOwn.out; rw [hX.1] at h; exact h), Lib.hid ⟨HFi.out.1.keepR HRI.out.out HKp.out, HFi.out.2.1⟩, Lib.hid (drew_app HDi.out HRI.out.out HKp.out hbl)⟩
              rcases List.mem_append.1 hr with h | h
              · exact hX.2 r h
              · simp at h; subst h; exact HYs.out
            case measure => simp [intOf]; omega
      · by_cases hk1 : kd = 1
        · subst hk1
          go_wp2
          go_loopw [11] (fun y wi => ∃ (j : Nat) (ys : List Int), j ≤ n ∧ y = .int .i64 j ∧ Hid (ys.length = n) ∧ Hid (Blk wi g 2 (ys.map (Value.int .i64) ++ cs)) ∧ Hid (OwnRowsIn w.heap.size wo.heap.size wi (.slice ta k tc) X) ∧ Hid (Own w.heap.size wi (.slice (some ⟨gf, 0, none⟩) n (n + cf.length)) fs ∧ fs.length = n ∧ gf < wo.heap.size) ∧ Hid (Drew b w wi)) (fun y _ => n - (intOf y).toNat)
          case atStart => exact ⟨0, ys0, Nat.zero_le _, rfl, HY0, HB2, HR2, HF2, HD2⟩
          case round =>
            clear HY0 HB2 HR2 HF2 HD2
            obtain ⟨j, ys, hj, rfl, HY, HBk, HR, HFs, HD⟩ := hrel
            obtain ⟨wi, rfl⟩ : ∃ wi : World, wi = wr := ⟨_, rfl⟩
            by_cases hlj : j < n
            · have hmod0 := Int.emod_nonneg ((k : Int) + (j : Int)) (show (n : Int) ≠ 0 by omega)
              have hmod1 := Int.emod_lt_of_pos ((k : Int) + (j : Int)) (show (0 : Int) < n by omega)
              obtain ⟨u, hu⟩ : ∃ u : Nat, ((k : Int) + (j : Int)) % (n : Int) = u := ⟨(((k : Int) + (j : Int)) % (n : Int)).toNat, by omega⟩
              have hun : u < n := by omega
              obtain ⟨_, _, e1, hcf⟩ := HFs.out.1.ints.get u (by rw [HFs.out.2.1]; exact hun)
              injection e1 with e1; injection e1 with e1 e2; subst e1 e2
              rw [Nat.zero_add] at hcf
              have hl := HY.out
              have l1 := HBk.out.labN j (by omega)
              have f1 := HBk.out.frozen j
              obtain ⟨z, hz⟩ : ∃ z, nth fs u = z := ⟨_, rfl⟩
              rw [hz] at hcf
              have s1 := HBk.out.labSet (j : Int) (by omega) (by omega) z
              rw [Int.toNat_natCast] at s1
              have HS := Lib.hid s1
              have HRk := Lib.hid (HR.out.keep ((Keep.refl (fun x => x = g) wi).setCell (p := ⟨g, j, none⟩) (.inl rfl) (.int .i64 z)) (fun x h1 h2 e => by have e : x = g := e; have := hgo; omega))
              have HFk := Lib.hid (And.intro (HFs.out.1.keep1 (p := ⟨g, j, none⟩) (.int .i64 z) (fun e => by simp [Value.ownBlock] at e; have := HFs.out.2.2; have := hgo; omega)) HFs.out.2)
              have HDk := Lib.hid (drew_set HD.out (p := ⟨g, j, none⟩) (by show w.heap.size ≤ g; have := hgo; have := hwo; omega) (by show b < g; have := hgo; have := hwo; omega) (.int .i64 z))
              clear hl s1 hz hmod0 hmod1
              go_wp2
              go_roundw
              case rel => exact ⟨j + 1, _, by omega, by go_num, Lib.hid (by simpa using HY.out), HS, HRk, HFk, HDk⟩
              case measure => simp [intOf]; omega
            · have HRI := Lib.hid HR.out
              have HFi := Lib.hid HFs.out
              have HDi := Lib.hid HD.out
              have HYs := Lib.hid HY.out
              have HOr := Lib.hid (Own.shut HBk.out (Nat.le_refl _) (by rw [HYs.out]; exact HMX.out) HYs.out.symm (by rw [HYs.out]) : Own g wi (.slice (some ⟨g, 0, none⟩) n (n + cs.length)) ys)
              have HSz : Hid (wo.heap.size ≤ wi.heap.size ∧ w.heap.size ≤ wi.heap.size) := Lib.hid ⟨by have := HOr.out.lt (k := g) rfl; have := hgo; omega, by have := HDi.out.2.size; omega⟩
              go_wp2_with (at_builtin; refine wpList_app_row2 w.heap.size wo.heap.size wi _ X _ ys _ _ rfl rfl rfl HRI.out (HOr.out.mono (by have := hgo; omega)) rfl (by have := HX.out.1; omega) (by have := hwo; omega) HSz.out.2 ?_; intro ga gc w9 hown hkeep hor; have HOwn := Lib.hid hown; have HKp := Lib.hid hkeep; clear hown hkeep hor)
              go_roundw
              case rel =>
                have hX := HX.out
                refine ⟨k + 1, X ++ [ys], some ⟨ga, 0, none⟩, gc, by omega, by go_num, by rw [hX.1], Lib.hid ⟨by simp [hX.1], fun r hr => ?_⟩, Lib.hid (by have h := HOwn.out; rw [hX.1] at h; exact h), Lib.hid ⟨HFi.out.1.keepR HRI.out.out HKp.out, HFi.out.2.1⟩, Lib.hid (drew_app HDi.out HRI.out.out HKp.out hbl)⟩
                rcases List.mem_append.1 hr with h | h
                · exact hX.2 r h
                · simp at h; subst h; exact HYs.out
              case measure => simp [intOf]; omega
        · have hz0 : (kd == 0) = false := by simp [hk0]
          have hz1 : (kd == 1) = false := by simp [hk1]
          have HRI := Lib.hid HR2.out
          have HFi := Lib.hid HF2.out
          have HDi := Lib.hid HD2.out
          have HYs := Lib.hid HY0.out
          have HOr := Lib.hid (Own.shut HB2.out (Nat.le_refl _) (by rw [HYs.out]; exact HMX.out) HYs.out.symm (by rw [HYs.out]) : Own g w3 (.slice (some ⟨g, 0, none⟩) n (n + cs.length)) ys0)
          have HSz : Hid (wo.heap.size ≤ w3.heap.size ∧ w.heap.size ≤ w3.heap.size) := Lib.hid ⟨by have := HOr.out.lt (k := g) rfl; have := hgo; omega, by have := HDi.out.2.size; omega⟩
          go_wp2_with (at_builtin; refine wpList_app_row2 w.heap.size wo.heap.size w3 _ X _ ys0 _ _ rfl rfl rfl HRI.out (HOr.out.mono (by have := hgo; omega)) rfl (by have := HX.out.1; omega) (by have := hwo; omega) HSz.out.2 ?_; intro ga gc w9 hown hkeep hor; have HOwn := Lib.hid hown; have HKp := Lib.hid hkeep; clear hown hkeep hor)
          go_roundw
          case rel =>
            have hX := HX.out
            refine ⟨k + 1, X ++ [ys0], some ⟨ga, 0, none⟩, gc, by omega, by go_num, by rw [hX.1], Lib.hid ⟨by simp [hX.1], fun r hr => ?_⟩, Lib.hid (by have h := HOwn.out; rw [hX.1] at h; exact h), Lib.hid ⟨HFi.out.1.keepR HRI.out.out HKp.out, HFi.out.2.1⟩, Lib.hid (drew_app HDi.out HRI.out.out HKp.out hbl)⟩
            rcases List.mem_append.1 hr with h | h
            · exact hX.2 r h
            · simp at h; subst h; exact HYs.out
          case measure => simp [intOf]; omega
    · obtain rfl : n = k := by omega
      go_wp2
      go_ret
      exact ⟨_, X, rfl, HX.out.1, HX.out.2, HO.out, HDr.out⟩
end Go.Proofs.YtnbhghgkjcfcmaaDoor

namespace Go.Proofs.YtnbhghgkjcfcmaaDoor
set_option linter.unusedVariables false
set_option linter.unusedSimpArgs false
open Go Go.RowKit

theorem OwnRowsIn.put {lo hi : Nat} {w : World} {sa : Option Addr} {n c : Nat} {t : List (List Int)} (h : OwnRowsIn lo hi w (.slice sa n c) t) {u y m : Nat} (hu : u < t.length) (hm : (row t u).length = m) (hy : y < m) :
    ∃ b g cr z0, sa = some ⟨b, 0, none⟩ ∧ lo ≤ b ∧ b < hi ∧ lo ≤ g ∧ g < hi ∧ b ≠ g ∧ w.cell? ⟨b, u, none⟩ = some (.slice (some ⟨g, 0, none⟩) m cr) ∧ w.cell? ⟨g, y, none⟩ = some z0 ∧ w.frozen? ⟨g, y, none⟩ = false ∧
      ∀ z : Int, OwnRowsIn lo hi (w.setCell ⟨g, y, none⟩ (.int .i64 z)) (.slice sa n c) (t.set u ((row t u).set y z)) := by
  obtain ⟨us, h1, h2, h3, h4⟩ := h
  have hul : u < us.length := by rw [h2.len]; exact hu
  obtain ⟨a, c', hv, _, _, hc⟩ := ownsRow_cells h1
  obtain ⟨b, hab, hcell⟩ := hc u hul
  injection hv with e1 e2 e3
  subst e1 hab
  have hrow : t[u] = row t u := (row_nat t u hu).symm
  have hown := h2.own u hul hu
  rcases hown.open with ⟨_, k2⟩ | ⟨g, cs, k1, k2, k3, k4⟩
  · rw [hrow] at k2; rw [k2] at hm; simp at hm; omega
  · have hy' : y < (t[u]).length := by rw [hrow]; omega
    have hv1 : us[u] = .slice (some ⟨g, 0, none⟩) m ((t[u]).length + cs.length) := by rw [k1, hrow, hm]
    have hput := fun z => h2.put hul hu hv1 hy' z
    obtain ⟨p1, p2⟩ := h2.cellAt hul hu hv1 hy'
    have hg := h4 u hul g (by rw [hv1]; rfl)
    have hb1 := World.ownsRow.lt h1 b rfl
    have hbg : b ≠ g := by
      obtain ⟨hl, hn | ⟨g', cap, cur, hv', hb', hg', r⟩⟩ := h1
      · simp at hn
      · injection hv' with e1 e2 e3
        injection e1 with e1
        injection e1 with e1
        subst e1
        have := hown.ne (g := b) (t := 32) (cs := cur.toList) (by unfold Blk; simpa using hg') (by decide)
        intro e
        apply this
        rw [hv1, e]; rfl
    refine ⟨b, g, _, _, rfl, hb1.1, h3 b rfl, k2, hg, hbg, by rw [hcell, hv1], p1, p2, fun z => ⟨us, ?_, ?_, h3, h4⟩⟩
    · refine ownsRow_ne h1 hown ?_
      rw [hv1]
      exact keepB _ _ _ _ _ _
    · have := hput z
      rw [hrow] at this; exact this

/-- Two tables side by side, apart from a box q. -/
def TwoIn (lo q : Nat) (W : World) (va vb : Value) (X Y : List (List Int)) : Prop :=
  ∃ l1 h1 l2 h2, lo ≤ l1 ∧ lo ≤ l2 ∧ h1 ≤ l2 ∧ h1 ≤ W.heap.size ∧ h2 ≤ W.heap.size ∧ (h1 ≤ q ∨ q < l1) ∧ (h2 ≤ q ∨ q < l2) ∧ OwnRowsIn l1 h1 W va X ∧ OwnRowsIn l2 h2 W vb Y
theorem size_set (w : World) (a : Addr) (v : Value) : (w.setCell a v).heap.size = w.heap.size := by simp [World.setCell]
theorem TwoIn.keep {lo q : Nat} {S : Nat → Prop} {W W' : World} {va vb : Value} {X Y : List (List Int)} (h : TwoIn lo q W va vb X Y) (k : Keep S W W') (hS : ∀ b, lo ≤ b → b ≠ q → b < W.heap.size → ¬ S b) : TwoIn lo q W' va vb X Y := by
  obtain ⟨l1, h1, l2, h2, a, b, c, d1, d, e, f, o1, o2⟩ := h
  have hs := k.size
  exact ⟨l1, h1, l2, h2, a, b, c, by omega, by omega, e, f, o1.keep k (fun x x1 x2 => hS x (by omega) (by omega) (by omega)), o2.keep k (fun x x1 x2 => hS x (by omega) (by omega) (by omega))⟩
theorem TwoIn.under {lo q : Nat} {W W' : World} {va vb : Value} {X Y : List (List Int)} (h : TwoIn lo q W va vb X Y) (hb : Below W.heap.size W W') : TwoIn lo q W' va vb X Y :=
  h.keep (S := fun b => W.heap.size ≤ b) (Keep.of_below hb) fun x _ _ x1 x2 => by omega
/-- An entry of each written, in either order. -/
theorem TwoIn.put {lo q : Nat} {W : World} {sa sb : Option Addr} {n c n' c' : Nat} {X Y : List (List Int)} (h : TwoIn lo q W (.slice sa n c) (.slice sb n' c') X Y) {u y m m' : Nat}
    (hu : u < X.length) (hu' : u < Y.length) (hm : (row X u).length = m) (hm' : (row Y u).length = m') (hy : y < m) (hy' : y < m') :
    ∃ b1 g1 r1 b2 g2 r2 z1 z2, sa = some ⟨b1, 0, none⟩ ∧ sb = some ⟨b2, 0, none⟩ ∧ (lo ≤ b1 ∧ lo ≤ g1 ∧ lo ≤ b2 ∧ lo ≤ g2) ∧ (q ≠ b1 ∧ q ≠ g1 ∧ q ≠ b2 ∧ q ≠ g2) ∧ (b1 ≠ g1 ∧ b1 ≠ g2 ∧ b2 ≠ g1 ∧ b2 ≠ g2 ∧ g1 ≠ g2) ∧
      W.cell? ⟨b1, u, none⟩ = some (.slice (some ⟨g1, 0, none⟩) m r1) ∧ W.cell? ⟨b2, u, none⟩ = some (.slice (some ⟨g2, 0, none⟩) m' r2) ∧ W.cell? ⟨g1, y, none⟩ = some z1 ∧ W.frozen? ⟨g1, y, none⟩ = false ∧ W.cell? ⟨g2, y, none⟩ = some z2 ∧ W.frozen? ⟨g2, y, none⟩ = false ∧
      (∀ s t : Int, TwoIn lo q ((W.setCell ⟨g1, y, none⟩ (.int .i64 s)).setCell ⟨g2, y, none⟩ (.int .i64 t)) (.slice sa n c) (.slice sb n' c') (X.set u ((row X u).set y s)) (Y.set u ((row Y u).set y t))) ∧
      ∀ s t : Int, TwoIn lo q ((W.setCell ⟨g2, y, none⟩ (.int .i64 t)).setCell ⟨g1, y, none⟩ (.int .i64 s)) (.slice sa n c) (.slice sb n' c') (X.set u ((row X u).set y s)) (Y.set u ((row Y u).set y t)) := by
  obtain ⟨l1, h1, l2, h2, a, b, cc, d1, d, e, f, o1, o2⟩ := h
  have ok1 := fun (W' : World) (o : OwnRowsIn l1 h1 W' (.slice sa n c) X) => o.put hu hm hy
  obtain ⟨b1, g1, r1, z1, rfl, p1, p2, p3, p4, p5, p6, p7, p8, p9⟩ := o1.put hu hm hy
  obtain ⟨b2, g2, r2, z2, rfl, k1, k2, k3, k4, k5, k6, k7, k8, k9⟩ := o2.put hu' hm' hy'
  refine ⟨b1, g1, r1, b2, g2, r2, z1, z2, rfl, rfl, ⟨by omega, by omega, by omega, by omega⟩, ⟨by omega, by omega, by omega, by omega⟩, ⟨by omega, by omega, by omega, by omega, by omega⟩, p6, k6, p7, p8, k7, k8, ?_, ?_⟩
  · intro s t
    have kk := (Keep.refl (fun x => x = g1) W).setCell (p := ⟨g1, y, none⟩) (.inl rfl) (.int .i64 s)
    have o2' := o2.keep kk (fun x x1 x2 e => by omega)
    obtain ⟨b2', g2', r2', z2', hb', _, _, _, _, _, j6, _, _, j9⟩ := o2'.put hu' hm' hy'
    have k6' : (W.setCell ⟨g1, y, none⟩ (.int .i64 s)).cell? ⟨b2, u, none⟩ = some (.slice (some ⟨g2, 0, none⟩) m' r2) := (World.cell?_of_block (w := W) (kk.block b2 (cell_lt k6) (by omega))).trans k6
    injection hb' with hb'; injection hb' with hb'; subst hb'
    rw [k6'] at j6
    injection j6 with j6; injection j6 with j6; injection j6 with j6; injection j6 with j6; subst j6
    have kk2 := (Keep.refl (fun x => x = g2) (W.setCell ⟨g1, y, none⟩ (.int .i64 s))).setCell (p := ⟨g2, y, none⟩) (.inl rfl) (.int .i64 t)
    exact ⟨l1, h1, l2, h2, a, b, cc, by rw [size_set, size_set]; exact d1, by rw [size_set, size_set]; exact d, e, f, (p9 s).keep kk2 (fun x x1 x2 e => by omega), j9 t⟩
  · intro s t
    have kk := (Keep.refl (fun x => x = g2) W).setCell (p := ⟨g2, y, none⟩) (.inl rfl) (.int .i64 t)
    have o1' := o1.keep kk (fun x x1 x2 e => by omega)
    obtain ⟨b1', g1', r1', z1', hb', _, _, _, _, _, j6, _, _, j9⟩ := o1'.put hu hm hy
    have k6' : (W.setCell ⟨g2, y, none⟩ (.int .i64 t)).cell? ⟨b1, u, none⟩ = some (.slice (some ⟨g1, 0, none⟩) m r1) := (World.cell?_of_block (w := W) (kk.block b1 (cell_lt p6) (by omega))).trans p6
    injection hb' with hb'; injection hb' with hb'; subst hb'
    rw [k6'] at j6
    injection j6 with j6; injection j6 with j6; injection j6 with j6; injection j6 with j6; subst j6
    have kk2 := (Keep.refl (fun x => x = g1) (W.setCell ⟨g2, y, none⟩ (.int .i64 t))).setCell (p := ⟨g1, y, none⟩) (.inl rfl) (.int .i64 s)
    exact ⟨l1, h1, l2, h2, a, b, cc, by rw [size_set, size_set]; exact d1, by rw [size_set, size_set]; exact d, e, f, j9 s, (k9 t).keep kk2 (fun x x1 x2 e => by omega)⟩
end Go.Proofs.YtnbhghgkjcfcmaaDoor

namespace Go.Proofs.YtnbhghgkjcfcmaaDoor
set_option linter.unusedVariables false
set_option linter.unusedSimpArgs false
open Go.RowKit

theorem Own.keepN {B : Nat} {S : Nat → Prop} {w w' : World} {v : Value} {xs : List Int} (h : Own B w v xs) (k : Keep S w w') (hs : ∀ b, v.ownBlock = some b → ¬ S b) : Own B w' v xs := by
  obtain ⟨hl, h | ⟨g, cap, cur, hv, hb, hg, r⟩⟩ := h
  · exact ⟨hl, .inl h⟩
  · exact ⟨hl, .inr ⟨g, cap, cur, hv, hb, by rw [k.block g (Array.getElem?_eq_some_iff.1 hg).1 (hs g (by rw [hv]; rfl))]; exact hg, r⟩⟩

/-- Two tables in the variable at block q; all of them below m. -/
structure Out2 (lo m q : Nat) (w : World) (va vb : Value) (A B : List (List Int)) : Prop where
  ql : q < lo
  lm : lo ≤ m
  mw : m ≤ w.heap.size
  blk : Blk w q 38 [va, vb]
  a : OwnRowsIn lo m w va A
  b : OwnRowsIn lo m w vb B
  ne : ∀ k, va.ownBlock = some k → vb.ownBlock ≠ some k
/-- .. the first of them has grown. -/
structure Out2h (lo m q : Nat) (w : World) (va vb : Value) (A B : List (List Int)) : Prop where
  ql : q < lo
  lm : lo ≤ m
  mw : m ≤ w.heap.size
  blk : Blk w q 38 [va, vb]
  a : OwnRows lo w va A
  b : OwnRowsIn lo m w vb B
  ne : ∀ k, va.ownBlock = some k → vb.ownBlock ≠ some k

theorem OwnRowsIn.ltv {lo m : Nat} {w : World} {v : Value} {A : List (List Int)} (h : OwnRowsIn lo m w v A) {k : Nat} (hk : v.ownBlock = some k) : lo ≤ k ∧ k < m ∧ k < w.heap.size := by
  obtain ⟨us, h1, h2, h3, h4⟩ := h
  have := World.ownsRow.lt h1 k hk
  exact ⟨this.1, h3 k hk, this.2⟩

theorem Out2.under {lo m q : Nat} {w w' : World} {va vb : Value} {A B : List (List Int)} (h : Out2 lo m q w va vb A B) (hb : Below w.heap.size w w') : Out2 lo m q w' va vb A B :=
  ⟨h.ql, h.lm, Nat.le_trans h.mw hb.size, h.blk.under hb, h.a.under hb, h.b.under hb, h.ne⟩
theorem Out2.start {lo q : Nat} {w : World} (hq : q < lo) (hl : lo ≤ w.heap.size) (hb : Blk w q 38 [.slice none 0 0, .slice none 0 0]) : Out2 lo w.heap.size q w (.slice none 0 0) (.slice none 0 0) [] [] :=
  ⟨hq, hl, Nat.le_refl _, hb, OwnRowsIn.nil0 _ _ _, OwnRowsIn.nil0 _ _ _, by intro k hk; cases hk⟩

/-- 'out.First = append(out.First, first)'. -/
theorem Out2.app1 {lo m q : Nat} {w w' : World} {va vb : Value} {A B : List (List Int)} {xs : List Int} {g l c : Nat} (h : Out2 lo m q w va vb A B) (ho : OwnRows lo w' (.slice (some ⟨g, 0, none⟩) l c) (A ++ [xs]))
    (hk : Keep (fun b => va.ownBlock = some b) w w') (hg : va.ownBlock = some g ∨ w.heap.size ≤ g) :
    Out2h lo m q (w'.setCell ⟨q, 0, none⟩ (.slice (some ⟨g, 0, none⟩) l c)) (.slice (some ⟨g, 0, none⟩) l c) vb (A ++ [xs]) B := by
  have hq := h.ql; have hl := h.lm; have hm := h.mw
  have hsz := hk.size
  have hva : ∀ b, va.ownBlock = some b → lo ≤ b ∧ b < m := fun b e => ⟨(h.a.ltv e).1, (h.a.ltv e).2.1⟩
  have hvb : ∀ b, vb.ownBlock = some b → lo ≤ b ∧ b < m := fun b e => ⟨(h.b.ltv e).1, (h.b.ltv e).2.1⟩
  have hblk := h.blk.of_block (hk.block _ h.blk.lt (fun e => by have := hva _ e; omega))
  refine ⟨hq, hl, by simp [World.setCell]; omega, hblk.set 0 _, ?_, ?_, ?_⟩
  · exact ho.keep (keep1 w' q 0 _) (fun b h1 _ h3 => by have h3 : b = q := h3; omega)
  · have h1 := h.b.keepT (h.a.out) (fun b e1 e2 => h.ne b e2 e1) hk
    exact h1.keep (keep1 w' q 0 _) (fun b h1 _ h3 => by have h3 : b = q := h3; omega)
  · intro k e e2
    simp [Value.ownBlock] at e
    subst e
    rcases hg with hg | hg
    · exact h.ne _ hg e2
    · have := hvb _ e2; omega
/-- 'out.Second = append(out.Second, second)'. -/
theorem Out2h.app2 {lo m q : Nat} {w w' : World} {va vb : Value} {A B : List (List Int)} {xs : List Int} {g l c : Nat} (h : Out2h lo m q w va vb A B) (ho : OwnRows lo w' (.slice (some ⟨g, 0, none⟩) l c) (B ++ [xs]))
    (hk : Keep (fun b => vb.ownBlock = some b) w w') (hg : vb.ownBlock = some g ∨ w.heap.size ≤ g) :
    Out2 lo (w'.setCell ⟨q, 1, none⟩ (.slice (some ⟨g, 0, none⟩) l c)).heap.size q (w'.setCell ⟨q, 1, none⟩ (.slice (some ⟨g, 0, none⟩) l c)) va (.slice (some ⟨g, 0, none⟩) l c) A (B ++ [xs]) := by
  have hq := h.ql; have hl := h.lm; have hm := h.mw
  have hsz := hk.size
  have hva : ∀ b, va.ownBlock = some b → lo ≤ b ∧ b < w.heap.size := fun b e => OwnRows.lt h.a e
  have hvb : ∀ b, vb.ownBlock = some b → lo ≤ b ∧ b < m := fun b e => ⟨(h.b.ltv e).1, (h.b.ltv e).2.1⟩
  have hblk := h.blk.of_block (hk.block _ h.blk.lt (fun e => by have := hvb _ e; omega))
  refine ⟨hq, by simp [World.setCell]; omega, Nat.le_refl _, hblk.set 1 _, ?_, ?_, ?_⟩
  · have h1 := h.a.keepT (h.b.out) (fun b e1 e2 => h.ne b e1 e2) hk
    exact (h1.keep (keep1 w' q 1 _) (fun b h1 _ h3 => by have h3 : b = q := h3; omega)).inn
  · exact (ho.keep (keep1 w' q 1 _) (fun b h1 _ h3 => by have h3 : b = q := h3; omega)).inn
  · intro k e e2
    simp [Value.ownBlock] at e2
    subst e2
    rcases hg with hg | hg
    · exact h.ne _ e hg
    · have := hva _ e; omega
theorem Out2.blkq {lo m q : Nat} {w w' : World} {va vb : Value} {A B : List (List Int)} (h : Out2 lo m q w va vb A B) (hk : Keep (fun b => va.ownBlock = some b) w w') : Blk w' q 38 [va, vb] := by
  have hq := h.ql
  exact h.blk.of_block (hk.block _ h.blk.lt (fun e => by have := (h.a.ltv e).1; omega))
theorem Out2h.blkq {lo m q : Nat} {w w' : World} {va vb : Value} {A B : List (List Int)} (h : Out2h lo m q w va vb A B) (hk : Keep (fun b => vb.ownBlock = some b) w w') : Blk w' q 38 [va, vb] := by
  have hq := h.ql
  exact h.blk.of_block (hk.block _ h.blk.lt (fun e => by have := (h.b.ltv e).1; omega))
/-- A row that the call has made since stays as it was. -/
theorem Out2.row1 {lo m q : Nat} {w w' : World} {va vb u : Value} {A B : List (List Int)} {ys : List Int} (h : Out2 lo m q w va vb A B) (hu : Own m w u ys) (hk : Keep (fun b => va.ownBlock = some b) w w') (x : Value) : Own m (w'.setCell ⟨q, 0, none⟩ x) u ys := by
  have hq := h.ql; have hl := h.lm
  have h1 := hu.keep hk (fun b h1 _ h3 => by have := (h.a.ltv h3).2.1; omega)
  exact h1.keep (keep1 w' q 0 _) (fun b h1 _ h3 => by have h3 : b = q := h3; omega)
theorem Out2.frame1 {lo m q B0 : Nat} {w0 w w' : World} {va vb : Value} {A B : List (List Int)} (h : Out2 lo m q w va vb A B) (hb : Below B0 w0 w) (h0 : B0 ≤ q) (hk : Keep (fun b => va.ownBlock = some b) w w') (x : Value) : Below B0 w0 (w'.setCell ⟨q, 0, none⟩ x) := by
  have hq := h.ql; have hl := h.lm; have hm := h.mw
  exact (OwnRows.frame h.a.out hb (by omega) (by omega) hk).setCell (p := ⟨q, 0, none⟩) h0 x
theorem Out2h.frame2 {lo m q B0 : Nat} {w0 w w' : World} {va vb : Value} {A B : List (List Int)} (h : Out2h lo m q w va vb A B) (hb : Below B0 w0 w) (h0 : B0 ≤ q) (hk : Keep (fun b => vb.ownBlock = some b) w w') (x : Value) : Below B0 w0 (w'.setCell ⟨q, 1, none⟩ x) := by
  have hq := h.ql; have hl := h.lm; have hm := h.mw
  exact (OwnRows.frame h.b.out hb (by omega) (by omega) hk).setCell (p := ⟨q, 1, none⟩) h0 x
/-- A block outside of both tables stays as it was. -/
theorem Out2.blk1 {lo m q p : Nat} {w w' : World} {va vb : Value} {A B : List (List Int)} {t : TypeId} {cs : List Value} (h : Out2 lo m q w va vb A B) (hp : p < q) (hB : Blk w p t cs) (hk : Keep (fun b => va.ownBlock = some b) w w') (x : Value) : Blk (w'.setCell ⟨q, 0, none⟩ x) p t cs := by
  have hq := h.ql
  exact (hB.of_block (hk.block _ hB.lt (fun e => by have := (h.a.ltv e).1; omega))).other (a := ⟨q, 0, none⟩) (by show p ≠ q; omega) x
theorem Out2h.blk2 {lo m q p : Nat} {w w' : World} {va vb : Value} {A B : List (List Int)} {t : TypeId} {cs : List Value} (h : Out2h lo m q w va vb A B) (hp : p < q) (hB : Blk w p t cs) (hk : Keep (fun b => vb.ownBlock = some b) w w') (x : Value) : Blk (w'.setCell ⟨q, 1, none⟩ x) p t cs := by
  have hq := h.ql
  exact (hB.of_block (hk.block _ hB.lt (fun e => by have := (h.b.ltv e).1; omega))).other (a := ⟨q, 1, none⟩) (by show p ≠ q; omega) x

theorem wpList_app_int2 {ops : Array Oper} {rest : List Oper} {o : Oper} {a : Act} {Q : Exit → Act → World → Prop} (B : Nat) (w : World) (v : Value) (xs : List Int) (y : Int) (s x : Operand) (sz : Nat) (hsz : sz = w.heap.size) (hgd : o.guard = none)
    (ho : o.op = .call { callee := .builtin .append, args := #[s, x], argTypes := #[32, 32] })
    (hs : a.eval s = v) (hown : Own B w v xs) (hx : a.eval x = .slice (some ⟨sz, 0, none⟩) 1 1) (hn : xs.length ≤ 1099511627776) (hB2 : B ≤ w.heap.size)
    (h : ∀ g c' w', Own B w' (.slice (some ⟨g, 0, none⟩) (xs.length + 1) c') (xs ++ [y]) → Keep (fun b => v.ownBlock = some b) w w' → (v.ownBlock = some g ∨ w.heap.size ≤ g) → wpList Tryd.prog ops Q rest (a.put o.dst (.slice (some ⟨g, 0, none⟩) (xs.length + 1) c')) w') :
    wpList Tryd.prog ops Q (o :: rest) a (w.alloc (.cells #[.int .i64 y] 2)) := by
  subst hsz
  exact wpList_plain hgd fun _ hK => wp_app_int B w v xs y s x ho hs hown hx hn hB2 fun g c' w' h2 h3 h4 => hK _ _ (h g c' w' h2 h3 h4)
theorem wpList_app_row2s {ops : Array Oper} {rest : List Oper} {o : Oper} {a : Act} {Q : Exit → Act → World → Prop} (B m : Nat) (w : World) (v : Value) (xss : List (List Int)) (u : Value) (xs : List Int) (s x : Operand) (sz : Nat) (hsz : sz = w.heap.size) (hgd : o.guard = none)
    (ho : o.op = .call { callee := .builtin .append, args := #[s, x], argTypes := #[24, 24] })
    (hs : a.eval s = v) (hown : OwnRowsIn B m w v xss) (hu : Own m w u xs) (hx : a.eval x = .slice (some ⟨sz, 0, none⟩) 1 1) (hn : xss.length ≤ 1099511627776) (hB : B ≤ m) (hB2 : B ≤ w.heap.size)
    (h : ∀ g c' w', OwnRows B w' (.slice (some ⟨g, 0, none⟩) (xss.length + 1) c') (xss ++ [xs]) → Keep (fun b => v.ownBlock = some b) w w' → (v.ownBlock = some g ∨ w.heap.size ≤ g) → wpList Tryd.prog ops Q rest (a.put o.dst (.slice (some ⟨g, 0, none⟩) (xss.length + 1) c')) w') :
    wpList Tryd.prog ops Q (o :: rest) a (w.alloc (.cells #[u] 32)) := by
  subst hsz
  exact wpList_app_row2 B m w v xss u xs s x hgd ho hs hown hu hx hn hB hB2 h

/-- A pair of tables of the call's own (not apart from each other), beside a code. -/
def RSolRO (w0 : World) (A B : List (List Int)) (c : Int) (e : Ending) (w' : World) : Prop :=
  ∃ r1 r2, e = .returned (.tuple #[.agg #[r1, r2], .int .i64 c]) ∧ (OwnRows w0.heap.size w' r1 A ∧ OwnRows w0.heap.size w' r2 B) ∧ Below w0.heap.size w0 w'
theorem storedO {w w2 : World} {r1 r2 : Value} {A B : List (List Int)} {lo q : Nat} (hB : Below w.heap.size w w2) (hs : OwnRows lo w2 r1 A ∧ OwnRows lo w2 r2 B) (hq : w.heap.size ≤ q) (hlo : q < lo) :
    (OwnRows w.heap.size ((w2.setCell ⟨q, 0, none⟩ r1).setCell ⟨q, 1, none⟩ r2) r1 A ∧ OwnRows w.heap.size ((w2.setCell ⟨q, 0, none⟩ r1).setCell ⟨q, 1, none⟩ r2) r2 B) ∧ Below w.heap.size w ((w2.setCell ⟨q, 0, none⟩ r1).setCell ⟨q, 1, none⟩ r2) := by
  have k : Keep (fun b => b = q) w2 ((w2.setCell ⟨q, 0, none⟩ r1).setCell ⟨q, 1, none⟩ r2) := ((Keep.refl (fun b => b = q) w2).setCell (p := ⟨q, 0, none⟩) (.inl rfl) _).setCell (p := ⟨q, 1, none⟩) (.inl rfl) _
  exact ⟨⟨(hs.1.keep k (fun b h1 _ h3 => by omega)).mono (by omega), (hs.2.keep k (fun b h1 _ h3 => by omega)).mono (by omega)⟩, (hB.setCell (p := ⟨q, 0, none⟩) hq _).setCell (p := ⟨q, 1, none⟩) hq _⟩
/-- The box of a result, laid ahead of the call and filled behind it. -/
theorem box_early {w3 : World} {q : Nat} {u v a b : Value} {t : TypeId} (h : Blk w3 q t [u, v]) : Blk ((w3.setCell ⟨q, 0, none⟩ a).setCell ⟨q, 1, none⟩ b) q t [a, b] := (h.set 0 a).set 1 b
theorem keep_early (w3 : World) (q : Nat) (a b : Value) : Keep (fun k => k = q) w3 ((w3.setCell ⟨q, 0, none⟩ a).setCell ⟨q, 1, none⟩ b) :=
  ((Keep.refl (fun k => k = q) w3).setCell (p := ⟨q, 0, none⟩) (.inl rfl) _).setCell (p := ⟨q, 1, none⟩) (.inl rfl) _
theorem keep_late (w3 : World) (o : Obj) : Keep (fun k => k = w3.heap.size) w3 (w3.alloc o) := (Keep.refl _ w3).alloc o

/-- Two lists of the call's own that grow side by side. -/
structure Two (B : Nat) (w : World) (u v : Value) (xs ys : List Int) : Prop where
  a : Own B w u xs
  b : Own B w v ys
  ne : ∀ k, u.ownBlock = some k → v.ownBlock ≠ some k
theorem Two.app1 {B g l c : Nat} {w w' : World} {u v : Value} {xs ys : List Int} {x : Int} (h : Two B w u v xs ys) (ho : Own B w' (.slice (some ⟨g, 0, none⟩) l c) (xs ++ [x])) (hk : Keep (fun b => u.ownBlock = some b) w w') (hg : u.ownBlock = some g ∨ w.heap.size ≤ g) :
    Two B w' (.slice (some ⟨g, 0, none⟩) l c) v (xs ++ [x]) ys := by
  refine ⟨ho, h.b.keepN hk (fun b e1 e2 => h.ne b e2 e1), ?_⟩
  intro k e e2
  simp [Value.ownBlock] at e
  subst e
  rcases hg with hg | hg
  · exact h.ne _ hg e2
  · have := (h.b.lt e2).2; omega
theorem Two.app2 {B g l c : Nat} {w w' : World} {u v : Value} {xs ys : List Int} {x : Int} (h : Two B w u v xs ys) (ho : Own B w' (.slice (some ⟨g, 0, none⟩) l c) (ys ++ [x])) (hk : Keep (fun b => v.ownBlock = some b) w w') (hg : v.ownBlock = some g ∨ w.heap.size ≤ g) :
    Two B w' u (.slice (some ⟨g, 0, none⟩) l c) xs (ys ++ [x]) := by
  refine ⟨h.a.keepN hk (fun b e1 e2 => h.ne b e1 e2), ho, ?_⟩
  intro k e e2
  simp [Value.ownBlock] at e2
  subst e2
  rcases hg with hg | hg
  · exact h.ne _ e hg
  · have := (h.a.lt e).2; omega
theorem Two.made0 (w : World) : Two w.heap.size ((w.alloc (.cells #[] 2)).alloc (.cells #[] 2)) (.slice (some ⟨w.heap.size, 0, none⟩) 0 0) (.slice (some ⟨w.heap.size + 1, 0, none⟩) 0 0) [] [] := by
  refine ⟨(Own.made0 w (Nat.le_refl _)).under ((Below.refl _ _).alloc (Nat.le_refl _) _), ?_, ?_⟩
  · have := Own.made0 (B := w.heap.size) (w.alloc (.cells #[] 2)) (by simp)
    simpa using this
  · intro k e e2
    simp [Value.ownBlock] at e e2
    omega
theorem Two.under {B : Nat} {w w' : World} {u v : Value} {xs ys : List Int} (h : Two B w u v xs ys) (hb : Below w.heap.size w w') : Two B w' u v xs ys := ⟨h.a.under hb, h.b.under hb, h.ne⟩
end Go.Proofs.YtnbhghgkjcfcmaaDoor

namespace Go.Proofs.YtnbhghgkjcfcmaaDoor
set_option linter.unusedVariables false
set_option linter.unusedSimpArgs false
open Go Go.RowKit

/-- Integers that can be read, in a block from lo on. -/
def IntsAt (lo : Nat) (w : World) (v : Value) (xs : List Int) : Prop := Ints w v xs ∧ ∀ b o, (∃ n c, v = .slice (some ⟨b, o, none⟩) n c) → lo ≤ b
theorem Own.at' {lo : Nat} {w : World} {v : Value} {xs : List Int} (h : Own lo w v xs) : IntsAt lo w v xs := by
  refine ⟨h.ints, fun b o hv => ?_⟩
  obtain ⟨n, c, rfl⟩ := hv
  obtain ⟨hl, hn | ⟨g, cap, cur, hv, hb, hg, r⟩⟩ := h
  · cases hn.1
  · injection hv with e1; injection e1 with e1; injection e1 with e1; subst e1; exact hb
theorem IntsAt.keep {lo : Nat} {S : Nat → Prop} {w w' : World} {v : Value} {xs : List Int} (h : IntsAt lo w v xs) (k : Keep S w w') (hS : ∀ b, lo ≤ b → ¬ S b) : IntsAt lo w' v xs := by
  obtain ⟨⟨a, c, hv, h1, h2, hc⟩, hb⟩ := h
  refine ⟨⟨a, c, hv, h1, h2, fun i hi => ?_⟩, hb⟩
  obtain ⟨b, o, ha, hcell⟩ := hc i hi
  exact ⟨b, o, ha, cell_of_block (k.block b (cell_lt hcell) (hS b (hb b o ⟨_, _, by rw [hv, ha]⟩))) hcell⟩
/-- A table that can be read, all of it in blocks from lo on. -/
def RowsAt (lo : Nat) (w : World) (v : Value) (X : List (List Int)) : Prop :=
  ∃ (a : Option Addr) (c : Nat), v = .slice a X.length c ∧ X.length ≤ c ∧ c ≤ maxLen ∧ ∀ i (h : i < X.length), ∃ b o u, a = some ⟨b, o, none⟩ ∧ lo ≤ b ∧ w.cell? ⟨b, o + i, none⟩ = some u ∧ IntsAt lo w u X[i]
theorem RowsAt.rows {lo : Nat} {w : World} {v : Value} {X : List (List Int)} (h : RowsAt lo w v X) : Rows w v X := by
  obtain ⟨a, c, hv, h1, h2, hc⟩ := h
  exact ⟨a, c, hv, h1, h2, fun i hi => by obtain ⟨b, o, u, ha, _, hcell, hu⟩ := hc i hi; exact ⟨b, o, u, ha, hcell, hu.1⟩⟩
theorem RowsAt.keep {lo : Nat} {S : Nat → Prop} {w w' : World} {v : Value} {X : List (List Int)} (h : RowsAt lo w v X) (k : Keep S w w') (hS : ∀ b, lo ≤ b → ¬ S b) : RowsAt lo w' v X := by
  obtain ⟨a, c, hv, h1, h2, hc⟩ := h
  refine ⟨a, c, hv, h1, h2, fun i hi => ?_⟩
  obtain ⟨b, o, u, ha, hlo, hcell, hu⟩ := hc i hi
  exact ⟨b, o, u, ha, hlo, cell_of_block (k.block b (cell_lt hcell) (hS b hlo)) hcell, hu.keep k hS⟩
theorem OwnRows.at' {lo : Nat} {w : World} {v : Value} {X : List (List Int)} (h : OwnRows lo w v X) : RowsAt lo w v X := by
  obtain ⟨us, h1, h2⟩ := h
  have hlt := fun k (hk : v.ownBlock = some k) => World.ownsRow.lt h1 k hk
  obtain ⟨a, c, hv, hc, hm, hcell⟩ := ownsRow_cells h1
  rw [h2.len] at hv hc
  refine ⟨a, c, hv, hc, hm, fun i hi => ?_⟩
  have hi' : i < us.length := by rw [h2.len]; exact hi
  obtain ⟨g, ha, hg⟩ := hcell i hi'
  exact ⟨g, 0, us[i], ha, (hlt g (by rw [hv, ha]; rfl)).1, by rwa [Nat.zero_add], (h2.own i hi' hi).at'⟩
theorem RowVals.others {B : Nat} {w w' : World} {us : List Value} {xss : List (List Int)} (h : RowVals B w us xss) {k : Nat} (hk : k < us.length) (hkeep : Keep (fun b => us[k].ownBlock = some b) w w') (i : Nat) (hi : i < us.length) (hi' : i < xss.length) (e : k ≠ i) : Own B w' us[i] xss[i] := by
  have h0 := h.own i hi hi'
  obtain ⟨hl, hn | ⟨g, cap, cur, hv, hb, hg, r⟩⟩ := h0
  · exact ⟨hl, .inl hn⟩
  · refine ⟨hl, .inr ⟨g, cap, cur, hv, hb, ?_, r⟩⟩
    rw [hkeep.block g (Array.getElem?_eq_some_iff.1 hg).1 ?_]; exact hg
    intro e2
    have h1 : (us[i]).ownBlock = some g := by rw [hv]; rfl
    rcases Nat.lt_or_gt_of_ne e with hlt | hlt
    · have := List.pairwise_iff_getElem.1 h.apart k i hk hi hlt
      rcases this with h3 | h3
      · rw [h3] at e2; cases e2
      · exact h3 (e2.trans h1.symm)
    · have := List.pairwise_iff_getElem.1 h.apart i k hi hk hlt
      rcases this with h3 | h3
      · rw [h3] at h1; cases h1
      · exact h3 (h1.trans e2.symm)
/-- The first row appended to, and stored anew. -/
theorem first_row {lo : Nat} {w : World} {sa : Option Addr} {n c : Nat} {X : List (List Int)} (h : OwnRows lo w (.slice sa n c) X) (hX : 0 < X.length) :
    ∃ (b : Nat) (u : Value), sa = some ⟨b, 0, none⟩ ∧ lo ≤ b ∧ w.cell? ⟨b, 0, none⟩ = some u ∧ w.frozen? ⟨b, 0, none⟩ = false ∧ Own lo w u (row X 0) ∧
      ∀ (w' : World) (u' : Value) (ys : List Int), Keep (fun k => u.ownBlock = some k) w w' → Own lo w' u' ys → w'.cell? ⟨b, 0, none⟩ = some u ∧ w'.frozen? ⟨b, 0, none⟩ = false ∧ RowsAt lo (w'.setCell ⟨b, 0, none⟩ u') (.slice sa n c) (X.set 0 ys) := by
  obtain ⟨us, h1, h2⟩ := h
  have hlt := fun k (hk : (Value.slice sa n c).ownBlock = some k) => World.ownsRow.lt h1 k hk
  have h1' := h1
  obtain ⟨hl, hn | ⟨g, cap, cur, hv, hb, hg, hr1, hr2, hr3, hr4⟩⟩ := h1'
  · have := h2.len; have := hn.2; omega
  injection hv with e1 e2 e3
  subst e1
  have hul : 0 < us.length := by rw [h2.len]; exact hX
  obtain ⟨a, c', hv', hc', hm', hcell⟩ := ownsRow_cells h1
  injection hv' with e1 e4 e5
  subst e1
  have hblk : Blk w g 32 cur.toList := by unfold Blk; simpa using hg
  obtain ⟨g', hg', hcc⟩ := hcell 0 hul
  injection hg' with hg'; injection hg' with hg'; subst hg'
  have hrow : row X 0 = X[0] := row_nat X 0 hX
  have hown := h2.own 0 hul hX
  refine ⟨g, us[0], rfl, hb, hcc, hblk.frozen 0, by rw [hrow]; exact hown, fun w' u' ys hk ho => ?_⟩
  have hne : ∀ i (hi : i < us.length), us[i].ownBlock ≠ some g := fun i hi => (h2.own i hi (by rw [← h2.len]; exact hi)).ne hblk (by decide)
  have hblk' := hblk.of_block (hk.block g hblk.lt (hne 0 hul))
  have hcw : ∀ i (hi : i < us.length), w'.cell? ⟨g, i, none⟩ = some us[i] := fun i hi => by
    obtain ⟨g', hg', hcc⟩ := hcell i hi
    injection hg' with hg'; injection hg' with hg'; subst hg'
    exact cell_of_block (hk.block g hblk.lt (hne 0 hul)) hcc
  have hks : Keep (fun x => x = g) w' (w'.setCell ⟨g, 0, none⟩ u') := (Keep.refl (fun x => x = g) w').setCell (p := ⟨g, 0, none⟩) (.inl rfl) u'
  have hu'g : u'.ownBlock ≠ some g := ho.ne hblk' (by decide)
  have hfar : ∀ {v : Value} {xs : List Int}, Own lo w' v xs → v.ownBlock ≠ some g → IntsAt lo (w'.setCell ⟨g, 0, none⟩ u') v xs := fun h1 h2 => (h1.keep1 (p := ⟨g, 0, none⟩) u' h2).at'
  refine ⟨hcw 0 hul, hblk'.frozen 0, some ⟨g, 0, none⟩, c, ?_, ?_, ?_, fun i hi => ?_⟩
  · rw [List.length_set, ← h2.len]; rw [e4]
  · rw [List.length_set, ← h2.len, e5]; exact hc'
  · rw [e5]; exact hm'
  · rw [List.length_set] at hi
    have hi' : i < us.length := by rw [h2.len]; exact hi
    by_cases e : i = 0
    · subst e
      refine ⟨g, 0, u', rfl, hb, (by first | exact World.cell?_setCell_same _ _ _ (hcw 0 hul) | exact World.cell?_setCell_same _ _ (hcw 0 hul)), ?_⟩
      simp only [List.getElem_set_self]
      exact hfar ho hu'g
    · refine ⟨g, 0, us[i], rfl, hb, ?_, ?_⟩
      · have hs := hblk'.set 0 u'
        have h3 : i < cur.toList.length := by
          have := hcell i hi'
          rw [← hr4] at hi'
          simp at hi' ⊢; omega
        have := hs.cell (i := i) (by simpa using h3)
        rw [Nat.zero_add, this, List.getElem_set_ne (by omega)]
        have h4 := hblk'.cell (i := i) h3
        rw [hcw i hi'] at h4
        exact h4.symm
      · rw [List.getElem_set_ne (by omega)]
        exact hfar (h2.others hul hk i hi' hi (by omega)) (hne i hi')

theorem drew_at {b lo : Nat} {w1 w2 : World} {v : Value} {X : List (List Int)} (h : Drew b w1 w2) (hr : RowsAt lo w1 v X) (hb : b < lo) : RowsAt lo w2 v X := hr.keep h.2 (fun x hx e => by have e : x = b := e; omega)
theorem drew_int {b B : Nat} {w w1 w2 : World} {v : Value} {xs : List Int} (h : Drew b w w1) (ho : Own B w1 v xs) (k : Keep (fun x => v.ownBlock = some x) w1 w2) (hb : b < w.heap.size) (hB : w.heap.size ≤ B) : Drew b w w2 :=
  ⟨h.1.keep k (fun p hp e => by have := (ho.lt e).1; omega), h.2.chain k (fun x hx e => by have := (ho.lt e).1; omega)⟩
theorem keep_mono {S T : Nat → Prop} {w w' : World} (k : Keep S w w') (h : ∀ x, S x → T x) : Keep T w w' := ⟨k.os, k.tape, k.output, k.size, fun x hx hn => k.block x hx (fun e => hn (h x e))⟩
set_option maxRecDepth 100000 in
set_option maxHeartbeats 4000000 in
theorem c_l01Bad (b n : Nat) (w : World) (hs : Src w b) (h1 : 1 ≤ n) (h2 : n ≤ 100) :
    Calls Tryd.prog 51 #[.pointer (some ⟨b, 0, none⟩), .int .i64 n] w (fun e w' => ∃ (r : Value) (X : List (List Int)), e = .returned r ∧ X.length ≤ 101 ∧ (∀ row ∈ X, row.length ≤ 101) ∧ RowsAt w.heap.size w' r X ∧ Drew b w w') := by
  have hbl := hs.lt
  have HS := Lib.hid hs
  clear hs
  go_enter Tryd.func51, Tryd.ntmps51
  go_wp2_with fail
  refine (c_l01Tables b n _ HS.out h1 (by omega)).mono ?_; rintro e w1 ⟨r, X, rfl, hXl, hXr, hor, hd1⟩
  obtain ⟨ra, rc, hr, -⟩ := OwnRows.shape' hor
  rw [hXl] at hr
  subst hr
  have HO := Lib.hid hor; have HD1 := Lib.hid hd1; have HX := Lib.hid (And.intro hXl hXr)
  clear hor hd1 hXl hXr
  go_wp2_with fail
  refine (c_l01Next b 30 _ HD1.out.1 (by omega) (by omega)).mono ?_; rintro e w2 ⟨kd, rfl, k0, k30, hd2⟩
  have HD2 := Lib.hid (HD1.out.trans hd2)
  have HO2 := Lib.hid (HO.out.keep hd2.2 (fun x h1 h2 e => by have e : x = b := e; omega))
  clear hd2
  by_cases e0 : kd = 0
  · subst e0
    go_wp2_with fail
    refine (c_l01Unit n _ (by omega)).mono ?_; rintro e w3 ⟨ru, rfl, hou, hb3⟩
    have HO3 := Lib.hid (HO2.out.under hb3).inn; have HU := Lib.hid hou; have HD3 := Lib.hid (HD2.out.under hb3)
    have HB := Lib.hid hb3.size; have HW := Lib.hid HD2.out.2.size
    obtain ⟨ua, uc, hu, -, -⟩ := hou.ints.shape
    rw [iota_length] at hu
    subst hu
    clear hou
    have HI2 := Lib.hid (HO2.out.inn.under hb3)
    clear hb3
    go_wp2_with (at_builtin; refine wpList_app_row2 w.heap.size w2.heap.size w3 _ X _ (iota n) _ _ rfl rfl rfl HI2.out HU.out rfl (by have := HX.out.1; omega) HW.out (Nat.le_trans HW.out HB.out) ?_; intro ga gc w9 hown hkeep hor; have HOwn := Lib.hid hown; have HKp := Lib.hid hkeep; clear hown hkeep hor)
    go_ret
    refine ⟨_, X ++ [iota n], rfl, by have := HX.out.1; simp; omega, fun r hr => ?_, HOwn.out.at', drew_app HD3.out HI2.out.out HKp.out hbl⟩
    rcases List.mem_append.1 hr with h | h
    · have := HX.out.2 r h; omega
    · simp at h; subst h; simp; omega
  by_cases e1 : kd = 1
  · subst e1
    obtain ⟨tb, u, hra, htb, hc0, hf0, hou, hfin⟩ := first_row HO2.out (by have := HX.out.1; omega)
    subst hra
    have HFin := Lib.hid hfin; have HOu := Lib.hid hou; have HW := Lib.hid HD2.out.2.size
    have hrl : (row X 0).length = n := HX.out.2 _ (row_mem (by omega) (by have := HX.out.1; omega))
    have HRl := Lib.hid hrl
    obtain ⟨ua, uc, hu, -, -⟩ := hou.ints.shape
    rw [hrl] at hu
    subst hu
    clear hfin hou hrl
    go_wp2_with (at_builtin; refine wpList_app_int2 w.heap.size w2 _ (row X 0) 0 _ _ w2.heap.size rfl rfl rfl rfl HOu.out rfl (by rw [HRl.out]; omega) HW.out ?_; intro ga gc w9 hown hkeep hor; rw [HRl.out] at hown; rw [HRl.out]; obtain ⟨q1, q2, q3⟩ := HFin.out w9 _ _ hkeep hown; have HQ3 := Lib.hid q3; have HKp := Lib.hid hkeep; clear hown hkeep hor q3)
    go_ret
    refine ⟨_, X.set 0 (row X 0 ++ [0]), rfl, by have := HX.out.1; simp; omega, fun r hr => ?_, HQ3.out, ?_⟩
    · rcases List.mem_or_eq_of_mem_set hr with h | h
      · have := HX.out.2 r h; omega
      · subst h; have := HRl.out; simp; omega
    · exact drew_set (drew_int HD2.out HOu.out HKp.out hbl (Nat.le_refl _)) (p := ⟨tb, 0, none⟩) htb (by show b < tb; omega) _
  have z0 : (kd == 0) = false := by simp [e0]
  have z1 : (kd == 1) = false := by simp [e1]
  by_cases e2 : kd = 2
  · subst e2
    have hXl := HX.out.1
    have hrl : (row X ((0 : Nat) : Int)).length = n := HX.out.2 _ (row_mem (by omega) (by omega))
    have HRl := Lib.hid hrl
    obtain ⟨tb, g, cr, zz, hra, t1, t2, t3, t4, t5, hc, -, -, -⟩ := HO2.out.inn.put (u := 0) (y := 0) (m := n) (by omega) hrl (by omega)
    subst hra
    have HK : Hid (∀ w' : World, Keep (fun k => k = b ∨ k = g) w2 w' → w'.cell? ⟨tb, 0, none⟩ = some (.slice (some ⟨g, 0, none⟩) n cr)) := Lib.hid (fun w' k => cell_of_block (k.block tb (cell_lt hc) (by omega)) hc)
    have hbel : Below w2.heap.size w2 (w2.alloc (.cells #[.int .i64 (-1), .int .i64 n, .int .i64 1099511627776] 2)).drew := ((Below.refl _ _).alloc (Nat.le_refl _) _).drew
    have HD3 := Lib.hid (HD2.out.under hbel)
    have HOw : Hid (Own w2.heap.size (w2.alloc (.cells #[.int .i64 (-1), .int .i64 n, .int .i64 1099511627776] 2)).drew (.slice (some ⟨w2.heap.size, 0, none⟩) 3 3) [-1, (n : Int), 1099511627776]) := Lib.hid
      ((Own.shut (cs := []) (by simpa using Blk.new w2 [.int .i64 (-1), .int .i64 n, .int .i64 1099511627776] 2) (Nat.le_refl _) (by simp [maxLen]) (by simp) (by simp) : Own w2.heap.size (w2.alloc (.cells #[.int .i64 (-1), .int .i64 n, .int .i64 1099511627776] 2)) (.slice (some ⟨w2.heap.size, 0, none⟩) 3 3) [-1, (n : Int), 1099511627776]).under (Below.refl _ _).drew)
    have hlt2 := HD2.out.1.lt
    have HSrc := Lib.hid HD3.out.1
    have hn0 : 0 < n := by omega
    have hn00 : (0 : Int) < (n : Int) := by omega
    have K0 : Keep (fun k => k = b ∨ k = g) w2 w2.drew := (Keep.refl _ w2).drew
    have K1 : Keep (fun k => k = b ∨ k = g) w2 (w2.alloc (.cells #[.int .i64 (-1), .int .i64 n, .int .i64 1099511627776] 2)).drew := ((Keep.refl _ w2).alloc _).drew
    have zc := HK.out _ K0
    have HO3 := Lib.hid (HO2.out.inn.under hbel)
    clear hbel hc
    go_wp2
    go_region_held3 (fun w' => w'.cell? ⟨tb, 0, none⟩ = some (.slice (some ⟨g, 0, none⟩) n cr))
      (first | exact HK.out _ K0 | exact HK.out _ K1 | exact HK.out _ K5 | exact HK.out _ K6 | exact HK.out _ (K5.setCell (.inl (.inr rfl)) _))
      ((go_at_call 59; (with_reducible refine (c_l01Pick b w2.heap.size _ [-1, (n : Int), 1099511627776] _ HSrc.out HOw.out hlt2 (by simp) (by simp)).mono ?_); rintro e w5 ⟨x, rfl, hx, hd5⟩; have K5 := K1.trans (keep_mono hd5.2 (T := fun k => k = b ∨ k = g) (fun x hx => .inl hx)); have c5 := HK.out _ K5; obtain ⟨tb5, g5, cr5, zz5, f1, f2, f3, f4, f5, f6, f7, f8, f9, f10⟩ := (HO3.out.keep hd5.2 (fun x h1 h2 e => by have e : x = b := e; omega)).put (u := 0) (y := 0) (m := n) (by omega) HRl.out (by omega); injection f1 with f1; injection f1 with f1; subst f1; rw [c5] at f7; injection f7 with f7; injection f7 with f7; injection f7 with f7; injection f7 with f7; subst f7; have HF10 := Lib.hid f10; have HD5 := Lib.hid (HD3.out.trans hd5); clear f10 hd5 hx))
    all_goals
      have HD6 := Lib.hid (drew_set HD5.out (p := ⟨g, 0, none⟩) (by show w.heap.size ≤ g; omega) (by show b < g; omega) (.int .i64 x))
      have HT := Lib.hid (HF10.out x).out.at'
      rename_i hHz
      clear hHz
      go_wp2
      go_ret
      refine ⟨_, X.set 0 ((row X ((0 : Nat) : Int)).set 0 x), rfl, by have := HX.out.1; simp; omega, fun r hr => ?_, HT.out, HD6.out⟩
      rcases List.mem_or_eq_of_mem_set hr with h | h
      · have := HX.out.2 r h; omega
      · subst h; have := HRl.out; rw [List.length_set]; omega
  have z2 : (kd == 2) = false := by simp [e2]
  by_cases e3 : kd = 3
  · subst e3
    have HN := Lib.hid (OwnRows.made0 w2 (Nat.le_refl w2.heap.size))
    have HD3 := Lib.hid (HD2.out.under ((Below.refl w2.heap.size w2).alloc (Nat.le_refl _) (.cells #[] 32)))
    go_wp2
    go_ret
    exact ⟨_, [], rfl, by simp, by simp, (HN.out.mono HD2.out.2.size).at', HD3.out⟩
  have z3 : (kd == 3) = false := by simp [e3]
  by_cases e4 : kd = 4
  · subst e4
    go_wp2_with fail
    refine (c_l01Tables b 13 _ HD2.out.1 (by omega) (by omega)).mono ?_; rintro e w3 ⟨r3, Y, rfl, hYl, hYr, hor, hd3⟩
    have HO3 := Lib.hid hor; have HD3 := Lib.hid (HD2.out.trans hd3); have HY := Lib.hid (And.intro hYl hYr)
    clear hor hd3 hYl hYr
    go_wp2
    go_ret
    exact ⟨_, Y, rfl, by have := HY.out.1; omega, fun r hr => by have := HY.out.2 r hr; omega, (HO3.out.mono HD2.out.2.size).at', HD3.out⟩
  have z4 : (kd == 4) = false := by simp [e4]
  go_wp2
  go_ret
  exact ⟨_, X, rfl, by have := HX.out.1; omega, fun r hr => by have := HX.out.2 r hr; omega, HO2.out.at', HD2.out⟩
end Go.Proofs.YtnbhghgkjcfcmaaDoor

namespace Go.Proofs.YtnbhghgkjcfcmaaDoor
set_option linter.unusedVariables false
set_option linter.unusedSimpArgs false

theorem sorted_eq : ∀ {l m : List Int}, l.Perm m → l.Pairwise (· ≤ ·) → m.Pairwise (· ≤ ·) → l = m
  | [], m, h, _, _ => (h.nil_eq)
  | a :: l, [], h, _, _ => by have := h.length_eq; simp at this
  | a :: l, b :: m, h, hl, hm => by
    rw [List.pairwise_cons] at hl hm
    have h1 : a ∈ b :: m := h.subset (by simp)
    have h2 : b ∈ a :: l := h.symm.subset (by simp)
    have e : a = b := by
      rcases List.mem_cons.1 h1 with h1 | h1
      · exact h1
      · rcases List.mem_cons.1 h2 with h2 | h2
        · exact h2.symm
        · have := hm.1 a h1; have := hl.1 b h2; omega
    subst e
    rw [sorted_eq h.cons_inv hl.2 hm.2]

/-- The numbers 0 to n - 1 of M in ascending order. -/
def csort (n : Nat) (M : List Int) : List Int := (List.range n).flatMap fun (s : Nat) => List.replicate (M.count (s : Int)) (s : Int)
/-- The numbers 1 to n of M in ascending order. -/
def cycS (n : Nat) (M : List Int) : List Int := (List.range n).flatMap fun (s : Nat) => List.replicate (M.count ((s : Int) + 1)) ((s : Int) + 1)
theorem csort_succ (n : Nat) (M : List Int) : csort (n + 1) M = csort n M ++ List.replicate (M.count (n : Int)) (n : Int) := by
  simp [csort, List.range_succ]
theorem cycS_succ (n : Nat) (M : List Int) : cycS (n + 1) M = cycS n M ++ List.replicate (M.count ((n : Int) + 1)) ((n : Int) + 1) := by
  simp [cycS, List.range_succ]
theorem csort_cyc (M : List Int) : ∀ n, csort (n + 1) M = List.replicate (M.count 0) 0 ++ cycS n M
  | 0 => by simp [csort, cycS]
  | n + 1 => by rw [csort_succ, csort_cyc M n, cycS_succ]; simp
theorem count_csort (M : List Int) (x : Int) : ∀ n : Nat, (csort n M).count x = if 0 ≤ x ∧ x < n then M.count x else 0
  | 0 => by
    rw [if_neg (by omega)]; simp [csort]
  | n + 1 => by
    rw [csort_succ, List.count_append, count_csort M x n, List.count_replicate]
    by_cases e : x = n
    · subst e; simp; omega
    · have e' : ¬ ((n : Int) == x) = true := by simp; omega
      rw [if_neg e']
      by_cases h : 0 ≤ x ∧ x < n
      · rw [if_pos h, if_pos (by omega)]; rfl
      · rw [if_neg h, if_neg (by omega)]
theorem mem_csort {M : List Int} {x : Int} : ∀ {n : Nat}, x ∈ csort n M → 0 ≤ x ∧ x < n := by
  intro n h
  have := List.count_pos_iff.2 h
  rw [count_csort] at this
  by_cases e : 0 ≤ x ∧ x < n
  · exact e
  · rw [if_neg e] at this; omega
theorem csort_sorted (M : List Int) : ∀ n : Nat, (csort n M).Pairwise (· ≤ ·)
  | 0 => by simp [csort]
  | n + 1 => by
    rw [csort_succ, List.pairwise_append]
    refine ⟨csort_sorted M n, ?_, ?_⟩
    · rw [List.pairwise_replicate]; exact .inr (by omega)
    · intro a ha b hb
      have h1 := mem_csort ha
      have h2 := List.eq_of_mem_replicate hb
      omega
theorem csort_perm {M : List Int} {n : Nat} (h : ∀ x ∈ M, 0 ≤ x ∧ x < n) : (csort n M).Perm M := by
  rw [List.perm_iff_count]
  intro x
  rw [count_csort]
  by_cases e : 0 ≤ x ∧ x < n
  · rw [if_pos e]
  · rw [if_neg e]
    exact (List.count_eq_zero.2 fun hm => e (h x hm)).symm
/-- What sorting makes of M. -/
theorem sort_is {M S : List Int} {n : Nat} (h : ∀ x ∈ M, 0 ≤ x ∧ x < n) (hp : S.Perm M) (hs : S.Pairwise (· ≤ ·)) : S = csort n M :=
  sorted_eq (hp.trans (csort_perm h).symm) hs (csort_sorted M n)
theorem cycS_pos {M : List Int} {n : Nat} {x : Int} (h : x ∈ cycS n M) : 0 < x := by
  simp only [cycS, List.mem_flatMap] at h
  obtain ⟨s, _, hs⟩ := h
  have := List.eq_of_mem_replicate hs
  omega
theorem cycS_sum (M : List Int) : ∀ n : Nat, (cycS n M).sum = ((List.range n).map fun (s : Nat) => (M.count ((s : Int) + 1) : Int) * ((s : Int) + 1)).sum
  | 0 => rfl
  | n + 1 => by
    rw [cycS_succ, List.sum_append, cycS_sum M n, List.range_succ, List.map_append, List.sum_append]
    simp
theorem cycS_length (M : List Int) (n : Nat) : (cycS n M).length ≤ M.length := by
  have h : (csort (n + 1) M).length ≤ M.length := by
    have : ∀ k : Nat, (csort k M).length ≤ (M.filter fun (x : Int) => decide (0 ≤ x ∧ x < (k : Int))).length := by
      intro k
      induction k with
      | zero => simp [csort]
      | succ k ih =>
        rw [csort_succ, List.length_append, List.length_replicate]
        have e : (M.filter fun (x : Int) => decide (0 ≤ x ∧ x < ((k + 1 : Nat) : Int))).length = (M.filter fun (x : Int) => decide (0 ≤ x ∧ x < (k : Int))).length + M.count (k : Int) := by
          clear ih
          induction M with
          | nil => rfl
          | cons a M ih =>
            simp only [List.filter_cons, List.count_cons]
            by_cases h1 : 0 ≤ a ∧ a < (k : Int)
            · have h2 : 0 ≤ a ∧ a < ((k + 1 : Nat) : Int) := by omega
              have h3 : ¬ (a == (k : Int)) = true := by simp; omega
              rw [if_pos (by simpa using h2), if_pos (by simpa using h1), if_neg h3, List.length_cons, List.length_cons, ih]; omega
            · by_cases h4 : a = k
              · have h2 : 0 ≤ a ∧ a < ((k + 1 : Nat) : Int) := by omega
                have h3 : (a == (k : Int)) = true := by simp [h4]
                rw [if_pos (by simpa using h2), if_neg (by simpa using h1), if_pos h3, List.length_cons, ih]; omega
              · have h2 : ¬ (0 ≤ a ∧ a < ((k + 1 : Nat) : Int)) := by omega
                have h3 : ¬ (a == (k : Int)) = true := by simpa using h4
                rw [if_neg (by simpa using h2), if_neg (by simpa using h1), if_neg h3, ih]; rfl
        rw [e]; omega
    exact Nat.le_trans (this (n + 1)) (List.length_filter_le _ _)
  rw [csort_cyc, List.length_append] at h
  omega
end Go.Proofs.YtnbhghgkjcfcmaaDoor

namespace Go.Proofs.YtnbhghgkjcfcmaaDoor
set_option linter.unusedVariables false
set_option linter.unusedSimpArgs false

theorem orbL_range {L : List (List Int)} {n : Nat} (hs : SysOk n L) {y : Nat} (hy : y < n) : 0 ≤ nth (orbL L n) y ∧ nth (orbL L n) y < n := by
  have h1 := (labs_iff hs n y (Nat.le_refl _) hy).2 ⟨y, hy, .here⟩
  have h2 := labs_range L n n y hy
  have h3 := (labs_next L n n).2
  exact ⟨h1, by unfold orbL; omega⟩
theorem orbL_len (L : List (List Int)) (n : Nat) : (orbL L n).length = n := labs_length L n n
theorem orbL_mem {L : List (List Int)} {n : Nat} (hs : SysOk n L) {x : Int} (hx : x ∈ orbL L n) : 0 ≤ x ∧ x < n := by
  obtain ⟨k, hk, rfl⟩ := List.getElem_of_mem hx
  rw [orbL_len] at hk
  have := orbL_range hs hk
  rwa [nth_nat _ _ (by rw [orbL_len]; exact hk)] at this

/-- How often each number 0 to n - 1 stands among the first k of X. -/
def cnt (X : List Int) (n k : Nat) : List Int := rowOf n fun o => ((X.take k).count o : Int)
@[simp] theorem cnt_length (X : List Int) (n k : Nat) : (cnt X n k).length = n := by simp [cnt]
theorem cnt_nth {X : List Int} {n k : Nat} {o : Int} (h0 : 0 ≤ o) (h1 : o < n) : nth (cnt X n k) o = ((X.take k).count o : Int) := nth_rowOfi _ _ _ h0 h1
theorem cnt_zero (X : List Int) (n : Nat) : cnt X n 0 = List.replicate n 0 := by
  unfold cnt
  have := rowOf_const n 0
  simpa using this
theorem cnt_step {X : List Int} {n k : Nat} (hk : k < X.length) (h0 : 0 ≤ nth X k) (h1 : nth X k < n) : (cnt X n k).set (nth X k).toNat (nth (cnt X n k) (nth X k) + 1) = cnt X n (k + 1) := by
  apply ext_nth (by simp)
  intro j hj
  simp at hj
  rw [nth_set _ _ _ _ h0 (by simpa using h1) (by omega), cnt_nth (by omega) (by omega), cnt_nth (by omega) (by omega), cnt_nth (by omega) (by omega), take_snoc _ _ hk, List.count_append]
  by_cases e : (j : Int) = nth X k
  · rw [if_pos e, e]; simp
  · rw [if_neg e]
    have : [nth X k].count (j : Int) = 0 := by
      rw [List.count_eq_zero]; simp; omega
    omega
noncomputable def cyM (p : List Int) : List Int := cnt (orbL [p] p.length) p.length p.length
noncomputable def cyL (p : List Int) : List Int := cycS p.length (cyM p)
theorem cyM_eq (p : List Int) : cyM p = rowOf p.length fun o => ((orbL [p] p.length).count o : Int) := by
  unfold cyM cnt
  rw [List.take_of_length_le (by rw [orbL_len]; exact Nat.le_refl _)]
theorem cyM_range (p : List Int) : ∀ x ∈ cyM p, 0 ≤ x ∧ x < ((p.length + 1 : Nat) : Int) := by
  intro x hx
  rw [cyM_eq] at hx
  unfold rowOf at hx
  rw [List.mem_map] at hx
  obtain ⟨j, _, rfl⟩ := hx
  have := List.count_le_length (a := (j : Int)) (l := orbL [p] p.length)
  rw [orbL_len] at this
  show 0 ≤ ((orbL [p] p.length).count (j : Int) : Int) ∧ ((orbL [p] p.length).count (j : Int) : Int) < _
  omega
theorem cyM_zero {p : List Int} (hs : SysOk p.length [p]) (h1 : 1 ≤ p.length) : (cyM p).count 0 < p.length := by
  have hl : (cyM p).length = p.length := by simp [cyM]
  have hle := List.count_le_length (a := (0 : Int)) (l := cyM p)
  rcases Nat.lt_or_ge ((cyM p).count 0) p.length with h | h
  · exact h
  · exfalso
    have he : (cyM p).count 0 = (cyM p).length := by omega
    rw [List.count_eq_length] at he
    have hr := orbL_range hs (y := 0) (by omega)
    rw [show ((0 : Nat) : Int) = 0 from rfl] at hr
    have hm : nth (cyM p) (nth (orbL [p] p.length) 0) ∈ cyM p := nth_mem hr.1 (by rw [hl]; exact hr.2)
    have := he _ hm
    rw [cyM_eq, nth_rowOfi _ _ _ hr.1 hr.2] at this
    have h0 : nth (orbL [p] p.length) 0 ∈ orbL [p] p.length := nth_mem (by omega) (by rw [orbL_len]; omega)
    have := List.count_pos_iff.2 h0
    omega
/-- The first place of a number above 0, or -1. -/
def posI : List Int → Int
  | [] => -1
  | x :: l => if 0 < x then 0 else if posI l < 0 then -1 else posI l + 1
theorem posI_rep (z : Nat) (x : Int) (l : List Int) (hx : 0 < x) : posI (List.replicate z 0 ++ x :: l) = z := by
  induction z with
  | zero => simp [posI, hx]
  | succ z ih => rw [List.replicate_succ, List.cons_append, posI, ih, if_neg (by omega), if_neg (by omega)]; omega
theorem cyS_parts {p : List Int} (hs : SysOk p.length [p]) (h1 : 1 ≤ p.length) {S : List Int} (hS : S = csort (p.length + 1) (cyM p)) :
    (posI S = ((cyM p).count 0 : Nat)) ∧ (cyM p).count 0 < S.length ∧ S.drop ((cyM p).count 0) = cyL p := by
  have hlen : S.length = p.length := by
    rw [hS, (csort_perm (cyM_range p)).length_eq]; simp [cyM]
  have hz := cyM_zero hs h1
  have hcs := csort_cyc (cyM p) p.length
  rw [← hS] at hcs
  have hd : S.drop ((cyM p).count 0) = cyL p := by
    rw [hcs, List.drop_left' (by simp)]; rfl
  refine ⟨?_, by omega, hd⟩
  have hne : cyL p ≠ [] := by
    intro e
    have : (S.drop ((cyM p).count 0)).length = 0 := by rw [hd, e]; rfl
    rw [List.length_drop] at this; omega
  obtain ⟨x, l, hxl⟩ := List.exists_cons_of_ne_nil hne
  have hx : 0 < x := cycS_pos (M := cyM p) (n := p.length) (by show x ∈ cyL p; rw [hxl]; simp)
  rw [hcs]
  show posI (_ ++ cyL p) = _
  rw [hxl, posI_rep _ _ _ hx]

/-- One more than the greatest number. -/
def grt (L : List Int) : Int := L.foldl (fun m x => if m ≤ x then x + 1 else m) 0
theorem grt_snoc (L : List Int) (k : Nat) (h : k < L.length) : grt (L.take (k + 1)) = if grt (L.take k) ≤ nth L k then nth L k + 1 else grt (L.take k) := by
  unfold grt; rw [take_snoc _ _ h, List.foldl_append]; rfl
theorem grt_ge (L : List Int) : 0 ≤ grt L ∧ ∀ x ∈ L, x < grt L := by
  have : ∀ (m : Int) (L : List Int), m ≤ L.foldl (fun m x => if m ≤ x then x + 1 else m) m ∧ ∀ x ∈ L, x < L.foldl (fun m x => if m ≤ x then x + 1 else m) m := by
    intro m L
    induction L generalizing m with
    | nil => simp
    | cons a L ih =>
      rw [List.foldl_cons]
      by_cases hma : m ≤ a
      · rw [if_pos hma]
        have h := ih (a + 1)
        refine ⟨by omega, fun x hx => ?_⟩
        rcases List.mem_cons.1 hx with rfl | hx
        · omega
        · exact h.2 x hx
      · rw [if_neg hma]
        have h := ih m
        refine ⟨h.1, fun x hx => ?_⟩
        rcases List.mem_cons.1 hx with rfl | hx
        · omega
        · exact h.2 x hx
  exact this 0 L
theorem grt_le {L : List Int} {n : Nat} (h : ∀ x ∈ L, x < n) : grt L ≤ n := by
  have : ∀ (m : Int) (L : List Int), m ≤ n → (∀ x ∈ L, x < n) → L.foldl (fun m x => if m ≤ x then x + 1 else m) m ≤ n := by
    intro m L
    induction L generalizing m with
    | nil => intro h _; exact h
    | cons a L ih =>
      intro h1 h2
      rw [List.foldl_cons]
      refine ih _ ?_ (fun x hx => h2 x (by simp [hx]))
      have := h2 a (by simp)
      split <;> omega
  exact this 0 L (by omega) h
/-- Beyond the greatest label there is nothing to count. -/
theorem cyM_tail {p : List Int} (hs : SysOk p.length [p]) (s : Int) (h : 0 < s) : ((cyM p).take (grt (orbL [p] p.length)).toNat).count s = (cyM p).count s := by
  obtain ⟨g0, g1⟩ := grt_ge (orbL [p] p.length)
  have hle := grt_le (L := orbL [p] p.length) (n := p.length) (fun x hx => (orbL_mem hs hx).2)
  have hsplit : (cyM p).count s = ((cyM p).take (grt (orbL [p] p.length)).toNat).count s + ((cyM p).drop (grt (orbL [p] p.length)).toNat).count s := by
    rw [← List.count_append, List.take_append_drop]
  have hz : ((cyM p).drop (grt (orbL [p] p.length)).toNat).count s = 0 := by
    rw [List.count_eq_zero]
    intro hm
    obtain ⟨k, hk, e⟩ := List.getElem_of_mem hm
    rw [List.getElem_drop] at e
    rw [List.length_drop] at hk
    have hl : (cyM p).length = p.length := by simp [cyM]
    have e2 := nth_nat (cyM p) ((grt (orbL [p] p.length)).toNat + k) (by omega)
    rw [e] at e2
    rw [cyM_eq, nth_rowOfi _ _ _ (by omega) (by omega)] at e2
    have : (orbL [p] p.length).count (((grt (orbL [p] p.length)).toNat + k : Nat) : Int) = 0 := by
      rw [List.count_eq_zero]
      intro hmm
      have := g1 _ hmm
      omega
    omega
  omega
/-- The list after o labels of size s + 1. -/
noncomputable def cyO (p : List Int) (s o : Nat) : List Int := cycS s (cyM p) ++ List.replicate (((cyM p).take o).count ((s : Int) + 1)) ((s : Int) + 1)
theorem cyO_zero (p : List Int) (s : Nat) : cyO p s 0 = cycS s (cyM p) := by simp [cyO]
theorem cyO_done {p : List Int} (hs : SysOk p.length [p]) (s : Nat) : cyO p s (grt (orbL [p] p.length)).toNat = cycS (s + 1) (cyM p) := by
  unfold cyO; rw [cyM_tail hs _ (by omega), cycS_succ]
theorem cyO_step {p : List Int} {s o : Nat} (ho : o < p.length) : cyO p s (o + 1) = if nth (cyM p) o = (s : Int) + 1 then cyO p s o ++ [(s : Int) + 1] else cyO p s o := by
  have hl : (cyM p).length = p.length := by simp [cyM]
  unfold cyO
  rw [take_snoc _ _ (by omega), List.count_append]
  split
  · rename_i e
    rw [e]
    have : [(s : Int) + 1].count ((s : Int) + 1) = 1 := by simp
    rw [this, List.replicate_succ', List.append_assoc]
  · rename_i e
    have : [nth (cyM p) o].count ((s : Int) + 1) = 0 := by rw [List.count_eq_zero]; simp; omega
    rw [this]; rfl
theorem cyO_len (p : List Int) (s o : Nat) : (cyO p s o).length ≤ p.length + p.length := by
  have h1 := cycS_length (cyM p) s
  have h2 := List.count_le_length (a := (s : Int) + 1) (l := (cyM p).take o)
  have hl : (cyM p).length = p.length := by simp [cyM]
  rw [List.length_take] at h2
  unfold cyO
  rw [List.length_append, List.length_replicate]
  omega
end Go.Proofs.YtnbhghgkjcfcmaaDoor

namespace Go.Proofs.YtnbhghgkjcfcmaaDoor
set_option linter.unusedVariables false
set_option linter.unusedSimpArgs false

/-- The least number of steps that lead x back. -/
def MinPer (p : List Int) (x : Int) (c : Nat) : Prop := 1 ≤ c ∧ iter (nth p) c x = x ∧ ∀ r, 1 ≤ r → r < c → iter (nth p) r x ≠ x
theorem minPer_ex {p : List Int} (hp : Permuted p) {x : Int} (h0 : 0 ≤ x) (h1 : x < p.length) : ∃ c, MinPer p x c ∧ c ≤ p.length := by
  obtain ⟨r, r1, r2, r3⟩ := comes_back hp h0 h1
  have key : ∀ d, d ≤ p.length + 1 → (∃ c, MinPer p x c ∧ c ≤ p.length) ∨ (∀ j, 1 ≤ j → j < d → iter (nth p) j x ≠ x) := by
    intro d
    induction d with
    | zero => exact fun _ => .inr fun j h1 h2 => by omega
    | succ d ih =>
      intro hd1
      rcases ih (by omega) with h | h
      · exact .inl h
      · by_cases hd : 1 ≤ d ∧ iter (nth p) d x = x
        · exact .inl ⟨d, ⟨hd.1, hd.2, h⟩, by omega⟩
        · refine .inr fun j h1 h2 => ?_
          by_cases e : j = d
          · subst e; exact fun e2 => hd ⟨h1, e2⟩
          · exact h j h1 (by omega)
  rcases key (p.length + 1) (Nat.le_refl _) with h | h
  · exact h
  · exact absurd r3 (h r r1 (by omega))
theorem MinPer.uniq {p : List Int} {x : Int} {a b : Nat} (ha : MinPer p x a) (hb : MinPer p x b) : a = b := by
  rcases Nat.lt_trichotomy a b with h | h | h
  · exact absurd ha.2.1 (hb.2.2 a ha.1 h)
  · exact h
  · exact absurd hb.2.1 (ha.2.2 b hb.1 h)
theorem iter_comm (f : Int → Int) (a b : Nat) (x : Int) : iter f a (iter f b x) = iter f b (iter f a x) := by rw [← iter_add, ← iter_add, Nat.add_comm]
theorem MinPer.step {p : List Int} (hp : Permuted p) {x : Int} (h0 : 0 ≤ x) (h1 : x < p.length) {c : Nat} (h : MinPer p x c) (k : Nat) : MinPer p (iter (nth p) k x) c := by
  refine ⟨h.1, by rw [iter_comm, h.2.1], fun r r1 r2 e => ?_⟩
  rw [iter_comm] at e
  exact h.2.2 r r1 r2 (iter_inj hp (iter_lt hp h0 h1 r).1 (iter_lt hp h0 h1 r).2 h0 h1 k e)
theorem MinPer.nodup {p : List Int} (hp : Permuted p) {x : Int} (h0 : 0 ≤ x) (h1 : x < p.length) {c : Nat} (h : MinPer p x c) : ((List.range c).map fun k => iter (nth p) k x).Nodup := by
  rw [List.Nodup, List.pairwise_map, List.pairwise_iff_getElem]
  intro i j hi hj hij e
  simp only [List.getElem_range] at e
  simp at hj
  refine h.2.2 (j - i) (by omega) (by omega) ?_
  have e2 : iter (nth p) i (iter (nth p) (j - i) x) = iter (nth p) i x := by rw [← iter_add, show i + (j - i) = j from by omega, e]
  exact iter_inj hp (iter_lt hp h0 h1 _).1 (iter_lt hp h0 h1 _).2 h0 h1 i e2

/-- Sums and least common multiples of the numbers of D from 1 to k. -/
def sumD (D : Nat → Bool) : Nat → Nat
  | 0 => 0
  | k + 1 => sumD D k + if D (k + 1) then k + 1 else 0
def lcmD (D : Nat → Bool) : Nat → Nat → Nat
  | 0, l => l
  | k + 1, l => lcmD D k (if D (k + 1) then Nat.lcm l (k + 1) else l)
def chkD : Nat → Nat → Nat → Bool
  | 0, _, l => decide (l ≤ 60)
  | k + 1, b, l => chkD k b l && (if k + 1 ≤ b then chkD k (b - (k + 1)) (Nat.lcm l (k + 1)) else true)
theorem chkD_ok (D : Nat → Bool) : ∀ (k b l : Nat), chkD k b l = true → sumD D k ≤ b → lcmD D k l ≤ 60
  | 0, b, l, h, _ => by simpa [chkD, lcmD] using h
  | k + 1, b, l, h, hs => by
    simp only [chkD, Bool.and_eq_true] at h
    unfold lcmD
    unfold sumD at hs
    by_cases hd : D (k + 1) = true
    · rw [if_pos hd] at hs ⊢
      have h2 := h.2
      rw [if_pos (show k + 1 ≤ b by omega)] at h2
      exact chkD_ok D k _ _ h2 (by omega)
    · rw [if_neg hd] at hs ⊢
      exact chkD_ok D k b l h.1 (by omega)
theorem chk12 : chkD 12 12 1 = true := by decide +kernel
theorem lcmD_dvd (D : Nat → Bool) : ∀ (k l : Nat), l ∣ lcmD D k l
  | 0, l => Nat.dvd_refl _
  | k + 1, l => by
    unfold lcmD
    refine Nat.dvd_trans ?_ (lcmD_dvd D k _)
    split
    · exact Nat.dvd_lcm_left _ _
    · exact Nat.dvd_refl _
theorem lcmD_mem (D : Nat → Bool) : ∀ (k l d : Nat), 1 ≤ d → d ≤ k → D d = true → d ∣ lcmD D k l
  | 0, l, d, h1, h2, _ => by omega
  | k + 1, l, d, h1, h2, hd => by
    unfold lcmD
    by_cases e : d = k + 1
    · subst e
      rw [if_pos hd]
      exact Nat.dvd_trans (Nat.dvd_lcm_right _ _) (lcmD_dvd D k _)
    · exact lcmD_mem D k _ d h1 (by omega) hd
theorem lcmD_pos (D : Nat → Bool) : ∀ (k l : Nat), 0 < l → 0 < lcmD D k l
  | 0, l, h => h
  | k + 1, l, h => by
    unfold lcmD
    refine lcmD_pos D k _ ?_
    split
    · exact Nat.lcm_pos h (by omega)
    · exact h

open Classical in
theorem ord_le {p : List Int} (hp : Permuted p) (hn : p.length ≤ 12) : ∃ L, 1 ≤ L ∧ L ≤ 60 ∧ pw p (L - 1) = iota p.length := by
  let D : Nat → Bool := fun d => decide (∃ x : Int, 0 ≤ x ∧ x < p.length ∧ MinPer p x d)
  have hD : ∀ d, D d = true → ∃ x : Int, 0 ≤ x ∧ x < p.length ∧ MinPer p x d := fun d h => by simpa [D] using h
  have hx : ∀ d, ∃ x : Int, D d = true → 0 ≤ x ∧ x < p.length ∧ MinPer p x d := fun d => by
    by_cases h : D d = true
    · obtain ⟨x, hx⟩ := hD d h; exact ⟨x, fun _ => hx⟩
    · exact ⟨0, fun h2 => absurd h2 h⟩
  let X : Nat → Int := fun d => Classical.choose (hx d)
  have hX : ∀ d, D d = true → 0 ≤ X d ∧ X d < p.length ∧ MinPer p (X d) d := fun d => Classical.choose_spec (hx d)
  -- the orbits, one for each length
  have key : ∀ k, ∃ U : List Int, U.length = sumD D k ∧ U.Nodup ∧ (∀ y ∈ U, 0 ≤ y ∧ y < p.length ∧ ∃ d, d ≤ k ∧ MinPer p y d) := by
    intro k
    induction k with
    | zero => exact ⟨[], rfl, List.nodup_nil, by simp⟩
    | succ k ih =>
      obtain ⟨U, h1, h2, h3⟩ := ih
      by_cases hd : D (k + 1) = true
      · obtain ⟨x0, x1, hm⟩ := hX (k + 1) hd
        refine ⟨U ++ (List.range (k + 1)).map fun j => iter (nth p) j (X (k + 1)), ?_, ?_, ?_⟩
        · unfold sumD; rw [if_pos hd, List.length_append, h1]; simp
        · rw [List.nodup_append]
          refine ⟨h2, hm.nodup hp x0 x1, fun a ha b hb e => ?_⟩
          rw [List.mem_map] at hb
          obtain ⟨j, _, rfl⟩ := hb
          obtain ⟨_, _, d, hdk, hmd⟩ := h3 a ha
          rw [e] at hmd
          have := hmd.uniq (hm.step hp x0 x1 j)
          omega
        · intro y hy
          rcases List.mem_append.1 hy with hy | hy
          · obtain ⟨a, b, d, c, e⟩ := h3 y hy; exact ⟨a, b, d, by omega, e⟩
          · rw [List.mem_map] at hy
            obtain ⟨j, _, rfl⟩ := hy
            have := iter_lt hp x0 x1 j
            exact ⟨this.1, this.2, k + 1, Nat.le_refl _, hm.step hp x0 x1 j⟩
      · refine ⟨U, ?_, h2, fun y hy => ?_⟩
        · unfold sumD; rw [if_neg hd, h1]; rfl
        · obtain ⟨a, b, d, c, e⟩ := h3 y hy; exact ⟨a, b, d, by omega, e⟩
  obtain ⟨U, u1, u2, u3⟩ := key 12
  have hsum : sumD D 12 ≤ 12 := by
    have hsub : U ⊆ iota p.length := fun y hy => (mem_iota _ _).2 ⟨(u3 y hy).1, (u3 y hy).2.1⟩
    have := List.Nodup.length_le_of_subset u2 hsub
    rw [iota_length] at this; omega
  have hL := chkD_ok D 12 12 1 chk12 hsum
  have hpos := lcmD_pos D 12 1 (by omega)
  refine ⟨lcmD D 12 1, hpos, hL, ?_⟩
  apply ext_nth (by simp)
  intro k hk
  have hk' : k < p.length := by simpa using hk
  rw [nth_pw p k (by omega) (by omega), nth_iota _ _ (by omega) (by omega)]
  obtain ⟨c, hc, hcl⟩ := minPer_ex hp (x := (k : Int)) (by omega) (by omega)
  have hDc : D c = true := by
    have : ∃ x : Int, 0 ≤ x ∧ x < p.length ∧ MinPer p x c := ⟨k, by omega, by omega, hc⟩
    simpa [D] using this
  obtain ⟨m, hm⟩ := lcmD_mem D 12 1 c hc.1 (by omega) hDc
  rw [show lcmD D 12 1 - 1 + 1 = c * m by omega]
  exact iter_mul _ _ _ hc.2.1 m

theorem sum_perm {l m : List Int} (h : l.Perm m) : l.sum = m.sum := by
  induction h with
  | nil => rfl
  | cons x _ ih => simp [ih]
  | swap x y l => simp; omega
  | trans _ _ ih1 ih2 => exact ih1.trans ih2
theorem sum_set : ∀ (l : List Int) (i : Nat) (v : Int) (h : i < l.length), (l.set i v).sum = l.sum - l[i] + v
  | a :: l, 0, v, h => by simp; omega
  | a :: l, i + 1, v, h => by
    have := sum_set l i v (by simpa using h)
    simp only [List.set_cons_succ, List.sum_cons, this, List.getElem_cons_succ]; omega
  | [], i, v, h => by simp at h
theorem cnt_sum {X : List Int} {n : Nat} (hX : ∀ x ∈ X, 0 ≤ x ∧ x < n) : ∀ k, k ≤ X.length → (cnt X n k).sum = k
  | 0, _ => by rw [cnt_zero]; simp
  | k + 1, h => by
    have hx := hX _ (nth_mem (p := X) (x := k) (by omega) (by omega))
    rw [← cnt_step (by omega) hx.1 hx.2, sum_set _ _ _ (by simp; omega), cnt_sum hX k (by omega)]
    have := nth_nat (cnt X n k) (nth X k).toNat (by simp; omega)
    rw [show (((nth X k).toNat : Nat) : Int) = nth X k by omega] at this
    rw [this]; omega
theorem cyL_sum {p : List Int} (hs : SysOk p.length [p]) : (cyL p).sum = p.length := by
  have h1 := sum_perm (csort_perm (cyM_range p))
  rw [csort_cyc, List.sum_append] at h1
  have h2 : (List.replicate ((cyM p).count 0) (0 : Int)).sum = 0 := by simp
  have h3 : (cyM p).sum = p.length := cnt_sum (fun x hx => orbL_mem hs hx) p.length (by rw [orbL_len]; exact Nat.le_refl _)
  unfold cyL; omega
theorem inv_then {p q : List Int} (hp : Permuted p) (hq : Permuted q) (hl : q.length = p.length) (hpq : Permuted (thenL p q)) : invL (thenL p q) = thenL (invL q) (invL p) := by
  apply ext_nth (by simp; omega)
  intro k hk
  simp at hk
  obtain ⟨x, x0, x1, e⟩ := ex_pre hpq (y := (k : Int)) (by omega) (by simpa using hk)
  simp at x1
  have hx := perm_lt hp x0 x1
  rw [nth_thenL _ _ _ (by omega) (by simp; omega), ← e, nth_invL hpq x0 (by simpa using x1), nth_thenL _ _ _ x0 x1, nth_invL hq hx.1 (by omega), nth_invL hp x0 x1]
theorem then_perm {p q : List Int} (hp : Permuted p) (hq : Permuted q) (hl : q.length = p.length) : Permuted (thenL p q) := by
  rw [permuted_iff]
  intro x x0 x1
  rw [thenL_length] at x1
  obtain ⟨y, y0, y1, e⟩ := ex_pre hq (y := x) x0 (by omega)
  obtain ⟨z, z0, z1, e2⟩ := ex_pre hp (y := y) y0 (by omega)
  rw [← e, ← e2, ← nth_thenL p q z z0 z1]
  exact nth_mem z0 (by simpa using z1)
end Go.Proofs.YtnbhghgkjcfcmaaDoor
