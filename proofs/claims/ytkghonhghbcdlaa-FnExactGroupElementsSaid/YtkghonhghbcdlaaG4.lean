/-
  The library's sort of a list of lists by the comparison of lists: the rows in ascending order.
-/
import Derived.Test.YtkghonhghbcdlaaG3
import Derived.Test.YtkghonhghbcdlaaI24
import Derived.Test.YtkghonhghbcdlaaJ3
import Derived.Shelf.SlSortCmp.NoneTotal
import Derived.Sort.OwnSorted
namespace Go.Proofs.Ytkghonhghbcdlaa
set_option linter.unusedVariables false
set_option linter.unusedSimpArgs false
open Go Go.RowKit Go.Sort Go.Shelf

theorem heap_sortedG {α : Type} [Inhabited α] {w : World} {g n : Nat} {os : Array Obj} {cur : Array Value} {e : TypeId} {fr : Nat × Nat} (enc : α → Value) (d : Array α) (hb : w.heap[g]? = some (.cells cur e fr)) :
    (grow (putRow enc (Sort.ahead w n) g 0 d) os).heap[g]? = some (.cells (putCells enc 0 d cur) e fr) := by
  have hg : g < w.heap.size := (Array.getElem?_eq_some_iff.1 hb).1
  rw [heap_grow_old _ _ (by simpa using hg)]
  simp [putRow, mapBlock, Sort.ahead, Array.getElem?_modify, hb, onCells]
theorem keep_sortedG {α : Type} [Inhabited α] {w : World} {g n : Nat} {os : Array Obj} (enc : α → Value) (d : Array α) : Keep (fun k => k = g) w (grow (putRow enc (Sort.ahead w n) g 0 d) os) := by
  refine ⟨rfl, rfl, rfl, by simp, fun k hk hne => ?_⟩
  rw [heap_grow_old _ _ (by simpa using hk)]
  have : g ≠ k := fun e => hne e.symm
  simp [putRow, mapBlock, Sort.ahead, Array.getElem?_modify, this]
theorem blk_sortedG {α : Type} [Inhabited α] {w : World} {g n : Nat} {os : Array Obj} {t : TypeId} {us cs : List Value} (enc : α → Value) (d : Array α) (h : Blk w g t (us ++ cs)) (hl : us.length = d.size) :
    Blk (grow (putRow enc (Sort.ahead w n) g 0 d) os) g t (d.toList.map enc ++ cs) := by
  have := heap_sortedG (n := n) (os := os) enc d h
  unfold Blk
  rw [this]
  congr 2
  apply Array.ext'
  apply List.ext_getElem?
  intro j
  rcases Nat.lt_or_ge j d.size with hj | hj
  · have h2 : j < (us ++ cs).length := by simp; omega
    simp [putCells, hj, List.getElem?_append_left, show j < us.length by omega, hl]
  · simp only [putCells, List.getElem?_append_right, List.length_map, Array.length_toList, hj]
    rcases Nat.lt_or_ge j (us ++ cs).length with h2 | h2
    · have h3 : ¬ j < d.size := by omega
      have h4 : j - d.size < cs.length := by simp at h2; omega
      simp only [List.length_append] at h2
      simp [h3, h2, h4, List.getElem_append_right (show us.length ≤ j by omega), hl]
      rw [List.getElem?_append_right (by omega), hl]; exact List.getElem?_eq_getElem h4
    · simp only [List.length_append] at h2
      simp [show ¬ j < us.length + cs.length by omega, show ¬ j - d.size < cs.length by omega]

theorem keep_mono' {S T : Nat → Prop} {w w' : World} (k : Keep S w w') (h : ∀ x, S x → T x) : Keep T w w' := ⟨k.os, k.tape, k.output, k.size, fun x hx hn => k.block x hx (fun e => hn (h x e))⟩
theorem lex_ntrans {x y z : List Int} (h1 : lexB x y = false) (h2 : lexB y z = false) : lexB x z = false := by
  cases e : lexB x z
  · rfl
  · exfalso
    by_cases hyz : y = z
    · rw [hyz, e] at h1; cases h1
    · have h3 := lexB_total hyz h2
      rw [lexB_trans e h3] at h1; cases h1
/-- The values of the rows by their numbers. -/
def encV (us : List Value) (i : Fin us.length) : Value := us[i.val]
def cfV (us : List Value) (X : List (List Int)) (i j : Fin us.length) : Int := cmpB (row X i.val) (row X j.val)
theorem lt_cfV (us : List Value) (X : List (List Int)) (i j : Fin us.length) : ltOf (cfV us X) i j = lexB (row X i.val) (row X j.val) := by
  unfold ltOf cfV
  cases e : lexB (row X i.val) (row X j.val)
  · have : ¬ cmpB (row X i.val) (row X j.val) < 0 := fun h => by rw [cmpB_neg.1 h] at e; cases e
    simp [this]
  · simp [cmpB_neg.2 e]
theorem swo_cfV (us : List Value) (X : List (List Int)) : SWO (ltOf (cfV us X)) where
  irrefl x := by rw [lt_cfV]; exact lexB_irrefl _
  trans x y z h1 h2 := by rw [lt_cfV] at *; exact lexB_trans h1 h2
  ntrans x y z h1 h2 := by rw [lt_cfV] at *; exact lex_ntrans h1 h2

theorem eg_slCompare : ∀ args w, (callFunc 112 args).run Try.prog w = .ok (.enter 112 args) w := Go.Proofs.enters_of Try.func112 (by kernel_rfl) rfl
set_option maxHeartbeats 1000000 in
theorem c_SortRows (B : Nat) (w : World) (a : Option Addr) (c : Nat) (X : List (List Int)) (h : OwnRows B w (.slice a X.length c) X) (hn : X.Nodup) (h0 : 0 < X.length) (hm : X.length ≤ 1048576) :
    Calls Try.prog 111 #[.slice a X.length c, .func (.func 112) #[] #[]] w (fun e w' => e = .returned (.tuple #[]) ∧ OwnRows B w' (.slice a X.length c) (gSort X) ∧ Below B w w') := by
  obtain ⟨us, h1, h2⟩ := h
  have hl := h2.len
  rcases ownsRow_open h1 with ⟨hv, hnil⟩ | ⟨g, cs, hv, hb, hblk, hmx⟩
  · rw [hnil] at hl; simp at hl; omega
  injection hv with e1 e2 e3
  subst e1 e3
  rw [← hl] at h1 ⊢
  haveI : Inhabited (Fin us.length) := ⟨⟨0, by omega⟩⟩
  have hds : (Array.ofFn (n := us.length) id).size = us.length := by simp
  have hge : ∀ j, j < us.length → ∀ hj : j < us.length, (Array.ofFn (n := us.length) id)[j]! = ⟨j, hj⟩ := fun j h hj => by
    rw [getElem!_pos _ j (by simpa using h)]; simp
  have hH : Holds (encV us) w g 0 (Array.ofFn (n := us.length) id) := by
    intro j hj
    rw [hds] at hj
    rw [hge j hj hj, Nat.zero_add]
    refine ⟨?_, hblk.frozen j⟩
    rw [hblk.cell (i := j) (by simp; omega), List.getElem_append_left hj]
    rfl
  have hone : OneCell (encV us) := fun x => by
    obtain ⟨xa, xc, hx, -⟩ := (h2.own x.val x.2 (by rw [← hl]; exact x.2)).shape
    unfold encV
    rw [hx]; rfl
  have hrow : ∀ (w' : World), Keep (fun k => k = g) w w' → RowVals B w' us X := fun w' k => rowvals_keepT h2 h1 (keep_mono' k (fun x hx => by rw [hx]; rfl))
  have hcmp : CmpReads Try.prog 112 #[] (encV us) (cfV us X) g 0 (Array.ofFn (n := us.length) id).size w := by
    intro m os dk hs x y
    have hk : Keep (fun k => k = g) w (sortWorld (encV us) w g 0 m dk os) := keep_sortedG _ _
    have hr := hrow _ hk
    have hx := (hr.own x.val x.2 (by rw [← hl]; exact x.2)).ints
    have hy := (hr.own y.val y.2 (by rw [← hl]; exact y.2)).ints
    have := c_slCompare (encV us x) (encV us y) _ _ _ hx hy
    rw [← row_nat X x.val (by rw [← hl]; exact x.2), ← row_nat X y.val (by rw [← hl]; exact y.2)] at this
    rw [show (#[encV us x, encV us y] ++ #[] : Array Value) = #[encV us x, encV us y] from by simp]
    exact this
  have hT : ∀ x y, ltOf (cfV us X) x y = false → ltOf (cfV us X) y x = false → x = y := fun x y g1 g2 => by
    rw [lt_cfV] at g1 g2
    by_cases e : row X x.val = row X y.val
    · rw [row_nat X x.val (by rw [← hl]; exact x.2), row_nat X y.val (by rw [← hl]; exact y.2)] at e
      have := (List.getElem_inj hn).1 e
      exact Fin.ext this
    · have := lexB_total e g1
      rw [this] at g2; cases g2
  have hcon := Any.slices_SortFunc_total Try.laysSF (encV us) hone (cfV us X) (swo_cfV us X) 112 #[] g 0 (us.length + cs.length) (Array.ofFn (n := us.length) id) w eg_slCompare hcmp.lays hH hblk.lt (by rw [hds]; omega) hT
  rw [hds] at hcon
  refine Calls.mono hcon ?_
  rintro e w' ⟨he, m, os, hw'⟩
  obtain ⟨D, hD⟩ : ∃ D, ((Array.ofFn (n := us.length) id).toList.mergeSort fun x y => !(ltOf (cfV us X)) y x) = D := ⟨_, rfl⟩
  have hp : D.Perm (Array.ofFn (n := us.length) id).toList := by rw [← hD]; exact List.mergeSort_perm _ _
  have hDl : D.length = us.length := by rw [hp.length_eq]; simp
  rw [hD] at hw'
  have hk : Keep (fun k => k = g) w w' := by rw [hw']; exact keep_sortedG _ _
  have hb2 : Blk w' g 27 (D.map (encV us) ++ cs) := by
    rw [hw']
    have := blk_sortedG (n := m) (os := os) (encV us) D.toArray hblk (by simp [hDl])
    simpa [sortWorld] using this
  have hS : D.map (fun i => row X i.val) = gSort X := by
    refine gSort_is hn ?_ ?_
    · refine (hp.map _).trans (List.Perm.of_eq ?_)
      apply List.ext_getElem (by simp [hl])
      intro j g1 g2
      simp at g1
      simp [row_nat X j g2]
    · have hs : D.Pairwise fun x y => (!(ltOf (cfV us X)) y x) = true := by
        rw [← hD]
        refine List.pairwise_mergeSort ?_ ?_ _
        · intro x y z g1 g2
          simp only [Bool.not_eq_true'] at *
          exact (swo_cfV us X).ntrans _ _ _ g2 g1
        · intro x y
          cases g1 : ltOf (cfV us X) y x
          · simp
          · cases g3 : ltOf (cfV us X) x y
            · simp
            · have := (swo_cfV us X).trans _ _ _ g1 g3
              rw [(swo_cfV us X).irrefl] at this; cases this
      have hnd : D.Nodup := hp.nodup_iff.2 (by
        rw [List.nodup_iff_pairwise_ne, List.pairwise_iff_getElem]
        intro i j g1 g2 hij
        simp at g1 g2 ⊢
        omega)
      unfold AscR
      rw [List.pairwise_map]
      refine List.Pairwise.imp₂ (R := fun x y => (!(ltOf (cfV us X)) y x) = true) (S := fun x y => x ≠ y) ?_ hs (List.nodup_iff_pairwise_ne.1 hnd)
      intro x y g1 g2
      cases g3 : lexB (row X x.val) (row X y.val)
      · exfalso
        simp only [Bool.not_eq_true'] at g1
        exact g2 (hT x y (by rw [lt_cfV]; exact g3) g1)
      · rfl
  refine ⟨he, ⟨D.map (encV us), ?_, ?_⟩, hk.below fun k hk' => ⟨?_, fun e => by have e : k = g := e; omega⟩⟩
  · have := ownsRow_shut (B := B) hb2 hb (by simp; omega) (n := us.length) (m := us.length + cs.length) (by simp [hDl]) (by simp [hDl])
    exact this
  · have hr := hrow w' hk
    rw [← hS]
    refine hr.perm2 ?_ (by simp)
    have e5 : (D.map (encV us)).zip (D.map fun i => row X i.val) = D.map fun i => (encV us i, row X i.val) := by rw [List.zip_map']
    have e6 : us.zip X = (Array.ofFn (n := us.length) id).toList.map fun i => (encV us i, row X i.val) := by
      apply List.ext_getElem (by simp; omega)
      intro j g1 g2
      simp at g1 g2
      simp [encV, row_nat X j (by omega)]
    rw [e5, e6]
    exact hp.map _
  · have := hblk.lt; omega
end Go.Proofs.Ytkghonhghbcdlaa
