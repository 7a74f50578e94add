/-
  The numbers of elements of the orbits of a permutation: counted, sorted, cut at the first that is above 0. No program here.
-/
import Derived.Test.YtkcobfkmeaakoaaP6
import Derived.Test.YtkcobfkmeaakoaaP8
import Derived.Test.YtkcobfkmeaakoaaS2b
namespace Go.Proofs.Ytkcobfkmeaakoaa

theorem orbL_range {L : List (List Int)} {n : Nat} (hs : SysOk n L) {y : Nat} (hy : y < n) : 0 ≤ nth (orbL L n) y ∧ nth (orbL L n) y < n := by
  have h1 := (labs_iff hs n y (Nat.le_refl _) hy).2 ⟨y, hy, .here⟩
  have h2 := labs_range L n n y hy
  have h3 := (labs_next L n n).2
  exact ⟨h1, by unfold orbL; omega⟩
theorem orbL_len (L : List (List Int)) (n : Nat) : (orbL L n).length = n := labs_length L n n
theorem orbL_mem {L : List (List Int)} {n : Nat} (hs : SysOk n L) {x : Int} (hx : x ∈ orbL L n) : 0 ≤ x ∧ x < n := by
  obtain ⟨k, hk, rfl⟩ := List.getElem_of_mem hx
  rw [orbL_len] at hk
  have := orbL_range hs hk
  rwa [nth_nat _ _ (by rw [orbL_len]; exact hk)] at this

/-- How often each number 0 to n - 1 stands among the first k of X. -/
def cnt (X : List Int) (n k : Nat) : List Int := rowOf n fun o => ((X.take k).count o : Int)
@[simp] theorem cnt_length (X : List Int) (n k : Nat) : (cnt X n k).length = n := by simp [cnt]
theorem cnt_nth {X : List Int} {n k : Nat} {o : Int} (h0 : 0 ≤ o) (h1 : o < n) : nth (cnt X n k) o = ((X.take k).count o : Int) := nth_rowOfi _ _ _ h0 h1
theorem cnt_zero (X : List Int) (n : Nat) : cnt X n 0 = List.replicate n 0 := by
  unfold cnt
  have := rowOf_const n 0
  simpa using this
theorem cnt_step {X : List Int} {n k : Nat} (hk : k < X.length) (h0 : 0 ≤ nth X k) (h1 : nth X k < n) : (cnt X n k).set (nth X k).toNat (nth (cnt X n k) (nth X k) + 1) = cnt X n (k + 1) := by
  apply ext_nth (by simp)
  intro j hj
  simp at hj
  rw [nth_set _ _ _ _ h0 (by simpa using h1) (by omega), cnt_nth (by omega) (by omega), cnt_nth (by omega) (by omega), cnt_nth (by omega) (by omega), take_snoc _ _ hk, List.count_append]
  by_cases e : (j : Int) = nth X k
  · rw [if_pos e, e]; simp
  · rw [if_neg e]
    have : [nth X k].count (j : Int) = 0 := by
      rw [List.count_eq_zero]; simp; omega
    omega
noncomputable def cyM (p : List Int) : List Int := cnt (orbL [p] p.length) p.length p.length
noncomputable def cyL (p : List Int) : List Int := cycS p.length (cyM p)
theorem cyM_eq (p : List Int) : cyM p = rowOf p.length fun o => ((orbL [p] p.length).count o : Int) := by
  unfold cyM cnt
  rw [List.take_of_length_le (by rw [orbL_len]; exact Nat.le_refl _)]
theorem cyM_range (p : List Int) : ∀ x ∈ cyM p, 0 ≤ x ∧ x < ((p.length + 1 : Nat) : Int) := by
  intro x hx
  rw [cyM_eq] at hx
  unfold rowOf at hx
  rw [List.mem_map] at hx
  obtain ⟨j, _, rfl⟩ := hx
  have := List.count_le_length (a := (j : Int)) (l := orbL [p] p.length)
  rw [orbL_len] at this
  show 0 ≤ ((orbL [p] p.length).count (j : Int) : Int) ∧ ((orbL [p] p.length).count (j : Int) : Int) < _
  omega
theorem cyM_zero {p : List Int} (hs : SysOk p.length [p]) (h1 : 1 ≤ p.length) : (cyM p).count 0 < p.length := by
  have hl : (cyM p).length = p.length := by simp [cyM]
  have hle := List.count_le_length (a := (0 : Int)) (l := cyM p)
  rcases Nat.lt_or_ge ((cyM p).count 0) p.length with h | h
  · exact h
  · exfalso
    have he : (cyM p).count 0 = (cyM p).length := by omega
    rw [List.count_eq_length] at he
    have hr := orbL_range hs (y := 0) (by omega)
    rw [show ((0 : Nat) : Int) = 0 from rfl] at hr
    have hm : nth (cyM p) (nth (orbL [p] p.length) 0) ∈ cyM p := nth_mem hr.1 (by rw [hl]; exact hr.2)
    have := he _ hm
    rw [cyM_eq, nth_rowOfi _ _ _ hr.1 hr.2] at this
    have h0 : nth (orbL [p] p.length) 0 ∈ orbL [p] p.length := nth_mem (by omega) (by rw [orbL_len]; omega)
    have := List.count_pos_iff.2 h0
    omega
/-- The first place of a number above 0, or -1. -/
def posI : List Int → Int
  | [] => -1
  | x :: l => if 0 < x then 0 else if posI l < 0 then -1 else posI l + 1
theorem posI_rep (z : Nat) (x : Int) (l : List Int) (hx : 0 < x) : posI (List.replicate z 0 ++ x :: l) = z := by
  induction z with
  | zero => simp [posI, hx]
  | succ z ih => rw [List.replicate_succ, List.cons_append, posI, ih, if_neg (by omega), if_neg (by omega)]; omega
theorem cyS_parts {p : List Int} (hs : SysOk p.length [p]) (h1 : 1 ≤ p.length) {S : List Int} (hS : S = csort (p.length + 1) (cyM p)) :
    (posI S = ((cyM p).count 0 : Nat)) ∧ (cyM p).count 0 < S.length ∧ S.drop ((cyM p).count 0) = cyL p := by
  have hlen : S.length = p.length := by
    rw [hS, (csort_perm (cyM_range p)).length_eq]; simp [cyM]
  have hz := cyM_zero hs h1
  have hcs := csort_cyc (cyM p) p.length
  rw [← hS] at hcs
  have hd : S.drop ((cyM p).count 0) = cyL p := by
    rw [hcs, List.drop_left' (by simp)]; rfl
  refine ⟨?_, by omega, hd⟩
  have hne : cyL p ≠ [] := by
    intro e
    have : (S.drop ((cyM p).count 0)).length = 0 := by rw [hd, e]; rfl
    rw [List.length_drop] at this; omega
  obtain ⟨x, l, hxl⟩ := List.exists_cons_of_ne_nil hne
  have hx : 0 < x := cycS_pos (M := cyM p) (n := p.length) (by show x ∈ cyL p; rw [hxl]; simp)
  rw [hcs]
  show posI (_ ++ cyL p) = _
  rw [hxl, posI_rep _ _ _ hx]

/-- One more than the greatest number. -/
def grt (L : List Int) : Int := L.foldl (fun m x => if m ≤ x then x + 1 else m) 0
theorem grt_snoc (L : List Int) (k : Nat) (h : k < L.length) : grt (L.take (k + 1)) = if grt (L.take k) ≤ nth L k then nth L k + 1 else grt (L.take k) := by
  unfold grt; rw [take_snoc _ _ h, List.foldl_append]; rfl
theorem grt_ge (L : List Int) : 0 ≤ grt L ∧ ∀ x ∈ L, x < grt L := by
  have : ∀ (m : Int) (L : List Int), m ≤ L.foldl (fun m x => if m ≤ x then x + 1 else m) m ∧ ∀ x ∈ L, x < L.foldl (fun m x => if m ≤ x then x + 1 else m) m := by
    intro m L
    induction L generalizing m with
    | nil => simp
    | cons a L ih =>
      rw [List.foldl_cons]
      by_cases hma : m ≤ a
      · rw [if_pos hma]
        have h := ih (a + 1)
        refine ⟨by omega, fun x hx => ?_⟩
        rcases List.mem_cons.1 hx with rfl | hx
        · omega
        · exact h.2 x hx
      · rw [if_neg hma]
        have h := ih m
        refine ⟨h.1, fun x hx => ?_⟩
        rcases List.mem_cons.1 hx with rfl | hx
        · omega
        · exact h.2 x hx
  exact this 0 L
theorem grt_le {L : List Int} {n : Nat} (h : ∀ x ∈ L, x < n) : grt L ≤ n := by
  have : ∀ (m : Int) (L : List Int), m ≤ n → (∀ x ∈ L, x < n) → L.foldl (fun m x => if m ≤ x then x + 1 else m) m ≤ n := by
    intro m L
    induction L generalizing m with
    | nil => intro h _; exact h
    | cons a L ih =>
      intro h1 h2
      rw [List.foldl_cons]
      refine ih _ ?_ (fun x hx => h2 x (by simp [hx]))
      have := h2 a (by simp)
      split <;> omega
  exact this 0 L (by omega) h
/-- Beyond the greatest label there is nothing to count. -/
theorem cyM_tail {p : List Int} (hs : SysOk p.length [p]) (s : Int) (h : 0 < s) : ((cyM p).take (grt (orbL [p] p.length)).toNat).count s = (cyM p).count s := by
  obtain ⟨g0, g1⟩ := grt_ge (orbL [p] p.length)
  have hle := grt_le (L := orbL [p] p.length) (n := p.length) (fun x hx => (orbL_mem hs hx).2)
  have hsplit : (cyM p).count s = ((cyM p).take (grt (orbL [p] p.length)).toNat).count s + ((cyM p).drop (grt (orbL [p] p.length)).toNat).count s := by
    rw [← List.count_append, List.take_append_drop]
  have hz : ((cyM p).drop (grt (orbL [p] p.length)).toNat).count s = 0 := by
    rw [List.count_eq_zero]
    intro hm
    obtain ⟨k, hk, e⟩ := List.getElem_of_mem hm
    rw [List.getElem_drop] at e
    rw [List.length_drop] at hk
    have hl : (cyM p).length = p.length := by simp [cyM]
    have e2 := nth_nat (cyM p) ((grt (orbL [p] p.length)).toNat + k) (by omega)
    rw [e] at e2
    rw [cyM_eq, nth_rowOfi _ _ _ (by omega) (by omega)] at e2
    have : (orbL [p] p.length).count (((grt (orbL [p] p.length)).toNat + k : Nat) : Int) = 0 := by
      rw [List.count_eq_zero]
      intro hmm
      have := g1 _ hmm
      omega
    omega
  omega
/-- The list after o labels of size s + 1. -/
noncomputable def cyO (p : List Int) (s o : Nat) : List Int := cycS s (cyM p) ++ List.replicate (((cyM p).take o).count ((s : Int) + 1)) ((s : Int) + 1)
theorem cyO_zero (p : List Int) (s : Nat) : cyO p s 0 = cycS s (cyM p) := by simp [cyO]
theorem cyO_done {p : List Int} (hs : SysOk p.length [p]) (s : Nat) : cyO p s (grt (orbL [p] p.length)).toNat = cycS (s + 1) (cyM p) := by
  unfold cyO; rw [cyM_tail hs _ (by omega), cycS_succ]
theorem cyO_step {p : List Int} {s o : Nat} (ho : o < p.length) : cyO p s (o + 1) = if nth (cyM p) o = (s : Int) + 1 then cyO p s o ++ [(s : Int) + 1] else cyO p s o := by
  have hl : (cyM p).length = p.length := by simp [cyM]
  unfold cyO
  rw [take_snoc _ _ (by omega), List.count_append]
  split
  · rename_i e
    rw [e]
    have : [(s : Int) + 1].count ((s : Int) + 1) = 1 := by simp
    rw [this, List.replicate_succ', List.append_assoc]
  · rename_i e
    have : [nth (cyM p) o].count ((s : Int) + 1) = 0 := by rw [List.count_eq_zero]; simp; omega
    rw [this]; rfl
theorem cyO_len (p : List Int) (s o : Nat) : (cyO p s o).length ≤ p.length + p.length := by
  have h1 := cycS_length (cyM p) s
  have h2 := List.count_le_length (a := (s : Int) + 1) (l := (cyM p).take o)
  have hl : (cyM p).length = p.length := by simp [cyM]
  rw [List.length_take] at h2
  unfold cyO
  rw [List.length_append, List.length_replicate]
  omega
end Go.Proofs.Ytkcobfkmeaakoaa
