/-
  The elements of a group, found one after the other by going on from those found so far; their ascending list. No program here.
-/
import Derived.Test.YtgmhnjccgldddaaP6
import Derived.Test.YtgmhnjccgldddaaP7
namespace Go.Proofs.Ytgmhnjccgldddaa
set_option linter.unusedVariables false
set_option linter.unusedSimpArgs false

/-- One step: a list is taken in if it is new. -/
def gStep (G : List (List Int)) (x : List Int) : List (List Int) := if x ∈ G then G else G ++ [x]
/-- What is found after t steps: step number i * m + k goes on from element number i with list number k. -/
def gAt (n : Nat) (L : List (List Int)) : Nat → List (List Int)
  | 0 => [iota n]
  | t + 1 => if t < (gAt n L t).length * L.length then gStep (gAt n L t) (thenL (row (gAt n L t) (t / L.length : Nat)) (row L (t % L.length : Nat))) else gAt n L t
/-- All that is found within a thousand elements' steps. -/
def gAll (n : Nat) (L : List (List Int)) : List (List Int) := gAt n L (1000 * L.length)
def gOk (n : Nat) (L : List (List Int)) : Bool := decide ((gAll n L).length ≤ 1000)

theorem gStep_len (G : List (List Int)) (x : List Int) : G.length ≤ (gStep G x).length ∧ (gStep G x).length ≤ G.length + 1 := by
  unfold gStep; split <;> simp
theorem gAt_len (n : Nat) (L : List (List Int)) (t : Nat) : (gAt n L t).length ≤ (gAt n L (t + 1)).length ∧ (gAt n L (t + 1)).length ≤ (gAt n L t).length + 1 := by
  simp only [gAt]
  split
  · exact gStep_len _ _
  · omega
theorem gAt_mono (n : Nat) (L : List (List Int)) (t : Nat) : ∀ s, (gAt n L t).length ≤ (gAt n L (t + s)).length
  | 0 => Nat.le_refl _
  | s + 1 => Nat.le_trans (gAt_mono n L t s) (gAt_len n L (t + s)).1
theorem gAt_pos (n : Nat) (L : List (List Int)) (t : Nat) : 0 < (gAt n L t).length := by
  have := gAt_mono n L 0 t
  simp [gAt] at this; omega
theorem gStep_pre (G : List (List Int)) (x : List Int) : ∃ r, gStep G x = G ++ r := by
  unfold gStep; split
  · exact ⟨[], by simp⟩
  · exact ⟨[x], rfl⟩
theorem gAt_pre (n : Nat) (L : List (List Int)) (t : Nat) : ∀ s, ∃ r, gAt n L (t + s) = gAt n L t ++ r
  | 0 => ⟨[], by simp⟩
  | s + 1 => by
    obtain ⟨r, hr⟩ := gAt_pre n L t s
    rw [← Nat.add_assoc]
    simp only [gAt]
    split
    · obtain ⟨r', hr'⟩ := gStep_pre (gAt n L (t + s)) (thenL (row (gAt n L (t + s)) ((t + s) / L.length : Nat)) (row L ((t + s) % L.length : Nat)))
      exact ⟨r ++ r', by rw [hr', hr, List.append_assoc]⟩
    · exact ⟨r, hr⟩
theorem gAt_row {n : Nat} {L : List (List Int)} {t i : Nat} (h : i < (gAt n L t).length) (s : Nat) : row (gAt n L (t + s)) i = row (gAt n L t) i := by
  obtain ⟨r, hr⟩ := gAt_pre n L t s
  have h2 : i < (gAt n L t ++ r).length := by simp; omega
  rw [hr, row_nat _ _ h2, row_nat _ _ h, List.getElem_append_left h]
theorem gAt_mem {n : Nat} {L : List (List Int)} {t : Nat} {x : List Int} (h : x ∈ gAt n L t) (s : Nat) : x ∈ gAt n L (t + s) := by
  obtain ⟨r, hr⟩ := gAt_pre n L t s
  rw [hr]; exact List.mem_append_left _ h
/-- No more is found behind the last element's steps. -/
theorem gAt_stop {n : Nat} {L : List (List Int)} {t : Nat} (h : (gAt n L t).length * L.length ≤ t) : ∀ s, gAt n L (t + s) = gAt n L t
  | 0 => rfl
  | s + 1 => by
    rw [← Nat.add_assoc]
    simp only [gAt]
    rw [gAt_stop h s, if_neg]
    omega
theorem gAll_stop {n : Nat} {L : List (List Int)} {t : Nat} (h : (gAt n L t).length * L.length ≤ t) (ht : t ≤ 1000 * L.length) : gAll n L = gAt n L t := by
  unfold gAll
  obtain ⟨s, hs⟩ : ∃ s, 1000 * L.length = t + s := ⟨1000 * L.length - t, by omega⟩
  rw [hs]; exact gAt_stop h s
/-- The end within the bound. -/
theorem g_ok {n : Nat} {L : List (List Int)} {i : Nat} (h : (gAt n L (i * L.length)).length = i) (hi : i ≤ 1000) : gOk n L = true ∧ gAll n L = gAt n L (i * L.length) := by
  have e := gAll_stop (n := n) (L := L) (t := i * L.length) (by rw [h]; exact Nat.le_refl _) (Nat.mul_le_mul_right _ hi)
  refine ⟨?_, e⟩
  unfold gOk
  rw [e, h]; simpa using hi
/-- One element too many. -/
theorem g_over {n : Nat} {L : List (List Int)} {t : Nat} (h : 1000 < (gAt n L t).length) (ht : t ≤ 1000 * L.length) : gOk n L = false := by
  obtain ⟨s, hs⟩ : ∃ s, 1000 * L.length = t + s := ⟨1000 * L.length - t, by omega⟩
  have := gAt_mono n L t s
  unfold gOk gAll
  rw [hs]; simp; omega
/-- The step that the loops do. -/
theorem gAt_next {n : Nat} {L : List (List Int)} {i k : Nat} (hk : k < L.length) (hi : i < (gAt n L (i * L.length + k)).length) :
    gAt n L (i * L.length + k + 1) = gStep (gAt n L (i * L.length + k)) (thenL (row (gAt n L (i * L.length + k)) i) (row L k)) := by
  have h0 : 0 < L.length := by omega
  have e1 : (i * L.length + k) / L.length = i := by rw [Nat.mul_comm, Nat.mul_add_div h0, Nat.div_eq_of_lt hk]; omega
  have e2 : (i * L.length + k) % L.length = k := by rw [Nat.mul_comm, Nat.mul_add_mod, Nat.mod_eq_of_lt hk]
  have hlt : i * L.length + k < (gAt n L (i * L.length + k)).length * L.length := by
    have : (i + 1) * L.length ≤ (gAt n L (i * L.length + k)).length * L.length := Nat.mul_le_mul_right _ hi
    rw [Nat.add_mul] at this; omega
  simp only [gAt]
  rw [if_pos hlt, e1, e2]

/-- What is found: lists without doubles, permutations, each made of the given ones. -/
structure Gr (n : Nat) (L : List (List Int)) (G : List (List Int)) : Prop where
  nodup : G.Nodup
  perm : ∀ p ∈ G, Permuted p ∧ p.length = n
  made : ∀ p ∈ G, ∀ x : Int, 0 ≤ x → x < n → Reach L x (nth p x)
theorem Gr.unit (n : Nat) (L : List (List Int)) : Gr n L [iota n] :=
  ⟨by simp, fun p hp => by simp at hp; subst hp; exact ⟨permuted_iota n, by simp⟩, fun p hp x h0 h1 => by simp at hp; subst hp; rw [nth_iota n x h0 h1]; exact .here⟩
theorem then_perm' {p q : List Int} (hp : Permuted p) (hq : Permuted q) (hl : p.length = q.length) : Permuted (thenL p q) := by
  refine ⟨?_, fun x hx => ?_⟩
  · unfold thenL
    refine List.pairwise_map.2 (List.Pairwise.imp_of_mem ?_ (List.nodup_iff_pairwise_ne.1 hp.1))
    intro a b ha hb hne e
    obtain ⟨a0, a1⟩ := hp.2 a ha
    obtain ⟨b0, b1⟩ := hp.2 b hb
    exact hne (hq.inj a0 (by omega) b0 (by omega) e)
  · unfold thenL at hx ⊢
    obtain ⟨y, hy, rfl⟩ := List.mem_map.1 hx
    obtain ⟨y0, y1⟩ := hp.2 y hy
    have := hq.lt y0 (by omega)
    simp only [List.length_map]; omega
theorem Gr.step {n : Nat} {L G : List (List Int)} (h : Gr n L G) (hs : SysOk n L) {g q : List Int} (hg : g ∈ G) (hq : q ∈ L) : Gr n L (gStep G (thenL g q)) := by
  unfold gStep
  split
  · exact h
  · rename_i hn
    obtain ⟨p1, l1⟩ := h.perm g hg
    obtain ⟨p2, l2⟩ := hs q hq
    refine ⟨?_, ?_, ?_⟩
    · rw [List.nodup_append]
      exact ⟨h.nodup, by simp, fun a ha b hb e => by simp at hb; subst hb; subst e; exact hn ha⟩
    · intro p hp
      rcases List.mem_append.1 hp with hp | hp
      · exact h.perm p hp
      · simp at hp; subst hp
        exact ⟨then_perm' p1 p2 (by omega), by simp [thenL, l1]⟩
    · intro p hp x h0 h1
      rcases List.mem_append.1 hp with hp | hp
      · exact h.made p hp x h0 h1
      · simp at hp; subst hp
        rw [nth_thenL _ _ _ h0 (by omega)]
        exact .step (h.made g hg x h0 h1) hq
theorem gAt_gr {n : Nat} {L : List (List Int)} (hs : SysOk n L) : ∀ t, Gr n L (gAt n L t)
  | 0 => Gr.unit n L
  | t + 1 => by
    have ih := gAt_gr hs t
    simp only [gAt]
    split
    · rename_i hlt
      have h0 : 0 < L.length := Nat.pos_of_ne_zero (by rintro e; rw [e] at hlt; omega)
      have h1 : t / L.length < (gAt n L t).length := (Nat.div_lt_iff_lt_mul h0).2 hlt
      have h2 := Nat.mod_lt t h0
      exact ih.step hs (row_mem (Int.natCast_nonneg _) (Int.ofNat_lt.2 h1)) (row_mem (Int.natCast_nonneg _) (Int.ofNat_lt.2 h2))
    · exact ih
/-- What is found at the end is closed. -/
theorem gAll_closed {n : Nat} {L : List (List Int)} (hok : gOk n L = true) {g q : List Int} (hg : g ∈ gAll n L) (hq : q ∈ L) : thenL g q ∈ gAll n L := by
  have hlen : (gAll n L).length ≤ 1000 := by simpa [gOk] using hok
  obtain ⟨i, hi, rfl⟩ := List.getElem_of_mem hg
  obtain ⟨k, hk, rfl⟩ := List.getElem_of_mem hq
  -- the step of i and k lies within the thousand elements' steps
  have key : ∀ t, i * L.length + k + 1 ≤ t → (∀ s, i < (gAt n L s).length → True) → i < (gAt n L (i * L.length + k)).length → thenL (row (gAt n L (i * L.length + k)) i) (row L k) ∈ gAt n L t := by
    intro t ht _ hi2
    obtain ⟨s, rfl⟩ : ∃ s, t = i * L.length + k + 1 + s := ⟨t - (i * L.length + k + 1), by omega⟩
    refine gAt_mem ?_ s
    rw [gAt_next hk hi2]
    unfold gStep
    split
    · assumption
    · simp
  have hT : i * L.length + k + 1 ≤ 1000 * L.length := by
    have : (i + 1) * L.length ≤ 1000 * L.length := Nat.mul_le_mul_right _ (by omega)
    rw [Nat.add_mul] at this; omega
  -- element i is there by then: else all had stopped
  have hi2 : i < (gAt n L (i * L.length + k)).length := by
    rcases Nat.lt_or_ge i (gAt n L (i * L.length + k)).length with h | h
    · exact h
    · exfalso
      have h1 : (gAt n L (i * L.length + k)).length * L.length ≤ i * L.length + k := Nat.le_trans (Nat.mul_le_mul_right _ h) (Nat.le_add_right _ _)
      have := gAll_stop h1 (by omega)
      rw [this] at hi; omega
  have e := key (1000 * L.length) hT (fun _ _ => trivial) hi2
  obtain ⟨s, hs⟩ : ∃ s, 1000 * L.length = i * L.length + k + s := ⟨1000 * L.length - (i * L.length + k), by omega⟩
  have er : row (gAll n L) i = row (gAt n L (i * L.length + k)) i := by unfold gAll; rw [hs]; exact gAt_row hi2 s
  rw [← er, row_nat _ _ hi, row_nat _ _ hk] at e
  exact e
theorem gAll_unit (n : Nat) (L : List (List Int)) : iota n ∈ gAll n L := by
  have := gAt_mem (n := n) (L := L) (t := 0) (x := iota n) (by simp [gAt]) (1000 * L.length)
  rwa [Nat.zero_add] at this
/-- The images of an element are those that the given lists lead to. -/
theorem gAll_images {n : Nat} {L : List (List Int)} (hs : SysOk n L) (hok : gOk n L = true) {x y : Int} (h0 : 0 ≤ x) (h1 : x < n) : (∃ g ∈ gAll n L, nth g x = y) ↔ Reach L x y := by
  constructor
  · rintro ⟨g, hg, rfl⟩
    exact (gAt_gr hs _).made g hg x h0 h1
  · intro h
    induction h with
    | here => exact ⟨iota n, gAll_unit n L, nth_iota n x h0 h1⟩
    | step _ hp ih =>
      obtain ⟨g, hg, e⟩ := ih
      refine ⟨thenL g _, gAll_closed hok hg hp, ?_⟩
      have := ((gAt_gr hs _).perm g hg).2
      rw [nth_thenL _ _ _ h0 (by omega), e]

/-! The ascending list. -/
def AscR (S : List (List Int)) : Prop := S.Pairwise fun p q => lexB p q = true
theorem ascR_eq : ∀ {S T : List (List Int)}, S.Perm T → AscR S → AscR T → S = T
  | [], T, hp, _, _ => (List.Perm.nil_eq hp)
  | a :: S, [], hp, _, _ => by have := hp.length_eq; simp at this
  | a :: S, b :: T, hp, h1, h2 => by
    have h1' := List.pairwise_cons.1 h1
    have h2' := List.pairwise_cons.1 h2
    have e : a = b := by
      have ha : a ∈ b :: T := hp.mem_iff.1 (by simp)
      have hb : b ∈ a :: S := hp.mem_iff.2 (by simp)
      rcases List.mem_cons.1 ha with ha | ha
      · exact ha
      · rcases List.mem_cons.1 hb with hb | hb
        · exact hb.symm
        · have x1 := h2'.1 a ha
          have x2 := h1'.1 b hb
          have := lexB_asymm x1
          rw [this] at x2; cases x2
    subst e
    rw [ascR_eq (List.perm_cons a |>.1 hp) h1'.2 h2'.2]
/-- The elements in ascending order. -/
def gSort (G : List (List Int)) : List (List Int) := G.mergeSort fun p q => !lexB q p
theorem gSort_perm (G : List (List Int)) : (gSort G).Perm G := List.mergeSort_perm _ _
theorem ascR_nodup {S : List (List Int)} (hn : S.Nodup) (h : S.Pairwise fun p q => (!lexB q p) = true) : AscR S := by
  refine List.Pairwise.imp₂ (R := fun p q => (!lexB q p) = true) (S := fun p q => p ≠ q) ?_ h (List.nodup_iff_pairwise_ne.1 hn)
  intro a b h1 h2
  cases e : lexB a b
  · have := lexB_total h2 e
    rw [this] at h1; cases h1
  · rfl
theorem gSort_asc {G : List (List Int)} (hn : G.Nodup) : AscR (gSort G) := by
  refine ascR_nodup ((gSort_perm G).nodup_iff.2 hn) ?_
  refine List.pairwise_mergeSort ?_ ?_ G
  · intro a b c h1 h2
    simp only [Bool.not_eq_true'] at *
    cases e : lexB c a
    · rfl
    · exfalso
      -- c < a; a ≤ b; b ≤ c
      rcases Classical.em (a = b) with rfl | hab
      · rw [e] at h2; cases h2
      · have x1 := lexB_total (Ne.symm hab) h1
        have x2 := lexB_trans e x1
        rw [x2] at h2; cases h2
  · intro a b
    cases e : lexB b a
    · simp
    · simp [lexB_asymm e]
theorem gSort_is {G S : List (List Int)} (hn : G.Nodup) (hp : S.Perm G) (hs : AscR S) : S = gSort G := ascR_eq (hp.trans (gSort_perm G).symm) hs (gSort_asc hn)
theorem mem_gSort {G : List (List Int)} {x : List Int} : x ∈ gSort G ↔ x ∈ G := (gSort_perm G).mem_iff
end Go.Proofs.Ytgmhnjccgldddaa
