/-
  The reference's search for isomorphisms, in plain words: beginnings that fit; the maps that begin with a list, parted by the next image. No program here.
-/
import Derived.Test.YtgmhnjccgldddaaZ3a
import Derived.Test.YtgmhnjccgldddaaZ1
namespace Go.Proofs.Ytgmhnjccgldddaa
set_option linter.unusedVariables false
set_option linter.unusedSimpArgs false
open Go Go.RowKit

/-- All that is known of a beginning fits. -/
def FitUp (F G : List (List (List Int))) (f : List Int) : Prop := ∀ k : Nat, k < F.length → ∀ x y : Nat, x < f.length → y < f.length → val2 (F.getD k []) x y < f.length → nth f (val2 (F.getD k []) x y) = val2 (G.getD k []) (nth f x) (nth f y)
theorem nth_left (f : List Int) (y : Int) {z : Int} (h0 : 0 ≤ z) (h : z < f.length) : nth (f ++ [y]) z = nth f z := nth_append_left _ _ _ h h0
theorem FitUp.snoc {n : Nat} {F G : List (List (List Int))} {f : List Int} {y : Int} (ht : Tabs n F) (hf : f.length < n) (h : FitUp F G f) (ha : FitAll F G (f ++ [y]) f.length) : FitUp F G (f ++ [y]) := by
  intro k hk x z hx hz hv
  simp only [List.length_append, List.length_singleton] at hx hz hv
  have hr := ht k hk x z ⟨by omega, by omega⟩ ⟨by omega, by omega⟩
  rcases ha k hk x hx z hz with h1 | ⟨h1, h2, h3⟩ | h1
  · omega
  · rw [nth_left _ _ hr.1 h3, nth_left _ _ (by omega) (by omega), nth_left _ _ (by omega) (by omega)]
    exact h k hk x z h1 h2 h3
  · exact h1
theorem fitAll_iso {n : Nat} {F G : List (List (List Int))} {g p : List Int} {M : Nat} (ht : Tabs n F) (hp : IsoF n F G p) (hg : p.take g.length = g) (hl : g.length = M + 1) (hM : M < n) : FitAll F G g M := by
  have hn : ∀ z : Int, 0 ≤ z → z < M + 1 → nth g z = nth p z := fun z h0 h1 => by
    have hpl := hp.1.2
    have hz : z.toNat < g.length := by omega
    have e1 := nth_nat g z.toNat hz
    have e2 := nth_nat p z.toNat (by omega)
    rw [show ((z.toNat : Nat) : Int) = z by omega] at e1 e2
    rw [e1, e2]
    have h3 : (p.take g.length)[z.toNat]? = p[z.toNat]? := by rw [List.getElem?_take, if_pos (by omega)]
    rw [hg] at h3
    rw [List.getElem?_eq_getElem hz, List.getElem?_eq_getElem (by omega)] at h3
    exact Option.some.inj h3
  intro k hk x hx y hy
  have hr := ht k hk x y ⟨by omega, by omega⟩ ⟨by omega, by omega⟩
  by_cases h : (M : Int) < val2 (F.getD k []) x y
  · exact .inl h
  · refine .inr (.inr ?_)
    rw [hn _ hr.1 (by omega), hn x (by omega) (by omega), hn y (by omega) (by omega)]
    exact hp.2 k hk x y ⟨by omega, by omega⟩ ⟨by omega, by omega⟩
theorem FitUp.full {n : Nat} {F G : List (List (List Int))} {f : List Int} (ht : Tabs n F) (h : FitUp F G f) (hl : f.length = n) (hnd : f.Nodup) (hr : ∀ x ∈ f, InN n x) : IsoF n F G f := by
  refine ⟨⟨⟨hnd, fun x hx => by rw [hl]; exact hr x hx⟩, hl⟩, fun k hk x y hx hy => ?_⟩
  obtain ⟨X, rfl⟩ : ∃ X : Nat, x = X := ⟨x.toNat, by have := hx.1; omega⟩
  obtain ⟨Y, rfl⟩ : ∃ Y : Nat, y = Y := ⟨y.toNat, by have := hy.1; omega⟩
  have h1 := hx.2; have h2 := hy.2
  exact h k hk X Y (by omega) (by omega) (by have := (ht k hk X Y hx hy).2; omega)
theorem mem_isoP {n : Nat} {F G : List (List (List Int))} {f p : List Int} : p ∈ isoP n F G f ↔ IsoF n F G p ∧ p.take f.length = f := mem_isoQ
theorem isoP_at {n : Nat} {F G : List (List (List Int))} {f p : List Int} {y : Int} (h : p ∈ isoP n F G (f ++ [y])) : p ∈ isoP n F G f ∧ nth p f.length = y ∧ f.length < n := by
  obtain ⟨h1, h2⟩ := mem_isoP.1 h
  have hpl := h1.1.2
  rw [List.length_append, List.length_singleton] at h2
  have hlt : f.length < p.length := by
    have := congrArg List.length h2
    simp at this; omega
  rw [take_snoc p f.length hlt] at h2
  have hll : (p.take f.length).length = f.length := by simp; omega
  have h3 := List.append_inj h2 hll
  exact ⟨mem_isoP.2 ⟨h1, h3.1⟩, by simpa using h3.2, by omega⟩
theorem isoP_has {n : Nat} {F G : List (List (List Int))} {f : List Int} {y : Int} (h : y ∈ f) : isoP n F G (f ++ [y]) = [] := by
  rw [List.eq_nil_iff_forall_not_mem]
  intro p hp
  obtain ⟨h1, h2⟩ := mem_isoP.1 hp
  have : (p.take (f ++ [y]).length).Nodup := List.Nodup.sublist (List.take_sublist _ _) h1.1.1.1
  rw [h2, List.nodup_append] at this
  exact this.2.2 y h y (by simp) rfl
theorem isoP_cols {n : Nat} {F G : List (List (List Int))} {f C D : List Int} {y : Int} (hk : ∀ p ∈ isoP n F G f, Keeps n C D p) (h : nth C f.length ≠ nth D y) : isoP n F G (f ++ [y]) = [] := by
  rw [List.eq_nil_iff_forall_not_mem]
  intro p hp
  obtain ⟨h1, h2, h3⟩ := isoP_at hp
  have := hk p h1 f.length ⟨by omega, by omega⟩
  rw [h2] at this
  exact h this.symm
theorem isoP_fits {n : Nat} {F G : List (List (List Int))} {f : List Int} {y : Int} (ht : Tabs n F) (hf : f.length < n) (h : ¬ FitAll F G (f ++ [y]) f.length) : isoP n F G (f ++ [y]) = [] := by
  rw [List.eq_nil_iff_forall_not_mem]
  intro p hp
  obtain ⟨h1, h2⟩ := mem_isoP.1 hp
  exact h (fitAll_iso ht h1 h2 (by simp) hf)
theorem isoP_none {n : Nat} {F G : List (List (List Int))} {f : List Int} {y : Int} {C D : List Int} (hk : ∀ p ∈ isoP n F G (f ++ [y]), Keeps n C D p) (h : ∀ p, IsoF n F G p → ¬ Keeps n C D p) : isoP n F G (f ++ [y]) = [] := by
  rw [List.eq_nil_iff_forall_not_mem]
  intro p hp
  exact h p (mem_isoP.1 hp).1 (hk p hp)
/-- A colour of its own for one element and its image. -/
theorem keeps_set {n : Nat} {F G : List (List (List Int))} {f C D : List Int} {y : Nat} (hC : C.length = n) (hD : D.length = n) (hy : y < n) (hk : ∀ p ∈ isoP n F G f, Keeps n C D p) : ∀ p ∈ isoP n F G (f ++ [(y : Int)]), Keeps n (C.set f.length 60) (D.set y 60) p := fun p hp x hx => by
  obtain ⟨h1, h2, h3⟩ := isoP_at hp
  have hi := (mem_isoP.1 h1).1
  have hpx := iso_rng hi hx
  have e1 := nth_set C (f.length : Int) x 60 (by omega) (by omega) hx.1
  have e2 := nth_set D (y : Int) (nth p x) 60 (by omega) (by omega) hpx.1
  rw [Int.toNat_natCast] at e1 e2
  rw [e1, e2]
  by_cases e : x = (f.length : Int)
  · rw [if_pos e, if_pos (by rw [e, h2])]
  · rw [if_neg e, if_neg (fun h => e ((iso_inj hi hx ⟨by omega, by omega⟩).1 (by rw [h, h2])))]
    exact hk p h1 x hx
theorem colsOk_set {n : Nat} {C : List Int} (h : C.length = n ∧ ∀ x ∈ C, 0 ≤ x ∧ x ≤ 60) (k : Nat) : (C.set k 60).length = n ∧ ∀ x ∈ C.set k 60, 0 ≤ x ∧ x ≤ 60 := by
  refine ⟨by simpa using h.1, fun x hx => ?_⟩
  rcases List.mem_or_eq_of_mem_set hx with h1 | h1
  · exact h.2 x h1
  · subst h1; omega
/-- The part with next image less than k. -/
noncomputable def partP (n : Nat) (F G : List (List (List Int))) (f : List Int) (k : Nat) : List (List Int) := isoLt n F G (fun p => p.take f.length = f) f.length k
theorem partP_zero {n : Nat} {F G : List (List (List Int))} {f : List Int} (hf : f.length < n) : partP n F G f 0 = [] := isoLt_zero ⟨by omega, by omega⟩
theorem partP_all {n : Nat} {F G : List (List (List Int))} {f : List Int} (hf : f.length < n) : partP n F G f n = isoP n F G f := isoLt_all ⟨by omega, by omega⟩
theorem partP_succ {n : Nat} {F G : List (List (List Int))} {f : List Int} (k : Nat) (hf : f.length < n) : partP n F G f (k + 1) = partP n F G f k ++ isoP n F G (f ++ [(k : Int)]) := isoP_part hf
theorem partP_more {n : Nat} {F G : List (List (List Int))} {f : List Int} (k : Nat) (hf : f.length < n) : ∀ r : Nat, ∃ R, partP n F G f (k + r) = partP n F G f k ++ R
  | 0 => ⟨[], by simp⟩
  | r + 1 => by
    obtain ⟨R, hR⟩ := partP_more k hf r
    exact ⟨R ++ isoP n F G (f ++ [((k + r : Nat) : Int)]), by rw [← Nat.add_assoc, partP_succ _ hf, hR, List.append_assoc]⟩
/-- What is full stays so. -/
theorem take_full {α : Type} {L R : List α} {m : Nat} (h : m ≤ (L.take m).length) : (L ++ R).take m = L.take m := by
  have : m ≤ L.length := by rw [List.length_take] at h; omega
  rw [List.take_append_of_le_length this]
theorem take_room {α : Type} {L : List α} {m : Nat} (h : (L.take m).length < m) : L.take m = L := by
  rw [List.length_take] at h
  exact List.take_of_length_le (by omega)
theorem isoP_len {n : Nat} {F G : List (List (List Int))} {f : List Int} (h : n ≤ f.length) : (isoP n F G f).length ≤ 1 := by
  rcases Nat.lt_or_ge 1 (isoP n F G f).length with hlt | hge
  · exfalso
    have hn := List.nodup_iff_pairwise_ne.1 (asc_nodup (isoQ_asc n F G fun p => p.take f.length = f))
    have h1 := List.pairwise_iff_getElem.1 hn 0 1 (by exact Nat.lt_trans Nat.zero_lt_one hlt) hlt (by omega)
    have e : ∀ p ∈ isoP n F G f, p = f := fun p hp => by
      obtain ⟨h2, h3⟩ := mem_isoP.1 hp
      rw [List.take_of_length_le (by rw [h2.1.2]; exact h)] at h3
      exact h3
    exact h1 ((e _ (List.getElem_mem _)).trans (e _ (List.getElem_mem _)).symm)
  · exact hge
end Go.Proofs.Ytgmhnjccgldddaa
