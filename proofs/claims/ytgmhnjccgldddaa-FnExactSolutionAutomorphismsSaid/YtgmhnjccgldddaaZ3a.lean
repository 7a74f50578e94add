/-
  Words for the reference's finer colours: lists of lists as values, appended whole; the kinds put in at their places.
-/
import Derived.Test.YtgmhnjccgldddaaA3
import Derived.Test.YtgmhnjccgldddaaG3
import Derived.Test.YtgmhnjccgldddaaK3
import Derived.Test.YtgmhnjccgldddaaI3c
namespace Go.Proofs.Ytgmhnjccgldddaa
set_option linter.unusedVariables false
set_option linter.unusedSimpArgs false
open Go Go.RowKit

/-- 'append(s, src...)' of slices at an operation, s of the call's own from m on. -/
theorem wp_app_vals {o : Oper} {a : Act} {K : Act → World → Prop} {Q : Exit → Act → World → Prop} (m : Nat) (w : World) (v : Value) (us ys : List Value) (sb so c : Nat) (s x : Operand)
    (ho : o.op = .call { callee := .builtin .append, args := #[s, x], argTypes := #[22, 22] })
    (hs : a.eval s = v) (hown : w.ownsRow m 26 1 v us.length us) (L : Nat) (hL : ys.length = L) (hx : a.eval x = .slice (some ⟨sb, so, none⟩) L c) (hu : ∀ j (h : j < ys.length), w.cell? ⟨sb, so + j, none⟩ = some ys[j]) (hone : ∀ y ∈ ys, y.oneCell' = true) (hn : us.length + ys.length ≤ 1099511627776) (hm : m ≤ w.heap.size)
    (h : ∀ v' w', w'.ownsRow m 26 1 v' (us ++ ys).length (us ++ ys) → Keep (fun b => v.ownBlock = some b) w w' → K (a.put o.dst v') w') : o.wp Try.prog a w K Q := by
  obtain ⟨i0, hi, hz0, hz1, hz2⟩ := info_parts inf_ints
  subst hL
  refine wp_append_own _ s x 22 ho m 26 i0 (.slice none 0 0) 1 24 Try.underlying22 hi hz0 hz1 hz2 rfl (by decide) v us.length us hs hown ⟨sb, so, none⟩ ys.length c ys hx (by simp) ?_ hone (by unfold maxLen; omega) (by omega) hm ?_
  · intro j u hj
    have hjl : j < ys.length := by
      rcases Nat.lt_or_ge j ys.length with h | h
      · exact h
      · simp [List.getElem?_eq_none h] at hj
    rw [Go.WideShapes.add_plain, hu j hjl]
    simp [List.getElem?_eq_getElem hjl] at hj
    rw [hj]
  · intro v' w' h1 h2 _
    exact h v' w' (by simpa using h1) (Keep.of_grown h2)
theorem wpList_app_vals {ops : Array Oper} {rest : List Oper} {o : Oper} {a : Act} {Q : Exit → Act → World → Prop} (m : Nat) (w : World) (v : Value) (us ys : List Value) (sb so c : Nat) (s x : Operand) (hgd : o.guard = none)
    (ho : o.op = .call { callee := .builtin .append, args := #[s, x], argTypes := #[22, 22] })
    (hs : a.eval s = v) (hown : w.ownsRow m 26 1 v us.length us) (L : Nat) (hL : ys.length = L) (hx : a.eval x = .slice (some ⟨sb, so, none⟩) L c) (hu : ∀ j (h : j < ys.length), w.cell? ⟨sb, so + j, none⟩ = some ys[j]) (hone : ∀ y ∈ ys, y.oneCell' = true) (hn : us.length + ys.length ≤ 1099511627776) (hm : m ≤ w.heap.size)
    (h : ∀ v' w', w'.ownsRow m 26 1 v' (us ++ ys).length (us ++ ys) → Keep (fun b => v.ownBlock = some b) w w' → wpList Try.prog ops Q rest (a.put o.dst v') w') :
    wpList Try.prog ops Q (o :: rest) a w :=
  wpList_plain hgd fun _ hK => wp_app_vals m w v us ys sb so c s x ho hs hown L hL hx hu hone hn hm fun v' w' h1 h2 => hK _ _ (h v' w' h1 h2)
theorem step_app_vals {ops : Array Oper} {o : Oper} {a : Act} {K : Act → World → Prop} {Q : Exit → Act → World → Prop} {E : Prop} (m : Nat) (w : World) (v : Value) (us ys : List Value) (sb so c : Nat) (s x : Operand) (hgd : o.guard = none)
    (ho : o.op = .call { callee := .builtin .append, args := #[s, x], argTypes := #[22, 22] })
    (hs : a.eval s = v) (hown : w.ownsRow m 26 1 v us.length us) (L : Nat) (hL : ys.length = L) (hx : a.eval x = .slice (some ⟨sb, so, none⟩) L c) (hu : ∀ j (h : j < ys.length), w.cell? ⟨sb, so + j, none⟩ = some ys[j]) (hone : ∀ y ∈ ys, y.oneCell' = true) (hn : us.length + ys.length ≤ 1099511627776) (hm : m ≤ w.heap.size)
    (h : ∀ v' w', w'.ownsRow m 26 1 v' (us ++ ys).length (us ++ ys) → Keep (fun b => v.ownBlock = some b) w w' → K (a.put o.dst v') w') :
    if Region.wanted o (yielded ops a.tmps) = true then Oper.wp Try.prog o a w K Q else E := by
  have hw : Region.wanted o (yielded ops a.tmps) = true := by simp [Region.wanted, hgd]
  rw [if_pos hw]
  exact wp_app_vals m w v us ys sb so c s x ho hs hown L hL hx hu hone hn hm h

/-- Values that read as lists of integers in a world. -/
structure VK (w : World) (us : List Value) (ks : List (List Int)) : Prop where
  len : us.length = ks.length
  ints : ∀ j (h : j < us.length), Ints w us[j] (row ks j)
namespace VK
variable {w w' : World} {us um : List Value} {ks ms : List (List Int)}
theorem nil (w : World) : VK w [] [] := ⟨rfl, fun j h => absurd h (Nat.not_lt_zero _)⟩
theorem below (h : VK w us ks) (hb : Below w.heap.size w w') : VK w' us ks := ⟨h.len, fun j hj => (h.ints j hj).below hb⟩
theorem one (h : VK w us ks) : ∀ y ∈ us, y.oneCell' = true := fun y hy => by
  obtain ⟨j, hj, rfl⟩ := List.getElem_of_mem hy
  obtain ⟨a, c, e, _⟩ := (h.ints j hj).shape
  rw [e]; rfl
/-- A value with what it reads as. -/
theorem pairs (h : VK w us ks) : ∀ j (hj : j < us.length) (hk : j < ks.length), Ints w us[j] ks[j] := fun j hj hk => by
  have := h.ints j hj
  rwa [row_nat _ _ hk] at this
theorem of_pairs (hl : us.length = ks.length) (h : ∀ j (hj : j < us.length) (hk : j < ks.length), Ints w us[j] ks[j]) : VK w us ks :=
  ⟨hl, fun j hj => by rw [row_nat _ _ (by omega)]; exact h j hj (by omega)⟩
theorem append {vs : List Value} {ls : List (List Int)} (h : VK w us ks) (k : VK w vs ls) : VK w (us ++ vs) (ks ++ ls) := by
  refine of_pairs (by simp [h.len, k.len]) fun j hj hk => ?_
  by_cases e : j < us.length
  · rw [List.getElem_append_left e, List.getElem_append_left (by rw [← h.len]; exact e)]
    exact h.pairs j e _
  · rw [List.getElem_append_right (by omega), List.getElem_append_right (by rw [← h.len]; omega)]
    simp only [← h.len]
    exact k.pairs _ _ _
theorem single {u : Value} {xs : List Int} (h : Ints w u xs) : VK w [u] [xs] := of_pairs rfl fun j hj hk => by
  have : j = 0 := by simpa using hj
  subst this
  exact h
theorem take (h : VK w us ks) (k : Nat) : VK w (us.take k) (ks.take k) := of_pairs (by simp [h.len]) fun j hj hk => by
  rw [List.getElem_take, List.getElem_take]
  exact h.pairs _ _ _
theorem drop (h : VK w us ks) (k : Nat) : VK w (us.drop k) (ks.drop k) := of_pairs (by simp [h.len]) fun j hj hk => by
  rw [List.getElem_drop, List.getElem_drop]
  exact h.pairs _ _ _
theorem at' (h : VK w us ks) (j : Nat) (hj : j < us.length) : ∃ a c, us[j] = .slice a (row ks j).length c ∧ Ints w (.slice a (row ks j).length c) (row ks j) := by
  have h1 := h.ints j hj
  obtain ⟨a, c, e, _⟩ := h1.shape
  exact ⟨a, c, e, by rw [← e]; exact h1⟩
end VK
/-- Rows of the call's own as values. -/
theorem OwnRows.vk {B : Nat} {w : World} {v : Value} {xss : List (List Int)} (h : OwnRows B w v xss) : ∃ us, w.ownsRow B 26 1 v us.length us ∧ VK w us xss := by
  obtain ⟨us, h1, h2⟩ := h
  exact ⟨us, h1, VK.of_pairs h2.len fun j hj hk => (h2.own j hj hk).ints⟩
theorem Blk.vcell {w : World} {b : Nat} {us cs : List Value} {t : TypeId} (h : Blk w b t (us ++ cs)) (k : Nat) (hk : k < us.length) : w.cell? ⟨b, k, none⟩ = some us[k] := by
  rw [h.cell (by simp; omega), List.getElem_append_left hk]

/-- The number of the place at which the walk stands: all ahead of it are less. -/
theorem kinds_put {ks : List (List Int)} {ms : List (List Int)} {m : List Int} {at' : Nat} (ha : AscR ks) (hm : ∀ x, x ∈ ks ↔ x ∈ ms) (hat : at' ≤ ks.length) (h1 : ∀ j : Nat, j < at' → lexB (row ks j) m = true) (h2 : at' < ks.length → lexB (row ks at') m = false) (h3 : at' < ks.length → row ks at' ≠ m) :
    AscR (ks.take at' ++ ([m] ++ ks.drop at')) ∧ ∀ x, x ∈ ks.take at' ++ ([m] ++ ks.drop at') ↔ x ∈ ms ++ [m] := by
  have hp : PutAt ks m at' at' := ⟨Nat.le_refl _, hat, h1, fun i hi hl => by
    rcases Nat.eq_or_lt_of_le hi with e | e
    · subst e; exact h2 hl
    · cases e3 : lexB (row ks i) m
      · rfl
      · have := lexB_trans (ascR_lt ha e hl) e3
        rw [h2 (by omega)] at this; cases this⟩
  obtain ⟨g1, g2, g3⟩ := put_new hp ha (fun h => h3 h.1 h.2)
  refine ⟨by simpa using g2, fun x => ?_⟩
  have h5 : x ∈ ks.take at' ++ ([m] ++ ks.drop at') ↔ x ∈ ks.take at' ++ m :: ks.drop at' := by simp
  rw [h5, g3.mem_iff, List.mem_append, List.mem_append, hm]
theorem kinds_same {ks ms : List (List Int)} {m : List Int} (hm : ∀ x, x ∈ ks ↔ x ∈ ms) (h : m ∈ ks) : ∀ x, x ∈ ks ↔ x ∈ ms ++ [m] := fun x => by
  rw [List.mem_append, ← hm, List.mem_singleton]
  exact ⟨.inl, fun e => e.elim id fun e => by rw [e]; exact h⟩
end Go.Proofs.Ytgmhnjccgldddaa
