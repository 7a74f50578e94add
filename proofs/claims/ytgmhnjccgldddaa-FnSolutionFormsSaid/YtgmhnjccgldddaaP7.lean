/-
  Comparing lists of integers and lists of such lists, in lexicographic order. No program here.
-/
import Derived.Test.YtgmhnjccgldddaaP5
import Derived.Test.YtgmhnjccgldddaaI3c
namespace Go.Proofs.Ytgmhnjccgldddaa
set_option linter.unusedVariables false
set_option linter.unusedSimpArgs false

/-- Is a list of lists lexicographically less than another one? -/
def lexR : List (List Int) → List (List Int) → Bool
  | _, [] => false
  | [], _ :: _ => true
  | a :: p, b :: q => lexB a b || (decide (a = b) && lexR p q)
/-- -1, 0 or 1. -/
def cmpB (a b : List Int) : Int := if a = b then 0 else if lexB a b then -1 else 1
def cmpR (a b : List (List Int)) : Int := if a = b then 0 else if lexR a b then -1 else 1

theorem lexB_at : ∀ {a b : List Int} {k : Nat}, k < a.length → k < b.length → a.take k = b.take k → nth a k ≠ nth b k → lexB a b = decide (nth a k < nth b k)
  | [], _, _, h, _, _, _ => absurd h (Nat.not_lt_zero _)
  | _ :: _, [], _, _, h, _, _ => absurd h (Nat.not_lt_zero _)
  | x :: a, y :: b, 0, _, _, _, h => by
    have h : x ≠ y := by simpa [nth] using h
    simp [lexB, nth, h]
  | x :: a, y :: b, k + 1, h1, h2, h3, h4 => by
    rw [List.take_succ_cons, List.take_succ_cons, List.cons.injEq] at h3
    obtain ⟨rfl, h3⟩ := h3
    have e : ∀ (l : List Int), nth (x :: l) ((k + 1 : Nat) : Int) = nth l k := fun l => by simp [nth]
    rw [e, e] at h4
    have := lexB_at (a := a) (b := b) (k := k) (by simpa using h1) (by simpa using h2) h3 h4
    rw [e, e, ← this]
    simp [lexB]
theorem lexB_pre : ∀ {a b : List Int}, a.take b.length = b.take a.length → lexB a b = decide (a.length < b.length)
  | [], [], _ => rfl
  | [], _ :: _, _ => by simp [lexB]
  | _ :: _, [], _ => by simp [lexB]
  | x :: a, y :: b, h => by
    rw [List.length_cons, List.length_cons, List.take_succ_cons, List.take_succ_cons, List.cons.injEq] at h
    obtain ⟨rfl, h⟩ := h
    simp [lexB, lexB_pre h]
theorem lexR_at : ∀ {a b : List (List Int)} {k : Nat}, k < a.length → k < b.length → a.take k = b.take k → row a k ≠ row b k → lexR a b = lexB (row a k) (row b k)
  | [], _, _, h, _, _, _ => absurd h (Nat.not_lt_zero _)
  | _ :: _, [], _, _, h, _, _ => absurd h (Nat.not_lt_zero _)
  | x :: a, y :: b, 0, _, _, _, h => by
    have h : x ≠ y := by simpa [row] using h
    simp [lexR, row, h]
  | x :: a, y :: b, k + 1, h1, h2, h3, h4 => by
    rw [List.take_succ_cons, List.take_succ_cons, List.cons.injEq] at h3
    obtain ⟨rfl, h3⟩ := h3
    have e : ∀ (l : List (List Int)), row (x :: l) ((k + 1 : Nat) : Int) = row l k := fun l => by simp [row]
    rw [e, e] at h4
    have := lexR_at (a := a) (b := b) (k := k) (by simpa using h1) (by simpa using h2) h3 h4
    rw [e, e, ← this]
    simp [lexR, lexB_irrefl]
theorem lexR_pre : ∀ {a b : List (List Int)}, a.take b.length = b.take a.length → lexR a b = decide (a.length < b.length)
  | [], [], _ => rfl
  | [], _ :: _, _ => by simp [lexR]
  | _ :: _, [], _ => by simp [lexR]
  | x :: a, y :: b, h => by
    rw [List.length_cons, List.length_cons, List.take_succ_cons, List.take_succ_cons, List.cons.injEq] at h
    obtain ⟨rfl, h⟩ := h
    simp [lexR, lexR_pre h, lexB_irrefl]
theorem lexB_total : ∀ {a b : List Int}, a ≠ b → lexB a b = false → lexB b a = true
  | [], [], h, _ => absurd rfl h
  | [], _ :: _, _, h => by simp [lexB] at h
  | _ :: _, [], _, _ => by simp [lexB]
  | x :: a, y :: b, h, k => by
    simp only [lexB, Bool.or_eq_false_iff, decide_eq_false_iff_not, Bool.and_eq_false_iff] at k
    simp only [lexB, Bool.or_eq_true, Bool.and_eq_true, decide_eq_true_eq]
    rcases k with ⟨k1, k2⟩
    by_cases e : x = y
    · subst e
      refine .inr ⟨rfl, lexB_total (fun e => h (by rw [e])) ?_⟩
      rcases k2 with k2 | k2
      · exact absurd rfl k2
      · exact k2
    · exact .inl (by omega)
theorem lexR_irrefl : ∀ l, lexR l l = false
  | [] => rfl
  | a :: p => by simp [lexR, lexB_irrefl, lexR_irrefl p]
theorem lexR_trans : ∀ {a b c : List (List Int)}, lexR a b = true → lexR b c = true → lexR a c = true
  | [], [], _, h, _ => by simp [lexR] at h
  | _ :: _, [], _, h, _ => by simp [lexR] at h
  | _, _ :: _, [], _, h => by simp [lexR] at h
  | [], _ :: _, _ :: _, _, _ => rfl
  | a :: p, b :: q, c :: r, h, k => by
    simp only [lexR, Bool.or_eq_true, Bool.and_eq_true, decide_eq_true_eq] at h k ⊢
    rcases h with h | ⟨rfl, h⟩
    · rcases k with k | ⟨rfl, k⟩
      · exact .inl (lexB_trans h k)
      · exact .inl h
    · rcases k with k | ⟨rfl, k⟩
      · exact .inl k
      · exact .inr ⟨rfl, lexR_trans h k⟩
theorem lexR_total : ∀ {a b : List (List Int)}, a ≠ b → lexR a b = false → lexR b a = true
  | [], [], h, _ => absurd rfl h
  | [], _ :: _, _, h => by simp [lexR] at h
  | _ :: _, [], _, _ => by simp [lexR]
  | x :: a, y :: b, h, k => by
    simp only [lexR, Bool.or_eq_false_iff, decide_eq_false_iff_not, Bool.and_eq_false_iff] at k
    simp only [lexR, Bool.or_eq_true, Bool.and_eq_true, decide_eq_true_eq]
    rcases k with ⟨k1, k2⟩
    by_cases e : x = y
    · subst e
      refine .inr ⟨rfl, lexR_total (fun e => h (by rw [e])) ?_⟩
      rcases k2 with k2 | k2
      · exact absurd rfl k2
      · exact k2
    · exact .inl (lexB_total e k1)
theorem lexR_asymm {a b : List (List Int)} (h : lexR a b = true) : lexR b a = false := by
  cases e : lexR b a with
  | false => rfl
  | true => have := lexR_trans h e; rw [lexR_irrefl] at this; cases this
theorem cmpB_at {a b : List Int} {k : Nat} (h1 : k < a.length) (h2 : k < b.length) (h3 : a.take k = b.take k) (h4 : nth a k ≠ nth b k) : cmpB a b = if nth a k < nth b k then -1 else 1 := by
  have hne : a ≠ b := by rintro rfl; exact h4 rfl
  unfold cmpB
  rw [if_neg hne, lexB_at h1 h2 h3 h4]
  simp
theorem cmpB_pre {a b : List Int} (h : a.take b.length = b.take a.length) : cmpB a b = if a.length < b.length then -1 else if b.length < a.length then 1 else 0 := by
  unfold cmpB
  by_cases e : a = b
  · subst e; simp
  · have hl : a.length ≠ b.length := by
      intro hl
      rw [hl, List.take_length, ← hl, List.take_length] at h
      exact e h
    rw [if_neg e, lexB_pre h]
    simp
    split
    · rfl
    · rw [if_pos (by omega)]
theorem cmpR_at {a b : List (List Int)} {k : Nat} (h1 : k < a.length) (h2 : k < b.length) (h3 : a.take k = b.take k) (h4 : row a k ≠ row b k) : cmpR a b = cmpB (row a k) (row b k) := by
  have hne : a ≠ b := by rintro rfl; exact h4 rfl
  unfold cmpR cmpB
  rw [if_neg hne, if_neg h4, lexR_at h1 h2 h3 h4]
theorem cmpR_pre {a b : List (List Int)} (h : a.take b.length = b.take a.length) : cmpR a b = if a.length < b.length then -1 else if b.length < a.length then 1 else 0 := by
  unfold cmpR
  by_cases e : a = b
  · subst e; simp
  · have hl : a.length ≠ b.length := by
      intro hl
      rw [hl, List.take_length, ← hl, List.take_length] at h
      exact e h
    rw [if_neg e, lexR_pre h]
    simp
    split
    · rfl
    · rw [if_pos (by omega)]
theorem cmpB_zero {a b : List Int} : cmpB a b = 0 ↔ a = b := by
  unfold cmpB; constructor
  · intro h; split at h
    · assumption
    · split at h <;> omega
  · intro h; rw [if_pos h]
theorem cmpR_zero {a b : List (List Int)} : cmpR a b = 0 ↔ a = b := by
  unfold cmpR; constructor
  · intro h; split at h
    · assumption
    · split at h <;> omega
  · intro h; rw [if_pos h]
theorem cmpB_neg {a b : List Int} : cmpB a b < 0 ↔ lexB a b = true := by
  unfold cmpB; split
  · rename_i h; subst h; simp [lexB_irrefl]
  · split <;> simp_all
theorem cmpR_neg {a b : List (List Int)} : cmpR a b < 0 ↔ lexR a b = true := by
  unfold cmpR; split
  · rename_i h; subst h; simp [lexR_irrefl]
  · split <;> simp_all
theorem cmpB_rng (a b : List Int) : cmpB a b = -1 ∨ cmpB a b = 0 ∨ cmpB a b = 1 := by
  unfold cmpB; split
  · exact .inr (.inl rfl)
  · split
    · exact .inl rfl
    · exact .inr (.inr rfl)
theorem cmpR_rng (a b : List (List Int)) : cmpR a b = -1 ∨ cmpR a b = 0 ∨ cmpR a b = 1 := by
  unfold cmpR; split
  · exact .inr (.inl rfl)
  · split
    · exact .inl rfl
    · exact .inr (.inr rfl)
theorem take_succ_eq {a b : List Int} {k : Nat} (h1 : k < a.length) (h2 : k < b.length) (h : a.take k = b.take k) (e : nth a k = nth b k) : a.take (k + 1) = b.take (k + 1) := by
  rw [take_snoc _ _ h1, take_snoc _ _ h2, h, e]
theorem take_succ_eqR {a b : List (List Int)} {k : Nat} (h1 : k < a.length) (h2 : k < b.length) (h : a.take k = b.take k) (e : row a k = row b k) : a.take (k + 1) = b.take (k + 1) := by
  rw [take_snoc_row _ _ h1, take_snoc_row _ _ h2, h, e]
/-- The lesser of a table and the next one, one after the other: the least form. -/
def bestR (f : List Int → List (List Int)) : List (List Int) → List (List Int) → List (List Int)
  | t, [] => t
  | t, p :: ps => bestR f (if lexR (f p) t then f p else t) ps
theorem bestR_append (f : List Int → List (List Int)) : ∀ (t : List (List Int)) (ps qs : List (List Int)), bestR f t (ps ++ qs) = bestR f (bestR f t ps) qs
  | _, [], _ => rfl
  | t, p :: ps, qs => by simp only [List.cons_append, bestR]; exact bestR_append f _ ps qs
theorem bestR_snoc (f : List Int → List (List Int)) (t ps : List (List Int)) (k : Nat) (h : k < ps.length) : bestR f t (ps.take (k + 1)) = if lexR (f (row ps k)) (bestR f t (ps.take k)) then f (row ps k) else bestR f t (ps.take k) := by
  rw [take_snoc_row _ _ h, bestR_append]; rfl
/-- It is the starting table or one of the others. -/
theorem bestR_mem (f : List Int → List (List Int)) : ∀ (t : List (List Int)) (ps : List (List Int)), bestR f t ps = t ∨ ∃ p ∈ ps, bestR f t ps = f p
  | _, [] => .inl rfl
  | t, p :: ps => by
    simp only [bestR]
    rcases bestR_mem f (if lexR (f p) t then f p else t) ps with h | ⟨q, hq, h⟩
    · split at h
      · exact .inr ⟨p, by simp, by rename_i hl; rw [if_pos hl]; exact h⟩
      · rename_i hl; rw [if_neg hl]; exact .inl h
    · exact .inr ⟨q, by simp [hq], h⟩
end Go.Proofs.Ytgmhnjccgldddaa
