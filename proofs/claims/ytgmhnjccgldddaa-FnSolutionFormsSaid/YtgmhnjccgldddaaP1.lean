/-
  Plain words on lists of integers: elements by number, permutations, doing one after the other, the inverse. No program here.
-/
namespace Go.Proofs.Ytgmhnjccgldddaa
set_option linter.unusedVariables false
set_option linter.unusedSimpArgs false

/-- Element number x; 0 if there is none. -/
def nth (p : List Int) (x : Int) : Int := p.getD x.toNat 0
theorem nth_nat (p : List Int) (k : Nat) (h : k < p.length) : nth p k = p[k] := by simp [nth, h]
theorem nth_mem {p : List Int} {x : Int} (h0 : 0 ≤ x) (h : x < p.length) : nth p x ∈ p := by
  have : x.toNat < p.length := by omega
  simp [nth, this]
theorem take_snoc (p : List Int) (k : Nat) (h : k < p.length) : p.take (k+1) = p.take k ++ [nth p k] := by
  rw [List.take_succ_eq_append_getElem h, nth_nat p k h]
theorem nth_set (p : List Int) (x y : Int) (v : Int) (h0 : 0 ≤ x) (h : x < p.length) (hy : 0 ≤ y) : nth (p.set x.toNat v) y = if y = x then v else nth p y := by
  unfold nth
  simp only [List.getD_eq_getElem?_getD, List.getElem?_set]
  by_cases e : y = x
  · subst e; simp [show y.toNat < p.length from by omega]
  · simp [e, show ¬ x.toNat = y.toNat from by omega]
theorem nth_append_left (p q : List Int) (x : Int) (h : x < p.length) (h0 : 0 ≤ x) : nth (p ++ q) x = nth p x := by
  unfold nth; simp only [List.getD_eq_getElem?_getD]; rw [List.getElem?_append_left (by omega)]
theorem nth_map (p : List Int) (f : Int → Int) (x : Int) (h0 : 0 ≤ x) (h : x < p.length) : nth (p.map f) x = f (nth p x) := by
  have : x.toNat < p.length := by omega
  simp [nth, this]
theorem ext_nth {p q : List Int} (hl : p.length = q.length) (h : ∀ k : Nat, k < p.length → nth p k = nth q k) : p = q := by
  apply List.ext_getElem hl
  intro k h1 h2
  have := h k h1
  rwa [nth_nat p k h1, nth_nat q k h2] at this

/-- Is a number in a range? -/
def inR (n lo hi : Int) : Bool := decide (lo ≤ n) && decide (n ≤ hi)

/-- Each index once. -/
def Permuted (p : List Int) : Prop := p.Nodup ∧ ∀ x ∈ p, 0 ≤ x ∧ x < p.length
instance (p : List Int) : Decidable (Permuted p) := inferInstanceAs (Decidable (_ ∧ _))
def isPerm (p : List Int) : Bool := inR p.length 1 12 && decide (Permuted p)

def iota (n : Nat) : List Int := (List.range n).map fun (i : Nat) => (i : Int)
theorem iota_nodup (n : Nat) : (iota n).Nodup := by
  unfold iota
  exact List.pairwise_map.2 (List.nodup_range.imp fun h e => h (by omega))
theorem mem_iota (n : Nat) (x : Int) : x ∈ iota n ↔ 0 ≤ x ∧ x < n := by
  unfold iota
  simp only [List.mem_map, List.mem_range]
  constructor
  · rintro ⟨a, ha, rfl⟩; omega
  · intro h; exact ⟨x.toNat, by omega, by omega⟩
@[simp] theorem iota_length (n : Nat) : (iota n).length = n := by simp [iota]
theorem nth_iota (n : Nat) (x : Int) (h0 : 0 ≤ x) (h : x < n) : nth (iota n) x = x := by
  have h1 : x.toNat < n := by omega
  unfold nth iota
  simp [h1]; omega

/-- A list without doubles that lies in one no longer is a rearrangement of it. -/
theorem perm_of_sub {α : Type} [DecidableEq α] : ∀ {l m : List α}, l.Nodup → (∀ x ∈ l, x ∈ m) → m.length ≤ l.length → l.Perm m
  | [], m, _, _, h => by
    have : m = [] := List.eq_nil_of_length_eq_zero (by simpa using h)
    subst this; exact List.Perm.refl _
  | a :: l, m, hn, hs, h => by
    have ha : a ∈ m := hs a (by simp)
    rw [List.nodup_cons] at hn
    have hlen : (m.erase a).length = m.length - 1 := by rw [List.length_erase]; simp [ha]
    have hpos : 0 < m.length := List.length_pos_of_mem ha
    have ih := perm_of_sub (l := l) (m := m.erase a) hn.2 (fun x hx => (List.mem_erase_of_ne (fun e => hn.1 (by rw [← e]; exact hx))).2 (hs x (by simp [hx]))) (by simp at h; omega)
    exact (ih.cons a).trans (List.perm_cons_erase ha).symm

/-- Each index occurs: the same as: each index once. -/
theorem permuted_iff (p : List Int) : Permuted p ↔ ∀ x : Int, 0 ≤ x → x < p.length → x ∈ p := by
  constructor
  · rintro ⟨hn, hr⟩ x h0 h1
    have hp := perm_of_sub hn (m := iota p.length) (fun y hy => (mem_iota _ _).2 (hr y hy)) (by simp)
    exact hp.mem_iff.2 ((mem_iota _ _).2 ⟨h0, h1⟩)
  · intro h
    have hp := perm_of_sub (iota_nodup p.length) (m := p) (fun y hy => h y ((mem_iota _ _).1 hy).1 ((mem_iota _ _).1 hy).2) (by simp)
    exact ⟨hp.nodup (iota_nodup _), fun x hx => (mem_iota _ _).1 (hp.mem_iff.2 hx)⟩

theorem Permuted.perm {p : List Int} (h : Permuted p) : p.Perm (iota p.length) := perm_of_sub h.1 (fun y hy => (mem_iota _ _).2 (h.2 y hy)) (by simp)
theorem Permuted.lt {p : List Int} (h : Permuted p) {x : Int} (h0 : 0 ≤ x) (h1 : x < p.length) : 0 ≤ nth p x ∧ nth p x < p.length := h.2 _ (nth_mem h0 h1)
theorem Permuted.inj {p : List Int} (h : Permuted p) {x y : Int} (hx0 : 0 ≤ x) (hx : x < p.length) (hy0 : 0 ≤ y) (hy : y < p.length) (e : nth p x = nth p y) : x = y := by
  have h1 : x.toNat < p.length := by omega
  have h2 : y.toNat < p.length := by omega
  have e' : p[x.toNat] = p[y.toNat] := by simpa [nth, h1, h2] using e
  have := (List.getElem?_inj h1 h.1).1 (by rw [List.getElem?_eq_getElem h1, List.getElem?_eq_getElem h2, e'] : p[x.toNat]? = p[y.toNat]?)
  omega

/-- p, then q. -/
def thenL (p q : List Int) : List Int := p.map (nth q)
@[simp] theorem thenL_length (p q : List Int) : (thenL p q).length = p.length := by simp [thenL]
theorem nth_thenL (p q : List Int) (x : Int) (h0 : 0 ≤ x) (h : x < p.length) : nth (thenL p q) x = nth q (nth p x) := nth_map p _ x h0 h
theorem thenL_snoc (p q : List Int) (k : Nat) (h : k < p.length) : (thenL p q).take (k+1) = (thenL p q).take k ++ [nth q (nth p k)] := by
  rw [take_snoc _ _ (by simpa using h), nth_thenL _ _ _ (by omega) (by omega)]

/-- The inverse, as it is filled in: k entries. -/
def backF (p : List Int) : Nat → List Int
  | 0 => List.replicate p.length 0
  | k+1 => (backF p k).set (nth p k).toNat k
def invL (p : List Int) : List Int := backF p p.length
@[simp] theorem backF_length (p : List Int) : ∀ k, (backF p k).length = p.length
  | 0 => by simp [backF]
  | k+1 => by simp [backF, backF_length p k]
@[simp] theorem invL_length (p : List Int) : (invL p).length = p.length := by simp [invL]

theorem nth_backF {p : List Int} (h : Permuted p) : ∀ k : Nat, k ≤ p.length → ∀ j : Nat, j < k → nth (backF p k) (nth p j) = j
  | 0, _, j, hj => absurd hj (Nat.not_lt_zero _)
  | k+1, hk, j, hj => by
    have hp := h.lt (x := k) (by omega) (by omega)
    have hj' := h.lt (x := j) (by omega) (by omega)
    unfold backF
    rw [nth_set _ _ _ _ hp.1 (by simpa using hp.2) hj'.1]
    by_cases e : j = k
    · subst e; simp
    · rw [if_neg (fun e' => e (by have := h.inj (x := j) (y := k) (by omega) (by omega) (by omega) (by omega) e'; omega))]
      exact nth_backF h k (by omega) j (by omega)
/-- The inverse leads back. -/
theorem nth_invL {p : List Int} (h : Permuted p) {x : Int} (h0 : 0 ≤ x) (h1 : x < p.length) : nth (invL p) (nth p x) = x := by
  have := nth_backF h p.length (Nat.le_refl _) x.toNat (by omega)
  rwa [show ((x.toNat : Nat) : Int) = x from by omega] at this
theorem ex_pre {p : List Int} (h : Permuted p) {y : Int} (h0 : 0 ≤ y) (h1 : y < p.length) : ∃ x : Int, 0 ≤ x ∧ x < p.length ∧ nth p x = y := by
  have hm := (permuted_iff p).1 h y h0 h1
  obtain ⟨k, hk, e⟩ := List.getElem_of_mem hm
  exact ⟨k, by omega, by omega, by rw [nth_nat p k hk, e]⟩
theorem invL_lt {p : List Int} (h : Permuted p) {y : Int} (h0 : 0 ≤ y) (h1 : y < p.length) : 0 ≤ nth (invL p) y ∧ nth (invL p) y < p.length := by
  obtain ⟨x, hx0, hx, rfl⟩ := ex_pre h h0 h1
  rw [nth_invL h hx0 hx]; exact ⟨hx0, hx⟩
theorem nth_of_invL {p : List Int} (h : Permuted p) {y : Int} (h0 : 0 ≤ y) (h1 : y < p.length) : nth p (nth (invL p) y) = y := by
  obtain ⟨x, hx0, hx, rfl⟩ := ex_pre h h0 h1
  rw [nth_invL h hx0 hx]
end Go.Proofs.Ytgmhnjccgldddaa
