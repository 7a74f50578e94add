/-
  What 'assign' does, as a plain function on the state of a partial map; what it leaves is what Asg says. No program here.
-/
import Derived.Test.YtgmhnjccgldddaaK2
namespace Go.Proofs.Ytgmhnjccgldddaa
set_option linter.unusedVariables false
set_option linter.unusedSimpArgs false

structure MSt where
  im : List Int
  us : List Bool
  st : List Int
def MpS (n : Nat) (s : MSt) : Prop := Mp n s.im s.us s.st

section
variable (F G : List (List (List Int)))
def argA1 (x : Int) (i k : Nat) (s : MSt) : Int := val2 (F.getD k []) x (nth s.st i)
def argA2 (v : Int) (i k : Nat) (s : MSt) : Int := val2 (G.getD k []) v (nth s.im (nth s.st i))
def argB1 (x : Int) (i k : Nat) (s : MSt) : Int := val2 (F.getD k []) (nth s.st i) x
def argB2 (v : Int) (i k : Nat) (s : MSt) : Int := val2 (G.getD k []) (nth s.im (nth s.st i)) v
/-- One table's two values at x and the element number i. -/
def stepA (f : MSt → Int → Int → Bool × MSt) (x v : Int) (i k : Nat) (s : MSt) : Bool × MSt :=
  if (f s (argA1 F x i k s) (argA2 G v i k s)).1 then f (f s (argA1 F x i k s) (argA2 G v i k s)).2 (argB1 F x i k s) (argB2 G v i k s) else f s (argA1 F x i k s) (argA2 G v i k s)
def rowA (f : MSt → Int → Int → Bool × MSt) (x v : Int) (i : Nat) : Nat → Nat → MSt → Bool × MSt
  | 0, _, s => (true, s)
  | r + 1, k, s => if (stepA F G f x v i k s).1 then rowA f x v i r (k + 1) (stepA F G f x v i k s).2 else stepA F G f x v i k s
def outA (f : MSt → Int → Int → Bool × MSt) (x v : Int) : Nat → Nat → MSt → Bool × MSt
  | 0, _, s => (true, s)
  | r + 1, i, s => if i < s.st.length then (if (rowA F G f x v i F.length 0 s).1 then outA f x v r (i + 1) (rowA F G f x v i F.length 0 s).2 else rowA F G f x v i F.length 0 s) else (true, s)
def putA (s : MSt) (x v : Int) : MSt := ⟨s.im.set x.toNat v, s.us.set v.toNat true, s.st ++ [x]⟩
def asg (n : Nat) : Nat → MSt → Int → Int → Bool × MSt
  | 0, s, _, _ => (false, s)
  | d + 1, s, x, v => if 0 ≤ nth s.im x then (nth s.im x == v, s) else if nthB s.us v = true then (false, s) else outA F G (asg n d) x v (n + 1) 0 (putA s x v)
end

def AsgS (n : Nat) (F G : List (List (List Int))) (s : MSt) (x v : Int) (r : Bool × MSt) : Prop := Asg n F G s.im s.st x v r.1 r.2.im r.2.us r.2.st
def LpS (n : Nat) (F G : List (List (List Int))) (s0 : MSt) (x v : Int) (i k : Nat) (h : Bool) (s : MSt) : Prop := Lp n F G s0.im s0.st x v i k h s.im s.us s.st

theorem Mp.len {n : Nat} {im : List Int} {us : List Bool} {st : List Int} (h : Mp n im us st) : st.length ≤ n := by
  rcases Nat.lt_or_ge n st.length with hlt | hge
  · exfalso
    have := (perm_of_sub (m := iota n) h.nodup (fun x hx => (mem_iota n x).2 ((h.mem x).1 hx).1) (by simp; omega)).length_eq
    simp at this; omega
  · exact hge
theorem Mp.img {n : Nat} {im : List Int} {us : List Bool} {st : List Int} (h : Mp n im us st) {i : Nat} (hi : i < st.length) : InN n (nth st i) ∧ InN n (nth im (nth st i)) := by
  have h1 := (h.mem _).1 (nth_memN hi)
  exact ⟨h1.1, h1.2, (h.rng _ h1.1).2⟩

/-- What is asked of the function that stands for the calls within. -/
def Good (n : Nat) (F G : List (List (List Int))) (m : Nat) (f : MSt → Int → Int → Bool × MSt) : Prop :=
  ∀ s x v, MpS n s → m ≤ s.st.length → InN n x → InN n v → AsgS n F G s x v (f s x v)
variable {n : Nat} {F G : List (List (List Int))} {f : MSt → Int → Int → Bool × MSt} {s0 s : MSt} {x v : Int} {i k m : Nat} {b : Bool}
theorem LpS.mS (h : LpS n F G s0 x v i k b s) : MpS n s := Lp.mp h
theorem LpS.xin (h : LpS n F G s0 x v i k b s) : InN n x := ((Lp.mp h).mem x |>.1 (Lp.mem_x h)).1
theorem LpS.vin (h : LpS n F G s0 x v i k b s) : InN n v := by
  have h1 := (Lp.mp h).mem x |>.1 (Lp.mem_x h)
  have h2 := (Lp.mp h).rng x h1.1
  have h3 : nth s.im x = v := Lp.val h
  rw [h3] at h1 h2
  exact ⟨h1.2, h2.2⟩
theorem LpS.longer (h : LpS n F G s0 x v i k b s) : s0.st.length + 1 ≤ s.st.length := by
  have := (Lp.pre h).length_le
  simpa using this
/-- The first call of a step. -/
theorem first_call (hf : Good n F G m f) (ht : Tabs n F) (hg : Tabs n G) (hl : F.length = G.length) (h : LpS n F G s0 x v i k false s) (hi : i < s.st.length) (hk : k < F.length) (hm : m ≤ s.st.length) :
    InN n (argA1 F x i k s) ∧ InN n (argA2 G v i k s) ∧ AsgS n F G s (argA1 F x i k s) (argA2 G v i k s) (f s (argA1 F x i k s) (argA2 G v i k s)) := by
  have h1 := h.xin; have h2 := h.vin
  obtain ⟨h3, h4⟩ := (Lp.mp h).img hi
  have a1 : InN n (argA1 F x i k s) := ht k hk _ _ h1 h3
  have a2 : InN n (argA2 G v i k s) := hg k (by omega) _ _ h2 h4
  exact ⟨a1, a2, hf s _ _ h.mS hm a1 a2⟩
theorem first_lp (hf : Good n F G m f) (ht : Tabs n F) (hg : Tabs n G) (hl : F.length = G.length) (h : LpS n F G s0 x v i k false s) (hi : i < s.st.length) (hk : k < F.length) (hm : m ≤ s.st.length)
    (hb : (f s (argA1 F x i k s) (argA2 G v i k s)).1 = true) : LpS n F G s0 x v i k true (f s (argA1 F x i k s) (argA2 G v i k s)).2 ∧ nth (f s (argA1 F x i k s) (argA2 G v i k s)).2.st i = nth s.st i ∧ nth (f s (argA1 F x i k s) (argA2 G v i k s)).2.im (nth s.st i) = nth s.im (nth s.st i) ∧ s.st.length ≤ (f s (argA1 F x i k s) (argA2 G v i k s)).2.st.length := by
  obtain ⟨a1, a2, a3⟩ := first_call hf ht hg hl h hi hk hm
  have hmi := ((Lp.mp h).mem _).1 (nth_memN hi)
  exact ⟨Lp.first h ht hi hk hb a2 a3, pre_nth a3.pre hi, a3.more _ hmi.1 hmi.2, a3.pre.length_le⟩
/-- The second one. -/
theorem second_call (hf : Good n F G m f) (ht : Tabs n F) (hg : Tabs n G) (hl : F.length = G.length) (h : LpS n F G s0 x v i k false s) (hi : i < s.st.length) (hk : k < F.length) (hm : m ≤ s.st.length)
    (hb : (f s (argA1 F x i k s) (argA2 G v i k s)).1 = true) :
    InN n (argB1 F x i k s) ∧ InN n (argB2 G v i k s) ∧ AsgS n F G (f s (argA1 F x i k s) (argA2 G v i k s)).2 (argB1 F x i k s) (argB2 G v i k s) (f (f s (argA1 F x i k s) (argA2 G v i k s)).2 (argB1 F x i k s) (argB2 G v i k s)) := by
  have h1 := h.xin; have h2 := h.vin
  obtain ⟨h3, h4⟩ := (Lp.mp h).img hi
  have a1 : InN n (argB1 F x i k s) := ht k hk _ _ h3 h1
  have a2 : InN n (argB2 G v i k s) := hg k (by omega) _ _ h4 h2
  obtain ⟨g1, g2, g3, g4⟩ := first_lp hf ht hg hl h hi hk hm hb
  exact ⟨a1, a2, hf _ _ _ g1.mS (by omega) a1 a2⟩
/-- A step. -/
theorem step_ok (hf : Good n F G m f) (ht : Tabs n F) (hg : Tabs n G) (hl : F.length = G.length) (h : LpS n F G s0 x v i k false s) (hi : i < s.st.length) (hk : k < F.length) (hm : m ≤ s.st.length) :
    (stepA F G f x v i k s).2.st.length ≥ s.st.length ∧ (if (stepA F G f x v i k s).1 then LpS n F G s0 x v i (k + 1) false (stepA F G f x v i k s).2 else AsgS n F G s0 x v (stepA F G f x v i k s)) := by
  obtain ⟨a1, a2, a3⟩ := first_call hf ht hg hl h hi hk hm
  have n1 := nec_val (F := F) (G := G) (Lp.mp h) (Lp.mem_x h) (nth_memN hi) hk
  rw [Lp.val h] at n1
  unfold stepA
  cases hb : (f s (argA1 F x i k s) (argA2 G v i k s)).1
  · simp only [Bool.false_eq_true, if_false, hb]
    refine ⟨a3.pre.length_le, ?_⟩
    have a4 := a3
    unfold AsgS at a4 ⊢
    rw [hb] at a4 ⊢
    exact Lp.fail h a4 n1
  · simp only [if_true]
    obtain ⟨g1, g2, g3, g4⟩ := first_lp hf ht hg hl h hi hk hm hb
    obtain ⟨b1, b2, b3⟩ := second_call hf ht hg hl h hi hk hm hb
    have n2 := nec_val (F := F) (G := G) (Lp.mp g1) (nth_memN (i := i) (by omega)) (Lp.mem_x g1) hk
    rw [g2, g3, Lp.val g1] at n2
    refine ⟨Nat.le_trans g4 b3.pre.length_le, ?_⟩
    cases hb2 : (f (f s (argA1 F x i k s) (argA2 G v i k s)).2 (argB1 F x i k s) (argB2 G v i k s)).1
    · simp only [Bool.false_eq_true, if_false]
      have b4 := b3
      unfold AsgS at b4 ⊢
      rw [hb2] at b4 ⊢
      exact Lp.fail g1 b4 n2
    · simp only [if_true]
      have b4 : AsgS n F G (f s (argA1 F x i k s) (argA2 G v i k s)).2 (val2 (F.getD k []) (nth (f s (argA1 F x i k s) (argA2 G v i k s)).2.st i) x) (val2 (G.getD k []) (nth (f s (argA1 F x i k s) (argA2 G v i k s)).2.im (nth (f s (argA1 F x i k s) (argA2 G v i k s)).2.st i)) v) (f (f s (argA1 F x i k s) (argA2 G v i k s)).2 (argB1 F x i k s) (argB2 G v i k s)) := by
        rw [g2, g3]; exact b3
      refine Lp.second g1 ht (by omega) hk hb2 ?_ b4
      rw [g2, g3]; exact b2
theorem row_ok (hf : Good n F G m f) (ht : Tabs n F) (hg : Tabs n G) (hl : F.length = G.length) : ∀ (r k : Nat) (s : MSt), LpS n F G s0 x v i k false s → i < s.st.length → k + r = F.length → m ≤ s.st.length →
    (rowA F G f x v i r k s).2.st.length ≥ s.st.length ∧ (if (rowA F G f x v i r k s).1 then LpS n F G s0 x v i F.length false (rowA F G f x v i r k s).2 else AsgS n F G s0 x v (rowA F G f x v i r k s))
  | 0, k, s, h, hi, hk, hm => by
    have e : k = F.length := by omega
    subst e
    simp only [rowA, if_true]
    exact ⟨Nat.le_refl _, h⟩
  | r + 1, k, s, h, hi, hk, hm => by
    obtain ⟨h1, h2⟩ := step_ok hf ht hg hl h hi (by omega) hm
    simp only [rowA]
    by_cases hb : (stepA F G f x v i k s).1 = true
    case neg =>
      rw [if_neg hb] at h2
      simp only [if_neg hb]
      exact ⟨h1, h2⟩
    case pos =>
      rw [if_pos hb] at h2
      simp only [if_pos hb]
      obtain ⟨h3, h4⟩ := row_ok hf ht hg hl r (k + 1) _ h2 (by omega) (by omega) (by omega)
      exact ⟨by omega, h4⟩
theorem out_ok (hf : Good n F G m f) (ht : Tabs n F) (hg : Tabs n G) (hl : F.length = G.length) : ∀ (r i : Nat) (s : MSt), LpS n F G s0 x v i 0 false s → n < i + r → m ≤ s.st.length → AsgS n F G s0 x v (outA F G f x v r i s)
  | 0, i, s, h, hi, hm => by
    have := (Lp.mp h).len
    have h2 : s.st.length ≤ i := by omega
    exact Lp.done h h2
  | r + 1, i, s, h, hi, hm => by
    simp only [outA]
    by_cases hlt : i < s.st.length
    · rw [if_pos hlt]
      obtain ⟨h1, h2⟩ := row_ok hf ht hg hl F.length 0 s h hlt (by omega) hm
      by_cases hb : (rowA F G f x v i F.length 0 s).1 = true
      case neg =>
        rw [if_neg hb] at h2
        simp only [if_neg hb]
        exact h2
      case pos =>
        rw [if_pos hb] at h2
        simp only [if_pos hb]
        exact out_ok hf ht hg hl r (i + 1) _ (Lp.next h2) (by omega) (by omega)
    · rw [if_neg hlt]
      have h2 : s.st.length ≤ i := by omega
      exact Lp.done h h2
theorem lp_put {s : MSt} (h : MpS n s) (hx : InN n x) (hv : InN n v) (h0 : nth s.im x < 0) (hu : nthB s.us v = false) : LpS n F G s x v 0 0 false (putA s x v) := Lp.start h hx hv h0 hu
theorem asg_good (ht : Tabs n F) (hg : Tabs n G) (hl : F.length = G.length) : ∀ (d m : Nat), n < m + d → Good n F G m (asg F G n d)
  | 0, m, hm => fun s x v h hms hx hv => by have := Mp.len h; omega
  | d + 1, m, hm => fun s x v h hms hx hv => by
    simp only [asg]
    by_cases h0 : 0 ≤ nth s.im x
    · rw [if_pos h0]; exact Asg.known h hx h0
    · rw [if_neg h0]
      by_cases hu : nthB s.us v = true
      · rw [if_pos hu]; exact Asg.used h hx hv (by omega) hu
      · rw [if_neg hu]
        have hu' : nthB s.us v = false := by simpa using hu
        have hl0 := lp_put (F := F) (G := G) h hx hv (by omega) hu'
        refine out_ok (asg_good ht hg hl d (s.st.length + 1) (by omega)) ht hg hl (n + 1) 0 _ hl0 (by omega) ?_
        simp [putA]
end Go.Proofs.Ytgmhnjccgldddaa
