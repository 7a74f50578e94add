/-
  Partial maps between two lists of tables that keep all values: what the program's search for isomorphisms keeps true. No program here.
-/
import Derived.Test.YtgmhnjccgldddaaP5
import Derived.Test.YtgmhnjccgldddaaI3
namespace Go.Proofs.Ytgmhnjccgldddaa
set_option linter.unusedVariables false
set_option linter.unusedSimpArgs false

/-- An element. -/
def InN (n : Nat) (x : Int) : Prop := 0 ≤ x ∧ x < n
/-- A number of a list of Booleans. -/
def nthB (l : List Bool) (x : Int) : Bool := l.getD x.toNat false
theorem nthB_set (l : List Bool) (x y : Int) (b : Bool) (h0 : 0 ≤ x) (h : x < l.length) (hy : 0 ≤ y) : nthB (l.set x.toNat b) y = if y = x then b else nthB l y := by
  unfold nthB
  simp only [List.getD_eq_getElem?_getD, List.getElem?_set]
  by_cases e : y = x
  · subst e; simp [show y.toNat < l.length from by omega]
  · simp [e, show ¬ x.toNat = y.toNat from by omega]
/-- p leads the tables F to the tables G. -/
def IsoF (n : Nat) (F G : List (List (List Int))) (p : List Int) : Prop :=
  (Permuted p ∧ p.length = n) ∧ ∀ k : Nat, k < F.length → ∀ x y : Int, InN n x → InN n y → nth p (val2 (F.getD k []) x y) = val2 (G.getD k []) (nth p x) (nth p y)
/-- The tables' values are elements. -/
def Tabs (n : Nat) (F : List (List (List Int))) : Prop := ∀ k : Nat, k < F.length → ∀ x y : Int, InN n x → InN n y → InN n (val2 (F.getD k []) x y)
/-- The state of a partial map. -/
structure Mp (n : Nat) (im : List Int) (us : List Bool) (st : List Int) : Prop where
  imL : im.length = n
  usL : us.length = n
  nodup : st.Nodup
  mem : ∀ x, x ∈ st ↔ InN n x ∧ 0 ≤ nth im x
  rng : ∀ x, InN n x → -1 ≤ nth im x ∧ nth im x < n
  inj : ∀ x y, InN n x → InN n y → 0 ≤ nth im x → nth im x = nth im y → x = y
  use : ∀ v, InN n v → (nthB us v = true ↔ ∃ x, InN n x ∧ nth im x = v)
/-- p goes on with the partial map. -/
def Goes (n : Nat) (im p : List Int) : Prop := ∀ x, InN n x → 0 ≤ nth im x → nth p x = nth im x
/-- The values at two elements are kept. -/
def Ver (F G : List (List (List Int))) (im : List Int) (k : Nat) (y z : Int) : Prop := 0 ≤ nth im (val2 (F.getD k []) y z) ∧ nth im (val2 (F.getD k []) y z) = val2 (G.getD k []) (nth im y) (nth im z)
def VerA (F G : List (List (List Int))) (im : List Int) (y z : Int) : Prop := ∀ k : Nat, k < F.length → Ver F G im k y z ∧ Ver F G im k z y
/-- im' knows all that im knows. -/
def More (n : Nat) (im im' : List Int) : Prop := ∀ x, InN n x → 0 ≤ nth im x → nth im' x = nth im x
theorem More.refl (n : Nat) (im : List Int) : More n im im := fun _ _ _ => rfl
theorem More.trans {n : Nat} {a b c : List Int} (h : More n a b) (k : More n b c) : More n a c := fun x hx h0 => by
  have e := h x hx h0
  rw [k x hx (by rw [e]; exact h0), e]
theorem Ver.more {n : Nat} {F G : List (List (List Int))} {im im' : List Int} {k : Nat} {y z : Int} (h : Ver F G im k y z) (hm : More n im im') (ht : Tabs n F) (hk : k < F.length) (hy : InN n y) (hz : InN n z) (y0 : 0 ≤ nth im y) (z0 : 0 ≤ nth im z) : Ver F G im' k y z := by
  have e := hm _ (ht k hk y z hy hz) h.1
  unfold Ver
  rw [e, hm y hy y0, hm z hz z0]
  exact h
theorem VerA.more {n : Nat} {F G : List (List (List Int))} {im im' : List Int} {y z : Int} (h : VerA F G im y z) (hm : More n im im') (ht : Tabs n F) (hy : InN n y) (hz : InN n z) (y0 : 0 ≤ nth im y) (z0 : 0 ≤ nth im z) : VerA F G im' y z := fun k hk =>
  ⟨(h k hk).1.more hm ht hk hy hz y0 z0, (h k hk).2.more hm ht hk hz hy z0 y0⟩
theorem VerA.symm {F G : List (List (List Int))} {im : List Int} {y z : Int} (h : VerA F G im y z) : VerA F G im z y := fun k hk => ⟨(h k hk).2, (h k hk).1⟩

/-- What 'assign x v' leaves: b is its answer. -/
structure Asg (n : Nat) (F G : List (List (List Int))) (im st : List Int) (x v : Int) (b : Bool) (im' : List Int) (us' : List Bool) (st' : List Int) : Prop where
  mp : Mp n im' us' st'
  pre : st <+: st'
  more : More n im im'
  nec : ∀ p, IsoF n F G p → Goes n im p → nth p x = v → b = true ∧ Goes n im' p
  val : b = true → nth im' x = v
  ver : b = true → ∀ y ∈ st', y ∉ st → ∀ z ∈ st', VerA F G im' y z

theorem Asg.known {n : Nat} {F G : List (List (List Int))} {im : List Int} {us : List Bool} {st : List Int} {x v : Int} (h : Mp n im us st) (hx : InN n x) (h0 : 0 ≤ nth im x) : Asg n F G im st x v (nth im x == v) im us st :=
  ⟨h, List.prefix_rfl, More.refl _ _, fun p _ hg e => ⟨by rw [← hg x hx h0, e]; simp, hg⟩, fun e => by simpa using e, fun _ y hy hn => absurd hy hn⟩
theorem Asg.used {n : Nat} {F G : List (List (List Int))} {im : List Int} {us : List Bool} {st : List Int} {x v : Int} (h : Mp n im us st) (hx : InN n x) (hv : InN n v) (h0 : nth im x < 0) (hu : nthB us v = true) : Asg n F G im st x v false im us st := by
  refine ⟨h, List.prefix_rfl, More.refl _ _, fun p hp hg e => ?_, fun e => by simp at e, fun e => by simp at e⟩
  exfalso
  obtain ⟨y, hy, hyv⟩ := (h.use v hv).1 hu
  have h1 : nth p y = v := by rw [hg y hy (by rw [hyv]; exact hv.1), hyv]
  have h2 : y = x := hp.1.1.inj (x := y) (y := x) hy.1 (by rw [hp.1.2]; exact hy.2) hx.1 (by rw [hp.1.2]; exact hx.2) (by rw [h1, e])
  subst h2
  have := hv.1
  omega
/-- x is led to v. -/
theorem Mp.put {n : Nat} {im : List Int} {us : List Bool} {st : List Int} {x v : Int} (h : Mp n im us st) (hx : InN n x) (hv : InN n v) (h0 : nth im x < 0) (hu : nthB us v = false) :
    Mp n (im.set x.toNat v) (us.set v.toNat true) (st ++ [x]) ∧ More n im (im.set x.toNat v) ∧ ∀ p, Goes n im p → nth p x = v → Goes n (im.set x.toNat v) p := by
  have hset : ∀ y, InN n y → nth (im.set x.toNat v) y = if y = x then v else nth im y := fun y hy => nth_set _ _ _ _ hx.1 (by rw [h.imL]; exact hx.2) hy.1
  have hnv : ∀ y, InN n y → nth im y ≠ v := fun y hy e => by
    have := (h.use v hv).2 ⟨y, hy, e⟩
    rw [hu] at this; cases this
  refine ⟨⟨by simpa using h.imL, by simpa using h.usL, ?_, ?_, ?_, ?_, ?_⟩, ?_, ?_⟩
  · rw [List.nodup_append]
    exact ⟨h.nodup, by simp, fun a ha b hb e => by simp at hb; subst hb; subst e; have := ((h.mem a).1 ha).2; omega⟩
  · intro y
    rw [List.mem_append, List.mem_singleton, h.mem]
    constructor
    · rintro (⟨h1, h2⟩ | rfl)
      · refine ⟨h1, ?_⟩
        rw [hset y h1]
        split
        · exact hv.1
        · exact h2
      · exact ⟨hx, by rw [hset y hx, if_pos rfl]; exact hv.1⟩
    · rintro ⟨h1, h2⟩
      rw [hset y h1] at h2
      by_cases e : y = x
      · exact .inr e
      · rw [if_neg e] at h2; exact .inl ⟨h1, h2⟩
  · intro y hy
    rw [hset y hy]
    split
    · exact ⟨by have := hv.1; omega, hv.2⟩
    · exact h.rng y hy
  · intro y z hy hz hy0 e
    rw [hset y hy] at hy0 e
    rw [hset z hz] at e
    by_cases e1 : y = x <;> by_cases e2 : z = x
    · rw [e1, e2]
    · rw [if_pos e1, if_neg e2] at e; exact absurd e.symm (hnv z hz)
    · rw [if_neg e1, if_pos e2] at e; exact absurd e (hnv y hy)
    · rw [if_neg e1, if_neg e2] at e; rw [if_neg e1] at hy0; exact h.inj y z hy hz hy0 e
  · intro u hu'
    rw [nthB_set _ _ _ _ hv.1 (by rw [h.usL]; exact hv.2) hu'.1]
    by_cases e : u = v
    · rw [if_pos e]
      exact ⟨fun _ => ⟨x, hx, by rw [hset x hx, if_pos rfl, e]⟩, fun _ => rfl⟩
    · rw [if_neg e, h.use u hu']
      constructor
      · rintro ⟨y, hy, e2⟩
        refine ⟨y, hy, ?_⟩
        rw [hset y hy, if_neg]
        · exact e2
        · intro e3; subst e3; rw [e2] at h0; have := hu'.1; omega
      · rintro ⟨y, hy, e2⟩
        rw [hset y hy] at e2
        by_cases e3 : y = x
        · rw [if_pos e3] at e2; exact absurd e2.symm e
        · rw [if_neg e3] at e2; exact ⟨y, hy, e2⟩
  · intro y hy hy0
    rw [hset y hy, if_neg]
    intro e; subst e; omega
  · intro p hg e y hy hy0
    rw [hset y hy] at hy0 ⊢
    by_cases e1 : y = x
    · rw [if_pos e1, e1]; exact e
    · rw [if_neg e1] at hy0 ⊢; exact hg y hy hy0

/-- The loop behind it: x is new (its place in st is behind st0), the elements behind it are done, and of x itself the first i elements and k tables. -/
structure Lp (n : Nat) (F G : List (List (List Int))) (im0 st0 : List Int) (x v : Int) (i k : Nat) (half : Bool) (im : List Int) (us : List Bool) (st : List Int) : Prop where
  mp : Mp n im us st
  pre : (st0 ++ [x]) <+: st
  more : More n im0 im
  nec : ∀ p, IsoF n F G p → Goes n im0 p → nth p x = v → Goes n im p
  val : nth im x = v
  old : ∀ y ∈ st, y ∉ st0 → y ≠ x → ∀ z ∈ st, VerA F G im y z
  row : ∀ j : Nat, j < i → j < st.length → VerA F G im x (nth st j)
  now : ∀ k' : Nat, k' < k → k' < F.length → Ver F G im k' x (nth st i) ∧ Ver F G im k' (nth st i) x
  hlf : half = true → Ver F G im k x (nth st i)
theorem Lp.start {n : Nat} {F G : List (List (List Int))} {im : List Int} {us : List Bool} {st : List Int} {x v : Int} (h : Mp n im us st) (hx : InN n x) (hv : InN n v) (h0 : nth im x < 0) (hu : nthB us v = false) :
    Lp n F G im st x v 0 0 false (im.set x.toNat v) (us.set v.toNat true) (st ++ [x]) := by
  obtain ⟨h1, h2, h3⟩ := h.put hx hv h0 hu
  refine ⟨h1, List.prefix_rfl, h2, fun p _ hg e => h3 p hg e, ?_, fun y hy hn hne => ?_, fun j hj => by omega, fun k hk => by omega, fun e => by simp at e⟩
  · rw [nth_set _ _ _ _ hx.1 (by rw [h.imL]; exact hx.2) hx.1, if_pos rfl]
  · rcases List.mem_append.1 hy with e | e
    · exact absurd e hn
    · simp at e; exact absurd e hne
theorem pre_nth {a b : List Int} (h : a <+: b) {i : Nat} (hi : i < a.length) : nth b i = nth a i := by
  obtain ⟨r, rfl⟩ := h
  exact nth_append_left _ _ _ (by omega) (by omega)
theorem nth_memN {l : List Int} {i : Nat} (h : i < l.length) : nth l i ∈ l := nth_mem (by omega) (by omega)
variable {n : Nat} {F G : List (List (List Int))} {im0 st0 im : List Int} {us : List Bool} {st : List Int} {x v : Int} {i k : Nat} {half : Bool}
theorem Lp.mem_x (h : Lp n F G im0 st0 x v i k half im us st) : x ∈ st := h.pre.subset (by simp)
/-- An assignment within the loop: of x and the element number i, or the other way round. -/
theorem Lp.sub (h : Lp n F G im0 st0 x v i k half im us st) (ht : Tabs n F) {a u : Int} {b : Bool} {im' : List Int} {us' : List Bool} {st' : List Int} (hi : i < st.length) (hk : k < F.length) (hb : b = true) (ha : Asg n F G im st a u b im' us' st')
    (hn : ∀ p, IsoF n F G p → Goes n im p → nth p a = u) : Lp n F G im0 st0 x v i k half im' us' st' := by
  have hpre := h.pre.trans ha.pre
  have hmem : ∀ y ∈ st, InN n y ∧ 0 ≤ nth im y := fun y hy => (h.mp.mem y).1 hy
  have hmx := hmem x h.mem_x
  have hni : nth st' i = nth st i := pre_nth ha.pre hi
  have hmi := hmem _ (nth_memN hi)
  refine ⟨ha.mp, hpre, h.more.trans ha.more, fun p hp hg e => ?_, ?_, ?_, ?_, ?_, ?_⟩
  · have h1 := h.nec p hp hg e
    exact (ha.nec p hp h1 (hn p hp h1)).2
  · rw [ha.more x hmx.1 hmx.2]; exact h.val
  · intro y hy hn0 hne z hz
    by_cases hys : y ∈ st
    · by_cases hzs : z ∈ st
      · exact (h.old y hys hn0 hne z hzs).more ha.more ht (hmem y hys).1 (hmem z hzs).1 (hmem y hys).2 (hmem z hzs).2
      · exact (ha.ver hb z hz hzs y hy).symm
    · exact ha.ver hb y hy hys z hz
  · intro j hj hjl
    have hjs : j < st.length := by omega
    rw [pre_nth ha.pre hjs]
    have := hmem _ (nth_memN hjs)
    exact (h.row j hj hjs).more ha.more ht hmx.1 this.1 hmx.2 this.2
  · intro k' hk' hkl
    rw [hni]
    exact ⟨(h.now k' hk' hkl).1.more ha.more ht hkl hmx.1 hmi.1 hmx.2 hmi.2, (h.now k' hk' hkl).2.more ha.more ht hkl hmi.1 hmx.1 hmi.2 hmx.2⟩
  · intro e
    rw [hni]
    exact (h.hlf e).more ha.more ht hk hmx.1 hmi.1 hmx.2 hmi.2
/-- A failed assignment within the loop: there is none that goes on. -/
theorem Lp.fail (h : Lp n F G im0 st0 x v i k half im us st) {a u : Int} {im' : List Int} {us' : List Bool} {st' : List Int} (ha : Asg n F G im st a u false im' us' st')
    (hn : ∀ p, IsoF n F G p → Goes n im p → nth p a = u) : Asg n F G im0 st0 x v false im' us' st' := by
  refine ⟨ha.mp, ?_, h.more.trans ha.more, fun p hp hg e => ?_, fun e => by simp at e, fun e => by simp at e⟩
  · exact (List.prefix_append st0 [x]).trans (h.pre.trans ha.pre)
  · have h1 := h.nec p hp hg e
    have := (ha.nec p hp h1 (hn p hp h1)).1
    cases this
/-- Whatever p goes on: it leads the value at two known elements to the value at their images. -/
theorem nec_val (hM : Mp n im us st) {y z : Int} (hy : y ∈ st) (hz : z ∈ st) (hk : k < F.length) : ∀ p, IsoF n F G p → Goes n im p → nth p (val2 (F.getD k []) y z) = val2 (G.getD k []) (nth im y) (nth im z) := fun p hp hg => by
  have h1 := (hM.mem y).1 hy
  have h2 := (hM.mem z).1 hz
  rw [hp.2 k hk y z h1.1 h2.1, hg y h1.1 h1.2, hg z h2.1 h2.2]
/-- The first half of a step. -/
theorem Lp.first (h : Lp n F G im0 st0 x v i k false im us st) (ht : Tabs n F) {b : Bool} {im' : List Int} {us' : List Bool} {st' : List Int} (hi : i < st.length) (hk : k < F.length) (hb : b = true) (htg : InN n (val2 (G.getD k []) v (nth im (nth st i))))
    (ha : Asg n F G im st (val2 (F.getD k []) x (nth st i)) (val2 (G.getD k []) v (nth im (nth st i))) b im' us' st') : Lp n F G im0 st0 x v i k true im' us' st' := by
  have hn := nec_val (F := F) (G := G) h.mp h.mem_x (nth_memN hi) hk
  rw [h.val] at hn
  have h2 := h.sub ht hi hk hb ha hn
  have hmi := (h.mp.mem _).1 (nth_memN hi)
  refine ⟨h2.mp, h2.pre, h2.more, h2.nec, h2.val, h2.old, h2.row, h2.now, fun _ => ?_⟩
  have e := ha.val hb
  unfold Ver
  rw [pre_nth ha.pre hi, e, h2.val, ha.more _ hmi.1 hmi.2]
  exact ⟨htg.1, rfl⟩
/-- The second half. -/
theorem Lp.second (h : Lp n F G im0 st0 x v i k true im us st) (ht : Tabs n F) {b : Bool} {im' : List Int} {us' : List Bool} {st' : List Int} (hi : i < st.length) (hk : k < F.length) (hb : b = true) (htg : InN n (val2 (G.getD k []) (nth im (nth st i)) v))
    (ha : Asg n F G im st (val2 (F.getD k []) (nth st i) x) (val2 (G.getD k []) (nth im (nth st i)) v) b im' us' st') : Lp n F G im0 st0 x v i (k + 1) false im' us' st' := by
  have hn := nec_val (F := F) (G := G) h.mp (nth_memN hi) h.mem_x hk
  rw [h.val] at hn
  have h2 := h.sub ht hi hk hb ha hn
  have hmi := (h.mp.mem _).1 (nth_memN hi)
  refine ⟨h2.mp, h2.pre, h2.more, h2.nec, h2.val, h2.old, h2.row, fun k' hk' hkl => ?_, fun e => by simp at e⟩
  rcases Nat.lt_or_ge k' k with e | e
  · exact h2.now k' e hkl
  · have e3 : k' = k := by omega
    subst e3
    refine ⟨h2.hlf rfl, ?_⟩
    have e := ha.val hb
    unfold Ver
    rw [pre_nth ha.pre hi, e, h2.val, ha.more _ hmi.1 hmi.2]
    exact ⟨htg.1, rfl⟩
theorem Lp.next (h : Lp n F G im0 st0 x v i F.length false im us st) : Lp n F G im0 st0 x v (i + 1) 0 false im us st := by
  refine ⟨h.mp, h.pre, h.more, h.nec, h.val, h.old, fun j hj hjl => ?_, fun k' hk' => by omega, fun e => by simp at e⟩
  rcases Nat.lt_or_ge j i with e | e
  · exact h.row j e hjl
  · have e2 : j = i := by omega
    subst e2
    exact fun k' hk' => h.now k' hk' hk'
theorem Lp.done (h : Lp n F G im0 st0 x v i 0 false im us st) (hi : st.length ≤ i) : Asg n F G im0 st0 x v true im us st := by
  refine ⟨h.mp, (List.prefix_append st0 [x]).trans h.pre, h.more, fun p hp hg e => ⟨rfl, h.nec p hp hg e⟩, fun _ => h.val, fun _ y hy hn z hz => ?_⟩
  by_cases e : y = x
  · subst e
    obtain ⟨j, hj, rfl⟩ := List.getElem_of_mem hz
    have := h.row j (by omega) hj
    rwa [nth_nat _ _ hj] at this
  · exact h.old y hy hn e z hz
/-- All elements have images, and all values are kept: a map that leads F to G. -/
theorem Mp.full (h : Mp n im us st) (hf : ∀ x, InN n x → 0 ≤ nth im x) (hv : ∀ y ∈ st, ∀ z ∈ st, VerA F G im y z) : IsoF n F G im := by
  have hall : ∀ x, InN n x → x ∈ st := fun x hx => (h.mem x).2 ⟨hx, hf x hx⟩
  refine ⟨⟨⟨?_, fun y hy => ?_⟩, h.imL⟩, fun k hk x y hx hy => ((hv x (hall x hx) y (hall y hy)) k hk).1.2⟩
  · rw [List.nodup_iff_pairwise_ne, List.pairwise_iff_getElem]
    intro a b ha hb hab e
    have ha' : InN n (a : Int) := ⟨by omega, by rw [h.imL] at ha; omega⟩
    have hb' : InN n (b : Int) := ⟨by omega, by rw [h.imL] at hb; omega⟩
    have := h.inj a b ha' hb' (hf _ ha') (by rw [nth_nat _ _ ha, nth_nat _ _ hb]; exact e)
    omega
  · obtain ⟨a, ha, rfl⟩ := List.getElem_of_mem hy
    have ha' : InN n (a : Int) := ⟨by omega, by rw [h.imL] at ha; omega⟩
    have h1 := hf _ ha'
    have h2 := (h.rng _ ha').2
    rw [nth_nat _ _ ha] at h1 h2
    rw [h.imL]; exact ⟨h1, h2⟩
/-- What is done is taken back: the state is what it was. -/
theorem undo_eq {im' : List Int} {us' : List Bool} {st' : List Int} (h : Mp n im us st) (h' : Mp n im' us' st') (hp : st <+: st') (hm : More n im im') {im2 : List Int} {us2 : List Bool}
    (e1 : im2.length = n) (e2 : ∀ y, InN n y → nth im2 y = if y ∈ st'.drop st.length then -1 else nth im' y) (e3 : us2.length = n) (e4 : ∀ u, InN n u → nthB us2 u = if ∃ y ∈ st'.drop st.length, nth im' y = u then false else nthB us' u) : im2 = im ∧ us2 = us := by
  obtain ⟨r, rfl⟩ := hp
  have hd : (st ++ r).drop st.length = r := by simp
  rw [hd] at e2 e4
  have hnd := List.nodup_append.1 h'.nodup
  have himg : ∀ y, InN n y → y ∉ r → nth im' y = nth im y := fun y hy hn => by
    rcases Int.lt_or_le (nth im y) 0 with h0 | h0
    · have hns : y ∉ st ++ r := by
        intro hin
        rcases List.mem_append.1 hin with h1 | h1
        · have := ((h.mem y).1 h1).2; omega
        · exact hn h1
      have h1 : ¬ 0 ≤ nth im' y := fun h0' => hns ((h'.mem y).2 ⟨hy, h0'⟩)
      have h2 := (h.rng y hy).1
      have h3 := (h'.rng y hy).1
      omega
    · exact hm y hy h0
  have hr : ∀ y ∈ r, nth im y < 0 := fun y hy => by
    rcases Int.lt_or_le (nth im y) 0 with h0 | h0
    · exact h0
    · have hyr := ((h'.mem y).1 (List.mem_append_right _ hy)).1
      exact absurd rfl (hnd.2.2 y ((h.mem y).2 ⟨hyr, h0⟩) y hy)
  constructor
  · refine ext_nth (by rw [e1, h.imL]) fun j hj => ?_
    have hj' : InN n (j : Int) := ⟨by omega, by rw [e1] at hj; omega⟩
    rw [e2 _ hj']
    by_cases hin : (j : Int) ∈ r
    · rw [if_pos hin]
      have := hr _ hin
      have := (h.rng _ hj').1
      omega
    · rw [if_neg hin]; exact himg _ hj' hin
  · apply List.ext_getElem (by rw [e3, h.usL])
    intro j h1 h2
    have hj' : InN n (j : Int) := ⟨by omega, by rw [e3] at h1; omega⟩
    have e := e4 _ hj'
    have g1 : nthB us2 j = us2[j] := by simp [nthB, h1]
    have g2 : nthB us j = us[j] := by simp [nthB, h2]
    rw [← g1, ← g2, e]
    by_cases hin : ∃ y ∈ r, nth im' y = (j : Int)
    · rw [if_pos hin]
      obtain ⟨y, hy, hyj⟩ := hin
      cases hb : nthB us (j : Int)
      · rfl
      · exfalso
        obtain ⟨z, hz, hzj⟩ := (h.use _ hj').1 hb
        have hyr := ((h'.mem y).1 (List.mem_append_right _ hy)).1
        have hz' : nth im' z = (j : Int) := by rw [hm z hz (by rw [hzj]; omega), hzj]
        have := h'.inj y z hyr hz (by rw [hyj]; omega) (by rw [hyj, hz'])
        subst this
        have := hr y hy
        omega
    · rw [if_neg hin]
      have hiff : nthB us' (j : Int) = true ↔ nthB us (j : Int) = true := by
        rw [h'.use _ hj', h.use _ hj']
        constructor
        · rintro ⟨y, hy, e5⟩
          have hnr : y ∉ r := fun h6 => hin ⟨y, h6, e5⟩
          exact ⟨y, hy, by rw [← himg y hy hnr]; exact e5⟩
        · rintro ⟨y, hy, e5⟩
          exact ⟨y, hy, by rw [hm y hy (by rw [e5]; omega), e5]⟩
      cases h7 : nthB us' (j : Int) <;> cases h8 : nthB us (j : Int) <;> simp_all
end Go.Proofs.Ytgmhnjccgldddaa
