/-
  The maps that lead tables to tables and go on with a partial map, in ascending order, parted by the image of one element. No program here.
-/
import Derived.Test.YtgmhnjccgldddaaK1
import Derived.Test.YtgmhnjccgldddaaG1
namespace Go.Proofs.Ytgmhnjccgldddaa
set_option linter.unusedVariables false
set_option linter.unusedSimpArgs false

open Classical in
/-- All maps that lead F to G and of which Q holds, in ascending order. -/
noncomputable def isoQ (n : Nat) (F G : List (List (List Int))) (Q : List Int → Prop) : List (List Int) := (allPerms n).filter fun p => decide (IsoF n F G p ∧ Q p)
theorem mem_isoQ {n : Nat} {F G : List (List (List Int))} {Q : List Int → Prop} {p : List Int} : p ∈ isoQ n F G Q ↔ IsoF n F G p ∧ Q p := by
  unfold isoQ
  rw [List.mem_filter, mem_allPerms]
  simp only [decide_eq_true_eq]
  exact ⟨fun h => h.2, fun h => ⟨h.1.1, h⟩⟩
theorem allPerms_asc (n : Nat) : AscR (allPerms n) := by
  refine List.pairwise_iff_getElem.2 fun i j hi hj hij => ?_
  have := allPerms_lt hij hj
  rwa [row_nat _ _ hi, row_nat _ _ hj] at this
theorem isoQ_asc (n : Nat) (F G : List (List (List Int))) (Q : List Int → Prop) : AscR (isoQ n F G Q) := (allPerms_asc n).filter _
theorem asc_nodup {S : List (List Int)} (h : AscR S) : S.Nodup := List.nodup_iff_pairwise_ne.2 (h.imp fun h e => by rw [e, lexB_irrefl] at h; cases h)
theorem asc_ext {S T : List (List Int)} (h1 : AscR S) (h2 : AscR T) (h : ∀ p, p ∈ S ↔ p ∈ T) : S = T := by
  refine ascR_eq ?_ h1 h2
  have n1 := asc_nodup h1
  have n2 := asc_nodup h2
  rcases Nat.le_total T.length S.length with e | e
  · exact perm_of_sub n1 (fun x hx => (h x).1 hx) e
  · exact (perm_of_sub n2 (fun x hx => (h x).2 hx) e).symm
theorem isoQ_none {n : Nat} {F G : List (List (List Int))} {Q : List Int → Prop} (h : ∀ p, IsoF n F G p → ¬ Q p) : isoQ n F G Q = [] := by
  rw [List.eq_nil_iff_forall_not_mem]
  intro p hp
  have := mem_isoQ.1 hp
  exact h p this.1 this.2
theorem isoQ_congr {n : Nat} {F G : List (List (List Int))} {Q R : List Int → Prop} (h : ∀ p, IsoF n F G p → (Q p ↔ R p)) : isoQ n F G Q = isoQ n F G R :=
  asc_ext (isoQ_asc _ _ _ _) (isoQ_asc _ _ _ _) fun p => by
    rw [mem_isoQ, mem_isoQ]
    exact ⟨fun h1 => ⟨h1.1, (h p h1.1).1 h1.2⟩, fun h1 => ⟨h1.1, (h p h1.1).2 h1.2⟩⟩
theorem isoQ_one {n : Nat} {F G : List (List (List Int))} {Q : List Int → Prop} {q : List Int} (hq : IsoF n F G q) (h : ∀ p, IsoF n F G p → (Q p ↔ p = q)) : isoQ n F G Q = [q] :=
  asc_ext (isoQ_asc _ _ _ _) (by simp [AscR]) fun p => by
    rw [mem_isoQ]
    constructor
    · intro h1; simp [(h p h1.1).1 h1.2]
    · intro h1
      simp at h1; subst h1
      exact ⟨hq, (h p hq).2 rfl⟩
/-- The part with images less than k of element x. -/
noncomputable def isoLt (n : Nat) (F G : List (List (List Int))) (Q : List Int → Prop) (x : Int) (k : Nat) : List (List Int) := isoQ n F G fun p => Q p ∧ nth p x < k
theorem isoLt_zero {n : Nat} {F G : List (List (List Int))} {Q : List Int → Prop} {x : Int} (hx : InN n x) : isoLt n F G Q x 0 = [] :=
  isoQ_none fun p hp h => by
    have := (hp.1.1.lt (x := x) hx.1 (by rw [hp.1.2]; exact hx.2)).1
    have := h.2
    omega
theorem isoLt_all {n : Nat} {F G : List (List (List Int))} {Q : List Int → Prop} {x : Int} (hx : InN n x) : isoLt n F G Q x n = isoQ n F G Q :=
  isoQ_congr fun p hp => by
    have := (hp.1.1.lt (x := x) hx.1 (by rw [hp.1.2]; exact hx.2)).2
    rw [hp.1.2] at this
    exact ⟨fun h => h.1, fun h => ⟨h, this⟩⟩
/-- All elements ahead of x have one image each under all maps of Q: the maps with image k of x come behind those with less. -/
theorem isoLt_succ {n : Nat} {F G : List (List (List Int))} {Q : List Int → Prop} {x k : Nat} (hx : x < n) (hq : ∀ p q, IsoF n F G p → IsoF n F G q → Q p → Q q → ∀ y : Nat, y < x → nth p y = nth q y) :
    isoLt n F G Q x (k + 1) = isoLt n F G Q x k ++ isoQ n F G (fun p => Q p ∧ nth p x = k) := by
  refine asc_ext (isoQ_asc _ _ _ _) (List.pairwise_append.2 ⟨isoQ_asc _ _ _ _, isoQ_asc _ _ _ _, fun p hp q hq' => ?_⟩) fun p => ?_
  · obtain ⟨h1, h2, h3⟩ := mem_isoQ.1 hp
    obtain ⟨g1, g2, g3⟩ := mem_isoQ.1 hq'
    have e1 := h1.1.2
    have e2 := g1.1.2
    rw [lexB_at (k := x) (by omega) (by omega) ?_ (by omega)]
    · simp; omega
    · refine ext_nth (by simp; omega) fun y hy => ?_
      simp only [List.length_take] at hy
      have hy' : y < x := by omega
      have t1 : nth (p.take x) y = nth p y := by
        rw [nth_nat _ _ (by simp; omega), nth_nat _ _ (by omega), List.getElem_take]
      have t2 : nth (q.take x) y = nth q y := by
        rw [nth_nat _ _ (by simp; omega), nth_nat _ _ (by omega), List.getElem_take]
      rw [t1, t2]
      exact hq p q h1 g1 h2 g2 y hy'
  · rw [List.mem_append]
    unfold isoLt
    rw [mem_isoQ, mem_isoQ, mem_isoQ]
    constructor
    · rintro ⟨h1, h2, h3⟩
      by_cases e : nth p x = k
      · exact .inr ⟨h1, h2, e⟩
      · exact .inl ⟨h1, h2, by omega⟩
    · rintro (⟨h1, h2, h3⟩ | ⟨h1, h2, h3⟩)
      · exact ⟨h1, h2, by omega⟩
      · exact ⟨h1, h2, by omega⟩

/-! The program's search. -/
/-- The maps that go on with a partial map. -/
noncomputable def isoM (n : Nat) (F G : List (List (List Int))) (im : List Int) : List (List Int) := isoQ n F G (Goes n im)
/-- The first element without an image. -/
def FirstFree (n : Nat) (im : List Int) (x : Nat) : Prop := x < n ∧ nth im x = -1 ∧ ∀ y : Nat, y < x → 0 ≤ nth im y
theorem isoM_part {n : Nat} {F G : List (List (List Int))} {im : List Int} {x k : Nat} (hx : FirstFree n im x) :
    isoLt n F G (Goes n im) x (k + 1) = isoLt n F G (Goes n im) x k ++ isoQ n F G (fun p => Goes n im p ∧ nth p x = k) :=
  isoLt_succ hx.1 fun p q _ _ h1 h2 y hy => by
    have hi : InN n (y : Int) := ⟨by omega, by have := hx.1; omega⟩
    rw [h1 y hi (hx.2.2 y hy), h2 y hi (hx.2.2 y hy)]
theorem isoM_used {n : Nat} {F G : List (List (List Int))} {im : List Int} {us : List Bool} {st : List Int} {x k : Nat} (h : Mp n im us st) (hx : FirstFree n im x) (hk : k < n) (hu : nthB us k = true) : isoQ n F G (fun p => Goes n im p ∧ nth p x = k) = [] :=
  isoQ_none fun p hp hg => by
    have := (Asg.used (F := F) (G := G) h (x := (x : Int)) (v := (k : Int)) ⟨by omega, by have := hx.1; omega⟩ ⟨by omega, by omega⟩ (by have := hx.2.1; omega) hu).nec p hp hg.1 hg.2
    cases this.1
theorem isoM_asg {n : Nat} {F G : List (List (List Int))} {im : List Int} {st : List Int} {x k : Nat} {b : Bool} {im' : List Int} {us' : List Bool} {st' : List Int} (hx : x < n) (h : Asg n F G im st x k b im' us' st') :
    isoQ n F G (fun p => Goes n im p ∧ nth p x = k) = if b then isoM n F G im' else [] := by
  cases b
  · simp only [Bool.false_eq_true, if_false]
    exact isoQ_none fun p hp hg => by have := (h.nec p hp hg.1 hg.2).1; cases this
  · simp only [if_true]
    refine isoQ_congr fun p hp => ⟨fun hg => (h.nec p hp hg.1 hg.2).2, fun hg => ⟨fun y hy h0 => ?_, ?_⟩⟩
    · have e := h.more y hy h0
      rw [← e]; exact hg y hy (by rw [e]; exact h0)
    · have e := h.val rfl
      have := hg x ⟨by omega, by omega⟩ (by rw [e]; omega)
      rw [this, e]
theorem isoM_full {n : Nat} {F G : List (List (List Int))} {im : List Int} {us : List Bool} {st : List Int} (h : Mp n im us st) (hf : ∀ x, InN n x → 0 ≤ nth im x) (hv : ∀ y ∈ st, ∀ z ∈ st, VerA F G im y z) : isoM n F G im = [im] :=
  isoQ_one (h.full hf hv) fun p hp => by
    constructor
    · intro hg
      refine ext_nth (by rw [hp.1.2, h.imL]) fun j hj => ?_
      have hj' : InN n (j : Int) := ⟨by omega, by rw [hp.1.2] at hj; omega⟩
      exact hg _ hj' (hf _ hj')
    · rintro rfl y hy h0; rfl
/-- All maps. -/
noncomputable def isoAll (n : Nat) (F G : List (List (List Int))) : List (List Int) := isoQ n F G fun _ => True
theorem isoM_start {n : Nat} {F G : List (List (List Int))} : isoM n F G (List.replicate n (-1)) = isoAll n F G :=
  isoQ_congr fun p _ => ⟨fun _ => trivial, fun _ y hy h0 => by
    have e : nth (List.replicate n (-1)) y = -1 := by
      have : y.toNat < n := by have := hy.2; have := hy.1; omega
      simp [nth, this]
    omega⟩
theorem Mp.start (n : Nat) : Mp n (List.replicate n (-1)) (List.replicate n false) [] := by
  have e : ∀ y, InN n y → nth (List.replicate n (-1)) y = -1 := fun y hy => by
    have : y.toNat < n := by have := hy.2; have := hy.1; omega
    simp [nth, this]
  refine ⟨by simp, by simp, by simp, fun y => ⟨fun h => by simp at h, fun h => by have := e y h.1; omega⟩, fun y hy => by rw [e y hy]; have := hy.1; have := hy.2; omega, fun y z hy _ h0 => by rw [e y hy] at h0; omega, fun u hu => ?_⟩
  have h1 : nthB (List.replicate n false) u = false := by
    have : u.toNat < n := by have := hu.2; have := hu.1; omega
    simp [nthB, this]
  rw [h1]
  constructor
  · intro h; cases h
  · rintro ⟨y, hy, e2⟩
    rw [e y hy] at e2
    have := hu.1; omega

/-! The reference's search. -/
/-- The maps that begin with a list. -/
noncomputable def isoP (n : Nat) (F G : List (List (List Int))) (f : List Int) : List (List Int) := isoQ n F G fun p => p.take f.length = f
theorem isoP_part {n : Nat} {F G : List (List (List Int))} {f : List Int} {k : Nat} (hf : f.length < n) :
    isoLt n F G (fun p => p.take f.length = f) f.length (k + 1) = isoLt n F G (fun p => p.take f.length = f) f.length k ++ isoP n F G (f ++ [(k : Int)]) := by
  rw [isoLt_succ hf]
  · congr 1
    refine isoQ_congr fun p hp => ?_
    have hl : f.length < p.length := by rw [hp.1.2]; exact hf
    simp only [List.length_append, List.length_singleton, take_snoc p f.length hl]
    constructor
    · rintro ⟨h1, h2⟩; rw [h1, h2]
    · intro h
      have hll : (p.take f.length).length = f.length := by simp; omega
      have := List.append_inj h hll
      exact ⟨this.1, by simpa using this.2⟩
  · intro p q hp hq h1 h2 y hy
    have hlp : p.length = n := hp.1.2
    have hlq : q.length = n := hq.1.2
    have t1 : nth (p.take f.length) y = nth p y := by
      rw [nth_nat _ _ (by simp; omega), nth_nat _ _ (by omega), List.getElem_take]
    have t2 : nth (q.take f.length) y = nth q y := by
      rw [nth_nat _ _ (by simp; omega), nth_nat _ _ (by omega), List.getElem_take]
    rw [← t1, ← t2, h1, h2]
theorem isoP_nil {n : Nat} {F G : List (List (List Int))} : isoP n F G [] = isoAll n F G := isoQ_congr fun p _ => ⟨fun _ => trivial, fun _ => by simp⟩
theorem isoP_full {n : Nat} {F G : List (List (List Int))} {f : List Int} (hf : IsoF n F G f) : isoP n F G f = [f] :=
  isoQ_one hf fun p hp => by
    have : f.length = p.length := by rw [hf.1.2, hp.1.2]
    rw [this, List.take_length]
end Go.Proofs.Ytgmhnjccgldddaa
