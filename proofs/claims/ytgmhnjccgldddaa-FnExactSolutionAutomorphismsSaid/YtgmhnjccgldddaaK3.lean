/-
  What tables and colours tell of an element, and finer colours: a map that leads tables to tables and keeps the colours keeps the finer ones. No program here.
-/
import Derived.Test.YtgmhnjccgldddaaK2
import Derived.Test.YtgmhnjccgldddaaP8
namespace Go.Proofs.Ytgmhnjccgldddaa
set_option linter.unusedVariables false
set_option linter.unusedSimpArgs false

/-- A list in ascending order. -/
def srt (l : List Int) : List Int := l.mergeSort fun a b => decide (a ≤ b)
theorem srt_perm (l : List Int) : (srt l).Perm l := List.mergeSort_perm _ _
theorem srt_asc (l : List Int) : (srt l).Pairwise (· ≤ ·) := by
  have := List.pairwise_mergeSort (le := fun a b : Int => decide (a ≤ b)) (by intro a b c; simp; omega) (by intro a b; simp; omega) l
  exact this.imp fun h => by simpa using h
theorem srt_is {l m : List Int} (hp : m.Perm l) (hs : m.Pairwise (· ≤ ·)) : m = srt l := sorted_eq (hp.trans (srt_perm l).symm) hs (srt_asc l)
theorem srt_congr {l m : List Int} (h : l.Perm m) : srt l = srt m := (srt_is ((srt_perm l).trans h) (srt_asc l))
theorem srt_len (l : List Int) : (srt l).length = l.length := (srt_perm l).length_eq

def ownM (t : List (List Int)) (x y : Int) : Int := (if val2 t x y = y then 1 else 0) + (if val2 t y x = y then 2 else 0) + (if val2 t x y = x then 4 else 0) + (if val2 t y x = x then 8 else 0)
/-- What t and the colours tell of x at y. -/
def tellM (t : List (List Int)) (c : List Int) (x y : Int) : Int := ((nth c y * 64 + nth c (val2 t x y)) * 64 + nth c (val2 t y x)) * 16 + ownM t x y
/-- How often x stands in row y. -/
def cntM (n : Nat) (t : List (List Int)) (x y : Int) : Int := ((iota n).countP fun z => decide (val2 t y z = x) : Nat)
def tellC (n : Nat) (t : List (List Int)) (c : List Int) (x y : Int) : Int := 1099511627776 + nth c y * 64 + cntM n t x y
def rawM (n : Nat) (t : List (List Int)) (c : List Int) (x : Int) : List Int := (iota n).map (tellM t c x) ++ (iota n).map (tellC n t c x)
def markM (n : Nat) (F : List (List (List Int))) (c : List Int) (x : Int) : List Int := nth c x :: F.flatMap fun t => srt (rawM n t c x)

/-- p leads the colours c to the colours d. -/
def Keeps (n : Nat) (c d p : List Int) : Prop := ∀ x, InN n x → nth d (nth p x) = nth c x
theorem iso_rng {n : Nat} {F G : List (List (List Int))} {p : List Int} (h : IsoF n F G p) {x : Int} (hx : InN n x) : InN n (nth p x) := by
  have := h.1.1.lt (x := x) hx.1 (by rw [h.1.2]; exact hx.2)
  rw [h.1.2] at this; exact this
theorem iso_inj {n : Nat} {F G : List (List (List Int))} {p : List Int} (h : IsoF n F G p) {x y : Int} (hx : InN n x) (hy : InN n y) : nth p x = nth p y ↔ x = y :=
  ⟨fun e => h.1.1.inj hx.1 (by rw [h.1.2]; exact hx.2) hy.1 (by rw [h.1.2]; exact hy.2) e, fun e => by rw [e]⟩
theorem iso_perm {n : Nat} {F G : List (List (List Int))} {p : List Int} (h : IsoF n F G p) : ((iota n).map (nth p)).Perm (iota n) := by
  have e : (iota n).map (nth p) = p := by
    refine ext_nth (by simp [h.1.2]) fun k hk => ?_
    have hk' : k < n := by simpa using hk
    rw [nth_map _ _ _ (by omega) (by simp; omega), nth_iota n k (by omega) (by omega)]
  rw [e]
  have := h.1.1.perm
  rwa [h.1.2] at this
theorem tell_iso {n : Nat} {F G : List (List (List Int))} {c d p : List Int} (h : IsoF n F G p) (ht : Tabs n F) (hc : Keeps n c d p) {k : Nat} (hk : k < F.length) {x y : Int} (hx : InN n x) (hy : InN n y) :
    tellM (G.getD k []) d (nth p x) (nth p y) = tellM (F.getD k []) c x y := by
  have h1 := h.2 k hk x y hx hy
  have h2 := h.2 k hk y x hy hx
  have r1 := ht k hk x y hx hy
  have r2 := ht k hk y x hy hx
  unfold tellM ownM
  rw [← h1, ← h2, hc y hy, hc _ r1, hc _ r2]
  simp only [iso_inj h r1 hy, iso_inj h r2 hy, iso_inj h r1 hx, iso_inj h r2 hx]
theorem cnt_iso {n : Nat} {F G : List (List (List Int))} {p : List Int} (h : IsoF n F G p) (ht : Tabs n F) {k : Nat} (hk : k < F.length) {x y : Int} (hx : InN n x) (hy : InN n y) :
    cntM n (G.getD k []) (nth p x) (nth p y) = cntM n (F.getD k []) x y := by
  unfold cntM
  rw [← (iso_perm h).countP_eq, List.countP_map]
  congr 1
  refine List.countP_congr fun z hz => ?_
  have hz' : InN n z := (mem_iota n z).1 hz
  simp only [Function.comp, decide_eq_true_eq]
  rw [← h.2 k hk y z hy hz', iso_inj h (ht k hk y z hy hz') hx]
theorem raw_iso {n : Nat} {F G : List (List (List Int))} {c d p : List Int} (h : IsoF n F G p) (ht : Tabs n F) (hc : Keeps n c d p) {k : Nat} (hk : k < F.length) {x : Int} (hx : InN n x) :
    (rawM n (G.getD k []) d (nth p x)).Perm (rawM n (F.getD k []) c x) := by
  unfold rawM
  refine List.Perm.append ?_ ?_
  · refine ((iso_perm h).symm.map _).trans ?_
    rw [List.map_map]
    refine List.Perm.of_eq (List.map_congr_left fun y hy => ?_)
    exact tell_iso h ht hc hk hx ((mem_iota n y).1 hy)
  · refine ((iso_perm h).symm.map _).trans ?_
    rw [List.map_map]
    refine List.Perm.of_eq (List.map_congr_left fun y hy => ?_)
    have hy' := (mem_iota n y).1 hy
    simp only [Function.comp, tellC]
    rw [cnt_iso h ht hk hx hy', hc y hy']
theorem flat_congr {α β γ : Type} : ∀ (F : List α) (G : List β) (f : α → List γ) (g : β → List γ) (da : α) (db : β), F.length = G.length → (∀ k : Nat, k < F.length → f (F.getD k da) = g (G.getD k db)) → F.flatMap f = G.flatMap g
  | [], [], _, _, _, _, _, _ => rfl
  | [], _ :: _, _, _, _, _, h, _ => by simp at h
  | _ :: _, [], _, _, _, _, h, _ => by simp at h
  | a :: F, b :: G, f, g, da, db, h, hk => by
    have h0 := hk 0 (by simp)
    simp only [List.getD_cons_zero] at h0
    rw [List.flatMap_cons, List.flatMap_cons, h0, flat_congr F G f g da db (by simpa using h) fun k hlt => by simpa using hk (k + 1) (by simp; omega)]
/-- A map that keeps the colours leads each element to one of which as much is told. -/
theorem mark_iso {n : Nat} {F G : List (List (List Int))} {c d p : List Int} (h : IsoF n F G p) (ht : Tabs n F) (hl : F.length = G.length) (hc : Keeps n c d p) {x : Int} (hx : InN n x) : markM n G d (nth p x) = markM n F c x := by
  unfold markM
  rw [hc x hx]
  congr 1
  refine (flat_congr F G _ _ [] [] hl fun k hk => ?_).symm
  exact srt_congr (raw_iso h ht hc hk hx).symm

/-! Finer colours: the number of a mark among all marks. -/
/-- The marks of all elements of both sides. -/
def marksM (n : Nat) (F G : List (List (List Int))) (c d : List Int) : List (List Int) := (iota n).map (markM n F c) ++ (iota n).map (markM n G d)
theorem marksM_len (n : Nat) (F G : List (List (List Int))) (c d : List Int) : (marksM n F G c d).length = n + n := by simp [marksM]
theorem marksM_l {n : Nat} {F G : List (List (List Int))} {c d : List Int} {x : Nat} (hx : x < n) : row (marksM n F G c d) x = markM n F c x := by
  unfold marksM
  rw [row_nat _ _ (by simp; omega), List.getElem_append_left (by simpa using hx), List.getElem_map]
  congr 1
  have := nth_iota n x (by omega) (by omega)
  rwa [nth_nat _ _ (by simpa using hx)] at this
theorem marksM_r {n : Nat} {F G : List (List (List Int))} {c d : List Int} {x : Nat} (hx : x < n) : row (marksM n F G c d) (n + x : Nat) = markM n G d x := by
  unfold marksM
  rw [row_nat _ _ (by simp; omega), List.getElem_append_right (by simp), List.getElem_map]
  congr 1
  have := nth_iota n x (by omega) (by omega)
  rw [nth_nat _ _ (by simpa using hx)] at this
  simpa using this
/-- cs are the numbers of the marks ms in the list ks of kinds, which has no doubles. -/
structure Kinds (ms ks : List (List Int)) (cs : List Int) : Prop where
  asc : AscR ks
  mem : ∀ m, m ∈ ks ↔ m ∈ ms
  len : cs.length = ms.length
  num : ∀ i : Nat, i < ms.length → InN ks.length (nth cs i) ∧ row ks (nth cs i) = row ms i
theorem Kinds.eq {ms ks : List (List Int)} {cs : List Int} (h : Kinds ms ks cs) {i j : Nat} (hi : i < ms.length) (hj : j < ms.length) (e : row ms i = row ms j) : nth cs i = nth cs j := by
  obtain ⟨⟨a0, a1⟩, a2⟩ := h.num i hi
  obtain ⟨⟨b0, b1⟩, b2⟩ := h.num j hj
  rw [← a2, ← b2] at e
  have hn := asc_nodup h.asc
  rcases Int.lt_trichotomy (nth cs i) (nth cs j) with g | g | g
  · exfalso
    have h1 := List.pairwise_iff_getElem.1 h.asc (nth cs i).toNat (nth cs j).toNat (by omega) (by omega) (by omega)
    rw [← row_nat _ _ (show (nth cs i).toNat < ks.length by omega), ← row_nat _ _ (show (nth cs j).toNat < ks.length by omega), show (((nth cs i).toNat : Nat) : Int) = nth cs i by omega, show (((nth cs j).toNat : Nat) : Int) = nth cs j by omega, e, lexB_irrefl] at h1
    cases h1
  · exact g
  · exfalso
    have h1 := List.pairwise_iff_getElem.1 h.asc (nth cs j).toNat (nth cs i).toNat (by omega) (by omega) (by omega)
    rw [← row_nat _ _ (show (nth cs i).toNat < ks.length by omega), ← row_nat _ _ (show (nth cs j).toNat < ks.length by omega), show (((nth cs i).toNat : Nat) : Int) = nth cs i by omega, show (((nth cs j).toNat : Nat) : Int) = nth cs j by omega, e, lexB_irrefl] at h1
    cases h1
/-- The finer colours are kept too. -/
theorem Kinds.keeps {n : Nat} {F G : List (List (List Int))} {c d p : List Int} {ks : List (List Int)} {cs : List Int} (h : Kinds (marksM n F G c d) ks cs) (hp : IsoF n F G p) (ht : Tabs n F) (hl : F.length = G.length) (hc : Keeps n c d p) : Keeps n (cs.take n) (cs.drop n) p := by
  intro x hx
  have hy := iso_rng hp hx
  have hcl : cs.length = n + n := by rw [h.len, marksM_len]
  obtain ⟨X, rfl⟩ : ∃ X : Nat, x = X := ⟨x.toNat, by have := hx.1; omega⟩
  obtain ⟨Y, hY⟩ : ∃ Y : Nat, nth p X = Y := ⟨(nth p X).toNat, by have := hy.1; omega⟩
  have hX : X < n := by have := hx.2; omega
  have hYn : Y < n := by have := hy.2; omega
  rw [hY]
  have t1 : nth (cs.take n) X = nth cs X := by
    rw [nth_nat _ _ (by simp; omega), nth_nat _ _ (by omega), List.getElem_take]
  have t2 : nth (cs.drop n) Y = nth cs (n + Y : Nat) := by
    rw [nth_nat _ _ (by simp; omega), nth_nat _ _ (by omega), List.getElem_drop]
  rw [t1, t2]
  refine h.eq (by rw [marksM_len]; omega) (by rw [marksM_len]; omega) ?_
  rw [marksM_l hX, marksM_r hYn, ← hY]
  exact mark_iso hp ht hl hc hx
/-- .. so each stands equally often on both sides. -/
theorem keeps_count {n : Nat} {F G : List (List (List Int))} {c d p : List Int} (hp : IsoF n F G p) (hc : Keeps n c d p) (h1 : c.length = n) (h2 : d.length = n) (v : Int) : c.count v = d.count v := by
  have e : c = (iota n).map fun x => nth d (nth p x) := by
    refine ext_nth (by simp [h1]) fun k hk => ?_
    have hk' : k < n := by omega
    rw [nth_map _ _ _ (by omega) (by simp; omega), nth_iota n k (by omega) (by omega)]
    exact (hc k ⟨by omega, by omega⟩).symm
  have e2 : d = (iota n).map (nth d) := by
    refine ext_nth (by simp [h2]) fun k hk => ?_
    have hk' : k < n := by omega
    rw [nth_map _ _ _ (by omega) (by simp; omega), nth_iota n k (by omega) (by omega)]
  have e3 : ((iota n).map fun x => nth d (nth p x)).Perm ((iota n).map (nth d)) := by
    have := (iso_perm hp).map (nth d)
    rwa [List.map_map] at this
  rw [e, e3.count_eq, ← e2]
/-- All colours less than k stand among the colours. -/
def Used (k : Nat) (cs : List Int) : Prop := ∀ i : Nat, i < k → (i : Int) ∈ cs
theorem Kinds.used {ms ks : List (List Int)} {cs : List Int} (h : Kinds ms ks cs) : Used ks.length cs := by
  intro i hi
  have hm : row ks i ∈ ms := (h.mem _).1 (row_mem (by omega) (by omega))
  obtain ⟨j, hj, e⟩ := List.getElem_of_mem hm
  obtain ⟨⟨a0, a1⟩, a2⟩ := h.num j hj
  rw [row_nat ms j hj, e] at a2
  have hn := List.nodup_iff_pairwise_ne.1 (asc_nodup h.asc)
  have : nth cs j = i := by
    rw [row_nat ks i hi] at a2
    have b : (nth cs j).toNat < ks.length := by omega
    rw [show nth cs j = (((nth cs j).toNat : Nat) : Int) by omega, row_nat ks _ b] at a2
    rcases Nat.lt_trichotomy (nth cs j).toNat i with g | g | g
    · exact absurd a2 (List.pairwise_iff_getElem.1 hn _ _ b hi g)
    · omega
    · exact absurd a2.symm (List.pairwise_iff_getElem.1 hn _ _ hi b g)
  rw [← this]
  exact nth_mem (by omega) (by rw [h.len]; omega)
/-- There are no fewer kinds than colours. -/
theorem Kinds.more {n k : Nat} {F G : List (List (List Int))} {c d : List Int} {ks : List (List Int)} {cs : List Int} (h : Kinds (marksM n F G c d) ks cs) (h1 : c.length = n) (h2 : d.length = n) (hu : Used k (c ++ d)) : k ≤ ks.length := by
  rcases Nat.lt_or_ge ks.length k with hlt | hge
  · exfalso
    have hsub : ∀ x ∈ iota k, x ∈ ks.map fun m => nth m 0 := by
      intro x hx
      obtain ⟨x0, x1⟩ := (mem_iota k x).1 hx
      obtain ⟨X, rfl⟩ : ∃ X : Nat, x = X := ⟨x.toNat, by omega⟩
      rw [List.mem_map]
      rcases List.mem_append.1 (hu X (by omega)) with hc | hc
      · obtain ⟨j, hj, e⟩ := List.getElem_of_mem hc
        refine ⟨markM n F c j, (h.mem _).2 ?_, ?_⟩
        · rw [← marksM_l (G := G) (d := d) (show j < n by omega)]; exact row_mem (by omega) (by rw [marksM_len]; omega)
        · show nth c j = X
          rw [nth_nat _ _ hj, e]
      · obtain ⟨j, hj, e⟩ := List.getElem_of_mem hc
        refine ⟨markM n G d j, (h.mem _).2 ?_, ?_⟩
        · rw [← marksM_r (F := F) (c := c) (show j < n by omega)]; exact row_mem (by omega) (by rw [marksM_len]; omega)
        · show nth d j = X
          rw [nth_nat _ _ hj, e]
    have := (perm_of_sub (iota_nodup k) hsub (by simp; omega)).length_eq
    simp at this; omega
  · exact hge
theorem Kinds.few {ms ks : List (List Int)} {cs : List Int} (h : Kinds ms ks cs) : ks.length ≤ ms.length := by
  rcases Nat.lt_or_ge ms.length ks.length with hlt | hge
  · have := (perm_of_sub (asc_nodup h.asc) (fun x hx => (h.mem x).1 hx) (by omega)).length_eq
    omega
  · exact hge
end Go.Proofs.Ytgmhnjccgldddaa
