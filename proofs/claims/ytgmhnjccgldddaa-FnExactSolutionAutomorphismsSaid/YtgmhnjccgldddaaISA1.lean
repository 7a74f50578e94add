/-
  The law FnExactSolutionAutomorphisms: the reference's search for isomorphisms and the law's walk (texts joined).
-/
import Derived.Test.YtgmhnjccgldddaaZ3a
import Derived.Test.YtgmhnjccgldddaaZ1
import Derived.Test.YtgmhnjccgldddaaP8
import Derived.Test.YtgmhnjccgldddaaY1
import Derived.Test.YtgmhnjccgldddaaK3
import Derived.Test.YtgmhnjccgldddaaA3
import Derived.Test.YtgmhnjccgldddaaP7
import Derived.Test.YtgmhnjccgldddaaS1c
import Derived.Test.YtgmhnjccgldddaaS4
import Derived.Test.YtgmhnjccgldddaaY6
import Derived.Test.YtgmhnjccgldddaaS2a
import Derived.Test.YtgmhnjccgldddaaT1
import Derived.Test.YtgmhnjccgldddaaY7
import Derived.Test.YtgmhnjccgldddaaLawC
namespace Go.Proofs.Ytgmhnjccgldddaa
set_option linter.unusedVariables false
set_option linter.unusedSimpArgs false
open Go Go.RowKit

/-- All that is known of a beginning fits. -/
def FitUp (F G : List (List (List Int))) (f : List Int) : Prop := ∀ k : Nat, k < F.length → ∀ x y : Nat, x < f.length → y < f.length → val2 (F.getD k []) x y < f.length → nth f (val2 (F.getD k []) x y) = val2 (G.getD k []) (nth f x) (nth f y)
theorem nth_left (f : List Int) (y : Int) {z : Int} (h0 : 0 ≤ z) (h : z < f.length) : nth (f ++ [y]) z = nth f z := nth_append_left _ _ _ h h0
theorem FitUp.snoc {n : Nat} {F G : List (List (List Int))} {f : List Int} {y : Int} (ht : Tabs n F) (hf : f.length < n) (h : FitUp F G f) (ha : FitAll F G (f ++ [y]) f.length) : FitUp F G (f ++ [y]) := by
  intro k hk x z hx hz hv
  simp only [List.length_append, List.length_singleton] at hx hz hv
  have hr := ht k hk x z ⟨by omega, by omega⟩ ⟨by omega, by omega⟩
  rcases ha k hk x hx z hz with h1 | ⟨h1, h2, h3⟩ | h1
  · omega
  · rw [nth_left _ _ hr.1 h3, nth_left _ _ (by omega) (by omega), nth_left _ _ (by omega) (by omega)]
    exact h k hk x z h1 h2 h3
  · exact h1
theorem fitAll_iso {n : Nat} {F G : List (List (List Int))} {g p : List Int} {M : Nat} (ht : Tabs n F) (hp : IsoF n F G p) (hg : p.take g.length = g) (hl : g.length = M + 1) (hM : M < n) : FitAll F G g M := by
  have hn : ∀ z : Int, 0 ≤ z → z < M + 1 → nth g z = nth p z := fun z h0 h1 => by
    have hpl := hp.1.2
    have hz : z.toNat < g.length := by omega
    have e1 := nth_nat g z.toNat hz
    have e2 := nth_nat p z.toNat (by omega)
    rw [show ((z.toNat : Nat) : Int) = z by omega] at e1 e2
    rw [e1, e2]
    have h3 : (p.take g.length)[z.toNat]? = p[z.toNat]? := by rw [List.getElem?_take, if_pos (by omega)]
    rw [hg] at h3
    rw [List.getElem?_eq_getElem hz, List.getElem?_eq_getElem (by omega)] at h3
    exact Option.some.inj h3
  intro k hk x hx y hy
  have hr := ht k hk x y ⟨by omega, by omega⟩ ⟨by omega, by omega⟩
  by_cases h : (M : Int) < val2 (F.getD k []) x y
  · exact .inl h
  · refine .inr (.inr ?_)
    rw [hn _ hr.1 (by omega), hn x (by omega) (by omega), hn y (by omega) (by omega)]
    exact hp.2 k hk x y ⟨by omega, by omega⟩ ⟨by omega, by omega⟩
theorem FitUp.full {n : Nat} {F G : List (List (List Int))} {f : List Int} (ht : Tabs n F) (h : FitUp F G f) (hl : f.length = n) (hnd : f.Nodup) (hr : ∀ x ∈ f, InN n x) : IsoF n F G f := by
  refine ⟨⟨⟨hnd, fun x hx => by rw [hl]; exact hr x hx⟩, hl⟩, fun k hk x y hx hy => ?_⟩
  obtain ⟨X, rfl⟩ : ∃ X : Nat, x = X := ⟨x.toNat, by have := hx.1; omega⟩
  obtain ⟨Y, rfl⟩ : ∃ Y : Nat, y = Y := ⟨y.toNat, by have := hy.1; omega⟩
  have h1 := hx.2; have h2 := hy.2
  exact h k hk X Y (by omega) (by omega) (by have := (ht k hk X Y hx hy).2; omega)
theorem mem_isoP {n : Nat} {F G : List (List (List Int))} {f p : List Int} : p ∈ isoP n F G f ↔ IsoF n F G p ∧ p.take f.length = f := mem_isoQ
theorem isoP_at {n : Nat} {F G : List (List (List Int))} {f p : List Int} {y : Int} (h : p ∈ isoP n F G (f ++ [y])) : p ∈ isoP n F G f ∧ nth p f.length = y ∧ f.length < n := by
  obtain ⟨h1, h2⟩ := mem_isoP.1 h
  have hpl := h1.1.2
  rw [List.length_append, List.length_singleton] at h2
  have hlt : f.length < p.length := by
    have := congrArg List.length h2
    simp at this; omega
  rw [take_snoc p f.length hlt] at h2
  have hll : (p.take f.length).length = f.length := by simp; omega
  have h3 := List.append_inj h2 hll
  exact ⟨mem_isoP.2 ⟨h1, h3.1⟩, by simpa using h3.2, by omega⟩
theorem isoP_has {n : Nat} {F G : List (List (List Int))} {f : List Int} {y : Int} (h : y ∈ f) : isoP n F G (f ++ [y]) = [] := by
  rw [List.eq_nil_iff_forall_not_mem]
  intro p hp
  obtain ⟨h1, h2⟩ := mem_isoP.1 hp
  have : (p.take (f ++ [y]).length).Nodup := List.Nodup.sublist (List.take_sublist _ _) h1.1.1.1
  rw [h2, List.nodup_append] at this
  exact this.2.2 y h y (by simp) rfl
theorem isoP_cols {n : Nat} {F G : List (List (List Int))} {f C D : List Int} {y : Int} (hk : ∀ p ∈ isoP n F G f, Keeps n C D p) (h : nth C f.length ≠ nth D y) : isoP n F G (f ++ [y]) = [] := by
  rw [List.eq_nil_iff_forall_not_mem]
  intro p hp
  obtain ⟨h1, h2, h3⟩ := isoP_at hp
  have := hk p h1 f.length ⟨by omega, by omega⟩
  rw [h2] at this
  exact h this.symm
theorem isoP_fits {n : Nat} {F G : List (List (List Int))} {f : List Int} {y : Int} (ht : Tabs n F) (hf : f.length < n) (h : ¬ FitAll F G (f ++ [y]) f.length) : isoP n F G (f ++ [y]) = [] := by
  rw [List.eq_nil_iff_forall_not_mem]
  intro p hp
  obtain ⟨h1, h2⟩ := mem_isoP.1 hp
  exact h (fitAll_iso ht h1 h2 (by simp) hf)
theorem isoP_none {n : Nat} {F G : List (List (List Int))} {f : List Int} {y : Int} {C D : List Int} (hk : ∀ p ∈ isoP n F G (f ++ [y]), Keeps n C D p) (h : ∀ p, IsoF n F G p → ¬ Keeps n C D p) : isoP n F G (f ++ [y]) = [] := by
  rw [List.eq_nil_iff_forall_not_mem]
  intro p hp
  exact h p (mem_isoP.1 hp).1 (hk p hp)
/-- A colour of its own for one element and its image. -/
theorem keeps_set {n : Nat} {F G : List (List (List Int))} {f C D : List Int} {y : Nat} (hC : C.length = n) (hD : D.length = n) (hy : y < n) (hk : ∀ p ∈ isoP n F G f, Keeps n C D p) : ∀ p ∈ isoP n F G (f ++ [(y : Int)]), Keeps n (C.set f.length 60) (D.set y 60) p := fun p hp x hx => by
  obtain ⟨h1, h2, h3⟩ := isoP_at hp
  have hi := (mem_isoP.1 h1).1
  have hpx := iso_rng hi hx
  have e1 := nth_set C (f.length : Int) x 60 (by omega) (by omega) hx.1
  have e2 := nth_set D (y : Int) (nth p x) 60 (by omega) (by omega) hpx.1
  rw [Int.toNat_natCast] at e1 e2
  rw [e1, e2]
  by_cases e : x = (f.length : Int)
  · rw [if_pos e, if_pos (by rw [e, h2])]
  · rw [if_neg e, if_neg (fun h => e ((iso_inj hi hx ⟨by omega, by omega⟩).1 (by rw [h, h2])))]
    exact hk p h1 x hx
theorem colsOk_set {n : Nat} {C : List Int} (h : C.length = n ∧ ∀ x ∈ C, 0 ≤ x ∧ x ≤ 60) (k : Nat) : (C.set k 60).length = n ∧ ∀ x ∈ C.set k 60, 0 ≤ x ∧ x ≤ 60 := by
  refine ⟨by simpa using h.1, fun x hx => ?_⟩
  rcases List.mem_or_eq_of_mem_set hx with h1 | h1
  · exact h.2 x h1
  · subst h1; omega
/-- The part with next image less than k. -/
noncomputable def partP (n : Nat) (F G : List (List (List Int))) (f : List Int) (k : Nat) : List (List Int) := isoLt n F G (fun p => p.take f.length = f) f.length k
theorem partP_zero {n : Nat} {F G : List (List (List Int))} {f : List Int} (hf : f.length < n) : partP n F G f 0 = [] := isoLt_zero ⟨by omega, by omega⟩
theorem partP_all {n : Nat} {F G : List (List (List Int))} {f : List Int} (hf : f.length < n) : partP n F G f n = isoP n F G f := isoLt_all ⟨by omega, by omega⟩
theorem partP_succ {n : Nat} {F G : List (List (List Int))} {f : List Int} (k : Nat) (hf : f.length < n) : partP n F G f (k + 1) = partP n F G f k ++ isoP n F G (f ++ [(k : Int)]) := isoP_part hf
theorem partP_more {n : Nat} {F G : List (List (List Int))} {f : List Int} (k : Nat) (hf : f.length < n) : ∀ r : Nat, ∃ R, partP n F G f (k + r) = partP n F G f k ++ R
  | 0 => ⟨[], by simp⟩
  | r + 1 => by
    obtain ⟨R, hR⟩ := partP_more k hf r
    exact ⟨R ++ isoP n F G (f ++ [((k + r : Nat) : Int)]), by rw [← Nat.add_assoc, partP_succ _ hf, hR, List.append_assoc]⟩
/-- What is full stays so. -/
theorem take_full {α : Type} {L R : List α} {m : Nat} (h : m ≤ (L.take m).length) : (L ++ R).take m = L.take m := by
  have : m ≤ L.length := by rw [List.length_take] at h; omega
  rw [List.take_append_of_le_length this]
theorem take_room {α : Type} {L : List α} {m : Nat} (h : (L.take m).length < m) : L.take m = L := by
  rw [List.length_take] at h
  exact List.take_of_length_le (by omega)
theorem isoP_len {n : Nat} {F G : List (List (List Int))} {f : List Int} (h : n ≤ f.length) : (isoP n F G f).length ≤ 1 := by
  rcases Nat.lt_or_ge 1 (isoP n F G f).length with hlt | hge
  · exfalso
    have hn := List.nodup_iff_pairwise_ne.1 (asc_nodup (isoQ_asc n F G fun p => p.take f.length = f))
    have h1 := List.pairwise_iff_getElem.1 hn 0 1 (by exact Nat.lt_trans Nat.zero_lt_one hlt) hlt (by omega)
    have e : ∀ p ∈ isoP n F G f, p = f := fun p hp => by
      obtain ⟨h2, h3⟩ := mem_isoP.1 hp
      rw [List.take_of_length_le (by rw [h2.1.2]; exact h)] at h3
      exact h3
    exact h1 ((e _ (List.getElem_mem _)).trans (e _ (List.getElem_mem _)).symm)
  · exact hge
end Go.Proofs.Ytgmhnjccgldddaa

namespace Go.Proofs.Ytgmhnjccgldddaa
set_option linter.unusedVariables false
set_option linter.unusedSimpArgs false
open Go Go.RowKit

theorem swap_permA : ∀ (l : List Int) (k : Nat) (h : k + 1 < l.length), ((l.set (k + 1) l[k]).set k l[k + 1]).Perm l
  | a :: c :: l, 0, _ => by simpa using List.Perm.swap a c l
  | a :: l, k + 1, h => by
    have := swap_permA l k (by simp at h; omega)
    simpa using this
  | [a], 0, h => by simp at h
/-- The first i numbers stand in order, but for the one at place j, which may be too small. -/
def InsP (i j : Nat) (S : List Int) : Prop := ∀ a b : Nat, a < b → b ≤ i → b ≠ j → nth S a ≤ nth S b
def SorP (i : Nat) (S : List Int) : Prop := ∀ a b : Nat, a < b → b < i → nth S a ≤ nth S b
theorem InsP.start {i : Nat} {S : List Int} (h : SorP i S) : InsP i i S := fun a b h1 h2 h3 => h a b h1 (by omega)
theorem InsP.done {i j : Nat} {S : List Int} (h : InsP i j S) (hj : 0 < j → nth S ((j : Int) - 1) ≤ nth S j) : SorP (i + 1) S := by
  intro a b h1 h2
  by_cases e : b = j
  · subst e
    have h3 := hj (by omega)
    by_cases e2 : a + 1 = b
    · have : ((b : Int) - 1) = a := by omega
      rw [this] at h3; exact h3
    · have h4 := h a (b - 1) (by omega) (by omega) (by omega)
      rw [show (((b - 1 : Nat)) : Int) = (b : Int) - 1 from by omega] at h4
      omega
  · exact h a b h1 (by omega) e
def swp (S : List Int) (j : Nat) : List Int := (S.set j (nth S ((j : Int) - 1))).set (j - 1) (nth S j)
theorem swp_nth {S : List Int} {j : Nat} (hj : 0 < j) (hl : j < S.length) (y : Nat) : nth (swp S j) y = if y + 1 = j then nth S j else if y = j then nth S ((j : Int) - 1) else nth S y := by
  unfold swp
  have h1 := nth_set (S.set j (nth S ((j : Int) - 1))) ((j : Int) - 1) y (nth S j) (by omega) (by rw [List.length_set]; omega) (by omega)
  rw [show ((j : Int) - 1).toNat = j - 1 from by omega] at h1
  rw [h1]
  have h2 := nth_set S (j : Int) y (nth S ((j : Int) - 1)) (by omega) (by omega) (by omega)
  rw [Int.toNat_natCast] at h2
  rw [h2]
  by_cases e : y + 1 = j
  · rw [if_pos (by omega), if_pos e]
  · rw [if_neg (by omega), if_neg e]
    by_cases e2 : y = j
    · rw [if_pos (by omega), if_pos e2]
    · rw [if_neg (by omega), if_neg e2]
theorem swp_perm {S : List Int} {j : Nat} (hj : 0 < j) (hl : j < S.length) : (swp S j).Perm S := by
  obtain ⟨k, rfl⟩ : ∃ k, j = k + 1 := ⟨j - 1, by omega⟩
  have := swap_permA S k hl
  unfold swp
  rw [show (((k + 1 : Nat) : Int) - 1) = (k : Int) from by omega, nth_nat _ _ (by omega), nth_nat _ _ hl]
  exact this
theorem InsP.step {i j : Nat} {S : List Int} (h : InsP i j S) (hj : 0 < j) (hl : j < S.length) (hi : j ≤ i) (hlt : nth S j < nth S ((j : Int) - 1)) : InsP i (j - 1) (swp S j) := by
  intro a b h1 h2 h3
  rw [swp_nth hj hl, swp_nth hj hl]
  have e0 : ((j : Int) - 1) = ((j - 1 : Nat) : Int) := by omega
  rw [e0] at hlt ⊢
  rw [if_neg (show ¬ (b + 1 = j) by omega)]
  by_cases e1 : b = j
  · rw [if_pos e1]
    by_cases e2 : a + 1 = j
    · rw [if_pos e2]; omega
    · rw [if_neg e2, if_neg (by omega)]
      exact h a (j - 1) (by omega) (by omega) (by omega)
  · rw [if_neg e1]
    by_cases e2 : a + 1 = j
    · rw [if_pos e2]
      exact h j b (by omega) h2 e1
    · rw [if_neg e2]
      by_cases e3 : a = j
      · rw [if_pos e3]
        exact h (j - 1) b (by omega) h2 e1
      · rw [if_neg e3]
        exact h a b h1 h2 e1
theorem SorP.pairwise {S : List Int} (h : SorP S.length S) : S.Pairwise (· ≤ ·) := by
  rw [List.pairwise_iff_getElem]
  intro a b ha hb hab
  have := h a b hab hb
  rwa [nth_nat _ _ ha, nth_nat _ _ hb] at this
end Go.Proofs.Ytgmhnjccgldddaa

namespace Go.Proofs.Ytgmhnjccgldddaa
set_option linter.unusedVariables false
set_option linter.unusedSimpArgs false
open Go Go.RowKit

theorem iota_succ (k : Nat) : iota (k + 1) = iota k ++ [(k : Int)] := by simp [iota, List.range_succ]

theorem Blk.at' {w : World} {b : Nat} {xs : List Int} {cs : List Value} (h : Blk w b 2 (xs.map (Value.int .i64) ++ cs)) (k : Nat) (hk : k < xs.length) : w.cell? ⟨b, k, none⟩ = some (.int .i64 (nth xs k)) := by
  rw [h.cell (by simp; omega), List.getElem_append_left (by simpa using hk), List.getElem_map, nth_nat _ _ hk]
theorem Blk.put' {w : World} {b : Nat} {xs : List Int} {cs : List Value} (h : Blk w b 2 (xs.map (Value.int .i64) ++ cs)) (k : Nat) (hk : k < xs.length) (u : Int) : Blk (w.setCell ⟨b, k, none⟩ (.int .i64 u)) b 2 ((xs.set k u).map (Value.int .i64) ++ cs) := by
  have := h.set k (.int .i64 u)
  rwa [List.set_append_left _ _ (by simpa using hk), ← List.map_set] at this
theorem cut_waysZ {p G : Prop} (k : Hid p → G) (h : p) : G := k (Lib.hid h)
theorem forget18 {Pd : Array Value → Prop} (l : List Value) (i j : Nat) (hj : j = i + 18) (hl : i + 18 ≤ l.length) (h : ∀ a0 a1 a2 a3 a4 a5 a6 a7 a8 a9 a10 a11 a12 a13 a14 a15 a16 a17 : Value, Pd (l.take i ++ (a0 :: a1 :: a2 :: a3 :: a4 :: a5 :: a6 :: a7 :: a8 :: a9 :: a10 :: a11 :: a12 :: a13 :: a14 :: a15 :: a16 :: a17 :: l.drop j)).toArray) : Pd l.toArray := by
  subst hj
  have key : ∀ (n : Nat) (m : List Value), n ≤ m.length → ∃ vs : List Value, vs.length = n ∧ m = vs ++ m.drop n := fun n m hn => ⟨m.take n, by simp; omega, (List.take_append_drop n m).symm⟩
  obtain ⟨vs, h1, h2⟩ := key 18 (l.drop i) (by simp; omega)
  rw [List.drop_drop] at h2
  match vs, h1 with
  | [a0, a1, a2, a3, a4, a5, a6, a7, a8, a9, a10, a11, a12, a13, a14, a15, a16, a17], _ =>
    have e : l.take i ++ (a0 :: a1 :: a2 :: a3 :: a4 :: a5 :: a6 :: a7 :: a8 :: a9 :: a10 :: a11 :: a12 :: a13 :: a14 :: a15 :: a16 :: a17 :: l.drop (i + 18)) = l := by
      rw [← List.take_append_drop i l]
      conv => rhs; rw [h2]
      simp
    rw [← e]
    exact h a0 a1 a2 a3 a4 a5 a6 a7 a8 a9 a10 a11 a12 a13 a14 a15 a16 a17
def TellV (v T own : Int) : Prop := v = T + own ∧ 0 ≤ own ∧ own ≤ 15
set_option maxRecDepth 100000 in
set_option maxHeartbeats 8000000 in
theorem c_l03Mark {n K : Nat} {F : List (List (List Int))} {fb fo fc : Nat} {tb to tc : Nat → Nat} {rb ro rc : Nat → Nat → Nat} (C : List Int) (u : Value) (X : Nat) (w : World) (hF : Tb3 w fb fo n K F tb to tc rb ro rc)
    (hKF : K = F.length) (hn0 : 1 ≤ n) (hn : n ≤ 12) (hK : K ≤ 12) (hfc : K ≤ fc) (hu : Ints w u C) (hC : C.length = n) (hX : X < n) (hr : ∀ x ∈ C, 0 ≤ x ∧ x ≤ 60) :
    Calls Try.prog 92 #[.slice (some ⟨fb, fo, none⟩) K fc, u, .int .i64 X] w (RInts w (markM n F C X)) := by
  obtain ⟨a, c, rfl, hc, hm⟩ := hu.shape
  rw [hC] at hc ⊢
  have hu0 : Ints w (.slice a n c) C := by rw [← hC]; rw [← hC] at hc; exact hu
  obtain ⟨ub, uo, rfl, _⟩ := hu0.get 0 (by omega)
  have HF := Lib.hid (And.intro hF hu0); have HKF := Lib.hid hKF; have HCl := Lib.hid hC
  have HR : Hid (∀ x : Nat, x < n → ∃ Y : Nat, nth C x = Y ∧ Y ≤ 60) := Lib.hid fun x hx => by
    have := hr _ (nth_mem (p := C) (x := (x : Int)) (by omega) (by omega))
    have h1 := this.1; have h2 := this.2
    exact ⟨(nth C x).toNat, by omega, by omega⟩
  have HV : Hid (∀ k x y : Nat, k < K → x < n → y < n → ∃ U : Nat, val2 (F.getD k []) x y = U ∧ U < n) := Lib.hid fun k x y hk hx hy => by
    have := (hF.at' k hk).rng x y (by omega) (by omega) (by omega) (by omega)
    exact ⟨(val2 (F.getD k []) x y).toNat, by omega, by omega⟩
  have hcx := hu0.at X (by omega)
  have hmk := run_make_row' (P := Try.prog) 26 2 (.int .i64 0) 8 Try.underlying26 inf_int64 rfl .i64 .i64 n (by omega) (by omega)
  clear hF hu0 hKF hC hr hu
  go_enter Try.func92, Try.ntmps92
  go_wp2
  go_region
  go_wp2
  have hB1 : Below w.heap.size w (w.alloc (.cells #[.int .i64 (nth C X)] 2)).drew := ((Below.refl _ w).alloc (Nat.le_refl _) _).drew
  have hO1 : Own w.heap.size (w.alloc (.cells #[.int .i64 (nth C X)] 2)).drew (.slice (some ⟨w.heap.size, 0, none⟩) 1 1) [nth C X] :=
    Own.of_blk (xs := [nth C X]) (heap_alloc_new w _) (Nat.le_refl _) (by simp [maxLen]) rfl rfl
  have HB1 := Lib.hid hB1; have HO1 := Lib.hid hO1
  clear hB1 hO1 hcx
  go_loopw [8, 9, 10, 11, 12, 13, 14, 15, 16, 17, 18, 19, 20, 21] (fun out kk _ _ _ _ _ _ _ _ _ _ _ _ wr => ∃ (k : Nat) (xs : List Int) (oa : Option Addr) (oc : Nat), k ≤ K ∧ kk = .int .i64 k ∧ out = .slice oa xs.length oc ∧ xs.length ≤ 1 + 24 * k ∧ Hid (xs = nth C X :: (F.take k).flatMap fun t => srt (rawM n t C X)) ∧ Hid (Below w.heap.size w wr) ∧ Hid (Own w.heap.size wr (.slice oa xs.length oc) xs)) (fun _ kk _ _ _ _ _ _ _ _ _ _ _ _ _ => K - (intOf kk).toNat)
  case atStart => exact ⟨0, [nth C X], _, _, Nat.zero_le _, rfl, rfl, by simp, Lib.hid (by simp), HB1, HO1⟩
  case round =>
    clear HB1 HO1
    obtain ⟨k, xs, oa, oc, hk, rfl, rfl, hxl, HX, HB, HO⟩ := hrel
    obtain ⟨wo, rfl⟩ : ∃ wo : World, wo = wr := ⟨_, rfl⟩
    by_cases hlt : k < K
    · obtain ⟨t, ht⟩ : ∃ t, F.getD k [] = t := ⟨_, rfl⟩
      have HT := Lib.hid ht
      go_wp2
      go_loopw [10, 11, 12, 13, 14] (fun l yy _ _ _ wi => ∃ (y : Nat) (ls : List Int) (la : Option Addr) (lc : Nat), y ≤ n ∧ yy = .int .i64 y ∧ l = .slice la ls.length lc ∧ Hid (ls.length = y) ∧ Hid (ls = (iota y).map (tellM t C X)) ∧ Hid (Below wo.heap.size wo wi) ∧ Hid (Own wo.heap.size wi (.slice la ls.length lc) ls)) (fun _ yy _ _ _ _ => n - (intOf yy).toNat)
      case atStart => exact ⟨0, [], _, _, Nat.zero_le _, rfl, rfl, Lib.hid rfl, Lib.hid (by simp [iota]), Lib.hid ((Below.refl _ _).alloc (Nat.le_refl _) _), Lib.hid (Own.made0 wo (Nat.le_refl _))⟩
      case round =>
        obtain ⟨y, ls, la, lc, hy, rfl, rfl, HLl, HL, Hb, Ho⟩ := hrel
        obtain ⟨wi, rfl⟩ : ∃ wi : World, wi = wr := ⟨_, rfl⟩
        by_cases hly : y < n
        · obtain ⟨U, hU, hUn⟩ := HV.out k X y hlt hX hly
          obtain ⟨V, hV, hVn⟩ := HV.out k y X hlt hly hX
          obtain ⟨CY, hCY, hCY6⟩ := HR.out y hly
          obtain ⟨CU, hCU, hCU6⟩ := HR.out U hUn
          obtain ⟨CV, hCV, hCV6⟩ := HR.out V hVn
          have tF := HF.out.1.below (bb HB.out Hb.out)
          have tU := HF.out.2.below (bb HB.out Hb.out)
          have q1 := tF.tab k hlt
          have q2 := (tF.at' k hlt).row X hX
          have q3 := (tF.at' k hlt).val X y hX hly
          have q4 := (tF.at' k hlt).row y hly
          have q5 := (tF.at' k hlt).val y X hly hX
          have c1 := tU.at y (by rw [HCl.out]; exact hly)
          have c2 := tU.at U (by rw [HCl.out]; exact hUn)
          have c3 := tU.at V (by rw [HCl.out]; exact hVn)
          rw [hU] at q3; rw [hV] at q5; rw [hCY] at c1; rw [hCU] at c2; rw [hCV] at c3
          have HTell : Hid (tellM t C X y = ((CY * 64 + CU) * 64 + CV) * 16 + ((if ((U : Int) == (y : Int)) = true then 1 else 0) + (if ((V : Int) == (y : Int)) = true then 2 else 0) + (if ((U : Int) == (X : Int)) = true then 4 else 0) + (if ((V : Int) == (X : Int)) = true then 8 else 0))) := Lib.hid (by
            unfold tellM ownM
            rw [← HT.out, hU, hV, hCY, hCU, hCV]
            simp only [beq_iff_eq])
          have HSn : Hid ((iota (y + 1)).map (tellM t C X) = (iota y).map (tellM t C X) ++ [tellM t C X y]) := Lib.hid (by rw [iota_succ]; simp)
          clear tF tU hU hV hCY hCU hCV
          go_wp2
          go_quiet (fail)
          rename_i nq
          have hbq : Below wi.heap.size wi (wi.drewN nq) := below_drewN (Below.refl _ _) nq
          generalize wi.drewN nq = wq at hbq ⊢
          have Hbd := Lib.hid (bb Hb.out hbq.drew)
          have Hod := Lib.hid (Ho.out.under hbq.drew)
          have HSd := Lib.hid (bb Hb.out hbq.drew).size
          have c1' := cell_under hbq.drew c1; have c2' := cell_under hbq.drew c2; have c3' := cell_under hbq.drew c3
          have HSA : Hid (∀ w', Below wq.heap.size wq w' → (fun w' => w'.cell? ⟨ub, uo + y, none⟩ = some (.int .i64 CY) ∧ w'.cell? ⟨ub, uo + U, none⟩ = some (.int .i64 CU) ∧ w'.cell? ⟨ub, uo + V, none⟩ = some (.int .i64 CV)) w') := by
            have c1q := cell_under hbq c1; have c2q := cell_under hbq c2; have c3q := cell_under hbq c3
            exact Lib.hid fun w' hb => ⟨cell_under hb c1q, cell_under hb c2q, cell_under hb c3q⟩
          clear q1 q2 q3 q4 q5 c1 c2 c3 hbq
          have w1 : IntKind.i64.wrap ((CY : Int) * 64) = (CY : Int) * 64 := IntWalk.i64_in _ (by omega)
          have w2 : IntKind.i64.wrap ((CY : Int) * 64 + CU) = (CY : Int) * 64 + CU := IntWalk.i64_in _ (by omega)
          have w3 : IntKind.i64.wrap (((CY : Int) * 64 + CU) * 64) = ((CY : Int) * 64 + CU) * 64 := IntWalk.i64_in _ (by omega)
          have w4 : IntKind.i64.wrap (((CY : Int) * 64 + CU) * 64 + CV) = ((CY : Int) * 64 + CU) * 64 + CV := IntWalk.i64_in _ (by omega)
          obtain ⟨TT, hTT⟩ : ∃ TT : Int, (((CY : Int) * 64 + CU) * 64 + CV) * 16 = TT := ⟨_, rfl⟩
          have w5 : IntKind.i64.wrap ((((CY : Int) * 64 + CU) * 64 + CV) * 16) = TT := by rw [hTT]; exact IntWalk.i64_in _ (by omega)
          have htl : 0 ≤ TT := by omega
          have hth : TT ≤ 1000000000 := by omega
          have HTell2 := Lib.hid (show tellM t C X y = TT + ((if ((U : Int) == (y : Int)) = true then 1 else 0) + (if ((V : Int) == (y : Int)) = true then 2 else 0) + (if ((U : Int) == (X : Int)) = true then 4 else 0) + (if ((V : Int) == (X : Int)) = true then 8 else 0)) by rw [HTell.out, hTT])
          clear HTell hTT
          have S0 := HSA.out _ (Below.refl _ wq).drew
          clear c1' c2' c3'
          have HLn : Hid (ls.length ≤ 1099511627776) := Lib.hid (by have := HLl.out; omega)
          have HubW : ub < wo.heap.size := by
            have h1 := cell_lt (HF.out.2.at 0 (by rw [HCl.out]; omega))
            exact Nat.lt_of_lt_of_le h1 HB.out.size
          have HSq : Hid (∀ (w' : World), Keep (fun b => (Value.slice la ls.length lc).ownBlock = some b) wq.drew w' → (fun w' => w'.cell? ⟨ub, uo + y, none⟩ = some (.int .i64 CY) ∧ w'.cell? ⟨ub, uo + U, none⟩ = some (.int .i64 CU) ∧ w'.cell? ⟨ub, uo + V, none⟩ = some (.int .i64 CV)) w') := Lib.hid fun w' hk => by
            have hs := HSA.out _ (Below.refl _ wq).drew
            have hlt := cell_lt hs.1
            have h2 := hk.block ub hlt (fun e => by have := (Hod.out.lt e).1; omega)
            have h3 : ∀ o u, wq.drew.cell? ⟨ub, o, none⟩ = some u → w'.cell? ⟨ub, o, none⟩ = some u := fun o u h => by
              simp only [World.cell?] at h ⊢
              rw [h2]; exact h
            exact ⟨h3 _ _ hs.1, h3 _ _ hs.2.1, h3 _ _ hs.2.2⟩
          apply cut_waysZ
          · intro key
            have hTell3 := HTell2.out
            obtain ⟨e1, d1⟩ : ∃ b, ((U : Int) == (y : Int)) = b := ⟨_, rfl⟩
            obtain ⟨e2, d2⟩ : ∃ b, ((V : Int) == (y : Int)) = b := ⟨_, rfl⟩
            obtain ⟨e3, d3⟩ : ∃ b, ((U : Int) == (X : Int)) = b := ⟨_, rfl⟩
            obtain ⟨e4, d4⟩ : ∃ b, ((V : Int) == (X : Int)) = b := ⟨_, rfl⟩
            rw [d1, d2, d3, d4] at hTell3
            have HTell4 := Lib.hid hTell3
            clear hTell3
            cases e1 <;> cases e2 <;> cases e3 <;> cases e4
            case false.false.false.false =>
              have HT3 : Hid (TellV (tellM t C X y) TT 0) := Lib.hid (by simpa [TellV] using HTell4.out)
              clear HTell4
              go_wp2
              refine forget18 (Pd := fun T => Code.wp _ _ _ ⟨T, _⟩ _) _ 61 79 rfl (by simp) ?_
              intro a0 a1 a2 a3 a4 a5 a6 a7 a8 a9 a10 a11 a12 a13 a14 a15 a16 a17
              simp only [List.take_succ_cons, List.take_zero, List.drop_succ_cons, List.drop_zero, List.cons_append, List.nil_append]
              revert HT3
              generalize (0 : Int) = own
              revert own a0 a1 a2 a3 a4 a5 a6 a7 a8 a9 a10 a11 a12 a13 a14 a15 a16 a17
              exact key.out
            case true.false.false.false =>
              have HT3 : Hid (TellV (tellM t C X y) TT 1) := Lib.hid (by simpa [TellV] using HTell4.out)
              clear HTell4
              go_wp2
              refine forget18 (Pd := fun T => Code.wp _ _ _ ⟨T, _⟩ _) _ 61 79 rfl (by simp) ?_
              intro a0 a1 a2 a3 a4 a5 a6 a7 a8 a9 a10 a11 a12 a13 a14 a15 a16 a17
              simp only [List.take_succ_cons, List.take_zero, List.drop_succ_cons, List.drop_zero, List.cons_append, List.nil_append]
              revert HT3
              generalize (1 : Int) = own
              revert own a0 a1 a2 a3 a4 a5 a6 a7 a8 a9 a10 a11 a12 a13 a14 a15 a16 a17
              exact key.out
            case false.true.false.false =>
              have HT3 : Hid (TellV (tellM t C X y) TT 2) := Lib.hid (by simpa [TellV] using HTell4.out)
              clear HTell4
              go_wp2
              refine forget18 (Pd := fun T => Code.wp _ _ _ ⟨T, _⟩ _) _ 61 79 rfl (by simp) ?_
              intro a0 a1 a2 a3 a4 a5 a6 a7 a8 a9 a10 a11 a12 a13 a14 a15 a16 a17
              simp only [List.take_succ_cons, List.take_zero, List.drop_succ_cons, List.drop_zero, List.cons_append, List.nil_append]
              revert HT3
              generalize (2 : Int) = own
              revert own a0 a1 a2 a3 a4 a5 a6 a7 a8 a9 a10 a11 a12 a13 a14 a15 a16 a17
              exact key.out
            case true.true.false.false =>
              have HT3 : Hid (TellV (tellM t C X y) TT 3) := Lib.hid (by simpa [TellV] using HTell4.out)
              clear HTell4
              go_wp2
              refine forget18 (Pd := fun T => Code.wp _ _ _ ⟨T, _⟩ _) _ 61 79 rfl (by simp) ?_
              intro a0 a1 a2 a3 a4 a5 a6 a7 a8 a9 a10 a11 a12 a13 a14 a15 a16 a17
              simp only [List.take_succ_cons, List.take_zero, List.drop_succ_cons, List.drop_zero, List.cons_append, List.nil_append]
              revert HT3
              generalize (3 : Int) = own
              revert own a0 a1 a2 a3 a4 a5 a6 a7 a8 a9 a10 a11 a12 a13 a14 a15 a16 a17
              exact key.out
            case false.false.true.false =>
              have HT3 : Hid (TellV (tellM t C X y) TT 4) := Lib.hid (by simpa [TellV] using HTell4.out)
              clear HTell4
              go_wp2
              refine forget18 (Pd := fun T => Code.wp _ _ _ ⟨T, _⟩ _) _ 61 79 rfl (by simp) ?_
              intro a0 a1 a2 a3 a4 a5 a6 a7 a8 a9 a10 a11 a12 a13 a14 a15 a16 a17
              simp only [List.take_succ_cons, List.take_zero, List.drop_succ_cons, List.drop_zero, List.cons_append, List.nil_append]
              revert HT3
              generalize (4 : Int) = own
              revert own a0 a1 a2 a3 a4 a5 a6 a7 a8 a9 a10 a11 a12 a13 a14 a15 a16 a17
              exact key.out
            case true.false.true.false =>
              have HT3 : Hid (TellV (tellM t C X y) TT 5) := Lib.hid (by simpa [TellV] using HTell4.out)
              clear HTell4
              go_wp2
              refine forget18 (Pd := fun T => Code.wp _ _ _ ⟨T, _⟩ _) _ 61 79 rfl (by simp) ?_
              intro a0 a1 a2 a3 a4 a5 a6 a7 a8 a9 a10 a11 a12 a13 a14 a15 a16 a17
              simp only [List.take_succ_cons, List.take_zero, List.drop_succ_cons, List.drop_zero, List.cons_append, List.nil_append]
              revert HT3
              generalize (5 : Int) = own
              revert own a0 a1 a2 a3 a4 a5 a6 a7 a8 a9 a10 a11 a12 a13 a14 a15 a16 a17
              exact key.out
            case false.true.true.false =>
              have HT3 : Hid (TellV (tellM t C X y) TT 6) := Lib.hid (by simpa [TellV] using HTell4.out)
              clear HTell4
              go_wp2
              refine forget18 (Pd := fun T => Code.wp _ _ _ ⟨T, _⟩ _) _ 61 79 rfl (by simp) ?_
              intro a0 a1 a2 a3 a4 a5 a6 a7 a8 a9 a10 a11 a12 a13 a14 a15 a16 a17
              simp only [List.take_succ_cons, List.take_zero, List.drop_succ_cons, List.drop_zero, List.cons_append, List.nil_append]
              revert HT3
              generalize (6 : Int) = own
              revert own a0 a1 a2 a3 a4 a5 a6 a7 a8 a9 a10 a11 a12 a13 a14 a15 a16 a17
              exact key.out
            case true.true.true.false =>
              have HT3 : Hid (TellV (tellM t C X y) TT 7) := Lib.hid (by simpa [TellV] using HTell4.out)
              clear HTell4
              go_wp2
              refine forget18 (Pd := fun T => Code.wp _ _ _ ⟨T, _⟩ _) _ 61 79 rfl (by simp) ?_
              intro a0 a1 a2 a3 a4 a5 a6 a7 a8 a9 a10 a11 a12 a13 a14 a15 a16 a17
              simp only [List.take_succ_cons, List.take_zero, List.drop_succ_cons, List.drop_zero, List.cons_append, List.nil_append]
              revert HT3
              generalize (7 : Int) = own
              revert own a0 a1 a2 a3 a4 a5 a6 a7 a8 a9 a10 a11 a12 a13 a14 a15 a16 a17
              exact key.out
            case false.false.false.true =>
              have HT3 : Hid (TellV (tellM t C X y) TT 8) := Lib.hid (by simpa [TellV] using HTell4.out)
              clear HTell4
              go_wp2
              refine forget18 (Pd := fun T => Code.wp _ _ _ ⟨T, _⟩ _) _ 61 79 rfl (by simp) ?_
              intro a0 a1 a2 a3 a4 a5 a6 a7 a8 a9 a10 a11 a12 a13 a14 a15 a16 a17
              simp only [List.take_succ_cons, List.take_zero, List.drop_succ_cons, List.drop_zero, List.cons_append, List.nil_append]
              revert HT3
              generalize (8 : Int) = own
              revert own a0 a1 a2 a3 a4 a5 a6 a7 a8 a9 a10 a11 a12 a13 a14 a15 a16 a17
              exact key.out
            case true.false.false.true =>
              have HT3 : Hid (TellV (tellM t C X y) TT 9) := Lib.hid (by simpa [TellV] using HTell4.out)
              clear HTell4
              go_wp2
              refine forget18 (Pd := fun T => Code.wp _ _ _ ⟨T, _⟩ _) _ 61 79 rfl (by simp) ?_
              intro a0 a1 a2 a3 a4 a5 a6 a7 a8 a9 a10 a11 a12 a13 a14 a15 a16 a17
              simp only [List.take_succ_cons, List.take_zero, List.drop_succ_cons, List.drop_zero, List.cons_append, List.nil_append]
              revert HT3
              generalize (9 : Int) = own
              revert own a0 a1 a2 a3 a4 a5 a6 a7 a8 a9 a10 a11 a12 a13 a14 a15 a16 a17
              exact key.out
            case false.true.false.true =>
              have HT3 : Hid (TellV (tellM t C X y) TT 10) := Lib.hid (by simpa [TellV] using HTell4.out)
              clear HTell4
              go_wp2
              refine forget18 (Pd := fun T => Code.wp _ _ _ ⟨T, _⟩ _) _ 61 79 rfl (by simp) ?_
              intro a0 a1 a2 a3 a4 a5 a6 a7 a8 a9 a10 a11 a12 a13 a14 a15 a16 a17
              simp only [List.take_succ_cons, List.take_zero, List.drop_succ_cons, List.drop_zero, List.cons_append, List.nil_append]
              revert HT3
              generalize (10 : Int) = own
              revert own a0 a1 a2 a3 a4 a5 a6 a7 a8 a9 a10 a11 a12 a13 a14 a15 a16 a17
              exact key.out
            case true.true.false.true =>
              have HT3 : Hid (TellV (tellM t C X y) TT 11) := Lib.hid (by simpa [TellV] using HTell4.out)
              clear HTell4
              go_wp2
              refine forget18 (Pd := fun T => Code.wp _ _ _ ⟨T, _⟩ _) _ 61 79 rfl (by simp) ?_
              intro a0 a1 a2 a3 a4 a5 a6 a7 a8 a9 a10 a11 a12 a13 a14 a15 a16 a17
              simp only [List.take_succ_cons, List.take_zero, List.drop_succ_cons, List.drop_zero, List.cons_append, List.nil_append]
              revert HT3
              generalize (11 : Int) = own
              revert own a0 a1 a2 a3 a4 a5 a6 a7 a8 a9 a10 a11 a12 a13 a14 a15 a16 a17
              exact key.out
            case false.false.true.true =>
              have HT3 : Hid (TellV (tellM t C X y) TT 12) := Lib.hid (by simpa [TellV] using HTell4.out)
              clear HTell4
              go_wp2
              refine forget18 (Pd := fun T => Code.wp _ _ _ ⟨T, _⟩ _) _ 61 79 rfl (by simp) ?_
              intro a0 a1 a2 a3 a4 a5 a6 a7 a8 a9 a10 a11 a12 a13 a14 a15 a16 a17
              simp only [List.take_succ_cons, List.take_zero, List.drop_succ_cons, List.drop_zero, List.cons_append, List.nil_append]
              revert HT3
              generalize (12 : Int) = own
              revert own a0 a1 a2 a3 a4 a5 a6 a7 a8 a9 a10 a11 a12 a13 a14 a15 a16 a17
              exact key.out
            case true.false.true.true =>
              have HT3 : Hid (TellV (tellM t C X y) TT 13) := Lib.hid (by simpa [TellV] using HTell4.out)
              clear HTell4
              go_wp2
              refine forget18 (Pd := fun T => Code.wp _ _ _ ⟨T, _⟩ _) _ 61 79 rfl (by simp) ?_
              intro a0 a1 a2 a3 a4 a5 a6 a7 a8 a9 a10 a11 a12 a13 a14 a15 a16 a17
              simp only [List.take_succ_cons, List.take_zero, List.drop_succ_cons, List.drop_zero, List.cons_append, List.nil_append]
              revert HT3
              generalize (13 : Int) = own
              revert own a0 a1 a2 a3 a4 a5 a6 a7 a8 a9 a10 a11 a12 a13 a14 a15 a16 a17
              exact key.out
            case false.true.true.true =>
              have HT3 : Hid (TellV (tellM t C X y) TT 14) := Lib.hid (by simpa [TellV] using HTell4.out)
              clear HTell4
              go_wp2
              refine forget18 (Pd := fun T => Code.wp _ _ _ ⟨T, _⟩ _) _ 61 79 rfl (by simp) ?_
              intro a0 a1 a2 a3 a4 a5 a6 a7 a8 a9 a10 a11 a12 a13 a14 a15 a16 a17
              simp only [List.take_succ_cons, List.take_zero, List.drop_succ_cons, List.drop_zero, List.cons_append, List.nil_append]
              revert HT3
              generalize (14 : Int) = own
              revert own a0 a1 a2 a3 a4 a5 a6 a7 a8 a9 a10 a11 a12 a13 a14 a15 a16 a17
              exact key.out
            case true.true.true.true =>
              have HT3 : Hid (TellV (tellM t C X y) TT 15) := Lib.hid (by simpa [TellV] using HTell4.out)
              clear HTell4
              go_wp2
              refine forget18 (Pd := fun T => Code.wp _ _ _ ⟨T, _⟩ _) _ 61 79 rfl (by simp) ?_
              intro a0 a1 a2 a3 a4 a5 a6 a7 a8 a9 a10 a11 a12 a13 a14 a15 a16 a17
              simp only [List.take_succ_cons, List.take_zero, List.drop_succ_cons, List.drop_zero, List.cons_append, List.nil_append]
              revert HT3
              generalize (15 : Int) = own
              revert own a0 a1 a2 a3 a4 a5 a6 a7 a8 a9 a10 a11 a12 a13 a14 a15 a16 a17
              exact key.out
          intro a0 a1 a2 a3 a4 a5 a6 a7 a8 a9 a10 a11 a12 a13 a14 a15 a16 a17 own HT3
          have how1 := HT3.out.2.1
          have how2 := HT3.out.2.2
          have w6 : IntKind.i64.wrap (TT + own) = TT + own := IntWalk.i64_in _ (by omega)
          have S1 := HSA.out (wq.alloc (.cells #[.int .i64 (TT + own)] 2)).drew ((Below.refl _ wq).alloc (Nat.le_refl _) _).drew
          clear HTell2
          go_region_held3 (fun w' => w'.cell? ⟨ub, uo + y, none⟩ = some (.int .i64 CY) ∧ w'.cell? ⟨ub, uo + U, none⟩ = some (.int .i64 CU) ∧ w'.cell? ⟨ub, uo + V, none⟩ = some (.int .i64 CV)) (first | go_keep | exact HSA.out _ ((Below.refl _ wq).alloc (Nat.le_refl _) _).drew | exact Hq) (first
            | (refine step_app_int wo.heap.size wq.drew _ ls (TT + own) (.tmp 79) (.tmp 99) rfl rfl rfl Hod.out rfl HLn.out HSd.out ?_; intro a' c' w' hown' hkeep hg'; have Hq := HSq.out _ hkeep; have Hk := Lib.hid hkeep; have Ho' := Lib.hid hown'; clear hkeep hown' hg'))
          all_goals
            go_wp2
            go_roundw
            case rel => exact ⟨y + 1, ls ++ [TT + own], some ⟨a', 0, none⟩, c', by omega, by go_num, by simp, Lib.hid (by simp [HLl.out]), Lib.hid (by rw [HSn.out, HT3.out.1, HL.out]), Lib.hid (Hod.out.frame Hbd.out (Nat.le_refl _) HSd.out Hk.out), Lib.hid (by simpa using Ho'.out)⟩
            case measure => simp [intOf]; omega
        · obtain rfl : n = y := by omega
          have hcb : wo.heap.size ≤ wi.heap.size := Hb.out.size
          have hBc : Below wi.heap.size wi (wi.alloc (.cells (madeCells #[.int .i64 0] n) 2)) := (Below.refl _ _).alloc (Nat.le_refl _) _
          have hKc : Blk (wi.alloc (.cells (madeCells #[.int .i64 0] n) 2)) wi.heap.size 2 ((List.replicate n (0 : Int)).map (Value.int .i64) ++ []) := by
            have := Blk.made wi (.int .i64 0) n 2
            simpa using this
          have HBc := Lib.hid hBc; have HKc := Lib.hid hKc
          clear hBc hKc
          go_wp2
          go_loopw [16, 17] (fun yy _ wr => ∃ (y : Nat) (Cn : List Int), y ≤ n ∧ yy = .int .i64 y ∧ Hid (Blk wr wi.heap.size 2 (Cn.map (Value.int .i64) ++ [])) ∧ Hid (Cn.length = n) ∧ Hid (∀ j : Nat, j < n → nth Cn j = if j < y then cntM n t X j else 0) ∧ Hid (Below wi.heap.size wi wr)) (fun yy _ _ => n - (intOf yy).toNat)
          case atStart => exact ⟨0, List.replicate n 0, Nat.zero_le _, rfl, HKc, Lib.hid (by simp), Lib.hid (fun j hj => by rw [if_neg (by omega), nth_nat _ _ (by simpa using hj)]; simp), HBc⟩
          case round =>
            clear HBc HKc
            obtain ⟨y, Cn, hy, rfl, HKc, HCn, HCv, HBc⟩ := hrel
            obtain ⟨wp, rfl⟩ : ∃ wp : World, wp = wr := ⟨_, rfl⟩
            by_cases hly : y < n
            · go_wp2
              go_loopw [17] (fun zz wr => ∃ (z : Nat) (Cn : List Int), z ≤ n ∧ zz = .int .i64 z ∧ Hid (Blk wr wi.heap.size 2 (Cn.map (Value.int .i64) ++ [])) ∧ Hid (Cn.length = n) ∧ Hid (∀ j : Nat, j < n → nth Cn j = if j < y then cntM n t X j else if j = y then ((iota z).countP (fun q => decide (val2 t y q = X)) : Nat) else 0) ∧ Hid (Below wi.heap.size wi wr)) (fun zz _ => n - (intOf zz).toNat)
              case atStart => exact ⟨0, Cn, Nat.zero_le _, rfl, HKc, HCn, Lib.hid (fun j hj => by rw [HCv.out j hj]; by_cases e : j < y <;> simp [e, iota]), HBc⟩
              case round =>
                clear HKc HCn HCv HBc
                obtain ⟨z, Cn, hz, rfl, HKc, HCn, HCv, HBc⟩ := hrel
                obtain ⟨wq, rfl⟩ : ∃ wq : World, wq = wr := ⟨_, rfl⟩
                by_cases hlz : z < n
                · obtain ⟨U, hU, hUn⟩ := HV.out k y z hlt hly hlz
                  have tF := HF.out.1.below (bb HB.out (bb Hb.out HBc.out))
                  have q1 := tF.tab k hlt
                  have q2 := (tF.at' k hlt).row y hly
                  have q3 := (tF.at' k hlt).val y z hly hlz
                  have g1 := HKc.out.at' y (by rw [HCn.out]; exact hly)
                  have g2 := HKc.out.frozen y
                  have hcy := HCv.out y hly
                  rw [if_neg (by omega), if_pos rfl] at hcy
                  have hQle : (iota z).countP (fun q => decide (val2 t y q = X)) ≤ 12 := by
                    have := List.countP_le_length (p := fun q => decide (val2 t y q = X)) (l := iota z)
                    simp at this; omega
                  obtain ⟨Q, hQ⟩ : ∃ Q, (iota z).countP (fun q => decide (val2 t y q = X)) = Q := ⟨_, rfl⟩
                  have HCQ := Lib.hid hQ
                  rw [hQ] at hcy hQle
                  rw [hcy] at g1
                  rw [hU] at q3
                  have HCnt : Hid ((iota (z + 1)).countP (fun q => decide (val2 t y q = X)) = Q + if (U : Int) = X then 1 else 0) := Lib.hid (by
                    rw [iota_succ, List.countP_append, hQ, List.countP_cons, List.countP_nil, ← HT.out, hU]
                    simp)
                  have wQ : IntKind.i64.wrap ((Q : Int) + 1) = (Q : Int) + 1 := IntWalk.i64_in _ (by omega)
                  clear tF hU hQ hcy
                  obtain ⟨e1, d1⟩ : ∃ b, ((U : Int) == (X : Int)) = b := ⟨_, rfl⟩
                  cases e1
                  case true =>
                    have hUX : (U : Int) = X := by simpa using d1
                    have HCnt2 := HCnt.out
                    rw [if_pos hUX] at HCnt2
                    have HCnt3 := Lib.hid HCnt2
                    have HKp := Lib.hid (HKc.out.put' y (by rw [HCn.out]; exact hly) ((Q : Int) + 1))
                    have HBp := Lib.hid (HBc.out.setCell (p := ⟨wi.heap.size, y, none⟩) (Nat.le_refl _) (.int .i64 ((Q : Int) + 1)))
                    have HVp : Hid (∀ j : Nat, j < n → nth (Cn.set y ((Q : Int) + 1)) j = if j < y then cntM n t X j else if j = y then ((iota (z + 1)).countP (fun q => decide (val2 t y q = X)) : Nat) else 0) := Lib.hid (fun j hj => by
                      have h1 := nth_set Cn (y : Int) (j : Int) ((Q : Int) + 1) (by omega) (by rw [HCn.out]; omega) (by omega)
                      rw [Int.toNat_natCast] at h1
                      rw [h1, HCnt3.out]
                      by_cases e : j = y
                      · subst e; rw [if_pos rfl, if_neg (by omega), if_pos rfl]; omega
                      · rw [if_neg (by omega), HCv.out j hj, if_neg e, if_neg e])
                    clear hUX HCnt2 HCnt HCv
                    go_wp2
                    go_roundw
                    case rel => exact ⟨z + 1, Cn.set y ((Q : Int) + 1), by omega, by go_num, HKp, Lib.hid (by simpa using HCn.out), HVp, HBp⟩
                    case measure => simp [intOf]; omega
                  case false =>
                    have hUX : ¬ (U : Int) = X := by simpa using d1
                    have HCnt2 := HCnt.out
                    rw [if_neg hUX, Nat.add_zero] at HCnt2
                    have HCnt3 := Lib.hid HCnt2
                    have HVp : Hid (∀ j : Nat, j < n → nth Cn j = if j < y then cntM n t X j else if j = y then ((iota (z + 1)).countP (fun q => decide (val2 t y q = X)) : Nat) else 0) := Lib.hid (fun j hj => by
                      rw [HCv.out j hj, HCnt3.out]
                      by_cases e : j = y
                      · subst e; rw [if_neg (by omega), if_pos rfl, if_neg (by omega), if_pos rfl]; rw [← HCQ.out]; simp
                      · rw [if_neg e, if_neg e])
                    clear hUX HCnt2 HCnt HCv
                    go_wp2
                    go_roundw
                    case rel => exact ⟨z + 1, Cn, by omega, by go_num, HKc, HCn, HVp, HBc⟩
                    case measure => simp [intOf]; omega
                · obtain rfl : n = z := by omega
                  go_wp2
                  go_roundw
                  case rel =>
                    refine ⟨y + 1, Cn, by omega, by go_num, HKc, HCn, Lib.hid (fun j hj => ?_), HBc⟩
                    rw [HCv.out j hj]
                    by_cases e : j < y
                    · rw [if_pos e, if_pos (by omega)]
                    · rw [if_neg e]
                      by_cases e2 : j = y
                      · subst e2; rw [if_pos rfl, if_pos (by omega)]; rfl
                      · rw [if_neg e2, if_neg (by omega)]
                  case measure => simp [intOf]; omega
            · obtain rfl : n = y := by omega
              have HCv2 : Hid (∀ j : Nat, j < n → ∃ Q : Nat, nth Cn j = Q ∧ Q ≤ 12 ∧ cntM n t X j = Q) := Lib.hid (fun j hj => by
                have h1 := HCv.out j hj
                rw [if_pos hj] at h1
                refine ⟨(iota n).countP fun z => decide (val2 t j z = X), h1, ?_, rfl⟩
                have := List.countP_le_length (p := fun z => decide (val2 t j z = X)) (l := iota n)
                simp at this; omega)
              have HNe : Hid (wi.heap.size < wp.heap.size ∧ (Value.slice la ls.length lc).ownBlock ≠ some wi.heap.size) := Lib.hid ⟨HKc.out.lt, fun e => by have := (Ho.out.lt e).2; omega⟩
              have Ho2 := Lib.hid (Ho.out.under HBc.out)
              have Hb2 := Lib.hid (bb Hb.out HBc.out)
              have HL2 : Hid (ls = (iota n).map (tellM t C X) ++ (iota 0).map (tellC n t C X)) := Lib.hid (by rw [HL.out]; simp [iota])
              have HLl2 : Hid (ls.length = n + 0) := Lib.hid (by rw [HLl.out]; rfl)
              clear HCv Ho Hb HL HLl
              go_wp2
              go_loopw [10, 18] (fun l yy wr => ∃ (y : Nat) (ls : List Int) (la : Option Addr) (lc : Nat), y ≤ n ∧ yy = .int .i64 y ∧ l = .slice la ls.length lc ∧ Hid (ls.length = n + y) ∧ Hid (ls = (iota n).map (tellM t C X) ++ (iota y).map (tellC n t C X)) ∧ Hid (Below wo.heap.size wo wr) ∧ Hid (Own wo.heap.size wr (.slice la ls.length lc) ls) ∧ Hid (Blk wr wi.heap.size 2 (Cn.map (Value.int .i64) ++ [])) ∧ Hid (wi.heap.size < wr.heap.size ∧ (Value.slice la ls.length lc).ownBlock ≠ some wi.heap.size)) (fun _ yy _ => n - (intOf yy).toNat)
              case atStart => exact ⟨0, ls, la, lc, Nat.zero_le _, rfl, rfl, HLl2, HL2, Hb2, Ho2, HKc, HNe⟩
              case round =>
                clear HKc HNe Ho2 Hb2 HL2 HLl2 HBc
                obtain ⟨y, ls, la, lc, hy, rfl, rfl, HLl, HL, Hb, Ho, HKc, HNe⟩ := hrel
                obtain ⟨wq, rfl⟩ : ∃ wq : World, wq = wr := ⟨_, rfl⟩
                by_cases hly : y < n
                · obtain ⟨CY, hCY, hCY6⟩ := HR.out y hly
                  obtain ⟨Q, hQ, hQ12, hQc⟩ := HCv2.out y hly
                  have HTell : Hid (tellC n t C X y = 1099511627776 + (CY : Int) * 64 + Q) := Lib.hid (by unfold tellC; rw [hCY, hQc])
                  have HSn : Hid ((iota (y + 1)).map (tellC n t C X) = (iota y).map (tellC n t C X) ++ [tellC n t C X y]) := Lib.hid (by rw [iota_succ]; simp)
                  have tU := HF.out.2.below (bb HB.out Hb.out)
                  have c1 := tU.at y (by rw [HCl.out]; exact hly)
                  rw [hCY] at c1
                  have c2 := HKc.out.at' y (by rw [HCn.out]; exact hly)
                  rw [hQ] at c2
                  have HubW : ub < wo.heap.size := by
                    have h1 := cell_lt (HF.out.2.at 0 (by rw [HCl.out]; omega))
                    exact Nat.lt_of_lt_of_le h1 HB.out.size
                  have HSA : Hid (∀ w', Below wq.heap.size wq w' → (fun w' => w'.cell? ⟨ub, uo + y, none⟩ = some (.int .i64 CY) ∧ w'.cell? ⟨wi.heap.size, y, none⟩ = some (.int .i64 Q)) w') := Lib.hid fun w' hb => ⟨cell_under hb c1, cell_under hb c2⟩
                  have HSq : Hid (∀ (w' : World), Keep (fun b => (Value.slice la ls.length lc).ownBlock = some b) wq.drew w' → (fun w' => w'.cell? ⟨ub, uo + y, none⟩ = some (.int .i64 CY) ∧ w'.cell? ⟨wi.heap.size, y, none⟩ = some (.int .i64 Q)) w') := Lib.hid fun w' hk => by
                    have hs := HSA.out _ (Below.refl _ wq).drew
                    have h2 := hk.block ub (cell_lt hs.1) (fun e => by have := (Ho.out.lt e).1; omega)
                    have h2' := hk.block wi.heap.size (cell_lt hs.2) HNe.out.2
                    refine ⟨?_, ?_⟩
                    · have h := hs.1; simp only [World.cell?] at h ⊢; rw [h2]; exact h
                    · have h := hs.2; simp only [World.cell?] at h ⊢; rw [h2']; exact h
                  have HKq : Hid (∀ (w' : World), Keep (fun b => (Value.slice la ls.length lc).ownBlock = some b) wq.drew w' → Blk w' wi.heap.size 2 (Cn.map (Value.int .i64) ++ [])) := Lib.hid fun w' hk => HKc.out.drew.of_block (hk.block _ HKc.out.lt HNe.out.2)
                  have Hod := Lib.hid (Ho.out.under (Below.refl _ wq).drew)
                  have Hbd := Lib.hid (bb Hb.out (Below.refl _ wq).drew)
                  have HSd := Lib.hid (bb Hb.out (Below.refl _ wq).drew).size
                  have HLn : Hid (ls.length ≤ 1099511627776) := Lib.hid (by have := HLl.out; omega)
                  have w1 : IntKind.i64.wrap ((CY : Int) * 64) = (CY : Int) * 64 := IntWalk.i64_in _ (by omega)
                  have w2 : IntKind.i64.wrap (1099511627776 + (CY : Int) * 64) = 1099511627776 + (CY : Int) * 64 := IntWalk.i64_in _ (by omega)
                  have w3 : IntKind.i64.wrap (1099511627776 + (CY : Int) * 64 + Q) = 1099511627776 + (CY : Int) * 64 + Q := IntWalk.i64_in _ (by omega)
                  have S0 := HSA.out _ (Below.refl _ wq).drew
                  have S1 := HSA.out (wq.alloc (.cells #[.int .i64 (1099511627776 + (CY : Int) * 64 + Q)] 2)).drew ((Below.refl _ wq).alloc (Nat.le_refl _) _).drew
                  clear tU hCY hQ hQc c1 c2
                  go_wp2
                  go_region_held3 (fun w' => w'.cell? ⟨ub, uo + y, none⟩ = some (.int .i64 CY) ∧ w'.cell? ⟨wi.heap.size, y, none⟩ = some (.int .i64 Q)) (first | go_keep | exact HSA.out _ ((Below.refl _ wq).alloc (Nat.le_refl _) _).drew | exact Hq) (first
                    | (refine step_app_int wo.heap.size wq.drew _ ls (1099511627776 + (CY : Int) * 64 + Q) (.tmp 136) (.tmp 148) rfl rfl rfl Hod.out rfl HLn.out HSd.out ?_; intro a' c' w' hown' hkeep hg'; have Hq := HSq.out _ hkeep; have Hk := Lib.hid hkeep; have Ho' := Lib.hid hown'; have Hg := Lib.hid (show (Value.slice la ls.length lc).ownBlock = some a' ∨ wq.drew.heap.size ≤ a' from hg'); clear hkeep hown' hg'))
                  all_goals
                    go_wp2
                    go_roundw
                    case rel => exact ⟨y + 1, ls ++ [1099511627776 + (CY : Int) * 64 + Q], some ⟨a', 0, none⟩, c', by omega, by go_num, by simp, Lib.hid (by simp [HLl.out]; omega), Lib.hid (by rw [HSn.out, HTell.out, HL.out, List.append_assoc]), Lib.hid (Hod.out.frame Hbd.out (Nat.le_refl _) HSd.out Hk.out), Lib.hid (by simpa using Ho'.out), Lib.hid (HKq.out _ Hk.out), Lib.hid ⟨Nat.lt_of_lt_of_le HNe.out.1 Hk.out.size, fun e => by
                      have e2 : a' = wi.heap.size := by simpa [Value.ownBlock] using e
                      rcases Hg.out with h | h
                      · exact HNe.out.2 (by rw [h, e2])
                      · have h3 := HNe.out.1
                        have h4 : wq.heap.size ≤ a' := h
                        omega⟩⟩
                    case measure => simp [intOf]; omega
                · obtain rfl : n = y := by omega
                  rcases Ho.out.open with ⟨_, h0⟩ | ⟨g, cs, hv, hgB, hgb, hgm⟩
                  · exfalso; have := HLl.out; rw [h0] at this; simp at this; omega
                  injection hv with f1 f2 f3
                  subst f1 f3
                  clear f2
                  obtain ⟨L, hL⟩ : ∃ L, ls.length = L := ⟨_, rfl⟩
                  have hLn : L = n + n := by rw [← hL, HLl.out]
                  have HLL := Lib.hid hL
                  have HSrt : Hid (∀ S : List Int, S.Perm ls → S.Pairwise (· ≤ ·) → S = srt (rawM n t C X)) := Lib.hid fun S hp hs => by
                    refine srt_is ?_ hs
                    rw [HL.out] at hp
                    exact hp
                  have hlcap : L + cs.length ≤ 9223372036854775807 := by rw [hL] at hgm; unfold maxLen at hgm; omega
                  have hL24 : L ≤ 24 := by omega
                  have hL2 : 2 ≤ L := by omega
                  have HGB := Lib.hid hgB; have HGb := Lib.hid hgb; have HGm := Lib.hid hgm
                  have HBq := Hb
                  rw [hL]
                  clear Ho HKc HNe hgB hgb hgm HLl HL hL HCv2 HCn hLn Hb
                  go_wp2
                  go_loopw [19, 20, 21] (fun ii _ _ wr => ∃ (i : Nat) (S : List Int), 1 ≤ i ∧ i ≤ L ∧ ii = .int .i64 i ∧ Hid (S.Perm ls) ∧ Hid (SorP i S) ∧ Hid (Blk wr g 2 (S.map (Value.int .i64) ++ cs)) ∧ Hid (Keep (fun b => b = g) wq wr)) (fun ii _ _ _ => L - (intOf ii).toNat)
                  case atStart => exact ⟨1, ls, Nat.le_refl _, by omega, rfl, Lib.hid (List.Perm.refl _), Lib.hid (fun a b h1 h2 => by omega), HGb, Lib.hid (Keep.refl _ _)⟩
                  case round =>
                    clear HGb
                    obtain ⟨i, S, hi1, hi2, rfl, HP, HS, HGb, HGk⟩ := hrel
                    obtain ⟨wx, rfl⟩ : ∃ wx : World, wx = wr := ⟨_, rfl⟩
                    by_cases hlti : i < L
                    · go_wp2
                      go_loopw [20, 21] (fun jj _ wr => ∃ (j : Nat) (T : List Int), j ≤ i ∧ jj = .int .i64 j ∧ Hid (T.Perm ls) ∧ Hid (InsP i j T) ∧ Hid (Blk wr g 2 (T.map (Value.int .i64) ++ cs)) ∧ Hid (Keep (fun b => b = g) wq wr)) (fun jj _ _ => (intOf jj).toNat)
                      case atStart => exact ⟨i, S, Nat.le_refl _, rfl, HP, Lib.hid (InsP.start HS.out), HGb, HGk⟩
                      case round =>
                        clear HP HS HGb HGk
                        obtain ⟨j, T, hj, rfl, HP, HS, HGb, HGk⟩ := hrel
                        obtain ⟨wz, rfl⟩ : ∃ wz : World, wz = wr := ⟨_, rfl⟩
                        have HTl : Hid (T.length = L) := Lib.hid (by rw [← HLL.out]; exact HP.out.length_eq)
                        by_cases hj0 : 0 < j
                        · obtain ⟨m, rfl⟩ : ∃ m, j = m + 1 := ⟨j - 1, by omega⟩
                          have h1 := HGb.out.at' (m + 1) (by rw [HTl.out]; omega)
                          have h2 := HGb.out.at' m (by rw [HTl.out]; omega)
                          have f1 := HGb.out.frozen (m + 1)
                          have f2 := HGb.out.frozen m
                          have em : (((m + 1 : Nat) : Int) - 1) = (m : Int) := by omega
                          have em2 : (m : Int) + 1 - 1 = (m : Int) := by omega
                          obtain ⟨P, hP⟩ : ∃ P, nth T ((m + 1 : Nat) : Int) = P := ⟨_, rfl⟩
                          obtain ⟨R, hR⟩ : ∃ R, nth T (m : Int) = R := ⟨_, rfl⟩
                          rw [hP] at h1; rw [hR] at h2
                          have HPR := Lib.hid (And.intro hP hR)
                          clear hP hR
                          by_cases hle : P < R
                          · have HLE := Lib.hid hle
                            have hd : decide (P < R) = true := by simpa using hle
                            clear hle
                            go_wp2
                            go_quiet (fail)
                            rename_i nq
                            have hbq : Below wz.heap.size wz (wz.drewN nq) := below_drewN (Below.refl _ _) nq
                            generalize wz.drewN nq = wv at hbq ⊢
                            have HBv := Lib.hid (HGb.out.under hbq)
                            have HKv := Lib.hid (HGk.out.under hbq)
                            clear h1 h2 f1 f2 hbq
                            have h1 := HBv.out.at' (m + 1) (by rw [HTl.out]; omega)
                            have h2 := HBv.out.at' m (by rw [HTl.out]; omega)
                            have f1 := HBv.out.frozen (m + 1)
                            have f2 := (HBv.out.put' (m + 1) (by rw [HTl.out]; omega) R).frozen m
                            rw [HPR.out.1] at h1; rw [HPR.out.2] at h2
                            have HB2 := Lib.hid ((HBv.out.put' (m + 1) (by rw [HTl.out]; omega) R).put' m (by simp; rw [HTl.out]; omega) P)
                            have HK2 := Lib.hid ((HKv.out.setCell (p := ⟨g, m + 1, none⟩) (.inl rfl) (.int .i64 R)).setCell (p := ⟨g, m, none⟩) (.inl rfl) (.int .i64 P))
                            have HSw : Hid ((T.set (m + 1) R).set m P = swp T (m + 1)) := Lib.hid (by
                              unfold swp
                              rw [em, HPR.out.1, HPR.out.2]; try simp)
                            go_wp2
                            go_roundw
                            case rel => exact ⟨m, (T.set (m + 1) R).set m P, by omega, by go_num, Lib.hid (by rw [HSw.out]; exact (swp_perm (by omega) (by rw [HTl.out]; omega)).trans HP.out), Lib.hid (by
                              rw [HSw.out]
                              have := HS.out.step (by omega) (by rw [HTl.out]; omega) (by omega) (by rw [em, HPR.out.1, HPR.out.2]; exact HLE.out)
                              exact this), HB2, HK2⟩
                            case measure => simp [intOf]
                          · have HLE := Lib.hid hle
                            have hd : decide (P < R) = false := by simpa using hle
                            clear hle
                            go_wp2
                            go_quiet (fail)
                            rename_i nq
                            have hbq : Below wz.heap.size wz (wz.drewN nq) := below_drewN (Below.refl _ _) nq
                            generalize wz.drewN nq = wv at hbq ⊢
                            have HBv := Lib.hid (HGb.out.under hbq)
                            have HKv := Lib.hid (HGk.out.under hbq)
                            clear h1 h2 f1 f2 hbq
                            go_wp2
                            go_roundw
                            case rel => exact ⟨i + 1, T, by omega, by omega, by go_num, HP, Lib.hid (HS.out.done (fun _ => by rw [em, HPR.out.1, HPR.out.2]; have := HLE.out; omega)), HBv, HKv⟩
                            case measure => simp [intOf]; omega
                        · obtain rfl : j = 0 := by omega
                          go_wp2
                          go_quiet (fail)
                          rename_i nq
                          have hbq : Below wz.heap.size wz (wz.drewN nq) := below_drewN (Below.refl _ _) nq
                          generalize wz.drewN nq = wv at hbq ⊢
                          have HBv := Lib.hid (HGb.out.under hbq)
                          have HKv := Lib.hid (HGk.out.under hbq)
                          clear hbq
                          go_wp2
                          go_roundw
                          case rel => exact ⟨i + 1, T, by omega, by omega, by go_num, HP, Lib.hid (HS.out.done (fun h => by omega)), HBv, HKv⟩
                          case measure => simp [intOf]; omega
                    · obtain rfl : L = i := by omega
                      have hSl : S.length = L := by rw [← HLL.out]; exact HP.out.length_eq
                      have hSs := HSrt.out S HP.out (SorP.pairwise (by rw [hSl]; exact HS.out))
                      have hown : Own wo.heap.size wx (.slice (some ⟨g, 0, none⟩) L (L + cs.length)) S := Own.shut HGb.out HGB.out (by rw [hSl, ← HLL.out]; exact HGm.out) hSl.symm (by rw [hSl])
                      have HSl := Lib.hid hSl; have HSs := Lib.hid hSs; have HOw := Lib.hid hown
                      have HBx := Lib.hid (show Below wo.heap.size wo wx from HBq.out.trans (HGk.out.below fun b hb => ⟨by have := HBq.out.size; omega, fun e => by have := HGB.out; omega⟩))
                      have HOx := Lib.hid (HO.out.under HBx.out)
                      have HBw := Lib.hid (bb HB.out HBx.out)
                      have HIx := Lib.hid hown.ints
                      clear hSl hSs hown
                      go_wp2_with (at_builtin; refine wpList_app_intsM w.heap.size wx _ _ xs S _ _ rfl rfl rfl HOx.out rfl HIx.out (by rw [HSl.out]; omega) HBw.out.size ?_; intro a' c' w' h1 h2; have Hn := Lib.hid h1; have Hk := Lib.hid h2; rw [HSl.out]; rw [HSl.out] at h1; have Hn2 := Lib.hid h1; clear h1 h2)
                      go_roundw
                      case rel =>
                        refine ⟨k + 1, xs ++ S, a', c', by omega, by go_num, by simp [HSl.out], by simp [HSl.out]; omega, Lib.hid ?_, Lib.hid (HOx.out.frame HBw.out (Nat.le_refl _) HBw.out.size Hk.out), Lib.hid (by simpa [HSl.out] using Hn2.out)⟩
                        rw [List.take_succ_eq_append_getElem (by rw [← HKF.out]; exact hlt), List.flatMap_append, HX.out, HSs.out]
                        have e : F[k]'(by rw [← HKF.out]; exact hlt) = t := by rw [← HT.out]; simp [List.getD, show k < F.length by rw [← HKF.out]; exact hlt]
                        rw [e]; simp
                      case measure => simp [intOf]; omega
    · obtain rfl : K = k := by omega
      have hfin : xs = markM n F C X := by
        rw [HX.out]
        unfold markM
        rw [List.take_of_length_le (by rw [← HKF.out]; exact Nat.le_refl _)]
      have HFin := Lib.hid hfin; clear hfin
      go_wp2
      go_ret
      exact ⟨_, rfl, by rw [← HFin.out]; exact HO.out, HB.out⟩
end Go.Proofs.Ytgmhnjccgldddaa

namespace Go.Proofs.Ytgmhnjccgldddaa
set_option linter.unusedVariables false
set_option linter.unusedSimpArgs false
open Go.RowKit

theorem below_of_drewN {w wr : World} (h : ∃ n, wr = w.drewN n) : Below w.heap.size w wr := by
  obtain ⟨n, rfl⟩ := h; exact below_drewN (Below.refl _ _) n

set_option maxHeartbeats 400000 in
theorem c_isNaN (x : Int) (w : World) : Calls Try.prog 112 #[.int .i64 x] w (fun e w' => e = .returned (.bool false) ∧ w = w') := by
  have hx : (x != x) = false := by simp
  go_enter Try.func112, Try.ntmps112
  go_wp2
  go_ret
  exact ⟨rfl, rfl⟩
def cmpI (x y : Int) : Int := if x < y then -1 else if y < x then 1 else 0
theorem cmpI_zero {x y : Int} : cmpI x y = 0 ↔ x = y := by
  unfold cmpI; constructor
  · intro h; split at h
    · omega
    · split at h <;> omega
  · rintro rfl; simp
set_option maxHeartbeats 400000 in
theorem c_cmpCompare (x y : Int) (w : World) : Calls Try.prog 106 #[.int .i64 x, .int .i64 y] w (fun e w' => e = .returned (.int .i64 (cmpI x y)) ∧ w = w') := by
  unfold cmpI
  rcases Int.lt_trichotomy x y with h | h | h
  · have h2 : ¬ (y < x) := by omega
    go_enter Try.func106, Try.ntmps106
    go_wp2_with (go_at_call 112; refine (c_isNaN _ _).mono ?_; rintro e w' ⟨rfl, rfl⟩)
    go_ret
    exact ⟨by simp [h], rfl⟩
  · subst h
    go_enter Try.func106, Try.ntmps106
    go_wp2_with (go_at_call 112; refine (c_isNaN _ _).mono ?_; rintro e w' ⟨rfl, rfl⟩)
    go_ret
    exact ⟨by simp, rfl⟩
  · have h2 : ¬ (x < y) := by omega
    go_enter Try.func106, Try.ntmps106
    go_wp2_with (go_at_call 112; refine (c_isNaN _ _).mono ?_; rintro e w' ⟨rfl, rfl⟩)
    go_ret
    exact ⟨by simp [h, h2], rfl⟩

set_option maxHeartbeats 800000 in
theorem c_slCompare (v1 v2 : Value) (xs ys : List Int) (w : World) (hx : Ints w v1 xs) (hy : Ints w v2 ys) :
    Calls Try.prog 90 #[v1, v2] w (QVal w (.int .i64 (cmpB xs ys))) := by
  obtain ⟨a, c, rfl, hc, hm⟩ := hx.shape
  obtain ⟨a2, c2, rfl, hc2, hm2⟩ := hy.shape
  go_enter Try.func90, Try.ntmps90
  go_wp2
  go_loopw [11, 5, 6, 7, 8] (fun i _ _ _ _ wr => ∃ k : Nat, k ≤ xs.length ∧ k ≤ ys.length ∧ i = .int .i64 k ∧ Hid (∃ n, wr = w.drewN n) ∧ Hid (xs.take k = ys.take k)) (fun i _ _ _ _ _ => xs.length - (intOf i).toNat)
  case atStart => exact ⟨0, Nat.zero_le _, Nat.zero_le _, rfl, Lib.hid ⟨0, rfl⟩, Lib.hid rfl⟩
  case round =>
    obtain ⟨k, hk, hk2, rfl, HN, HE⟩ := hrel
    obtain ⟨wo, rfl⟩ : ∃ wo : World, wo = wr := ⟨_, rfl⟩
    have hb := below_of_drewN HN.out
    by_cases hlt : k < xs.length
    · obtain ⟨b, o, rfl, hcell⟩ := (hx.below hb).get k hlt
      by_cases hlt2 : k < ys.length
      · obtain ⟨b2, o2, rfl, hcell2⟩ := (hy.below hb).get k hlt2
        clear hb
        have hk0 : (0 : Int) ≤ k := by omega
        have hk1 : (k : Int) < xs.length := by omega
        have hkk : (k : Int) < ys.length := by omega
        by_cases he : nth xs k = nth ys k
        · have hz : cmpI (nth xs k) (nth ys k) = 0 := cmpI_zero.2 he
          have hz2 : (cmpI (nth xs k) (nth ys k) != 0) = false := by simp [hz]
          have HV := Lib.hid he; clear he hz
          go_wp2_with (go_at_call 106; refine (c_cmpCompare _ _ _).mono ?_; rintro e w' ⟨rfl, rfl⟩)
          go_roundw
          case rel => exact ⟨k + 1, by omega, by omega, by go_num, HN, Lib.hid (take_succ_eq hlt hlt2 HE.out HV.out)⟩
          case measure => simp [intOf]; omega
        · have hz2 : (cmpI (nth xs k) (nth ys k) != 0) = true := by simp [cmpI_zero, he]
          have HR : Hid (cmpI (nth xs k) (nth ys k) = cmpB xs ys) := by
            show _ = _
            rw [cmpB_at hlt hlt2 HE.out he]
            unfold cmpI
            split
            · rfl
            · rw [if_pos (by omega)]
          clear he
          go_wp2_with (go_at_call 106; refine (c_cmpCompare _ _ _).mono ?_; rintro e w' ⟨rfl, rfl⟩)
          go_ret
          exact ⟨ret_int HR.out, HN.out⟩
      · obtain rfl : k = ys.length := by omega
        clear hb
        have HR : Hid (1 = cmpB xs ys) := by
          show _ = _
          have := HE.out
          rw [List.take_length] at this
          rw [cmpB_pre (this.trans (List.take_of_length_le (by omega)).symm), if_neg (by omega), if_pos hlt]
        go_wp2
        go_ret
        exact ⟨ret_int HR.out, HN.out⟩
    · obtain rfl : k = xs.length := by omega
      clear hb
      have hpre : xs.take ys.length = ys.take xs.length := by
        have := HE.out
        rw [List.take_length] at this
        exact (List.take_of_length_le hk2).trans this
      by_cases hl : xs.length < ys.length
      · have hl' : (xs.length : Int) < ys.length := by omega
        have HR : Hid (-1 = cmpB xs ys) := by
          show _ = _
          rw [cmpB_pre hpre, if_pos hl]
        clear hpre
        go_wp2
        go_ret
        exact ⟨ret_int HR.out, HN.out⟩
      · have hl' : ¬ ((xs.length : Int) < ys.length) := by omega
        have HR : Hid (0 = cmpB xs ys) := by
          show _ = _
          rw [cmpB_pre hpre, if_neg hl, if_neg (by omega)]
        clear hpre
        go_wp2
        go_ret
        exact ⟨ret_int HR.out, HN.out⟩

set_option maxHeartbeats 1200000 in
theorem c_CompareFunc (f : FuncId) (v1 v2 : Value) (xs ys : List (List Int)) (w : World) (hx : Rows w v1 xs) (hy : Rows w v2 ys) (eg : ∀ args w, (callFunc f args).run Try.prog w = .ok (.enter f args) w)
    (hf : ∀ W x y p q, Ints W x p → Ints W y q → Calls Try.prog f #[x, y] W (QVal W (.int .i64 (cmpB p q)))) :
    Calls Try.prog 88 #[v1, v2, .func (.func f) #[] #[]] w (QVal w (.int .i64 (cmpR xs ys))) := by
  obtain ⟨a, c, rfl, hc, hm⟩ := hx.shape
  obtain ⟨a2, c2, rfl, hc2, hm2⟩ := hy.shape
  have HFn := Lib.hid hf; clear hf
  go_enter Try.func88, Try.ntmps88
  go_wp2
  go_loopw [13, 7, 8, 9, 10] (fun i _ _ _ _ wr => ∃ k : Nat, k ≤ xs.length ∧ k ≤ ys.length ∧ i = .int .i64 k ∧ Hid (∃ n, wr = w.drewN n) ∧ Hid (xs.take k = ys.take k)) (fun i _ _ _ _ _ => xs.length - (intOf i).toNat)
  case atStart => exact ⟨0, Nat.zero_le _, Nat.zero_le _, rfl, Lib.hid ⟨0, rfl⟩, Lib.hid rfl⟩
  case round =>
    obtain ⟨k, hk, hk2, rfl, HN, HE⟩ := hrel
    obtain ⟨wo, rfl⟩ : ∃ wo : World, wo = wr := ⟨_, rfl⟩
    have hb := below_of_drewN HN.out
    by_cases hlt : k < xs.length
    · obtain ⟨b, o, ra, rc, rfl, hcell, hu⟩ := (hx.below hb).getS k hlt
      by_cases hlt2 : k < ys.length
      · obtain ⟨b2, o2, ra2, rc2, rfl, hcell2, hu2⟩ := (hy.below hb).getS k hlt2
        have Hp := Lib.hid (HFn.out wo _ _ _ _ hu hu2)
        clear hb hu hu2
        have hk0 : (0 : Int) ≤ k := by omega
        have hk1 : (k : Int) < xs.length := by omega
        have hkk : (k : Int) < ys.length := by omega
        by_cases he : row xs k = row ys k
        · have hz : cmpB (row xs k) (row ys k) = 0 := cmpB_zero.2 he
          have hz2 : (cmpB (row xs k) (row ys k) != 0) = false := by simp [hz]
          have HV := Lib.hid he; clear he hz
          go_wp2_with fail
          refine Hp.out.mono ?_; rintro e w' ⟨rfl, nq, rfl⟩
          go_wp2
          go_roundw
          case rel => exact ⟨k + 1, by omega, by omega, by go_num, by obtain ⟨n, hn⟩ := HN.out; exact Lib.hid ⟨n + _, by rw [hn]; exact drewN_drewN w n _⟩, Lib.hid (take_succ_eqR hlt hlt2 HE.out HV.out)⟩
          case measure => simp [intOf]; omega
        · have hz2 : (cmpB (row xs k) (row ys k) != 0) = true := by simp [cmpB_zero, he]
          have HR : Hid (cmpB (row xs k) (row ys k) = cmpR xs ys) := Lib.hid (cmpR_at hlt hlt2 HE.out he).symm
          clear he
          go_wp2_with fail
          refine Hp.out.mono ?_; rintro e w' ⟨rfl, nq, rfl⟩
          go_wp2
          go_ret
          exact ⟨ret_int HR.out, by obtain ⟨n, hn⟩ := HN.out; exact ⟨n + _, by rw [hn]; exact drewN_drewN w n _⟩⟩
      · obtain rfl : k = ys.length := by omega
        clear hb hu
        have HR : Hid (1 = cmpR xs ys) := by
          show _ = _
          have := HE.out
          rw [List.take_length] at this
          rw [cmpR_pre (this.trans (List.take_of_length_le (by omega)).symm), if_neg (by omega), if_pos hlt]
        go_wp2
        go_ret
        exact ⟨ret_int HR.out, HN.out⟩
    · obtain rfl : k = xs.length := by omega
      clear hb
      have hpre : xs.take ys.length = ys.take xs.length := by
        have := HE.out
        rw [List.take_length] at this
        exact (List.take_of_length_le hk2).trans this
      by_cases hl : xs.length < ys.length
      · have hl' : (xs.length : Int) < ys.length := by omega
        have HR : Hid (-1 = cmpR xs ys) := by
          show _ = _
          rw [cmpR_pre hpre, if_pos hl]
        clear hpre
        go_wp2
        go_ret
        exact ⟨ret_int HR.out, HN.out⟩
      · have hl' : ¬ ((xs.length : Int) < ys.length) := by omega
        have HR : Hid (0 = cmpR xs ys) := by
          show _ = _
          rw [cmpR_pre hpre, if_neg hl, if_neg (by omega)]
        clear hpre
        go_wp2
        go_ret
        exact ⟨ret_int HR.out, HN.out⟩

theorem eg_compareTables1 : ∀ args w, (callFunc 89 args).run Try.prog w = .ok (.enter 89 args) w := Go.Proofs.enters_of Try.func89 (by kernel_rfl) rfl
set_option maxHeartbeats 400000 in
theorem c_compareTables1 (W : World) (x y : Value) (p q : List Int) (hx : Ints W x p) (hy : Ints W y q) : Calls Try.prog 89 #[x, y] W (QVal W (.int .i64 (cmpB p q))) := by
  go_enter Try.func89, Try.ntmps89
  go_wp2_with fail
  refine (c_slCompare _ _ _ _ _ hx hy).mono ?_; rintro e w' ⟨rfl, nq, rfl⟩
  go_wp2
  go_ret
  exact ⟨rfl, nq, rfl⟩
set_option maxHeartbeats 400000 in
theorem c_compareTables (v1 v2 : Value) (xs ys : List (List Int)) (w : World) (hx : Rows w v1 xs) (hy : Rows w v2 ys) : Calls Try.prog 65 #[v1, v2] w (QVal w (.int .i64 (cmpR xs ys))) := by
  go_enter Try.func65, Try.ntmps65
  go_wp2_with fail
  refine (c_CompareFunc _ _ _ _ _ _ hx hy eg_compareTables1 c_compareTables1).mono ?_; rintro e w' ⟨rfl, nq, rfl⟩
  go_wp2
  go_ret
  exact ⟨rfl, nq, rfl⟩

set_option maxHeartbeats 800000 in
theorem c_l01Less (v1 v2 : Value) (xs ys : List Int) (w : World) (hx : Ints w v1 xs) (hy : Ints w v2 ys) :
    Calls Try.prog 93 #[v1, v2] w (QVal w (.bool (lexB xs ys))) := by
  obtain ⟨a, c, rfl, hc, hm⟩ := hx.shape
  obtain ⟨a2, c2, rfl, hc2, hm2⟩ := hy.shape
  go_enter Try.func93, Try.ntmps93
  go_wp2
  go_loopw [5] (fun i wr => ∃ k : Nat, k ≤ xs.length ∧ k ≤ ys.length ∧ i = .int .i64 k ∧ Hid (∃ n, wr = w.drewN n) ∧ Hid (xs.take k = ys.take k)) (fun i _ => xs.length - (intOf i).toNat)
  case atStart => exact ⟨0, Nat.zero_le _, Nat.zero_le _, rfl, Lib.hid ⟨0, rfl⟩, Lib.hid rfl⟩
  case round =>
    obtain ⟨k, hk, hk2, rfl, HN, HE⟩ := hrel
    obtain ⟨wo, rfl⟩ : ∃ wo : World, wo = wr := ⟨_, rfl⟩
    have hb := below_of_drewN HN.out
    by_cases hlt : k < xs.length
    · obtain ⟨b, o, rfl, hcell⟩ := (hx.below hb).get k hlt
      by_cases hlt2 : k < ys.length
      · obtain ⟨b2, o2, rfl, hcell2⟩ := (hy.below hb).get k hlt2
        clear hb
        have hk0 : (0 : Int) ≤ k := by omega
        have hk1 : (k : Int) < xs.length := by omega
        have hkk : (k : Int) < ys.length := by omega
        by_cases he : nth xs k = nth ys k
        · have hz2 : (nth xs k != nth ys k) = false := by simp [he]
          have HV := Lib.hid he; clear he
          go_wp2
          go_quiet (fail)
          go_wp2
          go_roundw
          case rel => exact ⟨k + 1, by omega, by omega, by go_num, by obtain ⟨n, hn⟩ := HN.out; exact Lib.hid ⟨n + _, by rw [hn]; exact drewN_drewN w n _⟩, Lib.hid (take_succ_eq hlt hlt2 HE.out HV.out)⟩
          case measure => simp [intOf]; omega
        · have hz2 : (nth xs k != nth ys k) = true := by simp [he]
          have HR : Hid (decide (nth xs k < nth ys k) = lexB xs ys) := Lib.hid (lexB_at hlt hlt2 HE.out he).symm
          clear he
          go_wp2
          go_quiet (fail)
          rename_i nq
          have hbq : Below wo.heap.size wo (wo.drewN nq) := below_drewN (Below.refl _ _) nq
          have q1 := cell_under hbq hcell
          have q2 := cell_under hbq hcell2
          obtain ⟨wq, hwq⟩ : ∃ wq, wq = wo.drewN nq := ⟨_, rfl⟩
          rw [← hwq] at q1 q2 ⊢
          have HWQ := Lib.hid hwq; clear hwq
          clear hbq hcell hcell2
          go_wp2
          go_quiet (fail)
          go_wp2
          go_ret
          exact ⟨ret_bool HR.out, by obtain ⟨n, hn⟩ := HN.out; exact ⟨_, by rw [HWQ.out, hn, drewN_drewN, drewN_drewN]⟩⟩
      · obtain rfl : k = ys.length := by omega
        clear hb
        have HR : Hid (decide (xs.length < ys.length) = lexB xs ys) := by
          show _ = _
          have := HE.out
          rw [List.take_length] at this
          rw [lexB_pre (this.trans (List.take_of_length_le (by omega)).symm)]
        go_wp2
        go_ret
        exact ⟨ret_bool HR.out, HN.out⟩
    · obtain rfl : k = xs.length := by omega
      clear hb
      have HR : Hid (decide (xs.length < ys.length) = lexB xs ys) := by
        show _ = _
        have := HE.out
        rw [List.take_length] at this
        rw [lexB_pre ((List.take_of_length_le hk2).trans this)]
      go_wp2
      go_ret
      exact ⟨ret_bool HR.out, HN.out⟩

end Go.Proofs.Ytgmhnjccgldddaa

namespace Go.Proofs.Ytgmhnjccgldddaa
set_option linter.unusedVariables false
set_option linter.unusedSimpArgs false
open Go Go.RowKit

theorem quiet_q {P : Program} {f : FuncId} {args : Array Value} {w : World} {n : Nat} {v : Value} (h : Calls P f args (w.drewN n) (QVal (w.drewN n) v)) : Calls P f args (w.drewN n) fun e w'' => e = .returned v ∧ ∃ m, w'' = w.drewN m :=
  h.mono fun _ _ ⟨he, k, hk⟩ => ⟨he, n + k, by rw [hk, World.drewN_drewN]⟩
/-- Colours of n elements. -/
def ColsOk (n : Nat) (C : List Int) : Prop := C.length = n ∧ ∀ x ∈ C, 0 ≤ x ∧ x ≤ 60
/-- A slice of integers whose block holds integers alone. -/
def IntsB (w : World) (v : Value) (xs : List Int) : Prop := Ints w v xs ∧ ∃ b o c cs, v = .slice (some ⟨b, o, none⟩) xs.length c ∧ Blk w b 2 cs
/-- The post of 'l03Refine'. -/
def RRef (w : World) (n : Nat) (F G : List (List (List Int))) (C D : List Int) (e : Ending) (w' : World) : Prop :=
  ∃ r1 r2 b, e = .returned (.tuple #[r1, r2, .bool b]) ∧ Below w.heap.size w w' ∧ ((b = false ∧ r1 = .slice none 0 0 ∧ r2 = .slice none 0 0 ∧ ∀ p, IsoF n F G p → ¬ Keeps n C D p) ∨
    (b = true ∧ ∃ C' D', IntsB w' r1 C' ∧ IntsB w' r2 D' ∧ ColsOk n C' ∧ ColsOk n D' ∧ ∀ p, IsoF n F G p → Keeps n C D p → Keeps n C' D' p))
theorem madeRows (w : World) : OwnRows w.heap.size (w.alloc (.cells #[] 26)) (.slice (some ⟨w.heap.size, 0, none⟩) 0 0) [] :=
  ⟨[], ⟨rfl, .inr ⟨w.heap.size, 0, #[], rfl, Nat.le_refl _, heap_alloc_new w _, Nat.le_refl _, by decide, rfl, rfl⟩⟩, RowVals.nil _ _⟩

set_option maxRecDepth 100000 in
set_option maxHeartbeats 16000000 in
theorem c_l03Refine {n K : Nat} {F G : List (List (List Int))} {fb fo fc gb go' gc : Nat} {tb to tc tb' to' tc' : Nat → Nat} {rb ro rc rb' ro' rc' : Nat → Nat → Nat} (C D : List Int) (u v : Value) (w : World) (hF : Tb3 w fb fo n K F tb to tc rb ro rc) (hG : Tb3 w gb go' n K G tb' to' tc' rb' ro' rc')
    (hKF : K = F.length) (hKG : K = G.length) (hn0 : 1 ≤ n) (hn : n ≤ 12) (hK : K ≤ 12) (hfc : K ≤ fc) (hgc : K ≤ gc) (hu : Ints w u C) (hv : Ints w v D) (hC : ColsOk n C) (hD : ColsOk n D) :
    Calls Try.prog 71 #[.slice (some ⟨fb, fo, none⟩) K fc, .slice (some ⟨gb, go', none⟩) K gc, u, v] w (RRef w n F G C D) := by
  obtain ⟨a1, c1, rfl, hc1, hm1⟩ := hu.shape
  obtain ⟨a2, c2, rfl, hc2, hm2⟩ := hv.shape
  rw [hC.1] at hc1 ⊢
  rw [hD.1] at hc2 ⊢
  have hu0 : Ints w (.slice a1 n c1) C := by rw [← hC.1]; rw [← hC.1] at hc1; exact hu
  have hv0 : Ints w (.slice a2 n c2) D := by rw [← hD.1]; rw [← hD.1] at hc2; exact hv
  have HFG := Lib.hid (And.intro hF hG); have HTab := Lib.hid (And.intro (hF.tabs hKF) (hG.tabs hKG))
  have HKF := Lib.hid (And.intro hKF hKG)
  have HMk := Lib.hid (fun (W : World) (hb : Below w.heap.size w W) (C' : List Int) (u : Value) (hu : Ints W u C') (hC : ColsOk n C') (X : Nat) (hX : X < n) (W' : World) (hb' : Below W.heap.size W W') => c_l03Mark C' u X W' ((hF.below hb).below hb') hKF hn0 hn hK hfc (hu.below hb') hC.1 hX hC.2)
  have HMk2 := Lib.hid (fun (W : World) (hb : Below w.heap.size w W) (C' : List Int) (u : Value) (hu : Ints W u C') (hC : ColsOk n C') (X : Nat) (hX : X < n) (W' : World) (hb' : Below W.heap.size W W') => c_l03Mark C' u X W' ((hG.below hb).below hb') hKG hn0 hn hK hgc (hu.below hb') hC.1 hX hC.2)
  have HU0 := Lib.hid hu0; have HV0 := Lib.hid hv0; have HC0 := Lib.hid hC; have HD0 := Lib.hid hD
  clear hF hG hKF hKG hu hv hu0 hv0 hC hD
  go_enter Try.func71, Try.ntmps71
  go_wp2
  go_loopw [2, 3, 12, 13, 14, 15, 16, 17, 18, 19, 20, 21, 22, 23, 24] (fun f s num _ _ _ _ _ _ _ _ _ _ _ _ wr => ∃ (N : Nat) (C' D' : List Int) (a1 a2 : Option Addr) (c1 c2 : Nat), f = .slice a1 n c1 ∧ s = .slice a2 n c2 ∧ num = .int .i64 N ∧ N ≤ n + n ∧ Hid (Ints wr (.slice a1 n c1) C') ∧ Hid (Ints wr (.slice a2 n c2) D') ∧ Hid (ColsOk n C') ∧ Hid (ColsOk n D') ∧ Hid (Below w.heap.size w wr) ∧ Hid (∀ p, IsoF n F G p → Keeps n C D p → Keeps n C' D' p) ∧ Hid (Used N (C' ++ D'))) (fun _ _ num _ _ _ _ _ _ _ _ _ _ _ _ _ => n + n + 1 - (intOf num).toNat)
  case atStart => exact ⟨0, C, D, a1, a2, c1, c2, rfl, rfl, rfl, by omega, HU0, HV0, HC0, HD0, Lib.hid (Below.refl _ _), Lib.hid (fun p _ h => h), Lib.hid (fun i hi => by omega)⟩
  case round =>
    clear HU0 HV0 HC0 HD0 hc1 hm1 hc2 hm2
    obtain ⟨N, C', D', a1, a2, c1, c2, rfl, rfl, rfl, hN, HU, HV, HC, HD, HB, HKp, HUs⟩ := hrel
    obtain ⟨wo, rfl⟩ : ∃ wo : World, wo = wr := ⟨_, rfl⟩
    have HM1 := Lib.hid (HMk.out wo HB.out C' _ HU.out HC.out)
    have HM2 := Lib.hid (HMk2.out wo HB.out D' _ HV.out HD.out)
    go_wp2
    go_loopw [13, 14] (fun mv xx wr => ∃ (x : Nat) (ms : List (List Int)) (ma : Option Addr) (mc : Nat), x ≤ n ∧ xx = .int .i64 x ∧ mv = .slice ma x mc ∧ Hid (ms = (iota x).map (markM n F C')) ∧ Hid (OwnRows wo.heap.size wr (.slice ma x mc) ms) ∧ Hid (Below wo.heap.size wo wr)) (fun _ xx _ => n - (intOf xx).toNat)
    case atStart => exact ⟨0, [], _, _, Nat.zero_le _, rfl, rfl, Lib.hid rfl, Lib.hid (madeRows wo), Lib.hid ((Below.refl _ _).alloc (Nat.le_refl _) _)⟩
    case round =>
      obtain ⟨x, ms, ma, mc, hx, rfl, rfl, HMs, HO, Hb⟩ := hrel
      obtain ⟨wi, rfl⟩ : ∃ wi : World, wi = wr := ⟨_, rfl⟩
      by_cases hlx : x < n
      · go_wp2_with fail
        refine (HM1.out x hlx _ Hb.out).mono ?_; rintro e w1 ⟨r, rfl, ho, hb⟩
        obtain ⟨qa, qc, rfl, _⟩ := ho.shape
        have hml : ms.length = x := by rw [HMs.out]; simp [iota]
        have hO : OwnRows wo.heap.size wi (.slice ma ms.length mc) ms := by rw [hml]; exact HO.out
        have HO1 := Lib.hid ho; have HB1 := Lib.hid hb; have HO2 := Lib.hid hO
        have HLn : Hid (ms.length ≤ 1099511627776) := Lib.hid (by rw [hml]; omega)
        have HSz := Lib.hid Hb.out.size
        have HMl := Lib.hid hml
        have HSn : Hid ((iota (x + 1)).map (markM n F C') = (iota x).map (markM n F C') ++ [markM n F C' x]) := Lib.hid (by rw [iota_succ]; simp)
        clear ho hb hO hml
        go_wp2_with (at_builtin; refine wpList_app_row wo.heap.size wi w1 (.slice ma x mc) ms _ (markM n F C' x) _ _ rfl rfl rfl (by have := HO2.out; rw [HMl.out] at this; exact this) HB1.out HO1.out rfl HLn.out HSz.out ?_; intro a' c' w' h1 h2; rw [HMl.out]; rw [HMl.out] at h1; have Ho' := Lib.hid h1; have Hk := Lib.hid h2; clear h1 h2)
        go_roundw
        case rel => exact ⟨x + 1, ms ++ [markM n F C' x], a', c', by omega, by go_num, by simp, Lib.hid (by rw [HSn.out, HMs.out]), Lib.hid (by have := Ho'.out; simpa using this), Lib.hid ((HO.out.inn.under HB1.out).out.frame (bb Hb.out HB1.out) (Nat.le_refl _) (bb Hb.out HB1.out).size Hk.out)⟩
        case measure => simp [intOf]; omega
      · obtain rfl : n = x := by omega
        have HMs0 : Hid (ms = (iota n).map (markM n F C') ++ (iota 0).map (markM n G D')) := Lib.hid (by rw [HMs.out]; simp [iota])
        have HO0 : Hid (OwnRows wo.heap.size wi (.slice ma (n + 0) mc) ms) := HO
        clear HMs HO
        go_wp2
        go_loopw [13, 15] (fun mv xx wr => ∃ (x : Nat) (ms : List (List Int)) (ma : Option Addr) (mc : Nat), x ≤ n ∧ xx = .int .i64 x ∧ mv = .slice ma (n + x) mc ∧ Hid (ms = (iota n).map (markM n F C') ++ (iota x).map (markM n G D')) ∧ Hid (OwnRows wo.heap.size wr (.slice ma (n + x) mc) ms) ∧ Hid (Below wo.heap.size wo wr)) (fun _ xx _ => n - (intOf xx).toNat)
        case atStart => exact ⟨0, ms, ma, mc, Nat.zero_le _, rfl, rfl, HMs0, HO0, Hb⟩
        case round =>
          clear HMs0 HO0 Hb
          obtain ⟨x, ms, ma, mc, hx, rfl, rfl, HMs, HO, Hb⟩ := hrel
          obtain ⟨wi, rfl⟩ : ∃ wi : World, wi = wr := ⟨_, rfl⟩
          by_cases hlx : x < n
          · go_wp2_with fail
            refine (HM2.out x hlx _ Hb.out).mono ?_; rintro e w1 ⟨r, rfl, ho, hb⟩
            obtain ⟨qa, qc, rfl, _⟩ := ho.shape
            have hml : ms.length = n + x := by rw [HMs.out]; simp [iota]
            have hO : OwnRows wo.heap.size wi (.slice ma ms.length mc) ms := by rw [hml]; exact HO.out
            have HO1 := Lib.hid ho; have HB1 := Lib.hid hb; have HO2 := Lib.hid hO
            have HLn : Hid (ms.length ≤ 1099511627776) := Lib.hid (by rw [hml]; omega)
            have HSz := Lib.hid Hb.out.size
            have HMl := Lib.hid hml
            have HSn : Hid ((iota (x + 1)).map (markM n G D') = (iota x).map (markM n G D') ++ [markM n G D' x]) := Lib.hid (by rw [iota_succ]; simp)
            clear ho hb hO hml
            go_wp2_with (at_builtin; refine wpList_app_row wo.heap.size wi w1 (.slice ma (n + x) mc) ms _ (markM n G D' x) _ _ rfl rfl rfl (by have := HO2.out; rw [HMl.out] at this; exact this) HB1.out HO1.out rfl HLn.out HSz.out ?_; intro a' c' w' h1 h2; rw [HMl.out]; rw [HMl.out] at h1; have Ho' := Lib.hid h1; have Hk := Lib.hid h2; clear h1 h2)
            go_roundw
            case rel => exact ⟨x + 1, ms ++ [markM n G D' x], a', c', by omega, by go_num, by simp [Nat.add_assoc], Lib.hid (by rw [HSn.out, HMs.out, List.append_assoc]), Lib.hid (by have := Ho'.out; simpa [Nat.add_assoc] using this), Lib.hid ((HO.out.inn.under HB1.out).out.frame (bb Hb.out HB1.out) (Nat.le_refl _) (bb Hb.out HB1.out).size Hk.out)⟩
            case measure => simp [intOf]; omega
          · obtain rfl : n = x := by omega
            have hms : ms = marksM n F G C' D' := HMs.out
            have hml : ms.length = n + n := by rw [hms, marksM_len]
            obtain ⟨um, hum, hvm⟩ := HO.out.vk
            have hul : um.length = n + n := by rw [hvm.len, hml]
            rcases ownsRow_open hum with ⟨_, h0⟩ | ⟨mg, mcs, hmv, hmgB, hmg, hmm⟩
            · exfalso; rw [h0] at hul; simp at hul; omega
            injection hmv with f1 f2 f3
            subst f1 f3
            rw [hul] at hmm ⊢
            clear f2
            have HMg := Lib.hid hmg; have HMsE := Lib.hid hms; have HMl := Lib.hid hml; have HVm := Lib.hid hvm; have HUl := Lib.hid hul
            have hcap : n + n + mcs.length ≤ 9223372036854775807 := by unfold maxLen at hmm; omega
            have HBk := Lib.hid (bb HB.out Hb.out)
            have HUk := Lib.hid (HU.out.below Hb.out)
            obtain ⟨wk, rfl⟩ : ∃ wk : World, wk = wi := ⟨_, rfl⟩
            clear hum hmg hmgB hms hml hvm hul hmm HMs HO Hb HM1 HM2 HB HU HV
            have hb0 : Below wk.heap.size wk (wk.alloc (.cells #[] 26)) := (Below.refl _ _).alloc (Nat.le_refl _) _
            have HBz := Lib.hid hb0
            have HG0 := Lib.hid (Blk.new wk [] 26)
            clear hb0
            go_wp2
            go_loopw [16, 17, 18, 19] (fun kv ii _ _ wr => ∃ (i l q g : Nat) (ks : List (List Int)) (us cs : List Value), i ≤ n + n ∧ ii = .int .i64 i ∧ kv = .slice (some ⟨g, 0, none⟩) l (l + q) ∧ l ≤ i ∧ l + q ≤ 9223372036854775807 ∧ Hid (us.length = l ∧ cs.length = q) ∧ Hid (wk.heap.size ≤ g) ∧ Hid (Blk wr g 26 (us ++ cs)) ∧ Hid (VK wk us ks) ∧ Hid (AscR ks) ∧ Hid (∀ x, x ∈ ks ↔ x ∈ ms.take i) ∧ Hid (Below wk.heap.size wk wr)) (fun _ ii _ _ _ => n + n - (intOf ii).toNat)
            case atStart => exact ⟨0, 0, 0, wk.heap.size, [], [], [], by omega, rfl, rfl, by omega, by omega, Lib.hid ⟨rfl, rfl⟩, Lib.hid (Nat.le_refl _), HG0, Lib.hid (VK.nil _), Lib.hid List.Pairwise.nil, Lib.hid (by simp), HBz⟩
            case round =>
              clear HBz HG0
              obtain ⟨i, l, q, g, ks, us, cs, hi, rfl, rfl, hli, hlq, HLn, HGB, HG, HVK, HAs, HMe, HBz⟩ := hrel
              obtain ⟨wz, rfl⟩ : ∃ wz : World, wz = wr := ⟨_, rfl⟩
              by_cases hlti : i < n + n
              · obtain ⟨ia, ic, hie, hin⟩ := HVm.out.at' i (by rw [HUl.out]; exact hlti)
                have HMc : Hid (wk.cell? ⟨mg, i, none⟩ = some (.slice ia (row ms i).length ic)) := Lib.hid (by rw [← hie]; exact HMg.out.vcell i (by rw [HUl.out]; exact hlti))
                have HMi := Lib.hid hin
                have HTk : Hid (ms.take (i + 1) = ms.take i ++ [row ms i]) := Lib.hid (take_snoc_row ms i (by rw [HMl.out]; exact hlti))
                clear hie hin
                go_wp2
                go_loopw [18] (fun aa wr => ∃ at' : Nat, at' ≤ l ∧ aa = .int .i64 at' ∧ Hid (Below wz.heap.size wz wr) ∧ Hid (∀ j : Nat, j < at' → lexB (row ks j) (row ms i) = true)) (fun aa _ => l - (intOf aa).toNat)
                case atStart => exact ⟨0, Nat.zero_le _, rfl, Lib.hid (Below.refl _ _), Lib.hid (fun j hj => by omega)⟩
                case round =>
                  obtain ⟨at', hat, rfl, HBa, HLs⟩ := hrel
                  obtain ⟨wy, rfl⟩ : ∃ wy : World, wy = wr := ⟨_, rfl⟩
                  have q0 := cell_under (bb HBz.out HBa.out) HMc.out
                  by_cases hla : at' < l
                  · obtain ⟨ka, kc, hke, hkn⟩ := HVK.out.at' at' (by rw [HLn.out.1]; exact hla)
                    have q1 := (HG.out.under HBa.out).vcell at' (by rw [HLn.out.1]; exact hla)
                    rw [hke] at q1
                    have HKi := Lib.hid hkn
                    have HKc : Hid (∀ W, Below wz.heap.size wz W → W.cell? ⟨g, at', none⟩ = some (.slice ka (row ks at').length kc)) := Lib.hid fun W hb => by
                      have := (HG.out.under hb).vcell at' (by rw [HLn.out.1]; exact hla)
                      rwa [hke] at this
                    have HBy := Lib.hid (bb HBz.out HBa.out)
                    clear hke hkn
                    have HLess : Hid (∀ nq, Calls Try.prog 93 #[.slice ka (row ks at').length kc, .slice ia (row ms i).length ic] (wy.drewN nq) (QVal (wy.drewN nq) (.bool (lexB (row ks at') (row ms i))))) := Lib.hid fun nq => c_l01Less _ _ _ _ _ ((HKi.out.below HBy.out).below (below_drewN (Below.refl _ _) nq)) ((HMi.out.below HBy.out).below (below_drewN (Below.refl _ _) nq))
                    have HSame : Hid (∀ W nq, Below wk.heap.size wk W → Calls Try.prog 94 #[.slice ka (row ks at').length kc, .slice ia (row ms i).length ic] (W.drewN nq) (QVal (W.drewN nq) (.bool (decide (row ks at' = row ms i))))) := Lib.hid fun W nq hb => c_l01Same _ _ _ _ _ ((HKi.out.below hb).below (below_drewN (Below.refl _ _) nq)) ((HMi.out.below hb).below (below_drewN (Below.refl _ _) nq))
                    by_cases hd : lexB (row ks at') (row ms i) = true
                    · have HLs2 := Lib.hid (lt_snoc HLs.out hd)
                      rw [hd] at HLess
                      clear hd HSame
                      go_wp2
                      go_quiet ((go_at_call 93; exact quiet_q (HLess.out _)))
                      rename_i nq
                      have HBq := Lib.hid (below_drewN HBa.out nq)
                      go_wp2
                      go_roundw
                      case rel => exact ⟨at' + 1, by omega, by go_num, HBq, HLs2⟩
                      case measure => simp [intOf]; omega
                    · have hd' : lexB (row ks at') (row ms i) = false := by simpa using hd
                      rw [hd'] at HLess
                      have HD := Lib.hid hd'
                      clear hd hd'
                      go_wp2
                      go_quiet ((go_at_call 93; exact quiet_q (HLess.out _)))
                      rename_i nq
                      have hbq := below_drewN HBa.out nq
                      generalize wy.drewN nq = wv at hbq ⊢
                      have HBv := Lib.hid hbq
                      have HBkv := Lib.hid (bb HBz.out hbq)
                      clear q0 q1 HLess hbq
                      have q0 := cell_under HBkv.out HMc.out
                      have q1 := HKc.out wv HBv.out
                      by_cases he : row ks at' = row ms i
                      · have hs := HSame.out wv
                        simp only [he, decide_true] at hs
                        have HSm : Hid (∀ nq, Calls Try.prog 94 #[.slice ka (row ks at').length kc, .slice ia (row ms i).length ic] (wv.drewN nq) (QVal (wv.drewN nq) (.bool true))) := Lib.hid fun nq => by have := HSame.out wv nq HBkv.out; simpa [he] using this
                        have HIn : Hid (row ms i ∈ ks) := Lib.hid (by rw [← he]; exact row_mem (by omega) (by rw [← HVK.out.len, HLn.out.1]; omega))
                        clear hs he HSame HD
                        go_wp2
                        go_quiet ((go_at_call 94; exact quiet_q (HSm.out _)))
                        rename_i nq
                        have HBw := Lib.hid (below_drewN HBv.out nq)
                        go_wp2
                        go_roundw
                        case rel => exact ⟨i + 1, l, q, g, ks, us, cs, by omega, by go_num, rfl, by omega, hlq, HLn, HGB, Lib.hid (HG.out.under HBw.out), HVK, HAs, Lib.hid (by rw [HTk.out]; exact kinds_same HMe.out HIn.out), Lib.hid (bb HBz.out HBw.out)⟩
                        case measure => simp [intOf]; omega
                      · have HSm : Hid (∀ nq, Calls Try.prog 94 #[.slice ka (row ks at').length kc, .slice ia (row ms i).length ic] (wv.drewN nq) (QVal (wv.drewN nq) (.bool false))) := Lib.hid fun nq => by have := HSame.out wv nq HBkv.out; simpa [he] using this
                        have HNe := Lib.hid he
                        clear he HSame
                        go_wp2
                        go_quiet ((go_at_call 94; exact quiet_q (HSm.out _)))
                        rename_i nq
                        have hbq := below_drewN HBv.out nq
                        generalize wv.drewN nq = wq at hbq ⊢
                        have HBq := Lib.hid hbq
                        have HBkq := Lib.hid (bb HBz.out hbq)
                        clear hbq
                        have HSA : Hid (∀ w', Below wq.heap.size wq w' → w'.cell? ⟨mg, i, none⟩ = some (Value.slice ia (row ms i).length ic)) := Lib.hid fun w' hb => cell_under (bb HBkq.out hb) HMc.out
                        have HGq := Lib.hid (HG.out.under HBq.out)
                        have HAl := Lib.hid (show Below wq.heap.size wq (wq.alloc (.cells #[Value.slice ia (row ms i).length ic] 26)).drew from ((Below.refl _ wq).alloc (Nat.le_refl _) _).drew)
                        have S0 := HSA.out _ (Below.refl _ wq).drew
                        have S1 := HSA.out _ HAl.out
                        have HO1 : Hid ((wq.alloc (.cells #[Value.slice ia (row ms i).length ic] 26)).drew.ownsRow wq.heap.size 26 1 (.slice (some ⟨wq.heap.size, 0, none⟩) 1 1) [Value.slice ia (row ms i).length ic].length [Value.slice ia (row ms i).length ic]) := Lib.hid (ownsRow_shut (cs := []) (by simpa using (Blk.new wq [Value.slice ia (row ms i).length ic] 26).drew) (Nat.le_refl _) (by simp [maxLen]) rfl rfl)
                        have hdl : (us.drop at').length = (l - at') := by rw [List.length_drop, HLn.out.1]
                        have HDl := Lib.hid hdl
                        have HDc : Hid (∀  j (h : j < (us.drop at').length), (wq.alloc (.cells #[Value.slice ia (row ms i).length ic] 26)).drew.cell? ⟨g, at' + j, none⟩ = some (us.drop at')[j]) := Lib.hid fun  j h => by
                          rw [List.getElem_drop]; exact (HGq.out.under HAl.out).vcell (at' + j) (by rw [hdl] at h; rw [HLn.out.1]; omega)
                        have HOne := Lib.hid ((HVK.out.drop at').one)
                        have HLe : Hid ([Value.slice ia (row ms i).length ic].length + (us.drop at').length ≤ 1099511627776) := Lib.hid (by rw [hdl]; simp <;> omega)
                        have HSz1 := Lib.hid HAl.out.size
                        have HRl : Hid (([Value.slice ia (row ms i).length ic] ++ us.drop at').length = 1 + (l - at')) := Lib.hid (by (rw [List.length_append, hdl]) <;> rfl)
                        have HSq : Hid (∀ w5, Keep (fun b => (Value.slice (some ⟨wq.heap.size, 0, none⟩) 1 1).ownBlock = some b) (wq.alloc (.cells #[Value.slice ia (row ms i).length ic] 26)).drew w5 → Below wq.heap.size wq w5) := Lib.hid fun w5 hk => HAl.out.trans (hk.below fun k hk' => ⟨by have := HAl.out.size; omega, fun e => by simp [Value.ownBlock] at e; omega⟩)
                        clear hdl q0 q1
                        have hcp : ¬ (l + q = at') := by omega
                        go_wp2
                        go_region_held3 (fun w' => w'.cell? ⟨mg, i, none⟩ = some (Value.slice ia (row ms i).length ic)) (first | go_keep | exact HSA.out _ HAl.out) (first
                          | (refine step_app_vals wq.heap.size (wq.alloc (.cells #[Value.slice ia (row ms i).length ic] 26)).drew (.slice (some ⟨wq.heap.size, 0, none⟩) 1 1) [Value.slice ia (row ms i).length ic] (us.drop at') _ _ _ (.tmp 95) (.tmp 98) rfl rfl rfl HO1.out _ HDl.out rfl HDc.out HOne.out HLe.out HSz1.out ?_; intro rv w5 h1 h2; have hB5 := HSq.out w5 h2; have Hq := HSA.out w5 hB5; rcases ownsRow_open h1 with ⟨_, h0⟩ | ⟨r, rcs, hrv, hrB, hrb, hrm⟩
                             · exact absurd h0 (by simp)
                             rw [HRl.out] at hrv hrm; subst hrv; have HRb := Lib.hid hrb; have HRB := Lib.hid hrB; have HRm := Lib.hid hrm; have HB5 := Lib.hid hB5; clear h1 h2 hrb hrB hrm hB5))
                        all_goals
                          clear S0 S1 Hq HO1 HDc HSq HAl HSz1 HLe
                          have hrm2 : 1 + (l - at') + rcs.length ≤ 9223372036854775807 := by have := HRm.out; unfold maxLen at this; omega
                          have HA5 := Lib.hid (show Below w5.heap.size w5 (w5.alloc (.cells #[] 26)) from (Below.refl _ w5).alloc (Nat.le_refl _) _)
                          have HO2 : Hid ((w5.alloc (.cells #[] 26)).ownsRow w5.heap.size 26 1 (.slice (some ⟨w5.heap.size, 0, none⟩) 0 0) ([] : List Value).length []) := Lib.hid (ownsRow_shut (cs := []) (by simpa using Blk.new w5 [] 26) (Nat.le_refl _) (by simp [maxLen]) rfl rfl)
                          have htl : (us.take at').length = at' := by rw [List.length_take, HLn.out.1]; omega
                          have HTl := Lib.hid htl
                          have HTc : Hid (∀ j (h : j < (us.take at').length), (w5.alloc (.cells #[] 26)).cell? ⟨g, 0 + j, none⟩ = some (us.take at')[j]) := Lib.hid fun j h => by
                            rw [List.getElem_take, Nat.zero_add]; exact (HGq.out.under (bb HB5.out HA5.out)).vcell j (by rw [htl] at h; rw [HLn.out.1]; omega)
                          have HTone := Lib.hid ((HVK.out.take at').one)
                          have HTle : Hid (([] : List Value).length + (us.take at').length ≤ 1099511627776) := Lib.hid (by rw [htl]; simp; omega)
                          have HSz2 := Lib.hid HA5.out.size
                          have HVi := Lib.hid (VK.single HMi.out)
                          have HRone := Lib.hid ((HVi.out.append (HVK.out.drop at')).one)
                          have HRle : Hid ((us.take at').length + ([Value.slice ia (row ms i).length ic] ++ us.drop at').length ≤ 1099511627776) := Lib.hid (by rw [htl, HRl.out]; omega)
                          have HRc : Hid (∀ w6, Below w5.heap.size w5 w6 → ∀ j (h : j < ([Value.slice ia (row ms i).length ic] ++ us.drop at').length), w6.cell? ⟨r, 0 + j, none⟩ = some ([Value.slice ia (row ms i).length ic] ++ us.drop at')[j]) := Lib.hid fun w6 hb j h => by
                            rw [Nat.zero_add]; exact (HRb.out.under hb).vcell j h
                          have HS6 : Hid (∀ w6, Keep (fun b => (Value.slice (some ⟨w5.heap.size, 0, none⟩) 0 0).ownBlock = some b) (w5.alloc (.cells #[] 26)) w6 → Below w5.heap.size w5 w6) := Lib.hid fun w6 hk => HA5.out.trans (hk.below fun k hk' => ⟨by have := HA5.out.size; omega, fun e => by simp [Value.ownBlock] at e; omega⟩)
                          clear htl
                          go_wp2_with (at_builtin; go_loud (first
                            | (refine wpList_app_vals w5.heap.size (w5.alloc (.cells #[] 26)) (.slice (some ⟨w5.heap.size, 0, none⟩) 0 0) [] (us.take at') _ _ _ (.tmp 100) (.tmp 103) rfl rfl rfl HO2.out _ HTl.out rfl HTc.out HTone.out HTle.out HSz2.out ?_; intro v6 w6 h1 h2; have HB6 := Lib.hid (HS6.out w6 h2); have HO6 := Lib.hid h1; have HSz6 := Lib.hid (HS6.out w6 h2).size; clear h1 h2)
                            | (refine wpList_app_vals w5.heap.size w6 v6 (us.take at') ([Value.slice ia (row ms i).length ic] ++ us.drop at') _ _ _ (.tmp 104) (.tmp 105) rfl rfl rfl HO6.out _ HRl.out rfl (HRc.out w6 HB6.out) HRone.out HRle.out HSz6.out ?_; intro v7 w7 h1 h2; have hB7 : Below w5.heap.size w5 w7 := HB6.out.trans (h2.below fun k hk' => ⟨by have := HB6.out.size; omega, fun e => by have := (World.ownsRow.lt HO6.out k e).1; omega⟩); rcases ownsRow_open h1 with ⟨_, h0⟩ | ⟨g7, cs7, hv7, hB7', hb7, hm7⟩
                               · exact absurd h0 (by simp)
                               have hl7 : (us.take at' ++ ([Value.slice ia (row ms i).length ic] ++ us.drop at')).length = l + 1 := by (rw [List.length_append, HTl.out, HRl.out]) <;> omega
                               rw [hl7] at hv7 hm7; subst hv7; have HB7 := Lib.hid hB7; have HG7 := Lib.hid hb7; have HGB7 := Lib.hid hB7'; have HM7 := Lib.hid hm7; have HL7 := Lib.hid hl7; clear h1 h2 hB7 hB7' hb7 hm7 hl7)))
                          go_roundw
                          case rel =>
                            have hput := kinds_put HAs.out HMe.out (by rw [← HVK.out.len, HLn.out.1]; omega) HLs.out (by rw [← HVK.out.len, HLn.out.1]; intro h; exact HD.out) (by rw [← HVK.out.len, HLn.out.1]; intro h; exact HNe.out)
                            exact ⟨i + 1, l + 1, cs7.length, g7, ks.take at' ++ ([row ms i] ++ ks.drop at'), us.take at' ++ ([Value.slice ia (row ms i).length ic] ++ us.drop at'), cs7, by omega, by go_num, rfl, by omega, by have := HM7.out; unfold maxLen at this; omega, Lib.hid ⟨HL7.out, rfl⟩, Lib.hid (Nat.le_trans (bb HBkq.out HB5.out).size HGB7.out), HG7, Lib.hid ((HVK.out.take at').append (HVi.out.append (HVK.out.drop at'))), Lib.hid hput.1, Lib.hid (by rw [HTk.out]; exact hput.2), Lib.hid (bb (bb HBkq.out HB5.out) HB7.out)⟩
                          case measure => simp [intOf]; omega
                  · obtain rfl : l = at' := by omega
                    go_wp2
                    go_quiet (fail)
                    rename_i nq
                    have hbq := below_drewN HBa.out nq
                    generalize wy.drewN nq = wv at hbq ⊢
                    have HBv := Lib.hid hbq
                    clear hbq q0
                    go_wp2
                    go_quiet (fail)
                    have hbq := below_drewN HBv.out nq
                    generalize wv.drewN nq = wq at hbq ⊢
                    have HBq := Lib.hid hbq
                    have HBkq := Lib.hid (bb HBz.out hbq)
                    clear hbq
                    have q0 := HMc.out
                    have q1 := HMc.out
                    rcases Nat.eq_zero_or_pos q with hq0 | hq0
                    · subst hq0
                      have HSA : Hid (∀ w', Below wq.heap.size wq w' → w'.cell? ⟨mg, i, none⟩ = some (Value.slice ia (row ms i).length ic)) := Lib.hid fun w' hb => cell_under (bb HBkq.out hb) HMc.out
                      have HGq := Lib.hid (HG.out.under HBq.out)
                      have HAl := Lib.hid (show Below wq.heap.size wq (wq.alloc (.cells #[Value.slice ia (row ms i).length ic] 26)).drew from ((Below.refl _ wq).alloc (Nat.le_refl _) _).drew)
                      have S0 := HSA.out _ (Below.refl _ wq).drew
                      have S1 := HSA.out _ HAl.out
                      have HO1 : Hid ((wq.alloc (.cells #[Value.slice ia (row ms i).length ic] 26)).drew.ownsRow wq.heap.size 26 1 (.slice (some ⟨wq.heap.size, 0, none⟩) 1 1) [Value.slice ia (row ms i).length ic].length [Value.slice ia (row ms i).length ic]) := Lib.hid (ownsRow_shut (cs := []) (by simpa using (Blk.new wq [Value.slice ia (row ms i).length ic] 26).drew) (Nat.le_refl _) (by simp [maxLen]) rfl rfl)
                      have hdl : (us.drop l).length = 0 := by rw [List.length_drop, HLn.out.1]; omega
                      have HDl := Lib.hid hdl
                      have HDc : Hid (∀ sb so j (h : j < (us.drop l).length), (wq.alloc (.cells #[Value.slice ia (row ms i).length ic] 26)).drew.cell? ⟨sb, so + j, none⟩ = some (us.drop l)[j]) := Lib.hid fun _ _ j h => by
                        exfalso; rw [hdl] at h; omega
                      have HOne := Lib.hid ((HVK.out.drop l).one)
                      have HLe : Hid ([Value.slice ia (row ms i).length ic].length + (us.drop l).length ≤ 1099511627776) := Lib.hid (by rw [hdl]; simp <;> omega)
                      have HSz1 := Lib.hid HAl.out.size
                      have HRl : Hid (([Value.slice ia (row ms i).length ic] ++ us.drop l).length = 1) := Lib.hid (by (rw [List.length_append, hdl]) <;> rfl)
                      have HSq : Hid (∀ w5, Keep (fun b => (Value.slice (some ⟨wq.heap.size, 0, none⟩) 1 1).ownBlock = some b) (wq.alloc (.cells #[Value.slice ia (row ms i).length ic] 26)).drew w5 → Below wq.heap.size wq w5) := Lib.hid fun w5 hk => HAl.out.trans (hk.below fun k hk' => ⟨by have := HAl.out.size; omega, fun e => by simp [Value.ownBlock] at e; omega⟩)
                      clear hdl q0 q1
                      skip
                      go_wp2
                      go_region_held3 (fun w' => w'.cell? ⟨mg, i, none⟩ = some (Value.slice ia (row ms i).length ic)) (first | go_keep | exact HSA.out _ HAl.out) (first
                        | (refine step_app_vals wq.heap.size (wq.alloc (.cells #[Value.slice ia (row ms i).length ic] 26)).drew (.slice (some ⟨wq.heap.size, 0, none⟩) 1 1) [Value.slice ia (row ms i).length ic] (us.drop l) _ _ _ (.tmp 95) (.tmp 98) rfl rfl rfl HO1.out _ HDl.out rfl (HDc.out _ _) HOne.out HLe.out HSz1.out ?_; intro rv w5 h1 h2; have hB5 := HSq.out w5 h2; have Hq := HSA.out w5 hB5; rcases ownsRow_open h1 with ⟨_, h0⟩ | ⟨r, rcs, hrv, hrB, hrb, hrm⟩
                           · exact absurd h0 (by simp)
                           rw [HRl.out] at hrv hrm; subst hrv; have HRb := Lib.hid hrb; have HRB := Lib.hid hrB; have HRm := Lib.hid hrm; have HB5 := Lib.hid hB5; clear h1 h2 hrb hrB hrm hB5))
                      all_goals
                        clear S0 S1 Hq HO1 HDc HSq HAl HSz1 HLe
                        have hrm2 : 1 + rcs.length ≤ 9223372036854775807 := by have := HRm.out; unfold maxLen at this; omega
                        have HA5 := Lib.hid (show Below w5.heap.size w5 (w5.alloc (.cells #[] 26)) from (Below.refl _ w5).alloc (Nat.le_refl _) _)
                        have HO2 : Hid ((w5.alloc (.cells #[] 26)).ownsRow w5.heap.size 26 1 (.slice (some ⟨w5.heap.size, 0, none⟩) 0 0) ([] : List Value).length []) := Lib.hid (ownsRow_shut (cs := []) (by simpa using Blk.new w5 [] 26) (Nat.le_refl _) (by simp [maxLen]) rfl rfl)
                        have htl : (us.take l).length = l := by rw [List.length_take, HLn.out.1]; omega
                        have HTl := Lib.hid htl
                        have HTc : Hid (∀ j (h : j < (us.take l).length), (w5.alloc (.cells #[] 26)).cell? ⟨g, 0 + j, none⟩ = some (us.take l)[j]) := Lib.hid fun j h => by
                          rw [List.getElem_take, Nat.zero_add]; exact (HGq.out.under (bb HB5.out HA5.out)).vcell j (by rw [htl] at h; rw [HLn.out.1]; omega)
                        have HTone := Lib.hid ((HVK.out.take l).one)
                        have HTle : Hid (([] : List Value).length + (us.take l).length ≤ 1099511627776) := Lib.hid (by rw [htl]; simp; omega)
                        have HSz2 := Lib.hid HA5.out.size
                        have HVi := Lib.hid (VK.single HMi.out)
                        have HRone := Lib.hid ((HVi.out.append (HVK.out.drop l)).one)
                        have HRle : Hid ((us.take l).length + ([Value.slice ia (row ms i).length ic] ++ us.drop l).length ≤ 1099511627776) := Lib.hid (by rw [htl, HRl.out]; omega)
                        have HRc : Hid (∀ w6, Below w5.heap.size w5 w6 → ∀ j (h : j < ([Value.slice ia (row ms i).length ic] ++ us.drop l).length), w6.cell? ⟨r, 0 + j, none⟩ = some ([Value.slice ia (row ms i).length ic] ++ us.drop l)[j]) := Lib.hid fun w6 hb j h => by
                          rw [Nat.zero_add]; exact (HRb.out.under hb).vcell j h
                        have HS6 : Hid (∀ w6, Keep (fun b => (Value.slice (some ⟨w5.heap.size, 0, none⟩) 0 0).ownBlock = some b) (w5.alloc (.cells #[] 26)) w6 → Below w5.heap.size w5 w6) := Lib.hid fun w6 hk => HA5.out.trans (hk.below fun k hk' => ⟨by have := HA5.out.size; omega, fun e => by simp [Value.ownBlock] at e; omega⟩)
                        clear htl
                        go_wp2_with (at_builtin; go_loud (first
                          | (refine wpList_app_vals w5.heap.size (w5.alloc (.cells #[] 26)) (.slice (some ⟨w5.heap.size, 0, none⟩) 0 0) [] (us.take l) _ _ _ (.tmp 100) (.tmp 103) rfl rfl rfl HO2.out _ HTl.out rfl HTc.out HTone.out HTle.out HSz2.out ?_; intro v6 w6 h1 h2; have HB6 := Lib.hid (HS6.out w6 h2); have HO6 := Lib.hid h1; have HSz6 := Lib.hid (HS6.out w6 h2).size; clear h1 h2)
                          | (refine wpList_app_vals w5.heap.size w6 v6 (us.take l) ([Value.slice ia (row ms i).length ic] ++ us.drop l) _ _ _ (.tmp 104) (.tmp 105) rfl rfl rfl HO6.out _ HRl.out rfl (HRc.out w6 HB6.out) HRone.out HRle.out HSz6.out ?_; intro v7 w7 h1 h2; have hB7 : Below w5.heap.size w5 w7 := HB6.out.trans (h2.below fun k hk' => ⟨by have := HB6.out.size; omega, fun e => by have := (World.ownsRow.lt HO6.out k e).1; omega⟩); rcases ownsRow_open h1 with ⟨_, h0⟩ | ⟨g7, cs7, hv7, hB7', hb7, hm7⟩
                             · exact absurd h0 (by simp)
                             have hl7 : (us.take l ++ ([Value.slice ia (row ms i).length ic] ++ us.drop l)).length = l + 1 := by (rw [List.length_append, HTl.out, HRl.out]) <;> omega
                             rw [hl7] at hv7 hm7; subst hv7; have HB7 := Lib.hid hB7; have HG7 := Lib.hid hb7; have HGB7 := Lib.hid hB7'; have HM7 := Lib.hid hm7; have HL7 := Lib.hid hl7; clear h1 h2 hB7 hB7' hb7 hm7 hl7)))
                        go_roundw
                        case rel =>
                          have hput := kinds_put HAs.out HMe.out (by rw [← HVK.out.len, HLn.out.1]; omega) HLs.out (by rw [← HVK.out.len, HLn.out.1]; intro h; omega) (by rw [← HVK.out.len, HLn.out.1]; intro h; omega)
                          exact ⟨i + 1, l + 1, cs7.length, g7, ks.take l ++ ([row ms i] ++ ks.drop l), us.take l ++ ([Value.slice ia (row ms i).length ic] ++ us.drop l), cs7, by omega, by go_num, rfl, by omega, by have := HM7.out; unfold maxLen at this; omega, Lib.hid ⟨HL7.out, rfl⟩, Lib.hid (Nat.le_trans (bb HBkq.out HB5.out).size HGB7.out), HG7, Lib.hid ((HVK.out.take l).append (HVi.out.append (HVK.out.drop l))), Lib.hid hput.1, Lib.hid (by rw [HTk.out]; exact hput.2), Lib.hid (bb (bb HBkq.out HB5.out) HB7.out)⟩
                        case measure => simp [intOf]; omega
                    · have hq1 : ¬ q = 0 := by omega
                      have HSA : Hid (∀ w', Below wq.heap.size wq w' → w'.cell? ⟨mg, i, none⟩ = some (Value.slice ia (row ms i).length ic)) := Lib.hid fun w' hb => cell_under (bb HBkq.out hb) HMc.out
                      have HGq := Lib.hid (HG.out.under HBq.out)
                      have HAl := Lib.hid (show Below wq.heap.size wq (wq.alloc (.cells #[Value.slice ia (row ms i).length ic] 26)).drew from ((Below.refl _ wq).alloc (Nat.le_refl _) _).drew)
                      have S0 := HSA.out _ (Below.refl _ wq).drew
                      have S1 := HSA.out _ HAl.out
                      have HO1 : Hid ((wq.alloc (.cells #[Value.slice ia (row ms i).length ic] 26)).drew.ownsRow wq.heap.size 26 1 (.slice (some ⟨wq.heap.size, 0, none⟩) 1 1) [Value.slice ia (row ms i).length ic].length [Value.slice ia (row ms i).length ic]) := Lib.hid (ownsRow_shut (cs := []) (by simpa using (Blk.new wq [Value.slice ia (row ms i).length ic] 26).drew) (Nat.le_refl _) (by simp [maxLen]) rfl rfl)
                      have hdl : (us.drop l).length = 0 := by rw [List.length_drop, HLn.out.1]; omega
                      have HDl := Lib.hid hdl
                      have HDc : Hid (∀ sb so j (h : j < (us.drop l).length), (wq.alloc (.cells #[Value.slice ia (row ms i).length ic] 26)).drew.cell? ⟨sb, so + j, none⟩ = some (us.drop l)[j]) := Lib.hid fun _ _ j h => by
                        exfalso; rw [hdl] at h; omega
                      have HOne := Lib.hid ((HVK.out.drop l).one)
                      have HLe : Hid ([Value.slice ia (row ms i).length ic].length + (us.drop l).length ≤ 1099511627776) := Lib.hid (by rw [hdl]; simp <;> omega)
                      have HSz1 := Lib.hid HAl.out.size
                      have HRl : Hid (([Value.slice ia (row ms i).length ic] ++ us.drop l).length = 1) := Lib.hid (by (rw [List.length_append, hdl]) <;> rfl)
                      have HSq : Hid (∀ w5, Keep (fun b => (Value.slice (some ⟨wq.heap.size, 0, none⟩) 1 1).ownBlock = some b) (wq.alloc (.cells #[Value.slice ia (row ms i).length ic] 26)).drew w5 → Below wq.heap.size wq w5) := Lib.hid fun w5 hk => HAl.out.trans (hk.below fun k hk' => ⟨by have := HAl.out.size; omega, fun e => by simp [Value.ownBlock] at e; omega⟩)
                      clear hdl q0 q1
                      skip
                      go_wp2
                      go_region_held3 (fun w' => w'.cell? ⟨mg, i, none⟩ = some (Value.slice ia (row ms i).length ic)) (first | go_keep | exact HSA.out _ HAl.out) (first
                        | (refine step_app_vals wq.heap.size (wq.alloc (.cells #[Value.slice ia (row ms i).length ic] 26)).drew (.slice (some ⟨wq.heap.size, 0, none⟩) 1 1) [Value.slice ia (row ms i).length ic] (us.drop l) _ _ _ (.tmp 95) (.tmp 98) rfl rfl rfl HO1.out _ HDl.out rfl (HDc.out _ _) HOne.out HLe.out HSz1.out ?_; intro rv w5 h1 h2; have hB5 := HSq.out w5 h2; have Hq := HSA.out w5 hB5; rcases ownsRow_open h1 with ⟨_, h0⟩ | ⟨r, rcs, hrv, hrB, hrb, hrm⟩
                           · exact absurd h0 (by simp)
                           rw [HRl.out] at hrv hrm; subst hrv; have HRb := Lib.hid hrb; have HRB := Lib.hid hrB; have HRm := Lib.hid hrm; have HB5 := Lib.hid hB5; clear h1 h2 hrb hrB hrm hB5))
                      all_goals
                        clear S0 S1 Hq HO1 HDc HSq HAl HSz1 HLe
                        have hrm2 : 1 + rcs.length ≤ 9223372036854775807 := by have := HRm.out; unfold maxLen at this; omega
                        have HA5 := Lib.hid (show Below w5.heap.size w5 (w5.alloc (.cells #[] 26)) from (Below.refl _ w5).alloc (Nat.le_refl _) _)
                        have HO2 : Hid ((w5.alloc (.cells #[] 26)).ownsRow w5.heap.size 26 1 (.slice (some ⟨w5.heap.size, 0, none⟩) 0 0) ([] : List Value).length []) := Lib.hid (ownsRow_shut (cs := []) (by simpa using Blk.new w5 [] 26) (Nat.le_refl _) (by simp [maxLen]) rfl rfl)
                        have htl : (us.take l).length = l := by rw [List.length_take, HLn.out.1]; omega
                        have HTl := Lib.hid htl
                        have HTc : Hid (∀ j (h : j < (us.take l).length), (w5.alloc (.cells #[] 26)).cell? ⟨g, 0 + j, none⟩ = some (us.take l)[j]) := Lib.hid fun j h => by
                          rw [List.getElem_take, Nat.zero_add]; exact (HGq.out.under (bb HB5.out HA5.out)).vcell j (by rw [htl] at h; rw [HLn.out.1]; omega)
                        have HTone := Lib.hid ((HVK.out.take l).one)
                        have HTle : Hid (([] : List Value).length + (us.take l).length ≤ 1099511627776) := Lib.hid (by rw [htl]; simp; omega)
                        have HSz2 := Lib.hid HA5.out.size
                        have HVi := Lib.hid (VK.single HMi.out)
                        have HRone := Lib.hid ((HVi.out.append (HVK.out.drop l)).one)
                        have HRle : Hid ((us.take l).length + ([Value.slice ia (row ms i).length ic] ++ us.drop l).length ≤ 1099511627776) := Lib.hid (by rw [htl, HRl.out]; omega)
                        have HRc : Hid (∀ w6, Below w5.heap.size w5 w6 → ∀ j (h : j < ([Value.slice ia (row ms i).length ic] ++ us.drop l).length), w6.cell? ⟨r, 0 + j, none⟩ = some ([Value.slice ia (row ms i).length ic] ++ us.drop l)[j]) := Lib.hid fun w6 hb j h => by
                          rw [Nat.zero_add]; exact (HRb.out.under hb).vcell j h
                        have HS6 : Hid (∀ w6, Keep (fun b => (Value.slice (some ⟨w5.heap.size, 0, none⟩) 0 0).ownBlock = some b) (w5.alloc (.cells #[] 26)) w6 → Below w5.heap.size w5 w6) := Lib.hid fun w6 hk => HA5.out.trans (hk.below fun k hk' => ⟨by have := HA5.out.size; omega, fun e => by simp [Value.ownBlock] at e; omega⟩)
                        clear htl
                        go_wp2_with (at_builtin; go_loud (first
                          | (refine wpList_app_vals w5.heap.size (w5.alloc (.cells #[] 26)) (.slice (some ⟨w5.heap.size, 0, none⟩) 0 0) [] (us.take l) _ _ _ (.tmp 100) (.tmp 103) rfl rfl rfl HO2.out _ HTl.out rfl HTc.out HTone.out HTle.out HSz2.out ?_; intro v6 w6 h1 h2; have HB6 := Lib.hid (HS6.out w6 h2); have HO6 := Lib.hid h1; have HSz6 := Lib.hid (HS6.out w6 h2).size; clear h1 h2)
                          | (refine wpList_app_vals w5.heap.size w6 v6 (us.take l) ([Value.slice ia (row ms i).length ic] ++ us.drop l) _ _ _ (.tmp 104) (.tmp 105) rfl rfl rfl HO6.out _ HRl.out rfl (HRc.out w6 HB6.out) HRone.out HRle.out HSz6.out ?_; intro v7 w7 h1 h2; have hB7 : Below w5.heap.size w5 w7 := HB6.out.trans (h2.below fun k hk' => ⟨by have := HB6.out.size; omega, fun e => by have := (World.ownsRow.lt HO6.out k e).1; omega⟩); rcases ownsRow_open h1 with ⟨_, h0⟩ | ⟨g7, cs7, hv7, hB7', hb7, hm7⟩
                             · exact absurd h0 (by simp)
                             have hl7 : (us.take l ++ ([Value.slice ia (row ms i).length ic] ++ us.drop l)).length = l + 1 := by (rw [List.length_append, HTl.out, HRl.out]) <;> omega
                             rw [hl7] at hv7 hm7; subst hv7; have HB7 := Lib.hid hB7; have HG7 := Lib.hid hb7; have HGB7 := Lib.hid hB7'; have HM7 := Lib.hid hm7; have HL7 := Lib.hid hl7; clear h1 h2 hB7 hB7' hb7 hm7 hl7)))
                        go_roundw
                        case rel =>
                          have hput := kinds_put HAs.out HMe.out (by rw [← HVK.out.len, HLn.out.1]; omega) HLs.out (by rw [← HVK.out.len, HLn.out.1]; intro h; omega) (by rw [← HVK.out.len, HLn.out.1]; intro h; omega)
                          exact ⟨i + 1, l + 1, cs7.length, g7, ks.take l ++ ([row ms i] ++ ks.drop l), us.take l ++ ([Value.slice ia (row ms i).length ic] ++ us.drop l), cs7, by omega, by go_num, rfl, by omega, by have := HM7.out; unfold maxLen at this; omega, Lib.hid ⟨HL7.out, rfl⟩, Lib.hid (Nat.le_trans (bb HBkq.out HB5.out).size HGB7.out), HG7, Lib.hid ((HVK.out.take l).append (HVi.out.append (HVK.out.drop l))), Lib.hid hput.1, Lib.hid (by rw [HTk.out]; exact hput.2), Lib.hid (bb (bb HBkq.out HB5.out) HB7.out)⟩
                        case measure => simp [intOf]; omega
              · have HMem : Hid (∀ x, x ∈ ks ↔ x ∈ ms) := Lib.hid (by have := HMe.out; rwa [List.take_of_length_le (by rw [HMl.out]; omega)] at this)
                have hl24 : l ≤ n + n := by omega
                have hkl : ks.length = l := by rw [← HVK.out.len, HLn.out.1]
                have HKl := Lib.hid hkl
                have hmk := run_make_row' (P := Try.prog) 26 2 (.int .i64 0) 8 Try.underlying26 inf_int64 rfl .i64 .i64 l (by omega) (by omega)
                obtain ⟨W0, hW0⟩ : ∃ W0, (wz.alloc (.cells (madeCells #[.int .i64 0] l) 2)).alloc (.cells #[] 2) = W0 := ⟨_, rfl⟩
                have hB0 : Below wz.heap.size wz W0 := by rw [← hW0]; exact ((Below.refl _ _).alloc (Nat.le_refl _) _).alloc (by simp) _
                have hC0 : Blk W0 wz.heap.size 2 ((List.replicate l (0 : Int)).map (Value.int .i64) ++ []) := by
                  rw [← hW0]
                  have := (Blk.made wz (.int .i64 0) l 2).alloc (.cells #[] 2)
                  simpa using this
                have hO0 : Own wz.heap.size W0 (.slice (some ⟨wz.heap.size + 1, 0, none⟩) 0 0) [] := by
                  rw [← hW0]
                  have := Own.made0 (B := wz.heap.size) (wz.alloc (.cells (madeCells #[.int .i64 0] l) 2)) (by simp)
                  simpa using this
                have hS0 : W0.heap.size = wz.heap.size + 2 := by rw [← hW0]; simp
                have HB0 := Lib.hid hB0; have HC0 := Lib.hid hC0; have HO0 := Lib.hid hO0; have HS0 := Lib.hid hS0; have HW0 := Lib.hid hW0
                clear hB0 hC0 hO0 hS0 hW0 hkl HMe
                go_wp2
                rw [HW0.out]
                go_loopw [21, 22, 23] (fun cv ii _ wr => ∃ (i : Nat) (xs : List Int) (ca : Option Addr) (cc : Nat) (Cn : List Int), i ≤ n + n ∧ ii = .int .i64 i ∧ cv = .slice ca i cc ∧ Hid (xs.length = i) ∧ Hid (Own wz.heap.size wr (.slice ca i cc) xs) ∧ Hid (∀ j : Nat, j < i → InN l (nth xs j) ∧ row ks (nth xs j) = row ms j) ∧ Hid (Blk wr wz.heap.size 2 (Cn.map (Value.int .i64) ++ [])) ∧ Hid (Cn.length = l) ∧ Hid (∀ c : Nat, c < l → nth Cn c = ((xs.take n).count (c : Int) : Int) - ((xs.drop n).count (c : Int) : Int)) ∧ Hid (Below wz.heap.size wz wr) ∧ Hid (wz.heap.size < wr.heap.size ∧ (Value.slice ca i cc).ownBlock ≠ some wz.heap.size)) (fun _ ii _ _ => n + n - (intOf ii).toNat)
                case atStart => exact ⟨0, [], _, _, List.replicate l 0, by omega, rfl, rfl, Lib.hid rfl, HO0, Lib.hid (fun j hj => by omega), HC0, Lib.hid (by simp), Lib.hid (fun c hc => by rw [nth_nat _ _ (by simpa using hc)]; simp), HB0, Lib.hid ⟨by rw [HS0.out]; omega, fun e => by simp [Value.ownBlock] at e⟩⟩
                case round =>
                  clear HO0 HC0 HB0 HS0 HW0 hmk
                  obtain ⟨i, xs, ca, cc, Cn, hi, rfl, rfl, HXl, HO, HNum, HCb, HCl, HCv, HBy, HNe⟩ := hrel
                  obtain ⟨wy, rfl⟩ : ∃ wy : World, wy = wr := ⟨_, rfl⟩
                  by_cases hlti : i < n + n
                  · obtain ⟨ia, ic, hie, hin⟩ := HVm.out.at' i (by rw [HUl.out]; exact hlti)
                    have HMc : Hid (wk.cell? ⟨mg, i, none⟩ = some (.slice ia (row ms i).length ic)) := Lib.hid (by rw [← hie]; exact HMg.out.vcell i (by rw [HUl.out]; exact hlti))
                    have HMi := Lib.hid hin
                    obtain ⟨j0, hj0, hj0e⟩ : ∃ j0 : Nat, j0 < l ∧ row ks j0 = row ms i := by
                      have h1 : row ms i ∈ ks := (HMem.out _).2 (row_mem (by omega) (by rw [HMl.out]; omega))
                      obtain ⟨j, hj, e⟩ := List.getElem_of_mem h1
                      exact ⟨j, by rw [← HKl.out]; exact hj, by rw [row_nat _ _ hj]; exact e⟩
                    have HJ0 := Lib.hid hj0e
                    clear hie hin hj0e
                    go_wp2
                    go_loopw [23] (fun aa wr => ∃ at' : Nat, at' ≤ j0 ∧ aa = .int .i64 at' ∧ Hid (Below wy.heap.size wy wr)) (fun aa _ => l - (intOf aa).toNat)
                    case atStart => exact ⟨0, Nat.zero_le _, rfl, Lib.hid (Below.refl _ _)⟩
                    case round =>
                      obtain ⟨at', hat, rfl, HBa⟩ := hrel
                      obtain ⟨wx, rfl⟩ : ∃ wx : World, wx = wr := ⟨_, rfl⟩
                      have hla : at' < l := by omega
                      obtain ⟨ka, kc, hke, hkn⟩ := HVK.out.at' at' (by rw [HLn.out.1]; exact hla)
                      have q0 := cell_under (bb HBz.out (bb HBy.out HBa.out)) HMc.out
                      have q1 := (HG.out.under (bb HBy.out HBa.out)).vcell at' (by rw [HLn.out.1]; exact hla)
                      rw [hke] at q1
                      have HKi := Lib.hid hkn
                      have HBy2 := Lib.hid (bb HBz.out (bb HBy.out HBa.out))
                      clear hke hkn
                      have HSame : Hid (∀ nq, Calls Try.prog 94 #[.slice ka (row ks at').length kc, .slice ia (row ms i).length ic] (wx.drewN nq) (QVal (wx.drewN nq) (.bool (decide (row ks at' = row ms i))))) := Lib.hid fun nq => c_l01Same _ _ _ _ _ ((HKi.out.below HBy2.out).below (below_drewN (Below.refl _ _) nq)) ((HMi.out.below HBy2.out).below (below_drewN (Below.refl _ _) nq))
                      by_cases he : row ks at' = row ms i
                      case neg =>
                        have HSm : Hid (∀ nq, Calls Try.prog 94 #[.slice ka (row ks at').length kc, .slice ia (row ms i).length ic] (wx.drewN nq) (QVal (wx.drewN nq) (.bool false))) := Lib.hid fun nq => by have := HSame.out nq; simpa [he] using this
                        have hne : at' ≠ j0 := fun e => he (by rw [e]; exact HJ0.out)
                        clear he HSame
                        go_wp2
                        go_quiet ((go_at_call 94; exact quiet_q (HSm.out _)))
                        rename_i nq
                        have HBq := Lib.hid (below_drewN HBa.out nq)
                        go_wp2
                        go_roundw
                        case rel => exact ⟨at' + 1, by omega, by go_num, HBq⟩
                        case measure => simp [intOf]; omega
                      case pos =>
                        have HSm : Hid (∀ nq, Calls Try.prog 94 #[.slice ka (row ks at').length kc, .slice ia (row ms i).length ic] (wx.drewN nq) (QVal (wx.drewN nq) (.bool true))) := Lib.hid fun nq => by have := HSame.out nq; simpa [he] using this
                        have HE := Lib.hid he
                        clear he HSame
                        go_wp2
                        go_quiet ((go_at_call 94; exact quiet_q (HSm.out _)))
                        rename_i nq
                        have hbq := below_drewN HBa.out nq
                        generalize wx.drewN nq = wq at hbq ⊢
                        have HBq := Lib.hid hbq
                        clear q0 q1 hbq
                        have hO : Own wz.heap.size wq (.slice ca xs.length cc) xs := by rw [HXl.out]; exact HO.out.under HBq.out
                        have HOq := Lib.hid hO
                        have HSz := Lib.hid (bb HBy.out HBq.out).size
                        have HLn2 : Hid (xs.length ≤ 1099511627776) := Lib.hid (by rw [HXl.out]; omega)
                        have HCq := Lib.hid (HCb.out.under HBq.out)
                        obtain ⟨Q, hQ⟩ : ∃ Q, nth Cn at' = Q := ⟨_, rfl⟩
                        have hQv := HCv.out at' hla
                        rw [hQ] at hQv
                        have t1 : (xs.take n).count (at' : Int) ≤ 24 := by
                          have := List.count_le_length (a := (at' : Int)) (l := xs.take n)
                          rw [List.length_take] at this; have := HXl.out; omega
                        have t2 : (xs.drop n).count (at' : Int) ≤ 24 := by
                          have := List.count_le_length (a := (at' : Int)) (l := xs.drop n)
                          rw [List.length_drop] at this; have := HXl.out; omega
                        have hQ1 : -24 ≤ Q := by omega
                        have hQ2 : Q ≤ 24 := by omega
                        have HQ := Lib.hid hQ
                        have HCk : Hid (∀ W6, Keep (fun b => (Value.slice ca i cc).ownBlock = some b) wq W6 → Blk W6 wz.heap.size 2 (Cn.map (Value.int .i64) ++ [])) := Lib.hid fun W6 hk => HCq.out.of_block (hk.block _ HCq.out.lt HNe.out.2)
                        have HXs := Lib.hid (show ∀ j : Nat, j < i + 1 → InN l (nth (xs ++ [(at' : Int)]) j) ∧ row ks (nth (xs ++ [(at' : Int)]) j) = row ms j from fun j hj => by
                          have hxl := HXl.out
                          rcases Nat.lt_or_ge j i with h | h
                          · rw [nth_nat _ _ (by simp; omega), List.getElem_append_left (by omega), ← nth_nat _ _ (by omega)]
                            exact HNum.out j h
                          · have e : j = i := by omega
                            subst e
                            rw [nth_nat _ _ (by simp; omega), List.getElem_append_right (by omega)]
                            simp only [hxl, Nat.sub_self, List.getElem_cons_zero]
                            exact ⟨⟨by omega, by omega⟩, HE.out⟩)
                        have wQ1 : IntKind.i64.wrap (Q + 1) = Q + 1 := IntWalk.i64_in _ (by omega)
                        have wQ2 : IntKind.i64.wrap (Q - 1) = Q - 1 := IntWalk.i64_in _ (by omega)
                        have HNx : Hid (∀ (w6 : World) (a' : Option Addr) (c' : Nat), (∀ b, (Value.slice a' (i + 1) c').ownBlock = some b → (Value.slice ca i cc).ownBlock = some b ∨ wq.heap.size ≤ b) → (Value.slice a' (i + 1) c').ownBlock ≠ some wz.heap.size) := Lib.hid fun w6 a' c' h e => by
                          rcases h _ e with h1 | h1
                          · exact HNe.out.2 h1
                          · have := HNe.out.1; have := HBq.out.size; omega
                        have HBw6s : Hid (∀ w6, Keep (fun b => (Value.slice ca i cc).ownBlock = some b) wq w6 → wq.heap.size ≤ w6.heap.size) := Lib.hid fun w6 hk => hk.size
                        clear hO hQv t1 t2 hQ
                        by_cases hin : i < n
                        · have HVp : Hid (∀ c : Nat, c < l → nth (Cn.set at' (Q + 1)) c = (((xs ++ [(at' : Int)]).take n).count (c : Int) : Int) - (((xs ++ [(at' : Int)]).drop n).count (c : Int) : Int)) := Lib.hid fun c hc => by
                            have h1 := nth_set Cn (at' : Int) (c : Int) (Q + 1) (by omega) (by rw [HCl.out]; omega) (by omega)
                            rw [Int.toNat_natCast] at h1
                            have h2 := HCv.out c hc
                            have hxl := HXl.out
                            rw [List.take_of_length_le (by omega), List.drop_eq_nil_of_le (by omega)] at h2
                            rw [h1, List.take_of_length_le (by simp; omega), List.drop_eq_nil_of_le (by simp; omega), List.count_append, List.count_singleton]
                            by_cases e : c = at'
                            · subst e
                              rw [if_pos rfl]
                              rw [HQ.out] at h2
                              simp; simp at h2; omega
                            · rw [if_neg (by omega), h2, if_neg (by simp; omega)]; simp
                          go_wp2_with (at_builtin; refine wpList_app_intP wz.heap.size wq ca cc xs (at' : Int) _ _ rfl rfl (by rw [HXl.out]; rfl) HOq.out rfl HLn2.out HSz.out ?_; intro a' c' w6 h1 h2 _ h4; rw [HXl.out]; rw [HXl.out] at h1 h2 h4; have Ho6 := Lib.hid h1; have Hk6 := Lib.hid h2; have Hg6 := Lib.hid h4; have HC6 := Lib.hid (HCk.out w6 h2); have g1 := HC6.out.at' at' (by rw [HCl.out]; exact hla); have g2 := HC6.out.frozen at'; rw [HQ.out] at g1; have HC7 := Lib.hid (HC6.out.put' at' (by rw [HCl.out]; exact hla) (Q + 1)); clear h1 h2 h4)
                          go_roundw
                          case rel =>
                            have hkk := Hk6.out
                            have hBw6 : Below wz.heap.size wz w6 := HOq.out.frame (bb HBy.out HBq.out) (Nat.le_refl _) HSz.out (by rw [HXl.out]; exact hkk)
                            exact ⟨i + 1, xs ++ [(at' : Int)], a', c', Cn.set at' (Q + 1), by omega, by go_num, rfl, Lib.hid (by simp [HXl.out]), Lib.hid (Ho6.out.keepB (S := fun b => b = wz.heap.size) ((Keep.refl (fun b => b = wz.heap.size) w6).setCell (p := ⟨wz.heap.size, at', none⟩) (.inl rfl) _) (fun b hb e => by
                              have e : b = wz.heap.size := e
                              exact HNx.out w6 a' c' Hg6.out (by rw [← e]; exact hb))), HXs, HC7, Lib.hid (by simpa using HCl.out), HVp, Lib.hid (hBw6.setCell (p := ⟨wz.heap.size, at', none⟩) (Nat.le_refl _) _), Lib.hid ⟨Nat.lt_of_lt_of_le HNe.out.1 (Nat.le_trans HBq.out.size (by simpa [World.setCell] using HBw6s.out w6 hkk)), fun e => HNx.out w6 a' c' Hg6.out e⟩⟩
                          case measure => simp [intOf]; omega
                        · have HVp : Hid (∀ c : Nat, c < l → nth (Cn.set at' (Q - 1)) c = (((xs ++ [(at' : Int)]).take n).count (c : Int) : Int) - (((xs ++ [(at' : Int)]).drop n).count (c : Int) : Int)) := Lib.hid fun c hc => by
                            have h1 := nth_set Cn (at' : Int) (c : Int) (Q - 1) (by omega) (by rw [HCl.out]; omega) (by omega)
                            rw [Int.toNat_natCast] at h1
                            have h2 := HCv.out c hc
                            have hxl := HXl.out
                            rw [List.take_append_of_le_length (by omega), List.drop_append_of_le_length (by omega)]
                            rw [h1, List.count_append, List.count_singleton]
                            by_cases e : c = at'
                            · subst e
                              rw [if_pos rfl]
                              rw [HQ.out] at h2
                              simp; omega
                            · rw [if_neg (by omega), h2, if_neg (by simp; omega)]; simp
                          go_wp2_with (at_builtin; refine wpList_app_intP wz.heap.size wq ca cc xs (at' : Int) _ _ rfl rfl (by rw [HXl.out]; rfl) HOq.out rfl HLn2.out HSz.out ?_; intro a' c' w6 h1 h2 _ h4; rw [HXl.out]; rw [HXl.out] at h1 h2 h4; have Ho6 := Lib.hid h1; have Hk6 := Lib.hid h2; have Hg6 := Lib.hid h4; have HC6 := Lib.hid (HCk.out w6 h2); have g1 := HC6.out.at' at' (by rw [HCl.out]; exact hla); have g2 := HC6.out.frozen at'; rw [HQ.out] at g1; have HC7 := Lib.hid (HC6.out.put' at' (by rw [HCl.out]; exact hla) (Q - 1)); clear h1 h2 h4)
                          go_roundw
                          case rel =>
                            have hkk := Hk6.out
                            have hBw6 : Below wz.heap.size wz w6 := HOq.out.frame (bb HBy.out HBq.out) (Nat.le_refl _) HSz.out (by rw [HXl.out]; exact hkk)
                            exact ⟨i + 1, xs ++ [(at' : Int)], a', c', Cn.set at' (Q - 1), by omega, by go_num, rfl, Lib.hid (by simp [HXl.out]), Lib.hid (Ho6.out.keepB (S := fun b => b = wz.heap.size) ((Keep.refl (fun b => b = wz.heap.size) w6).setCell (p := ⟨wz.heap.size, at', none⟩) (.inl rfl) _) (fun b hb e => by
                              have e : b = wz.heap.size := e
                              exact HNx.out w6 a' c' Hg6.out (by rw [← e]; exact hb))), HXs, HC7, Lib.hid (by simpa using HCl.out), HVp, Lib.hid (hBw6.setCell (p := ⟨wz.heap.size, at', none⟩) (Nat.le_refl _) _), Lib.hid ⟨Nat.lt_of_lt_of_le HNe.out.1 (Nat.le_trans HBq.out.size (by simpa [World.setCell] using HBw6s.out w6 hkk)), fun e => HNx.out w6 a' c' Hg6.out e⟩⟩
                          case measure => simp [intOf]; omega
                  · have hie : i = n + n := by omega
                    have hxl : xs.length = n + n := by rw [HXl.out, hie]
                    have HKd : Hid (Kinds (marksM n F G C' D') ks xs) := Lib.hid ⟨HAs.out, fun m => by rw [HMem.out m, HMsE.out], by rw [hxl, marksM_len], fun j hj => by
                      rw [marksM_len] at hj
                      have := HNum.out j (by omega)
                      rw [HKl.out, ← HMsE.out]; exact this⟩
                    have hO : Own wz.heap.size wy (.slice ca xs.length cc) xs := by rw [HXl.out]; exact HO.out
                    rcases hO.open with ⟨_, h0⟩ | ⟨g2, cs2, hv, hgB, hgb, hgm⟩
                    · exfalso; rw [h0] at hxl; simp at hxl; omega
                    injection hv with f1 f2 f3
                    subst f1
                    have hcc : n + n ≤ cc := by omega
                    have hcm : cc ≤ maxLen := by omega
                    have hcm2 : cc ≤ 9223372036854775807 := by unfold maxLen at hcm; omega
                    have hccn : ¬ (cc = n) := by omega
                    have hin1 : i - n = n := by omega
                    have hin2 : n ≤ i := by omega
                    have HIn1 := Lib.hid hin1
                    have HI1 : Hid (∀ W, Below wy.heap.size wy W → Ints W (.slice (some ⟨g2, 0, none⟩) n cc) (xs.take n)) := Lib.hid fun W hb => by
                      have h1 : (xs.take n).length = n := by simp; omega
                      refine ⟨_, cc, by rw [h1], by rw [h1]; omega, hcm, fun j hj => ⟨g2, 0, rfl, ?_⟩⟩
                      have := (hgb.under hb).at' j (by omega)
                      rw [Nat.zero_add, this, List.getElem_take, nth_nat _ _ (by omega)]
                    have HI2 : Hid (∀ W, Below wy.heap.size wy W → Ints W (.slice (some ⟨g2, n, none⟩) n (cc - n)) (xs.drop n)) := Lib.hid fun W hb => by
                      have h1 : (xs.drop n).length = n := by simp; omega
                      refine ⟨_, cc - n, by rw [h1], by rw [h1]; omega, by omega, fun j hj => ⟨g2, n, rfl, ?_⟩⟩
                      have := (hgb.under hb).at' (n + j) (by omega)
                      rw [this, List.getElem_drop, nth_nat _ _ (by omega)]
                    have HGb2 := Lib.hid hgb
                    have HL1 : Hid (ColsOk n (xs.take n) ∧ ColsOk n (xs.drop n)) := Lib.hid (by
                      have h2 : ∀ x ∈ xs, 0 ≤ x ∧ x ≤ 60 := fun x hx => by
                        obtain ⟨j, hj, rfl⟩ := List.getElem_of_mem hx
                        have := (HNum.out j (by omega)).1
                        rw [nth_nat _ _ hj] at this
                        have h3 := this.1; have h4 := this.2
                        exact ⟨h3, by omega⟩
                      exact ⟨⟨by simp; omega, fun x hx => h2 x (List.mem_of_mem_take hx)⟩, ⟨by simp; omega, fun x hx => h2 x (List.mem_of_mem_drop hx)⟩⟩)
                    have HKps : Hid (∀ p, IsoF n F G p → Keeps n C D p → Keeps n (xs.take n) (xs.drop n) p) := Lib.hid fun p hp hk => HKd.out.keeps hp HTab.out.1 (by rw [← HKF.out.1, ← HKF.out.2]) (HKp.out p hp hk)
                    have HUs2 : Hid (Used l (xs.take n ++ xs.drop n)) := Lib.hid (by
                      rw [List.take_append_drop, ← HKl.out]
                      exact HKd.out.used)
                    have hNl : N ≤ l := by
                      rw [← HKl.out]
                      exact HKd.out.more HC.out.1 HD.out.1 HUs.out
                    have HXl2 := Lib.hid hxl
                    have HBall := Lib.hid (bb HBk.out (bb HBz.out HBy.out))
                    clear hie hxl hO hgB hgb hgm f2 f3 hcm hin1
                    go_wp2
                    go_loopw [24] (fun cv wr => ∃ c : Nat, c ≤ l ∧ cv = .int .i64 c ∧ wr = wy ∧ Hid (∀ j : Nat, j < c → nth Cn j = 0)) (fun cv _ => l - (intOf cv).toNat)
                    case atStart => exact ⟨0, Nat.zero_le _, rfl, rfl, Lib.hid (fun j hj => by omega)⟩
                    case round =>
                      obtain ⟨c, hc, rfl, hw, HZ⟩ := hrel
                      subst hw
                      by_cases hlc : c < l
                      · have g1 := HCb.out.at' c (by rw [HCl.out]; exact hlc)
                        obtain ⟨Q, hQ⟩ : ∃ Q, nth Cn c = Q := ⟨_, rfl⟩
                        rw [hQ] at g1
                        have HQ := Lib.hid hQ
                        by_cases h0 : Q = 0
                        · have HZ2 := Lib.hid (lt_snoc HZ.out (hQ.trans h0))
                          subst h0
                          clear hQ
                          go_wp2
                          go_roundw
                          case rel => exact ⟨c + 1, by omega, by go_num, by first | rfl | trivial, HZ2⟩
                          case measure => simp [intOf]; omega
                        · have hb : (Q != 0) = true := by simpa using h0
                          have HNo : Hid (∀ p, IsoF n F G p → ¬ Keeps n C D p) := Lib.hid fun p hp hk => by
                            have h1 := HKps.out p hp hk
                            have h2 := keeps_count hp h1 HL1.out.1.1 HL1.out.2.1 (c : Int)
                            have h3 := HCv.out c hlc
                            rw [hQ, h2] at h3
                            exact h0 (by omega)
                          clear hQ h0
                          go_wp2
                          refine bodyPost_ret (v := .tuple #[.slice none 0 0, .slice none 0 0, .bool false]) (by simp [results, Try.results71, go_sem]) rfl ?_
                          exact ⟨_, _, false, rfl, HBall.out, .inl ⟨rfl, rfl, rfl, HNo.out⟩⟩
                      · by_cases hNe : l = N
                        · have hb : ((l : Int) == (N : Int)) = true := by simp; omega
                          clear hNe
                          go_wp2
                          refine bodyPost_ret (v := .tuple #[.slice (some ⟨g2, 0, none⟩) n cc, .slice (some ⟨g2, n, none⟩) (i - n) (cc - n), .bool true]) (by simp [results, Try.results71, go_sem]) rfl ?_
                          exact ⟨_, _, true, rfl, HBall.out, .inr ⟨rfl, xs.take n, xs.drop n, ⟨HI1.out _ (Below.refl _ _), g2, 0, cc, _, by rw [HL1.out.1.1], HGb2.out⟩, by rw [HIn1.out]; exact ⟨HI2.out _ (Below.refl _ _), g2, n, cc - n, _, by rw [HL1.out.2.1], HGb2.out⟩, HL1.out.1, HL1.out.2, HKps.out⟩⟩
                        · have hb : ((l : Int) == (N : Int)) = false := by simp; omega
                          have hNlt : N < l := by omega
                          clear hNe
                          go_wp2
                          go_roundw
                          case rel =>
                            have e := HIn1.out
                            exact ⟨l, xs.take n, xs.drop n, some ⟨g2, 0, none⟩, some ⟨g2, n, none⟩, cc, cc - n, rfl, by rw [e], rfl, by omega, Lib.hid (HI1.out _ (Below.refl _ _)), Lib.hid (HI2.out _ (Below.refl _ _)), Lib.hid HL1.out.1, Lib.hid HL1.out.2, HBall, HKps, HUs2⟩
                          case measure => simp [intOf]; omega
end Go.Proofs.Ytgmhnjccgldddaa

namespace Go.Proofs.Ytgmhnjccgldddaa
set_option linter.unusedVariables false
set_option linter.unusedSimpArgs false
open Go Go.RowKit

theorem IntsB.under {w w' : World} {v : Value} {xs : List Int} (h : IntsB w v xs) (hb : Below w.heap.size w w') : IntsB w' v xs := by
  obtain ⟨h1, b, o, c, cs, e, h2⟩ := h
  exact ⟨h1.below hb, b, o, c, cs, e, h2.under hb⟩
theorem IntsB.keepR {B0 : Nat} {w w' : World} {u v : Value} {xs : List Int} {yss : List (List Int)} (h : IntsB w u xs) (hv : OwnRows B0 w v yss) (k : Keep (fun b => v.ownBlock = some b) w w') : IntsB w' u xs := by
  obtain ⟨h1, b, o, c, cs, e, h2⟩ := h
  obtain ⟨us', h3, h4⟩ := hv
  have hk : w'.heap[b]? = w.heap[b]? := by
    refine k.block b h2.lt fun e2 => ?_
    obtain ⟨_, hnn | ⟨g', cap', cur', hv', _, hg', _⟩⟩ := h3
    · rw [hnn.1] at e2; cases e2
    · rw [hv'] at e2
      simp [Value.ownBlock] at e2
      subst e2
      have h5 : w.heap[g']? = _ := h2
      rw [h5] at hg'
      simp at hg'
  refine ⟨?_, b, o, c, cs, e, h2.of_block hk⟩
  obtain ⟨a, c', hv, hc, hm, hcell⟩ := h1
  refine ⟨a, c', hv, hc, hm, fun i hi => ?_⟩
  obtain ⟨b', o', ha, hcl⟩ := hcell i hi
  refine ⟨b', o', ha, ?_⟩
  have hb : b' = b := by
    rw [e] at hv
    injection hv with f1
    rw [ha] at f1
    injection f1 with f1
    injection f1 with f1
    exact f1.symm
  subst hb
  simp only [World.cell?] at hcl ⊢
  rw [hk]; exact hcl

theorem quiet_l {P : Program} {f : FuncId} {args : Array Value} {w : World} {n : Nat} {v : Value}
    (h : Calls P f args (w.drewN n) fun e w' => e = .returned v ∧ w.drewN n = w') : Calls P f args (w.drewN n) fun e w'' => e = .returned v ∧ ∃ m, w'' = w.drewN m :=
  h.mono fun _ _ ⟨he, hm⟩ => ⟨he, n, hm.symm⟩
/-- What 'l03Seek' does with m images to go. -/
def SeekOk (w0 : World) (n K : Nat) (F G : List (List (List Int))) (fb fo fc gb go' gc most m : Nat) : Prop :=
  ∀ (f C D : List Int) (u v1 v2 ov : Value) (xss : List (List Int)) (B hi : Nat) (w : World), f.length + m = n → f.Nodup → (∀ x ∈ f, InN n x) → FitUp F G f → ColsOk n C → ColsOk n D → (∀ p ∈ isoP n F G f, Keeps n C D p) →
    OwnRowsIn B hi w ov xss → Own hi w u f → IntsB w v1 C → IntsB w v2 D → w0.heap.size ≤ B → B ≤ hi → hi ≤ w.heap.size → Below w0.heap.size w0 w → xss.length < most →
    Calls Try.prog 72 #[.slice (some ⟨fb, fo, none⟩) K fc, .slice (some ⟨gb, go', none⟩) K gc, u, v1, v2, .int .i64 most, ov] w (GrowPost w ov B ((xss ++ isoP n F G f).take most))

set_option maxRecDepth 100000 in
set_option maxHeartbeats 16000000 in
theorem c_l03SeekS {n K : Nat} {F G : List (List (List Int))} (w0 : World) {fb fo fc gb go' gc : Nat} {tb to tc tb' to' tc' : Nat → Nat} {rb ro rc rb' ro' rc' : Nat → Nat → Nat} (hF : Tb3 w0 fb fo n K F tb to tc rb ro rc) (hG : Tb3 w0 gb go' n K G tb' to' tc' rb' ro' rc')
    (hKF : K = F.length) (hKG : K = G.length) (hn0 : 1 ≤ n) (hn : n ≤ 12) (hK : K ≤ 12) (hfc : K ≤ fc) (hgc : K ≤ gc) (most : Nat) (hmost : most ≤ 1048576) (m : Nat) (ih : SeekOk w0 n K F G fb fo fc gb go' gc most m) :
    SeekOk w0 n K F G fb fo fc gb go' gc most (m + 1) := by
  intro f C D u v1 v2 ov xss B hi w hm hnd hr hfit hC hD hkp hx hu hv1 hv2 hwB hB hhi hw hlt
  have HTab := Lib.hid (hF.tabs hKF)
  have hfn : f.length < n := by omega
  have HFit := Lib.hid (fun (W : World) (hb : Below w0.heap.size w0 W) (g : List Int) (u : Value) (hu : Ints W u g) (hl : g.length = f.length + 1) (hr : ∀ x ∈ g, InN n x) => c_l03Fits f.length g u W (hF.below hb) (hG.below hb) hKF hn hK hfc hgc hu hl hfn hr)
  have HRef := Lib.hid (fun (W : World) (hb : Below w0.heap.size w0 W) (C D : List Int) (u v : Value) (hu : Ints W u C) (hv : Ints W v D) (hC : ColsOk n C) (hD : ColsOk n D) => c_l03Refine C D u v W (hF.below hb) (hG.below hb) hKF hKG hn0 hn hK hfc hgc hu hv hC hD)
  obtain ⟨a, c, rfl, _⟩ := hu.shape
  obtain ⟨a2, c2, rfl, _⟩ := hx.rows.shape
  obtain ⟨_, b1, o1, c1, cs1, rfl, hbk1⟩ := id hv1
  obtain ⟨_, b2, o2, cc2, cs2, rfl, hbk2⟩ := id hv2
  have he : ((f.length : Int) == (n : Int)) = false := by simp; omega
  have HX := Lib.hid hx.out; have HU := Lib.hid hu; have IH := Lib.hid ih; have HV1 := Lib.hid hv1; have HV2 := Lib.hid hv2; have HMs := Lib.hid hm
  have HNd := Lib.hid hnd; have HR := Lib.hid hr; have HFu := Lib.hid hfit; have HC := Lib.hid hC; have HD := Lib.hid hD; have HKp := Lib.hid hkp; have HW := Lib.hid hw
  rw [hC.1, hD.1]
  rw [hC.1] at HV1; rw [hD.1] at HV2
  obtain ⟨L, hL⟩ : ∃ L, f.length = L := ⟨_, rfl⟩
  have HL := Lib.hid hL
  rw [hL] at he hfn ⊢
  have HBw : B ≤ w.heap.size := Nat.le_trans hB hhi
  clear hx hu hm ih hv1 hv2 hnd hr hfit hC hD hkp hw hF hG hKF hKG hbk1 hbk2 hL
  go_enter Try.func72, Try.ntmps72
  go_wp2
  go_loopw [6, 16, 17, 18, 19, 20, 21, 22] (fun s yy _ _ _ _ _ _ wr => ∃ (y : Nat) (ys : List (List Int)) (ra : Option Addr) (rc : Nat), y ≤ n ∧ yy = .int .i64 y ∧ s = .slice ra ys.length rc ∧ ys.length ≤ most ∧ Hid (ys = (xss ++ partP n F G f y).take most) ∧ Hid (OwnRows B wr (.slice ra ys.length rc) ys) ∧ Hid (Keep (fun b => (Value.slice a2 xss.length c2).ownBlock = some b) w wr) ∧ Hid (∀ b, (Value.slice ra ys.length rc).ownBlock = some b → (Value.slice a2 xss.length c2).ownBlock = some b ∨ w.heap.size ≤ b) ∧
    Hid (Own hi wr (.slice a L c) f) ∧ Hid (IntsB wr (.slice (some ⟨b1, o1, none⟩) n c1) C) ∧ Hid (IntsB wr (.slice (some ⟨b2, o2, none⟩) n cc2) D) ∧ Hid (Below w0.heap.size w0 wr)) (fun _ yy _ _ _ _ _ _ _ => n - (intOf yy).toNat)
  case atStart => exact ⟨0, xss, a2, c2, Nat.zero_le _, rfl, rfl, by omega, Lib.hid (by rw [partP_zero (by rw [HL.out]; exact hfn), List.append_nil, List.take_of_length_le (by omega)]), HX, Lib.hid (Keep.refl _ _), Lib.hid fun b e => .inl e, Lib.hid (by have := HU.out; rwa [HL.out] at this), HV1, HV2, HW⟩
  case round =>
    clear HU HX HV1 HV2 HW
    obtain ⟨y, ys, ra, rc, hy, rfl, rfl, hys, HY, HO, HK, HOB, HU, HV1, HV2, HW⟩ := hrel
    obtain ⟨wo, rfl⟩ : ∃ wo : World, wo = wr := ⟨_, rfl⟩
    by_cases hlt2 : y < n
    · by_cases hfull : ys.length < most
      · have HY2 : Hid (ys = xss ++ partP n F G f y) := Lib.hid (by rw [HY.out] at hfull ⊢; exact take_room hfull)
        have HSt : Hid (∀ zs : List (List Int), zs = ((xss ++ partP n F G f y) ++ isoP n F G (f ++ [(y : Int)])).take most → zs = (xss ++ partP n F G f (y + 1)).take most) := Lib.hid fun zs h => by rw [h, partP_succ _ (by rw [HL.out]; exact hfn), List.append_assoc]
        have hfull2 : ((ys.length : Nat) : Int) < (most : Int) := by omega
        go_wp2_with fail
        refine (c_l01Own _ f _ HU.out.ints (by rw [HL.out]; omega)).mono ?_; rintro e w1 ⟨r1, rfl, ho1, hb1⟩
        obtain ⟨a1, c1', rfl, _⟩ := ho1.shape
        have HO1 := Lib.hid ho1; have HB1 := Lib.hid hb1; have HSz := Lib.hid hb1.size
        have HSl : Hid (f.length ≤ 1099511627776) := Lib.hid (by rw [HL.out]; omega)
        rw [HL.out]
        clear ho1 hb1
        go_wp2_with (at_builtin; go_must (refine wpList_app_int wo.heap.size w1 _ f y _ _ rfl rfl (by rw [← HL.out]; rfl) HO1.out rfl HSl.out HSz.out ?_); intro a' c' w2 hown' hkeep; rw [HL.out]; rw [HL.out] at hown'; have Hk := Lib.hid hkeep; have Ho' := Lib.hid hown'; clear hkeep hown')
        have hb2 : Below wo.heap.size wo w2 := HO1.out.frame HB1.out (Nat.le_refl _) HSz.out Hk.out
        have HB2 := Lib.hid hb2
        have i1 := (HV1.out.under hb2).1.at L (by rw [HC.out.1]; exact hfn)
        have i2 := (HV2.out.under hb2).1.at y (by rw [HD.out.1]; exact hlt2)
        obtain ⟨P, hP⟩ : ∃ P, nth C L = P := ⟨_, rfl⟩
        obtain ⟨Q, hQ⟩ : ∃ Q, nth D y = Q := ⟨_, rfl⟩
        rw [hP] at i1; rw [hQ] at i2
        have HPQ := Lib.hid (And.intro hP hQ)
        have HHas : Hid (∀ nq, Calls Try.prog 96 #[.slice a L c, .int .i64 y] (w2.drewN nq) fun e w' => e = .returned (.bool (decide ((y : Int) ∈ f))) ∧ w2.drewN nq = w') := Lib.hid fun nq => c_l01Has _ _ _ _ ((HU.out.ints.below HB2.out).below (below_drewN (Below.refl _ _) nq))
        have HNi := Lib.hid (show ∀ x ∈ f ++ [(y : Int)], InN n x from fun x hx => by
          rcases List.mem_append.1 hx with h | h
          · exact HR.out x h
          · simp at h; subst h; exact ⟨by omega, by omega⟩)
        have HFits : Hid (∀ nq, Calls Try.prog 70 #[.slice (some ⟨fb, fo, none⟩) K fc, .slice (some ⟨gb, go', none⟩) K gc, .slice a' (L + 1) c'] (w2.drewN nq) (QVal (w2.drewN nq) (.bool (fitsB F G (f ++ [(y : Int)]) f.length)))) := Lib.hid fun nq => HFit.out _ (bb HW.out (below_drewN HB2.out nq)) (f ++ [(y : Int)]) _ (Ho'.out.ints.below (below_drewN (Below.refl _ _) nq)) (by simp) HNi.out
        clear hP hQ hb2
        by_cases hin : (y : Int) ∈ f
        · have HNext := Lib.hid (HSt.out ys (by rw [isoP_has hin, List.append_nil]; exact HY.out))
          have HH : Hid (∀ nq, Calls Try.prog 96 #[.slice a L c, .int .i64 y] (w2.drewN nq) fun e w' => e = .returned (.bool true) ∧ w2.drewN nq = w') := Lib.hid fun nq => by have := HHas.out nq; simpa [hin] using this
          clear hin HHas
          go_quiet ((go_at_call 96; exact quiet_l (HH.out _)))
          rename_i nq
          have HBq := Lib.hid (below_drewN HB2.out nq)
          go_wp2
          go_roundw
          case rel => exact ⟨y + 1, ys, ra, rc, by omega, by go_num, rfl, hys, HNext, Lib.hid (HO.out.under HBq.out), Lib.hid (HK.out.under HBq.out), HOB, Lib.hid (HU.out.under HBq.out), Lib.hid (HV1.out.under HBq.out), Lib.hid (HV2.out.under HBq.out), Lib.hid (bb HW.out HBq.out)⟩
          case measure => simp [intOf]; omega
        have HNin := Lib.hid hin
        have HH : Hid (∀ nq, Calls Try.prog 96 #[.slice a L c, .int .i64 y] (w2.drewN nq) fun e w' => e = .returned (.bool false) ∧ w2.drewN nq = w') := Lib.hid fun nq => by have := HHas.out nq; simpa [hin] using this
        clear hin HHas
        by_cases hpq : P = Q
        case neg =>
          have HNext := Lib.hid (HSt.out ys (by rw [isoP_cols HKp.out (by rw [HL.out, HPQ.out.1, HPQ.out.2]; exact hpq), List.append_nil]; exact HY.out))
          have hb : (P != Q) = true := by simpa using hpq
          clear hpq
          go_quiet ((go_at_call 96; exact quiet_l (HH.out _)))
          rename_i nq
          have HBq := Lib.hid (below_drewN HB2.out nq)
          go_wp2
          go_roundw
          case rel => exact ⟨y + 1, ys, ra, rc, by omega, by go_num, rfl, hys, HNext, Lib.hid (HO.out.under HBq.out), Lib.hid (HK.out.under HBq.out), HOB, Lib.hid (HU.out.under HBq.out), Lib.hid (HV1.out.under HBq.out), Lib.hid (HV2.out.under HBq.out), Lib.hid (bb HW.out HBq.out)⟩
          case measure => simp [intOf]; omega
        have hb : (P != Q) = false := by simp [hpq]
        clear hpq
        by_cases hft : FitAll F G (f ++ [(y : Int)]) f.length
        case neg =>
          have HNext := Lib.hid (HSt.out ys (by rw [isoP_fits HTab.out (by rw [HL.out]; exact hfn) hft, List.append_nil]; exact HY.out))
          have HF2 : Hid (∀ nq, Calls Try.prog 70 #[.slice (some ⟨fb, fo, none⟩) K fc, .slice (some ⟨gb, go', none⟩) K gc, .slice a' (L + 1) c'] (w2.drewN nq) (QVal (w2.drewN nq) (.bool false))) := Lib.hid fun nq => by have := HFits.out nq; unfold fitsB at this; simpa [hft] using this
          clear hft HFits
          go_quiet ((first | (go_at_call 96; exact quiet_l (HH.out _)) | (go_at_call 70; exact quiet_q (HF2.out _))))
          rename_i nq
          have HBq := Lib.hid (below_drewN HB2.out nq)
          go_wp2
          go_roundw
          case rel => exact ⟨y + 1, ys, ra, rc, by omega, by go_num, rfl, hys, HNext, Lib.hid (HO.out.under HBq.out), Lib.hid (HK.out.under HBq.out), HOB, Lib.hid (HU.out.under HBq.out), Lib.hid (HV1.out.under HBq.out), Lib.hid (HV2.out.under HBq.out), Lib.hid (bb HW.out HBq.out)⟩
          case measure => simp [intOf]; omega
        have HFt := Lib.hid hft
        have HF2 : Hid (∀ nq, Calls Try.prog 70 #[.slice (some ⟨fb, fo, none⟩) K fc, .slice (some ⟨gb, go', none⟩) K gc, .slice a' (L + 1) c'] (w2.drewN nq) (QVal (w2.drewN nq) (.bool true))) := Lib.hid fun nq => by have := HFits.out nq; unfold fitsB at this; simpa [hft] using this
        clear hft HFits
        go_quiet ((first | (go_at_call 96; exact quiet_l (HH.out _)) | (go_at_call 70; exact quiet_q (HF2.out _))))
        rename_i nq
        have hb3 := below_drewN HB2.out nq
        have ho3 : Own wo.heap.size (w2.drewN nq) (.slice a' (L + 1) c') (f ++ [(y : Int)]) := Ho'.out.under (below_drewN (Below.refl _ _) nq)
        generalize w2.drewN nq = w3 at hb3 ho3 ⊢
        have HB3 := Lib.hid hb3; have HO3 := Lib.hid ho3
        clear i1 i2 hb hb3 ho3 HH HF2
        go_wp2_with fail
        refine (c_l01Own _ C _ (HV1.out.under HB3.out).1 (by rw [HC.out.1]; omega)).mono ?_; rintro e w4 ⟨r4, rfl, ho4, hb4⟩
        rcases ho4.open with ⟨_, h0⟩ | ⟨g1, d1, hv4, hg4, hk4, hm4⟩
        · exfalso; have := HC.out.1; rw [h0] at this; simp at this; omega
        rw [HC.out.1] at hv4 hm4
        subst hv4
        have HB4 := Lib.hid hb4; have HK4 := Lib.hid hk4; have HM4 := Lib.hid hm4; have HG4 := Lib.hid hk4.lt
        clear ho4 hb4 hk4 hm4
        go_wp2_with fail
        refine (c_l01Own _ D _ (HV2.out.under (bb HB3.out HB4.out)).1 (by rw [HD.out.1]; omega)).mono ?_; rintro e w5 ⟨r5, rfl, ho5, hb5⟩
        rcases ho5.open with ⟨_, h0⟩ | ⟨g2, d2, hv5, hg5, hk5, hm5⟩
        · exfalso; have := HD.out.1; rw [h0] at this; simp at this; omega
        rw [HD.out.1] at hv5 hm5
        subst hv5
        have hgg : g1 ≠ g2 := by have := HG4.out; omega
        have hk1 := HK4.out.under hb5
        have j1 := hk1.at' L (by rw [HC.out.1]; exact hfn); have j2 := hk1.frozen L
        have k1 := hk5.other (a := ⟨g1, L, none⟩) (fun e => hgg e.symm) (.int .i64 60)
        have j3 := k1.at' y (by rw [HD.out.1]; exact hlt2); have j4 := k1.frozen y
        have p1 := (hk1.put' L (by rw [HC.out.1]; exact hfn) 60).other (a := ⟨g2, y, none⟩) hgg (.int .i64 60)
        have p2 := k1.put' y (by rw [HD.out.1]; exact hlt2) 60
        have hn1 : n + d1.length ≤ 9223372036854775807 := by have := HM4.out; unfold maxLen at this; omega
        have hn2 : n + d2.length ≤ 9223372036854775807 := by unfold maxLen at hm5; omega
        have hb6 : Below w3.heap.size w3 ((w5.setCell ⟨g1, L, none⟩ (.int .i64 60)).setCell ⟨g2, y, none⟩ (.int .i64 60)) := ((bb HB4.out hb5).setCell (p := ⟨g1, L, none⟩) hg4 _).setCell (p := ⟨g2, y, none⟩) (Nat.le_trans HB4.out.size hg5) _
        have hi1 : Ints ((w5.setCell ⟨g1, L, none⟩ (.int .i64 60)).setCell ⟨g2, y, none⟩ (.int .i64 60)) (.slice (some ⟨g1, 0, none⟩) n (n + d1.length)) (C.set L 60) := (Own.shut (B := 0) p1 (Nat.zero_le _) (by simpa [HC.out.1] using HM4.out) (by simp [HC.out.1]) (by simp [HC.out.1])).ints
        have hi2 : Ints ((w5.setCell ⟨g1, L, none⟩ (.int .i64 60)).setCell ⟨g2, y, none⟩ (.int .i64 60)) (.slice (some ⟨g2, 0, none⟩) n (n + d2.length)) (D.set y 60) := (Own.shut (B := 0) p2 (Nat.zero_le _) (by simpa [HD.out.1] using hm5) (by simp [HD.out.1]) (by simp [HD.out.1])).ints
        have HB6 := Lib.hid (bb HB3.out hb6); have HB36 := Lib.hid hb6; have HI1 := Lib.hid hi1; have HI2 := Lib.hid hi2
        clear ho5 hb5 hk5 hm5 hgg hk1 k1 p1 p2 hb6 hi1 hi2 hg4 hg5
        go_wp2_with fail
        generalize (w5.setCell ⟨g1, L, none⟩ (.int .i64 60)).setCell ⟨g2, y, none⟩ (.int .i64 60) = w6 at HB6 HB36 HI1 HI2 ⊢
        clear j1 j2 j3 j4
        refine (HRef.out w6 (bb HW.out HB6.out) (C.set L 60) (D.set y 60) _ _ HI1.out HI2.out (colsOk_set HC.out L) (colsOk_set HD.out y)).mono ?_
        rintro e w7 ⟨r1, r2, b, rfl, hb7, (⟨rfl, rfl, rfl, hno⟩ | ⟨rfl, C', D', hr1, hr2, hC', hD', hkk⟩)⟩
        · have HNext := Lib.hid (HSt.out ys (by
            rw [isoP_none (C := C.set L 60) (D := D.set y 60) (by rw [← HL.out]; exact keeps_set HC.out.1 HD.out.1 hlt2 HKp.out) hno, List.append_nil]; exact HY.out))
          have HBq := Lib.hid (bb HB6.out hb7)
          clear hb7 hno
          go_wp2
          go_roundw
          case rel => exact ⟨y + 1, ys, ra, rc, by omega, by go_num, rfl, hys, HNext, Lib.hid (HO.out.under HBq.out), Lib.hid (HK.out.under HBq.out), HOB, Lib.hid (HU.out.under HBq.out), Lib.hid (HV1.out.under HBq.out), Lib.hid (HV2.out.under HBq.out), Lib.hid (bb HW.out HBq.out)⟩
          case measure => simp [intOf]; omega
        · have HB7 := Lib.hid (bb HB6.out hb7)
          have HO7 := Lib.hid (HO3.out.under (bb HB36.out hb7))
          obtain ⟨_, e1, f1, h1, m1, rfl, hbm1⟩ := id hr1
          obtain ⟨_, e2, f2, h2, m2, rfl, hbm2⟩ := id hr2
          rw [hC'.1, hD'.1]
          rw [hC'.1] at hr1; rw [hD'.1] at hr2
          have HR1 := Lib.hid hr1; have HR2 := Lib.hid hr2
          have HCall : Hid (Calls Try.prog 72 #[.slice (some ⟨fb, fo, none⟩) K fc, .slice (some ⟨gb, go', none⟩) K gc, .slice a' (L + 1) c', .slice (some ⟨e1, f1, none⟩) n h1, .slice (some ⟨e2, f2, none⟩) n h2, .int .i64 most, .slice ra ys.length rc] w7 (GrowPost w7 (.slice ra ys.length rc) B ((ys ++ isoP n F G (f ++ [(y : Int)])).take most))) := by
            refine Lib.hid (IH.out (f ++ [(y : Int)]) C' D' _ _ _ _ ys B wo.heap.size w7 (by have := HMs.out; simp; omega) ?_ HNi.out (HFu.out.snoc HTab.out (by rw [HL.out]; exact hfn) HFt.out) hC' hD' (fun p hp => hkk p (mem_isoP.1 hp).1 ?_) (HO.out.inn.under HB7.out) HO7.out hr1 hr2 hwB (Nat.le_trans HBw HK.out.size) HB7.out.size (bb HW.out HB7.out) hfull)
            · rw [List.nodup_append]
              exact ⟨HNd.out, by simp, fun a ha b hb e => by simp at hb; subst hb; subst e; exact HNin.out ha⟩
            · have := keeps_set HC.out.1 HD.out.1 hlt2 HKp.out p hp
              rwa [HL.out] at this
          clear hb7 hr1 hr2 hC' hD' hkk hbm1 hbm2
          go_wp2_with fail
          refine HCall.out.mono ?_
          rintro e w8 ⟨r, rfl, hr, hk8, hob8⟩
          obtain ⟨ra3, rc3, rfl, _⟩ := hr.rows.shape
          obtain ⟨zs, hzs⟩ : ∃ zs, (ys ++ isoP n F G (f ++ [(y : Int)])).take most = zs := ⟨_, rfl⟩
          rw [hzs] at hr hob8 ⊢
          have hzl : zs.length ≤ most := by rw [← hzs, List.length_take]; omega
          have HNext := Lib.hid (HSt.out zs (by rw [← HY2.out, hzs]))
          have HR8 := Lib.hid hr; have HK8 := Lib.hid hk8; have HOB8 := Lib.hid hob8
          clear hr hk8 hob8 hzs
          go_wp2
          go_roundw
          case rel =>
            refine ⟨y + 1, zs, ra3, rc3, by omega, by go_num, rfl, hzl, HNext, HR8, Lib.hid ?_, Lib.hid fun b hb => ?_, Lib.hid ?_, Lib.hid ?_, Lib.hid ?_, Lib.hid ?_⟩
            · refine (HK.out.under HB7.out).chain HK8.out fun b hb h => ?_
              rcases HOB.out b h with h1 | h1
              · exact h1
              · omega
            · rcases HOB8.out b hb with h1 | h1
              · exact HOB.out b h1
              · exact .inr (Nat.le_trans HK.out.size (Nat.le_trans HB7.out.size h1))
            · exact (HU.out.under HB7.out).keepR (HO.out.inn.under HB7.out).out HK8.out
            · exact (HV1.out.under HB7.out).keepR (HO.out.inn.under HB7.out).out HK8.out
            · exact (HV2.out.under HB7.out).keepR (HO.out.inn.under HB7.out).out HK8.out
            · exact (bb HW.out HB7.out).trans (HK8.out.below fun b hb => ⟨by have := (bb HW.out HB7.out).size; omega, fun e => by
                have := (OwnRows.lt HO.out e).1; omega⟩)
          case measure => simp [intOf]; omega
      · have hfin : (xss ++ isoP n F G f).take most = ys := by
          obtain ⟨R, hR⟩ := partP_more (F := F) (G := G) (f := f) y (by rw [HL.out]; exact hfn) (n - y)
          rw [show y + (n - y) = n by omega, partP_all (by rw [HL.out]; exact hfn)] at hR
          rw [hR, ← List.append_assoc, take_full (by rw [← HY.out]; omega), ← HY.out]
        have HF := Lib.hid hfin
        have hfull2 : ¬ ((ys.length : Nat) : Int) < (most : Int) := by omega
        clear hfin
        go_wp2
        go_ret
        exact ⟨_, rfl, by rw [HF.out]; exact HO.out, HK.out, HOB.out⟩
    · have hfin : (xss ++ isoP n F G f).take most = ys := by
        have e : y = n := by omega
        have h := HY.out
        rw [e, partP_all (by rw [HL.out]; exact hfn)] at h
        exact h.symm
      have HF := Lib.hid hfin
      clear hfin
      go_wp2
      go_ret
      exact ⟨_, rfl, by rw [HF.out]; exact HO.out, HK.out, HOB.out⟩

set_option maxRecDepth 100000 in
set_option maxHeartbeats 4000000 in
theorem c_l03Seek0 {n K : Nat} {F G : List (List (List Int))} (w0 : World) {fb fo fc gb go' gc : Nat} (hT : Tabs n F) (hn : n ≤ 12) (most : Nat) (hmost : most ≤ 1048576) : SeekOk w0 n K F G fb fo fc gb go' gc most 0 := by
  intro f C D u v1 v2 ov xss B hi w hm hnd hr hfit hC hD hkp hx hu hv1 hv2 hwB hB hhi hw hlt
  have hfl : f.length = n := by omega
  have hres : (xss ++ isoP n F G f).take most = xss ++ [f] := by
    rw [isoP_full (hfit.full hT hfl hnd hr), List.take_of_length_le (by simp; omega)]
  rw [hres]
  obtain ⟨a, c, rfl, _⟩ := hu.shape
  obtain ⟨a2, c2, rfl, _⟩ := hx.rows.shape
  obtain ⟨_, b1, o1, c1, cs1, rfl, hbk1⟩ := id hv1
  obtain ⟨_, b2, o2, cc2, cs2, rfl, hbk2⟩ := id hv2
  have he : ((f.length : Int) == (n : Int)) = true := by simp [hfl]
  have HX := Lib.hid hx; have HU := Lib.hid hu
  have hb1 : Hid (xss.length ≤ 1099511627776) := by show _ ≤ _; omega
  have hBw : Hid (B ≤ w.heap.size) := by show _ ≤ _; omega
  have HHi := Lib.hid hhi; have HFl := Lib.hid hfl
  rw [hC.1, hD.1]
  clear hx hu hfl hm hfit hC hD hkp hv1 hv2 hwB hhi hw hbk1 hbk2 hres hnd hr
  go_enter Try.func72, Try.ntmps72
  go_wp2_with fail
  refine (c_l01Own _ f _ HU.out.ints (by rw [HFl.out]; omega)).mono ?_; rintro e w1 ⟨r1, rfl, ho1, hb1'⟩
  obtain ⟨a1, c1', rfl, _⟩ := ho1.shape
  have HO1 := Lib.hid ho1; have HB1 := Lib.hid hb1'
  have HX1 : Hid (OwnRowsIn B w.heap.size w1 (.slice a2 xss.length c2) xss) := Lib.hid ((OwnRows.inn HX.out.out).under hb1')
  clear ho1 hb1'
  go_wp2_with (at_builtin; go_must (refine wpList_app_row2 B w.heap.size w1 _ xss _ f _ _ rfl rfl rfl HX1.out HO1.out rfl hb1.out hBw.out (Nat.le_trans hBw.out HB1.out.size) ?_); intro g c' w' hown' hkeep hg; have Hk := Lib.hid hkeep; have Ho' := Lib.hid hown'; have HG := Lib.hid hg; clear hkeep hown' hg)
  go_ret
  refine ⟨_, rfl, Ho'.out, ((Keep.refl (fun b => (Value.slice a2 xss.length c2).ownBlock = some b) w).under HB1.out).trans Hk.out, fun b e => ?_⟩
  simp [Value.ownBlock] at e
  subst e
  rcases HG.out with h | h
  · exact .inl h
  · exact .inr (Nat.le_trans HB1.out.size h)
theorem c_l03Seek {n K : Nat} {F G : List (List (List Int))} (w0 : World) {fb fo fc gb go' gc : Nat} {tb to tc tb' to' tc' : Nat → Nat} {rb ro rc rb' ro' rc' : Nat → Nat → Nat} (hF : Tb3 w0 fb fo n K F tb to tc rb ro rc) (hG : Tb3 w0 gb go' n K G tb' to' tc' rb' ro' rc')
    (hKF : K = F.length) (hKG : K = G.length) (hn0 : 1 ≤ n) (hn : n ≤ 12) (hK : K ≤ 12) (hfc : K ≤ fc) (hgc : K ≤ gc) (most : Nat) (hmost : most ≤ 1048576) : ∀ m, SeekOk w0 n K F G fb fo fc gb go' gc most m
  | 0 => c_l03Seek0 w0 (hF.tabs hKF) hn most hmost
  | m + 1 => c_l03SeekS w0 hF hG hKF hKG hn0 hn hK hfc hgc most hmost m (c_l03Seek w0 hF hG hKF hKG hn0 hn hK hfc hgc most hmost m)
end Go.Proofs.Ytgmhnjccgldddaa

namespace Go.Proofs.Ytgmhnjccgldddaa
set_option linter.unusedVariables false
set_option linter.unusedSimpArgs false
open Go Go.RowKit

theorem zero_keeps {n : Nat} {F G : List (List (List Int))} {p : List Int} (hp : IsoF n F G p) : Keeps n (List.replicate n 0) (List.replicate n 0) p := fun x hx => by
  have h : ∀ y, InN n y → nth (List.replicate n 0) y = 0 := fun y hy => by
    have : y.toNat < n := by have := hy.2; have := hy.1; omega
    simp [nth, this]
  rw [h _ (iso_rng hp hx), h x hx]
theorem two_new (W : World) (o1 o2 : Obj) : ((W.alloc o1).alloc o2).drew.heap[W.heap.size]? = some o1 ∧ ((W.alloc o1).alloc o2).drew.heap[W.heap.size + 1]? = some o2 ∧ Below W.heap.size W ((W.alloc o1).alloc o2).drew := by
  have h1 := heap_alloc_new W o1
  have h2 := heap_alloc_new (W.alloc o1) o2
  have e1 : (W.alloc o1).heap.size = W.heap.size + 1 := by simp
  rw [e1] at h2
  refine ⟨?_, h2, (((Below.refl _ W).alloc (Nat.le_refl _) _).alloc (by simp) _).drew⟩
  show ((W.alloc o1).alloc o2).heap[W.heap.size]? = some o1
  rw [Below.heap_alloc _ _ _ (by simp)]; exact h1
theorem blk_zero {V : World} {b n : Nat} (h : V.heap[b]? = some (.cells (madeCells #[.int .i64 0] n) 2)) : Blk V b 2 ((List.replicate n (0 : Int)).map (Value.int .i64)) := by
  unfold Blk
  rw [h]
  congr 2
  apply Array.ext'
  rw [toList_madeCells_one]; simp
theorem zeros_ok (n : Nat) : ColsOk n (List.replicate n 0) := ⟨by simp, fun x hx => by simp at hx; omega⟩

set_option maxRecDepth 100000 in
set_option maxHeartbeats 8000000 in
theorem c_l03Maps {n K : Nat} {F G : List (List (List Int))} {fb fo fc gb go' gc : Nat} {tb to tc tb' to' tc' : Nat → Nat} {rb ro rc rb' ro' rc' : Nat → Nat → Nat} (w : World) (hF : Tb3 w fb fo n K F tb to tc rb ro rc) (hG : Tb3 w gb go' n K G tb' to' tc' rb' ro' rc')
    (hKF : K = F.length) (hKG : K = G.length) (hn0 : 1 ≤ n) (hn : n ≤ 12) (hK0 : 1 ≤ K) (hK : K ≤ 12) (hfc : K ≤ fc) (hgc : K ≤ gc) (most : Nat) (hm1 : 1 ≤ most) (hmost : most ≤ 1048576) :
    Calls Try.prog 50 #[.slice (some ⟨fb, fo, none⟩) K fc, .slice (some ⟨gb, go', none⟩) K gc, .slice none 0 0, .int .i64 most] w (RRows w ((isoAll n F G).take most)) := by
  have q1 := hF.tab 0 hK0
  have q2 := hG.tab 0 hK0
  simp only [Nat.add_zero] at q1 q2
  have p1 : (0 : Int) < K := by omega
  have p2 : 0 < K := by omega
  have HRef := Lib.hid (fun (W : World) (hb : Below w.heap.size w W) (C D : List Int) (u v : Value) (hu : Ints W u C) (hv : Ints W v D) (hC : ColsOk n C) (hD : ColsOk n D) => c_l03Refine C D u v W (hF.below hb) (hG.below hb) hKF hKG hn0 hn hK hfc hgc hu hv hC hD)
  have HSk := Lib.hid (c_l03Seek w hF hG hKF hKG hn0 hn hK hfc hgc most hmost n)
  have hmk := run_make_row' (P := Try.prog) 26 2 (.int .i64 0) 8 Try.underlying26 inf_int64 rfl .i64 .i64 n (by omega) (by omega)
  have HQ1 := Lib.hid q1
  clear hF hG hKF hKG
  go_enter Try.func50, Try.ntmps50
  go_wp2
  go_quiet (fail)
  rename_i nq
  have hb0 := below_drewN (Below.refl w.heap.size w) nq
  generalize w.drewN nq = w1 at hb0 ⊢
  have HB0 := Lib.hid hb0
  clear q1 q2
  have q1 := cell_under hb0 HQ1.out
  have Q1 := Lib.hid q1
  clear hb0
  go_wp2_with fail
  apply cut_waysZ
  · intro key
    go_region_held3 (fun w' => w'.cell? ⟨fb, fo, none⟩ = some (.slice (some ⟨tb 0, to 0, none⟩) n (tc 0))) (first | go_keep | exact cell_under (Below.refl _ w1).drew Q1.out | exact cell_under ((Below.refl _ w1).alloc (Nat.le_refl _) _).drew Q1.out | exact cell_under (((Below.refl _ w1).alloc (Nat.le_refl _) _).alloc (by simp) _).drew Q1.out) (fail)
    all_goals
      rename_i hHz
      clear hHz
      generalize hV : World.drew (World.alloc (World.alloc w1 _) _) = V
      obtain ⟨t0, t1, tB⟩ := two_new w1 _ _
      rw [hV] at t0 t1 tB
      have hz0 := blk_zero t0
      have hz1 := blk_zero t1
      have HB := Lib.hid tB
      clear hV t0 t1 tB
      first
        | (have hz := And.intro hz1 hz0; clear hz0 hz1; generalize w1.heap.size + 1 = i1 at hz ⊢; generalize w1.heap.size = i2 at hz ⊢; have HZ := Lib.hid hz; clear hz; revert HZ HB; revert i2; revert i1; revert V; exact key.out)
        | (have hz := And.intro hz0 hz1; clear hz0 hz1; generalize w1.heap.size + 1 = i2 at hz ⊢; generalize w1.heap.size = i1 at hz ⊢; have HZ := Lib.hid hz; clear hz; revert HZ HB; revert i2; revert i1; revert V; exact key.out)
  intro V i1 i2 HB HZ
  obtain ⟨hz1, hz2⟩ := HZ.out
  have hi1 : Ints V (.slice (some ⟨i1, 0, none⟩) n n) (List.replicate n 0) := (Own.of_blk (B := 0) hz1 (Nat.zero_le _) (by simp [maxLen]; omega) (by simp) (by simp)).ints
  have hi2 : Ints V (.slice (some ⟨i2, 0, none⟩) n n) (List.replicate n 0) := (Own.of_blk (B := 0) hz2 (Nat.zero_le _) (by simp [maxLen]; omega) (by simp) (by simp)).ints
  have HBV := Lib.hid (bb HB0.out HB.out)
  have HCall := Lib.hid (HRef.out V HBV.out _ _ _ _ hi2 hi1 (zeros_ok n) (zeros_ok n))
  clear hz1 hz2 hi1 hi2 HZ HB q1
  go_wp2_with fail
  refine HCall.out.mono ?_
  rintro e w4 ⟨r1, r2, b, rfl, hb4, (⟨rfl, rfl, rfl, hno⟩ | ⟨rfl, C', D', hr1, hr2, hC', hD', hkk⟩)⟩
  · have hnil : (isoAll n F G).take most = [] := by
      have : isoAll n F G = [] := by
        rw [List.eq_nil_iff_forall_not_mem]
        intro p hp
        have hp' := (mem_isoQ.1 hp).1
        exact hno p hp' (zero_keeps hp')
      rw [this]; simp
    have HNil := Lib.hid hnil
    have HB4 := Lib.hid (bb HBV.out hb4)
    clear hb4 hno hnil
    go_wp2
    go_ret
    exact ⟨_, rfl, by rw [HNil.out]; exact OwnRows.nil _ _, HB4.out⟩
  · obtain ⟨_, e1, f1, h1, m1, rfl, hbm1⟩ := id hr1
    obtain ⟨_, e2, f2, h2, m2, rfl, hbm2⟩ := id hr2
    rw [hC'.1, hD'.1]
    rw [hC'.1] at hr1; rw [hD'.1] at hr2
    have HB4 := Lib.hid (bb HBV.out hb4)
    have HC2 : Hid (Calls Try.prog 72 #[.slice (some ⟨fb, fo, none⟩) K fc, .slice (some ⟨gb, go', none⟩) K gc, .slice none 0 0, .slice (some ⟨e1, f1, none⟩) n h1, .slice (some ⟨e2, f2, none⟩) n h2, .int .i64 most, .slice none 0 0] w4 (GrowPost w4 (.slice none 0 0) w.heap.size ((isoAll n F G).take most))) := by
      have := HSk.out [] C' D' (.slice none 0 0) (.slice (some ⟨e1, f1, none⟩) n h1) (.slice (some ⟨e2, f2, none⟩) n h2) (.slice none 0 0) [] w.heap.size w.heap.size w4 (by simp) List.nodup_nil (by simp) (fun k hk x y hx => by simp at hx) hC' hD' (fun p hp => by
        have hp' := (mem_isoP.1 hp).1
        exact hkk p hp' (zero_keeps hp')) (OwnRows.inn (OwnRows.nil w.heap.size w) |>.under HB4.out) (Own.nil _ _) hr1 hr2 (Nat.le_refl _) (Nat.le_refl _) HB4.out.size HB4.out (by simp; omega)
      rw [isoP_nil, List.nil_append] at this
      exact Lib.hid this
    obtain ⟨zs, hzs⟩ : ∃ zs, (isoAll n F G).take most = zs := ⟨_, rfl⟩
    rw [hzs] at HC2 ⊢
    have HZs := Lib.hid hzs
    clear hb4 hr1 hr2 hC' hD' hkk hbm1 hbm2 hzs
    go_wp2_with fail
    refine HC2.out.mono ?_
    rintro e w5 ⟨r, rfl, hr, hk5, hob5⟩
    obtain ⟨ra3, rc3, rfl, _⟩ := hr.rows.shape
    have HR := Lib.hid hr
    have HB5 := Lib.hid (HB4.out.trans (hk5.below fun b hb => ⟨by have := HB4.out.size; omega, fun e => by simp [Value.ownBlock] at e⟩))
    clear hr hk5 hob5
    go_wp2
    go_ret
    exact ⟨.slice ra3 zs.length rc3, rfl, by first | exact HR.out | (rw [HZs.out]; exact HR.out), HB5.out⟩
set_option maxRecDepth 100000 in
set_option maxHeartbeats 4000000 in
theorem c_l02Maps (v0 u0 v1 u1 : Value) (A B C D : List (List Int)) (most : Nat) (w : World) (hA : Sol w v0 u0 A B) (hC : Sol w v1 u1 C D) (hp1 : isPM A B = true) (hp2 : isPM C D = true) (hl : A.length = C.length) (hm1 : 1 ≤ most) (hmost : most ≤ 1048576) :
    Calls Try.prog 33 #[.agg #[v0, u0], .agg #[v1, u1], .int .i64 most] w (RRows w ((isoAll A.length [A, B] [C, D]).take most)) := by
  obtain ⟨n, b0, o0, c0, rb0, ro0, rc0, b0s, o0s, c0s, rb0s, ro0s, rc0s, rfl, rfl, hl0, hl0s, hn0, hx0, hc0, hm0, hc0s, hm0s, t0, t0s⟩ := hA.tabs hp1
  obtain ⟨m, b1, o1, c1, rb1, ro1, rc1, b1s, o1s, c1s, rb1s, ro1s, rc1s, rfl, rfl, hl1, hl1s, hn1, hx1, hc1, hm1', hc1s, hm1s, t1, t1s⟩ := hC.tabs hp2
  obtain rfl : n = m := by omega
  rw [hl0]
  obtain ⟨f0, f1, hB0, hsz⟩ := boxes2 w [.slice (some ⟨b0, o0, none⟩) n c0, .slice (some ⟨b0s, o0s, none⟩) n c0s] [.slice (some ⟨b1, o1, none⟩) n c1, .slice (some ⟨b1s, o1s, none⟩) n c1s] 29 29
  obtain ⟨W0, hW0⟩ : ∃ W0, (w.alloc (.cells #[.slice (some ⟨b0, o0, none⟩) n c0, .slice (some ⟨b0s, o0s, none⟩) n c0s] 29)).alloc (.cells #[.slice (some ⟨b1, o1, none⟩) n c1, .slice (some ⟨b1s, o1s, none⟩) n c1s] 29) = W0 := ⟨_, rfl⟩
  have hW0' := hW0
  change _ = W0 at hW0'
  have f0' : Blk W0 w.heap.size 29 [.slice (some ⟨b0, o0, none⟩) n c0, .slice (some ⟨b0s, o0s, none⟩) n c0s] := by rw [← hW0]; exact f0
  have f1' : Blk W0 (w.heap.size + 1) 29 [.slice (some ⟨b1, o1, none⟩) n c1, .slice (some ⟨b1s, o1s, none⟩) n c1s] := by rw [← hW0]; exact f1
  have hB0' : Below w.heap.size w W0 := by rw [← hW0]; exact hB0
  obtain ⟨wa, hwa⟩ : ∃ wa, W0.alloc (Obj.cells #[.slice (some ⟨b0, o0, none⟩) n c0, .slice (some ⟨b0s, o0s, none⟩) n c0s] 22) = wa := ⟨_, rfl⟩
  obtain ⟨wb, hwb⟩ : ∃ wb, wa.alloc (Obj.cells #[.slice (some ⟨b1, o1, none⟩) n c1, .slice (some ⟨b1s, o1s, none⟩) n c1s] 22) = wb := ⟨_, rfl⟩
  have hba : Below W0.heap.size W0 wa := by rw [← hwa]; exact (Below.refl _ W0).alloc (Nat.le_refl _) _
  have hbb : Below wa.heap.size wa wb := by rw [← hwb]; exact (Below.refl _ wa).alloc (Nat.le_refl _) _
  have hsa : wa.heap.size = W0.heap.size + 1 := by rw [← hwa]; simp
  have hxa : Blk wa W0.heap.size 22 [.slice (some ⟨b0, o0, none⟩) n c0, .slice (some ⟨b0s, o0s, none⟩) n c0s] := by rw [← hwa]; exact Blk.new W0 _ _
  have hxb : Blk wb (W0.heap.size + 1) 22 [.slice (some ⟨b1, o1, none⟩) n c1, .slice (some ⟨b1s, o1s, none⟩) n c1s] := by rw [← hwb, ← hsa]; exact Blk.new wa _ _
  obtain ⟨x0, x1, -, -⟩ := two_cells f0'
  obtain ⟨x2, x3, -, -⟩ := two_cells f1'
  have y2 := cell_under hba x2; have y3 := cell_under hba x3
  rw [← hwa] at y2 y3
  have hw2 : Below w.heap.size w wb := bb hB0' (bb hba hbb)
  have T0 : Tb3 wb W0.heap.size 0 n 2 [A, B] _ _ _ _ _ _ := Tb3.two (hxa.under hbb) (t0.below hw2) (t0s.below hw2)
  have T1 : Tb3 wb (W0.heap.size + 1) 0 n 2 [C, D] _ _ _ _ _ _ := Tb3.two hxb (t1.below hw2) (t1s.below hw2)
  have hs0 : W0.heap.size = w.heap.size + 1 + 1 := by rw [← hW0]; simp
  rw [hs0] at T0 T1
  have HCall := Lib.hid (c_l03Maps wb T0 T1 rfl rfl hn0 hx0 (by omega) (by omega) (fc := 2) (gc := 2) (by omega) (by omega) most hm1 hmost)
  have HW2 := Lib.hid hw2; have HWa := Lib.hid hwa; have HWb := Lib.hid hwb; have HW0 := Lib.hid hW0
  clear t0 t0s t1 t1s hA hC hp1 hp2 f0 f1 f0' f1' hB0 hB0' hsz hba hbb hsa hxa hxb hw2 T0 T1 hwa hwb hW0 hW0' hs0 hl hl0 hl0s hl1 hl1s
  go_enter Try.func33, Try.ntmps33
  go_wp2_with fail
  rw [HW0.out, HWa.out, HWb.out]
  refine HCall.out.mono ?_
  rintro e w5 ⟨r, rfl, hr, hb5⟩
  obtain ⟨zs, hzs⟩ : ∃ zs, (isoAll n [A, B] [C, D]).take most = zs := ⟨_, rfl⟩
  rw [hzs] at hr ⊢
  have HZs := Lib.hid hzs
  obtain ⟨ra3, rc3, rfl, _⟩ := hr.rows.shape
  have HR := Lib.hid (hr.mono HW2.out.size); have HB5 := Lib.hid (bb HW2.out hb5)
  clear hr hb5 hzs
  go_wp2
  go_ret
  exact ⟨.slice ra3 zs.length rc3, rfl, by first | exact HR.out | (rw [HZs.out]; exact HR.out), HB5.out⟩
end Go.Proofs.Ytgmhnjccgldddaa

namespace Go.Proofs.Ytgmhnjccgldddaa
set_option linter.unusedVariables false
set_option linter.unusedSimpArgs false
open Go.RowKit

/-- The result can be read; nothing that was there has turned. -/
def RSolR (w0 : World) (A B : List (List Int)) (e : Ending) (w' : World) : Prop := ∃ r1 r2, e = .returned (.agg #[r1, r2]) ∧ (OwnRows w0.heap.size w' r1 A ∧ OwnRows w0.heap.size w' r2 B) ∧ Below w0.heap.size w0 w'

theorem rowOf_self (p : List Int) : rowOf p.length (nth p) = p := by
  apply ext_nth (by simp)
  intro k hk
  rw [nth_rowOf p.length (nth p) k (by simpa using hk)]

theorem rowOf_const (n : Nat) (c : Int) : rowOf n (fun _ => c) = List.replicate n c := by
  unfold rowOf
  rw [List.map_const']
  simp

theorem OwnRows.shape' {B : Nat} {w : World} {v : Value} {xss : List (List Int)} (h : OwnRows B w v xss) : ∃ a c, v = .slice a xss.length c ∧ Rows w (.slice a xss.length c) xss := by
  have hr := h.rows
  obtain ⟨a, c, rfl, _⟩ := hr.shape
  exact ⟨a, c, rfl, hr⟩

set_option maxHeartbeats 1000000 in
theorem c_l02Twist (v v' : Value) (p q : List Int) (w : World) (hp : Ints w v p) (hq : Ints w v' q) (hl : q.length = p.length) (hn : p.length ≤ 1048576) :
    Calls Try.prog 108 #[v, v'] w (RSolR w (twA p) (twB p q)) := by
  obtain ⟨a, c, rfl, hc, hm⟩ := hp.shape
  obtain ⟨a', c', rfl, hc', hm'⟩ := hq.shape
  have HL := Lib.hid hl; clear hl
  obtain ⟨f0, f1, hW0, hsz⟩ := boxes2 w [.slice none 0 0, .slice none 0 0] [.slice none 0 0, .slice none 0 0] 29 29
  go_enter Try.func108, Try.ntmps108
  go_wp2
  have hB0 : Below w.heap.size w ((w.alloc (.cells #[.slice none 0 0, .slice none 0 0] 29)).alloc (.cells #[.slice none 0 0, .slice none 0 0] 29)) := hW0
  go_loopw [6, 7, 8] (fun i _ _ wr => ∃ (k : Nat) (va vb : Value), k ≤ p.length ∧ i = .int .i64 k ∧ Hid (Below w.heap.size w wr ∧ w.heap.size + 2 ≤ wr.heap.size) ∧ Hid (Blk wr w.heap.size 29 [.slice none 0 0, .slice none 0 0]) ∧ Hid (Blk wr (w.heap.size + 1) 29 [va, vb]) ∧
    Hid (OwnRows (w.heap.size + 2) wr va ((twA p).take k)) ∧ Hid (OwnRows (w.heap.size + 2) wr vb ((twB p q).take k)) ∧ Hid (∀ b, va.ownBlock = some b → vb.ownBlock ≠ some b)) (fun i _ _ _ => p.length - (intOf i).toNat)
  case atStart => exact ⟨0, _, _, Nat.zero_le _, rfl, Lib.hid ⟨hB0, by simp⟩, Lib.hid f0, Lib.hid f1, Lib.hid ⟨[], ⟨by simp, .inl ⟨rfl, rfl⟩⟩, RowVals.nil _ _⟩, Lib.hid ⟨[], ⟨by simp, .inl ⟨rfl, rfl⟩⟩, RowVals.nil _ _⟩, Lib.hid (by intro b hb; cases hb)⟩
  case round =>
    clear hB0 f0 f1 hW0 hsz
    obtain ⟨k, va, vb, hk, rfl, HB, HQ0, HQ1, HA, HBt, HNE⟩ := hrel
    obtain ⟨wo, rfl⟩ : ∃ wo : World, wo = wr := ⟨_, rfl⟩
    by_cases hlt : k < p.length
    · have hkq : k < q.length := by rw [HL.out]; exact hlt
      go_wp2
      go_loopw [7, 8] (fun s y wi => ∃ (j : Nat) (sa : Option Addr) (sc : Nat), j ≤ p.length ∧ y = .int .i64 j ∧ s = .slice sa j sc ∧ Below wo.heap.size wo wi ∧ Own wo.heap.size wi (.slice sa j sc) (List.replicate j (nth q k))) (fun _ y _ => p.length - (intOf y).toNat)
      case atStart => exact ⟨0, _, _, Nat.zero_le _, rfl, rfl, (Below.refl _ _).alloc (Nat.le_refl _) _, Own.made0 wo (Nat.le_refl _)⟩
      case round =>
        obtain ⟨j, sa, sc, hj, rfl, rfl, hb, hown⟩ := hrel
        by_cases hlj : j < p.length
        · obtain ⟨b, o, rfl, hcell⟩ := ((hq.below HB.out.1).below hb).get k hkq
          have Hb := Lib.hid hb; have Ho := Lib.hid hown; have Hs := Lib.hid hb.size; clear hb hown
          go_wp2_with (at_builtin; refine wpList_app_int wo.heap.size wr _ (List.replicate j (nth q k)) (nth q k) _ _ rfl rfl rfl Ho.out rfl (by simp; omega) Hs.out ?_; intro a' c' w' hown' hkeep; rw [List.length_replicate]; have Hk := Lib.hid hkeep; have Ho' := Lib.hid hown'; clear hkeep hown')
          go_roundw
          case rel =>
            have h1 := Ho'.out
            rw [List.length_replicate, ← List.replicate_succ'] at h1
            exact ⟨j + 1, a', c', by omega, by go_num, rfl, Ho.out.frame Hb.out (Nat.le_refl _) Hs.out Hk.out, h1⟩
          case measure => simp [intOf]; omega
        · obtain rfl : j = p.length := by omega
          obtain ⟨wi, rfl⟩ : ∃ wi : World, wi = wr := ⟨_, rfl⟩
          have Hb := Lib.hid hb; have Ho := Lib.hid hown; clear hb hown
          have HQ1d := Lib.hid ((HQ1.out.under Hb.out).drew)
          obtain ⟨cA, cB, cF, cG⟩ := two_cells HQ1d.out
          have hpd := ((hp.below HB.out.1).below Hb.out).below ((Below.refl wi.heap.size wi).drew)
          have hAd := (HA.out.inn.under Hb.out).under ((Below.refl wi.heap.size wi).drew)
          have hlen : ((twA p).take k).length = k := by simp [twA]; omega
          have hBW := HB.out.2
          have hbs := Hb.out.size
          have HPd := Lib.hid hpd; have HAd := Lib.hid hAd; have HLen := Lib.hid hlen; have HBW := Lib.hid hBW; have Hbs := Lib.hid hbs
          have HK1 : Hid (((twA p).take k).length ≤ 1099511627776) := by show _ ≤ _; rw [hlen]; omega
          have HB2s : Hid (w.heap.size + 2 ≤ wi.heap.size) := by show _ ≤ _; omega
          clear hpd hAd hlen hBW hbs
          go_wp2
          go_region_law (first
            | (go_simp; go_at_call 95; refine (c_l01Own _ p _ HPd.out (by omega)).mono ?_; rintro e w1 ⟨r1, rfl, ho1', hb1'⟩; obtain ⟨ra1, rc1, rfl, _⟩ := ho1'.shape; have ho1 := Lib.hid ho1'; have hb1 := Lib.hid hb1'; have HAd1 := Lib.hid (HAd.out.under hb1'); have HB1s : Hid (w.heap.size + 2 ≤ w1.heap.size) := Nat.le_trans HB2s.out hb1'.size; obtain ⟨cA1, cB1, cF1, cG1⟩ := two_cells (HQ1d.out.under hb1'); have cA1z : (w1.alloc (.cells #[.slice ra1 p.length rc1] 26)).cell? ⟨w.heap.size + 1, 0, none⟩ = some va := (two_cells ((HQ1d.out.under hb1').alloc _)).1; clear ho1' hb1')
            | (refine step_app_row2 (w.heap.size + 2) wo.heap.size w1 va ((twA p).take k) (.slice ra1 p.length rc1) p (.tmp 31) (.tmp 34) rfl rfl rfl HAd1.out (ho1.out.mono Hbs.out) rfl HK1.out HBW.out HB1s.out ?_; intro g c2 w2 hown2 hk2 hg2; rw [HLen.out] at hown2; rw [HLen.out]
               have hq1 : ∀ b, va.ownBlock = some b → w.heap.size + 2 ≤ b := fun b e => (OwnRows.lt HA.out e).1
               have hQ2 := (HQ1d.out.under hb1.out).of_block (hk2.block _ (HQ1d.out.under hb1.out).lt (fun e => by have := hq1 _ e; omega))
               obtain ⟨cA2, cB2, cF2, cG2⟩ := two_cells hQ2
               have HQ2 := Lib.hid hQ2; have HK2 := Lib.hid hk2; have HG2 := Lib.hid hg2; have Hown2 := Lib.hid hown2; clear hQ2 hk2 hg2 hown2 hq1))
          all_goals
            have hbw := HBW.out
            have hva : ∀ b, va.ownBlock = some b → w.heap.size + 2 ≤ b ∧ b < wo.heap.size := fun b e => OwnRows.lt HA.out e
            have hvb : ∀ b, vb.ownBlock = some b → w.heap.size + 2 ≤ b ∧ b < wo.heap.size := fun b e => OwnRows.lt HBt.out e
            have hs1 : wo.heap.size ≤ w1.heap.size := Nat.le_trans Hbs.out hb1.out.size
            have hQ3 := HQ2.out.set 0 (.slice (some ⟨g, 0, none⟩) (k + 1) c2)
            have hA3 := Hown2.out.keep (keep1 w2 (w.heap.size + 1) 0 (.slice (some ⟨g, 0, none⟩) (k + 1) c2)) (fun b h1 h2 h3 => by have h3 : b = w.heap.size + 1 := h3; omega)
            have hB1 := ((HBt.out.inn.under Hb.out).under ((Below.refl wi.heap.size wi).drew)).under hb1.out
            have hB3 := (hB1.keepT HAd1.out.out (fun b e1 e2 => HNE.out b e2 e1) HK2.out).keep (keep1 w2 (w.heap.size + 1) 0 (.slice (some ⟨g, 0, none⟩) (k + 1) c2)) (fun b h1 h2 h3 => by have h3 : b = w.heap.size + 1 := h3; omega)
            have hu1 := (Ho.out.under ((Below.refl wi.heap.size wi).drew)).under hb1.out
            have hu3 := (hu1.keep HK2.out (fun b h1 h2 h3 => by have := hva b h3; omega)).keep (keep1 w2 (w.heap.size + 1) 0 (.slice (some ⟨g, 0, none⟩) (k + 1) c2)) (fun b h1 h2 h3 => by have h3 : b = w.heap.size + 1 := h3; omega)
            have hW1 : Below w.heap.size w w1 := bb (bb (bb HB.out.1 Hb.out) ((Below.refl wi.heap.size wi).drew)) hb1.out
            have hW3 := (OwnRows.frame HAd1.out.out hW1 (by omega) (by omega) HK2.out).setCell (p := ⟨w.heap.size + 1, 0, none⟩) (by show _ ≤ w.heap.size + 1; omega) (.slice (some ⟨g, 0, none⟩) (k + 1) c2)
            have hZ1 := (((HQ0.out.under Hb.out).drew).under hb1.out)
            have hZ3 := (hZ1.of_block (HK2.out.block _ hZ1.lt (fun e => by have := hva _ e; omega))).other (a := ⟨w.heap.size + 1, 0, none⟩) (by show w.heap.size ≠ w.heap.size + 1; omega) (.slice (some ⟨g, 0, none⟩) (k + 1) c2)
            have hne3 : ∀ b, (Value.slice (some ⟨g, 0, none⟩) (k + 1) c2).ownBlock = some b → vb.ownBlock ≠ some b := by
              intro b e e2
              simp [Value.ownBlock] at e
              subst e
              rcases HG2.out with h | h
              · exact HNE.out _ h e2
              · have := hvb _ e2; omega
            have hs3 : w1.heap.size ≤ (w2.setCell ⟨w.heap.size + 1, 0, none⟩ (.slice (some ⟨g, 0, none⟩) (k + 1) c2)).heap.size := by simpa [World.setCell] using HK2.out.size
            obtain ⟨w3, hw3⟩ : ∃ w3, w2.setCell ⟨w.heap.size + 1, 0, none⟩ (.slice (some ⟨g, 0, none⟩) (k + 1) c2) = w3 := ⟨_, rfl⟩
            rw [hw3] at hQ3 hA3 hB3 hu3 hW3 hZ3 hs3 ⊢
            obtain ⟨dA, dB, dF, dG⟩ := two_cells hQ3
            have hlb : ((twB p q).take k).length = k := by simp [twB]; omega
            have HLB := Lib.hid hlb
            have HB3 := Lib.hid hB3; have HU3 := Lib.hid hu3; have HQ3 := Lib.hid hQ3; have HA3 := Lib.hid hA3; have HW3 := Lib.hid hW3; have HZ3 := Lib.hid hZ3; have HN3 := Lib.hid hne3; have HVB := Lib.hid hvb
            have HK3 : Hid (((twB p q).take k).length ≤ 1099511627776) := by show _ ≤ _; rw [hlb]; omega
            have HS3 : Hid (w.heap.size + 2 ≤ w3.heap.size ∧ wo.heap.size ≤ w3.heap.size) := by have := HBW.out; exact ⟨by omega, by omega⟩
            have HG3 : Hid (g < w3.heap.size) := (OwnRows.lt hA3 rfl).2
            clear hbw hlb hB3 hu3 hQ3 hA3 hW3 hZ3 hne3 hvb hva hs1 hs3 hW1 hZ1 hu1 hB1 cA1 cA1z cB1 cF1 cG1 cA2 cB2 cF2 cG2 cA cB cF cG hw3
            go_wp2_with (at_builtin; refine wpList_app_row2 (w.heap.size + 2) wo.heap.size w3 vb ((twB p q).take k) _ (List.replicate p.length (nth q k)) _ _ rfl rfl rfl HB3.out HU3.out rfl HK3.out HBW.out HS3.out.1 ?_; intro g2 c4 w4 hown4 hk4 hg4; rw [HLB.out] at hown4; rw [HLB.out]; have hQ4 := HQ3.out.of_block (hk4.block _ HQ3.out.lt (fun e => by have := (HVB.out _ e).1; omega)); obtain ⟨eA, eB, eF, eG⟩ := two_cells hQ4; have HQ4 := Lib.hid hQ4; have Hown4 := Lib.hid hown4; have HK4 := Lib.hid hk4; have HG4 := Lib.hid hg4; clear hQ4 hown4 hk4 hg4)
            go_roundw
            case rel =>
              have hbw := HBW.out
              have hs3 := HS3.out
              have hs4 := HK4.out.size
              have hQ5 := HQ4.out.set 1 (.slice (some ⟨g2, 0, none⟩) (k + 1) c4)
              have hB5 := Hown4.out.keep (keep1 w4 (w.heap.size + 1) 1 (.slice (some ⟨g2, 0, none⟩) (k + 1) c4)) (fun b h1 h2 h3 => by have h3 : b = w.heap.size + 1 := h3; omega)
              have hA5 := (HA3.out.keepT HB3.out.out (fun b e1 e2 => HN3.out b e1 e2) HK4.out).keep (keep1 w4 (w.heap.size + 1) 1 (.slice (some ⟨g2, 0, none⟩) (k + 1) c4)) (fun b h1 h2 h3 => by have h3 : b = w.heap.size + 1 := h3; omega)
              have hW5 := (OwnRows.frame HB3.out.out HW3.out (by omega) (by omega) HK4.out).setCell (p := ⟨w.heap.size + 1, 1, none⟩) (by show _ ≤ w.heap.size + 1; omega) (.slice (some ⟨g2, 0, none⟩) (k + 1) c4)
              have hZ5 := (HZ3.out.of_block (HK4.out.block _ HZ3.out.lt (fun e => by have := (HVB.out _ e).1; omega))).other (a := ⟨w.heap.size + 1, 1, none⟩) (by show w.heap.size ≠ w.heap.size + 1; omega) (.slice (some ⟨g2, 0, none⟩) (k + 1) c4)
              have hs5 : w.heap.size + 2 ≤ (w4.setCell ⟨w.heap.size + 1, 1, none⟩ (.slice (some ⟨g2, 0, none⟩) (k + 1) c4)).heap.size := by have : w3.heap.size ≤ w4.heap.size := hs4; simp [World.setCell]; omega
              refine ⟨k + 1, .slice (some ⟨g, 0, none⟩) (k + 1) c2, .slice (some ⟨g2, 0, none⟩) (k + 1) c4, by omega, by go_num, Lib.hid ⟨hW5, hs5⟩, Lib.hid hZ5, Lib.hid hQ5, Lib.hid ?_, Lib.hid ?_, Lib.hid fun b e1 e2 => ?_⟩
              · rw [take_snoc_row _ _ (by simp [twA]; omega)]
                unfold twA
                rw [row_tabOf _ _ _ hlt, rowOf_self]
                exact hA5
              · rw [take_snoc_row _ _ (by simp [twB]; omega)]
                unfold twB
                rw [row_tabOf _ _ _ hlt, rowOf_const]
                exact hB5
              · simp [Value.ownBlock] at e1 e2
                subst e1
                subst e2
                rcases HG4.out with h | h
                · exact HN3.out _ rfl h
                · have := HG3.out; omega
            case measure => simp [intOf]; omega
    · obtain rfl : k = p.length := by omega
      have hA := HA.out
      have hB := HBt.out
      rw [List.take_of_length_le (by simp [twA])] at hA
      rw [List.take_of_length_le (by simp [twB])] at hB
      obtain ⟨ra1, rc1, rfl, hca⟩ := OwnRows.shape' hA
      obtain ⟨ra2, rc2, rfl, hcb⟩ := OwnRows.shape' hB
      obtain ⟨z0, z1, z2, z3⟩ := two_cells HQ0.out
      obtain ⟨y0, y1, y2, y3⟩ := two_cells HQ1.out
      have HA' := Lib.hid hA; have HB' := Lib.hid hB; clear hA hB hca hcb
      go_wp2
      refine bodyPost_ret (v := .agg #[.slice ra1 (twA p).length rc1, .slice ra2 (twB p q).length rc2]) (by simp [results, Try.results108, go_sem, z0, z1]) rfl ⟨_, _, rfl, ⟨?_, ?_⟩, (HB.out.1.setCell (p := ⟨w.heap.size, 0, none⟩) (Nat.le_refl _) _).setCell (p := ⟨w.heap.size, 1, none⟩) (Nat.le_refl _) _⟩
      · exact ((HA'.out.keep (keep1 _ w.heap.size 0 _) (fun b h1 h2 h3 => by have h3 : b = w.heap.size := h3; omega)).keep (keep1 _ w.heap.size 1 _) (fun b h1 h2 h3 => by have h3 : b = w.heap.size := h3; omega)).mono (by omega)
      · exact ((HB'.out.keep (keep1 _ w.heap.size 0 _) (fun b h1 h2 h3 => by have h3 : b = w.heap.size := h3; omega)).keep (keep1 _ w.heap.size 1 _) (fun b h1 h2 h3 => by have h3 : b = w.heap.size := h3; omega)).mono (by omega)
/-- A pair of tables that can be read, all of it below hi. -/
def RdSol (lo hi : Nat) (w : World) (v1 v2 : Value) (A B : List (List Int)) : Prop := ∃ w0 : World, lo = 0 ∧ Sol w0 v1 v2 A B ∧ w0.heap.size ≤ hi ∧ Below w0.heap.size w0 w
theorem RdSol.sol {lo hi : Nat} {w : World} {v1 v2 : Value} {A B : List (List Int)} (h : RdSol lo hi w v1 v2 A B) : Sol w v1 v2 A B := by
  obtain ⟨w0, _, h1, _, h2⟩ := h
  exact h1.below h2
theorem RdSol.under {lo hi : Nat} {w w' : World} {v1 v2 : Value} {A B : List (List Int)} (h : RdSol lo hi w v1 v2 A B) (hb : Below w.heap.size w w') : RdSol lo hi w' v1 v2 A B := by
  obtain ⟨w0, h0, h1, h3, h2⟩ := h
  exact ⟨w0, h0, h1, h3, bb h2 hb⟩
theorem RdSol.keep {lo hi : Nat} {S : Nat → Prop} {w w' : World} {v1 v2 : Value} {A B : List (List Int)} (h : RdSol lo hi w v1 v2 A B) (k : Keep S w w') (hs : ∀ b, lo ≤ b → b < hi → ¬ S b) : RdSol lo hi w' v1 v2 A B := by
  obtain ⟨w0, h0, h1, h3, h2⟩ := h
  subst h0
  exact ⟨w0, rfl, h1, h3, h2.trans (k.below fun b hb => ⟨by have := h2.size; omega, hs b (Nat.zero_le _) (by omega)⟩)⟩
def RSolRC (w0 : World) (A B : List (List Int)) (c : Int) (e : Ending) (w' : World) : Prop := ∃ r1 r2, e = .returned (.tuple #[.agg #[r1, r2], .int .i64 c]) ∧ RdSol 0 w'.heap.size w' r1 r2 A B ∧ Below w0.heap.size w0 w'

theorem OwnRowsIn.nil0 (lo hi : Nat) (w : World) : OwnRowsIn lo hi w (.slice none 0 0) [] :=
  ⟨[], ⟨by simp, .inl ⟨rfl, rfl⟩⟩, RowVals.nil _ _, (by intro k hk; cases hk), (by intro i hi; simp at hi)⟩
theorem OwnSol.nil0 {lo hi : Nat} {w : World} (h : lo ≤ hi) : OwnSol lo hi w (.slice none 0 0) (.slice none 0 0) [] [] :=
  ⟨lo, lo, lo, lo, Nat.le_refl _, h, Nat.le_refl _, h, .inl (Nat.le_refl _), OwnRowsIn.nil0 _ _ _, OwnRowsIn.nil0 _ _ _⟩

theorem total_le (t : List (List Int)) (h : ∀ r ∈ t, r.length ≤ 12) : total t ≤ t.length * 12 := by
  induction t with
  | nil => simp [total]
  | cons r t ih =>
    have h1 := h r (by simp)
    have h2 := ih fun r hr => h r (by simp [hr])
    simp only [total, List.length_cons]
    omega
theorem tab_rows {n : Nat} {g : Int → Int → Int} (hn : n ≤ 12) : ∀ r ∈ tabOf n g, r.length ≤ 12 := by
  intro r hr
  simp only [tabOf, List.mem_map] at hr
  obtain ⟨x, _, rfl⟩ := hr
  simpa using hn
end Go.Proofs.Ytgmhnjccgldddaa

namespace Go.Proofs.Ytgmhnjccgldddaa
set_option linter.unusedVariables false
set_option linter.unusedSimpArgs false
open Go.RowKit

theorem Rows.any {w : World} {v : Value} {t : List (List Int)} (h : Rows w v t) : ∃ a l c, v = .slice a l c := by
  obtain ⟨a, c, rfl, _, _⟩ := h.shape
  exact ⟨_, _, _, rfl⟩
theorem OwnRows.any {B : Nat} {w : World} {v : Value} {t : List (List Int)} (h : OwnRows B w v t) : ∃ a l c, v = .slice a l c := h.rows.any
theorem storedR {w w2 : World} {r1 r2 : Value} {A B : List (List Int)} {lo q : Nat} (hB : Below w.heap.size w w2) (hs : OwnRows lo w2 r1 A ∧ OwnRows lo w2 r2 B) (hq : w.heap.size ≤ q) (hlo : q < lo) :
    RdSol 0 ((w2.setCell ⟨q, 0, none⟩ r1).setCell ⟨q, 1, none⟩ r2).heap.size ((w2.setCell ⟨q, 0, none⟩ r1).setCell ⟨q, 1, none⟩ r2) r1 r2 A B ∧ Below w.heap.size w ((w2.setCell ⟨q, 0, none⟩ r1).setCell ⟨q, 1, none⟩ r2) := by
  have k : Keep (fun b => b = q) w2 ((w2.setCell ⟨q, 0, none⟩ r1).setCell ⟨q, 1, none⟩ r2) := ((Keep.refl (fun b => b = q) w2).setCell (p := ⟨q, 0, none⟩) (.inl rfl) _).setCell (p := ⟨q, 1, none⟩) (.inl rfl) _
  exact ⟨⟨_, rfl, ⟨(hs.1.keep k (fun b h1 _ h3 => by omega)).rows, (hs.2.keep k (fun b h1 _ h3 => by omega)).rows⟩, Nat.le_refl _, Below.refl _ _⟩, (hB.setCell (p := ⟨q, 0, none⟩) hq _).setCell (p := ⟨q, 1, none⟩) hq _⟩
theorem rsolR_of {w : World} {A B : List (List Int)} {e : Ending} {w' : World} (h : RSol w A B e w') : RSolR w A B e w' := by
  obtain ⟨r1, r2, he, hs, hb⟩ := h
  obtain ⟨lo1, hi1, lo2, hi2, h1, _, h3, _, _, k1, k2⟩ := hs
  exact ⟨r1, r2, he, ⟨k1.out.mono h1, k2.out.mono h3⟩, hb⟩
end Go.Proofs.Ytgmhnjccgldddaa

namespace Go.Proofs.Ytgmhnjccgldddaa
set_option linter.unusedVariables false
set_option linter.unusedSimpArgs false
open Go Go.RowKit

set_option maxRecDepth 100000 in
set_option maxHeartbeats 4000000 in
theorem c_specSolutionAutomorphisms (v0 u0 : Value) (A B : List (List Int)) (w : World) (hA : Sol w v0 u0 A B)  :
    Calls Try.prog 15 #[.agg #[v0, u0]] w (RRowsC w (autRes A B) (autCode A B)) := by
  by_cases hp0 : isPM A B = true
  case neg =>
    have hq0 : isPM A B = false := by simpa using hp0
    have HQ := Lib.hid hq0; clear hp0
    obtain ⟨a0, c0, rfl, _, _⟩ := hA.1.shape
    obtain ⟨a0s, c0s, rfl, _, _⟩ := hA.2.shape
    go_enter Try.func15, Try.ntmps15
    go_wp2_with fail
    obtain ⟨f0, hW0, hsz⟩ := boxes1 w [.slice a0 A.length c0, .slice a0s B.length c0s] 29
    obtain ⟨W0, hW⟩ : ∃ W, (w.alloc (.cells #[.slice a0 A.length c0, .slice a0s B.length c0s] 29)) = W := ⟨_, rfl⟩
    rw [hW] at f0 hW0 hsz ⊢
    clear hW hsz
    refine (c_l02Map _ _ _ _ _ (hA.below hW0)).mono ?_; rintro e g0 ⟨rfl, hbg0⟩
    have hB0 := bb hW0 hbg0
    replace f0 := f0.under hbg0
    obtain ⟨cA0, cB0, -, -⟩ := two_cells f0
    clear hbg0
    have HB := Lib.hid hB0
    clear hB0 hW0
    go_wp2
    go_ret2
    exact ⟨.slice none 0 0, by simp [autCode, HQ.out], by simpa [autRes, HQ.out] using OwnRows.nil _ _, HB.out⟩
  have HP0 := Lib.hid hp0
  obtain ⟨a0, c0, rfl, _, _⟩ := hA.1.shape
  obtain ⟨a0s, c0s, rfl, _, _⟩ := hA.2.shape
  go_enter Try.func15, Try.ntmps15
  go_wp2_with fail
  obtain ⟨f0, hW0, hsz⟩ := boxes1 w [.slice a0 A.length c0, .slice a0s B.length c0s] 29
  obtain ⟨W0, hW⟩ : ∃ W, (w.alloc (.cells #[.slice a0 A.length c0, .slice a0s B.length c0s] 29)) = W := ⟨_, rfl⟩
  rw [hW] at f0 hW0 hsz ⊢
  clear hW hsz
  refine (c_l02Map _ _ _ _ _ (hA.below hW0)).mono ?_; rintro e g0 ⟨rfl, hbg0⟩
  have hB0 := bb hW0 hbg0
  replace f0 := f0.under hbg0
  obtain ⟨cA0, cB0, -, -⟩ := two_cells f0
  clear hbg0
  have HSA := Lib.hid (hA.below hB0)
  have HB := Lib.hid hB0
  rw [hp0]
  have HCall := Lib.hid (c_l02Maps _ _ _ _ A B A B 1001 _ HSA.out HSA.out HP0.out HP0.out rfl (by omega) (by omega))
  obtain ⟨L, hL⟩ : ∃ L, isoAll A.length [A, B] [A, B] = L := ⟨_, rfl⟩
  have hr : autRes A B = (if L.length ≤ 1000 then L else []) ∧ autCode A B = (if L.length ≤ 1000 then 0 else 3) := by
    have : autL A B = L := by unfold autL; rw [hL]
    unfold autRes autCode
    rw [HP0.out, this]; simp
  rw [hL] at HCall
  have HRes := Lib.hid hr
  clear hr hA hp0 HP0 hB0 f0 hL
  by_cases hlim : L.length ≤ 1000
  · have ht : L.take 1001 = L := List.take_of_length_le (by omega)
    rw [ht] at HCall
    have HLim := Lib.hid hlim
    go_wp2_with fail
    refine HCall.out.mono ?_; rintro e w2 ⟨r, rfl, hr, hb2⟩
    obtain ⟨ra, rc, rfl, _⟩ := hr.rows.shape
    have HR := Lib.hid (hr.mono HB.out.size)
    have HB2 := Lib.hid (bb HB.out hb2)
    have hg : ¬ ((1000 : Int) < (L.length : Int)) := by omega
    clear hr hb2 ht
    go_wp2
    go_ret2
    exact ⟨.slice ra L.length rc, by rw [HRes.out.2, if_pos HLim.out]; rfl, by rw [HRes.out.1, if_pos HLim.out]; exact HR.out, HB2.out⟩
  · have ht : (L.take 1001).length = 1001 := by simp; omega
    have HLim := Lib.hid hlim
    go_wp2_with fail
    refine HCall.out.mono ?_; rintro e w2 ⟨r, rfl, hr, hb2⟩
    obtain ⟨ra, rc, hrv, _⟩ := hr.rows.shape
    rw [ht] at hrv
    subst hrv
    have HB2 := Lib.hid (bb HB.out hb2)
    clear hr hb2 ht hlim
    go_wp2
    go_ret2
    exact ⟨.slice none 0 0, by rw [HRes.out.2, if_neg HLim.out]; rfl, by rw [HRes.out.1, if_neg HLim.out]; exact OwnRows.nil _ _, HB2.out⟩
theorem total_rows (l : List (List Int)) (n : Nat) (h : ∀ x ∈ l, x.length = n) : total l = l.length * n := by
  induction l with
  | nil => simp [total]
  | cons a l ih =>
    have h1 := h a (by simp)
    have h2 := ih fun x hx => h x (by simp [hx])
    simp [total, h1, h2, Nat.add_mul]; omega
theorem autRes_total (A B : List (List Int)) : total (autRes A B) ≤ 12000 := by
  unfold autRes
  split
  · rename_i hp
    have hl := isTab_len (isPM_parts hp).1
    split
    · rename_i h
      rw [total_rows _ A.length (fun x hx => by unfold autL at hx; exact (mem_isoQ.1 hx).1.1.2)]
      have := Nat.mul_le_mul h hl.2
      omega
    · simp [total]
  · simp [total]

theorem cut_waysSolutionAutomorphisms {p G : Prop} (k : Hid p → G) (h : p) : G := k (Lib.hid h)
set_option maxHeartbeats 16000000 in
theorem law_SolutionAutomorphisms (v0 u0 : Value) (x0 y0 : List (List Int)) (w : World) (hr0 : Rows w v0 x0) (hr0' : Rows w u0 y0) :
    Calls Try.prog 4 #[.agg #[v0, u0]] w (RVal w (.bool true)) := by
  obtain ⟨a0, c0, rfl, hc0, hm0⟩ := hr0.shape
  obtain ⟨a0s, c0s, rfl, hc0s, hm0s⟩ := hr0'.shape
  have hx0 : Sol w (.slice a0 x0.length c0) (.slice a0s y0.length c0s) x0 y0 := ⟨hr0, hr0'⟩
  clear hr0 hr0'
  go_enter Try.func4, Try.ntmps4
  go_wp2_with fail
  obtain ⟨bx0, BW, hsz0⟩ := boxes1 w [.slice a0 x0.length c0, .slice a0s y0.length c0s] 24
  obtain ⟨W0, hW0⟩ : ∃ W, (w.alloc (.cells #[.slice a0 x0.length c0, .slice a0s y0.length c0s] 24)) = W := ⟨_, rfl⟩
  rw [hW0] at bx0 BW hsz0 ⊢
  have hs0 : w.heap.size + 1 ≤ W0.heap.size := by omega
  clear hW0 hsz0
  refine (c_szSolution _ _ _ _ _ _ (hx0.below BW) (by omega) (by omega)).mono ?_; rintro e w1 ⟨rfl, hb1⟩
  have hs1 := hb1.size
  replace BW := bb BW hb1
  replace bx0 := bx0.under hb1
  obtain ⟨cA0, cB0, -, -⟩ := two_cells bx0
  clear hb1
  by_cases hg0 : leftS x0 y0 (1048576) < 0
  case pos =>
    have HB := Lib.hid BW; clear BW
    go_wp2
    go_ret
    exact ⟨rfl, HB.out⟩
  have hf0 := leftS_fits (left := 1048576) (by omega) (by omega) hg0
  have Hf0 := Lib.hid hf0
  clear hf0
  have hf0 : (x0.length ≤ 1048576 ∧ total x0 ≤ 1048576) ∧ (y0.length ≤ 1048576 ∧ total y0 ≤ 1048576) ∧ 0 ≤ leftS x0 y0 (1048576) ∧ leftS x0 y0 (1048576) ≤ 1048576 := ⟨⟨Hf0.out.1.1, Hf0.out.1.2.2⟩, ⟨Hf0.out.2.1.1, Hf0.out.2.1.2.2⟩, Hf0.out.2.2⟩
  have hB0 : total (autRes x0 y0) ≤ 1152921504606846976 := by have := autRes_total x0 y0; omega
  obtain ⟨R0, hR0⟩ : ∃ z, z = autRes x0 y0 := ⟨_, rfl⟩
  obtain ⟨R1, hR1⟩ : ∃ z, z = autCode x0 y0 := ⟨_, rfl⟩
  rw [← hR0] at hB0
  have HR0 := Lib.hid hR0
  clear hR0
  have HR1 := Lib.hid hR1
  clear hR1
  have hd0 : decide (R0 = R0) = true := by simp
  have hk1 : (R1 != R1) = false := by simp
  have hda0 : decide (x0 = x0 ∧ y0 = y0) = true := by simp
  have hq0 : ((1 + (total R0 : Int)) != (1 + (total R0 : Int))) = false := by simp
  go_wp2_with fail
  refine (c_toSolution _ _ _ _ _ (hx0.below BW) hf0.1.1 Hf0.out.1.2.1 hf0.2.1.1 Hf0.out.2.1.2.1).mono ?_; rintro e w2 ⟨t11, t12, rfl, ot1, hb2⟩
  have hs2 := hb2.size
  replace BW := bb BW hb2
  replace bx0 := bx0.under hb2
  clear cA0 cB0
  obtain ⟨cA0, cB0, -, -⟩ := two_cells bx0
  clear hb2
  go_wp2_with fail
  refine (c_specSolutionAutomorphisms _ _ _ _ _ (ot1.sol)).mono ?_
  rw [← HR0.out, ← HR1.out]
  rintro e w3 ⟨s0, rfl, os0r, hb3⟩
  have hs3 := hb3.size
  replace ot1 := ot1.under hb3
  replace BW := bb BW hb3
  replace bx0 := bx0.under hb3
  clear cA0 cB0
  obtain ⟨cA0, cB0, -, -⟩ := two_cells bx0
  clear ot1
  have hS := os0r.rows
  clear os0r
  have BS : Below w3.heap.size w3 w3 := Below.refl _ _
  clear hb3
  go_wp2_with fail
  refine (c_toSolution _ _ _ _ _ (hx0.below BW) hf0.1.1 Hf0.out.1.2.1 hf0.2.1.1 Hf0.out.2.1.2.1).mono ?_; rintro e w4 ⟨z01, z02, rfl, oz0, hb4⟩
  have hs4 := hb4.size
  replace BW := bb BW hb4
  replace BS := bb BS hb4
  replace bx0 := bx0.under hb4
  clear cA0 cB0
  obtain ⟨cA0, cB0, -, -⟩ := two_cells bx0
  clear hb4
  obtain ⟨saz0, scz0, hvz0, _, _⟩ := oz0.sol.1.shape
  subst hvz0
  obtain ⟨sbz0, sdz0, hvz0, _, _⟩ := oz0.sol.2.shape
  subst hvz0
  obtain ⟨cA0z, cB0z, -, -⟩ := two_cells (bx0.alloc (.cells #[.slice saz0 x0.length scz0, .slice sbz0 y0.length sdz0] 29))
  go_wp2_with fail
  clear cA0z cB0z
  obtain ⟨bxz0, hb5, hz5⟩ := boxes1 w4 [.slice saz0 x0.length scz0, .slice sbz0 y0.length sdz0] 29
  obtain ⟨w5, hW5⟩ : ∃ W, w4.alloc (.cells #[.slice saz0 x0.length scz0, .slice sbz0 y0.length sdz0] 29) = W := ⟨_, rfl⟩
  rw [hW5] at bxz0 hb5 hz5 ⊢
  have hs5 : w4.heap.size + 1 ≤ w5.heap.size := by omega
  clear hW5 hz5
  replace oz0 := oz0.under hb5
  replace BW := bb BW hb5
  replace BS := bb BS hb5
  replace bx0 := bx0.under hb5
  clear cA0 cB0
  obtain ⟨cA0, cB0, -, -⟩ := two_cells bx0
  obtain ⟨cAz0, cBz0, -, -⟩ := two_cells bxz0
  clear hb5
  refine (c_SolutionAutomorphisms _ _ _ _ _ (oz0.sol)).mono ?_
  rw [← HR0.out, ← HR1.out]
  rintro e w6 ⟨g0, rfl, og0r, hb6⟩
  have hs6 := hb6.size
  replace oz0 := oz0.under hb6
  replace BW := bb BW hb6
  replace BS := bb BS hb6
  replace bx0 := bx0.under hb6
  clear cA0 cB0
  obtain ⟨cA0, cB0, -, -⟩ := two_cells bx0
  replace bxz0 := bxz0.under hb6
  clear cAz0 cBz0
  obtain ⟨cAz0, cBz0, -, -⟩ := two_cells bxz0
  have og0 := og0r.inn
  clear og0r
  clear hb6
  go_wp2_with fail
  refine (c_eqR _ _ _ _ _ (og0.rows) (hS.below BS)).mono ?_; rintro e w7 ⟨rfl, hb7⟩
  have hs7 := hb7.size
  replace oz0 := oz0.under hb7
  replace og0 := og0.under hb7
  replace BW := bb BW hb7
  replace BS := bb BS hb7
  replace bx0 := bx0.under hb7
  clear cA0 cB0
  obtain ⟨cA0, cB0, -, -⟩ := two_cells bx0
  replace bxz0 := bxz0.under hb7
  clear cAz0 cBz0
  obtain ⟨cAz0, cBz0, -, -⟩ := two_cells bxz0
  clear hb7
  go_wp2_with fail
  have BWd := BW.drew
  have oz0d := oz0.keep ((Keep.refl (fun _ => False) w7).drew) (fun _ _ _ h => h)
  have bx0d := bx0.drew
  have bxz0d := bxz0.drew
  go_region_held3 (fun w' => w'.cell? ⟨w.heap.size, 0, none⟩ = some (.slice a0 x0.length c0) ∧ w'.cell? ⟨w.heap.size, 1, none⟩ = some (.slice a0s y0.length c0s) ∧ w'.cell? ⟨w4.heap.size, 0, none⟩ = some (.slice saz0 x0.length scz0) ∧ w'.cell? ⟨w4.heap.size, 1, none⟩ = some (.slice sbz0 y0.length sdz0))
    (first | go_keep | exact ⟨(two_cells (bx0d.under hb8)).1, (two_cells (bx0d.under hb8)).2.1, (two_cells (bxz0d.under hb8)).1, (two_cells (bxz0d.under hb8)).2.1⟩ | exact ⟨(two_cells ((bx0d.under hb8).under hb9)).1, (two_cells ((bx0d.under hb8).under hb9)).2.1, (two_cells ((bxz0d.under hb8).under hb9)).1, (two_cells ((bxz0d.under hb8).under hb9)).2.1⟩)
    ((first | (go_at_call 8; refine (c_toSolution _ _ _ _ _ (hx0.below BWd) hf0.1.1 Hf0.out.1.2.1 hf0.2.1.1 Hf0.out.2.1.2.1).mono ?_; rintro e w8 ⟨t81, t82, rfl, ot8, hb8⟩) | (go_at_call 11; refine (c_eqS _ _ _ _ _ _ _ _ _ (oz0d.under hb8).sol ot8.sol).mono ?_; rintro e w9 ⟨rfl, hb9⟩)))
  have hb9z : Below w7.heap.size w7 w9 := (Below.refl _ _).drew.trans (bb hb8 hb9)
  have hs9 : w7.heap.size ≤ w9.heap.size := hb9z.size
  replace oz0 := oz0.under hb9z
  replace og0 := og0.under hb9z
  replace BW := bb BW hb9z
  replace BS := bb BS hb9z
  replace bx0 := bx0.under hb9z
  clear cA0 cB0
  obtain ⟨cA0, cB0, -, -⟩ := two_cells bx0
  replace bxz0 := bxz0.under hb9z
  clear cAz0 cBz0
  obtain ⟨cAz0, cBz0, -, -⟩ := two_cells bxz0
  clear BWd oz0d bx0d bxz0d ot8 hb8 hb9 hb9z
  go_wp2_with fail
  refine (c_markS _ _ _ _ _ _ _ _ oz0 (by omega) (by omega) (by omega)).mono ?_; rintro e w10 ⟨rfl, oz0m, hkw10⟩
  have hs10 := hkw10.size
  replace og0 := og0.keep hkw10 (fun b p q r => by omega)
  replace bx0 := bx0.of_block (hkw10.block _ (by omega) (by omega))
  clear cA0 cB0
  obtain ⟨cA0, cB0, -, -⟩ := two_cells bx0
  replace bxz0 := bxz0.of_block (hkw10.block _ (by omega) (by omega))
  clear cAz0 cBz0
  obtain ⟨cAz0, cBz0, -, -⟩ := two_cells bxz0
  replace BW := below_keep BW hkw10 (by omega)
  replace BS := below_keep BS hkw10 (by omega)
  clear oz0
  have oz0 := oz0m
  clear oz0m hkw10
  clear oz0
  go_wp2_with fail
  refine (c_eqR _ _ _ _ _ (og0.rows) (hS.below BS)).mono ?_; rintro e w11 ⟨rfl, hb11⟩
  have hs11 := hb11.size
  replace og0 := og0.under hb11
  replace BW := bb BW hb11
  replace BS := bb BS hb11
  replace bx0 := bx0.under hb11
  clear cA0 cB0
  obtain ⟨cA0, cB0, -, -⟩ := two_cells bx0
  replace bxz0 := bxz0.under hb11
  clear cAz0 cBz0
  obtain ⟨cAz0, cBz0, -, -⟩ := two_cells bxz0
  clear hb11
  go_wp2_with fail
  refine (c_markR _ _ _ _ _ _ og0 (by omega) (by omega)).mono ?_; rintro e w12 ⟨rfl, og0m, hkw12⟩
  have hs12 := hkw12.size
  replace bx0 := bx0.of_block (hkw12.block _ (by omega) (by omega))
  clear cA0 cB0
  obtain ⟨cA0, cB0, -, -⟩ := two_cells bx0
  replace bxz0 := bxz0.of_block (hkw12.block _ (by omega) (by omega))
  clear cAz0 cBz0
  obtain ⟨cAz0, cBz0, -, -⟩ := two_cells bxz0
  replace BW := below_keep BW hkw12 (by omega)
  replace BS := below_keep BS hkw12 (by omega)
  clear og0
  have og0 := og0m
  clear og0m hkw12
  go_wp2_with fail
  refine (c_heldR _ _ _ _ (og0.rows) (by omega) (by omega)).mono ?_; rintro e w13 ⟨rfl, hb13⟩
  have hs13 := hb13.size
  replace og0 := og0.under hb13
  replace BW := bb BW hb13
  replace BS := bb BS hb13
  replace bx0 := bx0.under hb13
  clear cA0 cB0
  obtain ⟨cA0, cB0, -, -⟩ := two_cells bx0
  replace bxz0 := bxz0.under hb13
  clear cAz0 cBz0
  obtain ⟨cAz0, cBz0, -, -⟩ := two_cells bxz0
  clear hb13
  go_wp2_with fail
  refine (c_toSolution _ _ _ _ _ (hx0.below BW) hf0.1.1 Hf0.out.1.2.1 hf0.2.1.1 Hf0.out.2.1.2.1).mono ?_; rintro e w14 ⟨t21, t22, rfl, ot2, hb14⟩
  have hs14 := hb14.size
  replace og0 := og0.under hb14
  replace BW := bb BW hb14
  replace BS := bb BS hb14
  replace bx0 := bx0.under hb14
  clear cA0 cB0
  obtain ⟨cA0, cB0, -, -⟩ := two_cells bx0
  replace bxz0 := bxz0.under hb14
  clear cAz0 cBz0
  obtain ⟨cAz0, cBz0, -, -⟩ := two_cells bxz0
  clear hb14
  go_wp2_with fail
  refine (c_SolutionAutomorphisms _ _ _ _ _ (ot2.sol)).mono ?_
  rw [← HR0.out, ← HR1.out]
  rintro e w15 ⟨h0, rfl, oh0r, hb15⟩
  have hs15 := hb15.size
  replace og0 := og0.under hb15
  replace ot2 := ot2.under hb15
  replace BW := bb BW hb15
  replace BS := bb BS hb15
  replace bx0 := bx0.under hb15
  clear cA0 cB0
  obtain ⟨cA0, cB0, -, -⟩ := two_cells bx0
  replace bxz0 := bxz0.under hb15
  clear cAz0 cBz0
  obtain ⟨cAz0, cBz0, -, -⟩ := two_cells bxz0
  have oh0 := oh0r.inn
  clear oh0r
  clear ot2
  clear hb15
  go_wp2_with fail
  refine (c_eqR _ _ _ _ _ (oh0.rows) (hS.below BS)).mono ?_; rintro e w16 ⟨rfl, hb16⟩
  have hs16 := hb16.size
  replace og0 := og0.under hb16
  replace oh0 := oh0.under hb16
  replace BW := bb BW hb16
  replace BS := bb BS hb16
  replace bx0 := bx0.under hb16
  clear cA0 cB0
  obtain ⟨cA0, cB0, -, -⟩ := two_cells bx0
  replace bxz0 := bxz0.under hb16
  clear cAz0 cBz0
  obtain ⟨cAz0, cBz0, -, -⟩ := two_cells bxz0
  clear hb16
  go_wp2_with fail
  refine (c_heldR _ _ _ _ (og0.rows) (by omega) (by omega)).mono ?_; rintro e w17 ⟨rfl, hb17⟩
  have hs17 := hb17.size
  replace og0 := og0.under hb17
  replace oh0 := oh0.under hb17
  replace BW := bb BW hb17
  replace BS := bb BS hb17
  replace bx0 := bx0.under hb17
  clear cA0 cB0
  obtain ⟨cA0, cB0, -, -⟩ := two_cells bx0
  replace bxz0 := bxz0.under hb17
  clear cAz0 cBz0
  obtain ⟨cAz0, cBz0, -, -⟩ := two_cells bxz0
  clear hb17
  have HB := Lib.hid BW
  clear BW BS hS og0 oh0 hx0 bx0 bxz0
  go_wp2
  go_ret
  exact ⟨rfl, HB.out⟩
end Go.Proofs.Ytgmhnjccgldddaa
