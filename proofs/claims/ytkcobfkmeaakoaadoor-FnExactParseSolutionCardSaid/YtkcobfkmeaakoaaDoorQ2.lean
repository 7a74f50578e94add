/-
  Tables and pairs of tables read from texts. No program here.
-/
import Derived.Test.YtkcobfkmeaakoaaDoorQ1
import Derived.Test.YtkcobfkmeaakoaaDoorLParsePermutation
import Derived.Test.YtkcobfkmeaakoaaDoorI2b
import Derived.Test.YtkcobfkmeaakoaaDoorI3c
import Derived.Lib.Join
namespace Go.Proofs.YtkcobfkmeaakoaaDoor
set_option linter.unusedVariables false
set_option linter.unusedSimpArgs false
open Go

theorem parts_ne (c : UInt8) (l : List UInt8) : parts c l ≠ [] := by
  by_cases h : c ∈ l
  · obtain ⟨a, r, rfl, ha⟩ := List.eq_append_cons_of_mem h
    rw [parts_hit r ha]; simp
  · rw [parts_none h]; simp
theorem join_cons (a : List UInt8) (p : List UInt8) (ps : List (List UInt8)) (sep : List UInt8) : Lib.join (a :: p :: ps) sep = a ++ (sep ++ Lib.join (p :: ps) sep) := by
  rw [Lib.join_cons, Lib.join_cons]
  simp [Lib.joinTail]
theorem join_parts (c : UInt8) : ∀ (k : Nat) (l : List UInt8), l.length ≤ k → Lib.join (parts c l) [c] = l
  | k, l, hk => by
    by_cases h : c ∈ l
    · obtain ⟨a, r, rfl, ha⟩ := List.eq_append_cons_of_mem h
      rw [parts_hit r ha]
      match k, hk with
      | 0, hk => simp at hk
      | k + 1, hk =>
        have ih := join_parts c k r (by simp at hk; omega)
        match e : parts c r with
        | [] => exact absurd e (parts_ne c r)
        | p :: ps =>
          rw [e] at ih
          rw [join_cons, ih]
          simp
    · rw [parts_none h, Lib.join_one]
theorem parts_join (c : UInt8) : ∀ (ps : List (List UInt8)), ps ≠ [] → (∀ p ∈ ps, c ∉ p) → parts c (Lib.join ps [c]) = ps
  | [], h, _ => absurd rfl h
  | [p], _, h => by
    rw [Lib.join_one]
    exact parts_none (h p (by simp))
  | p :: q :: ps, _, h => by
    rw [join_cons]
    have ih := parts_join c (q :: ps) (by simp) (fun x hx => h x (List.mem_cons_of_mem _ hx))
    simp only [List.singleton_append]
    rw [parts_hit _ (h p (by simp)), ih]
theorem parts_mem {c : UInt8} : ∀ (k : Nat) (l : List UInt8), l.length ≤ k → ∀ p ∈ parts c l, ∀ b ∈ p, b ∈ l ∧ b ≠ c
  | k, l, hk, p, hp, b, hb => by
    by_cases h : c ∈ l
    · obtain ⟨a, r, rfl, ha⟩ := List.eq_append_cons_of_mem h
      rw [parts_hit r ha] at hp
      match k, hk with
      | 0, hk => simp at hk
      | k + 1, hk =>
        rcases List.mem_cons.1 hp with rfl | hp
        · exact ⟨by simp [hb], fun e => ha (by rw [← e]; exact hb)⟩
        · have := parts_mem k r (by simp at hk; omega) p hp b hb
          exact ⟨by simp [this.1], this.2⟩
    · rw [parts_none h] at hp
      simp at hp; subst hp
      exact ⟨hb, fun e => h (by rw [← e]; exact hb)⟩
theorem parts_cover {c : UInt8} : ∀ (k : Nat) (l : List UInt8), l.length ≤ k → ∀ b ∈ l, b ≠ c → ∃ p ∈ parts c l, b ∈ p
  | k, l, hk, b, hb, hbc => by
    by_cases h : c ∈ l
    · obtain ⟨a, r, rfl, ha⟩ := List.eq_append_cons_of_mem h
      rw [parts_hit r ha]
      match k, hk with
      | 0, hk => simp at hk
      | k + 1, hk =>
        rcases List.mem_append.1 hb with hb | hb
        · exact ⟨a, by simp, hb⟩
        · rcases List.mem_cons.1 hb with rfl | hb
          · exact absurd rfl hbc
          · obtain ⟨p, hp, hbp⟩ := parts_cover k r (by simp at hk; omega) b hb hbc
            exact ⟨p, by simp [hp], hbp⟩
    · rw [parts_none h]; exact ⟨l, by simp, hb⟩
theorem parts_len (c : UInt8) : ∀ (k : Nat) (l : List UInt8), l.length ≤ k → (((parts c l).map List.length).sum + (parts c l).length = l.length + 1)
  | k, l, hk => by
    by_cases h : c ∈ l
    · obtain ⟨a, r, rfl, ha⟩ := List.eq_append_cons_of_mem h
      rw [parts_hit r ha]
      match k, hk with
      | 0, hk => simp at hk
      | k + 1, hk =>
        have ih := parts_len c k r (by simp at hk; omega)
        simp only [List.map_cons, List.sum_cons, List.length_cons, List.length_append]
        omega
    · rw [parts_none h]; simp

/-- The numbers of a list of bytes. -/
def bI (p : List UInt8) : List Int := p.map fun c => (c.toNat : Int)
theorem bsI_eq (s : ByteArray) : bsI s = bI s.data.toList := rfl
def okP (p : List UInt8) : Bool := okD (bI p)
def rdP (p : List UInt8) : List Int := readD (bI p)
theorem rdP_len {p : List UInt8} (h : okP p = true) : (rdP p).length = p.length := by
  unfold okP at h
  unfold rdP readD
  rw [if_pos h]
  simp [bI]
/-- A table can be read. -/
def tOk (l : List UInt8) : Bool := (parts 47 l).all okP && isTab ((parts 47 l).map rdP)
def tRes (l : List UInt8) : List (List Int) := if tOk l then (parts 47 l).map rdP else []
theorem tRes_ok {l : List UInt8} (h : tOk l = true) : tRes l = (parts 47 l).map rdP := by simp [tRes, h]
theorem sum_same (n : Nat) : ∀ (ps : List (List UInt8)), (∀ p ∈ ps, p.length = n) → (ps.map List.length).sum = ps.length * n
  | [], _ => by simp
  | p :: ps, h => by
    simp only [List.map_cons, List.sum_cons, List.length_cons]
    rw [sum_same n ps (fun x hx => h x (List.mem_cons_of_mem _ hx)), h p (by simp), Nat.add_mul]
    omega
/-- A text of which a table can be read is short. -/
theorem tOk_short {l : List UInt8} (h : tOk l = true) : l.length ≤ 155 := by
  unfold tOk at h
  simp only [Bool.and_eq_true, List.all_eq_true] at h
  obtain ⟨h1, h2⟩ := h
  have hl := isTab_len h2
  rw [List.length_map] at hl
  have hr : ∀ p ∈ parts 47 l, p.length = (parts 47 l).length := by
    intro p hp
    obtain ⟨i, hi, rfl⟩ := List.getElem_of_mem hp
    have := isTab_row h2 (x := (i : Int)) (by omega) (by simp; omega)
    rw [row_nat _ _ (by simpa using hi), List.getElem_map, rdP_len (h1 _ hp)] at this
    simpa using this
  have h3 := sum_same _ _ hr
  have h4 := parts_len 47 l.length l (Nat.le_refl _)
  have h5 : (parts 47 l).length * (parts 47 l).length ≤ 12 * 12 := Nat.mul_le_mul hl.2 hl.2
  omega
theorem tOk_no {l : List UInt8} {p : List UInt8} (hp : p ∈ parts 47 l) (h : okP p = false) : tOk l = false := by
  unfold tOk
  rw [Bool.and_eq_false_iff]
  left
  rw [List.all_eq_false]
  exact ⟨p, hp, by simp [h]⟩

/-! Pairs of tables. -/
def sOk (l : List UInt8) : Bool := decide ((parts 124 l).length = 2) && (tOk ((parts 124 l).getD 0 []) && tOk ((parts 124 l).getD 1 []) && isPM (tRes ((parts 124 l).getD 0 [])) (tRes ((parts 124 l).getD 1 [])))
def sRA (l : List UInt8) : List (List Int) := if sOk l then tRes ((parts 124 l).getD 0 []) else []
def sRB (l : List UInt8) : List (List Int) := if sOk l then tRes ((parts 124 l).getD 1 []) else []
theorem okP_bar {p : List UInt8} (h : (124 : UInt8) ∈ p) : okP p = false := by
  obtain ⟨i, hi, e⟩ := List.getElem_of_mem h
  unfold okP
  refine okD_no (k := i) (by simpa [bI] using hi) ?_
  have : nth (bI p) i = 124 := by
    rw [nth_nat _ _ (by simpa [bI] using hi)]
    simp [bI, e]
  rw [this]; decide
theorem tOk_bar {l : List UInt8} (h : (124 : UInt8) ∈ l) : tOk l = false := by
  obtain ⟨p, hp, hb⟩ := parts_cover (c := 47) l.length l (Nat.le_refl _) 124 h (by decide)
  exact tOk_no hp (okP_bar hb)
theorem tOk_nil : tOk [] = false := by
  have : parts 47 [] = [[]] := parts_none (by simp)
  unfold tOk
  rw [this]
  decide
/-- The halves at the first bar: read just if there is one bar. -/
theorem cut_no {l : List UInt8} (h : (124 : UInt8) ∉ l) : sOk l = false := by
  unfold sOk; rw [parts_none h]; simp
theorem cut_one {a r : List UInt8} (ha : (124 : UInt8) ∉ a) (hr : (124 : UInt8) ∉ r) : sOk (a ++ 124 :: r) = (tOk a && tOk r && isPM (tRes a) (tRes r)) ∧ (sOk (a ++ 124 :: r) = true → sRA (a ++ 124 :: r) = tRes a ∧ sRB (a ++ 124 :: r) = tRes r) := by
  have e : parts 124 (a ++ 124 :: r) = [a, r] := by rw [parts_hit r ha, parts_none hr]
  refine ⟨by unfold sOk; rw [e]; simp, fun h => ?_⟩
  unfold sRA sRB
  rw [h, e]; simp
theorem cut_more {a r : List UInt8} (ha : (124 : UInt8) ∉ a) (hr : (124 : UInt8) ∈ r) : sOk (a ++ 124 :: r) = false ∧ tOk r = false := by
  obtain ⟨b, q, rfl, hb⟩ := List.eq_append_cons_of_mem hr
  refine ⟨?_, tOk_bar hr⟩
  unfold sOk
  rw [parts_hit _ ha, parts_hit _ hb]
  have := List.length_pos_iff.2 (parts_ne 124 q)
  simp only [List.length_cons]
  rw [decide_eq_false (by omega)]
  rfl
end Go.Proofs.YtkcobfkmeaakoaaDoor
