/-
  The reference's ways with tables: rows, columns, the turned table, the renamed table. Condition: a table (and a permutation of its elements).
-/
import Derived.Test.YtgmhnjccgldddaaI3b
import Derived.Test.YtgmhnjccgldddaaS1
namespace Go.Proofs.Ytgmhnjccgldddaa
set_option linter.unusedVariables false
set_option linter.unusedSimpArgs false
open Go.RowKit

/-- 'append(s, u)', s a table of the call's own, u a row made since. -/
theorem wpList_app_row {ops : Array Oper} {rest : List Oper} {o : Oper} {a : Act} {Q : Exit → Act → World → Prop} (B : Nat) (w0 w : World) (v : Value) (xss : List (List Int)) (u : Value) (xs : List Int) (s x : Operand) (hgd : o.guard = none)
    (ho : o.op = .call { callee := .builtin .append, args := #[s, x], argTypes := #[22, 22] })
    (hs : a.eval s = v) (hown : OwnRows B w0 v xss) (hb : Below w0.heap.size w0 w) (hu : Own w0.heap.size w u xs) (hx : a.eval x = .slice (some ⟨w.heap.size, 0, none⟩) 1 1) (hn : xss.length ≤ 1099511627776) (hB : B ≤ w0.heap.size)
    (h : ∀ a' c' w', OwnRows B w' (.slice a' (xss.length + 1) c') (xss ++ [xs]) → Keep (fun b => v.ownBlock = some b) w w' → wpList Try.prog ops Q rest (a.put o.dst (.slice a' (xss.length + 1) c')) w') :
    wpList Try.prog ops Q (o :: rest) a (w.alloc (.cells #[u] 26)) := by
  obtain ⟨us, h1, h2⟩ := hown
  have h1' := ownsRow_keep h1 (Keep.of_below hb) (fun b _ hlt => by omega)
  have h2' := h2.snoc hb hu hB
  have hlen := h2.len
  obtain ⟨ua, uc, hu1, _⟩ := hu.shape
  refine wpList_app w hgd s x 22 ho B 26 (.slice none 0 0) 24 Try.underlying22 inf_ints rfl (by decide) v us.length us hs h1' u (by subst hu1; rfl) hx (by omega) (Nat.le_trans hB hb.size) fun a' c' w' h3 h4 => ?_
  rw [hlen] at h3 ⊢
  refine h a' c' w' ⟨us ++ [u], by simpa [hlen] using h3, ?_⟩ h4
  refine ⟨h2'.len, fun i hi hi' => ?_, h2'.apart⟩
  have h5 := h2'.own i hi hi'
  obtain ⟨hl, hn' | ⟨g, cap, cur, hv, hbg, hg, r⟩⟩ := h5
  · exact ⟨hl, .inl hn'⟩
  · refine ⟨hl, .inr ⟨g, cap, cur, hv, hbg, ?_, r⟩⟩
    rw [h4.block g (Array.getElem?_eq_some_iff.1 hg).1 ?_]; exact hg
    intro e
    obtain ⟨_, hnn | ⟨g', cap', cur', hv', _, hg', _⟩⟩ := h1'
    · rw [hnn.1] at e; cases e
    · rw [hv'] at e
      simp [Value.ownBlock] at e
      subst e
      rw [hg] at hg'
      simp at hg'

theorem OwnRows.lt {B : Nat} {w : World} {v : Value} {xss : List (List Int)} (h : OwnRows B w v xss) {k : Nat} (hk : v.ownBlock = some k) : B ≤ k ∧ k < w.heap.size := by
  obtain ⟨us, h1, _⟩ := h
  exact World.ownsRow.lt h1 k hk
theorem OwnRows.frame {B B0 : Nat} {w0 w1 w w' : World} {v : Value} {xss : List (List Int)} (h : OwnRows B w1 v xss) (hb : Below B0 w0 w) (hB : B0 ≤ B) (hs : B0 ≤ w.heap.size) (hk : Keep (fun b => v.ownBlock = some b) w w') : Below B0 w0 w' :=
  hb.trans (hk.below fun k hk' => ⟨by omega, fun e => by have := (h.lt e).1; omega⟩)
theorem OwnRows.made0 {B : Nat} (w : World) (hB : B ≤ w.heap.size) : OwnRows B (w.alloc (.cells #[] 26)) (.slice (some ⟨w.heap.size, 0, none⟩) 0 0) [] :=
  ⟨[], ownsRow_blk (us := []) (heap_alloc_new w _) hB rfl rfl (by decide), RowVals.nil _ _⟩

/-- Are all rows permutations? -/
def permRows (t : List (List Int)) : Bool := t.all fun r => isPerm r


def colL (t : List (List Int)) (y : Int) : List Int := rowOf t.length fun x => val2 t x y

set_option maxHeartbeats 400000 in
theorem c_l01Column (v : Value) (t : List (List Int)) (y : Int) (w : World) (hx : Rows w v t) (hs : Sq t) (hy0 : 0 ≤ y) (hy1 : y < t.length) :
    Calls Try.prog 81 #[v, .int .i64 y] w (RInts w (colL t y)) := by
  obtain ⟨a, c, rfl, hc, hm⟩ := hx.shape
  have hn12 := hs.1
  have HSq := Lib.hid hs; clear hs
  go_enter Try.func81, Try.ntmps81
  go_wp2
  go_loopw [5, 6] (fun s i wr => ∃ (k : Nat) (sa : Option Addr) (sc : Nat), k ≤ t.length ∧ i = .int .i64 k ∧ s = .slice sa k sc ∧ Below w.heap.size w wr ∧ Own w.heap.size wr (.slice sa k sc) ((colL t y).take k)) (fun _ i _ => t.length - (intOf i).toNat)
  case atStart => exact ⟨0, _, _, Nat.zero_le _, rfl, rfl, (Below.refl _ _).alloc (Nat.le_refl _) _, Own.made0 w (Nat.le_refl _)⟩
  case round =>
    obtain ⟨k, sa, sc, hk, rfl, rfl, hb, hown⟩ := hrel
    have hlen : ((colL t y).take k).length = k := by simp [colL]; omega
    by_cases hlt : k < t.length
    · obtain ⟨b, o, ra, rc, rfl, hcell, hu⟩ := (hx.below hb).getS k hlt
      have hrl := HSq.out.2 k (by omega) (by omega)
      have hyr : y < (row t k).length := by omega
      obtain ⟨b2, o2, rfl, hcell2⟩ := hu.geti y hy0 hyr
      have Hb := Lib.hid hb; have Ho := Lib.hid hown; have Hl := Lib.hid hlen; have Hs := Lib.hid hb.size; clear hb hown hlen hrl hu
      go_wp2_with (at_builtin; refine wpList_app_int w.heap.size wr _ ((colL t y).take k) (nth (row t k) y) _ _ rfl rfl rfl Ho.out rfl (by rw [Hl.out]; omega) Hs.out ?_; intro a' c' w' hown' hkeep; rw [Hl.out]; have Hk := Lib.hid hkeep; have Ho' := Lib.hid hown'; clear hkeep hown')
      go_roundw
      case rel =>
        have h1 := Ho'.out
        have e : (colL t y).take (k+1) = (colL t y).take k ++ [nth (row t k) y] := by
          rw [take_snoc _ _ (by simpa [colL] using hlt)]
          congr 2
          exact nth_rowOf _ _ _ hlt
        rw [Hl.out, ← e] at h1
        exact ⟨k + 1, a', c', by omega, by go_num, rfl, Ho.out.frame Hb.out (Nat.le_refl _) Hs.out Hk.out, h1⟩
      case measure => simp [intOf]; omega
    · have Hb := Lib.hid hb; have Ho := Lib.hid hown; clear hb hown hlen
      obtain rfl : k = t.length := by omega
      go_wp2
      go_ret
      exact ⟨_, rfl, by have := Ho.out; rwa [List.take_of_length_le (by simp [colL])] at this, Hb.out⟩

theorem transL_row (t : List (List Int)) (k : Nat) (h : k < t.length) : row (transL t) k = colL t k := row_tabOf _ _ _ h

set_option maxHeartbeats 800000 in
theorem c_l01Turn (v : Value) (t : List (List Int)) (w : World) (hx : Rows w v t) (hs : Sq t) :
    Calls Try.prog 60 #[v] w (RRows w (transL t)) := by
  obtain ⟨a, c, rfl, hc, hm⟩ := hx.shape
  have hn12 := hs.1
  have HSq := Lib.hid hs; clear hs
  go_enter Try.func60, Try.ntmps60
  go_wp2
  go_loopw [3, 4] (fun s i wr => ∃ (k : Nat) (sa : Option Addr) (sc : Nat), k ≤ t.length ∧ i = .int .i64 k ∧ s = .slice sa k sc ∧ Below w.heap.size w wr ∧ OwnRows w.heap.size wr (.slice sa k sc) ((transL t).take k)) (fun _ i _ => t.length - (intOf i).toNat)
  case atStart => exact ⟨0, _, _, Nat.zero_le _, rfl, rfl, (Below.refl _ _).alloc (Nat.le_refl _) _, OwnRows.made0 w (Nat.le_refl _)⟩
  case round =>
    obtain ⟨k, sa, sc, hk, rfl, rfl, hb, hown⟩ := hrel
    have hlen : ((transL t).take k).length = k := by simp; omega
    by_cases hlt : k < t.length
    · have Hb := Lib.hid hb; have Ho := Lib.hid hown; have Hl := Lib.hid hlen; have Hs := Lib.hid hb.size; clear hb hown hlen
      obtain ⟨wo, rfl⟩ : ∃ wo : World, wo = wr := ⟨_, rfl⟩
      go_wp2_with fail
      refine (c_l01Column _ _ _ _ (hx.below Hb.out) HSq.out (by omega) (by omega)).mono ?_; rintro e w1 ⟨r, rfl, hor, hb1⟩
      obtain ⟨qa, qc, hqv, _⟩ := hor.shape
      subst hqv
      have HR := Lib.hid hor; have HB1 := Lib.hid hb1; clear hor hb1
      go_wp2_with (at_builtin; refine wpList_app_row w.heap.size wo w1 _ ((transL t).take k) _ (colL t k) _ _ rfl rfl rfl Ho.out HB1.out HR.out rfl (by rw [Hl.out]; omega) Hs.out ?_; intro a' c' w' hown' hkeep; rw [Hl.out]; have Hk := Lib.hid hkeep; have Ho' := Lib.hid hown'; clear hkeep hown')
      go_roundw
      case rel =>
        have h1 := Ho'.out
        have e : (transL t).take (k+1) = (transL t).take k ++ [colL t k] := by
          rw [take_snoc_row _ _ (by simpa using hlt), transL_row _ _ hlt]
        rw [Hl.out, ← e] at h1
        exact ⟨k + 1, a', c', by omega, by go_num, rfl, OwnRows.frame Ho.out (bb Hb.out HB1.out) (Nat.le_refl _) (Nat.le_trans Hs.out HB1.out.size) Hk.out, h1⟩
      case measure => simp [intOf]; omega
    · have Hb := Lib.hid hb; have Ho := Lib.hid hown; clear hb hown hlen
      obtain rfl : k = t.length := by omega
      go_wp2
      go_ret
      exact ⟨_, rfl, by have := Ho.out; rwa [List.take_of_length_le (by simp)] at this, Hb.out⟩
end Go.Proofs.Ytgmhnjccgldddaa
