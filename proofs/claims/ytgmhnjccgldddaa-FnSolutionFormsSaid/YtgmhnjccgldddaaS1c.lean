/-
  What the reference's copy, compare, identity and the program's 'increasing' return (layer 1).
-/
import Derived.Test.YtgmhnjccgldddaaI1c
import Derived.Test.YtgmhnjccgldddaaP3
import Derived.Laws.AppendOwnNone
namespace Go.Proofs.Ytgmhnjccgldddaa
set_option linter.unusedVariables false
set_option linter.unusedSimpArgs false
open Go.RowKit

set_option maxHeartbeats 400000 in
theorem c_l01Same (v1 v2 : Value) (xs ys : List Int) (w : World) (hx : Ints w v1 xs) (hy : Ints w v2 ys) :
    Calls Try.prog 94 #[v1, v2] w (QVal w (.bool (decide (xs = ys)))) := by
  obtain ⟨a, c, rfl, hc, hm, hcell⟩ := hx
  obtain ⟨a2, c2, rfl, hc2, hm2, hcell2⟩ := hy
  have hm' : xs.length ≤ 9223372036854775807 := by unfold maxLen at hm; omega
  have hm2' : ys.length ≤ 9223372036854775807 := by unfold maxLen at hm2; omega
  have HC := Lib.hid hcell; clear hcell
  have HC2 := Lib.hid hcell2; clear hcell2
  clear hm hm2
  by_cases hlen : xs.length = ys.length
  · have hl1 : ((xs.length : Int) == (ys.length : Int)) = true := by simp [hlen]
    have hl2 : ((xs.length : Int) != (ys.length : Int)) = false := by simp [hlen]
    have HL := Lib.hid hlen; clear hlen
    go_enter Try.func94, Try.ntmps94
    go_wp2
    go_loopw [5] (fun i wr => ∃ k : Nat, k ≤ xs.length ∧ i = .int .i64 k ∧ Hid (∃ n, wr = w.drewN n) ∧ Hid (xs.take k = ys.take k)) (fun i _ => xs.length - (intOf i).toNat)
    case atStart => exact ⟨0, Nat.zero_le _, rfl, Lib.hid ⟨0, rfl⟩, Lib.hid rfl⟩
    case round =>
      obtain ⟨k, hk, rfl, HN, HE⟩ := hrel
      have hb : Below w.heap.size w wr := by obtain ⟨n, hn⟩ := HN.out; rw [hn]; exact below_drewN (Below.refl _ _) n
      by_cases hlt : k < xs.length
      · have hlt2 : k < ys.length := by have := HL.out; omega
        obtain ⟨b, o, rfl, hcell⟩ := HC.out k hlt
        obtain ⟨b2, o2, rfl, hcell2⟩ := HC2.out k hlt2
        have h1 : wr.cell? ⟨b, o + k, none⟩ = some (.int .i64 xs[k]) := cell_under hb hcell
        have h2 : wr.cell? ⟨b2, o2 + k, none⟩ = some (.int .i64 ys[k]) := cell_under hb hcell2
        clear hb hcell hcell2
        have hk0 : (0 : Int) ≤ k := by omega
        have hk1 : (k : Int) < xs.length := by omega
        have hk2 : (k : Int) < ys.length := by omega
        by_cases he : xs[k] = ys[k]
        · have he1 : (xs[k] != ys[k]) = false := by simp [he]
          have HV := Lib.hid he; clear he
          go_wp2
          go_quiet (fail)
          go_wp2
          go_roundw
          case rel => exact ⟨k + 1, by omega, by go_num, by obtain ⟨n, hn⟩ := HN.out; exact Lib.hid ⟨n + _, by rw [hn]; exact drewN_drewN w n _⟩, Lib.hid (eq_snoc hlt hlt2 HE.out HV.out)⟩
          case measure => simp [intOf]; omega
        · have he1 : (xs[k] != ys[k]) = true := by simp [he]
          go_wp2
          go_quiet (fail)
          go_wp2
          go_ret
          refine ⟨ret_bool ?_, by obtain ⟨n, hn⟩ := HN.out; exact ⟨n + _, by rw [hn]; exact drewN_drewN w n _⟩⟩
          simp only [Eq.comm (a := false), decide_eq_false_iff_not]
          rintro rfl
          exact he rfl
      · go_wp2
        go_ret
        refine ⟨ret_bool ?_, HN.out⟩
        have h := HE.out
        rw [List.take_of_length_le (by omega), List.take_of_length_le (by have := HL.out; omega)] at h
        simp [h]
  · have hl1 : ((xs.length : Int) == (ys.length : Int)) = false := by simp; omega
    have hl2 : ((xs.length : Int) != (ys.length : Int)) = true := by simp; omega
    go_enter Try.func94, Try.ntmps94
    go_wp2
    go_ret
    refine ⟨ret_bool ?_, ⟨0, rfl⟩⟩
    simp only [Eq.comm (a := false), decide_eq_false_iff_not]
    rintro rfl
    exact hlen rfl

theorem iota_snoc (k : Nat) : iota (k + 1) = iota k ++ [(k : Int)] := by simp [iota, List.range_succ]

set_option maxHeartbeats 400000 in
theorem c_l01Unit (n : Nat) (w : World) (hn : n ≤ 1048576) :
    Calls Try.prog 59 #[.int .i64 n] w (RInts w (iota n)) := by
  go_enter Try.func59, Try.ntmps59
  go_wp2
  go_loopw [3, 4] (fun s i wr => ∃ (k : Nat) (sa : Option Addr) (sc : Nat), k ≤ n ∧ i = .int .i64 k ∧ s = .slice sa k sc ∧ Below w.heap.size w wr ∧ Own w.heap.size wr (.slice sa k sc) (iota k)) (fun _ i _ => n - (intOf i).toNat)
  case atStart => exact ⟨0, _, _, Nat.zero_le _, rfl, rfl, (Below.refl _ _).alloc (Nat.le_refl _) _, Own.made0 w (Nat.le_refl _)⟩
  case round =>
    obtain ⟨k, sa, sc, hk, rfl, rfl, hb, hown⟩ := hrel
    by_cases hlt : k < n
    · have Hb := Lib.hid hb; have Ho := Lib.hid hown; have Hs := Lib.hid hb.size; clear hb hown
      go_wp2_with (at_builtin; refine wpList_app_int w.heap.size wr _ (iota k) (k : Int) _ _ rfl rfl rfl Ho.out rfl (by rw [iota_length]; omega) Hs.out ?_; intro a' c' w' hown' hkeep; rw [iota_length]; have Hk := Lib.hid hkeep; have Ho' := Lib.hid hown'; clear hkeep hown')
      go_roundw
      case rel =>
        have h1 := Ho'.out
        rw [iota_length, ← iota_snoc] at h1
        exact ⟨k + 1, a', c', by omega, by go_num, rfl, Ho.out.frame Hb.out (Nat.le_refl _) Hs.out Hk.out, h1⟩
      case measure => simp [intOf]; omega
    · have Hb := Lib.hid hb; have Ho := Lib.hid hown; clear hb hown
      obtain rfl : k = n := by omega
      go_wp2
      go_ret
      exact ⟨_, rfl, Ho.out, Hb.out⟩

/-- 'append(s, src...)', s a slice of integers of the call's own, src any slice of integers. -/
theorem wpList_app_ints {ops : Array Oper} {rest : List Oper} {o : Oper} {a : Act} {Q : Exit → Act → World → Prop} (B : Nat) (w : World) (v u : Value) (xs ys : List Int) (s x : Operand) (hgd : o.guard = none)
    (ho : o.op = .call { callee := .builtin .append, args := #[s, x], argTypes := #[26, 26] })
    (hs : a.eval s = v) (hown : Own B w v xs) (hx : a.eval x = u) (hu : Ints w u ys) (hn : xs.length + ys.length ≤ 1099511627776) (hbase : B ≤ w.heap.size)
    (h : ∀ a' c' w', Own B w' (.slice a' (xs.length + ys.length) c') (xs ++ ys) → Keep (fun b => v.ownBlock = some b) w w' → wpList Try.prog ops Q rest (a.put o.dst (.slice a' (xs.length + ys.length) c')) w') :
    wpList Try.prog ops Q (o :: rest) a w := by
  obtain ⟨i0, hi, hz0, hz1, hz2⟩ := info_parts inf_int64
  obtain ⟨ad, c, rfl, hc, hm, hcell⟩ := hu
  cases ad with
  | none =>
    have h0 : ys = [] := by
      cases ys with
      | nil => rfl
      | cons y ys => obtain ⟨b, o, e, _⟩ := hcell 0 (by simp); cases e
    subst h0
    obtain ⟨sa, sc, rfl, hsc⟩ := hown.shape
    have hr : (Builtin.append_ #[26, 26] o.type #[.slice sa xs.length sc, .slice none 0 c]).run Try.prog w = .ok (.slice sa xs.length sc) w := by
      rcases hown.2 with ⟨e, _⟩ | ⟨g, cap, cur, e, _, _, hnc, _⟩
      · simp [Builtin.append_, run_underlying Try.underlying26, sizeOf, typeInfo, hi, Builtin.lenOf, Builtin.firstCells, e]
      · simp [Builtin.append_, run_underlying Try.underlying26, sizeOf, typeInfo, hi, Builtin.lenOf, Builtin.firstCells, hnc, storeCells, e]
    refine wpList_plain hgd fun K hK => ?_
    unfold Oper.wp
    have hx' : a.eval x = .slice none 0 c := by simpa using hx
    simp [execOp, ho, resolve, invoke, builtin, hs, hx', hr, Result.andThen]
    exact hK _ _ (by simpa using h sa sc w (by simpa using hown) (Keep.refl _ _))
  | some ad =>
    refine wpList_append_own _ hgd s x 26 ho B 2 i0 (.int .i64 0) 1 8 Try.underlying26 hi hz0 hz1 hz2 rfl (by decide) v xs.length (xs.map (Value.int .i64)) hs hown ad ys.length c (ys.map (Value.int .i64)) hx (by simp) ?_ (by intro u hu; simp at hu; obtain ⟨z, _, rfl⟩ := hu; rfl) (by unfold maxLen; omega) (by omega) hbase ?_
    · intro j u hj
      have hjl : j < ys.length := by
        rcases Nat.lt_or_ge j ys.length with h | h
        · exact h
        · simp [List.getElem?_eq_none (show (ys.map (Value.int .i64)).length ≤ j by simpa using h)] at hj
      obtain ⟨b, o, e, hcl⟩ := hcell j hjl
      cases e
      rw [Go.WideShapes.add_plain, hcl]
      simp [List.getElem?_eq_getElem hjl] at hj
      rw [hj]
    · intro v' w' h1 h2 _
      have hO : Own B w' v' (xs ++ ys) := by simpa [Own] using h1
      obtain ⟨a', c', rfl, _⟩ := hO.shape
      rw [List.length_append] at hO ⊢
      exact h a' c' w' hO (Keep.of_grown h2)

set_option maxHeartbeats 400000 in
theorem c_l01Own (v : Value) (xs : List Int) (w : World) (hx : Ints w v xs) (hn : xs.length ≤ 1048576) :
    Calls Try.prog 95 #[v] w (RInts w xs) := by
  have hB1 : Below w.heap.size w (w.alloc (.cells #[] 2)) := (Below.refl _ _).alloc (Nat.le_refl _) _
  have h0 : Own w.heap.size (w.alloc (.cells #[] 2)) (.slice (some ⟨w.heap.size, 0, none⟩) 0 0) [] := Own.made0 w (Nat.le_refl _)
  have HB := Lib.hid hB1; have H0 := Lib.hid h0; have HX := Lib.hid hx; clear hB1 h0 hx
  go_enter Try.func95, Try.ntmps95
  go_wp2_with (at_builtin; refine wpList_app_ints w.heap.size _ _ v [] xs _ _ rfl rfl rfl H0.out rfl (HX.out.below HB.out) (by simp; omega) (by simp) ?_; intro a' c' w' hown hk; have HO := Lib.hid hown; have HK := Lib.hid hk; clear hown hk)
  go_ret
  exact ⟨_, rfl, by simpa using HO.out, H0.out.frame HB.out (Nat.le_refl _) (by simp) HK.out⟩


end Go.Proofs.Ytgmhnjccgldddaa
