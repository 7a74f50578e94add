/-
  What the reference's copy, compare, identity and the program's 'increasing' return (layer 1).
-/
import Derived.Test.YtnbhghgkjcfcmaaDoorI1c
import Derived.Test.YtnbhghgkjcfcmaaDoorP3
import Derived.Laws.AppendOwnNone
namespace Go.Proofs.YtnbhghgkjcfcmaaDoor
set_option linter.unusedVariables false
set_option linter.unusedSimpArgs false
open Go.RowKit


theorem iota_snoc (k : Nat) : iota (k + 1) = iota k ++ [(k : Int)] := by simp [iota, List.range_succ]

set_option maxHeartbeats 400000 in
theorem c_l01Unit (n : Nat) (w : World) (hn : n ≤ 1048576) :
    Calls Tryd.prog 61 #[.int .i64 n] w (RInts w (iota n)) := by
  go_enter Tryd.func61, Tryd.ntmps61
  go_wp2
  go_loopw [3, 4] (fun s i wr => ∃ (k : Nat) (sa : Option Addr) (sc : Nat), k ≤ n ∧ i = .int .i64 k ∧ s = .slice sa k sc ∧ Below w.heap.size w wr ∧ Own w.heap.size wr (.slice sa k sc) (iota k)) (fun _ i _ => n - (intOf i).toNat)
  case atStart => exact ⟨0, _, _, Nat.zero_le _, rfl, rfl, (Below.refl _ _).alloc (Nat.le_refl _) _, Own.made0 w (Nat.le_refl _)⟩
  case round =>
    obtain ⟨k, sa, sc, hk, rfl, rfl, hb, hown⟩ := hrel
    by_cases hlt : k < n
    · have Hb := Lib.hid hb; have Ho := Lib.hid hown; have Hs := Lib.hid hb.size; clear hb hown
      go_wp2_with (at_builtin; refine wpList_app_int w.heap.size wr _ (iota k) (k : Int) _ _ rfl rfl rfl Ho.out rfl (by rw [iota_length]; omega) Hs.out ?_; intro a' c' w' hown' hkeep; rw [iota_length]; have Hk := Lib.hid hkeep; have Ho' := Lib.hid hown'; clear hkeep hown')
      go_roundw
      case rel =>
        have h1 := Ho'.out
        rw [iota_length, ← iota_snoc] at h1
        exact ⟨k + 1, a', c', by omega, by go_num, rfl, Ho.out.frame Hb.out (Nat.le_refl _) Hs.out Hk.out, h1⟩
      case measure => simp [intOf]; omega
    · have Hb := Lib.hid hb; have Ho := Lib.hid hown; clear hb hown
      obtain rfl : k = n := by omega
      go_wp2
      go_ret
      exact ⟨_, rfl, Ho.out, Hb.out⟩

/-- 'append(s, src...)', s a slice of integers of the call's own, src any slice of integers. -/
theorem wpList_app_ints {ops : Array Oper} {rest : List Oper} {o : Oper} {a : Act} {Q : Exit → Act → World → Prop} (B : Nat) (w : World) (v u : Value) (xs ys : List Int) (s x : Operand) (hgd : o.guard = none)
    (ho : o.op = .call { callee := .builtin .append, args := #[s, x], argTypes := #[32, 32] })
    (hs : a.eval s = v) (hown : Own B w v xs) (hx : a.eval x = u) (hu : Ints w u ys) (hn : xs.length + ys.length ≤ 1099511627776) (hbase : B ≤ w.heap.size)
    (h : ∀ a' c' w', Own B w' (.slice a' (xs.length + ys.length) c') (xs ++ ys) → Keep (fun b => v.ownBlock = some b) w w' → wpList Tryd.prog ops Q rest (a.put o.dst (.slice a' (xs.length + ys.length) c')) w') :
    wpList Tryd.prog ops Q (o :: rest) a w := by
  obtain ⟨i0, hi, hz0, hz1, hz2⟩ := info_parts inf_int64
  obtain ⟨ad, c, rfl, hc, hm, hcell⟩ := hu
  cases ad with
  | none =>
    have h0 : ys = [] := by
      cases ys with
      | nil => rfl
      | cons y ys => obtain ⟨b, o, e, _⟩ := hcell 0 (by simp); cases e
    subst h0
    obtain ⟨sa, sc, rfl, hsc⟩ := hown.shape
    have hr : (Builtin.append_ #[32, 32] o.type #[.slice sa xs.length sc, .slice none 0 c]).run Tryd.prog w = .ok (.slice sa xs.length sc) w := by
      rcases hown.2 with ⟨e, _⟩ | ⟨g, cap, cur, e, _, _, hnc, _⟩
      · simp [Builtin.append_, run_underlying Tryd.underlying32, sizeOf, typeInfo, hi, Builtin.lenOf, Builtin.firstCells, e]
      · simp [Builtin.append_, run_underlying Tryd.underlying32, sizeOf, typeInfo, hi, Builtin.lenOf, Builtin.firstCells, hnc, storeCells, e]
    refine wpList_plain hgd fun K hK => ?_
    unfold Oper.wp
    have hx' : a.eval x = .slice none 0 c := by simpa using hx
    simp [execOp, ho, resolve, invoke, builtin, hs, hx', hr, Result.andThen]
    exact hK _ _ (by simpa using h sa sc w (by simpa using hown) (Keep.refl _ _))
  | some ad =>
    refine wpList_append_own _ hgd s x 32 ho B 2 i0 (.int .i64 0) 1 8 Tryd.underlying32 hi hz0 hz1 hz2 rfl (by decide) v xs.length (xs.map (Value.int .i64)) hs hown ad ys.length c (ys.map (Value.int .i64)) hx (by simp) ?_ (by intro u hu; simp at hu; obtain ⟨z, _, rfl⟩ := hu; rfl) (by unfold maxLen; omega) (by omega) hbase ?_
    · intro j u hj
      have hjl : j < ys.length := by
        rcases Nat.lt_or_ge j ys.length with h | h
        · exact h
        · simp [List.getElem?_eq_none (show (ys.map (Value.int .i64)).length ≤ j by simpa using h)] at hj
      obtain ⟨b, o, e, hcl⟩ := hcell j hjl
      cases e
      rw [Go.WideShapes.add_plain, hcl]
      simp [List.getElem?_eq_getElem hjl] at hj
      rw [hj]
    · intro v' w' h1 h2 _
      have hO : Own B w' v' (xs ++ ys) := by simpa [Own] using h1
      obtain ⟨a', c', rfl, _⟩ := hO.shape
      rw [List.length_append] at hO ⊢
      exact h a' c' w' hO (Keep.of_grown h2)

set_option maxHeartbeats 400000 in
theorem c_l01Own (v : Value) (xs : List Int) (w : World) (hx : Ints w v xs) (hn : xs.length ≤ 1048576) :
    Calls Tryd.prog 103 #[v] w (RInts w xs) := by
  have hB1 : Below w.heap.size w (w.alloc (.cells #[] 2)) := (Below.refl _ _).alloc (Nat.le_refl _) _
  have h0 : Own w.heap.size (w.alloc (.cells #[] 2)) (.slice (some ⟨w.heap.size, 0, none⟩) 0 0) [] := Own.made0 w (Nat.le_refl _)
  have HB := Lib.hid hB1; have H0 := Lib.hid h0; have HX := Lib.hid hx; clear hB1 h0 hx
  go_enter Tryd.func103, Tryd.ntmps103
  go_wp2_with (at_builtin; refine wpList_app_ints w.heap.size _ _ v [] xs _ _ rfl rfl rfl H0.out rfl (HX.out.below HB.out) (by simp; omega) (by simp) ?_; intro a' c' w' hown hk; have HO := Lib.hid hown; have HK := Lib.hid hk; clear hown hk)
  go_ret
  exact ⟨_, rfl, by simpa using HO.out, H0.out.frame HB.out (Nat.le_refl _) (by simp) HK.out⟩


end Go.Proofs.YtnbhghgkjcfcmaaDoor
