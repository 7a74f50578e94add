/-
  What slices.Clone returns at a list of integers.
-/
import Derived.Test.YtgmhnjccgldddaaBase
namespace Go.Proofs.Ytgmhnjccgldddaa
set_option linter.unusedVariables false
set_option linter.unusedSimpArgs false
open Go.RowKit

theorem eql_nilC (W : World) (a : Option Addr) (n c : Nat) : (binOp .eql 26 (.slice a n c) (.slice none 0 0)).run Try.prog W = .ok (.bool a.isNone) W := Lib.run_eql_slice_nil W _ _ a n c 0 0 Try.underlying26

set_option maxHeartbeats 800000 in
theorem c_Clone (v : Value) (xs : List Int) (w : World) (hx : Ints w v xs) (hn : xs.length ≤ 1048576) :
    Calls Try.prog 37 #[v] w (RInts w xs) := by
  obtain ⟨a, c, rfl, hc, hm, hcell⟩ := hx
  have hnl := eql_nilC
  cases a with
  | none =>
    have hl : xs = [] := by
      rcases Nat.eq_zero_or_pos xs.length with h | h
      · exact List.eq_nil_of_length_eq_zero h
      · obtain ⟨_, _, h1, _⟩ := hcell 0 h; cases h1
    subst hl
    go_enter Try.func37, Try.ntmps37
    go_wp2
    go_ret
    exact ⟨_, rfl, Own.nil _ _, Below.refl _ _⟩
  | some ad =>
    have h0 : Hid (Own w.heap.size (w.alloc (.cells #[] 2)) (.slice (some ⟨w.heap.size, 0, none⟩) 0 0) []) := Lib.hid (Own.made0 w (Nat.le_refl _))
    have hb0 : Hid (Below w.heap.size w (w.alloc (.cells #[] 2))) := Lib.hid ((Below.refl _ _).alloc (Nat.le_refl _) _)
    have hnews : Hid (∀ j u, (xs.map (Value.int .i64))[j]? = some u → (w.alloc (.cells #[] 2)).cell? (ad.add j) = some u) := by
      intro j u hj
      obtain ⟨hj1, rfl⟩ := List.getElem?_eq_some_iff.1 hj
      obtain ⟨b, o, h1, h2⟩ := hcell j (by simpa using hj1)
      cases h1
      have e : Addr.add ⟨b, o, none⟩ j = ⟨b, o + j, none⟩ := by simp [Addr.add]
      rw [e]
      simpa using cell_under hb0.out h2
    have hlen : (xs.map (Value.int .i64)).length = xs.length := by simp
    have HC := Lib.hid hcell; clear hcell
    have HLn := Lib.hid hlen; clear hlen
    go_enter Try.func37, Try.ntmps37
    obtain ⟨i0, hi, hz0, hz1, hz2⟩ := info_parts inf_int64
    have HInf := Lib.hid (And.intro hi (And.intro hz0 (And.intro hz1 hz2)))
    clear hi hz0 hz1 hz2
    have hxl : Hid (0 + xs.length ≤ maxLen) := by show _ ≤ _; unfold maxLen; omega
    have hxb : Hid ((0 + xs.length) * 8 ≤ 140737488355328) := by show _ ≤ _; omega
    have hone : Hid (∀ u ∈ xs.map (Value.int .i64), u.oneCell' = true) := by
      intro u hu
      obtain ⟨x, _, rfl⟩ := List.mem_map.1 hu
      rfl
    go_wp2_with (at_builtin; go_must (refine wpList_append_own _ rfl _ _ 26 rfl w.heap.size 2 i0 (.int .i64 0) 1 8 Try.underlying26 HInf.out.1 HInf.out.2.1 HInf.out.2.2.1 HInf.out.2.2.2 rfl (by decide) (.slice (some ⟨w.heap.size, 0, none⟩) 0 0) 0 [] rfl h0.out ad xs.length c (xs.map (Value.int .i64)) rfl (by simp) hnews.out hone.out hxl.out hxb.out hb0.out.size ?_); intro v' w' hown' hg hnil; have HO := Lib.hid hown'; have HG := Lib.hid hg; clear hown' hg hnil)
    go_ret
    refine ⟨_, rfl, ?_, ?_⟩
    · have := HO.out
      simpa [Own] using this
    · refine hb0.out.trans ((Keep.of_grown HG.out).below fun k hk => ⟨Nat.lt_of_lt_of_le hk hb0.out.size, fun e => ?_⟩)
      have e' : w.heap.size = k := by simpa [Value.ownBlock] using e
      omega
end Go.Proofs.Ytgmhnjccgldddaa
