/-
  The reference's insertion of a list into an ascending list of lists.
-/
import Derived.Test.YtkghonhghbcdlaaG3
import Derived.Test.YtkghonhghbcdlaaI24
import Derived.Test.YtkghonhghbcdlaaS1c
namespace Go.Proofs.Ytkghonhghbcdlaa
set_option linter.unusedVariables false
set_option linter.unusedSimpArgs false
open Go Go.RowKit

/-- 'append(s, u)' of a list of lists: the cells in plain sight. -/
theorem wp_app_rowC {o : Oper} {a : Act} {K : Act → World → Prop} {Q : Exit → Act → World → Prop} (B m : Nat) (w : World) (v : Value) (us : List Value) (xss : List (List Int)) (u : Value) (xs : List Int) (s x : Operand)
    (ho : o.op = .call { callee := .builtin .append, args := #[s, x], argTypes := #[24, 24] })
    (hs : a.eval s = v) (h1 : w.ownsRow B 27 1 v us.length us) (h2 : RowVals B w us xss) (hlt : ∀ i (h : i < us.length) k, us[i].ownBlock = some k → k < m) (hu : Own m w u xs) (hx : a.eval x = .slice (some ⟨w.heap.size, 0, none⟩) 1 1) (hn : us.length ≤ 1099511627776) (hB : B ≤ m) (hB2 : B ≤ w.heap.size)
    (h : ∀ g c' w', w'.ownsRow B 27 1 (.slice (some ⟨g, 0, none⟩) (us.length + 1) c') (us.length + 1) (us ++ [u]) → RowVals B w' (us ++ [u]) (xss ++ [xs]) → Keep (fun b => v.ownBlock = some b) w w' → (v.ownBlock = some g ∨ w.heap.size ≤ g) → K (a.put o.dst (.slice (some ⟨g, 0, none⟩) (us.length + 1) c')) w') :
    o.wp Try.prog a (w.alloc (.cells #[u] 27)) K Q := by
  have h2' := rowvals_snoc h2 hlt hu hB
  obtain ⟨ua, uc, hu1, _⟩ := hu.shape
  obtain ⟨i0, hi, hz0, hz1, hz2⟩ := info_parts inf_ints
  refine wp_append_lies _ s x 24 ho B 27 i0 (.slice none 0 0) 1 24 Try.underlying24 hi hz0 hz1 hz2 rfl (by decide) v us.length us hs (h1.alloc _) ⟨w.heap.size, 0, none⟩ 1 1 [u] hx rfl ?_ ?_ (by decide) (by unfold maxLen; omega) (by omega) (by simp; omega) (w.heap.size + 1) (by simp) ?_
  · intro j u' hj
    match j, hj with
    | 0, hj => simp at hj; subst hj; simp [Addr.add]
  · intro u' hu'; simp at hu'; subst hu'; subst hu1; rfl
  · intro g cap w' h3 h4 h5 _
    have hk := Keep.of_grown h4
    have hk2 : Keep (fun b => v.ownBlock = some b) w w' := ((Keep.refl _ w).alloc _).trans hk
    refine h g cap w' (by simpa using h3) (rowvals_keepT h2' h1 hk2) hk2 (by rcases h5 with h5 | h5; exact .inl h5; exact .inr (by omega))
theorem wpList_app_rowC {ops : Array Oper} {rest : List Oper} {o : Oper} {a : Act} {Q : Exit → Act → World → Prop} (B m : Nat) (w : World) (v : Value) (us : List Value) (xss : List (List Int)) (u : Value) (xs : List Int) (s x : Operand) (hgd : o.guard = none)
    (ho : o.op = .call { callee := .builtin .append, args := #[s, x], argTypes := #[24, 24] })
    (hs : a.eval s = v) (h1 : w.ownsRow B 27 1 v us.length us) (h2 : RowVals B w us xss) (hlt : ∀ i (h : i < us.length) k, us[i].ownBlock = some k → k < m) (hu : Own m w u xs) (hx : a.eval x = .slice (some ⟨w.heap.size, 0, none⟩) 1 1) (hn : us.length ≤ 1099511627776) (hB : B ≤ m) (hB2 : B ≤ w.heap.size)
    (h : ∀ g c' w', w'.ownsRow B 27 1 (.slice (some ⟨g, 0, none⟩) (us.length + 1) c') (us.length + 1) (us ++ [u]) → RowVals B w' (us ++ [u]) (xss ++ [xs]) → Keep (fun b => v.ownBlock = some b) w w' → (v.ownBlock = some g ∨ w.heap.size ≤ g) → wpList Try.prog ops Q rest (a.put o.dst (.slice (some ⟨g, 0, none⟩) (us.length + 1) c')) w') :
    wpList Try.prog ops Q (o :: rest) a (w.alloc (.cells #[u] 27)) :=
  wpList_plain hgd fun _ hK => wp_app_rowC B m w v us xss u xs s x ho hs h1 h2 hlt hu hx hn hB hB2 fun g c' w' h3 h4 h5 h6 => hK _ _ (h g c' w' h3 h4 h5 h6)
theorem keep_mono2 {S T : Nat → Prop} {w w' : World} (k : Keep S w w') (h : ∀ x, x < w.heap.size → S x → T x) : Keep T w w' := ⟨k.os, k.tape, k.output, k.size, fun x hx hn => k.block x hx (fun e => hn (h x hx e))⟩

theorem keep_put {w W w2 wF : World} {v : Value} {g : Nat} (hb : Below w.heap.size w W) (k1 : Keep (fun b => v.ownBlock = some b) W w2) (k2 : Keep (fun x => x = g) w2 wF) (hg : v.ownBlock = some g ∨ W.heap.size ≤ g) :
    Keep (fun b => v.ownBlock = some b) w wF ∧ (v.ownBlock = some g ∨ w.heap.size ≤ g) := by
  have hs := hb.size
  have m0 : Keep (fun x => v.ownBlock = some x ∨ w.heap.size ≤ x) w W := keep_mono2 (Keep.of_below hb) (fun x _ h => .inr h)
  have m1 : Keep (fun x => v.ownBlock = some x ∨ w.heap.size ≤ x) W w2 := keep_mono2 k1 (fun x _ h => .inl h)
  have m2 : Keep (fun x => v.ownBlock = some x ∨ w.heap.size ≤ x) w2 wF := keep_mono2 k2 (fun x _ h => by
    rcases hg with h' | h'
    · exact .inl (by rw [h', h])
    · exact .inr (by rw [h]; omega))
  refine ⟨keep_mono2 ((m0.trans m1).trans m2) (fun x hx h => by rcases h with h | h; exact h; omega), ?_⟩
  rcases hg with h' | h'
  · exact .inl h'
  · exact .inr (by omega)

/-- What is left of a list of lists with one put in. -/
def RPut (B : Nat) (v : Value) (S : List (List Int)) (p : List Int) (w : World) (e : Ending) (w' : World) : Prop :=
  (p ∈ S ∧ e = .returned (.tuple #[v, .bool false]) ∧ Below w.heap.size w w') ∨
  (p ∉ S ∧ ∃ g c T, e = .returned (.tuple #[.slice (some ⟨g, 0, none⟩) (S.length + 1) c, .bool true]) ∧ OwnRows B w' (.slice (some ⟨g, 0, none⟩) (S.length + 1) c) T ∧ AscR T ∧ T.Perm (S ++ [p]) ∧ Keep (fun b => v.ownBlock = some b) w w' ∧ (v.ownBlock = some g ∨ w.heap.size ≤ g))

set_option maxRecDepth 100000 in
set_option maxHeartbeats 4000000 in
theorem c_l01Put (B m : Nat) (v u : Value) (S : List (List Int)) (p : List Int) (w : World) (hS : OwnRowsIn B m w v S) (hA : AscR S) (hu : Own m w u p) (hn : S.length ≤ 1048576) (hBm : B ≤ m) (hmw : B ≤ w.heap.size) :
    Calls Try.prog 101 #[v, u] w (RPut B v S p w) := by
  obtain ⟨sa, sc, rfl, -⟩ := hS.rows.shape
  obtain ⟨ua, uc, rfl, -⟩ := hu.shape
  have HS := Lib.hid hS; have HA := Lib.hid hA; have HU := Lib.hid hu
  clear hS hA hu
  go_enter Try.func101, Try.ntmps101
  go_wp2_with fail
  go_loopw [6, 7, 8] (fun l h _ wr => ∃ (lo hi : Nat), l = .int .i64 lo ∧ h = .int .i64 hi ∧ lo ≤ hi ∧ hi ≤ S.length ∧ Hid (PutAt S p lo hi) ∧ Hid (Below w.heap.size w wr)) (fun l h _ _ => (intOf h).toNat - (intOf l).toNat)
  case atStart => exact ⟨0, S.length, rfl, rfl, Nat.zero_le _, Nat.le_refl _, Lib.hid (PutAt.start S p), Lib.hid (Below.refl _ _)⟩
  case round =>
    obtain ⟨lo, hi, rfl, rfl, hle, hhi, HP, HB⟩ := hrel
    obtain ⟨wo, rfl⟩ : ∃ wo : World, wo = wr := ⟨_, rfl⟩
    by_cases hlt : lo < hi
    · obtain ⟨q, hq⟩ : ∃ q, (lo + hi) / 2 = q := ⟨_, rfl⟩
      have hq2 : (lo + hi : Int) / 2 = (q : Int) := by omega
      have hq3 : lo ≤ q := by omega
      have hq4 : q < hi := by omega
      obtain ⟨b, o, xa, xc, rfl, hcell, hux⟩ := (HS.out.rows.below HB.out).getS q (by omega)
      have HX := Lib.hid hux; have HU2 := Lib.hid (HU.out.under HB.out).ints
      clear hux
      go_wp2_with fail
      refine (c_l01Less _ _ _ _ _ HX.out HU2.out).mono ?_; rintro e w1 ⟨rfl, nd, rfl⟩
      have HB2 := Lib.hid (below_drewN HB.out nd)
      obtain ⟨w1, hw1⟩ : ∃ w1, wo.drewN nd = w1 := ⟨_, rfl⟩
      rw [hw1] at HB2 ⊢
      clear hw1 HX HU2 hcell
      by_cases hls : lexB (row S q) p = true
      · have HL := Lib.hid hls
        rw [hls]; clear hls
        go_wp2_with fail
        go_roundw
        case rel => exact ⟨q + 1, hi, by go_num, rfl, by omega, hhi, Lib.hid (HP.out.up HA.out hq4 HL.out), HB2⟩
        case measure => simp [intOf]; omega
      · have hls : lexB (row S q) p = false := by simpa using hls
        have HL := Lib.hid hls
        rw [hls]; clear hls
        go_wp2_with fail
        go_roundw
        case rel => exact ⟨lo, q, rfl, by go_num, by omega, by omega, Lib.hid (HP.out.down HA.out hq3 hq4 HL.out), HB2⟩
        case measure => simp [intOf]; omega
    · obtain rfl : lo = hi := by omega
      by_cases hlo : lo < S.length
      case' pos =>
        obtain ⟨b, o, xa, xc, rfl, hcell, hux⟩ := (HS.out.rows.below HB.out).getS lo hlo
        have HX := Lib.hid hux; have HU2 := Lib.hid (HU.out.under HB.out).ints
        clear hux
        go_wp2_with fail
        refine (c_l01Same _ _ _ _ _ HX.out HU2.out).mono ?_; rintro e w1 ⟨rfl, nd, rfl⟩
        have HBW := Lib.hid (below_drewN HB.out nd)
        obtain ⟨W, hw1⟩ : ∃ w1, wo.drewN nd = w1 := ⟨_, rfl⟩
        rw [hw1] at HBW ⊢
        clear hw1 HX HU2 hcell
        by_cases hsm : row S lo = p
        case pos =>
          have HM := Lib.hid (put_in hlo hsm)
          rw [decide_eq_true hsm]
          clear hsm
          go_wp2
          go_ret2
          exact .inl ⟨HM.out, rfl, HBW.out⟩
        rw [decide_eq_false hsm]
        have HNew := Lib.hid (put_new HP.out HA.out (fun h => hsm h.2))
        obtain ⟨sa, hsa⟩ : ∃ sa : Option Addr, some ⟨b, o, none⟩ = sa := ⟨_, rfl⟩
        rw [hsa] at HS ⊢
        have HSA := Lib.hid hsa
        clear hsm hsa
      case' neg =>
        have HNew := Lib.hid (put_new HP.out HA.out (fun h => hlo h.1))
        obtain ⟨W, hW⟩ : ∃ W : World, W = wo := ⟨_, rfl⟩
        rw [← hW] at HB ⊢
        clear hW
        have HBW := HB
      all_goals clear HB
      all_goals
        obtain ⟨us, h1, h2, hve, hlt⟩ := HS.out.under HBW.out
        have hul : us.length = S.length := h2.len
        have HR1 := Lib.hid (And.intro h1 (And.intro h2 hlt)); have HU3 := Lib.hid (HU.out.under HBW.out)
        have hWs : B ≤ W.heap.size := Nat.le_trans hmw HBW.out.size
        clear h1 h2 hve hlt
        go_wp2_with (at_builtin; refine wpList_app_rowC B m W _ us S _ p _ _ rfl rfl rfl HR1.out.1 HR1.out.2.1 HR1.out.2.2 HU3.out rfl (by omega) hBm hWs ?_; intro g c' w2 ho hr hk hg; rw [hul] at ho ⊢; have HOw := Lib.hid ho; have HRw := Lib.hid hr; have HKw := Lib.hid (keep_mono2 (T := fun b => (Value.slice sa S.length sc).ownBlock = some b) hk (fun _ _ h => h)); have HGw := Lib.hid (show (Value.slice sa S.length sc).ownBlock = some g ∨ W.heap.size ≤ g from hg); clear ho hr hk hg)
        clear hlo
        obtain ⟨cs, hbl, hgB, hmx, hc'⟩ : ∃ cs : List Value, Blk w2 g 27 ((us ++ [Value.slice ua p.length uc]) ++ cs) ∧ B ≤ g ∧ (us ++ [Value.slice ua p.length uc]).length + cs.length ≤ maxLen ∧ c' = (us ++ [Value.slice ua p.length uc]).length + cs.length := by
          have ho : w2.ownsRow B 27 1 (.slice (some ⟨g, 0, none⟩) (S.length + 1) c') (us ++ [Value.slice ua p.length uc]).length (us ++ [Value.slice ua p.length uc]) := by have := HOw.out; simpa [hul] using this
          rcases ownsRow_open ho with ⟨h0, _⟩ | ⟨g', cs, hv, hb, hbk, hm⟩
          · cases h0
          · injection hv with e1 e2 e3
            injection e1 with e1; injection e1 with e1
            subst e1
            exact ⟨cs, hbk, hb, hm, e3⟩
        have HBl := Lib.hid hbl; have HMx := Lib.hid (And.intro hgB (And.intro hmx hc'))
        clear hbl hgB hmx hc'
        go_loopw [10] (fun k wi => ∃ q : Nat, lo ≤ q ∧ q ≤ S.length ∧ k = .int .i64 q ∧ Hid (Blk wi g 27 (shf us (.slice ua p.length uc) q ++ cs)) ∧ Hid (Keep (fun x => x = g) w2 wi)) (fun k _ => (intOf k).toNat)
        case atStart => exact ⟨S.length, by omega, Nat.le_refl _, rfl, Lib.hid (by rw [← hul, shf_end]; exact HBl.out), Lib.hid (Keep.refl _ _)⟩
        case round =>
          clear HBl
          obtain ⟨q, hq1, hq2, rfl, HB, HK⟩ := hrel
          obtain ⟨wi, rfl⟩ : ∃ wi : World, wi = wr := ⟨_, rfl⟩
          by_cases hq : lo < q
          · obtain ⟨m', rfl⟩ : ∃ m', q = m' + 1 := ⟨q - 1, by omega⟩
            have hml : m' < us.length := by omega
            obtain ⟨ya, yc, hy, -⟩ := (HR1.out.2.1.own m' hml (by omega)).shape
            have hcell : wi.cell? ⟨g, m', none⟩ = some (.slice ya (S[m']'(by omega)).length yc) := by
              rw [← hy]
              have h5 := shf_at us (.slice ua p.length uc) (k := m' + 1) (j := m') (by omega) hml
              have h6 : m' < (shf us (.slice ua p.length uc) (m' + 1) ++ cs).length := by rw [List.length_append, shf_len us (.slice ua p.length uc) (by omega)]; omega
              rw [HB.out.cell h6]
              have h7 := List.getElem?_append_left (l₂ := cs) (show m' < (shf us (.slice ua p.length uc) (m' + 1)).length by rw [shf_len us (.slice ua p.length uc) (by omega)]; omega)
              rw [← List.getElem?_eq_getElem h6, h7, h5, List.getElem?_eq_getElem hml]
            have hfr := HB.out.frozen (m' + 1)
            have hcell3 := HB.out.cell (i := m' + 1) (by rw [List.length_append, shf_len us (.slice ua p.length uc) (by omega)]; omega)
            have hfr2 := HB.out.frozen m'
            have em : (((m' + 1 : Nat) : Int) - 1) = (m' : Int) := by omega
            go_wp2
            go_roundw
            case rel =>
              refine ⟨m', by omega, by omega, by go_num, Lib.hid ?_, Lib.hid ?_⟩
              · have h9 := HB.out.set (m' + 1) (.slice ya (S[m']'(by omega)).length yc)
                rw [← hy, List.set_append_left _ _ (by rw [shf_len us (.slice ua p.length uc) (by omega)]; omega), shf_step us (.slice ua p.length uc) hml] at h9
                rw [← hy]; exact h9
              · exact HK.out.setCell (p := ⟨g, m' + 1, none⟩) (.inl rfl) _
            case measure => simp [intOf]
          · obtain rfl : q = lo := by omega
            have hcell3 := HB.out.cell (i := q) (by rw [List.length_append, shf_len us (.slice ua p.length uc) (by omega)]; omega)
            have hfr2 := HB.out.frozen q
            go_wp2
            go_ret2
            have h9 := HB.out.set q (.slice ua p.length uc)
            rw [List.set_append_left _ _ (by rw [shf_len us (.slice ua p.length uc) (by omega)]; omega), shf_done us (.slice ua p.length uc) (by omega)] at h9
            have hk9 : Keep (fun x => x = g) w2 (wi.setCell ⟨g, q, none⟩ (.slice ua p.length uc)) := HK.out.setCell (p := ⟨g, q, none⟩) (.inl rfl) _
            have hl9 : (us.take q ++ Value.slice ua p.length uc :: us.drop q).length = S.length + 1 := by simp; omega
            obtain ⟨hn1, hn2, hn3⟩ := HNew.out
            have hkg := keep_put HBW.out HKw.out hk9 HGw.out
            try (have hsa := HSA.out; subst hsa)
            refine .inr ⟨hn1, g, c', S.take q ++ p :: S.drop q, rfl, ⟨us.take q ++ Value.slice ua p.length uc :: us.drop q, ?_, ?_⟩, hn2, hn3, ?_, ?_⟩
            · exact ownsRow_shut h9 HMx.out.1 (by have := HMx.out.2.1; rw [hl9]; simp at this; omega) hl9.symm (by rw [HMx.out.2.2, hl9]; simp; omega)
            · refine (rowvals_keepT HRw.out HOw.out (keep_mono2 hk9 (fun x _ hx => by rw [hx]; rfl))).perm2 ?_ (by simp; omega)
              rw [List.zip_append (by simp [hul]), List.zip_cons_cons, List.zip_append hul]
              refine (List.perm_middle).trans ?_
              rw [← List.zip_append (by simp [hul]), List.take_append_drop, List.take_append_drop]
              exact (List.perm_append_singleton _ _).symm
            · exact hkg.1
            · exact hkg.2
end Go.Proofs.Ytkghonhghbcdlaa
