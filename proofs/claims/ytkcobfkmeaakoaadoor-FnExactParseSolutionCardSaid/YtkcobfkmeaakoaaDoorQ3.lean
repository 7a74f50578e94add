/-
  Texts cut at a byte: the reference's function; tables read from texts: the program's and the reference's.
-/
import Derived.Test.YtkcobfkmeaakoaaDoorQ2
import Derived.Test.YtkcobfkmeaakoaaDoorI3c
import Derived.Test.YtkcobfkmeaakoaaDoorI2
import Derived.Test.YtkcobfkmeaakoaaDoorS2a
import Derived.Test.YtkcobfkmeaakoaaDoorJ2
namespace Go.Proofs.YtkcobfkmeaakoaaDoor
set_option linter.unusedVariables false
set_option linter.unusedSimpArgs false
open Go Go.RowKit

theorem inf_strQ : (Tryd.prog.info? 9).map (fun i => (i.zero, i.size, i.bytes)) = some (some (.string ⟨#[]⟩), 1, 16) := by kernel_rfl
/-- A slice of strings of the call's own. -/
def OwnStr (B : Nat) (w : World) (v : Value) (ss : List ByteArray) : Prop := w.ownsRow B 9 1 v ss.length (ss.map Value.string)
theorem OwnStr.lt {B : Nat} {w : World} {v : Value} {ss : List ByteArray} (h : OwnStr B w v ss) {k : Nat} (hk : v.ownBlock = some k) : B ≤ k ∧ k < w.heap.size := World.ownsRow.lt h k hk
theorem OwnStr.frame {B B0 : Nat} {w0 w w' : World} {v : Value} {ss : List ByteArray} (h : OwnStr B w v ss) (hb : Below B0 w0 w) (hB : B0 ≤ B) (hs : B0 ≤ w.heap.size) (hk : Keep (fun b => v.ownBlock = some b) w w') : Below B0 w0 w' :=
  hb.trans (hk.below fun k hk' => ⟨by omega, fun e => by have := (h.lt e).1; omega⟩)
theorem OwnStr.made0 {B : Nat} (w : World) (hB : B ≤ w.heap.size) : OwnStr B (w.alloc (.cells #[] 9)) (.slice (some ⟨w.heap.size, 0, none⟩) 0 0) [] :=
  ⟨rfl, .inr ⟨w.heap.size, 0, _, rfl, hB, heap_alloc_new w _, Nat.le_refl _, by decide, by simp, by simp⟩⟩
theorem wpList_app_str {ops : Array Oper} {rest : List Oper} {o : Oper} {a : Act} {Q : Exit → Act → World → Prop} (B : Nat) (w : World) (v : Value) (ss : List ByteArray) (y : ByteArray) (s x : Operand) (hgd : o.guard = none)
    (ho : o.op = .call { callee := .builtin .append, args := #[s, x], argTypes := #[39, 39] })
    (hs : a.eval s = v) (hown : OwnStr B w v ss) (hx : a.eval x = .slice (some ⟨w.heap.size, 0, none⟩) 1 1) (hn : ss.length ≤ 1099511627776) (hbase : B ≤ w.heap.size)
    (h : ∀ a' c' w', OwnStr B w' (.slice a' (ss.length + 1) c') (ss ++ [y]) → Keep (fun b => v.ownBlock = some b) w w' → wpList Tryd.prog ops Q rest (a.put o.dst (.slice a' (ss.length + 1) c')) w') :
    wpList Tryd.prog ops Q (o :: rest) a (w.alloc (.cells #[.string y] 9)) :=
  wpList_app w hgd s x 39 ho B 9 (.string ⟨#[]⟩) 16 Tryd.underlying39 inf_strQ rfl (by decide) v ss.length _ hs hown (.string y) rfl hx (by omega) hbase
    fun a' c' w' h1 h2 => h a' c' w' (by simpa [OwnStr] using h1) h2
theorem OwnStr.under {B : Nat} {w w' : World} {v : Value} {ss : List ByteArray} (h : OwnStr B w v ss) (hb : Below w.heap.size w w') : OwnStr B w' v ss := by
  obtain ⟨hl, h | ⟨g, cap, cur, hv, hb', hg, r⟩⟩ := h
  · exact ⟨hl, .inl h⟩
  · exact ⟨hl, .inr ⟨g, cap, cur, hv, hb', by rw [hb.block g (Array.getElem?_eq_some_iff.1 hg).1]; exact hg, r⟩⟩
/-- A slice of strings over a block of strings. -/
def StrB (g : Nat) (w : World) (v : Value) (ss : List ByteArray) : Prop := ∃ cs c, v = .slice (some ⟨g, 0, none⟩) ss.length c ∧ Blk w g 9 (ss.map Value.string ++ cs)
theorem StrB.keep {g : Nat} {S : Nat → Prop} {w w' : World} {v : Value} {ss : List ByteArray} (h : StrB g w v ss) (k : Keep S w w') (hg : ¬ S g) : StrB g w' v ss := by
  obtain ⟨cs, c, hv, hb⟩ := h
  exact ⟨cs, c, hv, hb.of_block (k.block g hb.lt hg)⟩
theorem StrB.under {g : Nat} {w w' : World} {v : Value} {ss : List ByteArray} (h : StrB g w v ss) (hb : Below w.heap.size w w') : StrB g w' v ss := by
  obtain ⟨cs, c, hv, h1⟩ := h
  exact ⟨cs, c, hv, h1.under hb⟩
theorem StrB.cell {g n c : Nat} {a : Option Addr} {w : World} {ss : List ByteArray} (h : StrB g w (.slice a n c) ss) (i : Nat) (hi : i < ss.length) : w.cell? ⟨g, i, none⟩ = some (.string ss[i]) := by
  obtain ⟨cs, c, hv, hb⟩ := h
  have := hb.cell (i := i) (by simp; omega)
  rw [this, List.getElem_append_left (by simpa using hi)]
  simp
theorem OwnStr.strB {B : Nat} {w : World} {v : Value} {ss : List ByteArray} (h : OwnStr B w v ss) (h0 : 0 < ss.length) : ∃ g, StrB g w v ss ∧ B ≤ g := by
  obtain ⟨hl, h | ⟨g, cap, cur, rfl, hb, hg, hc, hm, hs, ht⟩⟩ := h
  · have := h.2; omega
  · refine ⟨g, ⟨cur.toList.drop ss.length, cap, rfl, ?_⟩, hb⟩
    have e : ss.map Value.string ++ cur.toList.drop ss.length = cur.toList := by
      rw [Nat.mul_one] at ht
      conv => lhs; lhs; rw [← ht]
      exact List.take_append_drop _ _
    unfold Blk
    rw [hg, e]
theorem StrB.apart {g B n : Nat} {w : World} {v u : Value} {ss : List ByteArray} {us : List Value} {t : TypeId} (h : StrB g w v ss) (ho : w.ownsRow B t 1 u n us) (ht : t ≠ 9) : ¬ u.ownBlock = some g := by
  obtain ⟨cs, c, hv, hb⟩ := h
  obtain ⟨hl, h | ⟨g', cap, cur, rfl, hb', hg', r⟩⟩ := ho
  · rw [h.1]; intro e; cases e
  · intro e
    simp [Value.ownBlock] at e
    subst e
    unfold Blk at hb
    rw [hg'] at hb
    simp at hb
    exact ht hb.2
theorem StrB.apartR {g B : Nat} {w : World} {v u : Value} {ss : List ByteArray} {X : List (List Int)} (h : StrB g w v ss) (ho : OwnRows B w u X) : ¬ u.ownBlock = some g := by
  obtain ⟨us, h1, _⟩ := ho
  exact h.apart h1 (by decide)

/-- What the loop has cut off: the parts ahead of place at', none of which c lies in, and no c from there on to k. -/
structure Cut (c : UInt8) (l : List UInt8) (ss : List ByteArray) (at' k : Nat) : Prop where
  le : at' ≤ k
  len : k ≤ l.length
  out : ss.map (fun s => s.data.toList) ++ parts c (l.drop at') = parts c l
  no : ∀ j : Nat, at' ≤ j → j < k → l[j]? ≠ some c
theorem Cut.start (c : UInt8) (l : List UInt8) : Cut c l [] 0 0 := ⟨Nat.le_refl _, Nat.zero_le _, by simp, fun j h1 h2 => by omega⟩
theorem Cut.skip {c : UInt8} {l : List UInt8} {ss : List ByteArray} {at' k : Nat} (h : Cut c l ss at' k) (hk : k < l.length) (hc : l[k] ≠ c) : Cut c l ss at' (k + 1) := by
  refine ⟨by have := h.le; omega, hk, h.out, fun j h1 h2 => ?_⟩
  rcases Nat.lt_or_ge j k with e | e
  · exact h.no j h1 e
  · have : j = k := by omega
    subst this
    rw [List.getElem?_eq_getElem hk]
    simpa using hc
theorem Cut.notin {c : UInt8} {l : List UInt8} {ss : List ByteArray} {at' k : Nat} (h : Cut c l ss at' k) : c ∉ (l.drop at').take (k - at') := by
  intro hin
  obtain ⟨j, hj, e⟩ := List.getElem_of_mem hin
  simp only [List.length_take, List.length_drop] at hj
  rw [List.getElem_take, List.getElem_drop] at e
  refine h.no (at' + j) (by omega) (by omega) ?_
  rw [List.getElem?_eq_getElem (by omega), e]
theorem Cut.hit {c : UInt8} {l : List UInt8} {ss : List ByteArray} {at' k : Nat} (h : Cut c l ss at' k) (hk : k < l.length) (hc : l[k] = c) {p : ByteArray} (hp : p.data.toList = (l.drop at').take (k - at')) : Cut c l (ss ++ [p]) (k + 1) (k + 1) := by
  have hle := h.le
  refine ⟨Nat.le_refl _, hk, ?_, fun j h1 h2 => by omega⟩
  have e : l.drop at' = (l.drop at').take (k - at') ++ c :: l.drop (k + 1) := by
    conv => lhs; rw [← List.take_append_drop (k - at') (l.drop at')]
    congr 1
    rw [List.drop_drop, show at' + (k - at') = k by omega, List.drop_eq_getElem_cons hk, hc]
  have := h.out
  rw [e, parts_hit _ h.notin] at this
  rw [List.map_append, List.append_assoc, ← this]
  simp [hp]
theorem Cut.last {c : UInt8} {l : List UInt8} {ss : List ByteArray} {at' : Nat} (h : Cut c l ss at' l.length) {p : ByteArray} (hp : p.data.toList = l.drop at') : (ss ++ [p]).map (fun s => s.data.toList) = parts c l := by
  have hn := h.notin
  rw [List.take_of_length_le (by rw [List.length_drop]; exact Nat.le_refl _)] at hn
  rw [← h.out, parts_none hn, List.map_append]
  simp [hp]

set_option maxHeartbeats 1600000 in
theorem c_l01Split (s : ByteArray) (c : UInt8) (w : World) (hn : s.size ≤ 1048576) :
    Calls Tryd.prog 20 #[.string s, .int .u8 (c.toNat : Int)] w (fun e w' => ∃ r ss, e = .returned r ∧ OwnStr w.heap.size w' r ss ∧ ss.map (fun s => s.data.toList) = parts c s.data.toList ∧ Below w.heap.size w w') := by
  have hsz : s.data.toList.length = s.size := by show s.data.toList.length = s.data.size; simp
  go_enter Tryd.func20, Tryd.ntmps20
  go_wp2
  go_loopw [5, 6, 7] (fun v a i wr => ∃ (k at' : Nat) (ss : List ByteArray) (sa : Option Addr) (sc : Nat), i = .int .i64 k ∧ a = .int .i64 at' ∧ at' ≤ k ∧ k ≤ s.size ∧ v = .slice sa ss.length sc ∧ Hid (Cut c s.data.toList ss at' k) ∧ Hid (ss.length ≤ k) ∧ Hid (Below w.heap.size w wr) ∧ Hid (OwnStr w.heap.size wr (.slice sa ss.length sc) ss)) (fun _ _ i _ => s.size - (intOf i).toNat)
  case atStart => exact ⟨0, 0, [], _, _, rfl, rfl, Nat.le_refl _, Nat.zero_le _, rfl, Lib.hid (Cut.start _ _), Lib.hid (Nat.le_refl _), Lib.hid ((Below.refl _ _).alloc (Nat.le_refl _) _), Lib.hid (OwnStr.made0 w (Nat.le_refl _))⟩
  case round =>
    obtain ⟨k, at', ss, sa, sc, rfl, rfl, hak, hk, rfl, HC, HL, HB, HO⟩ := hrel
    have HSz := Lib.hid HB.out.size
    by_cases hlt : k < s.size
    · have hat : s.data.toList[k]'(by omega) = s[k] := by simp [ByteArray.getElem_eq_getElem_data]
      by_cases hc : s[k] = c
      · have hd : ((s[k].toNat : Int) == (c.toNat : Int)) = true := by simp [hc]
        have HAt := Lib.hid (hat.trans hc)
        clear hc hat
        go_wp2_with (at_builtin; refine wpList_app_str w.heap.size wr _ ss (s.extract at' k) _ _ rfl rfl rfl HO.out rfl (by have := HL.out; omega) HSz.out ?_; intro a' c' w' hown' hkeep; have Hk := Lib.hid hkeep; have Ho' := Lib.hid hown'; clear hkeep hown')
        go_roundw
        case rel => exact ⟨k + 1, k + 1, ss ++ [s.extract at' k], a', c', by go_num, by go_num, Nat.le_refl _, hlt, by simp, Lib.hid (HC.out.hit (by omega) HAt.out (by simp [ByteArray.data_extract, List.drop_take])), Lib.hid (by have := HL.out; simp; omega), Lib.hid (HO.out.frame HB.out (Nat.le_refl _) HSz.out Hk.out), Lib.hid (by simpa using Ho'.out)⟩
        case measure => simp [intOf]; omega
      · have hd : ((s[k].toNat : Int) == (c.toNat : Int)) = false := by
          simp only [beq_eq_false_iff_ne]
          intro e
          exact hc (UInt8.toNat_inj.1 (by omega))
        have HAt := Lib.hid (show s.data.toList[k]'(by omega) ≠ c by rw [hat]; exact hc)
        clear hc hat
        go_wp2
        go_roundw
        case rel => exact ⟨k + 1, at', ss, sa, sc, by go_num, rfl, by omega, hlt, rfl, Lib.hid (HC.out.skip (by omega) HAt.out), Lib.hid (by have := HL.out; show _ ≤ _; omega), HB, HO⟩
        case measure => simp [intOf]; omega
    · obtain rfl : k = s.size := by omega
      have HC2 := Lib.hid (hsz ▸ HC.out)
      go_wp2_with (at_builtin; refine wpList_app_str w.heap.size wr _ ss (s.extract at' s.size) _ _ rfl rfl rfl HO.out rfl (by have := HL.out; omega) HSz.out ?_; intro a' c' w' hown' hkeep; have Hk := Lib.hid hkeep; have Ho' := Lib.hid hown'; clear hkeep hown')
      go_ret
      exact ⟨_, ss ++ [s.extract at' s.size], rfl, by simpa using Ho'.out, HC2.out.last (by have e := List.take_of_length_le (l := List.drop at' s.data.toList) (i := s.size - at') (by rw [List.length_drop]; omega); simpa [ByteArray.data_extract] using e), HO.out.frame HB.out (Nat.le_refl _) HSz.out Hk.out⟩

/-- A table read from a text, and whether there is one. -/
def RTab (w0 : World) (X : List (List Int)) (ok : Bool) (e : Ending) (w' : World) : Prop := ∃ r Y, e = .returned (.tuple #[r, .bool ok]) ∧ OwnRows w0.heap.size w' r Y ∧ (ok = true → Y = X) ∧ Below w0.heap.size w0 w'
theorem tOk_ss {l : List UInt8} {ss : List ByteArray} (h : ss.map (fun s => s.data.toList) = parts 47 l) : tOk l = (ss.all (fun s => okD (bsI s)) && isTab (ss.map fun s => readD (bsI s))) := by
  unfold tOk
  rw [← h, List.all_map, List.map_map]
  rfl
theorem tRes_ss {l : List UInt8} {ss : List ByteArray} (h : ss.map (fun s => s.data.toList) = parts 47 l) (hok : tOk l = true) : tRes l = ss.map fun s => readD (bsI s) := by
  rw [tRes_ok hok, ← h, List.map_map]
  rfl
theorem all_no {ss : List ByteArray} {k : Nat} (hk : k < ss.length) (h : okD (bsI ss[k]) = false) : ss.all (fun s => okD (bsI s)) = false := by
  rw [List.all_eq_false]
  exact ⟨ss[k], List.getElem_mem hk, by simp [h]⟩
theorem all_yes {ss : List ByteArray} (h : ∀ i (hi : i < ss.length), okD (bsI ss[i]) = true) : ss.all (fun s => okD (bsI s)) = true := by
  rw [List.all_eq_true]
  intro x hx
  obtain ⟨i, hi, rfl⟩ := List.getElem_of_mem hx
  exact h i hi
theorem le_sum : ∀ {l : List Nat} {x : Nat}, x ∈ l → x ≤ l.sum
  | a :: l, x, h => by
    rw [List.sum_cons]
    rcases List.mem_cons.1 h with rfl | h
    · omega
    · have := le_sum h; omega
theorem parts_size {l : List UInt8} {ss : List ByteArray} {c : UInt8} (h : ss.map (fun s => s.data.toList) = parts c l) : (∀ i (hi : i < ss.length), ss[i].size ≤ l.length) ∧ ss.length ≤ l.length + 1 := by
  have h1 := parts_len c l.length l (Nat.le_refl _)
  have hl : ss.length = (parts c l).length := by rw [← h]; simp
  refine ⟨fun i hi => ?_, by omega⟩
  have hm : ss[i].data.toList ∈ parts c l := by
    rw [← h]
    exact List.mem_map.2 ⟨ss[i], List.getElem_mem hi, rfl⟩
  have h2 : ss[i].data.toList.length ≤ ((parts c l).map List.length).sum := le_sum (List.mem_map.2 ⟨_, hm, rfl⟩)
  have h3 : ss[i].size = ss[i].data.toList.length := by show ss[i].data.size = _; simp
  have h4 : 1 ≤ (parts c l).length := List.length_pos_iff.2 (parts_ne c l)
  omega
theorem take_rows {ss : List ByteArray} {k : Nat} (hk : k < ss.length) : ((ss.take (k + 1)).map fun s => readD (bsI s)) = ((ss.take k).map fun s => readD (bsI s)) ++ [readD (bsI ss[k])] := by
  rw [List.take_succ_eq_append_getElem hk, List.map_append]; rfl

set_option maxHeartbeats 1600000 in
theorem c_l01Parse (s : ByteArray) (w : World) (hn : s.size ≤ 1048576) : Calls Tryd.prog 15 #[.string s] w (RTab w (tRes s.data.toList) (tOk s.data.toList)) := by
  have hl : s.data.toList.length = s.size := by show s.data.toList.length = s.data.size; simp
  have HN := Lib.hid hl; clear hl
  go_enter Tryd.func15, Tryd.ntmps15
  go_wp2_with fail
  refine (c_l01Split s 47 _ hn).mono ?_; rintro e w1 ⟨r, ss, rfl, ho, hss, hb1⟩
  obtain ⟨hp1, hp2⟩ := parts_size hss
  rw [HN.out] at hp1 hp2
  have hs0 : 0 < ss.length := by
    have := List.length_pos_iff.2 (parts_ne 47 s.data.toList)
    rw [← hss] at this; simpa using this
  obtain ⟨g, hsb, -⟩ := ho.strB hs0
  obtain ⟨cs, sc, rfl, hcs⟩ := hsb
  have HS := Lib.hid (show StrB g w1 (.slice (some ⟨g, 0, none⟩) ss.length sc) ss from ⟨cs, sc, rfl, hcs⟩)
  have HSS := Lib.hid hss; have HB1 := Lib.hid hb1; have HP := Lib.hid hp1
  have hsl : ss.length ≤ 1048577 := by omega
  clear ho hss hb1 hcs hp1 hp2
  have hbz : Below w1.heap.size w1 (w1.alloc (.cells #[] 37)) := (Below.refl _ _).alloc (Nat.le_refl _) _
  have HB2 := Lib.hid (bb HB1.out hbz); have HS2 := Lib.hid (HS.out.under hbz)
  have HT0 := Lib.hid ((OwnRows.made0 w1 (Nat.le_refl w1.heap.size)).mono HB1.out.size)
  clear hbz HB1 HS
  go_wp2
  go_loopw [5, 6, 7, 8] (fun t x _ _ wr => ∃ (k : Nat) (ra : Option Addr) (rc : Nat), k ≤ ss.length ∧ x = .int .i64 k ∧ t = .slice ra k rc ∧ Hid (Below w.heap.size w wr) ∧ Hid (StrB g wr (.slice (some ⟨g, 0, none⟩) ss.length sc) ss) ∧ Hid (OwnRows w.heap.size wr (.slice ra k rc) ((ss.take k).map fun s => readD (bsI s))) ∧ Hid (∀ i (hi : i < ss.length), i < k → okD (bsI ss[i]) = true)) (fun _ x _ _ _ => ss.length - (intOf x).toNat)
  case atStart => exact ⟨0, _, _, Nat.zero_le _, rfl, rfl, HB2, HS2, Lib.hid (by simpa using HT0.out), Lib.hid fun i hi h => by omega⟩
  case round =>
    clear HB2 HS2 HT0
    obtain ⟨k, ra, rc, hk, rfl, rfl, HB, HS, HO, HA⟩ := hrel
    obtain ⟨wo, rfl⟩ : ∃ wo : World, wo = wr := ⟨_, rfl⟩
    by_cases hlt : k < ss.length
    · have h1 := HS.out.cell k hlt
      have hsz : ss[k].size ≤ 1048576 := by have := HP.out k hlt; omega
      go_wp2_with fail
      refine (c_l01Read ss[k] _ hsz).mono ?_; rintro e w2 ⟨r2, rfl, ho2, hb2⟩
      obtain ⟨a2, c2, rfl, -⟩ := ho2.shape
      have HO2 := Lib.hid ho2; have HBs := Lib.hid hb2; have HBw := Lib.hid (bb HB.out hb2); have HSr := Lib.hid (HS.out.under hb2); have HI := Lib.hid (HO.out.inn.under hb2)
      have HSz := Lib.hid HB.out.size
      clear ho2 hb2 h1
      by_cases hok : okD (bsI ss[k]) = true
      · have HOk := Lib.hid hok
        rw [hok]
        clear hok
        have hln : ((ss.take k).map fun s => readD (bsI s)).length = k := by simp; omega
        have HL := Lib.hid hln
        clear hln
        go_wp2_with (at_builtin; refine wpList_app_row w.heap.size wo w2 _ ((ss.take k).map fun s => readD (bsI s)) _ (readD (bsI ss[k])) _ _ rfl rfl rfl HO.out HBs.out HO2.out rfl (by rw [HL.out]; omega) HSz.out ?_; intro a9 c9 w9 hown hkeep; rw [HL.out]; have HOwn := Lib.hid hown; have HKp := Lib.hid hkeep; clear hown hkeep)
        go_roundw
        case rel =>
          have h9 := HOwn.out
          rw [HL.out, ← take_rows hlt] at h9
          refine ⟨k + 1, a9, c9, hlt, by go_num, rfl, Lib.hid (HO.out.frame HBw.out (Nat.le_refl _) (Nat.le_trans HSz.out HBs.out.size) HKp.out), ?_, Lib.hid h9, Lib.hid fun i hi h => ?_⟩
          · exact Lib.hid (HSr.out.keep HKp.out (HSr.out.apartR (HO.out.under HBs.out)))
          · rcases Nat.lt_or_ge i k with e | e
            · exact HA.out i hi e
            · have : i = k := by omega
              subst this; exact HOk.out
        case measure => simp [intOf]; omega
      · have hok2 : okD (bsI ss[k]) = false := by simpa using hok
        have hno : tOk s.data.toList = false := by rw [tOk_ss HSS.out, all_no hlt hok2]; rfl
        have HNo := Lib.hid hno
        rw [hok2]
        clear hok hok2 hno
        go_wp2
        go_ret2
        exact ⟨.slice none 0 0, [], by rw [HNo.out]; rfl, OwnRows.nil _ _, fun h => (by rw [HNo.out] at h; cases h), HBw.out⟩
    · obtain rfl : k = ss.length := by omega
      have hall := all_yes fun i hi => HA.out i hi hi
      have HAll := Lib.hid hall
      have h9 := HO.out
      rw [List.take_of_length_le (Nat.le_refl _)] at h9
      have HO9 := Lib.hid h9
      clear hall h9
      go_wp2_with fail
      refine (c_l01Table _ (ss.map fun s => readD (bsI s)) _ (by have := HO9.out.rows; exact this)).mono ?_; rintro e w' ⟨rfl, rfl⟩
      by_cases ht : isTab (ss.map fun s => readD (bsI s)) = true
      · have hyes : tOk s.data.toList = true := by rw [tOk_ss HSS.out, HAll.out, ht]; rfl
        have HYes := Lib.hid hyes
        rw [ht]
        clear ht hyes
        go_wp2
        go_ret2
        exact ⟨_, _, by rw [HYes.out]; rfl, HO9.out, fun _ => (tRes_ss HSS.out HYes.out).symm, HB.out⟩
      · have ht2 : isTab (ss.map fun s => readD (bsI s)) = false := by simpa using ht
        have hno : tOk s.data.toList = false := by rw [tOk_ss HSS.out, HAll.out, ht2]; rfl
        have HNo := Lib.hid hno
        rw [ht2]
        clear ht ht2 hno
        go_wp2
        go_ret2
        exact ⟨.slice none 0 0, [], by rw [HNo.out]; rfl, OwnRows.nil _ _, fun h => (by rw [HNo.out] at h; cases h), HB.out⟩

theorem split_ss (s : ByteArray) : ((Lib.splitB ⟨#[47]⟩ 0 (Lib.countB s ⟨#[47]⟩) s).map fun p => p.data.toList) = parts 47 s.data.toList := Lib.splitB_data _ _ _ _
set_option maxHeartbeats 1600000 in
theorem c_readTable (s : ByteArray) (m : Int) (w : World) (hm : w.cell? ⟨0, 0, none⟩ = some (.int .i64 m)) (hn : s.size ≤ 1048576) : Calls Tryd.prog 16 #[.string s] w (RTab w (tRes s.data.toList) (tOk s.data.toList)) := by
  have hl : s.data.toList.length = s.size := by show s.data.toList.length = s.data.size; simp
  have HN := Lib.hid hl; have HM := Lib.hid hm; clear hl hm
  by_cases hbig : 156 < s.size
  · have hno : tOk s.data.toList = false := by
      cases h : tOk s.data.toList
      · rfl
      · have := tOk_short h
        rw [HN.out] at this; omega
    have HNo := Lib.hid hno
    have hbI : (156 : Int) < s.size := by omega
    clear hno hbig
    go_enter Tryd.func16, Tryd.ntmps16
    go_wp2
    go_ret2
    exact ⟨.slice none 0 0, [], by rw [HNo.out]; rfl, OwnRows.nil _ _, fun h => (by rw [HNo.out] at h; cases h), Below.refl _ _⟩
  have hbI : ¬ (156 : Int) < s.size := by omega
  obtain ⟨ss, hss'⟩ : ∃ ss, Lib.splitB ⟨#[47]⟩ 0 (Lib.countB s ⟨#[47]⟩) s = ss := ⟨_, rfl⟩
  have hss := split_ss s
  rw [hss'] at hss
  have hsl : ss.length = Lib.countB s ⟨#[47]⟩ + 1 := by rw [← hss']; exact Lib.splitB_all _ (by decide) 0 _ s rfl
  obtain ⟨hp1, hp2⟩ := parts_size hss
  rw [HN.out] at hp1 hp2
  have HSp := Lib.hid hss'; have HSl := Lib.hid hsl; have HSS := Lib.hid hss; have HP := Lib.hid hp1
  have hsn : s.size < 4294967281 := by omega
  have hln : ss.length ≤ 1048577 := by omega
  clear hss hss' hsl hp1 hp2
  go_enter Tryd.func16, Tryd.ntmps16
  go_wp2_with fail
  refine (Tryd.strings_Split s ⟨#[47]⟩ m _ hsn HM.out (by decide)).mono ?_; rintro e w1 ⟨rfl, hw1⟩
  rw [HSp.out] at hw1
  rw [← HSl.out]
  have hb1 : Below w.heap.size w w1 := by rw [hw1]; exact (Below.refl _ _).alloc (Nat.le_refl _) _
  have hst : StrB w.heap.size w1 (.slice (some ⟨w.heap.size, 0, none⟩) ss.length ss.length) ss := by
    refine ⟨[], ss.length, rfl, ?_⟩
    rw [hw1, List.append_nil]
    exact Blk.new w (ss.map Value.string) 9
  have HB1 := Lib.hid hb1; have HS1 := Lib.hid hst
  clear hw1 hb1 hst
  go_wp2
  go_loopw [4, 6, 7, 8, 15] (fun t _ _ _ x wr => ∃ (k : Nat) (ra : Option Addr) (rc : Nat), k ≤ ss.length ∧ x = .int .i64 k ∧ t = .slice ra k rc ∧ Hid (Below w.heap.size w wr) ∧ Hid (StrB w.heap.size wr (.slice (some ⟨w.heap.size, 0, none⟩) ss.length ss.length) ss) ∧ Hid (OwnRows w.heap.size wr (.slice ra k rc) ((ss.take k).map fun s => readD (bsI s))) ∧ Hid (∀ i (hi : i < ss.length), i < k → okD (bsI ss[i]) = true)) (fun _ _ _ _ x _ => ss.length - (intOf x).toNat)
  case atStart => exact ⟨0, _, _, Nat.zero_le _, rfl, rfl, HB1, HS1, Lib.hid (by simpa using OwnRows.nil _ _), Lib.hid fun i hi h => by omega⟩
  case round =>
    clear HB1 HS1
    obtain ⟨k, ra, rc, hk, rfl, rfl, HB, HS, HO, HA⟩ := hrel
    obtain ⟨wo, rfl⟩ : ∃ wo : World, wo = wr := ⟨_, rfl⟩
    by_cases hlt : k < ss.length
    · have h1 := HS.out.cell k hlt
      have hsz : ss[k].size ≤ 1048576 := by have := HP.out k hlt; omega
      go_wp2_with fail
      refine (c_readDigits ss[k] _ hsz).mono ?_; rintro e w2 ⟨r2, rfl, ho2, hb2⟩
      obtain ⟨a2, c2, rfl, -⟩ := ho2.shape
      have HO2 := Lib.hid ho2; have HBs := Lib.hid hb2; have HBw := Lib.hid (bb HB.out hb2); have HSr := Lib.hid (HS.out.under hb2)
      have HSz := Lib.hid HB.out.size
      clear ho2 hb2 h1
      by_cases hok : okD (bsI ss[k]) = true
      · have HOk := Lib.hid hok
        rw [hok]
        clear hok
        have hln : ((ss.take k).map fun s => readD (bsI s)).length = k := by simp; omega
        have HL := Lib.hid hln
        clear hln
        go_wp2_with (at_builtin; refine wpList_app_row w.heap.size wo w2 _ ((ss.take k).map fun s => readD (bsI s)) _ (readD (bsI ss[k])) _ _ rfl rfl rfl HO.out HBs.out HO2.out rfl (by rw [HL.out]; omega) HSz.out ?_; intro a9 c9 w9 hown hkeep; rw [HL.out]; have HOwn := Lib.hid hown; have HKp := Lib.hid hkeep; clear hown hkeep)
        go_roundw
        case rel =>
          have h9 := HOwn.out
          rw [HL.out, ← take_rows hlt] at h9
          refine ⟨k + 1, a9, c9, hlt, by go_num, rfl, Lib.hid (HO.out.frame HBw.out (Nat.le_refl _) (Nat.le_trans HSz.out HBs.out.size) HKp.out), ?_, Lib.hid h9, Lib.hid fun i hi h => ?_⟩
          · exact Lib.hid (HSr.out.keep HKp.out (HSr.out.apartR (HO.out.under HBs.out)))
          · rcases Nat.lt_or_ge i k with e | e
            · exact HA.out i hi e
            · have : i = k := by omega
              subst this; exact HOk.out
        case measure => simp [intOf]; omega
      · have hok2 : okD (bsI ss[k]) = false := by simpa using hok
        have hno : tOk s.data.toList = false := by rw [tOk_ss HSS.out, all_no hlt hok2]; rfl
        have HNo := Lib.hid hno
        rw [hok2]
        clear hok hok2 hno
        go_wp2
        go_ret2
        exact ⟨.slice none 0 0, [], by rw [HNo.out]; rfl, OwnRows.nil _ _, fun h => (by rw [HNo.out] at h; cases h), HBw.out⟩
    · obtain rfl : k = ss.length := by omega
      have hall := all_yes fun i hi => HA.out i hi hi
      have HAll := Lib.hid hall
      have h9 := HO.out
      rw [List.take_of_length_le (Nat.le_refl _)] at h9
      have HO9 := Lib.hid h9
      have hfin : tOk s.data.toList = isTab (ss.map fun s => readD (bsI s)) := by rw [tOk_ss HSS.out, hall]; rfl
      have HFin := Lib.hid hfin
      clear hall h9 hfin
      go_wp2_with fail
      refine (c_IsTable _ (ss.map fun s => readD (bsI s)) _ (by have := HO9.out.rows; exact this)).mono ?_; rintro e w' ⟨rfl, hb9⟩
      have HO10 := Lib.hid (HO9.out.under hb9); have HB10 := Lib.hid (bb HB.out hb9)
      clear hb9
      go_wp2
      go_ret2
      exact ⟨_, _, by rw [HFin.out]; rfl, HO10.out, fun h => (tRes_ss HSS.out h).symm, HB10.out⟩
end Go.Proofs.YtkcobfkmeaakoaaDoor
