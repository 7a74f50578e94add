/-
  The numbers of the orbits, the program's function: a queue.
-/
import Derived.Test.YtkcobfkmeaakoaaI17
import Derived.Test.YtkcobfkmeaakoaaA2
import Derived.Deep.LoopGhost
namespace Go.Proofs.Ytkcobfkmeaakoaa
open Go.RowKit

/-- What holds in the search from k: l0 the labels ahead of it, m its number, l the labels now, q the queue; i lists have been tried at the queue's head. -/
structure BI (L : List (List Int)) (n k : Nat) (l0 : List Int) (m : Int) (l q : List Int) (i : Nat) : Prop where
  len : l.length = n
  lab : ∀ y : Nat, y < n → nth l y = nth l0 y ∨ (nth l y = m ∧ Reach L k y)
  st : nth l k = m
  qin : ∀ y ∈ q, (0 ≤ y ∧ y < n) ∧ nth l y = m ∧ Reach L k y
  done : ∀ y : Nat, y < n → nth l y = m → Reach L k y → ¬ (y : Int) ∈ q → ∀ p ∈ L, 0 ≤ nth l (nth p y)
  part : ∀ j, j < i → 0 ≤ nth l (nth (row L j) (nth q 0))

def negs (l : List Int) : Nat := l.countP (fun x => decide (x < 0))
theorem negs_set {l : List Int} {x : Int} {m : Int} (h0 : 0 ≤ x) (h1 : x < l.length) (hx : nth l x < 0) (hm : 0 ≤ m) : negs (l.set x.toNat m) + 1 = negs l := by
  have hlt : x.toNat < l.length := by omega
  have hx' : l[x.toNat] < 0 := by simpa [nth, hlt] using hx
  have hpos : 0 < l.countP (fun x => decide (x < 0)) := List.countP_pos_iff.2 ⟨l[x.toNat], List.getElem_mem hlt, by simpa using hx'⟩
  unfold negs
  rw [List.countP_set hlt]
  simp only [hx', decide_true, if_true, show ¬ m < 0 from by omega, decide_false, Bool.false_eq_true, if_false]
  omega

section
variable {L : List (List Int)} {n k : Nat} {l0 l q : List Int} {m : Int} {i : Nat}
theorem BI.start (hl : l0.length = n) (hk : k < n) (hm : 0 ≤ m) (hne : ∀ y : Nat, y < n → nth l0 y < m) : BI L n k l0 m (l0.set k m) [(k : Int)] 0 := by
  have hs : ∀ y : Nat, y < n → nth (l0.set k m) y = if y = k then m else nth l0 y := fun y hy => by
    have := nth_set l0 (k : Int) (y : Int) m (by omega) (by omega) (by omega)
    simp only [Int.toNat_natCast] at this
    rw [this]
    by_cases e : y = k
    · rw [if_pos (by omega), if_pos e]
    · rw [if_neg (by omega), if_neg e]
  refine ⟨by simpa using hl, fun y hy => ?_, by rw [hs k hk, if_pos rfl], ?_, ?_, by intro j hj; omega⟩
  · rw [hs y hy]
    by_cases e : y = k
    · subst e; exact .inr ⟨if_pos rfl, .here⟩
    · exact .inl (if_neg e)
  · intro y hy
    simp at hy; subst hy
    exact ⟨⟨by omega, by omega⟩, by rw [hs k hk, if_pos rfl], .here⟩
  · intro y hy hv hr hnq
    rw [hs y hy, if_neg (by intro e; subst e; simp at hnq)] at hv
    have := hne y hy
    omega
theorem BI.skip (h : BI L n k l0 m l q i) (hx : 0 ≤ nth l (nth (row L i) (nth q 0))) : BI L n k l0 m l q (i + 1) :=
  ⟨h.len, h.lab, h.st, h.qin, h.done, fun j hj => by
    by_cases e : j = i
    · subst e; exact hx
    · exact h.part j (by omega)⟩
theorem BI.push (h : BI L n k l0 m l q i) (hs : SysOk n L) (hi : i < L.length) (hq : 0 < q.length) (hm : 0 ≤ m) (hx : nth l (nth (row L i) (nth q 0)) < 0) :
    BI L n k l0 m (l.set (nth (row L i) (nth q 0)).toNat m) (q ++ [nth (row L i) (nth q 0)]) (i + 1) := by
  have hmem := row_mem (t := L) (x := i) (by omega) (by omega)
  obtain ⟨⟨hy0, hy1⟩, hyl, hyr⟩ := h.qin _ (nth_mem (p := q) (x := 0) (by omega) (by omega))
  obtain ⟨hpp, hpl⟩ := hs _ hmem
  have hxr := hpp.lt hy0 (by rw [hpl]; exact hy1)
  rw [hpl] at hxr
  have hxR : Reach L k (nth (row L i) (nth q 0)) := hyr.step hmem
  have hq0 : nth (q ++ [nth (row L i) (nth q 0)]) 0 = nth q 0 := nth_append_left _ _ _ (by omega) (by omega)
  obtain ⟨x, hxe⟩ : ∃ x, nth (row L i) (nth q 0) = x := ⟨_, rfl⟩
  have hss : ∀ y : Int, 0 ≤ y → nth (l.set x.toNat m) y = if y = x then m else nth l y := fun y hy => nth_set _ _ _ _ (by rw [← hxe]; exact hxr.1) (by rw [h.len, ← hxe]; exact hxr.2) hy
  have hmono : ∀ y : Int, 0 ≤ y → 0 ≤ nth l y → 0 ≤ nth (l.set x.toNat m) y := fun y hy h0 => by
    rw [hss y hy]; split <;> omega
  rw [hxe] at hx hxr hxR hq0
  rw [hxe]
  refine ⟨by simpa using h.len, fun y hy => ?_, ?_, ?_, ?_, ?_⟩
  · rw [hss y (by omega)]
    by_cases e : (y : Int) = x
    · rw [if_pos e]; exact .inr ⟨rfl, by rw [e]; exact hxR⟩
    · rw [if_neg e]; exact h.lab y hy
  · rw [hss k (by omega)]
    split
    · rfl
    · exact h.st
  · intro y hy
    rcases List.mem_append.1 hy with hy | hy
    · obtain ⟨h1, h2, h3⟩ := h.qin y hy
      refine ⟨h1, ?_, h3⟩
      rw [hss y h1.1]
      split
      · rfl
      · exact h2
    · simp at hy; subst hy
      exact ⟨hxr, by rw [hss _ hxr.1, if_pos rfl], hxR⟩
  · intro y hy hv hr hnq p hp
    have hpy : 0 ≤ nth p y := by
      obtain ⟨h1, h2⟩ := hs p hp
      exact (h1.lt (x := y) (by omega) (by omega)).1
    have hne : ¬ (y : Int) = x := fun e => hnq (List.mem_append.2 (.inr (by simp [e])))
    rw [hss y (by omega), if_neg hne] at hv
    exact hmono _ hpy (h.done y hy hv hr (fun h => hnq (List.mem_append.2 (.inl h))) p hp)
  · intro j hj
    rw [hq0]
    by_cases e : j = i
    · subst e
      rw [hxe, hss x hxr.1, if_pos rfl]
      exact hm
    · have hpj : 0 ≤ nth (row L j) (nth q 0) := by
        obtain ⟨h1, h2⟩ := hs _ (row_mem (t := L) (x := j) (by omega) (by omega))
        exact (h1.lt hy0 (by omega)).1
      exact hmono _ hpj (h.part j (by omega))
theorem BI.pop {y : Int} {q' : List Int} (h : BI L n k l0 m l (y :: q') L.length) : BI L n k l0 m l q' 0 := by
  refine ⟨h.len, h.lab, h.st, fun z hz => h.qin z (List.mem_cons_of_mem _ hz), ?_, by intro j hj; omega⟩
  intro z hz hv hr hnq p hp
  by_cases e : (z : Int) = y
  · obtain ⟨j, hj, rfl⟩ := List.getElem_of_mem hp
    have := h.part j hj
    rw [row_nat _ _ hj] at this
    rw [e]
    exact this
  · exact h.done z hz hv hr (by intro h2; rcases List.mem_cons.1 h2 with h2 | h2; exact e h2; exact hnq h2) p hp
end
theorem BI.last {L : List (List Int)} {n k : Nat} {l : List Int} {i : Nat} (h : BI L n k (labs L n k).1 (labs L n k).2 l [] i) (hs : SysOk n L) (hk : k < n) (hf : nth (labs L n k).1 k < 0) : labs L n (k + 1) = (l, (labs L n k).2 + 1) := by
  have hm := (labs_next L n k).1
  refine labs_new hf h.len fun y hy => ?_
  by_cases hr : Reach L k y
  · rw [if_pos hr]
    have : nth l y = (labs L n k).2 := by
      refine reach_closed (n := n) hs (S := fun z => Reach L k z ∧ nth l z = (labs L n k).2) hr (by omega) (by omega) ⟨.here, h.st⟩ ?_ |>.2
      rintro z hz0 hz1 ⟨hzr, hzv⟩ p hp
      obtain ⟨z', rfl⟩ : ∃ z' : Nat, z = z' := ⟨z.toNat, by omega⟩
      have hge := h.done z' (by omega) hzv hzr (by simp) p hp
      have hpr := hzr.step hp
      obtain ⟨hp0, hp1⟩ := hpr.range hs (by omega) (by omega)
      obtain ⟨u, hu⟩ : ∃ u : Nat, nth p z' = u := ⟨(nth p z').toNat, by omega⟩
      rw [hu] at hge hpr hp1 ⊢
      refine ⟨hpr, ?_⟩
      rcases h.lab u (by omega) with h1 | h1
      · have := labs_fresh hs hk (by omega) hf hpr
        omega
      · exact h1.1
    exact this
  · rw [if_neg hr]
    rcases h.lab y hy with h1 | h1
    · exact h1
    · exact absurd h1.2 hr

theorem BI.pop' {L : List (List Int)} {n k : Nat} {l0 l q : List Int} {m : Int} (h : BI L n k l0 m l q L.length) (hq : 0 < q.length) : BI L n k l0 m l q.tail 0 := by
  cases q with
  | nil => simp at hq
  | cons y q' => exact h.pop
theorem Que.front' {B : Nat} {w : World} {a : Option Addr} {n c : Nat} {q : List Int} (h : Que B w (.slice a n c) q) (hq : 0 < q.length) : ∃ b o, a = some ⟨b, o, none⟩ ∧ q.length ≤ c ∧ w.cell? ⟨b, o, none⟩ = some (.int .i64 (nth q 0)) := by
  cases q with
  | nil => simp at hq
  | cons y q' =>
    obtain ⟨b, o, c', hv, h1, h2⟩ := h.front
    cases hv
    exact ⟨b, o, rfl, h1, by simpa [nth] using h2⟩
theorem Que.cut' {B : Nat} {w : World} {b o n c : Nat} {q : List Int} (h : Que B w (.slice (some ⟨b, o, none⟩) n c) q) (hq : 1 < q.length) : Que B w (.slice (some ⟨b, o + 1, none⟩) (n - 1) (c - 1)) q.tail := by
  cases q with
  | nil => simp at hq
  | cons y q' => exact h.cut (by simpa using hq)
theorem labs_zero_of {n : Nat} {L : List (List Int)} {l : List Int} (hl : l.length = n) (h : ∀ y : Nat, y < n → nth l y = -1) : l = (labs L n 0).1 := by
  refine ext_nth (by simp [labs, hl]) fun y hy => ?_
  rw [h y (by omega)]
  simp only [labs]
  rw [nth_nat _ _ (by simpa [hl] using hy)]
  simp
theorem negs_le (l : List Int) : negs l ≤ l.length := List.countP_le_length

set_option maxRecDepth 100000 in
set_option maxHeartbeats 3200000 in
theorem c_orbitLabels (n : Nat) (v : Value) (L : List (List Int)) (w : World) (hx : Rows w v L) (hn0 : 1 ≤ n) (hn : n ≤ 12) (hL : L.length ≤ 16) (hs : SysOk n L) :
    Calls Try.prog 135 #[.int .i64 n, v] w (RInts w (orbL L n)) := by
  obtain ⟨a, c, rfl, hc, hm⟩ := hx.shape
  have HS := Lib.hid hs; clear hs
  have hmk := run_make_row' (P := Try.prog) 25 2 (.int .i64 0) 8 Try.underlying25 inf_int64 rfl .i64 .i64 n (by omega) (by omega)
  have hb0 : Hid (Below w.heap.size w (w.alloc (.cells (madeCells #[.int .i64 0] n) 2))) := Lib.hid ((Below.refl _ _).alloc (Nat.le_refl _) _)
  have hk0 : Hid (Blk (w.alloc (.cells (madeCells #[.int .i64 0] n) 2)) w.heap.size 2 ((List.replicate n (0 : Int)).map (Value.int .i64) ++ [])) := by
    have := Blk.made w (.int .i64 0) n 2
    show Blk _ _ _ _
    simpa using this
  go_enter Try.func135, Try.ntmps135
  go_wp2
  clear hmk
  go_loopw [6, 17] (fun _ i wr => ∃ (k : Nat) (l : List Int), k ≤ n ∧ i = .int .i64 k ∧ Hid (l.length = n) ∧ Hid (∀ y : Nat, y < k → nth l y = -1) ∧ Hid (Below w.heap.size w wr) ∧ Hid (Blk wr w.heap.size 2 (l.map (Value.int .i64) ++ []))) (fun _ i _ => n - (intOf i).toNat)
  case atStart => exact ⟨0, _, Nat.zero_le _, rfl, Lib.hid (by simp), Lib.hid (by intro y hy; omega), hb0, hk0⟩
  case round =>
    clear hb0 hk0
    obtain ⟨k, l, hk, rfl, HL, HY, HB, HBk⟩ := hrel
    by_cases hlt : k < n
    · have c1 := HBk.out.labN k (by rw [HL.out]; exact hlt)
      have c2 := HBk.out.frozen k
      have hset := HBk.out.labSet (k : Int) (by omega) (by rw [HL.out]; omega) (-1)
      have hset2 : Hid (Blk (wr.setCell ⟨w.heap.size, k, none⟩ (.int .i64 (-1))) w.heap.size 2 ((l.set k (-1)).map (Value.int .i64) ++ [])) := hset
      clear hset
      go_wp2
      go_roundw
      case rel =>
        refine ⟨k + 1, _, by omega, by go_num, Lib.hid (by simpa using HL.out), Lib.hid ?_, Lib.hid (HB.out.setCell (p := ⟨w.heap.size, k, none⟩) (Nat.le_refl _) _), hset2⟩
        intro y hy
        have := nth_set l (k : Int) (y : Int) (-1) (by omega) (by rw [HL.out]; omega) (by omega)
        simp only [Int.toNat_natCast] at this
        rw [this]
        by_cases e : y = k
        · rw [if_pos (by omega)]
        · rw [if_neg (by omega)]; exact HY.out y (by omega)
      case measure => simp [intOf]; omega
    · obtain rfl : k = n := by omega
      have hl0 := labs_zero_of (L := L) HL.out HY.out
      subst hl0
      obtain ⟨wo, rfl⟩ : ∃ wo : World, wo = wr := ⟨_, rfl⟩
      clear HL HY hlt hk
      have HSz := Lib.hid HBk.out.lt
      obtain ⟨g, HG⟩ : ∃ g, Hid (g = w.heap.size) := ⟨_, rfl⟩
      rw [← HG.out] at HBk HSz ⊢
      go_wp2
      go_loopw [7, 8, 9, 11, 12, 26] (fun m _ _ _ _ x wr => ∃ (j : Nat), j ≤ k ∧ x = .int .i64 j ∧ m = .int .i64 (labs L k j).2 ∧ Hid (Below w.heap.size w wr) ∧ Hid (Blk wr g 2 ((labs L k j).1.map (Value.int .i64) ++ []))) (fun _ _ _ _ _ x _ => k - (intOf x).toNat)
      case atStart => exact ⟨0, Nat.zero_le _, rfl, rfl, HB, HBk⟩
      case round =>
        clear HB HBk HSz
        obtain ⟨j, hj, rfl, rfl, HB, HBk⟩ := hrel
        obtain ⟨wo, rfl⟩ : ∃ wo : World, wo = wr := ⟨_, rfl⟩
        by_cases hlt : j < k
        · have hll := labs_length L k j
          have c1 := HBk.out.labN j (by omega)
          have c2 := HBk.out.frozen j
          have hnx := labs_next L k j
          have hfr := fun (y : Nat) (hy : y < k) => (labs_range L k j y hy).2
          obtain ⟨m, hm'⟩ : ∃ m, (labs L k j).2 = m := ⟨_, rfl⟩
          obtain ⟨l, hl'⟩ : ∃ l, (labs L k j).1 = l := ⟨_, rfl⟩
          rw [hl'] at c1 HBk hll
          rw [hm'] at hnx
          rw [hl', hm'] at hfr
          have HLb : Hid (labs L k j = (l, m)) := by show _ = _; rw [← hl', ← hm']
          rw [hm']
          obtain ⟨hm0, hm1⟩ := hnx
          by_cases hf : nth l j < 0
          · have HF := Lib.hid hf
            have hset : Hid (Blk (wo.setCell ⟨g, j, none⟩ (.int .i64 m)) g 2 ((l.set j m).map (Value.int .i64) ++ [])) := HBk.out.labSet (j : Int) (by omega) (by rw [hll]; omega) m
            have HStart := Lib.hid (BI.start (L := L) (k := j) hll hlt hm0 hfr)
            have HLL := Lib.hid hll
            have HBg : Hid (Below w.heap.size w (wo.setCell ⟨g, j, none⟩ (.int .i64 m))) := Lib.hid (HB.out.setCell (p := ⟨g, j, none⟩) (by rw [HG.out]; exact Nat.le_refl _) _)
            have HLt := Lib.hid HBk.out.lt
            have hng := negs_le (l.set j m)
            rw [List.length_set, hll] at hng
            have HNg := Lib.hid hng
            clear hm' hl' hll hfr hng
            go_wp2
            go_loopg [9, 11, 12] (negs (l.set j m) + 1) (fun gn s _ _ wr => ∃ (l2 q : List Int) (qa : Option Addr) (qc : Nat), s = .slice qa q.length qc ∧ Hid (negs l2 + q.length = gn ∧ gn ≤ 13) ∧ Hid (Below w.heap.size w wr ∧ wo.heap.size ≤ wr.heap.size) ∧ Hid (Blk wr g 2 (l2.map (Value.int .i64) ++ [])) ∧ Hid (BI L k j l m l2 q 0) ∧ Hid (0 < q.length → Que wo.heap.size wr (.slice qa q.length qc) q))
            case atStart =>
              have hq := Que.new (w := wo.setCell ⟨g, j, none⟩ (.int .i64 m)) (B := wo.heap.size) (j : Int) (by simp [World.setCell])
              have e : (wo.setCell ⟨g, j, none⟩ (.int .i64 m)).heap.size = wo.heap.size := by simp [World.setCell]
              refine ⟨l.set j m, [(j : Int)], _, _, rfl, Lib.hid ⟨rfl, by have := HNg.out; omega⟩, Lib.hid ⟨HBg.out.alloc HBg.out.size _, by simp [World.setCell]⟩, Lib.hid (hset.out.alloc _), HStart, Lib.hid fun _ => ?_⟩
              rw [e] at hq
              exact hq
            case round =>
              clear hset HStart HBg HBk HB c1 c2 HLL HNg hf
              obtain ⟨l2, q, qa, qc, rfl, HN, HB, HBk, HI, HQ⟩ := hrel
              obtain ⟨wp, rfl⟩ : ∃ wp : World, wp = wr := ⟨_, rfl⟩
              by_cases hq : 0 < q.length
              · have hq1 : (1 : Int) ≤ q.length := by omega
                have hq0 : (0 : Int) < q.length := by omega
                go_wp2
                go_loopw [9, 11, 12, 47] (fun s _ _ x wr => ∃ (i : Nat) (l2 q : List Int) (qa : Option Addr) (qc : Nat), i ≤ L.length ∧ 0 < q.length ∧ x = .int .i64 i ∧ s = .slice qa q.length qc ∧ Hid (negs l2 + q.length = gk ∧ gk ≤ 13) ∧ Hid (Below w.heap.size w wr ∧ wo.heap.size ≤ wr.heap.size) ∧ Hid (Blk wr g 2 (l2.map (Value.int .i64) ++ [])) ∧ Hid (BI L k j l m l2 q i) ∧ Hid (Que wo.heap.size wr (.slice qa q.length qc) q)) (fun _ _ _ x _ => L.length - (intOf x).toNat)
                case atStart => exact ⟨0, l2, q, qa, qc, Nat.zero_le _, hq, rfl, rfl, HN, HB, HBk, HI, Lib.hid (HQ.out hq)⟩
                case round =>
                  clear HN HB HBk HI HQ hq hq1 hq0
                  obtain ⟨i, l2, q, qa, qc, hi, hq, rfl, rfl, HN, HB, HBk, HI, HQ⟩ := hrel
                  obtain ⟨wz, rfl⟩ : ∃ wz : World, wz = wr := ⟨_, rfl⟩
                  have hq1 : (1 : Int) ≤ q.length := by omega
                  have hq0 : (0 : Int) < q.length := by omega
                  obtain ⟨qb, qo, rfl, hqc, d1⟩ := HQ.out.front' hq
                  by_cases hil : i < L.length
                  · have hmem := row_mem (t := L) (x := i) (by omega) (by omega)
                    obtain ⟨⟨hy0, hy1⟩, hyl, hyr⟩ := HI.out.qin _ (nth_mem (p := q) (x := 0) (by omega) (by omega))
                    obtain ⟨hpp, hpl⟩ := HS.out _ hmem
                    obtain ⟨hz0, hz1⟩ := hpp.lt hy0 (by rw [hpl]; exact hy1)
                    rw [hpl] at hz1
                    obtain ⟨b, o, ra, rc, rfl, d2, hr⟩ := (hx.below HB.out.1).getS i hil
                    have hy2 : nth q 0 < (row L i).length := by omega
                    obtain ⟨b2, o2, rfl, d3⟩ := hr.geti (nth q 0) hy0 hy2
                    have hl2 := HI.out.len
                    have d4 := HBk.out.lab (nth (row L i) (nth q 0)) hz0 (by rw [hl2]; exact hz1)
                    have d5 := HBk.out.frozen (nth (row L i) (nth q 0)).toNat
                    have HL2 := Lib.hid hl2
                    clear hl2 hyl hyr hpp hpl hmem hr
                    by_cases hneg : nth l2 (nth (row L i) (nth q 0)) < 0
                    · have HNeg := Lib.hid hneg
                      have hset : Hid (Blk (wz.setCell ⟨g, (nth (row L i) (nth q 0)).toNat, none⟩ (.int .i64 m)) g 2 ((l2.set (nth (row L i) (nth q 0)).toNat m).map (Value.int .i64) ++ [])) := HBk.out.labSet _ hz0 (by rw [HL2.out]; exact hz1) m
                      have HQ2 := Lib.hid (HQ.out.other (a := ⟨g, (nth (row L i) (nth q 0)).toNat, none⟩) HLt.out (.int .i64 m))
                      have HQl : Hid (q.length ≤ 1048576) := by have := HN.out; show _ ≤ _; omega
                      have HSz : Hid (wo.heap.size ≤ (wz.setCell ⟨g, (nth (row L i) (nth q 0)).toNat, none⟩ (.int .i64 m)).heap.size) := by show _ ≤ _; simpa [World.setCell] using HB.out.2
                      have HBs := Lib.hid (HB.out.1.setCell (p := ⟨g, (nth (row L i) (nth q 0)).toNat, none⟩) (by rw [HG.out]; exact Nat.le_refl _) (.int .i64 m))
                      go_wp2_with (at_builtin; go_must (refine wpList_app_que wo.heap.size _ _ q (nth (row L i) (nth q 0)) _ _ rfl rfl rfl HQ2.out (by simp [Act.eval, World.setCell]) HQl.out HSz.out ?_); intro a' c' w' hq' hbl'; have HQ' := Lib.hid hq'; have HB' := Lib.hid hbl'; clear hq' hbl')
                      go_roundw
                      case rel =>
                        have hng := negs_set hz0 (by rw [HL2.out]; exact hz1) HNeg.out hm0
                        refine ⟨i + 1, l2.set (nth (row L i) (nth q 0)).toNat m, q ++ [nth (row L i) (nth q 0)], a', c', by omega, by simp, by go_num, by simp, Lib.hid ?_, Lib.hid ⟨?_, ?_⟩, Lib.hid (hset.out.below HB'.out HLt.out), Lib.hid (HI.out.push HS.out hil hq hm0 HNeg.out), Lib.hid (by have := HQ'.out; simpa using this)⟩
                        · have := HN.out; simp only [List.length_append, List.length_cons, List.length_nil]; omega
                        · refine HBs.out.trans (HB'.out.mono ?_)
                          have := HG.out; have := HLt.out; omega
                        · exact Nat.le_trans HSz.out HB'.out.size
                      case measure => simp [intOf]; omega
                    · have HNeg := Lib.hid hneg
                      go_wp2
                      go_roundw
                      case rel => exact ⟨i + 1, l2, q, _, qc, by omega, hq, by go_num, rfl, HN, HB, HBk, Lib.hid (HI.out.skip (by have := HNeg.out; omega)), HQ⟩
                      case measure => simp [intOf]; omega
                  · obtain rfl : i = L.length := by omega
                    by_cases h1 : q.length = 1
                    · have hqt : q.tail = [] := List.eq_nil_of_length_eq_zero (by simp; omega)
                      by_cases hc1 : qc = 1
                      · have HH1 := Lib.hid h1; have HH2 := Lib.hid hqt; have HH3 := Lib.hid hc1; clear h1 hqt
                        go_wp2
                        go_roundg (gk - 1)
                        case measure => have := HN.out; omega
                        case rel => exact ⟨l2, q.tail, some ⟨qb, qo, none⟩, qc - 1, by simp [hc1], Lib.hid (by have := HN.out; simp; omega), HB, HBk, Lib.hid (HI.out.pop' hq), Lib.hid fun h => by rw [HH2.out] at h; simp at h⟩
                      · have HH1 := Lib.hid h1; have HH2 := Lib.hid hqt; clear h1 hqt
                        go_wp2
                        go_roundg (gk - 1)
                        case measure => have := HN.out; omega
                        case rel => exact ⟨l2, q.tail, some ⟨qb, qo + 1, none⟩, qc - 1, by simp, Lib.hid (by have := HN.out; simp; omega), HB, HBk, Lib.hid (HI.out.pop' hq), Lib.hid fun h => by rw [HH2.out] at h; simp at h⟩
                    · have hc1 : ¬ qc = 1 := by omega
                      have HQt := Lib.hid (HQ.out.cut' (by omega))
                      have HH1 := Lib.hid h1; clear h1
                      go_wp2
                      go_roundg (gk - 1)
                      case measure => have := HN.out; omega
                      case rel =>
                        refine ⟨l2, q.tail, some ⟨qb, qo + 1, none⟩, qc - 1, by simp, Lib.hid ?_, HB, HBk, Lib.hid (HI.out.pop' hq), Lib.hid fun _ => ?_⟩
                        · have := HN.out; simp; omega
                        · have := HQt.out; simpa using this
              · obtain rfl : q = [] := List.eq_nil_of_length_eq_zero (by omega)
                have hlb : (labs L k j).1 = l := by rw [HLb.out]
                have hlm : (labs L k j).2 = m := by rw [HLb.out]
                have hb := HI.out
                rw [← hlb, ← hlm] at hb
                have hnew := hb.last HS.out hlt (by rw [hlb]; exact HF.out)
                rw [hlm] at hnew
                have HNew := Lib.hid hnew
                clear hb hlb hlm hnew
                go_wp2
                go_roundw
                case rel => exact ⟨j + 1, by omega, by go_num, by rw [HNew.out], Lib.hid HB.out.1, Lib.hid (by rw [HNew.out]; exact HBk.out)⟩
                case measure => simp [intOf]; omega
          · have HF := Lib.hid hf
            clear hm' hl' hll hfr
            go_wp2
            go_roundw
            case rel =>
              have e : labs L k (j + 1) = labs L k j := labs_old (by rw [HLb.out]; have := HF.out; omega)
              exact ⟨j + 1, by omega, by go_num, by rw [e, HLb.out], HB, by rw [e, HLb.out]; assumption⟩
            case measure => simp [intOf]; omega
        · obtain rfl : j = k := by omega
          go_wp2
          go_ret
          exact ⟨_, rfl, Own.shut HBk.out (by rw [HG.out]; exact Nat.le_refl _) (by rw [labs_length]; simp [maxLen]; omega) (by rw [labs_length]) (by rw [labs_length]; simp), HB.out⟩
end Go.Proofs.Ytkcobfkmeaakoaa
