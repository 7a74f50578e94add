/-
  A table out of a function value (impl.tableBy), the transposed table, the renamed table; and the reference's ways. Condition: indices fit.
-/
import Derived.Test.YtgmhnjccgldddaaI2
import Derived.Test.YtgmhnjccgldddaaI1c
import Derived.Deep.RegionHeld3
namespace Go.Proofs.Ytgmhnjccgldddaa
set_option linter.unusedVariables false
set_option linter.unusedSimpArgs false
open Go.RowKit

/-- The table of n elements with these values. -/
def tabOf (n : Nat) (g : Int → Int → Int) : List (List Int) := (List.range n).map fun (x : Nat) => (List.range n).map fun (y : Nat) => g x y
def rowOf (n : Nat) (g : Int → Int) : List Int := (List.range n).map fun (y : Nat) => g y
@[simp] theorem tabOf_length (n : Nat) (g : Int → Int → Int) : (tabOf n g).length = n := by simp [tabOf]
@[simp] theorem rowOf_length (n : Nat) (g : Int → Int) : (rowOf n g).length = n := by simp [rowOf]
theorem row_tabOf (n : Nat) (g : Int → Int → Int) (k : Nat) (h : k < n) : row (tabOf n g) k = rowOf n (g k) := by
  rw [row_nat _ _ (by simpa using h)]; simp [tabOf, rowOf]
theorem nth_rowOf (n : Nat) (g : Int → Int) (k : Nat) (h : k < n) : nth (rowOf n g) k = g k := by
  rw [nth_nat _ _ (by simpa using h)]; simp [rowOf]
theorem nth_rowOfi (n : Nat) (g : Int → Int) (x : Int) (h0 : 0 ≤ x) (h : x < n) : nth (rowOf n g) x = g x := by
  have := nth_rowOf n g x.toNat (by omega)
  rwa [show ((x.toNat : Nat) : Int) = x from by omega] at this
theorem row_tabOfi (n : Nat) (g : Int → Int → Int) (x : Int) (h0 : 0 ≤ x) (h : x < n) : row (tabOf n g) x = rowOf n (g x) := by
  have := row_tabOf n g x.toNat (by omega)
  rwa [show ((x.toNat : Nat) : Int) = x from by omega] at this
theorem rowOf_congr {n : Nat} {g h : Int → Int} (e : ∀ y : Nat, y < n → g y = h y) : rowOf n g = rowOf n h := by
  unfold rowOf; exact List.map_congr_left fun y hy => e y (List.mem_range.1 hy)
theorem tabOf_congr {n : Nat} {g h : Int → Int → Int} (e : ∀ x y : Nat, x < n → y < n → g x y = h x y) : tabOf n g = tabOf n h := by
  unfold tabOf; exact List.map_congr_left fun x hx => List.map_congr_left fun y hy => e x y (List.mem_range.1 hx) (List.mem_range.1 hy)

/-- What is asked of the function value: at every two indices, in every world in which all that lay lies as it lay, it answers g. -/
def Pays2 (w : World) (f : FuncId) (lb : Array Value) (n : Nat) (g : Int → Int → Int) : Prop :=
  ∀ W (x y : Nat), Below w.heap.size w W → x < n → y < n → Calls Try.prog f (#[.int .i64 x, .int .i64 y] ++ lb) W (RVal W (.int .i64 (g x y)))

theorem RowVals.add {B : Nat} {w : World} {us : List Value} {xss : List (List Int)} (h : RowVals B w us xss) {g : Nat} {xs : List Int} (hb : Blk w g 2 (xs.map (Value.int .i64))) (hB : B ≤ g) (hm : xs.length ≤ maxLen)
    (hlt : ∀ i (hi : i < us.length) k, us[i].ownBlock = some k → k < g) {n m : Nat} (hn : n = xs.length) (hm' : m = xs.length) : RowVals B w (us ++ [.slice (some ⟨g, 0, none⟩) n m]) (xss ++ [xs]) := by
  refine ⟨by simp [h.len], fun i hi hi' => ?_, ?_⟩
  · by_cases e : i < us.length
    · rw [List.getElem_append_left e, List.getElem_append_left (by rw [← h.len]; exact e)]
      exact h.own i e (by rw [← h.len]; exact e)
    · have e2 : i = us.length := by simp at hi; omega
      subst e2
      rw [List.getElem_append_right (Nat.le_refl _), List.getElem_append_right (by rw [h.len]; exact Nat.le_refl _)]
      simp only [h.len, Nat.sub_self, List.getElem_cons_zero]
      exact Own.of_blk hb hB hm hn hm'
  · rw [List.pairwise_append]
    refine ⟨h.apart, by simp, fun a ha b hb' => ?_⟩
    simp at hb'; subst hb'
    obtain ⟨i, hi, rfl⟩ := List.getElem_of_mem ha
    cases e : (us[i]).ownBlock with
    | none => exact .inl rfl
    | some k =>
      refine .inr fun e2 => ?_
      have h1 := hlt i hi k e
      simp [Value.ownBlock] at e2
      omega
theorem RowVals.lt {B : Nat} {w : World} {us : List Value} {xss : List (List Int)} (h : RowVals B w us xss) (i : Nat) (hi : i < us.length) (k : Nat) (hk : us[i].ownBlock = some k) : k < w.heap.size :=
  ((h.own i hi (by rw [← h.len]; exact hi)).lt hk).2
theorem RowVals.setOther {B : Nat} {w : World} {us : List Value} {xss : List (List Int)} (h : RowVals B w us xss) {a : Addr} (ha : ∀ i (hi : i < us.length) k, us[i].ownBlock = some k → k ≠ a.block) (u : Value) : RowVals B (w.setCell a u) us xss :=
  ⟨h.len, fun j hj hj' => (h.own j hj hj').setOther (by intro e; exact ha j hj _ e rfl) u, h.apart⟩

theorem vals_set0 (us : List Value) (n : Nat) (z u : Value) (k : Nat) (hl : us.length = k) (hk : k < n) :
    (us ++ (List.replicate n z).drop k).set k u = us ++ [u] ++ (List.replicate n z).drop (k+1) := by
  rw [List.set_append, if_neg (by omega), hl, Nat.sub_self, List.drop_eq_getElem_cons (by simpa using hk)]
  simp only [List.set_cons_zero, List.append_assoc, List.cons_append, List.nil_append]

theorem boxes2' (w : World) (c0 c1 : List Value) (t0 t1 : TypeId) :
    Blk ((w.alloc (.cells c0.toArray t0)).alloc (.cells c1.toArray t1)) w.heap.size t0 c0 ∧
    Blk ((w.alloc (.cells c0.toArray t0)).alloc (.cells c1.toArray t1)) (w.heap.size + 1) t1 c1 ∧
    Below w.heap.size w ((w.alloc (.cells c0.toArray t0)).alloc (.cells c1.toArray t1)) ∧
    ((w.alloc (.cells c0.toArray t0)).alloc (.cells c1.toArray t1)).heap.size = w.heap.size + 2 := by
  have e1 : (w.alloc (.cells c0.toArray t0)).heap.size = w.heap.size + 1 := by simp
  have h0 := Blk.new w c0 t0
  have h1 := Blk.new (w.alloc (.cells c0.toArray t0)) c1 t1
  rw [e1] at h1
  exact ⟨h0.alloc _, h1, ((Below.refl _ _).alloc (Nat.le_refl _) _).alloc (by omega) _, by simp⟩
theorem hcell_of {w : World} {b t : Nat} {us : List Value} {u : Value} {rest : List Value} {k n : Nat} (hu : Hid (us.length = k)) (h : Blk w b t (us ++ [u] ++ rest)) (_ : k < n) : w.cell? ⟨b, k, none⟩ = some u := by
  have hu' := hu.out
  have h0 := h.cell (i := k) (by simp; omega)
  rw [List.getElem_append_left (by simp; omega), List.getElem_append_right (by omega)] at h0
  simpa [hu'] using h0

set_option maxHeartbeats 1000000 in
theorem c_tableBy (n : Nat) (f : FuncId) (lb : Array Value) (g : Int → Int → Int) (w : World) (hn : n ≤ 1048576) (eg : ∀ args w, (callFunc f args).run Try.prog w = .ok (.enter f args) w) (hf : Pays2 w f lb n g) :
    Calls Try.prog 83 #[.int .i64 n, .func (.func f) #[] lb] w (RRows w (tabOf n g)) := by
  have hmk := run_make_row' (P := Try.prog) 22 26 (.slice none 0 0) 24 Try.underlying22 inf_ints rfl .i64 .i64 n (by omega) (by omega)
  have hmk2 := run_make_row' (P := Try.prog) 26 2 (.int .i64 0) 8 Try.underlying26 inf_int64 rfl .i64 .i64 n (by omega) (by omega)
  go_enter Try.func83, Try.ntmps83
  go_wp2
  have hB0 : Below w.heap.size w (w.alloc (.cells (madeCells #[.slice none 0 0] n) 26)) := (Below.refl _ _).alloc (Nat.le_refl _) _
  have hK0 : Blk (w.alloc (.cells (madeCells #[.slice none 0 0] n) 26)) w.heap.size 26 ([] ++ (List.replicate n (Value.slice none 0 0)).drop 0) := by
    simpa using Blk.made w (.slice none 0 0) n 26
  clear hmk
  go_loopw [12, 6, 7] (fun i _ _ wr => ∃ (k : Nat) (us : List Value), k ≤ n ∧ i = .int .i64 k ∧ Below w.heap.size w wr ∧ Blk wr w.heap.size 26 (us ++ (List.replicate n (Value.slice none 0 0)).drop k) ∧ RowVals w.heap.size wr us ((tabOf n g).take k)) (fun i _ _ _ => n - (intOf i).toNat)
  case atStart => exact ⟨0, [], Nat.zero_le _, rfl, hB0, hK0, RowVals.nil _ _⟩
  case round =>
    clear hB0 hK0
    obtain ⟨k, us, hk, rfl, hb, hblk, hvals⟩ := hrel
    have hul : us.length = k := by rw [hvals.len]; simp; omega
    by_cases hlt : k < n
    · have HU := Lib.hid hul; clear hul
      obtain ⟨wo, rfl⟩ : ∃ wo : World, wo = wr := ⟨_, rfl⟩
      obtain ⟨z, h2⟩ := fill_cell0 hblk (k := k) (by have := HU.out; simp; omega)
      have h3 := hblk.frozen k
      have hgx := hblk.lt
      have hsz : (wo.setCell ⟨w.heap.size, k, none⟩ (.slice (some ⟨wo.heap.size, 0, none⟩) n n)).heap.size = wo.heap.size := by simp [World.setCell]
      have hblk0 := hblk.set k (.slice (some ⟨wo.heap.size, 0, none⟩) n n)
      rw [vals_set0 _ _ _ _ _ HU.out hlt] at hblk0
      have hblk1 := hblk0.alloc (.cells (madeCells #[.int .i64 0] n) 2)
      have hnew := Blk.made (wo.setCell ⟨w.heap.size, k, none⟩ (.slice (some ⟨wo.heap.size, 0, none⟩) n n)) (.int .i64 0) n 2
      rw [hsz] at hnew
      have hvals0 := hvals.store hblk (by decide) k (.slice (some ⟨wo.heap.size, 0, none⟩) n n)
      have hvals1 := hvals0.under ((Below.refl _ _).alloc (Nat.le_refl _) (.cells (madeCells #[.int .i64 0] n) 2))
      have hnew1 : Blk ((wo.setCell ⟨w.heap.size, k, none⟩ (.slice (some ⟨wo.heap.size, 0, none⟩) n n)).alloc (.cells (madeCells #[.int .i64 0] n) 2)) wo.heap.size 2 (((rowOf n (g k)).take 0).map (Value.int .i64) ++ (List.replicate n (Value.int .i64 0)).drop 0) := by
        simpa using hnew
      have hb1 : Below w.heap.size w ((wo.setCell ⟨w.heap.size, k, none⟩ (.slice (some ⟨wo.heap.size, 0, none⟩) n n)).alloc (.cells (madeCells #[.int .i64 0] n) 2)) := (hb.setCell (p := ⟨w.heap.size, k, none⟩) (Nat.le_refl _) _).alloc (by rw [hsz]; exact hb.size) _
      have hlts : ∀ i (hi : i < us.length) q, us[i].ownBlock = some q → q < wo.heap.size := fun i hi q hq => hvals.lt i hi q hq
      have hcell0 := hblk1.cell (i := k) (by have := HU.out; simp; omega)
      rw [List.getElem_append_left (by have := HU.out; simp; omega), List.getElem_append_right (by have := HU.out; omega)] at hcell0
      simp only [HU.out, Nat.sub_self, List.getElem_cons_zero] at hcell0
      have HB1 := Lib.hid hb1; have HBlk1 := Lib.hid hblk1; have HV1 := Lib.hid hvals1; have HN1 := Lib.hid hnew1; have HLT := Lib.hid hlts
      clear hb hblk hvals hnew hblk0 hvals0 hblk1 hvals1 hnew1 hb1 hlts hsz
      go_wp2
      go_loopw [25, 7] (fun j _ wi => ∃ y : Nat, y ≤ n ∧ j = .int .i64 y ∧ Below w.heap.size w wi ∧ Blk wi w.heap.size 26 (us ++ [.slice (some ⟨wo.heap.size, 0, none⟩) n n] ++ (List.replicate n (Value.slice none 0 0)).drop (k+1)) ∧
        RowVals w.heap.size wi us ((tabOf n g).take k) ∧ Blk wi wo.heap.size 2 (((rowOf n (g k)).take y).map (Value.int .i64) ++ (List.replicate n (Value.int .i64 0)).drop y)) (fun j _ _ => n - (intOf j).toNat)
      case atStart => exact ⟨0, Nat.zero_le _, rfl, HB1.out, HBlk1.out, HV1.out, HN1.out⟩
      case round =>
        clear HB1 HBlk1 HV1 HN1 hcell0 h2 h3
        obtain ⟨y, hy, rfl, hb, hblk, hvals, hrow⟩ := hrel
        have hcell0 := hblk.cell (i := k) (by have := HU.out; simp; omega)
        rw [List.getElem_append_left (by have := HU.out; simp; omega), List.getElem_append_right (by have := HU.out; omega)] at hcell0
        simp only [HU.out, Nat.sub_self, List.getElem_cons_zero] at hcell0
        by_cases hlty : y < n
        · have hbd := hb.drew
          have hblkd := hblk.drew
          have hrowd := hrow.drew
          have hvalsd := hvals.keep ((Keep.refl (fun _ => False) wr).drew) (fun _ _ _ h => h)
          have hpay := hf wr.drew k y hbd hlt hlty
          have Hp := Lib.hid hpay; clear hpay
          have hk0 : (0 : Int) ≤ k := by omega
          have hk1 : (k : Int) < n := by omega
          have hy0 : (0 : Int) ≤ y := by omega
          have hy1 : (y : Int) < n := by omega
          have HBd := Lib.hid hbd; have HKd := Lib.hid hblkd; have HRd := Lib.hid hrowd; have HVd := Lib.hid hvalsd
          have hcp := hcell_of HU hblkd hlt
          clear hbd hblkd hrowd hvalsd hb hblk hvals hrow
          go_wp2_with fail
          go_region_held3 (fun w' => w'.cell? ⟨w.heap.size, k, none⟩ = some (.slice (some ⟨wo.heap.size, 0, none⟩) n n))
            (first | go_keep | exact hcell_of HU (HKd.out.under hb') hlt | exact hcell_of HU ((HKd.out.under hb').other (a := ⟨wo.heap.size, y, none⟩) (by show w.heap.size ≠ wo.heap.size; omega) _) hlt)
            ((go_at_fn f; refine Hp.out.mono ?_; rintro e w' ⟨rfl, hb'⟩; obtain ⟨z, h2⟩ := fill_cell0 (HRd.out.under hb') (k := y) (by simp; omega); have h3 := (HRd.out.under hb').frozen y))
          have hset := (HRd.out.under hb').set y (.int .i64 (g k y))
          rw [fill_set _ _ (by simpa using hlty) _ (by simp) _ (nth_rowOf n (g k) y hlty).symm] at hset
          have hblk' := (HKd.out.under hb').other (a := ⟨wo.heap.size, y, none⟩) (by show w.heap.size ≠ wo.heap.size; omega) (.int .i64 (g k y))
          have hvals' := (HVd.out.under hb').setOther (a := ⟨wo.heap.size, y, none⟩) (fun i hi q hq => by have := HLT.out i hi q hq; show q ≠ wo.heap.size; omega) (.int .i64 (g k y))
          have hb2 := (bb HBd.out hb').setCell (p := ⟨wo.heap.size, y, none⟩) (by show w.heap.size ≤ wo.heap.size; omega) (.int .i64 (g k y))
          have HB := Lib.hid hb2; have HS := Lib.hid hset; have HK := Lib.hid hblk'; have HV := Lib.hid hvals'
          clear hset hblk' hvals' hb2 hb' hcell0 h2 h3 hcp
          go_wp2
          go_roundw
          case rel => exact ⟨y + 1, by omega, by go_num, HB.out, HK.out, HV.out, HS.out⟩
          case measure => simp [intOf]; omega
        · obtain rfl : y = n := by omega
          have HB := Lib.hid hb; have HK := Lib.hid hblk; have HV := Lib.hid hvals; have HR := Lib.hid hrow
          clear hb hblk hvals hrow
          go_wp2
          go_roundw
          case rel =>
            refine ⟨k + 1, us ++ [.slice (some ⟨wo.heap.size, 0, none⟩) y y], by omega, by go_num, HB.out, by have := HK.out; exact this, ?_⟩
            rw [take_snoc_row _ _ (by simpa using hlt), row_tabOf _ _ _ hlt]
            have hr := HR.out
            rw [fill_done _ _ (by simp)] at hr
            exact HV.out.add hr (by omega) (by simp [maxLen]; omega) HLT.out (by simp) (by simp)
          case measure => simp [intOf]; omega
    · have hn' : k = n := by omega
      have HB := Lib.hid hb; have HK := Lib.hid hblk; have HV := Lib.hid hvals; have HU := Lib.hid hul
      clear hb hblk hvals hul
      obtain rfl := hn'
      go_wp2
      go_ret
      have hv := HV.out
      rw [List.take_of_length_le (by simp)] at hv
      have hk := HK.out
      rw [List.drop_of_length_le (by simp), List.append_nil] at hk
      exact ⟨_, rfl, ⟨us, ownsRow_blk hk (Nat.le_refl _) HU.out.symm HU.out.symm (by rw [HU.out]; unfold maxLen; omega), hv⟩, HB.out⟩

/-- The value of a table at two indices. -/
def val2 (t : List (List Int)) (x y : Int) : Int := nth (row t x) y
theorem isTab_row {t : List (List Int)} (h : isTab t = true) {x : Int} (h0 : 0 ≤ x) (h1 : x < t.length) : (row t x).length = t.length := by
  simp only [isTab, Bool.and_eq_true, Bool.not_eq_true', List.any_eq_false] at h
  have := h.2 _ (row_mem h0 h1)
  simp [rowBad] at this
  exact this.1
theorem isTab_val {t : List (List Int)} (h : isTab t = true) {r : List Int} (hr : r ∈ t) {x : Int} (hx : x ∈ r) : 0 ≤ x ∧ x < t.length := by
  simp only [isTab, Bool.and_eq_true, Bool.not_eq_true', List.any_eq_false] at h
  have := h.2 _ hr
  simp [rowBad] at this
  have := this.2 x hx
  simp [inR] at this; omega
theorem isTab_len {t : List (List Int)} (h : isTab t = true) : 1 ≤ t.length ∧ t.length ≤ 12 := by
  simp [isTab, inR] at h; omega

/-- As many rows as columns. -/
def Sq (t : List (List Int)) : Prop := t.length ≤ 12 ∧ ∀ x : Int, 0 ≤ x → x < t.length → (row t x).length = t.length
theorem isTab_sq {t : List (List Int)} (h : isTab t = true) : Sq t := ⟨(isTab_len h).2, fun _ h0 h1 => isTab_row h h0 h1⟩
def transL (t : List (List Int)) : List (List Int) := tabOf t.length fun x y => val2 t y x
@[simp] theorem transL_length (t : List (List Int)) : (transL t).length = t.length := by simp [transL]


end Go.Proofs.Ytgmhnjccgldddaa
