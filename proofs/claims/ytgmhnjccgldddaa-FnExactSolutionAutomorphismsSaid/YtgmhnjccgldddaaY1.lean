/-
  Words for the program's search for isomorphisms: lists of tables in memory, the state of a partial map in memory, an append that stays in its block where there is room.
-/
import Derived.Test.YtgmhnjccgldddaaK4
import Derived.Test.YtgmhnjccgldddaaT1
import Derived.Test.YtgmhnjccgldddaaA1
import Derived.ArgAppend
namespace Go.Proofs.Ytgmhnjccgldddaa
set_option linter.unusedVariables false
set_option linter.unusedSimpArgs false
open Go Go.RowKit

/-- A list of K tables of n rows each at place o of block b. -/
structure Tb3 (w : World) (b o n K : Nat) (F : List (List (List Int))) (tb to tc : Nat → Nat) (rb ro rc : Nat → Nat → Nat) : Prop where
  tab : ∀ k, k < K → w.cell? ⟨b, o + k, none⟩ = some (.slice (some ⟨tb k, to k, none⟩) n (tc k))
  at' : ∀ k, k < K → TabAt w (tb k) (to k) n (F.getD k []) (rb k) (ro k) (rc k)
theorem Tb3.below {w w' : World} {b o n K : Nat} {F : List (List (List Int))} {tb to tc : Nat → Nat} {rb ro rc : Nat → Nat → Nat} (h : Tb3 w b o n K F tb to tc rb ro rc) (hb : Below w.heap.size w w') : Tb3 w' b o n K F tb to tc rb ro rc :=
  ⟨fun k hk => cell_under hb (h.tab k hk), fun k hk => (h.at' k hk).below hb⟩
theorem Tb3.tabs {w : World} {b o n K : Nat} {F : List (List (List Int))} {tb to tc : Nat → Nat} {rb ro rc : Nat → Nat → Nat} (h : Tb3 w b o n K F tb to tc rb ro rc) (hK : K = F.length) : Tabs n F := fun k hk x y hx hy => (h.at' k (by omega)).rng x y hx.1 hx.2 hy.1 hy.2

theorem Own.keepB {B : Nat} {S : Nat → Prop} {w w' : World} {v : Value} {xs : List Int} (h : Own B w v xs) (k : Keep S w w') (hs : ∀ b, v.ownBlock = some b → ¬ S b) : Own B w' v xs := by
  obtain ⟨hl, h | ⟨g, cap, cur, hv, hb, hg, r⟩⟩ := h
  · exact ⟨hl, .inl h⟩
  · exact ⟨hl, .inr ⟨g, cap, cur, hv, hb, by rw [k.block g (Array.getElem?_eq_some_iff.1 hg).1 (hs g (by rw [hv]; rfl))]; exact hg, r⟩⟩
theorem Own.ownLt {B : Nat} {w : World} {v : Value} {xs : List Int} (h : Own B w v xs) {b : Nat} (e : v.ownBlock = some b) : B ≤ b ∧ b < w.heap.size := by
  obtain ⟨hl, h | ⟨g, cap, cur, hv, hb, hg, r⟩⟩ := h
  · rw [h.1] at e; cases e
  · rw [hv] at e
    have : g = b := by simpa [Value.ownBlock] using e
    subst this
    exact ⟨hb, (Array.getElem?_eq_some_iff.1 hg).1⟩
theorem keep_comp {S T : Nat → Prop} {w w1 w2 : World} (h : Keep S w w1) (k : Keep T w1 w2) (hT : ∀ b, b < w.heap.size → T b → S b) : Keep S w w2 :=
  ⟨k.os.trans h.os, k.tape.trans h.tape, k.output.trans h.output, Nat.le_trans h.size k.size, fun i hi hs => (k.block i (Nat.lt_of_lt_of_le hi h.size) (fun e => hs (hT i hi e))).trans (h.block i hi hs)⟩

set_option maxRecDepth 100000 in
/-- append of an integer: where there is room the slice stays where it is. -/
theorem wp_app_intP {o : Oper} {a : Act} {K : Act → World → Prop} {Q : Exit → Act → World → Prop} (B : Nat) (w : World) (a0 : Option Addr) (c : Nat) (xs : List Int) (y : Int) (s x : Operand)
    (ho : o.op = .call { callee := .builtin .append, args := #[s, x], argTypes := #[26, 26] })
    (hs : a.eval s = .slice a0 xs.length c) (hown : Own B w (.slice a0 xs.length c) xs) (hx : a.eval x = .slice (some ⟨w.heap.size, 0, none⟩) 1 1) (hn : xs.length ≤ 1099511627776) (hB2 : B ≤ w.heap.size)
    (h : ∀ a' c' w', Own B w' (.slice a' (xs.length + 1) c') (xs ++ [y]) → Keep (fun b => (Value.slice a0 xs.length c).ownBlock = some b) w w' → (xs.length + 1 ≤ c → a' = a0 ∧ c' = c) →
      (∀ b, (Value.slice a' (xs.length + 1) c').ownBlock = some b → (Value.slice a0 xs.length c).ownBlock = some b ∨ w.heap.size ≤ b) → K (a.put o.dst (.slice a' (xs.length + 1) c')) w') :
    o.wp Try.prog a (w.alloc (.cells #[.int .i64 y] 2)) K Q := by
  by_cases hr : xs.length + 1 ≤ c
  · rcases hown.open with ⟨e, h0⟩ | ⟨g, cs, e, hg, hblk, hm⟩
    · injection e with e1 e2 e3; omega
    · injection e with e1 e2 e3
      subst e1 e3
      obtain ⟨z, cs', rfl⟩ : ∃ z cs', cs = z :: cs' := by
        cases cs with
        | nil => simp at hr; omega
        | cons z p => exact ⟨z, p, rfl⟩
      obtain ⟨i0, hi, hz0, hz1, hz2⟩ := info_parts inf_int64
      have hblk1 := hblk.alloc (.cells #[.int .i64 y] 2)
      have hlt : xs.length < (xs.map (Value.int .i64) ++ z :: cs').length := by simp
      have hrun := run_append_room_cells (P := Try.prog) (w := w.alloc (.cells #[.int .i64 y] 2)) 26 o.type 2 i0 Try.underlying26 hi g 0 xs.length (xs.length + (z :: cs').length) ⟨w.heap.size, 0, none⟩ 1 1 [.int .i64 y] (by simp [hz1])
        (by
          intro j u hj
          match j, hj with
          | 0, hj => simp at hj; subst hj; simp [Addr.add])
        (by intro u hu; simp at hu; subst hu; rfl) hr
        (by intro j hj; simp at hj; subst hj; rw [hz1]; simp only [Nat.mul_one, Nat.add_zero, Nat.zero_add]; rw [hblk1.cell hlt]; rfl)
        (by intro j hj; exact hblk1.frozen _)
      rw [hz1] at hrun
      simp only [Nat.mul_one, World.setCells, Nat.zero_add] at hrun
      unfold Oper.wp execOp
      simp only [ho, resolve, invoke, builtin, Sem.run_bind, Sem.run_pure, Result.andThen_ok, List.map_toArray, List.map_cons, List.map_nil, hs, hx, hrun]
      have hb2 := hblk1.set xs.length (.int .i64 y)
      rw [List.set_append, if_neg (by simp), show xs.length - (xs.map (Value.int .i64)).length = 0 from by simp] at hb2
      simp only [List.set_cons_zero] at hb2
      refine h _ _ _ (Own.shut (g := g) (cs := cs') (by simpa using hb2) hg (by simp at hm ⊢; omega) (by simp) (by simp; omega)) ?_ (fun _ => ⟨rfl, rfl⟩) (fun b hb => .inl hb)
      exact (((Keep.refl (fun b => (Value.slice (some ⟨g, 0, none⟩) xs.length (xs.length + (z :: cs').length)).ownBlock = some b) w).alloc _)).setCell (p := ⟨g, xs.length, none⟩) (.inl rfl) _
  · refine wp_app_int B w _ xs y s x ho hs hown hx hn hB2 fun g c' w' h1 h2 h3 => h _ _ _ h1 h2 (fun e => absurd e hr) fun b hb => ?_
    have : g = b := by simpa [Value.ownBlock] using hb
    subst this
    exact h3
theorem wpList_app_intP {ops : Array Oper} {rest : List Oper} {o : Oper} {a : Act} {Q : Exit → Act → World → Prop} (B : Nat) (w : World) (a0 : Option Addr) (c : Nat) (xs : List Int) (y : Int) (s x : Operand) (hgd : o.guard = none)
    (ho : o.op = .call { callee := .builtin .append, args := #[s, x], argTypes := #[26, 26] })
    (hs : a.eval s = .slice a0 xs.length c) (hown : Own B w (.slice a0 xs.length c) xs) (hx : a.eval x = .slice (some ⟨w.heap.size, 0, none⟩) 1 1) (hn : xs.length ≤ 1099511627776) (hB2 : B ≤ w.heap.size)
    (h : ∀ a' c' w', Own B w' (.slice a' (xs.length + 1) c') (xs ++ [y]) → Keep (fun b => (Value.slice a0 xs.length c).ownBlock = some b) w w' → (xs.length + 1 ≤ c → a' = a0 ∧ c' = c) →
      (∀ b, (Value.slice a' (xs.length + 1) c').ownBlock = some b → (Value.slice a0 xs.length c).ownBlock = some b ∨ w.heap.size ≤ b) → wpList Try.prog ops Q rest (a.put o.dst (.slice a' (xs.length + 1) c')) w') :
    wpList Try.prog ops Q (o :: rest) a (w.alloc (.cells #[.int .i64 y] 2)) :=
  wpList_plain hgd fun _ hK => wp_app_intP B w a0 c xs y s x ho hs hown hx hn hB2 fun a' c' w' h1 h2 h3 h4 => hK _ _ (h a' c' w' h1 h2 h3 h4)

/-- The blocks of a partial map's state. -/
def MBl (mb ib ub : Nat) (v : Value) (b : Nat) : Prop := b = mb ∨ b = ib ∨ b = ub ∨ v.ownBlock = some b
/-- A partial map in memory. -/
structure MapAt (w : World) (mb ib ub n L : Nat) (vF vG : Value) (a : Option Addr) (c : Nat) (im : List Int) (us : List Bool) (st : List Int) : Prop where
  box : Blk w mb 77 [vF, vG, .slice (some ⟨ib, 0, none⟩) n n, .slice (some ⟨ub, 0, none⟩) n n, .slice a st.length c]
  imb : Blk w ib 2 (im.map (Value.int .i64))
  usb : Blk w ub 4 (us.map Value.bool)
  own : Own L w (.slice a st.length c) st
  ne : mb ≠ ib ∧ mb ≠ ub ∧ ib ≠ ub ∧ mb < L ∧ ib < L ∧ ub < L
namespace MapAt
variable {w w' : World} {mb ib ub n L : Nat} {vF vG : Value} {a : Option Addr} {c : Nat} {im : List Int} {us : List Bool} {st : List Int}
theorem keep {S : Nat → Prop} (h : MapAt w mb ib ub n L vF vG a c im us st) (k : Keep S w w') (hs : ∀ b, MBl mb ib ub (.slice a st.length c) b → ¬ S b) : MapAt w' mb ib ub n L vF vG a c im us st :=
  ⟨h.box.of_block (k.block _ h.box.lt (hs _ (.inl rfl))), h.imb.of_block (k.block _ h.imb.lt (hs _ (.inr (.inl rfl)))), h.usb.of_block (k.block _ h.usb.lt (hs _ (.inr (.inr (.inl rfl))))), h.own.keepB k fun b hb => hs b (.inr (.inr (.inr hb))), h.ne⟩
theorem under (h : MapAt w mb ib ub n L vF vG a c im us st) (k : Below w.heap.size w w') : MapAt w' mb ib ub n L vF vG a c im us st :=
  ⟨h.box.under k, h.imb.under k, h.usb.under k, h.own.under k, h.ne⟩
theorem drew (h : MapAt w mb ib ub n L vF vG a c im us st) : MapAt w.drew mb ib ub n L vF vG a c im us st := h.under (Below.refl _ _).drew
theorem lt (h : MapAt w mb ib ub n L vF vG a c im us st) {b : Nat} (hb : MBl mb ib ub (.slice a st.length c) b) : b < w.heap.size := by
  rcases hb with rfl | rfl | rfl | hb
  · exact h.box.lt
  · exact h.imb.lt
  · exact h.usb.lt
  · exact (h.own.ownLt hb).2
theorem cells (h : MapAt w mb ib ub n L vF vG a c im us st) : w.cell? ⟨mb, 0, none⟩ = some vF ∧ w.cell? ⟨mb, 1, none⟩ = some vG ∧ w.cell? ⟨mb, 2, none⟩ = some (.slice (some ⟨ib, 0, none⟩) n n) ∧ w.cell? ⟨mb, 3, none⟩ = some (.slice (some ⟨ub, 0, none⟩) n n) ∧ w.cell? ⟨mb, 4, none⟩ = some (.slice a st.length c) ∧ w.frozen? ⟨mb, 4, none⟩ = false :=
  ⟨h.box.cell (i := 0) (by simp), h.box.cell (i := 1) (by simp), h.box.cell (i := 2) (by simp), h.box.cell (i := 3) (by simp), h.box.cell (i := 4) (by simp), h.box.frozen _⟩
theorem imc (h : MapAt w mb ib ub n L vF vG a c im us st) (x : Int) (h0 : 0 ≤ x) (h1 : x < im.length) : w.cell? ⟨ib, x.toNat, none⟩ = some (.int .i64 (nth im x)) ∧ w.frozen? ⟨ib, x.toNat, none⟩ = false := by
  refine ⟨?_, h.imb.frozen _⟩
  rw [h.imb.cell (by simp; omega)]
  have := nth_nat im x.toNat (by omega)
  rw [show ((x.toNat : Nat) : Int) = x by omega] at this
  simp [this]
theorem usc (h : MapAt w mb ib ub n L vF vG a c im us st) (v : Int) (h0 : 0 ≤ v) (h1 : v < us.length) : w.cell? ⟨ub, v.toNat, none⟩ = some (.bool (nthB us v)) ∧ w.frozen? ⟨ub, v.toNat, none⟩ = false := by
  refine ⟨?_, h.usb.frozen _⟩
  have hl : v.toNat < us.length := by omega
  rw [h.usb.cell (by simpa using hl)]
  simp [nthB, hl]
/-- A number and a mark are written. -/
theorem write (h : MapAt w mb ib ub n L vF vG a c im us st) (x v : Int) (b : Bool) (u : Int) : MapAt ((w.setCell ⟨ib, x.toNat, none⟩ (.int .i64 u)).setCell ⟨ub, v.toNat, none⟩ (.bool b)) mb ib ub n L vF vG a c (im.set x.toNat u) (us.set v.toNat b) st := by
  obtain ⟨n1, n2, n3, n4, n5, n6⟩ := h.ne
  refine ⟨(h.box.other n1 _).other n2 _, ?_, ?_, ?_, h.ne⟩
  · have := (h.imb.set x.toNat (.int .i64 u)).other (a := ⟨ub, v.toNat, none⟩) n3 (.bool b)
    rwa [← List.map_set] at this
  · have := (h.usb.other (a := ⟨ib, x.toNat, none⟩) (fun e => n3 e.symm) (.int .i64 u)).set v.toNat (.bool b)
    rwa [← List.map_set] at this
  · refine h.own.keepB (S := fun b => b = ib ∨ b = ub) (((Keep.refl _ w).setCell (p := ⟨ib, x.toNat, none⟩) (.inl (.inl rfl)) _).setCell (p := ⟨ub, v.toNat, none⟩) (.inl (.inr rfl)) _) fun b hb e => ?_
    have := (h.own.ownLt hb).1
    rcases e with rfl | rfl <;> omega
/-- A mark and a number are written. -/
theorem write2 (h : MapAt w mb ib ub n L vF vG a c im us st) (x v : Int) (b : Bool) (u : Int) : MapAt ((w.setCell ⟨ub, v.toNat, none⟩ (.bool b)).setCell ⟨ib, x.toNat, none⟩ (.int .i64 u)) mb ib ub n L vF vG a c (im.set x.toNat u) (us.set v.toNat b) st := by
  obtain ⟨n1, n2, n3, n4, n5, n6⟩ := h.ne
  refine ⟨(h.box.other n2 _).other n1 _, ?_, ?_, ?_, h.ne⟩
  · have := (h.imb.other (a := ⟨ub, v.toNat, none⟩) n3 (.bool b)).set x.toNat (.int .i64 u)
    rwa [← List.map_set] at this
  · have := (h.usb.set v.toNat (.bool b)).other (a := ⟨ib, x.toNat, none⟩) (fun e => n3 e.symm) (.int .i64 u)
    rwa [← List.map_set] at this
  · refine h.own.keepB (S := fun b => b = ib ∨ b = ub) (((Keep.refl _ w).setCell (p := ⟨ub, v.toNat, none⟩) (.inl (.inr rfl)) _).setCell (p := ⟨ib, x.toNat, none⟩) (.inl (.inl rfl)) _) fun b hb e => ?_
    have := (h.own.ownLt hb).1
    rcases e with rfl | rfl <;> omega
/-- The box's slice is written, behind a change of its block alone. -/
theorem reslice {w2 : World} (h : MapAt w mb ib ub n L vF vG a c im us st) {a' : Option Addr} {c' : Nat} {st' : List Int} (k : Keep (fun b => (Value.slice a st.length c).ownBlock = some b) w w2) (ho : Own L w2 (.slice a' st'.length c') st') :
    MapAt (w2.setCell ⟨mb, 4, none⟩ (.slice a' st'.length c')) mb ib ub n L vF vG a' c' im us st' := by
  obtain ⟨n1, n2, n3, n4, n5, n6⟩ := h.ne
  have hno : ∀ b, b < L → ¬ (Value.slice a st.length c).ownBlock = some b := fun b hb e => by have := (h.own.ownLt e).1; omega
  refine ⟨?_, ?_, ?_, ?_, h.ne⟩
  · have := (h.box.of_block (k.block _ h.box.lt (hno _ n4))).set 4 (.slice a' st'.length c')
    simpa using this
  · exact (h.imb.of_block (k.block _ h.imb.lt (hno _ n5))).other (a := ⟨mb, 4, none⟩) (fun e => n1 e.symm) _
  · exact (h.usb.of_block (k.block _ h.usb.lt (hno _ n6))).other (a := ⟨mb, 4, none⟩) (fun e => n2 e.symm) _
  · exact ho.keepB (S := fun b => b = mb) ((Keep.refl (fun b => b = mb) w2).setCell (p := ⟨mb, 4, none⟩) (.inl rfl) _) fun b hb e => by
      have := (ho.ownLt hb).1
      have e : b = mb := e
      omega
end MapAt
end Go.Proofs.Ytgmhnjccgldddaa
