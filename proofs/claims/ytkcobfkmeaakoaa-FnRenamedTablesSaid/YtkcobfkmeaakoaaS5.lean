/-
  Two tables that grow side by side in a variable of the call's own: words for the reference's functions that build a pair map row by row. No statement is proved here.
-/
import Derived.Test.YtkcobfkmeaakoaaS2b
import Derived.Test.YtkcobfkmeaakoaaA1
namespace Go.Proofs.Ytkcobfkmeaakoaa
open Go.RowKit

theorem Own.keepN {B : Nat} {S : Nat → Prop} {w w' : World} {v : Value} {xs : List Int} (h : Own B w v xs) (k : Keep S w w') (hs : ∀ b, v.ownBlock = some b → ¬ S b) : Own B w' v xs := by
  obtain ⟨hl, h | ⟨g, cap, cur, hv, hb, hg, r⟩⟩ := h
  · exact ⟨hl, .inl h⟩
  · exact ⟨hl, .inr ⟨g, cap, cur, hv, hb, by rw [k.block g (Array.getElem?_eq_some_iff.1 hg).1 (hs g (by rw [hv]; rfl))]; exact hg, r⟩⟩

/-- Two tables in the variable at block q; all of them below m. -/
structure Out2 (lo m q : Nat) (w : World) (va vb : Value) (A B : List (List Int)) : Prop where
  ql : q < lo
  lm : lo ≤ m
  mw : m ≤ w.heap.size
  blk : Blk w q 27 [va, vb]
  a : OwnRowsIn lo m w va A
  b : OwnRowsIn lo m w vb B
  ne : ∀ k, va.ownBlock = some k → vb.ownBlock ≠ some k
/-- .. the first of them has grown. -/
structure Out2h (lo m q : Nat) (w : World) (va vb : Value) (A B : List (List Int)) : Prop where
  ql : q < lo
  lm : lo ≤ m
  mw : m ≤ w.heap.size
  blk : Blk w q 27 [va, vb]
  a : OwnRows lo w va A
  b : OwnRowsIn lo m w vb B
  ne : ∀ k, va.ownBlock = some k → vb.ownBlock ≠ some k

theorem OwnRowsIn.ltv {lo m : Nat} {w : World} {v : Value} {A : List (List Int)} (h : OwnRowsIn lo m w v A) {k : Nat} (hk : v.ownBlock = some k) : lo ≤ k ∧ k < m ∧ k < w.heap.size := by
  obtain ⟨us, h1, h2, h3, h4⟩ := h
  have := World.ownsRow.lt h1 k hk
  exact ⟨this.1, h3 k hk, this.2⟩

theorem Out2.under {lo m q : Nat} {w w' : World} {va vb : Value} {A B : List (List Int)} (h : Out2 lo m q w va vb A B) (hb : Below w.heap.size w w') : Out2 lo m q w' va vb A B :=
  ⟨h.ql, h.lm, Nat.le_trans h.mw hb.size, h.blk.under hb, h.a.under hb, h.b.under hb, h.ne⟩
theorem Out2.start {lo q : Nat} {w : World} (hq : q < lo) (hl : lo ≤ w.heap.size) (hb : Blk w q 27 [.slice none 0 0, .slice none 0 0]) : Out2 lo w.heap.size q w (.slice none 0 0) (.slice none 0 0) [] [] :=
  ⟨hq, hl, Nat.le_refl _, hb, OwnRowsIn.nil0 _ _ _, OwnRowsIn.nil0 _ _ _, by intro k hk; cases hk⟩

/-- 'out.First = append(out.First, first)'. -/
theorem Out2.app1 {lo m q : Nat} {w w' : World} {va vb : Value} {A B : List (List Int)} {xs : List Int} {g l c : Nat} (h : Out2 lo m q w va vb A B) (ho : OwnRows lo w' (.slice (some ⟨g, 0, none⟩) l c) (A ++ [xs]))
    (hk : Keep (fun b => va.ownBlock = some b) w w') (hg : va.ownBlock = some g ∨ w.heap.size ≤ g) :
    Out2h lo m q (w'.setCell ⟨q, 0, none⟩ (.slice (some ⟨g, 0, none⟩) l c)) (.slice (some ⟨g, 0, none⟩) l c) vb (A ++ [xs]) B := by
  have hq := h.ql; have hl := h.lm; have hm := h.mw
  have hsz := hk.size
  have hva : ∀ b, va.ownBlock = some b → lo ≤ b ∧ b < m := fun b e => ⟨(h.a.ltv e).1, (h.a.ltv e).2.1⟩
  have hvb : ∀ b, vb.ownBlock = some b → lo ≤ b ∧ b < m := fun b e => ⟨(h.b.ltv e).1, (h.b.ltv e).2.1⟩
  have hblk := h.blk.of_block (hk.block _ h.blk.lt (fun e => by have := hva _ e; omega))
  refine ⟨hq, hl, by simp [World.setCell]; omega, hblk.set 0 _, ?_, ?_, ?_⟩
  · exact ho.keep (keep1 w' q 0 _) (fun b h1 _ h3 => by have h3 : b = q := h3; omega)
  · have h1 := h.b.keepT (h.a.out) (fun b e1 e2 => h.ne b e2 e1) hk
    exact h1.keep (keep1 w' q 0 _) (fun b h1 _ h3 => by have h3 : b = q := h3; omega)
  · intro k e e2
    simp [Value.ownBlock] at e
    subst e
    rcases hg with hg | hg
    · exact h.ne _ hg e2
    · have := hvb _ e2; omega
/-- 'out.Second = append(out.Second, second)'. -/
theorem Out2h.app2 {lo m q : Nat} {w w' : World} {va vb : Value} {A B : List (List Int)} {xs : List Int} {g l c : Nat} (h : Out2h lo m q w va vb A B) (ho : OwnRows lo w' (.slice (some ⟨g, 0, none⟩) l c) (B ++ [xs]))
    (hk : Keep (fun b => vb.ownBlock = some b) w w') (hg : vb.ownBlock = some g ∨ w.heap.size ≤ g) :
    Out2 lo (w'.setCell ⟨q, 1, none⟩ (.slice (some ⟨g, 0, none⟩) l c)).heap.size q (w'.setCell ⟨q, 1, none⟩ (.slice (some ⟨g, 0, none⟩) l c)) va (.slice (some ⟨g, 0, none⟩) l c) A (B ++ [xs]) := by
  have hq := h.ql; have hl := h.lm; have hm := h.mw
  have hsz := hk.size
  have hva : ∀ b, va.ownBlock = some b → lo ≤ b ∧ b < w.heap.size := fun b e => OwnRows.lt h.a e
  have hvb : ∀ b, vb.ownBlock = some b → lo ≤ b ∧ b < m := fun b e => ⟨(h.b.ltv e).1, (h.b.ltv e).2.1⟩
  have hblk := h.blk.of_block (hk.block _ h.blk.lt (fun e => by have := hvb _ e; omega))
  refine ⟨hq, by simp [World.setCell]; omega, Nat.le_refl _, hblk.set 1 _, ?_, ?_, ?_⟩
  · have h1 := h.a.keepT (h.b.out) (fun b e1 e2 => h.ne b e1 e2) hk
    exact (h1.keep (keep1 w' q 1 _) (fun b h1 _ h3 => by have h3 : b = q := h3; omega)).inn
  · exact (ho.keep (keep1 w' q 1 _) (fun b h1 _ h3 => by have h3 : b = q := h3; omega)).inn
  · intro k e e2
    simp [Value.ownBlock] at e2
    subst e2
    rcases hg with hg | hg
    · exact h.ne _ e hg
    · have := hva _ e; omega
theorem Out2.blkq {lo m q : Nat} {w w' : World} {va vb : Value} {A B : List (List Int)} (h : Out2 lo m q w va vb A B) (hk : Keep (fun b => va.ownBlock = some b) w w') : Blk w' q 27 [va, vb] := by
  have hq := h.ql
  exact h.blk.of_block (hk.block _ h.blk.lt (fun e => by have := (h.a.ltv e).1; omega))
theorem Out2h.blkq {lo m q : Nat} {w w' : World} {va vb : Value} {A B : List (List Int)} (h : Out2h lo m q w va vb A B) (hk : Keep (fun b => vb.ownBlock = some b) w w') : Blk w' q 27 [va, vb] := by
  have hq := h.ql
  exact h.blk.of_block (hk.block _ h.blk.lt (fun e => by have := (h.b.ltv e).1; omega))
/-- A row that the call has made since stays as it was. -/
theorem Out2.row1 {lo m q : Nat} {w w' : World} {va vb u : Value} {A B : List (List Int)} {ys : List Int} (h : Out2 lo m q w va vb A B) (hu : Own m w u ys) (hk : Keep (fun b => va.ownBlock = some b) w w') (x : Value) : Own m (w'.setCell ⟨q, 0, none⟩ x) u ys := by
  have hq := h.ql; have hl := h.lm
  have h1 := hu.keep hk (fun b h1 _ h3 => by have := (h.a.ltv h3).2.1; omega)
  exact h1.keep (keep1 w' q 0 _) (fun b h1 _ h3 => by have h3 : b = q := h3; omega)
theorem Out2.frame1 {lo m q B0 : Nat} {w0 w w' : World} {va vb : Value} {A B : List (List Int)} (h : Out2 lo m q w va vb A B) (hb : Below B0 w0 w) (h0 : B0 ≤ q) (hk : Keep (fun b => va.ownBlock = some b) w w') (x : Value) : Below B0 w0 (w'.setCell ⟨q, 0, none⟩ x) := by
  have hq := h.ql; have hl := h.lm; have hm := h.mw
  exact (OwnRows.frame h.a.out hb (by omega) (by omega) hk).setCell (p := ⟨q, 0, none⟩) h0 x
theorem Out2h.frame2 {lo m q B0 : Nat} {w0 w w' : World} {va vb : Value} {A B : List (List Int)} (h : Out2h lo m q w va vb A B) (hb : Below B0 w0 w) (h0 : B0 ≤ q) (hk : Keep (fun b => vb.ownBlock = some b) w w') (x : Value) : Below B0 w0 (w'.setCell ⟨q, 1, none⟩ x) := by
  have hq := h.ql; have hl := h.lm; have hm := h.mw
  exact (OwnRows.frame h.b.out hb (by omega) (by omega) hk).setCell (p := ⟨q, 1, none⟩) h0 x
/-- A block outside of both tables stays as it was. -/
theorem Out2.blk1 {lo m q p : Nat} {w w' : World} {va vb : Value} {A B : List (List Int)} {t : TypeId} {cs : List Value} (h : Out2 lo m q w va vb A B) (hp : p < q) (hB : Blk w p t cs) (hk : Keep (fun b => va.ownBlock = some b) w w') (x : Value) : Blk (w'.setCell ⟨q, 0, none⟩ x) p t cs := by
  have hq := h.ql
  exact (hB.of_block (hk.block _ hB.lt (fun e => by have := (h.a.ltv e).1; omega))).other (a := ⟨q, 0, none⟩) (by show p ≠ q; omega) x
theorem Out2h.blk2 {lo m q p : Nat} {w w' : World} {va vb : Value} {A B : List (List Int)} {t : TypeId} {cs : List Value} (h : Out2h lo m q w va vb A B) (hp : p < q) (hB : Blk w p t cs) (hk : Keep (fun b => vb.ownBlock = some b) w w') (x : Value) : Blk (w'.setCell ⟨q, 1, none⟩ x) p t cs := by
  have hq := h.ql
  exact (hB.of_block (hk.block _ hB.lt (fun e => by have := (h.b.ltv e).1; omega))).other (a := ⟨q, 1, none⟩) (by show p ≠ q; omega) x

theorem wpList_app_int2 {ops : Array Oper} {rest : List Oper} {o : Oper} {a : Act} {Q : Exit → Act → World → Prop} (B : Nat) (w : World) (v : Value) (xs : List Int) (y : Int) (s x : Operand) (sz : Nat) (hsz : sz = w.heap.size) (hgd : o.guard = none)
    (ho : o.op = .call { callee := .builtin .append, args := #[s, x], argTypes := #[25, 25] })
    (hs : a.eval s = v) (hown : Own B w v xs) (hx : a.eval x = .slice (some ⟨sz, 0, none⟩) 1 1) (hn : xs.length ≤ 1099511627776) (hB2 : B ≤ w.heap.size)
    (h : ∀ g c' w', Own B w' (.slice (some ⟨g, 0, none⟩) (xs.length + 1) c') (xs ++ [y]) → Keep (fun b => v.ownBlock = some b) w w' → (v.ownBlock = some g ∨ w.heap.size ≤ g) → wpList Try.prog ops Q rest (a.put o.dst (.slice (some ⟨g, 0, none⟩) (xs.length + 1) c')) w') :
    wpList Try.prog ops Q (o :: rest) a (w.alloc (.cells #[.int .i64 y] 2)) := by
  subst hsz
  exact wpList_plain hgd fun _ hK => wp_app_int B w v xs y s x ho hs hown hx hn hB2 fun g c' w' h2 h3 h4 => hK _ _ (h g c' w' h2 h3 h4)
theorem wpList_app_row2s {ops : Array Oper} {rest : List Oper} {o : Oper} {a : Act} {Q : Exit → Act → World → Prop} (B m : Nat) (w : World) (v : Value) (xss : List (List Int)) (u : Value) (xs : List Int) (s x : Operand) (sz : Nat) (hsz : sz = w.heap.size) (hgd : o.guard = none)
    (ho : o.op = .call { callee := .builtin .append, args := #[s, x], argTypes := #[22, 22] })
    (hs : a.eval s = v) (hown : OwnRowsIn B m w v xss) (hu : Own m w u xs) (hx : a.eval x = .slice (some ⟨sz, 0, none⟩) 1 1) (hn : xss.length ≤ 1099511627776) (hB : B ≤ m) (hB2 : B ≤ w.heap.size)
    (h : ∀ g c' w', OwnRows B w' (.slice (some ⟨g, 0, none⟩) (xss.length + 1) c') (xss ++ [xs]) → Keep (fun b => v.ownBlock = some b) w w' → (v.ownBlock = some g ∨ w.heap.size ≤ g) → wpList Try.prog ops Q rest (a.put o.dst (.slice (some ⟨g, 0, none⟩) (xss.length + 1) c')) w') :
    wpList Try.prog ops Q (o :: rest) a (w.alloc (.cells #[u] 25)) := by
  subst hsz
  exact wpList_app_row2 B m w v xss u xs s x hgd ho hs hown hu hx hn hB hB2 h

/-- A pair of tables of the call's own (not apart from each other), beside a code. -/
def RSolRO (w0 : World) (A B : List (List Int)) (c : Int) (e : Ending) (w' : World) : Prop :=
  ∃ r1 r2, e = .returned (.tuple #[.agg #[r1, r2], .int .i64 c]) ∧ (OwnRows w0.heap.size w' r1 A ∧ OwnRows w0.heap.size w' r2 B) ∧ Below w0.heap.size w0 w'
theorem storedO {w w2 : World} {r1 r2 : Value} {A B : List (List Int)} {lo q : Nat} (hB : Below w.heap.size w w2) (hs : OwnRows lo w2 r1 A ∧ OwnRows lo w2 r2 B) (hq : w.heap.size ≤ q) (hlo : q < lo) :
    (OwnRows w.heap.size ((w2.setCell ⟨q, 0, none⟩ r1).setCell ⟨q, 1, none⟩ r2) r1 A ∧ OwnRows w.heap.size ((w2.setCell ⟨q, 0, none⟩ r1).setCell ⟨q, 1, none⟩ r2) r2 B) ∧ Below w.heap.size w ((w2.setCell ⟨q, 0, none⟩ r1).setCell ⟨q, 1, none⟩ r2) := by
  have k : Keep (fun b => b = q) w2 ((w2.setCell ⟨q, 0, none⟩ r1).setCell ⟨q, 1, none⟩ r2) := ((Keep.refl (fun b => b = q) w2).setCell (p := ⟨q, 0, none⟩) (.inl rfl) _).setCell (p := ⟨q, 1, none⟩) (.inl rfl) _
  exact ⟨⟨(hs.1.keep k (fun b h1 _ h3 => by omega)).mono (by omega), (hs.2.keep k (fun b h1 _ h3 => by omega)).mono (by omega)⟩, (hB.setCell (p := ⟨q, 0, none⟩) hq _).setCell (p := ⟨q, 1, none⟩) hq _⟩
/-- The box of a result, laid ahead of the call and filled behind it. -/
theorem box_early {w3 : World} {q : Nat} {u v a b : Value} {t : TypeId} (h : Blk w3 q t [u, v]) : Blk ((w3.setCell ⟨q, 0, none⟩ a).setCell ⟨q, 1, none⟩ b) q t [a, b] := (h.set 0 a).set 1 b
theorem keep_early (w3 : World) (q : Nat) (a b : Value) : Keep (fun k => k = q) w3 ((w3.setCell ⟨q, 0, none⟩ a).setCell ⟨q, 1, none⟩ b) :=
  ((Keep.refl (fun k => k = q) w3).setCell (p := ⟨q, 0, none⟩) (.inl rfl) _).setCell (p := ⟨q, 1, none⟩) (.inl rfl) _
theorem keep_late (w3 : World) (o : Obj) : Keep (fun k => k = w3.heap.size) w3 (w3.alloc o) := (Keep.refl _ w3).alloc o

/-- Two lists of the call's own that grow side by side. -/
structure Two (B : Nat) (w : World) (u v : Value) (xs ys : List Int) : Prop where
  a : Own B w u xs
  b : Own B w v ys
  ne : ∀ k, u.ownBlock = some k → v.ownBlock ≠ some k
theorem Two.app1 {B g l c : Nat} {w w' : World} {u v : Value} {xs ys : List Int} {x : Int} (h : Two B w u v xs ys) (ho : Own B w' (.slice (some ⟨g, 0, none⟩) l c) (xs ++ [x])) (hk : Keep (fun b => u.ownBlock = some b) w w') (hg : u.ownBlock = some g ∨ w.heap.size ≤ g) :
    Two B w' (.slice (some ⟨g, 0, none⟩) l c) v (xs ++ [x]) ys := by
  refine ⟨ho, h.b.keepN hk (fun b e1 e2 => h.ne b e2 e1), ?_⟩
  intro k e e2
  simp [Value.ownBlock] at e
  subst e
  rcases hg with hg | hg
  · exact h.ne _ hg e2
  · have := (h.b.lt e2).2; omega
theorem Two.app2 {B g l c : Nat} {w w' : World} {u v : Value} {xs ys : List Int} {x : Int} (h : Two B w u v xs ys) (ho : Own B w' (.slice (some ⟨g, 0, none⟩) l c) (ys ++ [x])) (hk : Keep (fun b => v.ownBlock = some b) w w') (hg : v.ownBlock = some g ∨ w.heap.size ≤ g) :
    Two B w' u (.slice (some ⟨g, 0, none⟩) l c) xs (ys ++ [x]) := by
  refine ⟨h.a.keepN hk (fun b e1 e2 => h.ne b e1 e2), ho, ?_⟩
  intro k e e2
  simp [Value.ownBlock] at e2
  subst e2
  rcases hg with hg | hg
  · exact h.ne _ e hg
  · have := (h.a.lt e).2; omega
theorem Two.made0 (w : World) : Two w.heap.size ((w.alloc (.cells #[] 2)).alloc (.cells #[] 2)) (.slice (some ⟨w.heap.size, 0, none⟩) 0 0) (.slice (some ⟨w.heap.size + 1, 0, none⟩) 0 0) [] [] := by
  refine ⟨(Own.made0 w (Nat.le_refl _)).under ((Below.refl _ _).alloc (Nat.le_refl _) _), ?_, ?_⟩
  · have := Own.made0 (B := w.heap.size) (w.alloc (.cells #[] 2)) (by simp)
    simpa using this
  · intro k e e2
    simp [Value.ownBlock] at e e2
    omega
theorem Two.under {B : Nat} {w w' : World} {u v : Value} {xs ys : List Int} (h : Two B w u v xs ys) (hb : Below w.heap.size w w') : Two B w' u v xs ys := ⟨h.a.under hb, h.b.under hb, h.ne⟩
end Go.Proofs.Ytkcobfkmeaakoaa
