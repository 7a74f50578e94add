/-
  A range over a function whose iterator writes cells of its own between two rounds, and behind the last one too: the law for the caller.
-/
import Derived.Test.YtgmhnjccgldddaaR1
namespace Go.Proofs.Ytgmhnjccgldddaa
set_option linter.unusedVariables false
set_option linter.unusedSimpArgs false
open Go Go.RowKit

variable {F : Fence} {n : Nat} {P : Program}

/-- The iterator's contract: it hands the rows of T, one after the other, in a slice that lies in blocks [size at its start, hi); between two rounds it writes these blocks alone. J hi k: what the caller keeps when k rows have come. -/
def SeqRowsK (F : Fence) (n : Nat) (P : Program) (g : Nat) (lb : Array Value) (T : List (List Int)) (Z : World → Prop) (w : World) : Prop :=
  ∀ (l : Nat) (J Jx : Nat → Nat → World → Prop) (W1 : World), Below w.heap.size w W1 →
    (∀ hi k W, J hi k W → Z W) →
    (∀ hi k W W', J hi k W → Keep (fun b => W1.heap.size ≤ b ∧ b < hi) W W' → J hi k W') →
    (∀ hi k W W', Jx hi k W → Keep (fun b => W1.heap.size ≤ b ∧ b < hi) W W' → Jx hi k W') →
    (∀ W', Below W1.heap.size W1 W' → J W'.heap.size 0 W') →
    (∀ hi k u W, J hi k W → W1.heap.size ≤ hi → hi ≤ W.heap.size → k < T.length → Ints W u (row T k) → YieldAt F (n - 1) P l #[u] W fun e W' =>
      (e = .returned (.bool true) ∧ J hi (k + 1) W' ∧ Keep (fun b => b < W1.heap.size ∨ hi ≤ b) W W') ∨ (e = .returned (.bool false) ∧ Jx hi (k + 1) W' ∧ Keep (fun b => b < W1.heap.size ∨ hi ≤ b) W W')) →
    CallsIn F n P g (#[.func (.yield l) #[] #[]] ++ lb) W1 fun e W' => (∃ v, e = .returned v) ∧ ((∃ hi, J hi T.length W') ∨ (∃ hi k, Jx hi k W'))

theorem wpIn_rangeFunc_rowsK {g : Operand} {ps : Array Tmp} {assign body : Code} {Q : Exit → Act → World → Prop} {a : Act} {w : World}
    (hro : F.round = none) (h1 : 1 ≤ n) {gf : Nat} {lb : Array Value} (hg : a.eval g = .func (.func gf) #[] lb) (hFg : F.fn gf) (eg : ∀ args w, (callFunc gf args).run P w = .ok (.enter gf args) w)
    (S0 : Nat → Prop) (hS0 : ∀ b, S0 b → b < w.heap.size) {T : List (List Int)} {Z : World → Prop} (hseq : SeqRowsK F (n - 1) P gf lb T Z w) (hps : ps.size = 1)
    (I : Nat → Nat → World → Prop) (Ix : Code → Nat → Nat → World → Prop)
    (hZ : ∀ hi k W, I hi k W → Z W)
    (hI : ∀ hi k W W', I hi k W → Keep (fun b => w.heap.size ≤ b ∧ b < hi) W W' → I hi k W')
    (hIx : ∀ c hi k W W', Ix c hi k W → Keep (fun b => w.heap.size ≤ b ∧ b < hi) W W' → Ix c hi k W')
    (h0 : ∀ W', Below w.heap.size w W' → I W'.heap.size 0 W') (a₁ : Value → Act)
    (hassign : ∀ (l : Nat) (u : Value) (W : World) (K : Act → World → Prop), K (a₁ u) W →
      assign.wpIn (F.inRound l) (n - 1 - 1) P (Exit.then K (fun _ _ _ => False)) { tmps := (ps.zip #[u]).foldl (fun t (p, v) => t.setIfInBounds p v) a.tmps, defers := [] } W)
    (hbody : ∀ (l hi k : Nat) (u : Value) (W : World), I hi k W → w.heap.size ≤ hi → hi ≤ W.heap.size → k < T.length → Ints W u (row T k) → body.wpIn (F.inRound l) (n - 1 - 1) P (rowsPost S0 I Ix hi (k + 1) W) (a₁ u) W)
    (hdone : ∀ (D hi : Nat) (W : World), w.heap.size ≤ D → D < hi → I hi T.length W → W.heap[D]? = some (.deferred (some [])) → Q .normal { a with defers := { target := .collected D, args := #[] } :: a.defers } W)
    (hstop : ∀ (D hi k : Nat) (c : Code) (W : World), w.heap.size ≤ D → D < hi → Ix c hi k W → W.heap[D]? = some (.deferred (some [])) → c.wpIn F n P Q { a with defers := { target := .collected D, args := #[] } :: a.defers } W) :
    (Code.rangeFunc g ps assign body).wpIn F n P Q a w := by
  refine wpIn_rangeFunc ?_
  intro fn hfn
  rw [hro]
  obtain ⟨rec, hrec⟩ : ∃ rec : LoopState → Option Code → Loop, rec = fun st pe => { state := st, pending := pe, fn, tmps := a.tmps, params := ps, assign, body, defers := w.heap.size } := ⟨_, rfl⟩
  obtain ⟨W1, hW1⟩ : ∃ W1, (w.alloc (.deferred (some []))).alloc (.loop (rec .ready none)) = W1 := ⟨_, rfl⟩
  have hL1 : W1.heap[w.heap.size + 1]? = some (.loop (rec .ready none)) := by
    rw [← hW1]; have := World.alloc_heap_new (w.alloc (.deferred (some []))) (.loop (rec .ready none)); rwa [World.size_alloc] at this
  have hK1 : W1.heap[w.heap.size]? = some (.deferred (some [])) := by
    rw [← hW1]; exact (Below.heap_alloc _ _ _ (by simp)).trans (World.alloc_heap_new w _)
  have hsz : W1.heap.size = w.heap.size + 2 := by rw [← hW1]; simp
  have hb1 : Below w.heap.size w W1 := by
    rw [← hW1]; exact ((Below.refl _ w).alloc (Nat.le_refl _) _).alloc (by simp) _
  refine ⟨w.heap.size + 1, [{ target := .collected w.heap.size, args := #[] }], W1, { target := .fn (.func gf) lb, args := #[.func (.yield (w.heap.size + 1)) #[] #[]] }, W1, gf,
    #[.func (.yield (w.heap.size + 1)) #[] #[]] ++ lb, W1, ?_, ?_, ?_, ?_, fun _ => h1, ?_⟩
  · rw [← hW1, hrec]; exact run_enterLoop_outer _ _ _ _ _
  · simp only [resolve, hg]
    simp [go_sem]
  · intro f' hf'; simp [Target.leads] at hf'; subst hf'; exact hFg
  · simp [invoke, go_sem, eg]
  · have stepI : ∀ {hi k : Nat} {W : World} (o : Obj), w.heap.size + 2 ≤ hi → I hi k W → I hi k (W.putObj (w.heap.size + 1) o) := fun o hh h =>
      hI _ _ _ _ h ((keep_putObj _ _ _).mono fun b _ e => by subst e; omega)
    have stepIx : ∀ {c : Code} {hi k : Nat} {W : World} (o : Obj), w.heap.size + 2 ≤ hi → Ix c hi k W → Ix c hi k (W.putObj (w.heap.size + 1) o) := fun o hh h =>
      hIx _ _ _ _ _ h ((keep_putObj _ _ _).mono fun b _ e => by subst e; omega)
    have keptAt : ∀ {hi b : Nat} {W W' : World}, b < W1.heap.size → W1.heap.size ≤ W.heap.size → Keep (fun b => W1.heap.size ≤ b ∧ b < hi) W W' → W'.heap[b]? = W.heap[b]? := fun hb hW hk =>
      hk.block _ (by omega) (by omega)
    refine (hseq (w.heap.size + 1)
      (fun hi k W => I hi k W ∧ W.heap[w.heap.size + 1]? = some (.loop (rec .ready none)) ∧ W.heap[w.heap.size]? = some (.deferred (some [])) ∧ w.heap.size + 2 ≤ hi ∧ W1.heap.size ≤ W.heap.size)
      (fun hi k W => ∃ c, Ix c hi k W ∧ W.heap[w.heap.size + 1]? = some (.loop (rec .done (some c))) ∧ W.heap[w.heap.size]? = some (.deferred (some [])) ∧ w.heap.size + 2 ≤ hi ∧ W1.heap.size ≤ W.heap.size)
      W1 hb1 (fun hi k W h => hZ hi k W h.1) ?_ ?_ ?_ ?_).mono ?_
    · rintro hi k W W' ⟨h, hl, hk, hh, hs⟩ hkeep
      exact ⟨hI _ _ _ _ h (hkeep.mono fun b _ hb => ⟨by omega, hb.2⟩), (keptAt (by omega) hs hkeep).trans hl, (keptAt (by omega) hs hkeep).trans hk, hh, Nat.le_trans hs hkeep.size⟩
    · rintro hi k W W' ⟨c, h, hl, hk, hh, hs⟩ hkeep
      exact ⟨c, hIx _ _ _ _ _ h (hkeep.mono fun b _ hb => ⟨by omega, hb.2⟩), (keptAt (by omega) hs hkeep).trans hl, (keptAt (by omega) hs hkeep).trans hk, hh, Nat.le_trans hs hkeep.size⟩
    · intro W' hb
      exact ⟨h0 W' (bb hb1 hb), (hb.block _ (by omega)).trans hL1, (hb.block _ (by omega)).trans hK1, by have := hb.size; omega, hb.size⟩
    · -- ONE ROUND
      rintro hi k u W ⟨hi0, hl, hk, hh, hs⟩ hlo hhi hlen hu
      have hlt : w.heap.size + 1 < W.heap.size := (Array.getElem?_eq_some_iff.1 hl).1
      have hy := run_yield (P := P) (args := #[u]) hl (by rw [hrec]; simpa using hps.symm)
      rw [hrec] at hy
      refine ⟨fn, _, assign, body, hy, roundIn_of_wpIn hfn (hassign _ u W _ ⟨_, run_beginRound hl (by rw [hrec]), ?_⟩)⟩
      obtain ⟨W2, hW2⟩ : ∃ W2, W.putObj (w.heap.size + 1) (.loop { rec .ready none with state := .busy }) = W2 := ⟨_, rfl⟩
      have hl2 : W2.heap[w.heap.size + 1]? = some (.loop { rec .ready none with state := .busy }) := by rw [← hW2]; exact World.putObj_heap_same hlt
      have hk2 : W2.heap[w.heap.size]? = some (.deferred (some [])) := by rw [← hW2]; exact (World.putObj_heap_other (by omega)).trans hk
      have kp2 : Keep (fun b => b = w.heap.size + 1) W W2 := by rw [← hW2]; exact keep_putObj _ _ _
      have hi2 : I hi k W2 := by rw [← hW2]; exact stepI _ hh hi0
      have hu2 : Ints W2 u (row T k) := by
        obtain ⟨ua, uc, hv, huc, hum, hcell⟩ := hu
        refine ⟨ua, uc, hv, huc, hum, fun i hi' => ?_⟩
        obtain ⟨b, o, e, hc⟩ := hcell i hi'
        refine ⟨b, o, e, ?_⟩
        have hb : b ≠ w.heap.size + 1 := by
          rintro rfl
          simp [World.cell?, hl] at hc
        have hblt : b < W.heap.size := by
          rcases Nat.lt_or_ge b W.heap.size with h | h
          · exact h
          · simp [World.cell?, Array.getElem?_eq_none h] at hc
        simp only [World.cell?] at hc ⊢
        rw [kp2.block b hblt hb]
        exact hc
      rw [hW2]
      refine wpIn_mono (hbody _ hi k u W2 hi2 (by omega) (Nat.le_trans hhi kp2.size) hlen hu2) ?_
      have fin : ∀ (jump : Option Code) (W3 : World), Keep (fun b => S0 b ∨ hi ≤ b) W2 W3 →
          (Instr.endRound (w.heap.size + 1) jump).run P W3 = .ok (.bool jump.isNone) (W3.putObj (w.heap.size + 1) (.loop (rec (if jump.isNone then .ready else .done) jump))) ∧
          (W3.putObj (w.heap.size + 1) (.loop (rec (if jump.isNone then .ready else .done) jump))).heap[w.heap.size + 1]? = some (.loop (rec (if jump.isNone then .ready else .done) jump)) ∧
          (W3.putObj (w.heap.size + 1) (.loop (rec (if jump.isNone then .ready else .done) jump))).heap[w.heap.size]? = some (.deferred (some [])) ∧ W1.heap.size ≤ (W3.putObj (w.heap.size + 1) (.loop (rec (if jump.isNone then .ready else .done) jump))).heap.size ∧
          Keep (fun b => b < W1.heap.size ∨ hi ≤ b) W (W3.putObj (w.heap.size + 1) (.loop (rec (if jump.isNone then .ready else .done) jump))) := fun jump W3 hk3 => by
        have hno : ∀ b, w.heap.size ≤ b → b < w.heap.size + 2 → ¬ (S0 b ∨ hi ≤ b) := fun b h1 h2 h => by
          rcases h with h | h
          · have := hS0 b h; omega
          · omega
        have hsz2 : W2.heap.size = W.heap.size := by rw [← hW2]; simp [World.putObj]
        have hl3 := (hk3.block (w.heap.size + 1) (by omega) (hno _ (by omega) (by omega))).trans hl2
        have hd3 := (hk3.block (w.heap.size) (by omega) (hno _ (by omega) (by omega))).trans hk2
        have := run_endRound (P := P) jump hl3
        rw [hrec] at this ⊢
        refine ⟨this, World.putObj_heap_same (Array.getElem?_eq_some_iff.1 hl3).1, (World.putObj_heap_other (by omega)).trans hd3, Nat.le_trans hs (Nat.le_trans kp2.size (Nat.le_trans hk3.size (keep_putObj _ _ _).size)), ?_⟩
        refine ((kp2.mono (fun b _ e => ?_)).trans (hk3.mono (fun b _ e => ?_))).trans ((keep_putObj _ _ _).mono (fun b _ e => ?_))
        · exact .inl (by subst e; omega)
        · rcases e with e | e
          · exact .inl (by have := hS0 b e; omega)
          · exact .inr e
        · exact .inl (by subst e; omega)
      rintro e a3 W3 hp
      cases e with
      | normal =>
        obtain ⟨hk3, hi3⟩ := hp
        obtain ⟨hr, hl4, hk4, hs4, hkk⟩ := fin none W3 hk3
        exact ⟨_, _, hr, .inl ⟨rfl, ⟨stepI _ hh hi3, hl4, hk4, hh, hs4⟩, hkk⟩⟩
      | ret =>
        obtain ⟨hk3, hi3⟩ := hp
        obtain ⟨hr, hl4, hk4, hs4, hkk⟩ := fin (some .ret) W3 hk3
        exact ⟨_, _, hr, .inr ⟨rfl, ⟨.ret, stepIx _ hh hi3, hl4, hk4, hh, hs4⟩, hkk⟩⟩
      | exit id =>
        obtain ⟨hk3, hi3⟩ := hp
        obtain ⟨hr, hl4, hk4, hs4, hkk⟩ := fin (some (.exit id)) W3 hk3
        exact ⟨_, _, hr, .inr ⟨rfl, ⟨.exit id, stepIx _ hh hi3, hl4, hk4, hh, hs4⟩, hkk⟩⟩
      | goto t =>
        obtain ⟨hk3, hi3⟩ := hp
        obtain ⟨hr, hl4, hk4, hs4, hkk⟩ := fin (some (.goto t)) W3 hk3
        exact ⟨_, _, hr, .inr ⟨rfl, ⟨.goto t, stepIx _ hh hi3, hl4, hk4, hh, hs4⟩, hkk⟩⟩
      | panic ch => exact hp.elim
      | outgrown => exact hp.elim
    · -- BEHIND THE ITERATOR
      rintro e W2 ⟨⟨v, rfl⟩, (⟨hi, h, hl, hk, hh, hs⟩ | ⟨hi, k, c, h, hl, hk, hh, hs⟩)⟩
      · exact ⟨none, _, by have := run_endLoop (P := P) hl (by rw [hrec]; simp); rw [hrec] at this; exact this, hdone _ hi _ (Nat.le_refl _) (by omega) (stepI _ hh h) ((World.putObj_heap_other (by omega)).trans hk)⟩
      · exact ⟨some c, _, by have := run_endLoop (P := P) hl (by rw [hrec]; simp); rw [hrec] at this; exact this, hstop _ hi k c _ (Nat.le_refl _) (by omega) (stepIx _ hh h) ((World.putObj_heap_other (by omega)).trans hk)⟩
end Go.Proofs.Ytgmhnjccgldddaa
