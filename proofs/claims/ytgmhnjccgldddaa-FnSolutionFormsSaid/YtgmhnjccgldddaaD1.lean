/-
  The reference's source of numbers for its draws (layer 1): a struct with a text, a place in it and a number that turns. Nothing is asked of the numbers but their range.
-/
import Derived.Test.YtgmhnjccgldddaaI3c
import Derived.Test.YtgmhnjccgldddaaS1c
import Derived.Test.YtgmhnjccgldddaaI17
import Derived.Test.YtgmhnjccgldddaaLTables
import Derived.Laws.Bits64b
import Derived.BigQuiet
namespace Go.Proofs.Ytgmhnjccgldddaa
set_option linter.unusedVariables false
set_option linter.unusedSimpArgs false
open Go.RowKit

/-- A slice of bytes that can be read. -/
def BytesR (w : World) (v : Value) (n : Nat) : Prop :=
  ∃ (a : Option Addr) (c : Nat), v = .slice a n c ∧ n ≤ c ∧ c ≤ maxLen ∧ ∀ i, i < n → ∃ b o x, a = some ⟨b, o, none⟩ ∧ w.cell? ⟨b, o + i, none⟩ = some (.int .u8 x) ∧ 0 ≤ x ∧ x < 256
def Bytes (w : World) (v : Value) (bs : List Int) : Prop := BytesR w v bs.length
theorem BytesR.below {w w' : World} {v : Value} {n : Nat} (h : BytesR w v n) (hb : Below w.heap.size w w') : BytesR w' v n := by
  obtain ⟨a, c, hv, h1, h2, hc⟩ := h
  refine ⟨a, c, hv, h1, h2, fun i hi => ?_⟩
  obtain ⟨b, o, x, ha, hcell, hx⟩ := hc i hi
  exact ⟨b, o, x, ha, cell_under hb hcell, hx⟩
/-- .. all of it in blocks below b. -/
def BytesB (w : World) (v : Value) (n b : Nat) : Prop :=
  ∃ (a : Option Addr) (c : Nat), v = .slice a n c ∧ n ≤ c ∧ c ≤ maxLen ∧ ∀ i, i < n → ∃ p o x, a = some ⟨p, o, none⟩ ∧ p < b ∧ w.cell? ⟨p, o + i, none⟩ = some (.int .u8 x) ∧ 0 ≤ x ∧ x < 256
theorem BytesR.b {w : World} {v : Value} {n b : Nat} (h : BytesR w v n) (hb : w.heap.size ≤ b) : BytesB w v n b := by
  obtain ⟨a, c, hv, h1, h2, hc⟩ := h
  refine ⟨a, c, hv, h1, h2, fun i hi => ?_⟩
  obtain ⟨p, o, x, ha, hcell, hx⟩ := hc i hi
  exact ⟨p, o, x, ha, Nat.lt_of_lt_of_le (cell_lt hcell) hb, hcell, hx⟩
theorem cell_of_block {w w' : World} {b o : Nat} {v : Value} (e : w'.heap[b]? = w.heap[b]?) (h : w.cell? ⟨b, o, none⟩ = some v) : w'.cell? ⟨b, o, none⟩ = some v := by
  simp only [World.cell?] at h ⊢
  rw [e]; exact h
theorem BytesB.keep {S : Nat → Prop} {w w' : World} {v : Value} {n b : Nat} (h : BytesB w v n b) (k : Keep S w w') (hs : ∀ p, p < b → ¬ S p) : BytesB w' v n b := by
  obtain ⟨a, c, hv, h1, h2, hc⟩ := h
  refine ⟨a, c, hv, h1, h2, fun i hi => ?_⟩
  obtain ⟨p, o, x, ha, hp, hcell, hx⟩ := hc i hi
  exact ⟨p, o, x, ha, hp, cell_of_block (k.block p (cell_lt hcell) (hs p hp)) hcell, hx⟩

/-- The source at block b. -/
def Src (w : World) (b : Nat) : Prop :=
  ∃ (v : Value) (n i : Nat) (h : Int), Blk w b 80 [v, .int .i64 i, .int .u64 h] ∧ BytesB w v n b ∧ i ≤ n ∧ 0 ≤ h ∧ h ≤ 18446744073709551615 ∧ n ≤ 4096
theorem Src.keep {S : Nat → Prop} {w w' : World} {b : Nat} (h : Src w b) (k : Keep S w w') (hs : ∀ p, p ≤ b → ¬ S p) : Src w' b := by
  obtain ⟨v, n, i, x, h1, h2, h3⟩ := h
  exact ⟨v, n, i, x, h1.of_block (k.block b h1.lt (hs b (Nat.le_refl _))), h2.keep k (fun p hp => hs p (by omega)), h3⟩
theorem Src.lt {w : World} {b : Nat} (h : Src w b) : b < w.heap.size := by
  obtain ⟨v, n, i, x, h1, _⟩ := h; exact h1.lt
theorem Src.under {w w' : World} {b : Nat} (h : Src w b) (hb : Below w.heap.size w w') : Src w' b :=
  h.keep (S := fun k => w.heap.size ≤ k) (Keep.of_below hb) (fun p hp e => by have := h.lt; omega)

/-- A draw leaves all but the source as it was. -/
def Drew (b : Nat) (w w' : World) : Prop := Src w' b ∧ Keep (fun k => k = b) w w'
theorem Drew.refl {b : Nat} {w : World} (h : Src w b) : Drew b w w := ⟨h, Keep.refl _ _⟩
theorem Drew.trans {b : Nat} {w w' w'' : World} (h : Drew b w w') (k : Drew b w' w'') : Drew b w w'' := ⟨k.1, h.2.trans k.2⟩
theorem Drew.under {b : Nat} {w w' w'' : World} (h : Drew b w w') (k : Below w'.heap.size w' w'') : Drew b w w'' := ⟨h.1.under k, h.2.under k⟩
theorem Drew.own {b B : Nat} {w w' : World} {v : Value} {xs : List Int} (h : Drew b w w') (ho : Own B w v xs) (hB : b < B) : Own B w' v xs := ho.keep h.2 (fun k h1 h2 e => by have e : k = b := e; omega)
theorem Drew.below {b B : Nat} {w0 w w' : World} (h : Drew b w w') (hb : Below B w0 w) (hB : B ≤ b) (hs : B ≤ w.heap.size) : Below B w0 w' := hb.trans (h.2.below fun k hk => ⟨by omega, fun e => by have e : k = b := e; omega⟩)
theorem Drew.blk {b g : Nat} {w w' : World} {t : TypeId} {cs : List Value} (h : Drew b w w') (hk : Blk w g t cs) (hg : g ≠ b) : Blk w' g t cs := hk.of_block (h.2.block g hk.lt hg)

theorem and_24 (E : Int) (h0 : 0 ≤ E) (h1 : E ≤ 18446744073709551615) : bits BinOp.and IntKind.u64 E 16777215 = E % 16777216 := by
  have h := bits_and_u64_nat E.toNat 16777215 (by omega) (by omega)
  rw [show (16777215 : Nat) = 2 ^ 24 - 1 from rfl, Nat.and_two_pow_sub_one_eq_mod, Int.toNat_of_nonneg h0] at h
  have h2 : ((E.toNat % 2 ^ 24 : Nat) : Int) = E % 16777216 := by omega
  exact h.trans h2
theorem wrap64 (E : Int) : 0 ≤ IntKind.u64.wrap E ∧ IntKind.u64.wrap E ≤ 18446744073709551615 := by
  rw [IntKind.wrap_u64]; omega

set_option maxRecDepth 100000 in
set_option maxHeartbeats 1600000 in
theorem c_l01Next (b : Nat) (n : Int) (w : World) (hs : Src w b) (h1 : 1 ≤ n) (h2 : n ≤ 9223372036854775807) :
    Calls Try.prog 40 #[.pointer (some ⟨b, 0, none⟩), .int .i64 n] w (fun e w' => ∃ r : Int, e = .returned (.int .i64 r) ∧ 0 ≤ r ∧ r < n ∧ Drew b w w') := by
  obtain ⟨v, m, i, h, hblk, hby, him, hh0, hh1, hm4⟩ := hs
  have HBy := Lib.hid hby
  obtain ⟨a, c, hv, hmc, hcm, hcell⟩ := hby
  subst hv
  obtain ⟨W, hW⟩ : ∃ W : Int, IntKind.u64.wrap (IntKind.u64.wrap (h * 6364136223846793005) + 1442695040888963407) = W := ⟨_, rfl⟩
  have hWr := wrap64 (IntKind.u64.wrap (h * 6364136223846793005) + 1442695040888963407)
  rw [hW] at hWr
  obtain ⟨hW0, hW1⟩ := hWr
  obtain ⟨X, hX⟩ : ∃ X : Int, bits BinOp.and IntKind.u64 (W / 8589934592) 16777215 = X := ⟨_, rfl⟩
  have hXr : 0 ≤ X ∧ X < 16777216 := by
    rw [and_24 _ (by omega) (by omega)] at hX; omega
  obtain ⟨hX0, hX1⟩ := hXr
  have hXw : IntKind.i64.wrap X = X := by rw [IntKind.wrap_i64]; omega
  have hb2 := hblk.set 2 (.int .u64 W)
  have hk2 : Keep (fun k => k = b) w (w.setCell ⟨b, 2, none⟩ (.int .u64 W)) := (Keep.refl (fun k => k = b) w).setCell (p := ⟨b, 2, none⟩) (.inl rfl) _
  have hBy2 := HBy.out.keep hk2 (fun p hp e => by have e : p = b := e; omega)
  go_enter Try.func40, Try.ntmps40
  have c0 := hblk.cell (i := 0) (by simp); have c1 := hblk.cell (i := 1) (by simp); have c2 := hblk.cell (i := 2) (by simp)
  have f2 := hblk.frozen 2
  have d0 := hb2.cell (i := 0) (by simp); have d1 := hb2.cell (i := 1) (by simp)
  simp only [List.getElem_cons_zero, List.getElem_cons_succ, List.set_cons_succ, List.set_cons_zero] at c0 c1 c2 d0 d1 hb2
  have HB2 := Lib.hid hb2; have HK2 := Lib.hid hk2; have HBY2 := Lib.hid hBy2
  clear hb2 hk2 hBy2 hblk
  by_cases hlt : i < m
  · obtain ⟨p0, o0, x, ha0, hpb, hcx, hx0, hx1⟩ := hcell i hlt
    subst ha0
    go_wp2
    go_quiet (fail)
    rename_i nq
    have hbq : Below (w.setCell ⟨b, 2, none⟩ (.int .u64 W)).heap.size (w.setCell ⟨b, 2, none⟩ (.int .u64 W)) ((w.setCell ⟨b, 2, none⟩ (.int .u64 W)).drewN nq) := below_drewN (Below.refl _ _) nq
    generalize (w.setCell ⟨b, 2, none⟩ (.int .u64 W)).drewN nq = wq at hbq ⊢
    have hBq := HB2.out.under hbq
    have e0 := hBq.cell (i := 0) (by simp); have e1 := hBq.cell (i := 1) (by simp)
    simp only [List.getElem_cons_zero, List.getElem_cons_succ] at e0 e1
    have g1 := hBq.frozen 1
    have hcx2 := cell_of_block (HK2.out.block p0 (cell_lt hcx) (fun e => by have e : p0 = b := e; omega)) hcx
    have hcq := cell_under hbq hcx2
    have HBq := Lib.hid hBq; have hKq := Lib.hid (HK2.out.under hbq)
    clear hBq c0 c1 c2 f2 d0 d1 hcx hcx2 hbq hW hX hXw
    go_wp2
    go_quiet (fail)
    have hbq : Below wq.heap.size wq (wq.drewN nq) := below_drewN (Below.refl _ _) nq
    have hBr := HBq.out.under hbq
    have hKr := hKq.out.under hbq
    generalize wq.drewN nq = wr at hbq hBr hKr ⊢
    have k1 := hBr.cell (i := 1) (by simp)
    simp only [List.getElem_cons_zero, List.getElem_cons_succ] at k1
    have g2 := hBr.frozen 1
    have hBs := hBr.set 1 (.int .i64 ((i + 1 : Nat) : Int))
    have hKs := hKr.setCell (p := ⟨b, 1, none⟩) (.inl rfl) (.int .i64 ((i + 1 : Nat) : Int))
    have HBs := Lib.hid hBs; have HKs := Lib.hid hKs
    have hmm : i + 1 ≤ m := hlt
    have hi63 : m ≤ 9223372036854775807 := by unfold maxLen at hcm; omega
    clear e0 e1 g1 hcq hbq hBr hKr hBs hKs
    have hn0 : 0 < n := by omega
    have hv0 := Int.emod_nonneg (X + x) (show n ≠ 0 by omega)
    have hv1 := Int.emod_lt_of_pos (X + x) hn0
    have HR := Lib.hid (And.intro hv0 hv1)
    clear hv0 hv1
    go_wp2
    go_ret
    exact ⟨(X + x) % n, rfl, HR.out.1, HR.out.2, ⟨_, m, i + 1, W, HBs.out, HBy.out.keep HKs.out (fun p hp e => by have e : p = b := e; omega), hmm, hW0, hW1, hm4⟩, HKs.out⟩
  · have hlt' : ¬ ((i : Int) < m) := by omega
    clear hlt
    go_wp2
    go_quiet (fail)
    have hbq : Below (w.setCell ⟨b, 2, none⟩ (.int .u64 W)).heap.size (w.setCell ⟨b, 2, none⟩ (.int .u64 W)) ((w.setCell ⟨b, 2, none⟩ (.int .u64 W)).drewN nq) := below_drewN (Below.refl _ _) nq
    generalize (w.setCell ⟨b, 2, none⟩ (.int .u64 W)).drewN nq = wq at hbq ⊢
    have HBs := Lib.hid (HB2.out.under hbq); have HKs := Lib.hid (HK2.out.under hbq)
    have hn0 : 0 < n := by omega
    have hv0 := Int.emod_nonneg X (show n ≠ 0 by omega)
    have hv1 := Int.emod_lt_of_pos X hn0
    have HR := Lib.hid (And.intro hv0 hv1)
    clear hv0 hv1 c0 c1 c2 f2 d0 d1 hbq hW hX hXw
    go_wp2
    go_ret
    exact ⟨X % n, rfl, HR.out.1, HR.out.2, ⟨_, m, i, W, HBs.out, HBy.out.keep HKs.out (fun p hp e => by have e : p = b := e; omega), him, hW0, hW1, hm4⟩, HKs.out⟩
end Go.Proofs.Ytgmhnjccgldddaa
