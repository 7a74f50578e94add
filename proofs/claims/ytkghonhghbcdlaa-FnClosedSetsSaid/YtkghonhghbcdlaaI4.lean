/-
  What the program's identity, 'solutionBy' and 'twist' return (layer 1).
-/
import Derived.Test.YtkghonhghbcdlaaI3
import Derived.Test.YtkghonhghbcdlaaLawC
namespace Go.Proofs.Ytkghonhghbcdlaa
set_option linter.unusedVariables false
set_option linter.unusedSimpArgs false
open Go.RowKit

set_option maxHeartbeats 400000 in
theorem c_identity (n : Nat) (w : World) (hn : n ≤ 1048576) :
    Calls Try.prog 107 #[.int .i64 n] w (RInts w (iota n)) := by
  have hmk := run_make_row' (P := Try.prog) 27 2 (.int .i64 0) 8 Try.underlying27 inf_int64 rfl .i64 .i64 n (by omega) (by omega)
  go_enter Try.func107, Try.ntmps107
  go_wp2
  have hB0 : Below w.heap.size w (w.alloc (.cells (madeCells #[.int .i64 0] n) 2)) := (Below.refl _ _).alloc (Nat.le_refl _) _
  have hK0 : Blk (w.alloc (.cells (madeCells #[.int .i64 0] n) 2)) w.heap.size 2 (((iota n).take 0).map (Value.int .i64) ++ (List.replicate n (Value.int .i64 0)).drop 0) := by
    simpa using Blk.made w (.int .i64 0) n 2
  clear hmk
  go_loopw [9, 4] (fun i _ wr => ∃ k : Nat, k ≤ n ∧ i = .int .i64 k ∧ Below w.heap.size w wr ∧ Blk wr w.heap.size 2 (((iota n).take k).map (Value.int .i64) ++ (List.replicate n (Value.int .i64 0)).drop k)) (fun i _ _ => n - (intOf i).toNat)
  case atStart => exact ⟨0, Nat.zero_le _, rfl, hB0, hK0⟩
  case round =>
    clear hB0 hK0
    obtain ⟨k, hk, rfl, hb, hblk⟩ := hrel
    by_cases hlt : k < n
    · obtain ⟨u, h2⟩ := fill_cell0 hblk (k := k) (by simp; omega)
      have h3 := hblk.frozen k
      have hk0 : (0 : Int) ≤ k := by omega
      have hk1 : (k : Int) < n := by omega
      have Hb := Lib.hid hb; have Hblk := Lib.hid hblk; clear hb hblk
      go_wp2
      go_roundw
      case rel =>
        refine ⟨k + 1, by omega, by go_num, Hb.out.setCell (p := ⟨w.heap.size, k, none⟩) (Nat.le_refl _) _, ?_⟩
        have := Hblk.out.set k (.int .i64 k)
        rwa [fill_set _ _ (by simpa using hlt) _ (by simp) _ (nth_iota n k hk0 hk1).symm] at this
      case measure => simp [intOf]; omega
    · have Hb := Lib.hid hb; have Hblk := Lib.hid hblk; clear hb hblk
      obtain rfl : k = n := by omega
      go_wp2
      go_ret
      have hr := Hblk.out
      rw [fill_done _ _ (by simp)] at hr
      exact ⟨_, rfl, Own.of_blk hr (Nat.le_refl _) (by simp [maxLen]; omega) (by simp) (by simp), Hb.out⟩

/-- What is asked of a function value of two values: at every two indices it answers g and h. -/
def Pays3 (w : World) (f : FuncId) (lb : Array Value) (n : Nat) (g h : Int → Int → Int) : Prop :=
  ∀ W (x y : Nat), Below w.heap.size w W → x < n → y < n → Calls Try.prog f (#[.int .i64 x, .int .i64 y] ++ lb) W (RVal W (.tuple #[.int .i64 (g x y), .int .i64 (h x y)]))

/-- The result's cells were set last. -/
theorem stored {w w2 : World} {r1 r2 : Value} {A B : List (List Int)} {lo q : Nat} (hB : Below w.heap.size w w2) (hs : OwnSol lo w2.heap.size w2 r1 r2 A B) (hq : w.heap.size ≤ q) (hlo : q < lo) :
    OwnSol w.heap.size ((w2.setCell ⟨q, 0, none⟩ r1).setCell ⟨q, 1, none⟩ r2).heap.size ((w2.setCell ⟨q, 0, none⟩ r1).setCell ⟨q, 1, none⟩ r2) r1 r2 A B ∧ Below w.heap.size w ((w2.setCell ⟨q, 0, none⟩ r1).setCell ⟨q, 1, none⟩ r2) := by
  refine ⟨OwnSol.widen (hs.keep (S := fun b => b = q) (((Keep.refl (fun b => b = q) w2).setCell (p := ⟨q, 0, none⟩) (.inl rfl) _).setCell (p := ⟨q, 1, none⟩) (.inl rfl) _) (fun b h1 h2 h3 => by omega)) (by omega) (by simp [World.setCell]), ?_⟩
  exact (hB.setCell (p := ⟨q, 0, none⟩) hq _).setCell (p := ⟨q, 1, none⟩) hq _

theorem one_cell {w : World} {b : Nat} {t : TypeId} {v1 : Value} (h : Blk w b t [v1]) : w.cell? ⟨b, 0, none⟩ = some v1 := h.cell (i := 0) (by simp)

theorem eg_solutionBy1 : ∀ args w, (callFunc 89 args).run Try.prog w = .ok (.enter 89 args) w := Go.Proofs.enters_of Try.func89 (by kernel_rfl) rfl
theorem eg_solutionBy2 : ∀ args w, (callFunc 90 args).run Try.prog w = .ok (.enter 90 args) w := Go.Proofs.enters_of Try.func90 (by kernel_rfl) rfl

set_option maxHeartbeats 400000 in
theorem c_solutionBy1 (b : Nat) (f : FuncId) (lb : Array Value) (u v : Int) (x y : Nat) (w : World) (hbox : w.cell? ⟨b, 0, none⟩ = some (.func (.func f) #[] lb)) (eg : ∀ args w, (callFunc f args).run Try.prog w = .ok (.enter f args) w)
    (hf : Calls Try.prog f (#[.int .i64 x, .int .i64 y] ++ lb) w (RVal w (.tuple #[.int .i64 u, .int .i64 v]))) :
    Calls Try.prog 89 #[.int .i64 x, .int .i64 y, .pointer (some ⟨b, 0, none⟩)] w (RVal w (.int .i64 u)) := by
  have Hp := Lib.hid hf; clear hf
  go_enter Try.func89, Try.ntmps89
  go_wp2_with fail
  refine Hp.out.mono ?_; rintro e w' ⟨rfl, hb'⟩
  have HB := Lib.hid hb'; clear hb' hbox
  go_wp2
  go_ret
  exact ⟨rfl, HB.out⟩

set_option maxHeartbeats 400000 in
theorem c_solutionBy2 (b : Nat) (f : FuncId) (lb : Array Value) (u v : Int) (x y : Nat) (w : World) (hbox : w.cell? ⟨b, 0, none⟩ = some (.func (.func f) #[] lb)) (eg : ∀ args w, (callFunc f args).run Try.prog w = .ok (.enter f args) w)
    (hf : Calls Try.prog f (#[.int .i64 x, .int .i64 y] ++ lb) w (RVal w (.tuple #[.int .i64 u, .int .i64 v]))) :
    Calls Try.prog 90 #[.int .i64 x, .int .i64 y, .pointer (some ⟨b, 0, none⟩)] w (RVal w (.int .i64 v)) := by
  have Hp := Lib.hid hf; clear hf
  go_enter Try.func90, Try.ntmps90
  go_wp2_with fail
  refine Hp.out.mono ?_; rintro e w' ⟨rfl, hb'⟩
  have HB := Lib.hid hb'; clear hb' hbox
  go_wp2
  go_ret
  exact ⟨rfl, HB.out⟩

set_option maxHeartbeats 1000000 in
theorem c_solutionBy (n : Nat) (f : FuncId) (lb : Array Value) (g h : Int → Int → Int) (w : World) (hn : n ≤ 1048576) (eg : ∀ args w, (callFunc f args).run Try.prog w = .ok (.enter f args) w) (hf : Pays3 w f lb n g h) :
    Calls Try.prog 49 #[.int .i64 n, .func (.func f) #[] lb] w (RSol w (tabOf n g) (tabOf n h)) := by
  obtain ⟨f0, f1, hW0, hsz⟩ := boxes2 w [.func (.func f) #[] lb] [.slice none 0 0, .slice none 0 0] 68 26
  obtain ⟨W, hW⟩ : ∃ W, (w.alloc (.cells #[.func (.func f) #[] lb] 68)).alloc (.cells #[.slice none 0 0, .slice none 0 0] 26) = W := ⟨_, rfl⟩
  rw [hW] at f0 f1 hW0 hsz
  have hp1 : Pays2 W 89 #[.pointer (some ⟨w.heap.size, 0, none⟩)] n g := fun V x y hb h1 h2 =>
    c_solutionBy1 w.heap.size f lb (g x y) (h x y) x y V (one_cell (f0.under hb)) eg (hf V x y (bb hW0 hb) h1 h2)
  have HP1 := Lib.hid hp1; clear hp1
  have hp2 : ∀ w1, Below W.heap.size W w1 → Pays2 w1 90 #[.pointer (some ⟨w.heap.size, 0, none⟩)] n h := fun w1 hb1 V x y hb h1 h2 =>
    c_solutionBy2 w.heap.size f lb (g x y) (h x y) x y V (one_cell ((f0.under hb1).under hb)) eg (hf V x y (bb (bb hW0 hb1) hb) h1 h2)
  have HP2 := Lib.hid hp2; clear hp2
  have HW := Lib.hid hW; have HF1 := Lib.hid f1; have HB0 := Lib.hid hW0; have HS := Lib.hid hsz
  clear hW f0 f1 hW0 hsz hf
  go_enter Try.func49, Try.ntmps49
  go_wp2_with fail
  rw [HW.out]
  refine (c_tableBy n _ _ _ _ hn eg_solutionBy1 HP1.out).mono ?_; rintro e w1 ⟨r1, rfl, ho1, hb1⟩
  have HO1 := Lib.hid ho1; have HB1 := Lib.hid hb1; have hp := HP2.out w1 hb1
  have HP3 := Lib.hid hp
  clear ho1 hb1 hp
  go_wp2_with fail
  refine (c_tableBy n _ _ _ _ hn eg_solutionBy2 HP3.out).mono ?_; rintro e w2 ⟨r2, rfl, ho2, hb2⟩
  obtain ⟨ra1, rc1, rfl, _, _⟩ := HO1.out.rows.shape
  obtain ⟨ra2, rc2, rfl, _, _⟩ := ho2.rows.shape
  obtain ⟨g0, g1, g2, g3⟩ := two_cells ((HF1.out.under HB1.out).under hb2)
  have HSol := Lib.hid (OwnSol.mk HO1.out hb2 ho2 HB1.out.size)
  have HB2 := Lib.hid (bb (bb HB0.out HB1.out) hb2)
  clear ho2 hb2
  go_wp2
  obtain ⟨hA, hB⟩ := stored (q := w.heap.size + 1) HB2.out HSol.out (by omega) (by have := HS.out; omega)
  simp only [tabOf_length] at hA hB g0 g1
  exact bodyPost_ret (v := .agg #[.slice ra1 n rc1, .slice ra2 n rc2]) (by simp [results, Try.results49, go_sem, g0, g1]) rfl ⟨_, _, rfl, hA, hB⟩

def twA (p : List Int) : List (List Int) := tabOf p.length fun _ y => nth p y
def twB (p q : List Int) : List (List Int) := tabOf p.length fun x _ => nth q x
end Go.Proofs.Ytkghonhghbcdlaa
