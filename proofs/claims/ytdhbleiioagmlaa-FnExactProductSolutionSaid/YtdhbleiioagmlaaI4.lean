/-
  What the program's identity, 'solutionBy' and 'twist' return (layer 1).
-/
import Derived.Test.YtdhbleiioagmlaaI3
import Derived.Test.YtdhbleiioagmlaaLawC
namespace Go.Proofs.Ytdhbleiioagmlaa
open Go.RowKit


/-- What is asked of a function value of two values: at every two indices it answers g and h. -/
def Pays3 (w : World) (f : FuncId) (lb : Array Value) (n : Nat) (g h : Int → Int → Int) : Prop :=
  ∀ W (x y : Nat), Below w.heap.size w W → x < n → y < n → Calls Try.prog f (#[.int .i64 x, .int .i64 y] ++ lb) W (RVal W (.tuple #[.int .i64 (g x y), .int .i64 (h x y)]))

/-- The result's cells were set last. -/
theorem stored {w w2 : World} {r1 r2 : Value} {A B : List (List Int)} {lo q : Nat} (hB : Below w.heap.size w w2) (hs : OwnSol lo w2.heap.size w2 r1 r2 A B) (hq : w.heap.size ≤ q) (hlo : q < lo) :
    OwnSol w.heap.size ((w2.setCell ⟨q, 0, none⟩ r1).setCell ⟨q, 1, none⟩ r2).heap.size ((w2.setCell ⟨q, 0, none⟩ r1).setCell ⟨q, 1, none⟩ r2) r1 r2 A B ∧ Below w.heap.size w ((w2.setCell ⟨q, 0, none⟩ r1).setCell ⟨q, 1, none⟩ r2) := by
  refine ⟨OwnSol.widen (hs.keep (S := fun b => b = q) (((Keep.refl (fun b => b = q) w2).setCell (p := ⟨q, 0, none⟩) (.inl rfl) _).setCell (p := ⟨q, 1, none⟩) (.inl rfl) _) (fun b h1 h2 h3 => by omega)) (by omega) (by simp [World.setCell]), ?_⟩
  exact (hB.setCell (p := ⟨q, 0, none⟩) hq _).setCell (p := ⟨q, 1, none⟩) hq _

theorem one_cell {w : World} {b : Nat} {t : TypeId} {v1 : Value} (h : Blk w b t [v1]) : w.cell? ⟨b, 0, none⟩ = some v1 := h.cell (i := 0) (by simp)

theorem eg_solutionBy1 : ∀ args w, (callFunc 108 args).run Try.prog w = .ok (.enter 108 args) w := Go.Proofs.enters_of Try.func108 (by kernel_rfl) rfl
theorem eg_solutionBy2 : ∀ args w, (callFunc 109 args).run Try.prog w = .ok (.enter 109 args) w := Go.Proofs.enters_of Try.func109 (by kernel_rfl) rfl

set_option maxHeartbeats 400000 in
theorem c_solutionBy1 (b : Nat) (f : FuncId) (lb : Array Value) (u v : Int) (x y : Nat) (w : World) (hbox : w.cell? ⟨b, 0, none⟩ = some (.func (.func f) #[] lb)) (eg : ∀ args w, (callFunc f args).run Try.prog w = .ok (.enter f args) w)
    (hf : Calls Try.prog f (#[.int .i64 x, .int .i64 y] ++ lb) w (RVal w (.tuple #[.int .i64 u, .int .i64 v]))) :
    Calls Try.prog 108 #[.int .i64 x, .int .i64 y, .pointer (some ⟨b, 0, none⟩)] w (RVal w (.int .i64 u)) := by
  have Hp := Lib.hid hf; clear hf
  go_enter Try.func108, Try.ntmps108
  go_wp2_with fail
  refine Hp.out.mono ?_; rintro e w' ⟨rfl, hb'⟩
  have HB := Lib.hid hb'; clear hb' hbox
  go_wp2
  go_ret
  exact ⟨rfl, HB.out⟩

set_option maxHeartbeats 400000 in
theorem c_solutionBy2 (b : Nat) (f : FuncId) (lb : Array Value) (u v : Int) (x y : Nat) (w : World) (hbox : w.cell? ⟨b, 0, none⟩ = some (.func (.func f) #[] lb)) (eg : ∀ args w, (callFunc f args).run Try.prog w = .ok (.enter f args) w)
    (hf : Calls Try.prog f (#[.int .i64 x, .int .i64 y] ++ lb) w (RVal w (.tuple #[.int .i64 u, .int .i64 v]))) :
    Calls Try.prog 109 #[.int .i64 x, .int .i64 y, .pointer (some ⟨b, 0, none⟩)] w (RVal w (.int .i64 v)) := by
  have Hp := Lib.hid hf; clear hf
  go_enter Try.func109, Try.ntmps109
  go_wp2_with fail
  refine Hp.out.mono ?_; rintro e w' ⟨rfl, hb'⟩
  have HB := Lib.hid hb'; clear hb' hbox
  go_wp2
  go_ret
  exact ⟨rfl, HB.out⟩

set_option maxHeartbeats 1000000 in
theorem c_solutionBy (n : Nat) (f : FuncId) (lb : Array Value) (g h : Int → Int → Int) (w : World) (hn : n ≤ 1048576) (eg : ∀ args w, (callFunc f args).run Try.prog w = .ok (.enter f args) w) (hf : Pays3 w f lb n g h) :
    Calls Try.prog 77 #[.int .i64 n, .func (.func f) #[] lb] w (RSol w (tabOf n g) (tabOf n h)) := by
  obtain ⟨f0, f1, hW0, hsz⟩ := boxes2 w [.func (.func f) #[] lb] [.slice none 0 0, .slice none 0 0] 70 28
  obtain ⟨W, hW⟩ : ∃ W, (w.alloc (.cells #[.func (.func f) #[] lb] 70)).alloc (.cells #[.slice none 0 0, .slice none 0 0] 28) = W := ⟨_, rfl⟩
  rw [hW] at f0 f1 hW0 hsz
  have hp1 : Pays2 W 108 #[.pointer (some ⟨w.heap.size, 0, none⟩)] n g := fun V x y hb h1 h2 =>
    c_solutionBy1 w.heap.size f lb (g x y) (h x y) x y V (one_cell (f0.under hb)) eg (hf V x y (bb hW0 hb) h1 h2)
  have HP1 := Lib.hid hp1; clear hp1
  have hp2 : ∀ w1, Below W.heap.size W w1 → Pays2 w1 109 #[.pointer (some ⟨w.heap.size, 0, none⟩)] n h := fun w1 hb1 V x y hb h1 h2 =>
    c_solutionBy2 w.heap.size f lb (g x y) (h x y) x y V (one_cell ((f0.under hb1).under hb)) eg (hf V x y (bb (bb hW0 hb1) hb) h1 h2)
  have HP2 := Lib.hid hp2; clear hp2
  have HW := Lib.hid hW; have HF1 := Lib.hid f1; have HB0 := Lib.hid hW0; have HS := Lib.hid hsz
  clear hW f0 f1 hW0 hsz hf
  go_enter Try.func77, Try.ntmps77
  go_wp2_with fail
  rw [HW.out]
  refine (c_tableBy n _ _ _ _ hn eg_solutionBy1 HP1.out).mono ?_; rintro e w1 ⟨r1, rfl, ho1, hb1⟩
  have HO1 := Lib.hid ho1; have HB1 := Lib.hid hb1; have hp := HP2.out w1 hb1
  have HP3 := Lib.hid hp
  clear ho1 hb1 hp
  go_wp2_with fail
  refine (c_tableBy n _ _ _ _ hn eg_solutionBy2 HP3.out).mono ?_; rintro e w2 ⟨r2, rfl, ho2, hb2⟩
  obtain ⟨ra1, rc1, rfl, _, _⟩ := HO1.out.rows.shape
  obtain ⟨ra2, rc2, rfl, _, _⟩ := ho2.rows.shape
  obtain ⟨g0, g1, g2, g3⟩ := two_cells ((HF1.out.under HB1.out).under hb2)
  have HSol := Lib.hid (OwnSol.mk HO1.out hb2 ho2 HB1.out.size)
  have HB2 := Lib.hid (bb (bb HB0.out HB1.out) hb2)
  clear ho2 hb2
  go_wp2
  obtain ⟨hA, hB⟩ := stored (q := w.heap.size + 1) HB2.out HSol.out (by omega) (by have := HS.out; omega)
  simp only [tabOf_length] at hA hB g0 g1
  exact bodyPost_ret (v := .agg #[.slice ra1 n rc1, .slice ra2 n rc2]) (by simp [results, Try.results77, go_sem, g0, g1]) rfl ⟨_, _, rfl, hA, hB⟩

def twA (p : List Int) : List (List Int) := tabOf p.length fun _ y => nth p y
def twB (p q : List Int) : List (List Int) := tabOf p.length fun x _ => nth q x
end Go.Proofs.Ytdhbleiioagmlaa
