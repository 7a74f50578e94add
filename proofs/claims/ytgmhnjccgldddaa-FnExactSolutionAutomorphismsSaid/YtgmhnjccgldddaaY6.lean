/-
  SolutionIsomorphism: the program's function.
-/
import Derived.Test.YtgmhnjccgldddaaY5
import Derived.Test.YtgmhnjccgldddaaI21
import Derived.Test.YtgmhnjccgldddaaI2b
import Derived.Test.YtgmhnjccgldddaaLawC
namespace Go.Proofs.Ytgmhnjccgldddaa
set_option linter.unusedVariables false
set_option linter.unusedSimpArgs false
open Go Go.RowKit Go.Shelf
attribute [local go_sem] Oper.semAt_some

/-- All isomorphisms of two pair maps, in lexicographic order. -/
noncomputable def isoL (A B C D : List (List Int)) : List (List Int) := if A.length = C.length then isoAll A.length [A, B] [C, D] else []
noncomputable def isoRes (A B C D : List (List Int)) : List Int := if isPM A B && isPM C D then (isoL A B C D).headD [] else []
noncomputable def isoCode (A B C D : List (List Int)) : Int := if isPM A B && isPM C D then (if (isoL A B C D).isEmpty then 4 else 0) else 1

theorem boxes4 (w : World) (c0 c1 c2 c3 : List Value) (t0 t1 t2 t3 : TypeId) :
    Blk ((((w.alloc (.cells c0.toArray t0)).alloc (.cells c1.toArray t1)).alloc (.cells c2.toArray t2)).alloc (.cells c3.toArray t3)) w.heap.size t0 c0 ∧
    Blk ((((w.alloc (.cells c0.toArray t0)).alloc (.cells c1.toArray t1)).alloc (.cells c2.toArray t2)).alloc (.cells c3.toArray t3)) (w.heap.size + 1) t1 c1 ∧
    Blk ((((w.alloc (.cells c0.toArray t0)).alloc (.cells c1.toArray t1)).alloc (.cells c2.toArray t2)).alloc (.cells c3.toArray t3)) (w.heap.size + 1 + 1) t2 c2 ∧
    Blk ((((w.alloc (.cells c0.toArray t0)).alloc (.cells c1.toArray t1)).alloc (.cells c2.toArray t2)).alloc (.cells c3.toArray t3)) (w.heap.size + 1 + 1 + 1) t3 c3 ∧
    Below w.heap.size w ((((w.alloc (.cells c0.toArray t0)).alloc (.cells c1.toArray t1)).alloc (.cells c2.toArray t2)).alloc (.cells c3.toArray t3)) ∧
    ((((w.alloc (.cells c0.toArray t0)).alloc (.cells c1.toArray t1)).alloc (.cells c2.toArray t2)).alloc (.cells c3.toArray t3)).heap.size = w.heap.size + 4 := by
  obtain ⟨h0, h1, h2, h3, h4⟩ := boxes3 w c0 c1 c2 t0 t1 t2
  have h5 := Blk.new (((w.alloc (.cells c0.toArray t0)).alloc (.cells c1.toArray t1)).alloc (.cells c2.toArray t2)) c3 t3
  rw [h4] at h5
  exact ⟨h0.alloc _, h1.alloc _, h2.alloc _, h5, h3.alloc (by rw [h4]; omega) _, by simp⟩

/-- Two tables in a row of two. -/
theorem Tb3.two {w : World} {x n b1 o1 c1 b2 o2 c2 : Nat} {A B : List (List Int)} {rb1 ro1 rc1 rb2 ro2 rc2 : Nat → Nat} (hx : Blk w x 22 [.slice (some ⟨b1, o1, none⟩) n c1, .slice (some ⟨b2, o2, none⟩) n c2]) (t1 : TabAt w b1 o1 n A rb1 ro1 rc1) (t2 : TabAt w b2 o2 n B rb2 ro2 rc2) :
    Tb3 w x 0 n 2 [A, B] (fun k => if k = 0 then b1 else b2) (fun k => if k = 0 then o1 else o2) (fun k => if k = 0 then c1 else c2) (fun k => if k = 0 then rb1 else rb2) (fun k => if k = 0 then ro1 else ro2) (fun k => if k = 0 then rc1 else rc2) := by
  obtain ⟨z0, z1, -, -⟩ := two_cells hx
  refine ⟨fun k hk => ?_, fun k hk => ?_⟩
  · match k, hk with
    | 0, _ => simpa using z0
    | 1, _ => simpa using z1
  · match k, hk with
    | 0, _ => simpa using t1
    | 1, _ => simpa using t2

set_option maxRecDepth 100000 in
set_option maxHeartbeats 4000000 in
theorem c_SolutionIsomorphism_neg (v0 u0 v1 u1 : Value) (A B C D : List (List Int)) (w : World) (hA : Sol w v0 u0 A B) (hC : Sol w v1 u1 C D) (hp : ¬ (isPM A B && isPM C D) = true) :
    Calls Try.prog 9 #[.agg #[v0, u0], .agg #[v1, u1]] w (RIntsC w (isoRes A B C D) (isoCode A B C D)) := by
  have HRes := Lib.hid (show isoRes A B C D = [] ∧ isoCode A B C D = 1 by simp only [isoRes, isoCode, if_neg hp]; exact ⟨trivial, trivial⟩)
  obtain ⟨a0, c0, rfl, _, _⟩ := hA.1.shape
  obtain ⟨a0s, c0s, rfl, _, _⟩ := hA.2.shape
  obtain ⟨a1, c1, rfl, _, _⟩ := hC.1.shape
  obtain ⟨a1s, c1s, rfl, _, _⟩ := hC.2.shape
  obtain ⟨f0, f1, f2, f3, hB0, hsz⟩ := boxes4 w [.slice a0 A.length c0, .slice a0s B.length c0s] [.slice a1 C.length c1, .slice a1s D.length c1s] [.slice none 0 0] [.int .i64 0] 29 29 26 2
  obtain ⟨z0, z1, -, -⟩ := two_cells f0
  obtain ⟨z2, z3, -, -⟩ := two_cells f1
  have z4 := one_cell f2; have z5 := one_cell f3; have z6 := f2.frozen 0; have z7 := f3.frozen 0
  have HA := Lib.hid ((⟨hA.1.below hB0, hA.2.below hB0⟩ : Sol _ _ _ A B)); have HC := Lib.hid ((⟨hC.1.below hB0, hC.2.below hB0⟩ : Sol _ _ _ C D))
  have F0 := Lib.hid f0; have F1 := Lib.hid f1; have F2 := Lib.hid f2; have F3 := Lib.hid f3; have HB0 := Lib.hid hB0; have HSz := Lib.hid hsz
  clear f0 f1 f2 f3 hB0 hsz hA hC
  go_enter Try.func9, Try.ntmps9
  by_cases h1 : isPM A B = true
  · have h2 : isPM C D = false := by simpa [h1] using hp
    go_wp2_with fail
    refine (c_IsPairMap _ _ A B _ HA.out).mono ?_; rintro e w1 ⟨rfl, hb1⟩
    rw [h1]
    obtain ⟨x2, x3, -, -⟩ := two_cells (F1.out.under hb1)
    have HC1 := Lib.hid ((⟨HC.out.1.below hb1, HC.out.2.below hb1⟩ : Sol _ _ _ C D))
    have HBw := Lib.hid hb1
    clear hb1 z0 z1 z2 z3 z4 z5 z6 z7
    go_wp2_with fail
    refine (c_IsPairMap _ _ C D _ HC1.out).mono ?_; rintro e w2 ⟨rfl, hb2⟩
    rw [h2]
    have hb1 := HBw.out.trans (hb2.mono HBw.out.size)
    have q4 := one_cell (F2.out.under hb1); have q5 := one_cell (F3.out.under hb1); have q6 := (F2.out.under hb1).frozen 0; have q7 := (F3.out.under hb1).frozen 0
    have HB1 := Lib.hid (HB0.out.trans (hb1.mono (by rw [HSz.out]; omega)))
    clear hb1 hb2 x2 x3
    go_wp2
    refine bodyPost_ret (v := .tuple #[.slice none 0 0, .int .i64 1]) (by simp [results, Try.results9, go_sem, q4, q5]) rfl ⟨.slice none 0 0, by rw [HRes.out.2], by rw [HRes.out.1]; exact Own.nil _ _, ?_⟩
    exact (HB1.out.setCell (p := ⟨w.heap.size + 1 + 1, 0, none⟩) (by show w.heap.size ≤ w.heap.size + 1 + 1; omega) _).setCell (p := ⟨w.heap.size + 1 + 1 + 1, 0, none⟩) (by show w.heap.size ≤ w.heap.size + 1 + 1 + 1; omega) _
  · have h1' : isPM A B = false := by simpa using h1
    go_wp2_with fail
    refine (c_IsPairMap _ _ A B _ HA.out).mono ?_; rintro e w1 ⟨rfl, hb1⟩
    rw [h1']
    have q4 := one_cell (F2.out.under hb1); have q5 := one_cell (F3.out.under hb1); have q6 := (F2.out.under hb1).frozen 0; have q7 := (F3.out.under hb1).frozen 0
    have HB1 := Lib.hid (HB0.out.trans (hb1.mono (by rw [HSz.out]; omega)))
    clear hb1 z0 z1 z2 z3 z4 z5 z6 z7
    go_wp2
    refine bodyPost_ret (v := .tuple #[.slice none 0 0, .int .i64 1]) (by simp [results, Try.results9, go_sem, q4, q5]) rfl ⟨.slice none 0 0, by rw [HRes.out.2], by rw [HRes.out.1]; exact Own.nil _ _, ?_⟩
    exact (HB1.out.setCell (p := ⟨w.heap.size + 1 + 1, 0, none⟩) (by show w.heap.size ≤ w.heap.size + 1 + 1; omega) _).setCell (p := ⟨w.heap.size + 1 + 1 + 1, 0, none⟩) (by show w.heap.size ≤ w.heap.size + 1 + 1 + 1; omega) _
end Go.Proofs.Ytgmhnjccgldddaa
