/-
  The reference's search for isomorphisms: l03Mark.
-/
import Derived.Test.YtgmhnjccgldddaaY1
import Derived.Test.YtgmhnjccgldddaaK3
import Derived.Test.YtgmhnjccgldddaaC1a
import Derived.Test.YtgmhnjccgldddaaA3
namespace Go.Proofs.Ytgmhnjccgldddaa
set_option linter.unusedVariables false
set_option linter.unusedSimpArgs false
open Go Go.RowKit

theorem iota_succ (k : Nat) : iota (k + 1) = iota k ++ [(k : Int)] := by simp [iota, List.range_succ]

theorem Blk.at' {w : World} {b : Nat} {xs : List Int} {cs : List Value} (h : Blk w b 2 (xs.map (Value.int .i64) ++ cs)) (k : Nat) (hk : k < xs.length) : w.cell? ⟨b, k, none⟩ = some (.int .i64 (nth xs k)) := by
  rw [h.cell (by simp; omega), List.getElem_append_left (by simpa using hk), List.getElem_map, nth_nat _ _ hk]
theorem Blk.put' {w : World} {b : Nat} {xs : List Int} {cs : List Value} (h : Blk w b 2 (xs.map (Value.int .i64) ++ cs)) (k : Nat) (hk : k < xs.length) (u : Int) : Blk (w.setCell ⟨b, k, none⟩ (.int .i64 u)) b 2 ((xs.set k u).map (Value.int .i64) ++ cs) := by
  have := h.set k (.int .i64 u)
  rwa [List.set_append_left _ _ (by simpa using hk), ← List.map_set] at this
theorem cut_waysZ {p G : Prop} (k : Hid p → G) (h : p) : G := k (Lib.hid h)
theorem forget18 {Pd : Array Value → Prop} (l : List Value) (i j : Nat) (hj : j = i + 18) (hl : i + 18 ≤ l.length) (h : ∀ a0 a1 a2 a3 a4 a5 a6 a7 a8 a9 a10 a11 a12 a13 a14 a15 a16 a17 : Value, Pd (l.take i ++ (a0 :: a1 :: a2 :: a3 :: a4 :: a5 :: a6 :: a7 :: a8 :: a9 :: a10 :: a11 :: a12 :: a13 :: a14 :: a15 :: a16 :: a17 :: l.drop j)).toArray) : Pd l.toArray := by
  subst hj
  have key : ∀ (n : Nat) (m : List Value), n ≤ m.length → ∃ vs : List Value, vs.length = n ∧ m = vs ++ m.drop n := fun n m hn => ⟨m.take n, by simp; omega, (List.take_append_drop n m).symm⟩
  obtain ⟨vs, h1, h2⟩ := key 18 (l.drop i) (by simp; omega)
  rw [List.drop_drop] at h2
  match vs, h1 with
  | [a0, a1, a2, a3, a4, a5, a6, a7, a8, a9, a10, a11, a12, a13, a14, a15, a16, a17], _ =>
    have e : l.take i ++ (a0 :: a1 :: a2 :: a3 :: a4 :: a5 :: a6 :: a7 :: a8 :: a9 :: a10 :: a11 :: a12 :: a13 :: a14 :: a15 :: a16 :: a17 :: l.drop (i + 18)) = l := by
      rw [← List.take_append_drop i l]
      conv => rhs; rw [h2]
      simp
    rw [← e]
    exact h a0 a1 a2 a3 a4 a5 a6 a7 a8 a9 a10 a11 a12 a13 a14 a15 a16 a17
def TellV (v T own : Int) : Prop := v = T + own ∧ 0 ≤ own ∧ own ≤ 15
set_option maxRecDepth 100000 in
set_option maxHeartbeats 8000000 in
theorem c_l03Mark {n K : Nat} {F : List (List (List Int))} {fb fo fc : Nat} {tb to tc : Nat → Nat} {rb ro rc : Nat → Nat → Nat} (C : List Int) (u : Value) (X : Nat) (w : World) (hF : Tb3 w fb fo n K F tb to tc rb ro rc)
    (hKF : K = F.length) (hn0 : 1 ≤ n) (hn : n ≤ 12) (hK : K ≤ 12) (hfc : K ≤ fc) (hu : Ints w u C) (hC : C.length = n) (hX : X < n) (hr : ∀ x ∈ C, 0 ≤ x ∧ x ≤ 60) :
    Calls Try.prog 92 #[.slice (some ⟨fb, fo, none⟩) K fc, u, .int .i64 X] w (RInts w (markM n F C X)) := by
  obtain ⟨a, c, rfl, hc, hm⟩ := hu.shape
  rw [hC] at hc ⊢
  have hu0 : Ints w (.slice a n c) C := by rw [← hC]; rw [← hC] at hc; exact hu
  obtain ⟨ub, uo, rfl, _⟩ := hu0.get 0 (by omega)
  have HF := Lib.hid (And.intro hF hu0); have HKF := Lib.hid hKF; have HCl := Lib.hid hC
  have HR : Hid (∀ x : Nat, x < n → ∃ Y : Nat, nth C x = Y ∧ Y ≤ 60) := Lib.hid fun x hx => by
    have := hr _ (nth_mem (p := C) (x := (x : Int)) (by omega) (by omega))
    have h1 := this.1; have h2 := this.2
    exact ⟨(nth C x).toNat, by omega, by omega⟩
  have HV : Hid (∀ k x y : Nat, k < K → x < n → y < n → ∃ U : Nat, val2 (F.getD k []) x y = U ∧ U < n) := Lib.hid fun k x y hk hx hy => by
    have := (hF.at' k hk).rng x y (by omega) (by omega) (by omega) (by omega)
    exact ⟨(val2 (F.getD k []) x y).toNat, by omega, by omega⟩
  have hcx := hu0.at X (by omega)
  have hmk := run_make_row' (P := Try.prog) 26 2 (.int .i64 0) 8 Try.underlying26 inf_int64 rfl .i64 .i64 n (by omega) (by omega)
  clear hF hu0 hKF hC hr hu
  go_enter Try.func92, Try.ntmps92
  go_wp2
  go_region
  go_wp2
  have hB1 : Below w.heap.size w (w.alloc (.cells #[.int .i64 (nth C X)] 2)).drew := ((Below.refl _ w).alloc (Nat.le_refl _) _).drew
  have hO1 : Own w.heap.size (w.alloc (.cells #[.int .i64 (nth C X)] 2)).drew (.slice (some ⟨w.heap.size, 0, none⟩) 1 1) [nth C X] :=
    Own.of_blk (xs := [nth C X]) (heap_alloc_new w _) (Nat.le_refl _) (by simp [maxLen]) rfl rfl
  have HB1 := Lib.hid hB1; have HO1 := Lib.hid hO1
  clear hB1 hO1 hcx
  go_loopw [8, 9, 10, 11, 12, 13, 14, 15, 16, 17, 18, 19, 20, 21] (fun out kk _ _ _ _ _ _ _ _ _ _ _ _ wr => ∃ (k : Nat) (xs : List Int) (oa : Option Addr) (oc : Nat), k ≤ K ∧ kk = .int .i64 k ∧ out = .slice oa xs.length oc ∧ xs.length ≤ 1 + 24 * k ∧ Hid (xs = nth C X :: (F.take k).flatMap fun t => srt (rawM n t C X)) ∧ Hid (Below w.heap.size w wr) ∧ Hid (Own w.heap.size wr (.slice oa xs.length oc) xs)) (fun _ kk _ _ _ _ _ _ _ _ _ _ _ _ _ => K - (intOf kk).toNat)
  case atStart => exact ⟨0, [nth C X], _, _, Nat.zero_le _, rfl, rfl, by simp, Lib.hid (by simp), HB1, HO1⟩
  case round =>
    clear HB1 HO1
    obtain ⟨k, xs, oa, oc, hk, rfl, rfl, hxl, HX, HB, HO⟩ := hrel
    obtain ⟨wo, rfl⟩ : ∃ wo : World, wo = wr := ⟨_, rfl⟩
    by_cases hlt : k < K
    · obtain ⟨t, ht⟩ : ∃ t, F.getD k [] = t := ⟨_, rfl⟩
      have HT := Lib.hid ht
      go_wp2
      go_loopw [10, 11, 12, 13, 14] (fun l yy _ _ _ wi => ∃ (y : Nat) (ls : List Int) (la : Option Addr) (lc : Nat), y ≤ n ∧ yy = .int .i64 y ∧ l = .slice la ls.length lc ∧ Hid (ls.length = y) ∧ Hid (ls = (iota y).map (tellM t C X)) ∧ Hid (Below wo.heap.size wo wi) ∧ Hid (Own wo.heap.size wi (.slice la ls.length lc) ls)) (fun _ yy _ _ _ _ => n - (intOf yy).toNat)
      case atStart => exact ⟨0, [], _, _, Nat.zero_le _, rfl, rfl, Lib.hid rfl, Lib.hid (by simp [iota]), Lib.hid ((Below.refl _ _).alloc (Nat.le_refl _) _), Lib.hid (Own.made0 wo (Nat.le_refl _))⟩
      case round =>
        obtain ⟨y, ls, la, lc, hy, rfl, rfl, HLl, HL, Hb, Ho⟩ := hrel
        obtain ⟨wi, rfl⟩ : ∃ wi : World, wi = wr := ⟨_, rfl⟩
        by_cases hly : y < n
        · obtain ⟨U, hU, hUn⟩ := HV.out k X y hlt hX hly
          obtain ⟨V, hV, hVn⟩ := HV.out k y X hlt hly hX
          obtain ⟨CY, hCY, hCY6⟩ := HR.out y hly
          obtain ⟨CU, hCU, hCU6⟩ := HR.out U hUn
          obtain ⟨CV, hCV, hCV6⟩ := HR.out V hVn
          have tF := HF.out.1.below (bb HB.out Hb.out)
          have tU := HF.out.2.below (bb HB.out Hb.out)
          have q1 := tF.tab k hlt
          have q2 := (tF.at' k hlt).row X hX
          have q3 := (tF.at' k hlt).val X y hX hly
          have q4 := (tF.at' k hlt).row y hly
          have q5 := (tF.at' k hlt).val y X hly hX
          have c1 := tU.at y (by rw [HCl.out]; exact hly)
          have c2 := tU.at U (by rw [HCl.out]; exact hUn)
          have c3 := tU.at V (by rw [HCl.out]; exact hVn)
          rw [hU] at q3; rw [hV] at q5; rw [hCY] at c1; rw [hCU] at c2; rw [hCV] at c3
          have HTell : Hid (tellM t C X y = ((CY * 64 + CU) * 64 + CV) * 16 + ((if ((U : Int) == (y : Int)) = true then 1 else 0) + (if ((V : Int) == (y : Int)) = true then 2 else 0) + (if ((U : Int) == (X : Int)) = true then 4 else 0) + (if ((V : Int) == (X : Int)) = true then 8 else 0))) := Lib.hid (by
            unfold tellM ownM
            rw [← HT.out, hU, hV, hCY, hCU, hCV]
            simp only [beq_iff_eq])
          have HSn : Hid ((iota (y + 1)).map (tellM t C X) = (iota y).map (tellM t C X) ++ [tellM t C X y]) := Lib.hid (by rw [iota_succ]; simp)
          clear tF tU hU hV hCY hCU hCV
          go_wp2
          go_quiet (fail)
          rename_i nq
          have hbq : Below wi.heap.size wi (wi.drewN nq) := below_drewN (Below.refl _ _) nq
          generalize wi.drewN nq = wq at hbq ⊢
          have Hbd := Lib.hid (bb Hb.out hbq.drew)
          have Hod := Lib.hid (Ho.out.under hbq.drew)
          have HSd := Lib.hid (bb Hb.out hbq.drew).size
          have c1' := cell_under hbq.drew c1; have c2' := cell_under hbq.drew c2; have c3' := cell_under hbq.drew c3
          have HSA : Hid (∀ w', Below wq.heap.size wq w' → (fun w' => w'.cell? ⟨ub, uo + y, none⟩ = some (.int .i64 CY) ∧ w'.cell? ⟨ub, uo + U, none⟩ = some (.int .i64 CU) ∧ w'.cell? ⟨ub, uo + V, none⟩ = some (.int .i64 CV)) w') := by
            have c1q := cell_under hbq c1; have c2q := cell_under hbq c2; have c3q := cell_under hbq c3
            exact Lib.hid fun w' hb => ⟨cell_under hb c1q, cell_under hb c2q, cell_under hb c3q⟩
          clear q1 q2 q3 q4 q5 c1 c2 c3 hbq
          have w1 : IntKind.i64.wrap ((CY : Int) * 64) = (CY : Int) * 64 := IntWalk.i64_in _ (by omega)
          have w2 : IntKind.i64.wrap ((CY : Int) * 64 + CU) = (CY : Int) * 64 + CU := IntWalk.i64_in _ (by omega)
          have w3 : IntKind.i64.wrap (((CY : Int) * 64 + CU) * 64) = ((CY : Int) * 64 + CU) * 64 := IntWalk.i64_in _ (by omega)
          have w4 : IntKind.i64.wrap (((CY : Int) * 64 + CU) * 64 + CV) = ((CY : Int) * 64 + CU) * 64 + CV := IntWalk.i64_in _ (by omega)
          obtain ⟨TT, hTT⟩ : ∃ TT : Int, (((CY : Int) * 64 + CU) * 64 + CV) * 16 = TT := ⟨_, rfl⟩
          have w5 : IntKind.i64.wrap ((((CY : Int) * 64 + CU) * 64 + CV) * 16) = TT := by rw [hTT]; exact IntWalk.i64_in _ (by omega)
          have htl : 0 ≤ TT := by omega
          have hth : TT ≤ 1000000000 := by omega
          have HTell2 := Lib.hid (show tellM t C X y = TT + ((if ((U : Int) == (y : Int)) = true then 1 else 0) + (if ((V : Int) == (y : Int)) = true then 2 else 0) + (if ((U : Int) == (X : Int)) = true then 4 else 0) + (if ((V : Int) == (X : Int)) = true then 8 else 0)) by rw [HTell.out, hTT])
          clear HTell hTT
          have S0 := HSA.out _ (Below.refl _ wq).drew
          clear c1' c2' c3'
          have HLn : Hid (ls.length ≤ 1099511627776) := Lib.hid (by have := HLl.out; omega)
          have HubW : ub < wo.heap.size := by
            have h1 := cell_lt (HF.out.2.at 0 (by rw [HCl.out]; omega))
            exact Nat.lt_of_lt_of_le h1 HB.out.size
          have HSq : Hid (∀ (w' : World), Keep (fun b => (Value.slice la ls.length lc).ownBlock = some b) wq.drew w' → (fun w' => w'.cell? ⟨ub, uo + y, none⟩ = some (.int .i64 CY) ∧ w'.cell? ⟨ub, uo + U, none⟩ = some (.int .i64 CU) ∧ w'.cell? ⟨ub, uo + V, none⟩ = some (.int .i64 CV)) w') := Lib.hid fun w' hk => by
            have hs := HSA.out _ (Below.refl _ wq).drew
            have hlt := cell_lt hs.1
            have h2 := hk.block ub hlt (fun e => by have := (Hod.out.lt e).1; omega)
            have h3 : ∀ o u, wq.drew.cell? ⟨ub, o, none⟩ = some u → w'.cell? ⟨ub, o, none⟩ = some u := fun o u h => by
              simp only [World.cell?] at h ⊢
              rw [h2]; exact h
            exact ⟨h3 _ _ hs.1, h3 _ _ hs.2.1, h3 _ _ hs.2.2⟩
          apply cut_waysZ
          · intro key
            have hTell3 := HTell2.out
            obtain ⟨e1, d1⟩ : ∃ b, ((U : Int) == (y : Int)) = b := ⟨_, rfl⟩
            obtain ⟨e2, d2⟩ : ∃ b, ((V : Int) == (y : Int)) = b := ⟨_, rfl⟩
            obtain ⟨e3, d3⟩ : ∃ b, ((U : Int) == (X : Int)) = b := ⟨_, rfl⟩
            obtain ⟨e4, d4⟩ : ∃ b, ((V : Int) == (X : Int)) = b := ⟨_, rfl⟩
            rw [d1, d2, d3, d4] at hTell3
            have HTell4 := Lib.hid hTell3
            clear hTell3
            cases e1 <;> cases e2 <;> cases e3 <;> cases e4
            case false.false.false.false =>
              have HT3 : Hid (TellV (tellM t C X y) TT 0) := Lib.hid (by simpa [TellV] using HTell4.out)
              clear HTell4
              go_wp2
              refine forget18 (Pd := fun T => Code.wp _ _ _ ⟨T, _⟩ _) _ 61 79 rfl (by simp) ?_
              intro a0 a1 a2 a3 a4 a5 a6 a7 a8 a9 a10 a11 a12 a13 a14 a15 a16 a17
              simp only [List.take_succ_cons, List.take_zero, List.drop_succ_cons, List.drop_zero, List.cons_append, List.nil_append]
              revert HT3
              generalize (0 : Int) = own
              revert own a0 a1 a2 a3 a4 a5 a6 a7 a8 a9 a10 a11 a12 a13 a14 a15 a16 a17
              exact key.out
            case true.false.false.false =>
              have HT3 : Hid (TellV (tellM t C X y) TT 1) := Lib.hid (by simpa [TellV] using HTell4.out)
              clear HTell4
              go_wp2
              refine forget18 (Pd := fun T => Code.wp _ _ _ ⟨T, _⟩ _) _ 61 79 rfl (by simp) ?_
              intro a0 a1 a2 a3 a4 a5 a6 a7 a8 a9 a10 a11 a12 a13 a14 a15 a16 a17
              simp only [List.take_succ_cons, List.take_zero, List.drop_succ_cons, List.drop_zero, List.cons_append, List.nil_append]
              revert HT3
              generalize (1 : Int) = own
              revert own a0 a1 a2 a3 a4 a5 a6 a7 a8 a9 a10 a11 a12 a13 a14 a15 a16 a17
              exact key.out
            case false.true.false.false =>
              have HT3 : Hid (TellV (tellM t C X y) TT 2) := Lib.hid (by simpa [TellV] using HTell4.out)
              clear HTell4
              go_wp2
              refine forget18 (Pd := fun T => Code.wp _ _ _ ⟨T, _⟩ _) _ 61 79 rfl (by simp) ?_
              intro a0 a1 a2 a3 a4 a5 a6 a7 a8 a9 a10 a11 a12 a13 a14 a15 a16 a17
              simp only [List.take_succ_cons, List.take_zero, List.drop_succ_cons, List.drop_zero, List.cons_append, List.nil_append]
              revert HT3
              generalize (2 : Int) = own
              revert own a0 a1 a2 a3 a4 a5 a6 a7 a8 a9 a10 a11 a12 a13 a14 a15 a16 a17
              exact key.out
            case true.true.false.false =>
              have HT3 : Hid (TellV (tellM t C X y) TT 3) := Lib.hid (by simpa [TellV] using HTell4.out)
              clear HTell4
              go_wp2
              refine forget18 (Pd := fun T => Code.wp _ _ _ ⟨T, _⟩ _) _ 61 79 rfl (by simp) ?_
              intro a0 a1 a2 a3 a4 a5 a6 a7 a8 a9 a10 a11 a12 a13 a14 a15 a16 a17
              simp only [List.take_succ_cons, List.take_zero, List.drop_succ_cons, List.drop_zero, List.cons_append, List.nil_append]
              revert HT3
              generalize (3 : Int) = own
              revert own a0 a1 a2 a3 a4 a5 a6 a7 a8 a9 a10 a11 a12 a13 a14 a15 a16 a17
              exact key.out
            case false.false.true.false =>
              have HT3 : Hid (TellV (tellM t C X y) TT 4) := Lib.hid (by simpa [TellV] using HTell4.out)
              clear HTell4
              go_wp2
              refine forget18 (Pd := fun T => Code.wp _ _ _ ⟨T, _⟩ _) _ 61 79 rfl (by simp) ?_
              intro a0 a1 a2 a3 a4 a5 a6 a7 a8 a9 a10 a11 a12 a13 a14 a15 a16 a17
              simp only [List.take_succ_cons, List.take_zero, List.drop_succ_cons, List.drop_zero, List.cons_append, List.nil_append]
              revert HT3
              generalize (4 : Int) = own
              revert own a0 a1 a2 a3 a4 a5 a6 a7 a8 a9 a10 a11 a12 a13 a14 a15 a16 a17
              exact key.out
            case true.false.true.false =>
              have HT3 : Hid (TellV (tellM t C X y) TT 5) := Lib.hid (by simpa [TellV] using HTell4.out)
              clear HTell4
              go_wp2
              refine forget18 (Pd := fun T => Code.wp _ _ _ ⟨T, _⟩ _) _ 61 79 rfl (by simp) ?_
              intro a0 a1 a2 a3 a4 a5 a6 a7 a8 a9 a10 a11 a12 a13 a14 a15 a16 a17
              simp only [List.take_succ_cons, List.take_zero, List.drop_succ_cons, List.drop_zero, List.cons_append, List.nil_append]
              revert HT3
              generalize (5 : Int) = own
              revert own a0 a1 a2 a3 a4 a5 a6 a7 a8 a9 a10 a11 a12 a13 a14 a15 a16 a17
              exact key.out
            case false.true.true.false =>
              have HT3 : Hid (TellV (tellM t C X y) TT 6) := Lib.hid (by simpa [TellV] using HTell4.out)
              clear HTell4
              go_wp2
              refine forget18 (Pd := fun T => Code.wp _ _ _ ⟨T, _⟩ _) _ 61 79 rfl (by simp) ?_
              intro a0 a1 a2 a3 a4 a5 a6 a7 a8 a9 a10 a11 a12 a13 a14 a15 a16 a17
              simp only [List.take_succ_cons, List.take_zero, List.drop_succ_cons, List.drop_zero, List.cons_append, List.nil_append]
              revert HT3
              generalize (6 : Int) = own
              revert own a0 a1 a2 a3 a4 a5 a6 a7 a8 a9 a10 a11 a12 a13 a14 a15 a16 a17
              exact key.out
            case true.true.true.false =>
              have HT3 : Hid (TellV (tellM t C X y) TT 7) := Lib.hid (by simpa [TellV] using HTell4.out)
              clear HTell4
              go_wp2
              refine forget18 (Pd := fun T => Code.wp _ _ _ ⟨T, _⟩ _) _ 61 79 rfl (by simp) ?_
              intro a0 a1 a2 a3 a4 a5 a6 a7 a8 a9 a10 a11 a12 a13 a14 a15 a16 a17
              simp only [List.take_succ_cons, List.take_zero, List.drop_succ_cons, List.drop_zero, List.cons_append, List.nil_append]
              revert HT3
              generalize (7 : Int) = own
              revert own a0 a1 a2 a3 a4 a5 a6 a7 a8 a9 a10 a11 a12 a13 a14 a15 a16 a17
              exact key.out
            case false.false.false.true =>
              have HT3 : Hid (TellV (tellM t C X y) TT 8) := Lib.hid (by simpa [TellV] using HTell4.out)
              clear HTell4
              go_wp2
              refine forget18 (Pd := fun T => Code.wp _ _ _ ⟨T, _⟩ _) _ 61 79 rfl (by simp) ?_
              intro a0 a1 a2 a3 a4 a5 a6 a7 a8 a9 a10 a11 a12 a13 a14 a15 a16 a17
              simp only [List.take_succ_cons, List.take_zero, List.drop_succ_cons, List.drop_zero, List.cons_append, List.nil_append]
              revert HT3
              generalize (8 : Int) = own
              revert own a0 a1 a2 a3 a4 a5 a6 a7 a8 a9 a10 a11 a12 a13 a14 a15 a16 a17
              exact key.out
            case true.false.false.true =>
              have HT3 : Hid (TellV (tellM t C X y) TT 9) := Lib.hid (by simpa [TellV] using HTell4.out)
              clear HTell4
              go_wp2
              refine forget18 (Pd := fun T => Code.wp _ _ _ ⟨T, _⟩ _) _ 61 79 rfl (by simp) ?_
              intro a0 a1 a2 a3 a4 a5 a6 a7 a8 a9 a10 a11 a12 a13 a14 a15 a16 a17
              simp only [List.take_succ_cons, List.take_zero, List.drop_succ_cons, List.drop_zero, List.cons_append, List.nil_append]
              revert HT3
              generalize (9 : Int) = own
              revert own a0 a1 a2 a3 a4 a5 a6 a7 a8 a9 a10 a11 a12 a13 a14 a15 a16 a17
              exact key.out
            case false.true.false.true =>
              have HT3 : Hid (TellV (tellM t C X y) TT 10) := Lib.hid (by simpa [TellV] using HTell4.out)
              clear HTell4
              go_wp2
              refine forget18 (Pd := fun T => Code.wp _ _ _ ⟨T, _⟩ _) _ 61 79 rfl (by simp) ?_
              intro a0 a1 a2 a3 a4 a5 a6 a7 a8 a9 a10 a11 a12 a13 a14 a15 a16 a17
              simp only [List.take_succ_cons, List.take_zero, List.drop_succ_cons, List.drop_zero, List.cons_append, List.nil_append]
              revert HT3
              generalize (10 : Int) = own
              revert own a0 a1 a2 a3 a4 a5 a6 a7 a8 a9 a10 a11 a12 a13 a14 a15 a16 a17
              exact key.out
            case true.true.false.true =>
              have HT3 : Hid (TellV (tellM t C X y) TT 11) := Lib.hid (by simpa [TellV] using HTell4.out)
              clear HTell4
              go_wp2
              refine forget18 (Pd := fun T => Code.wp _ _ _ ⟨T, _⟩ _) _ 61 79 rfl (by simp) ?_
              intro a0 a1 a2 a3 a4 a5 a6 a7 a8 a9 a10 a11 a12 a13 a14 a15 a16 a17
              simp only [List.take_succ_cons, List.take_zero, List.drop_succ_cons, List.drop_zero, List.cons_append, List.nil_append]
              revert HT3
              generalize (11 : Int) = own
              revert own a0 a1 a2 a3 a4 a5 a6 a7 a8 a9 a10 a11 a12 a13 a14 a15 a16 a17
              exact key.out
            case false.false.true.true =>
              have HT3 : Hid (TellV (tellM t C X y) TT 12) := Lib.hid (by simpa [TellV] using HTell4.out)
              clear HTell4
              go_wp2
              refine forget18 (Pd := fun T => Code.wp _ _ _ ⟨T, _⟩ _) _ 61 79 rfl (by simp) ?_
              intro a0 a1 a2 a3 a4 a5 a6 a7 a8 a9 a10 a11 a12 a13 a14 a15 a16 a17
              simp only [List.take_succ_cons, List.take_zero, List.drop_succ_cons, List.drop_zero, List.cons_append, List.nil_append]
              revert HT3
              generalize (12 : Int) = own
              revert own a0 a1 a2 a3 a4 a5 a6 a7 a8 a9 a10 a11 a12 a13 a14 a15 a16 a17
              exact key.out
            case true.false.true.true =>
              have HT3 : Hid (TellV (tellM t C X y) TT 13) := Lib.hid (by simpa [TellV] using HTell4.out)
              clear HTell4
              go_wp2
              refine forget18 (Pd := fun T => Code.wp _ _ _ ⟨T, _⟩ _) _ 61 79 rfl (by simp) ?_
              intro a0 a1 a2 a3 a4 a5 a6 a7 a8 a9 a10 a11 a12 a13 a14 a15 a16 a17
              simp only [List.take_succ_cons, List.take_zero, List.drop_succ_cons, List.drop_zero, List.cons_append, List.nil_append]
              revert HT3
              generalize (13 : Int) = own
              revert own a0 a1 a2 a3 a4 a5 a6 a7 a8 a9 a10 a11 a12 a13 a14 a15 a16 a17
              exact key.out
            case false.true.true.true =>
              have HT3 : Hid (TellV (tellM t C X y) TT 14) := Lib.hid (by simpa [TellV] using HTell4.out)
              clear HTell4
              go_wp2
              refine forget18 (Pd := fun T => Code.wp _ _ _ ⟨T, _⟩ _) _ 61 79 rfl (by simp) ?_
              intro a0 a1 a2 a3 a4 a5 a6 a7 a8 a9 a10 a11 a12 a13 a14 a15 a16 a17
              simp only [List.take_succ_cons, List.take_zero, List.drop_succ_cons, List.drop_zero, List.cons_append, List.nil_append]
              revert HT3
              generalize (14 : Int) = own
              revert own a0 a1 a2 a3 a4 a5 a6 a7 a8 a9 a10 a11 a12 a13 a14 a15 a16 a17
              exact key.out
            case true.true.true.true =>
              have HT3 : Hid (TellV (tellM t C X y) TT 15) := Lib.hid (by simpa [TellV] using HTell4.out)
              clear HTell4
              go_wp2
              refine forget18 (Pd := fun T => Code.wp _ _ _ ⟨T, _⟩ _) _ 61 79 rfl (by simp) ?_
              intro a0 a1 a2 a3 a4 a5 a6 a7 a8 a9 a10 a11 a12 a13 a14 a15 a16 a17
              simp only [List.take_succ_cons, List.take_zero, List.drop_succ_cons, List.drop_zero, List.cons_append, List.nil_append]
              revert HT3
              generalize (15 : Int) = own
              revert own a0 a1 a2 a3 a4 a5 a6 a7 a8 a9 a10 a11 a12 a13 a14 a15 a16 a17
              exact key.out
          intro a0 a1 a2 a3 a4 a5 a6 a7 a8 a9 a10 a11 a12 a13 a14 a15 a16 a17 own HT3
          have how1 := HT3.out.2.1
          have how2 := HT3.out.2.2
          have w6 : IntKind.i64.wrap (TT + own) = TT + own := IntWalk.i64_in _ (by omega)
          have S1 := HSA.out (wq.alloc (.cells #[.int .i64 (TT + own)] 2)).drew ((Below.refl _ wq).alloc (Nat.le_refl _) _).drew
          clear HTell2
          go_region_held3 (fun w' => w'.cell? ⟨ub, uo + y, none⟩ = some (.int .i64 CY) ∧ w'.cell? ⟨ub, uo + U, none⟩ = some (.int .i64 CU) ∧ w'.cell? ⟨ub, uo + V, none⟩ = some (.int .i64 CV)) (first | go_keep | exact HSA.out _ ((Below.refl _ wq).alloc (Nat.le_refl _) _).drew | exact Hq) (first
            | (refine step_app_int wo.heap.size wq.drew _ ls (TT + own) (.tmp 79) (.tmp 99) rfl rfl rfl Hod.out rfl HLn.out HSd.out ?_; intro a' c' w' hown' hkeep hg'; have Hq := HSq.out _ hkeep; have Hk := Lib.hid hkeep; have Ho' := Lib.hid hown'; clear hkeep hown' hg'))
          all_goals
            go_wp2
            go_roundw
            case rel => exact ⟨y + 1, ls ++ [TT + own], some ⟨a', 0, none⟩, c', by omega, by go_num, by simp, Lib.hid (by simp [HLl.out]), Lib.hid (by rw [HSn.out, HT3.out.1, HL.out]), Lib.hid (Hod.out.frame Hbd.out (Nat.le_refl _) HSd.out Hk.out), Lib.hid (by simpa using Ho'.out)⟩
            case measure => simp [intOf]; omega
        · obtain rfl : n = y := by omega
          have hcb : wo.heap.size ≤ wi.heap.size := Hb.out.size
          have hBc : Below wi.heap.size wi (wi.alloc (.cells (madeCells #[.int .i64 0] n) 2)) := (Below.refl _ _).alloc (Nat.le_refl _) _
          have hKc : Blk (wi.alloc (.cells (madeCells #[.int .i64 0] n) 2)) wi.heap.size 2 ((List.replicate n (0 : Int)).map (Value.int .i64) ++ []) := by
            have := Blk.made wi (.int .i64 0) n 2
            simpa using this
          have HBc := Lib.hid hBc; have HKc := Lib.hid hKc
          clear hBc hKc
          go_wp2
          go_loopw [16, 17] (fun yy _ wr => ∃ (y : Nat) (Cn : List Int), y ≤ n ∧ yy = .int .i64 y ∧ Hid (Blk wr wi.heap.size 2 (Cn.map (Value.int .i64) ++ [])) ∧ Hid (Cn.length = n) ∧ Hid (∀ j : Nat, j < n → nth Cn j = if j < y then cntM n t X j else 0) ∧ Hid (Below wi.heap.size wi wr)) (fun yy _ _ => n - (intOf yy).toNat)
          case atStart => exact ⟨0, List.replicate n 0, Nat.zero_le _, rfl, HKc, Lib.hid (by simp), Lib.hid (fun j hj => by rw [if_neg (by omega), nth_nat _ _ (by simpa using hj)]; simp), HBc⟩
          case round =>
            clear HBc HKc
            obtain ⟨y, Cn, hy, rfl, HKc, HCn, HCv, HBc⟩ := hrel
            obtain ⟨wp, rfl⟩ : ∃ wp : World, wp = wr := ⟨_, rfl⟩
            by_cases hly : y < n
            · go_wp2
              go_loopw [17] (fun zz wr => ∃ (z : Nat) (Cn : List Int), z ≤ n ∧ zz = .int .i64 z ∧ Hid (Blk wr wi.heap.size 2 (Cn.map (Value.int .i64) ++ [])) ∧ Hid (Cn.length = n) ∧ Hid (∀ j : Nat, j < n → nth Cn j = if j < y then cntM n t X j else if j = y then ((iota z).countP (fun q => decide (val2 t y q = X)) : Nat) else 0) ∧ Hid (Below wi.heap.size wi wr)) (fun zz _ => n - (intOf zz).toNat)
              case atStart => exact ⟨0, Cn, Nat.zero_le _, rfl, HKc, HCn, Lib.hid (fun j hj => by rw [HCv.out j hj]; by_cases e : j < y <;> simp [e, iota]), HBc⟩
              case round =>
                clear HKc HCn HCv HBc
                obtain ⟨z, Cn, hz, rfl, HKc, HCn, HCv, HBc⟩ := hrel
                obtain ⟨wq, rfl⟩ : ∃ wq : World, wq = wr := ⟨_, rfl⟩
                by_cases hlz : z < n
                · obtain ⟨U, hU, hUn⟩ := HV.out k y z hlt hly hlz
                  have tF := HF.out.1.below (bb HB.out (bb Hb.out HBc.out))
                  have q1 := tF.tab k hlt
                  have q2 := (tF.at' k hlt).row y hly
                  have q3 := (tF.at' k hlt).val y z hly hlz
                  have g1 := HKc.out.at' y (by rw [HCn.out]; exact hly)
                  have g2 := HKc.out.frozen y
                  have hcy := HCv.out y hly
                  rw [if_neg (by omega), if_pos rfl] at hcy
                  have hQle : (iota z).countP (fun q => decide (val2 t y q = X)) ≤ 12 := by
                    have := List.countP_le_length (p := fun q => decide (val2 t y q = X)) (l := iota z)
                    simp at this; omega
                  obtain ⟨Q, hQ⟩ : ∃ Q, (iota z).countP (fun q => decide (val2 t y q = X)) = Q := ⟨_, rfl⟩
                  have HCQ := Lib.hid hQ
                  rw [hQ] at hcy hQle
                  rw [hcy] at g1
                  rw [hU] at q3
                  have HCnt : Hid ((iota (z + 1)).countP (fun q => decide (val2 t y q = X)) = Q + if (U : Int) = X then 1 else 0) := Lib.hid (by
                    rw [iota_succ, List.countP_append, hQ, List.countP_cons, List.countP_nil, ← HT.out, hU]
                    simp)
                  have wQ : IntKind.i64.wrap ((Q : Int) + 1) = (Q : Int) + 1 := IntWalk.i64_in _ (by omega)
                  clear tF hU hQ hcy
                  obtain ⟨e1, d1⟩ : ∃ b, ((U : Int) == (X : Int)) = b := ⟨_, rfl⟩
                  cases e1
                  case true =>
                    have hUX : (U : Int) = X := by simpa using d1
                    have HCnt2 := HCnt.out
                    rw [if_pos hUX] at HCnt2
                    have HCnt3 := Lib.hid HCnt2
                    have HKp := Lib.hid (HKc.out.put' y (by rw [HCn.out]; exact hly) ((Q : Int) + 1))
                    have HBp := Lib.hid (HBc.out.setCell (p := ⟨wi.heap.size, y, none⟩) (Nat.le_refl _) (.int .i64 ((Q : Int) + 1)))
                    have HVp : Hid (∀ j : Nat, j < n → nth (Cn.set y ((Q : Int) + 1)) j = if j < y then cntM n t X j else if j = y then ((iota (z + 1)).countP (fun q => decide (val2 t y q = X)) : Nat) else 0) := Lib.hid (fun j hj => by
                      have h1 := nth_set Cn (y : Int) (j : Int) ((Q : Int) + 1) (by omega) (by rw [HCn.out]; omega) (by omega)
                      rw [Int.toNat_natCast] at h1
                      rw [h1, HCnt3.out]
                      by_cases e : j = y
                      · subst e; rw [if_pos rfl, if_neg (by omega), if_pos rfl]; omega
                      · rw [if_neg (by omega), HCv.out j hj, if_neg e, if_neg e])
                    clear hUX HCnt2 HCnt HCv
                    go_wp2
                    go_roundw
                    case rel => exact ⟨z + 1, Cn.set y ((Q : Int) + 1), by omega, by go_num, HKp, Lib.hid (by simpa using HCn.out), HVp, HBp⟩
                    case measure => simp [intOf]; omega
                  case false =>
                    have hUX : ¬ (U : Int) = X := by simpa using d1
                    have HCnt2 := HCnt.out
                    rw [if_neg hUX, Nat.add_zero] at HCnt2
                    have HCnt3 := Lib.hid HCnt2
                    have HVp : Hid (∀ j : Nat, j < n → nth Cn j = if j < y then cntM n t X j else if j = y then ((iota (z + 1)).countP (fun q => decide (val2 t y q = X)) : Nat) else 0) := Lib.hid (fun j hj => by
                      rw [HCv.out j hj, HCnt3.out]
                      by_cases e : j = y
                      · subst e; rw [if_neg (by omega), if_pos rfl, if_neg (by omega), if_pos rfl]; rw [← HCQ.out]; simp
                      · rw [if_neg e, if_neg e])
                    clear hUX HCnt2 HCnt HCv
                    go_wp2
                    go_roundw
                    case rel => exact ⟨z + 1, Cn, by omega, by go_num, HKc, HCn, HVp, HBc⟩
                    case measure => simp [intOf]; omega
                · obtain rfl : n = z := by omega
                  go_wp2
                  go_roundw
                  case rel =>
                    refine ⟨y + 1, Cn, by omega, by go_num, HKc, HCn, Lib.hid (fun j hj => ?_), HBc⟩
                    rw [HCv.out j hj]
                    by_cases e : j < y
                    · rw [if_pos e, if_pos (by omega)]
                    · rw [if_neg e]
                      by_cases e2 : j = y
                      · subst e2; rw [if_pos rfl, if_pos (by omega)]; rfl
                      · rw [if_neg e2, if_neg (by omega)]
                  case measure => simp [intOf]; omega
            · obtain rfl : n = y := by omega
              have HCv2 : Hid (∀ j : Nat, j < n → ∃ Q : Nat, nth Cn j = Q ∧ Q ≤ 12 ∧ cntM n t X j = Q) := Lib.hid (fun j hj => by
                have h1 := HCv.out j hj
                rw [if_pos hj] at h1
                refine ⟨(iota n).countP fun z => decide (val2 t j z = X), h1, ?_, rfl⟩
                have := List.countP_le_length (p := fun z => decide (val2 t j z = X)) (l := iota n)
                simp at this; omega)
              have HNe : Hid (wi.heap.size < wp.heap.size ∧ (Value.slice la ls.length lc).ownBlock ≠ some wi.heap.size) := Lib.hid ⟨HKc.out.lt, fun e => by have := (Ho.out.lt e).2; omega⟩
              have Ho2 := Lib.hid (Ho.out.under HBc.out)
              have Hb2 := Lib.hid (bb Hb.out HBc.out)
              have HL2 : Hid (ls = (iota n).map (tellM t C X) ++ (iota 0).map (tellC n t C X)) := Lib.hid (by rw [HL.out]; simp [iota])
              have HLl2 : Hid (ls.length = n + 0) := Lib.hid (by rw [HLl.out]; rfl)
              clear HCv Ho Hb HL HLl
              go_wp2
              go_loopw [10, 18] (fun l yy wr => ∃ (y : Nat) (ls : List Int) (la : Option Addr) (lc : Nat), y ≤ n ∧ yy = .int .i64 y ∧ l = .slice la ls.length lc ∧ Hid (ls.length = n + y) ∧ Hid (ls = (iota n).map (tellM t C X) ++ (iota y).map (tellC n t C X)) ∧ Hid (Below wo.heap.size wo wr) ∧ Hid (Own wo.heap.size wr (.slice la ls.length lc) ls) ∧ Hid (Blk wr wi.heap.size 2 (Cn.map (Value.int .i64) ++ [])) ∧ Hid (wi.heap.size < wr.heap.size ∧ (Value.slice la ls.length lc).ownBlock ≠ some wi.heap.size)) (fun _ yy _ => n - (intOf yy).toNat)
              case atStart => exact ⟨0, ls, la, lc, Nat.zero_le _, rfl, rfl, HLl2, HL2, Hb2, Ho2, HKc, HNe⟩
              case round =>
                clear HKc HNe Ho2 Hb2 HL2 HLl2 HBc
                obtain ⟨y, ls, la, lc, hy, rfl, rfl, HLl, HL, Hb, Ho, HKc, HNe⟩ := hrel
                obtain ⟨wq, rfl⟩ : ∃ wq : World, wq = wr := ⟨_, rfl⟩
                by_cases hly : y < n
                · obtain ⟨CY, hCY, hCY6⟩ := HR.out y hly
                  obtain ⟨Q, hQ, hQ12, hQc⟩ := HCv2.out y hly
                  have HTell : Hid (tellC n t C X y = 1099511627776 + (CY : Int) * 64 + Q) := Lib.hid (by unfold tellC; rw [hCY, hQc])
                  have HSn : Hid ((iota (y + 1)).map (tellC n t C X) = (iota y).map (tellC n t C X) ++ [tellC n t C X y]) := Lib.hid (by rw [iota_succ]; simp)
                  have tU := HF.out.2.below (bb HB.out Hb.out)
                  have c1 := tU.at y (by rw [HCl.out]; exact hly)
                  rw [hCY] at c1
                  have c2 := HKc.out.at' y (by rw [HCn.out]; exact hly)
                  rw [hQ] at c2
                  have HubW : ub < wo.heap.size := by
                    have h1 := cell_lt (HF.out.2.at 0 (by rw [HCl.out]; omega))
                    exact Nat.lt_of_lt_of_le h1 HB.out.size
                  have HSA : Hid (∀ w', Below wq.heap.size wq w' → (fun w' => w'.cell? ⟨ub, uo + y, none⟩ = some (.int .i64 CY) ∧ w'.cell? ⟨wi.heap.size, y, none⟩ = some (.int .i64 Q)) w') := Lib.hid fun w' hb => ⟨cell_under hb c1, cell_under hb c2⟩
                  have HSq : Hid (∀ (w' : World), Keep (fun b => (Value.slice la ls.length lc).ownBlock = some b) wq.drew w' → (fun w' => w'.cell? ⟨ub, uo + y, none⟩ = some (.int .i64 CY) ∧ w'.cell? ⟨wi.heap.size, y, none⟩ = some (.int .i64 Q)) w') := Lib.hid fun w' hk => by
                    have hs := HSA.out _ (Below.refl _ wq).drew
                    have h2 := hk.block ub (cell_lt hs.1) (fun e => by have := (Ho.out.lt e).1; omega)
                    have h2' := hk.block wi.heap.size (cell_lt hs.2) HNe.out.2
                    refine ⟨?_, ?_⟩
                    · have h := hs.1; simp only [World.cell?] at h ⊢; rw [h2]; exact h
                    · have h := hs.2; simp only [World.cell?] at h ⊢; rw [h2']; exact h
                  have HKq : Hid (∀ (w' : World), Keep (fun b => (Value.slice la ls.length lc).ownBlock = some b) wq.drew w' → Blk w' wi.heap.size 2 (Cn.map (Value.int .i64) ++ [])) := Lib.hid fun w' hk => HKc.out.drew.of_block (hk.block _ HKc.out.lt HNe.out.2)
                  have Hod := Lib.hid (Ho.out.under (Below.refl _ wq).drew)
                  have Hbd := Lib.hid (bb Hb.out (Below.refl _ wq).drew)
                  have HSd := Lib.hid (bb Hb.out (Below.refl _ wq).drew).size
                  have HLn : Hid (ls.length ≤ 1099511627776) := Lib.hid (by have := HLl.out; omega)
                  have w1 : IntKind.i64.wrap ((CY : Int) * 64) = (CY : Int) * 64 := IntWalk.i64_in _ (by omega)
                  have w2 : IntKind.i64.wrap (1099511627776 + (CY : Int) * 64) = 1099511627776 + (CY : Int) * 64 := IntWalk.i64_in _ (by omega)
                  have w3 : IntKind.i64.wrap (1099511627776 + (CY : Int) * 64 + Q) = 1099511627776 + (CY : Int) * 64 + Q := IntWalk.i64_in _ (by omega)
                  have S0 := HSA.out _ (Below.refl _ wq).drew
                  have S1 := HSA.out (wq.alloc (.cells #[.int .i64 (1099511627776 + (CY : Int) * 64 + Q)] 2)).drew ((Below.refl _ wq).alloc (Nat.le_refl _) _).drew
                  clear tU hCY hQ hQc c1 c2
                  go_wp2
                  go_region_held3 (fun w' => w'.cell? ⟨ub, uo + y, none⟩ = some (.int .i64 CY) ∧ w'.cell? ⟨wi.heap.size, y, none⟩ = some (.int .i64 Q)) (first | go_keep | exact HSA.out _ ((Below.refl _ wq).alloc (Nat.le_refl _) _).drew | exact Hq) (first
                    | (refine step_app_int wo.heap.size wq.drew _ ls (1099511627776 + (CY : Int) * 64 + Q) (.tmp 136) (.tmp 148) rfl rfl rfl Hod.out rfl HLn.out HSd.out ?_; intro a' c' w' hown' hkeep hg'; have Hq := HSq.out _ hkeep; have Hk := Lib.hid hkeep; have Ho' := Lib.hid hown'; have Hg := Lib.hid (show (Value.slice la ls.length lc).ownBlock = some a' ∨ wq.drew.heap.size ≤ a' from hg'); clear hkeep hown' hg'))
                  all_goals
                    go_wp2
                    go_roundw
                    case rel => exact ⟨y + 1, ls ++ [1099511627776 + (CY : Int) * 64 + Q], some ⟨a', 0, none⟩, c', by omega, by go_num, by simp, Lib.hid (by simp [HLl.out]; omega), Lib.hid (by rw [HSn.out, HTell.out, HL.out, List.append_assoc]), Lib.hid (Hod.out.frame Hbd.out (Nat.le_refl _) HSd.out Hk.out), Lib.hid (by simpa using Ho'.out), Lib.hid (HKq.out _ Hk.out), Lib.hid ⟨Nat.lt_of_lt_of_le HNe.out.1 Hk.out.size, fun e => by
                      have e2 : a' = wi.heap.size := by simpa [Value.ownBlock] using e
                      rcases Hg.out with h | h
                      · exact HNe.out.2 (by rw [h, e2])
                      · have h3 := HNe.out.1
                        have h4 : wq.heap.size ≤ a' := h
                        omega⟩⟩
                    case measure => simp [intOf]; omega
                · obtain rfl : n = y := by omega
                  rcases Ho.out.open with ⟨_, h0⟩ | ⟨g, cs, hv, hgB, hgb, hgm⟩
                  · exfalso; have := HLl.out; rw [h0] at this; simp at this; omega
                  injection hv with f1 f2 f3
                  subst f1 f3
                  clear f2
                  obtain ⟨L, hL⟩ : ∃ L, ls.length = L := ⟨_, rfl⟩
                  have hLn : L = n + n := by rw [← hL, HLl.out]
                  have HLL := Lib.hid hL
                  have HSrt : Hid (∀ S : List Int, S.Perm ls → S.Pairwise (· ≤ ·) → S = srt (rawM n t C X)) := Lib.hid fun S hp hs => by
                    refine srt_is ?_ hs
                    rw [HL.out] at hp
                    exact hp
                  have hlcap : L + cs.length ≤ 9223372036854775807 := by rw [hL] at hgm; unfold maxLen at hgm; omega
                  have hL24 : L ≤ 24 := by omega
                  have hL2 : 2 ≤ L := by omega
                  have HGB := Lib.hid hgB; have HGb := Lib.hid hgb; have HGm := Lib.hid hgm
                  have HBq := Hb
                  rw [hL]
                  clear Ho HKc HNe hgB hgb hgm HLl HL hL HCv2 HCn hLn Hb
                  go_wp2
                  go_loopw [19, 20, 21] (fun ii _ _ wr => ∃ (i : Nat) (S : List Int), 1 ≤ i ∧ i ≤ L ∧ ii = .int .i64 i ∧ Hid (S.Perm ls) ∧ Hid (SorP i S) ∧ Hid (Blk wr g 2 (S.map (Value.int .i64) ++ cs)) ∧ Hid (Keep (fun b => b = g) wq wr)) (fun ii _ _ _ => L - (intOf ii).toNat)
                  case atStart => exact ⟨1, ls, Nat.le_refl _, by omega, rfl, Lib.hid (List.Perm.refl _), Lib.hid (fun a b h1 h2 => by omega), HGb, Lib.hid (Keep.refl _ _)⟩
                  case round =>
                    clear HGb
                    obtain ⟨i, S, hi1, hi2, rfl, HP, HS, HGb, HGk⟩ := hrel
                    obtain ⟨wx, rfl⟩ : ∃ wx : World, wx = wr := ⟨_, rfl⟩
                    by_cases hlti : i < L
                    · go_wp2
                      go_loopw [20, 21] (fun jj _ wr => ∃ (j : Nat) (T : List Int), j ≤ i ∧ jj = .int .i64 j ∧ Hid (T.Perm ls) ∧ Hid (InsP i j T) ∧ Hid (Blk wr g 2 (T.map (Value.int .i64) ++ cs)) ∧ Hid (Keep (fun b => b = g) wq wr)) (fun jj _ _ => (intOf jj).toNat)
                      case atStart => exact ⟨i, S, Nat.le_refl _, rfl, HP, Lib.hid (InsP.start HS.out), HGb, HGk⟩
                      case round =>
                        clear HP HS HGb HGk
                        obtain ⟨j, T, hj, rfl, HP, HS, HGb, HGk⟩ := hrel
                        obtain ⟨wz, rfl⟩ : ∃ wz : World, wz = wr := ⟨_, rfl⟩
                        have HTl : Hid (T.length = L) := Lib.hid (by rw [← HLL.out]; exact HP.out.length_eq)
                        by_cases hj0 : 0 < j
                        · obtain ⟨m, rfl⟩ : ∃ m, j = m + 1 := ⟨j - 1, by omega⟩
                          have h1 := HGb.out.at' (m + 1) (by rw [HTl.out]; omega)
                          have h2 := HGb.out.at' m (by rw [HTl.out]; omega)
                          have f1 := HGb.out.frozen (m + 1)
                          have f2 := HGb.out.frozen m
                          have em : (((m + 1 : Nat) : Int) - 1) = (m : Int) := by omega
                          have em2 : (m : Int) + 1 - 1 = (m : Int) := by omega
                          obtain ⟨P, hP⟩ : ∃ P, nth T ((m + 1 : Nat) : Int) = P := ⟨_, rfl⟩
                          obtain ⟨R, hR⟩ : ∃ R, nth T (m : Int) = R := ⟨_, rfl⟩
                          rw [hP] at h1; rw [hR] at h2
                          have HPR := Lib.hid (And.intro hP hR)
                          clear hP hR
                          by_cases hle : P < R
                          · have HLE := Lib.hid hle
                            have hd : decide (P < R) = true := by simpa using hle
                            clear hle
                            go_wp2
                            go_quiet (fail)
                            rename_i nq
                            have hbq : Below wz.heap.size wz (wz.drewN nq) := below_drewN (Below.refl _ _) nq
                            generalize wz.drewN nq = wv at hbq ⊢
                            have HBv := Lib.hid (HGb.out.under hbq)
                            have HKv := Lib.hid (HGk.out.under hbq)
                            clear h1 h2 f1 f2 hbq
                            have h1 := HBv.out.at' (m + 1) (by rw [HTl.out]; omega)
                            have h2 := HBv.out.at' m (by rw [HTl.out]; omega)
                            have f1 := HBv.out.frozen (m + 1)
                            have f2 := (HBv.out.put' (m + 1) (by rw [HTl.out]; omega) R).frozen m
                            rw [HPR.out.1] at h1; rw [HPR.out.2] at h2
                            have HB2 := Lib.hid ((HBv.out.put' (m + 1) (by rw [HTl.out]; omega) R).put' m (by simp; rw [HTl.out]; omega) P)
                            have HK2 := Lib.hid ((HKv.out.setCell (p := ⟨g, m + 1, none⟩) (.inl rfl) (.int .i64 R)).setCell (p := ⟨g, m, none⟩) (.inl rfl) (.int .i64 P))
                            have HSw : Hid ((T.set (m + 1) R).set m P = swp T (m + 1)) := Lib.hid (by
                              unfold swp
                              rw [em, HPR.out.1, HPR.out.2]; try simp)
                            go_wp2
                            go_roundw
                            case rel => exact ⟨m, (T.set (m + 1) R).set m P, by omega, by go_num, Lib.hid (by rw [HSw.out]; exact (swp_perm (by omega) (by rw [HTl.out]; omega)).trans HP.out), Lib.hid (by
                              rw [HSw.out]
                              have := HS.out.step (by omega) (by rw [HTl.out]; omega) (by omega) (by rw [em, HPR.out.1, HPR.out.2]; exact HLE.out)
                              exact this), HB2, HK2⟩
                            case measure => simp [intOf]
                          · have HLE := Lib.hid hle
                            have hd : decide (P < R) = false := by simpa using hle
                            clear hle
                            go_wp2
                            go_quiet (fail)
                            rename_i nq
                            have hbq : Below wz.heap.size wz (wz.drewN nq) := below_drewN (Below.refl _ _) nq
                            generalize wz.drewN nq = wv at hbq ⊢
                            have HBv := Lib.hid (HGb.out.under hbq)
                            have HKv := Lib.hid (HGk.out.under hbq)
                            clear h1 h2 f1 f2 hbq
                            go_wp2
                            go_roundw
                            case rel => exact ⟨i + 1, T, by omega, by omega, by go_num, HP, Lib.hid (HS.out.done (fun _ => by rw [em, HPR.out.1, HPR.out.2]; have := HLE.out; omega)), HBv, HKv⟩
                            case measure => simp [intOf]; omega
                        · obtain rfl : j = 0 := by omega
                          go_wp2
                          go_quiet (fail)
                          rename_i nq
                          have hbq : Below wz.heap.size wz (wz.drewN nq) := below_drewN (Below.refl _ _) nq
                          generalize wz.drewN nq = wv at hbq ⊢
                          have HBv := Lib.hid (HGb.out.under hbq)
                          have HKv := Lib.hid (HGk.out.under hbq)
                          clear hbq
                          go_wp2
                          go_roundw
                          case rel => exact ⟨i + 1, T, by omega, by omega, by go_num, HP, Lib.hid (HS.out.done (fun h => by omega)), HBv, HKv⟩
                          case measure => simp [intOf]; omega
                    · obtain rfl : L = i := by omega
                      have hSl : S.length = L := by rw [← HLL.out]; exact HP.out.length_eq
                      have hSs := HSrt.out S HP.out (SorP.pairwise (by rw [hSl]; exact HS.out))
                      have hown : Own wo.heap.size wx (.slice (some ⟨g, 0, none⟩) L (L + cs.length)) S := Own.shut HGb.out HGB.out (by rw [hSl, ← HLL.out]; exact HGm.out) hSl.symm (by rw [hSl])
                      have HSl := Lib.hid hSl; have HSs := Lib.hid hSs; have HOw := Lib.hid hown
                      have HBx := Lib.hid (show Below wo.heap.size wo wx from HBq.out.trans (HGk.out.below fun b hb => ⟨by have := HBq.out.size; omega, fun e => by have := HGB.out; omega⟩))
                      have HOx := Lib.hid (HO.out.under HBx.out)
                      have HBw := Lib.hid (bb HB.out HBx.out)
                      have HIx := Lib.hid hown.ints
                      clear hSl hSs hown
                      go_wp2_with (at_builtin; refine wpList_app_intsM w.heap.size wx _ _ xs S _ _ rfl rfl rfl HOx.out rfl HIx.out (by rw [HSl.out]; omega) HBw.out.size ?_; intro a' c' w' h1 h2; have Hn := Lib.hid h1; have Hk := Lib.hid h2; rw [HSl.out]; rw [HSl.out] at h1; have Hn2 := Lib.hid h1; clear h1 h2)
                      go_roundw
                      case rel =>
                        refine ⟨k + 1, xs ++ S, a', c', by omega, by go_num, by simp [HSl.out], by simp [HSl.out]; omega, Lib.hid ?_, Lib.hid (HOx.out.frame HBw.out (Nat.le_refl _) HBw.out.size Hk.out), Lib.hid (by simpa [HSl.out] using Hn2.out)⟩
                        rw [List.take_succ_eq_append_getElem (by rw [← HKF.out]; exact hlt), List.flatMap_append, HX.out, HSs.out]
                        have e : F[k]'(by rw [← HKF.out]; exact hlt) = t := by rw [← HT.out]; simp [List.getD, show k < F.length by rw [← HKF.out]; exact hlt]
                        rw [e]; simp
                      case measure => simp [intOf]; omega
    · obtain rfl : K = k := by omega
      have hfin : xs = markM n F C X := by
        rw [HX.out]
        unfold markM
        rw [List.take_of_length_le (by rw [← HKF.out]; exact Nat.le_refl _)]
      have HFin := Lib.hid hfin; clear hfin
      go_wp2
      go_ret
      exact ⟨_, rfl, by rw [← HFin.out]; exact HO.out, HB.out⟩
end Go.Proofs.Ytgmhnjccgldddaa
