/-
  The program's search for isomorphisms: 'assign'.
-/
import Derived.Test.YtgmhnjccgldddaaY2
import Derived.Deep.RegionHeld3
namespace Go.Proofs.Ytgmhnjccgldddaa
set_option linter.unusedVariables false
set_option linter.unusedSimpArgs false
open Go Go.RowKit

theorem own_irr (a : Option Addr) (m c m' c' : Nat) : (Value.slice a m c).ownBlock = (Value.slice a m' c').ownBlock := by cases a <;> rfl
/-- What a call leaves of memory, and where the slice of what is set lies. -/
def Ph (n mb ib ub : Nat) (a0 : Option Addr) (c0 : Nat) (w : World) (a : Option Addr) (c : Nat) (W : World) : Prop :=
  Keep (MBl mb ib ub (.slice a0 0 c0)) w W ∧ (n ≤ c0 → a = a0 ∧ c = c0) ∧ (∀ b, (Value.slice a 0 c).ownBlock = some b → (Value.slice a0 0 c0).ownBlock = some b ∨ w.heap.size ≤ b)
namespace Ph
variable {n mb ib ub : Nat} {a0 a1 a2 : Option Addr} {c0 c1 c2 : Nat} {w w1 w2 : World}
theorem refl (n mb ib ub : Nat) (a : Option Addr) (c : Nat) (w : World) : Ph n mb ib ub a c w a c w := ⟨Keep.refl _ _, fun _ => ⟨rfl, rfl⟩, fun _ h => .inl h⟩
theorem trans (h : Ph n mb ib ub a0 c0 w a1 c1 w1) (k : Ph n mb ib ub a1 c1 w1 a2 c2 w2) : Ph n mb ib ub a0 c0 w a2 c2 w2 := by
  refine ⟨keep_comp h.1 k.1 fun b hb e => ?_, fun hc => ?_, fun b hb => ?_⟩
  · rcases e with e | e | e | e
    · exact .inl e
    · exact .inr (.inl e)
    · exact .inr (.inr (.inl e))
    · rcases h.2.2 b e with e | e
      · exact .inr (.inr (.inr e))
      · omega
  · obtain ⟨e1, e2⟩ := h.2.1 hc
    obtain ⟨e3, e4⟩ := k.2.1 (by omega)
    exact ⟨e3.trans e1, e4.trans e2⟩
  · rcases k.2.2 b hb with e | e
    · exact h.2.2 b e
    · exact .inr (Nat.le_trans h.1.size e)
theorem drew (h : Ph n mb ib ub a0 c0 w a1 c1 w1) : Ph n mb ib ub a0 c0 w a1 c1 w1.drew := ⟨h.1.drew, h.2⟩
theorem below (h : Ph n mb ib ub a0 c0 w a1 c1 w1) {w0 : World} {L : Nat} {vF vG : Value} {im : List Int} {us : List Bool} {st : List Int} (hM : MapAt w mb ib ub n L vF vG a0 c0 im us st) (hlo : w0.heap.size ≤ mb ∧ w0.heap.size ≤ ib ∧ w0.heap.size ≤ ub) (hb : Below w0.heap.size w0 w) : Below w0.heap.size w0 w1 := by
  refine hb.trans (h.1.below fun k hk => ⟨by have := hb.size; omega, fun e => ?_⟩)
  rcases e with e | e | e | e
  · omega
  · omega
  · omega
  · rw [own_irr a0 0 c0 st.length c0] at e
    have := (hM.own.ownLt e).1
    have := hM.ne
    omega
end Ph
/-- The post of 'assign'. -/
def RAs (mb ib ub n L : Nat) (vF vG : Value) (a0 : Option Addr) (c0 : Nat) (r : Bool × MSt) (w : World) (e : Ending) (w' : World) : Prop :=
  ∃ a' c', e = .returned (.bool r.1) ∧ MapAt w' mb ib ub n L vF vG a' c' r.2.im r.2.us r.2.st ∧ Ph n mb ib ub a0 c0 w a' c' w'

section
variable {n : Nat} {F G : List (List (List Int))} {f : MSt → Int → Int → Bool × MSt} {s s2 : MSt} {x v : Int} {i k m : Nat} {p1 p2 fin : Bool × MSt}
theorem stepA_ff (h1 : f s (argA1 F x i k s) (argA2 G v i k s) = p1) (hb : p1.1 = false) : stepA F G f x v i k s = p1 := by
  unfold stepA; rw [h1, hb]; simp
theorem stepA_tt (h1 : f s (argA1 F x i k s) (argA2 G v i k s) = p1) (hb : p1.1 = true) (h2 : f p1.2 (argB1 F x i k s) (argB2 G v i k s) = p2) : stepA F G f x v i k s = p2 := by
  unfold stepA; rw [h1, hb, h2]; simp
theorem rest_false (e : (if (rowA F G f x v i (F.length - k) k s).1 then outA F G f x v m (i + 1) (rowA F G f x v i (F.length - k) k s).2 else rowA F G f x v i (F.length - k) k s) = fin) (hk : k < F.length) (hs : stepA F G f x v i k s = p1) (hb : p1.1 = false) : p1 = fin := by
  rw [show F.length - k = (F.length - (k + 1)) + 1 by omega] at e
  subst hs
  simpa [rowA, hb] using e
theorem rest_true (e : (if (rowA F G f x v i (F.length - k) k s).1 then outA F G f x v m (i + 1) (rowA F G f x v i (F.length - k) k s).2 else rowA F G f x v i (F.length - k) k s) = fin) (hk : k < F.length) (hs : stepA F G f x v i k s = p1) (hb : p1.1 = true) :
    (if (rowA F G f x v i (F.length - (k + 1)) (k + 1) p1.2).1 then outA F G f x v m (i + 1) (rowA F G f x v i (F.length - (k + 1)) (k + 1) p1.2).2 else rowA F G f x v i (F.length - (k + 1)) (k + 1) p1.2) = fin := by
  rw [show F.length - k = (F.length - (k + 1)) + 1 by omega] at e
  subst hs
  simp only [rowA, hb, if_true] at e
  exact e
end
/-- The cells that a step of 'assign' reads, in whatever world. -/
theorem pair_cells {w0 W : World} {n K fb fo gb go' gc mb ib ub L c k X V Y U : Nat} {F G : List (List (List Int))} {tb to tc tb' to' tc' : Nat → Nat} {rb ro rc rb' ro' rc' : Nat → Nat → Nat} {vF : Value} {a : Option Addr} {im : List Int} {us : List Bool} {st : List Int}
    (hF : Tb3 w0 fb fo n K F tb to tc rb ro rc) (hG : Tb3 w0 gb go' n K G tb' to' tc' rb' ro' rc') (hb : Below w0.heap.size w0 W) (hM : MapAt W mb ib ub n L vF (.slice (some ⟨gb, go', none⟩) K gc) a c im us st) (hk : k < K) (hl : im.length = n)
    (hX : X < n) (hV : V < n) (hY : Y < n) (hUn : U < n) (hU : nth im Y = U) :
    W.cell? ⟨tb k, to k + X, none⟩ = some (.slice (some ⟨rb k X, ro k X, none⟩) n (rc k X)) ∧ W.cell? ⟨rb k X, ro k X + Y, none⟩ = some (.int .i64 (val2 (F.getD k []) X Y)) ∧ W.cell? ⟨tb k, to k + Y, none⟩ = some (.slice (some ⟨rb k Y, ro k Y, none⟩) n (rc k Y)) ∧ W.cell? ⟨rb k Y, ro k Y + X, none⟩ = some (.int .i64 (val2 (F.getD k []) Y X)) ∧ W.cell? ⟨mb, 1, none⟩ = some (.slice (some ⟨gb, go', none⟩) K gc) ∧ W.cell? ⟨gb, go' + k, none⟩ = some (.slice (some ⟨tb' k, to' k, none⟩) n (tc' k)) ∧ W.cell? ⟨tb' k, to' k + V, none⟩ = some (.slice (some ⟨rb' k V, ro' k V, none⟩) n (rc' k V)) ∧ W.cell? ⟨mb, 2, none⟩ = some (.slice (some ⟨ib, 0, none⟩) n n) ∧ W.cell? ⟨ib, Y, none⟩ = some (.int .i64 U) ∧ W.cell? ⟨rb' k V, ro' k V + U, none⟩ = some (.int .i64 (val2 (G.getD k []) V U)) ∧ W.cell? ⟨tb' k, to' k + U, none⟩ = some (.slice (some ⟨rb' k U, ro' k U, none⟩) n (rc' k U)) ∧ W.cell? ⟨rb' k U, ro' k U + V, none⟩ = some (.int .i64 (val2 (G.getD k []) U V)) := by
  have hF' := hF.below hb
  have hG' := hG.below hb
  obtain ⟨m0, m1, m2, m3, m4, m5⟩ := hM.cells
  obtain ⟨i1, i2⟩ := hM.imc Y (by omega) (by omega)
  rw [hU] at i1
  simp only [Int.toNat_natCast] at i1
  have f := hF'.at' k hk; have g := hG'.at' k hk
  exact ⟨f.row X hX, f.val X Y hX hY, f.row Y hY, f.val Y X hY hX, m1, hG'.tab k hk, g.row V hV, m2, i1, g.val V U hV hUn, g.row U hUn, g.val U V hUn hV⟩

/-- An operation of a region is taken first: its slot by its number. -/
theorem takeD {P : Program} {ops : Array Oper} {Q : Exit → Act → World → Prop} {md : Region.Mode} {S : World → Prop} {i d : Nat} {oi : Oper} {v : Value} {fuel : Nat} {listed : Array Bool} {a : Act} {w : World} (hi : ops[i]? = some oi) (hd : oi.dst = some d)
    (hs : Region.noSelect ops = true) (hf : Region.free md ops listed i = true) (hr : (Region.ready md ops listed).contains i = true)
    (hQ : ∀ c a w, Q (.panic c) (a.put (some d) v) w → Q (.panic c) a w) (hy : YieldsIf P ops S oi v a) (hS : S w)
    (h : wpAnyH P md ops Q S fuel (listed.setIfInBounds i true) (a.put (some d) v) w) : wpAnyH P md ops Q S (fuel + 1) listed a w :=
  wpAnyH_take hi hs hf hr (by rw [hd]; exact hQ) hy hS (by rw [hd]; exact h)
/-- One that is not wanted is passed over. -/
theorem skipD {P : Program} {ops : Array Oper} {Q : Exit → Act → World → Prop} {md : Region.Mode} {S : World → Prop} {i d : Nat} {oi : Oper} {fuel : Nat} {listed : Array Bool} {a : Act} {w : World} (hi : ops[i]? = some oi) (hd : oi.dst = some d)
    (hs : Region.noSelect ops = true) (hf : Region.free md ops listed i = true) (hr : (Region.ready md ops listed).contains i = true)
    (hQ : ∀ c a w, Q (.panic c) (a.put (some d) undef) w → Q (.panic c) a w) (hy : Region.wanted oi (yielded ops a.tmps) = false) (hS : S w)
    (h : wpAnyH P md ops Q S fuel (listed.setIfInBounds i true) (a.put (some d) undef) w) : wpAnyH P md ops Q S (fuel + 1) listed a w :=
  wpAnyH_take hi hs hf hr (by rw [hd]; exact hQ) (.inr ⟨hy, rfl⟩) hS (by rw [hd]; exact h)

set_option maxRecDepth 100000 in
set_option maxHeartbeats 8000000 in
theorem c_assign {n K : Nat} {F G : List (List (List Int))} (w0 : World) {fb fo fc gb go' gc : Nat} {tb to tc tb' to' tc' : Nat → Nat} {rb ro rc rb' ro' rc' : Nat → Nat → Nat} (hF : Tb3 w0 fb fo n K F tb to tc rb ro rc) (hG : Tb3 w0 gb go' n K G tb' to' tc' rb' ro' rc')
    (hKF : K = F.length) (hKG : K = G.length) (hn : n ≤ 12) (hK : K ≤ 12) (hfc : K ≤ fc) (hgc : K ≤ gc) (mb ib ub L : Nat) (hlo : w0.heap.size ≤ mb ∧ w0.heap.size ≤ ib ∧ w0.heap.size ≤ ub) :
    ∀ (d : Nat) (s : MSt) (x v : Int) (a0 : Option Addr) (c0 : Nat) (w : World), MpS n s → n < s.st.length + d → InN n x → InN n v → Below w0.heap.size w0 w → L ≤ w.heap.size → MapAt w mb ib ub n L (.slice (some ⟨fb, fo, none⟩) K fc) (.slice (some ⟨gb, go', none⟩) K gc) a0 c0 s.im s.us s.st →
      Calls Try.prog 77 #[.pointer (some ⟨mb, 0, none⟩), .int .i64 x, .int .i64 v] w (RAs mb ib ub n L (.slice (some ⟨fb, fo, none⟩) K fc) (.slice (some ⟨gb, go', none⟩) K gc) a0 c0 (asg F G n d s x v) w) := by
  have HT := Lib.hid (And.intro (hF.tabs hKF) (hG.tabs hKG))
  have HFG := Lib.hid (And.intro hF hG)
  have HKK := Lib.hid (And.intro hKF hKG)
  have hneq : F.length = G.length := by omega
  have HGood := Lib.hid (fun d m (h : n < m + d) => asg_good HT.out.1 HT.out.2 hneq d m h)
  have HLo := Lib.hid hlo
  have HEq := Lib.hid hneq
  clear hF hG hKF hKG hlo hneq
  intro d
  induction d with
  | zero => intro s x v a0 c0 w hm hd; have := Mp.len hm; omega
  | succ d ih =>
    intro s x v a0 c0 w hm hd hx hv hb hL hM
    have IH := Lib.hid ih
    obtain ⟨m0, m1, m2, m3, m4, m5⟩ := hM.cells
    have HM := Lib.hid hM; have HB := Lib.hid hb; have HMp := Lib.hid hm; have HD := Lib.hid hd; have HX := Lib.hid hx; have HV := Lib.hid hv
    obtain ⟨X, rfl⟩ : ∃ X : Nat, x = X := ⟨x.toNat, by have := hx.1; omega⟩
    obtain ⟨V, rfl⟩ : ∃ V : Nat, v = V := ⟨v.toNat, by have := hv.1; omega⟩
    have hxn : (X : Int) < n := hx.2
    have hvn : (V : Int) < n := hv.2
    obtain ⟨gi, gi2⟩ := hM.imc X (by omega) (by rw [Mp.imL hm]; exact hxn)
    obtain ⟨gu, gu2⟩ := hM.usc V (by omega) (by rw [Mp.usL hm]; exact hvn)
    simp only [Int.toNat_natCast] at gi gi2 gu gu2
    by_cases h0 : 0 ≤ nth s.im X
    case pos =>
      have he : asg F G n (d + 1) s X V = (nth s.im X == V, s) := by simp only [asg]; rw [if_pos h0]
      rw [he]
      have h0' : nth s.im X ≥ 0 := h0
      clear ih hm hd hx hv hb hM he
      go_enter Try.func77, Try.ntmps77
      go_wp2
      go_ret
      exact ⟨a0, c0, rfl, HM.out, Ph.refl _ _ _ _ _ _ _⟩
    have h0' : ¬ nth s.im X ≥ 0 := h0
    by_cases hu : nthB s.us V = true
    case pos =>
      have he : asg F G n (d + 1) s X V = (false, s) := by simp only [asg]; rw [if_neg h0, if_pos hu]
      rw [he]
      rw [hu] at gu
      clear ih hm hd hx hv hb hM he hu
      go_enter Try.func77, Try.ntmps77
      go_wp2
      go_ret
      exact ⟨a0, c0, rfl, HM.out, Ph.refl _ _ _ _ _ _ _⟩
    have hu' : nthB s.us V = false := by simpa using hu
    rw [hu'] at gu
    obtain ⟨fin, hfin⟩ : ∃ fin, outA F G (asg F G n d) X V (n + 1) 0 (putA s X V) = fin := ⟨_, rfl⟩
    have he : asg F G n (d + 1) s X V = fin := by simp only [asg]; rw [if_neg h0, if_neg hu, hfin]
    rw [he]
    have HFin := Lib.hid hfin
    have HLp := Lib.hid (lp_put (F := F) (G := G) hm hx hv (by omega) hu')
    obtain ⟨n1, n2, n3, n4, n5, n6⟩ := hM.ne
    have HN := Lib.hid hM.ne
    have hNn : s.st.length ≤ n := Mp.len hm
    have HM1 := Lib.hid (show MapAt ((w.setCell ⟨ib, X, none⟩ (.int .i64 V)).setCell ⟨ub, V, none⟩ (.bool true)).drew mb ib ub n L (.slice (some ⟨fb, fo, none⟩) K fc) (.slice (some ⟨gb, go', none⟩) K gc) a0 c0 (putA s X V).im (putA s X V).us s.st by
      have := (hM.write X V true V).drew
      simpa [putA] using this)
    have HP1 := Lib.hid (show Ph n mb ib ub a0 c0 w a0 c0 ((w.setCell ⟨ib, X, none⟩ (.int .i64 V)).setCell ⟨ub, V, none⟩ (.bool true)).drew from
      ⟨(((Keep.refl _ w).setCell (p := ⟨ib, X, none⟩) (.inl (.inr (.inl rfl))) _).setCell (p := ⟨ub, V, none⟩) (.inl (.inr (.inr (.inl rfl)))) _).drew, fun _ => ⟨rfl, rfl⟩, fun _ h => .inl h⟩)
    clear ih hm hd hx hv hb hM he hu hu' hfin h0
    go_enter Try.func77, Try.ntmps77
    go_wp2_with fail
    go_region
    generalize ((w.setCell ⟨ib, X, none⟩ (.int .i64 V)).setCell ⟨ub, V, none⟩ (.bool true)).drew = w1 at *
    clear m0 m1 m2 m3 m4 m5 gi gi2 gu gu2
    obtain ⟨m0, m1, m2, m3, m4, m5⟩ := HM1.out.cells
    have hL1 : L ≤ w1.heap.size := Nat.le_trans hL HP1.out.1.size
    have HL1 := Lib.hid hL1
    have HOw := Lib.hid HM1.out.own
    go_wp2_with (at_builtin; refine wpList_app_intP L w1 a0 c0 s.st (X : Int) _ _ rfl rfl rfl HOw.out rfl (by omega) HL1.out ?_; intro a1 c1 w3 h1 h2 h3 h4; have hq := HM1.out.box.of_block (h2.block _ HM1.out.box.lt (fun e => by have := (HOw.out.ownLt e).1; omega)); have q4 := hq.cell (i := 4) (by simp); have q5 := hq.frozen 4; have Ho3 := Lib.hid h1; have Hk3 := Lib.hid h2; have Hr3 := Lib.hid h3; have Hf3 := Lib.hid h4; clear h1 h2 h3 h4 hq)
    have hputl : (putA s X V).st.length ≤ n := Mp.len HLp.out.mS
    have HM2 := Lib.hid (show MapAt (w3.setCell ⟨mb, 4, none⟩ (.slice a1 (s.st.length + 1) c1)) mb ib ub n L (.slice (some ⟨fb, fo, none⟩) K fc) (.slice (some ⟨gb, go', none⟩) K gc) a1 c1 (putA s X V).im (putA s X V).us (putA s X V).st by
      have := HM1.out.reslice (a' := a1) (c' := c1) (st' := s.st ++ [(X : Int)]) Hk3.out (by simpa using Ho3.out)
      simpa [putA] using this)
    have HP2 := Lib.hid (show Ph n mb ib ub a0 c0 w a1 c1 (w3.setCell ⟨mb, 4, none⟩ (.slice a1 (s.st.length + 1) c1)) from
      HP1.out.trans ⟨(Hk3.out.mono fun b _ e => .inr (.inr (.inr ((own_irr a0 0 c0 s.st.length c0).trans e)))).setCell (p := ⟨mb, 4, none⟩) (.inl (.inl rfl)) _, fun hc => Hr3.out (by simp [putA] at hputl; omega), fun b hb => by
        have := Hf3.out b ((own_irr a1 _ c1 0 c1).trans hb)
        rwa [own_irr a0 _ c0 0 c0] at this⟩)
    generalize w3.setCell ⟨mb, 4, none⟩ (.slice a1 (s.st.length + 1) c1) = w4 at *
    have HBel := Lib.hid (fun a c W (h : Ph n mb ib ub a0 c0 w a c W) => h.below HM.out HLo.out HB.out)
    have HLe := Lib.hid (fun a c W (h : Ph n mb ib ub a0 c0 w a c W) => Nat.le_trans hL h.1.size)
    clear q4 q5 Ho3 Hk3 Hr3 Hf3 HM1 HP1 m0 m1 m2 m3 m4 m5 hL1 HL1 HOw h0' HN n1 n2 n3 n4 n5 n6 HM
    go_loopw [7] (fun i wr => ∃ (j : Nat) (s1 : MSt) (a : Option Addr) (c : Nat), j ≤ s1.st.length ∧ i = .int .i64 j ∧ Hid (LpS n F G s X V j 0 false s1) ∧ Hid (outA F G (asg F G n d) X V (n + 1 - j) j s1 = fin) ∧ Hid (MapAt wr mb ib ub n L (.slice (some ⟨fb, fo, none⟩) K fc) (.slice (some ⟨gb, go', none⟩) K gc) a c s1.im s1.us s1.st) ∧ Hid (Ph n mb ib ub a0 c0 w a c wr)) (fun i _ => n + 1 - (intOf i).toNat)
    case atStart => exact ⟨0, putA s X V, a1, c1, Nat.zero_le _, rfl, HLp, HFin, HM2, HP2⟩
    case round =>
      clear HLp HFin HM2 HP2 hputl
      obtain ⟨j, s1, a, c, hj1, rfl, HLp, HFin, HM, HP⟩ := hrel
      obtain ⟨wo, rfl⟩ : ∃ wo : World, wo = wr := ⟨_, rfl⟩
      obtain ⟨m0, m1, m2, m3, m4, m5⟩ := HM.out.cells
      have hs1n : s1.st.length ≤ n := Mp.len HLp.out.mS
      by_cases hj : j < s1.st.length
      · obtain ⟨Y, hY⟩ : ∃ Y : Nat, nth s1.st j = Y := ⟨(nth s1.st j).toNat, by have := ((Lp.mp HLp.out).img hj).1.1; omega⟩
        obtain ⟨b, o, ha, hcell⟩ := HM.out.own.ints.get j hj
        subst ha
        rw [hY] at hcell
        have HY := Lib.hid hY
        have HFin2 := Lib.hid (show (if (rowA F G (asg F G n d) X V j (F.length - 0) 0 s1).1 then outA F G (asg F G n d) X V (n - j) (j + 1) (rowA F G (asg F G n d) X V j (F.length - 0) 0 s1).2 else rowA F G (asg F G n d) X V j (F.length - 0) 0 s1) = fin by
          have e := HFin.out
          rw [show n + 1 - j = (n - j) + 1 by omega] at e
          simp only [outA] at e
          rw [if_pos hj] at e
          exact e)
        clear hY HFin
        go_wp2
        go_loopw [79] (fun v79 wr => ∃ (k : Nat) (s2 : MSt) (a : Option Addr) (c : Nat), k ≤ K ∧ v79 = .int .i64 k ∧ Hid (LpS n F G s X V j k false s2) ∧ Hid ((if (rowA F G (asg F G n d) X V j (F.length - k) k s2).1 then outA F G (asg F G n d) X V (n - j) (j + 1) (rowA F G (asg F G n d) X V j (F.length - k) k s2).2 else rowA F G (asg F G n d) X V j (F.length - k) k s2) = fin) ∧ Hid (nth s2.st j = Y ∧ s1.st.length ≤ s2.st.length) ∧ Hid (MapAt wr mb ib ub n L (.slice (some ⟨fb, fo, none⟩) K fc) (.slice (some ⟨gb, go', none⟩) K gc) a c s2.im s2.us s2.st) ∧ Hid (Ph n mb ib ub a0 c0 w a c wr)) (fun v79 _ => K - (intOf v79).toNat)
        case atStart => exact ⟨0, s1, _, c, Nat.zero_le _, rfl, HLp, HFin2, Lib.hid ⟨HY.out, Nat.le_refl _⟩, HM, HP⟩
        case round =>
          clear HLp HFin2 HM HP HY hcell m0 m1 m2 m3 m4 m5
          obtain ⟨k, s2, a2, c2, hk, rfl, HLp, HFin, HY, HM, HP⟩ := hrel
          obtain ⟨wi, rfl⟩ : ∃ wi : World, wi = wr := ⟨_, rfl⟩
          have hs2n : s2.st.length ≤ n := Mp.len HLp.out.mS
          have hji : j < s2.st.length := by have := HY.out.2; omega
          by_cases hkK : k < K
          · obtain ⟨U, hU⟩ : ∃ U : Nat, nth s2.im Y = U := ⟨(nth s2.im Y).toNat, by have := ((Lp.mp HLp.out).img hji).2.1; rw [HY.out.1] at this; omega⟩
            have hYn : Y < n := by have := ((Lp.mp HLp.out).img hji).1.2; rw [HY.out.1] at this; omega
            have hUn : U < n := by have := ((Lp.mp HLp.out).img hji).2.2; rw [HY.out.1, hU] at this; omega
            have hf := HGood.out d (s.st.length + 1) (by have := HD.out; omega)
            have hlong := HLp.out.longer
            have hkF : k < F.length := by rw [← HKK.out.1]; exact hkK
            obtain ⟨z1in, z2in, A1⟩ := first_call hf HT.out.1 HT.out.2 HEq.out HLp.out hji hkF hlong
            have A1' := first_lp hf HT.out.1 HT.out.2 HEq.out HLp.out hji hkF hlong
            have A2' := second_call hf HT.out.1 HT.out.2 HEq.out HLp.out hji hkF hlong
            have A3' := (step_ok hf HT.out.1 HT.out.2 HEq.out HLp.out hji hkF hlong)
            obtain ⟨q1, hq1⟩ : ∃ z, val2 (F.getD k []) X Y = z := ⟨_, rfl⟩
            obtain ⟨q2, hq2⟩ : ∃ z, val2 (F.getD k []) Y X = z := ⟨_, rfl⟩
            obtain ⟨q3, hq3⟩ : ∃ z, val2 (G.getD k []) V U = z := ⟨_, rfl⟩
            obtain ⟨q4, hq4⟩ : ∃ z, val2 (G.getD k []) U V = z := ⟨_, rfl⟩
            have e1 : argA1 F X j k s2 = q1 := by unfold argA1; rw [HY.out.1, hq1]
            have e2 : argA2 G V j k s2 = q3 := by unfold argA2; rw [HY.out.1, hU, hq3]
            have e3 : argB1 F X j k s2 = q2 := by unfold argB1; rw [HY.out.1, hq2]
            have e4 : argB2 G V j k s2 = q4 := by unfold argB2; rw [HY.out.1, hU, hq4]
            have hl2 : s2.im.length = n := Mp.imL HLp.out.mS
            have HPC : Hid (∀ W, Below w0.heap.size w0 W → ∀ a c im us st, MapAt W mb ib ub n L (.slice (some ⟨fb, fo, none⟩) K fc) (.slice (some ⟨gb, go', none⟩) K gc) a c im us st → im.length = n → nth im Y = U → W.cell? ⟨tb k, to k + X, none⟩ = some (.slice (some ⟨rb k X, ro k X, none⟩) n (rc k X)) ∧ W.cell? ⟨rb k X, ro k X + Y, none⟩ = some (.int .i64 (q1)) ∧ W.cell? ⟨tb k, to k + Y, none⟩ = some (.slice (some ⟨rb k Y, ro k Y, none⟩) n (rc k Y)) ∧ W.cell? ⟨rb k Y, ro k Y + X, none⟩ = some (.int .i64 (q2)) ∧ W.cell? ⟨mb, 1, none⟩ = some (.slice (some ⟨gb, go', none⟩) K gc) ∧ W.cell? ⟨gb, go' + k, none⟩ = some (.slice (some ⟨tb' k, to' k, none⟩) n (tc' k)) ∧ W.cell? ⟨tb' k, to' k + V, none⟩ = some (.slice (some ⟨rb' k V, ro' k V, none⟩) n (rc' k V)) ∧ W.cell? ⟨mb, 2, none⟩ = some (.slice (some ⟨ib, 0, none⟩) n n) ∧ W.cell? ⟨ib, Y, none⟩ = some (.int .i64 U) ∧ W.cell? ⟨rb' k V, ro' k V + U, none⟩ = some (.int .i64 (q3)) ∧ W.cell? ⟨tb' k, to' k + U, none⟩ = some (.slice (some ⟨rb' k U, ro' k U, none⟩) n (rc' k U)) ∧ W.cell? ⟨rb' k U, ro' k U + V, none⟩ = some (.int .i64 (q4))) := Lib.hid fun W hb a c im us st hM hl hU => by
              have := pair_cells (X := X) (V := V) (Y := Y) (U := U) HFG.out.1 HFG.out.2 hb hM hkK hl (by omega) (by omega) hYn hUn hU
              rw [hq1, hq2, hq3, hq4] at this
              exact this
            obtain ⟨p1, hp1⟩ : ∃ p, asg F G n d s2 (argA1 F X j k s2) (argA2 G V j k s2) = p := ⟨_, rfl⟩
            rw [hp1] at A1 A1' A2'
            have HC1 : Hid (∀ W, Below w0.heap.size w0 W → L ≤ W.heap.size → MapAt W mb ib ub n L (.slice (some ⟨fb, fo, none⟩) K fc) (.slice (some ⟨gb, go', none⟩) K gc) a2 c2 s2.im s2.us s2.st → Calls Try.prog 77 #[.pointer (some ⟨mb, 0, none⟩), .int .i64 (q1), .int .i64 (q3)] W (RAs mb ib ub n L (.slice (some ⟨fb, fo, none⟩) K fc) (.slice (some ⟨gb, go', none⟩) K gc) a2 c2 p1 W)) := Lib.hid fun W hb hL hM => by
              have := IH.out s2 _ _ a2 c2 W HLp.out.mS (by have := HD.out; omega) z1in z2in hb hL hM
              rw [hp1, e1, e2] at this; exact this
            have hUU : nth p1.2.im Y = U := by
              have hmi := ((Lp.mp HLp.out).mem _).1 (nth_memN hji)
              rw [HY.out.1] at hmi
              rw [Asg.more A1 _ hmi.1 hmi.2, hU]
            have hl3 : p1.2.im.length = n := Mp.imL (Asg.mp A1)
            have hbi := HBel.out _ _ _ HP.out
            have hLi := HLe.out _ _ _ HP.out
            have hfk := (HFG.out.1.below hbi).tab k hkK
            have HBi : Hid (Below w0.heap.size w0 wi.drew) := Lib.hid hbi.drew
            have HLi : Hid (L ≤ wi.drew.heap.size) := Lib.hid hLi
            have HPd := Lib.hid HP.out.drew
            have HMd := Lib.hid HM.out.drew
            have HUx := Lib.hid (And.intro (And.intro hl2 hU) (And.intro hl3 hUU))
            by_cases hb1 : p1.1 = true
            case neg =>
              have hb1' : p1.1 = false := by simpa using hb1
              have HFn := Lib.hid (rest_false HFin.out hkF (stepA_ff hp1 hb1') hb1')
              have HB1 := Lib.hid hb1'
              obtain ⟨x1, x2, x3, x4, x5, x6, x7, x8, x9, x10, x11, x12⟩ := HPC.out _ hbi _ _ _ _ _ HM.out hl2 hU
              clear hq1 hq2 hq3 hq4 A1 A1' A2' A3' hf hp1 e1 e2 e3 e4 z1in z2in hl2 hl3 hUU hb1 hb1' hU hbi hLi
              go_wp2_with fail
              refine wp_region_held_drew (S := (fun w' => w'.cell? ⟨tb k, to k + X, none⟩ = some (.slice (some ⟨rb k X, ro k X, none⟩) n (rc k X)) ∧ w'.cell? ⟨rb k X, ro k X + Y, none⟩ = some (.int .i64 (q1)) ∧ w'.cell? ⟨tb k, to k + Y, none⟩ = some (.slice (some ⟨rb k Y, ro k Y, none⟩) n (rc k Y)) ∧ w'.cell? ⟨rb k Y, ro k Y + X, none⟩ = some (.int .i64 (q2)) ∧ w'.cell? ⟨mb, 1, none⟩ = some (.slice (some ⟨gb, go', none⟩) K gc) ∧ w'.cell? ⟨gb, go' + k, none⟩ = some (.slice (some ⟨tb' k, to' k, none⟩) n (tc' k)) ∧ w'.cell? ⟨tb' k, to' k + V, none⟩ = some (.slice (some ⟨rb' k V, ro' k V, none⟩) n (rc' k V)) ∧ w'.cell? ⟨mb, 2, none⟩ = some (.slice (some ⟨ib, 0, none⟩) n n) ∧ w'.cell? ⟨ib, Y, none⟩ = some (.int .i64 U) ∧ w'.cell? ⟨rb' k V, ro' k V + U, none⟩ = some (.int .i64 (q3)) ∧ w'.cell? ⟨tb' k, to' k + U, none⟩ = some (.slice (some ⟨rb' k U, ro' k U, none⟩) n (rc' k U)) ∧ w'.cell? ⟨rb' k U, ro' k U + V, none⟩ = some (.int .i64 (q4)))) (by kernel_rfl) ?_ (fun hHeld => ?_)
              · exact HPC.out _ HBi.out _ _ _ _ _ HMd.out HUx.out.1.1 HUx.out.1.2
              refine takeD (i := 0) (d := 84) (v := ?_) rfl rfl (by kernel_rfl) (by kernel_rfl) (by kernel_rfl) (fun _ _ _ h => h) (Or.inl ⟨by rfl, ?_⟩) (by assumption) ?_
              rotate_left
              · (intro w hSw; (try dsimp only at hSw); go_simp; try rfl)
              try simp only [Act.put, List.setIfInBounds_toArray, List.set_cons_zero, List.set_cons_succ]
              refine takeD (i := 1) (d := 85) (v := ?_) rfl rfl (by kernel_rfl) (by kernel_rfl) (by kernel_rfl) (fun _ _ _ h => h) (Or.inl ⟨by rfl, ?_⟩) (by assumption) ?_
              rotate_left
              · (intro w hSw; (try dsimp only at hSw); go_simp; try rfl)
              try simp only [Act.put, List.setIfInBounds_toArray, List.set_cons_zero, List.set_cons_succ]
              refine takeD (i := 2) (d := 86) (v := ?_) rfl rfl (by kernel_rfl) (by kernel_rfl) (by kernel_rfl) (fun _ _ _ h => h) (Or.inl ⟨by rfl, ?_⟩) (by assumption) ?_
              rotate_left
              · (intro w hSw; (try dsimp only at hSw); go_simp; try rfl)
              try simp only [Act.put, List.setIfInBounds_toArray, List.set_cons_zero, List.set_cons_succ]
              refine takeD (i := 3) (d := 87) (v := ?_) rfl rfl (by kernel_rfl) (by kernel_rfl) (by kernel_rfl) (fun _ _ _ h => h) (Or.inl ⟨by rfl, ?_⟩) (by assumption) ?_
              rotate_left
              · (intro w hSw; (try dsimp only at hSw); go_simp; try rfl)
              try simp only [Act.put, List.setIfInBounds_toArray, List.set_cons_zero, List.set_cons_succ]
              refine takeD (i := 4) (d := 88) (v := ?_) rfl rfl (by kernel_rfl) (by kernel_rfl) (by kernel_rfl) (fun _ _ _ h => h) (Or.inl ⟨by rfl, ?_⟩) (by assumption) ?_
              rotate_left
              · (intro w hSw; (try dsimp only at hSw); go_simp; try rfl)
              try simp only [Act.put, List.setIfInBounds_toArray, List.set_cons_zero, List.set_cons_succ]
              refine takeD (i := 5) (d := 89) (v := ?_) rfl rfl (by kernel_rfl) (by kernel_rfl) (by kernel_rfl) (fun _ _ _ h => h) (Or.inl ⟨by rfl, ?_⟩) (by assumption) ?_
              rotate_left
              · (intro w hSw; (try dsimp only at hSw); go_simp; try rfl)
              try simp only [Act.put, List.setIfInBounds_toArray, List.set_cons_zero, List.set_cons_succ]
              refine takeD (i := 6) (d := 90) (v := ?_) rfl rfl (by kernel_rfl) (by kernel_rfl) (by kernel_rfl) (fun _ _ _ h => h) (Or.inl ⟨by rfl, ?_⟩) (by assumption) ?_
              rotate_left
              · (intro w hSw; (try dsimp only at hSw); go_simp; try rfl)
              try simp only [Act.put, List.setIfInBounds_toArray, List.set_cons_zero, List.set_cons_succ]
              refine takeD (i := 7) (d := 91) (v := ?_) rfl rfl (by kernel_rfl) (by kernel_rfl) (by kernel_rfl) (fun _ _ _ h => h) (Or.inl ⟨by rfl, ?_⟩) (by assumption) ?_
              rotate_left
              · (intro w hSw; (try dsimp only at hSw); go_simp; try rfl)
              try simp only [Act.put, List.setIfInBounds_toArray, List.set_cons_zero, List.set_cons_succ]
              refine takeD (i := 8) (d := 92) (v := ?_) rfl rfl (by kernel_rfl) (by kernel_rfl) (by kernel_rfl) (fun _ _ _ h => h) (Or.inl ⟨by rfl, ?_⟩) (by assumption) ?_
              rotate_left
              · (intro w hSw; (try dsimp only at hSw); go_simp; try rfl)
              try simp only [Act.put, List.setIfInBounds_toArray, List.set_cons_zero, List.set_cons_succ]
              refine takeD (i := 9) (d := 93) (v := ?_) rfl rfl (by kernel_rfl) (by kernel_rfl) (by kernel_rfl) (fun _ _ _ h => h) (Or.inl ⟨by rfl, ?_⟩) (by assumption) ?_
              rotate_left
              · (intro w hSw; (try dsimp only at hSw); go_simp; try rfl)
              try simp only [Act.put, List.setIfInBounds_toArray, List.set_cons_zero, List.set_cons_succ]
              refine takeD (i := 10) (d := 94) (v := ?_) rfl rfl (by kernel_rfl) (by kernel_rfl) (by kernel_rfl) (fun _ _ _ h => h) (Or.inl ⟨by rfl, ?_⟩) (by assumption) ?_
              rotate_left
              · (intro w hSw; (try dsimp only at hSw); go_simp; try rfl)
              try simp only [Act.put, List.setIfInBounds_toArray, List.set_cons_zero, List.set_cons_succ]
              refine takeD (i := 11) (d := 95) (v := ?_) rfl rfl (by kernel_rfl) (by kernel_rfl) (by kernel_rfl) (fun _ _ _ h => h) (Or.inl ⟨by rfl, ?_⟩) (by assumption) ?_
              rotate_left
              · (intro w hSw; (try dsimp only at hSw); go_simp; try rfl)
              try simp only [Act.put, List.setIfInBounds_toArray, List.set_cons_zero, List.set_cons_succ]
              refine takeD (i := 12) (d := 96) (v := ?_) rfl rfl (by kernel_rfl) (by kernel_rfl) (by kernel_rfl) (fun _ _ _ h => h) (Or.inl ⟨by rfl, ?_⟩) (by assumption) ?_
              rotate_left
              · (intro w hSw; (try dsimp only at hSw); go_simp; try rfl)
              try simp only [Act.put, List.setIfInBounds_toArray, List.set_cons_zero, List.set_cons_succ]
              refine takeD (i := 13) (d := 97) (v := ?_) rfl rfl (by kernel_rfl) (by kernel_rfl) (by kernel_rfl) (fun _ _ _ h => h) (Or.inl ⟨by rfl, ?_⟩) (by assumption) ?_
              rotate_left
              · (intro w hSw; (try dsimp only at hSw); go_simp; try rfl)
              try simp only [Act.put, List.setIfInBounds_toArray, List.set_cons_zero, List.set_cons_succ]
              refine takeD (i := 14) (d := 98) (v := ?_) rfl rfl (by kernel_rfl) (by kernel_rfl) (by kernel_rfl) (fun _ _ _ h => h) (Or.inl ⟨by rfl, ?_⟩) (by assumption) ?_
              rotate_left
              · (intro w hSw; (try dsimp only at hSw); go_simp; try rfl)
              try simp only [Act.put, List.setIfInBounds_toArray, List.set_cons_zero, List.set_cons_succ]
              refine takeD (i := 15) (d := 99) (v := ?_) rfl rfl (by kernel_rfl) (by kernel_rfl) (by kernel_rfl) (fun _ _ _ h => h) (Or.inl ⟨by rfl, ?_⟩) (by assumption) ?_
              rotate_left
              · (intro w hSw; (try dsimp only at hSw); go_simp; try rfl)
              try simp only [Act.put, List.setIfInBounds_toArray, List.set_cons_zero, List.set_cons_succ]
              refine takeD (i := 16) (d := 100) (v := ?_) rfl rfl (by kernel_rfl) (by kernel_rfl) (by kernel_rfl) (fun _ _ _ h => h) (Or.inl ⟨by rfl, ?_⟩) (by assumption) ?_
              rotate_left
              · (intro w hSw; (try dsimp only at hSw); go_simp; try rfl)
              try simp only [Act.put, List.setIfInBounds_toArray, List.set_cons_zero, List.set_cons_succ]
              refine takeD (i := 17) (d := 101) (v := ?_) rfl rfl (by kernel_rfl) (by kernel_rfl) (by kernel_rfl) (fun _ _ _ h => h) (Or.inl ⟨by rfl, ?_⟩) (by assumption) ?_
              rotate_left
              · (intro w hSw; (try dsimp only at hSw); go_simp; try rfl)
              try simp only [Act.put, List.setIfInBounds_toArray, List.set_cons_zero, List.set_cons_succ]
              refine takeD (i := 18) (d := 102) (v := ?_) rfl rfl (by kernel_rfl) (by kernel_rfl) (by kernel_rfl) (fun _ _ _ h => h) (Or.inl ⟨by rfl, ?_⟩) (by assumption) ?_
              rotate_left
              · (intro w hSw; (try dsimp only at hSw); go_simp; try rfl)
              try simp only [Act.put, List.setIfInBounds_toArray, List.set_cons_zero, List.set_cons_succ]
              refine takeD (i := 19) (d := 103) (v := ?_) rfl rfl (by kernel_rfl) (by kernel_rfl) (by kernel_rfl) (fun _ _ _ h => h) (Or.inl ⟨by rfl, ?_⟩) (by assumption) ?_
              rotate_left
              · (intro w hSw; (try dsimp only at hSw); go_simp; try rfl)
              try simp only [Act.put, List.setIfInBounds_toArray, List.set_cons_zero, List.set_cons_succ]
              refine takeD (i := 20) (d := 104) (v := ?_) rfl rfl (by kernel_rfl) (by kernel_rfl) (by kernel_rfl) (fun _ _ _ h => h) (Or.inl ⟨by rfl, ?_⟩) (by assumption) ?_
              rotate_left
              · (intro w hSw; (try dsimp only at hSw); go_simp; try rfl)
              try simp only [Act.put, List.setIfInBounds_toArray, List.set_cons_zero, List.set_cons_succ]
              refine takeD (i := 21) (d := 105) (v := ?_) rfl rfl (by kernel_rfl) (by kernel_rfl) (by kernel_rfl) (fun _ _ _ h => h) (Or.inl ⟨by rfl, ?_⟩) (by assumption) ?_
              rotate_left
              · (intro w hSw; (try dsimp only at hSw); go_simp; try rfl)
              try simp only [Act.put, List.setIfInBounds_toArray, List.set_cons_zero, List.set_cons_succ]
              refine takeD (i := 22) (d := 106) (v := ?_) rfl rfl (by kernel_rfl) (by kernel_rfl) (by kernel_rfl) (fun _ _ _ h => h) (Or.inl ⟨by rfl, ?_⟩) (by assumption) ?_
              rotate_left
              · (intro w hSw; (try dsimp only at hSw); go_simp; try rfl)
              try simp only [Act.put, List.setIfInBounds_toArray, List.set_cons_zero, List.set_cons_succ]
              refine takeD (i := 23) (d := 107) (v := ?_) rfl rfl (by kernel_rfl) (by kernel_rfl) (by kernel_rfl) (fun _ _ _ h => h) (Or.inl ⟨by rfl, ?_⟩) (by assumption) ?_
              rotate_left
              · (intro w hSw; (try dsimp only at hSw); go_simp; try rfl)
              try simp only [Act.put, List.setIfInBounds_toArray, List.set_cons_zero, List.set_cons_succ]
              refine takeD (i := 24) (d := 108) (v := ?_) rfl rfl (by kernel_rfl) (by kernel_rfl) (by kernel_rfl) (fun _ _ _ h => h) (Or.inl ⟨by rfl, ?_⟩) (by assumption) ?_
              rotate_left
              · (intro w hSw; (try dsimp only at hSw); go_simp; try rfl)
              try simp only [Act.put, List.setIfInBounds_toArray, List.set_cons_zero, List.set_cons_succ]
              refine takeD (i := 25) (d := 109) (v := ?_) rfl rfl (by kernel_rfl) (by kernel_rfl) (by kernel_rfl) (fun _ _ _ h => h) (Or.inl ⟨by rfl, ?_⟩) (by assumption) ?_
              rotate_left
              · (intro w hSw; (try dsimp only at hSw); go_simp; try rfl)
              try simp only [Act.put, List.setIfInBounds_toArray, List.set_cons_zero, List.set_cons_succ]
              refine takeD (i := 26) (d := 110) (v := ?_) rfl rfl (by kernel_rfl) (by kernel_rfl) (by kernel_rfl) (fun _ _ _ h => h) (Or.inl ⟨by rfl, ?_⟩) (by assumption) ?_
              rotate_left
              · (intro w hSw; (try dsimp only at hSw); go_simp; try rfl)
              try simp only [Act.put, List.setIfInBounds_toArray, List.set_cons_zero, List.set_cons_succ]
              refine wpAnyH_ready (rs := [27]) (by kernel_rfl) (by simp) ?_
              refine AllReadyH.cons rfl (fun K hK => ?_) AllReadyH.nil
              go_simp
              (go_at_call 77; (with_reducible refine (HC1.out _ HBi.out HLi.out HMd.out).mono ?_); rintro e w3 ⟨a3, c3, rfl, hM3, hP3⟩; have M3 := Lib.hid hM3; have P3 := Lib.hid (HPd.out.trans hP3); have B3 := Lib.hid (HBel.out _ _ _ (HPd.out.trans hP3)); rw [HB1.out]; clear hM3 hP3)
              refine hK.out _ _ ?_ (fun hHeld => ?_)
              · exact HPC.out _ B3.out _ _ _ _ _ M3.out HUx.out.2.1 HUx.out.2.2
              clear hK K
              try simp only [Act.put, List.setIfInBounds_toArray, List.set_cons_zero, List.set_cons_succ]
              refine takeD (i := 28) (d := 112) (v := ?_) rfl rfl (by kernel_rfl) (by kernel_rfl) (by kernel_rfl) (fun _ _ _ h => h) (Or.inl ⟨by rfl, ?_⟩) (by assumption) ?_
              rotate_left
              · (intro w hSw; (try dsimp only at hSw); go_simp; try rfl)
              try simp only [Act.put, List.setIfInBounds_toArray, List.set_cons_zero, List.set_cons_succ]
              refine takeD (i := 29) (d := 113) (v := ?_) rfl rfl (by kernel_rfl) (by kernel_rfl) (by kernel_rfl) (fun _ _ _ h => h) (Or.inl ⟨by rfl, ?_⟩) (by assumption) ?_
              rotate_left
              · (intro w hSw; (try dsimp only at hSw); go_simp; try rfl)
              try simp only [Act.put, List.setIfInBounds_toArray, List.set_cons_zero, List.set_cons_succ]
              refine skipD (i := 30) (d := 114) rfl rfl (by kernel_rfl) (by kernel_rfl) (by kernel_rfl) (fun _ _ _ h => h) (by rfl) (by assumption) ?_
              try simp only [Act.put, List.setIfInBounds_toArray, List.set_cons_zero, List.set_cons_succ]
              refine skipD (i := 31) (d := 115) rfl rfl (by kernel_rfl) (by kernel_rfl) (by kernel_rfl) (fun _ _ _ h => h) (by rfl) (by assumption) ?_
              try simp only [Act.put, List.setIfInBounds_toArray, List.set_cons_zero, List.set_cons_succ]
              refine skipD (i := 32) (d := 116) rfl rfl (by kernel_rfl) (by kernel_rfl) (by kernel_rfl) (fun _ _ _ h => h) (by rfl) (by assumption) ?_
              try simp only [Act.put, List.setIfInBounds_toArray, List.set_cons_zero, List.set_cons_succ]
              refine skipD (i := 33) (d := 117) rfl rfl (by kernel_rfl) (by kernel_rfl) (by kernel_rfl) (fun _ _ _ h => h) (by rfl) (by assumption) ?_
              try simp only [Act.put, List.setIfInBounds_toArray, List.set_cons_zero, List.set_cons_succ]
              refine skipD (i := 34) (d := 118) rfl rfl (by kernel_rfl) (by kernel_rfl) (by kernel_rfl) (fun _ _ _ h => h) (by rfl) (by assumption) ?_
              try simp only [Act.put, List.setIfInBounds_toArray, List.set_cons_zero, List.set_cons_succ]
              refine skipD (i := 35) (d := 119) rfl rfl (by kernel_rfl) (by kernel_rfl) (by kernel_rfl) (fun _ _ _ h => h) (by rfl) (by assumption) ?_
              try simp only [Act.put, List.setIfInBounds_toArray, List.set_cons_zero, List.set_cons_succ]
              refine skipD (i := 36) (d := 120) rfl rfl (by kernel_rfl) (by kernel_rfl) (by kernel_rfl) (fun _ _ _ h => h) (by rfl) (by assumption) ?_
              try simp only [Act.put, List.setIfInBounds_toArray, List.set_cons_zero, List.set_cons_succ]
              refine skipD (i := 37) (d := 121) rfl rfl (by kernel_rfl) (by kernel_rfl) (by kernel_rfl) (fun _ _ _ h => h) (by rfl) (by assumption) ?_
              try simp only [Act.put, List.setIfInBounds_toArray, List.set_cons_zero, List.set_cons_succ]
              refine skipD (i := 38) (d := 122) rfl rfl (by kernel_rfl) (by kernel_rfl) (by kernel_rfl) (fun _ _ _ h => h) (by rfl) (by assumption) ?_
              try simp only [Act.put, List.setIfInBounds_toArray, List.set_cons_zero, List.set_cons_succ]
              refine skipD (i := 39) (d := 123) rfl rfl (by kernel_rfl) (by kernel_rfl) (by kernel_rfl) (fun _ _ _ h => h) (by rfl) (by assumption) ?_
              try simp only [Act.put, List.setIfInBounds_toArray, List.set_cons_zero, List.set_cons_succ]
              refine skipD (i := 40) (d := 124) rfl rfl (by kernel_rfl) (by kernel_rfl) (by kernel_rfl) (fun _ _ _ h => h) (by rfl) (by assumption) ?_
              try simp only [Act.put, List.setIfInBounds_toArray, List.set_cons_zero, List.set_cons_succ]
              refine skipD (i := 41) (d := 125) rfl rfl (by kernel_rfl) (by kernel_rfl) (by kernel_rfl) (fun _ _ _ h => h) (by rfl) (by assumption) ?_
              try simp only [Act.put, List.setIfInBounds_toArray, List.set_cons_zero, List.set_cons_succ]
              refine skipD (i := 42) (d := 126) rfl rfl (by kernel_rfl) (by kernel_rfl) (by kernel_rfl) (fun _ _ _ h => h) (by rfl) (by assumption) ?_
              try simp only [Act.put, List.setIfInBounds_toArray, List.set_cons_zero, List.set_cons_succ]
              refine skipD (i := 43) (d := 127) rfl rfl (by kernel_rfl) (by kernel_rfl) (by kernel_rfl) (fun _ _ _ h => h) (by rfl) (by assumption) ?_
              try simp only [Act.put, List.setIfInBounds_toArray, List.set_cons_zero, List.set_cons_succ]
              refine skipD (i := 44) (d := 128) rfl rfl (by kernel_rfl) (by kernel_rfl) (by kernel_rfl) (fun _ _ _ h => h) (by rfl) (by assumption) ?_
              try simp only [Act.put, List.setIfInBounds_toArray, List.set_cons_zero, List.set_cons_succ]
              refine skipD (i := 45) (d := 129) rfl rfl (by kernel_rfl) (by kernel_rfl) (by kernel_rfl) (fun _ _ _ h => h) (by rfl) (by assumption) ?_
              try simp only [Act.put, List.setIfInBounds_toArray, List.set_cons_zero, List.set_cons_succ]
              refine skipD (i := 46) (d := 130) rfl rfl (by kernel_rfl) (by kernel_rfl) (by kernel_rfl) (fun _ _ _ h => h) (by rfl) (by assumption) ?_
              try simp only [Act.put, List.setIfInBounds_toArray, List.set_cons_zero, List.set_cons_succ]
              refine skipD (i := 47) (d := 131) rfl rfl (by kernel_rfl) (by kernel_rfl) (by kernel_rfl) (fun _ _ _ h => h) (by rfl) (by assumption) ?_
              try simp only [Act.put, List.setIfInBounds_toArray, List.set_cons_zero, List.set_cons_succ]
              refine skipD (i := 48) (d := 132) rfl rfl (by kernel_rfl) (by kernel_rfl) (by kernel_rfl) (fun _ _ _ h => h) (by rfl) (by assumption) ?_
              try simp only [Act.put, List.setIfInBounds_toArray, List.set_cons_zero, List.set_cons_succ]
              refine skipD (i := 49) (d := 133) rfl rfl (by kernel_rfl) (by kernel_rfl) (by kernel_rfl) (fun _ _ _ h => h) (by rfl) (by assumption) ?_
              try simp only [Act.put, List.setIfInBounds_toArray, List.set_cons_zero, List.set_cons_succ]
              refine skipD (i := 50) (d := 134) rfl rfl (by kernel_rfl) (by kernel_rfl) (by kernel_rfl) (fun _ _ _ h => h) (by rfl) (by assumption) ?_
              try simp only [Act.put, List.setIfInBounds_toArray, List.set_cons_zero, List.set_cons_succ]
              refine skipD (i := 51) (d := 135) rfl rfl (by kernel_rfl) (by kernel_rfl) (by kernel_rfl) (fun _ _ _ h => h) (by rfl) (by assumption) ?_
              try simp only [Act.put, List.setIfInBounds_toArray, List.set_cons_zero, List.set_cons_succ]
              refine skipD (i := 52) (d := 136) rfl rfl (by kernel_rfl) (by kernel_rfl) (by kernel_rfl) (fun _ _ _ h => h) (by rfl) (by assumption) ?_
              try simp only [Act.put, List.setIfInBounds_toArray, List.set_cons_zero, List.set_cons_succ]
              refine skipD (i := 53) (d := 137) rfl rfl (by kernel_rfl) (by kernel_rfl) (by kernel_rfl) (fun _ _ _ h => h) (by rfl) (by assumption) ?_
              try simp only [Act.put, List.setIfInBounds_toArray, List.set_cons_zero, List.set_cons_succ]
              refine skipD (i := 54) (d := 138) rfl rfl (by kernel_rfl) (by kernel_rfl) (by kernel_rfl) (fun _ _ _ h => h) (by rfl) (by assumption) ?_
              try simp only [Act.put, List.setIfInBounds_toArray, List.set_cons_zero, List.set_cons_succ]
              refine skipD (i := 55) (d := 139) rfl rfl (by kernel_rfl) (by kernel_rfl) (by kernel_rfl) (fun _ _ _ h => h) (by rfl) (by assumption) ?_
              try simp only [Act.put, List.setIfInBounds_toArray, List.set_cons_zero, List.set_cons_succ]
              refine skipD (i := 56) (d := 140) rfl rfl (by kernel_rfl) (by kernel_rfl) (by kernel_rfl) (fun _ _ _ h => h) (by rfl) (by assumption) ?_
              try simp only [Act.put, List.setIfInBounds_toArray, List.set_cons_zero, List.set_cons_succ]
              refine skipD (i := 57) (d := 141) rfl rfl (by kernel_rfl) (by kernel_rfl) (by kernel_rfl) (fun _ _ _ h => h) (by rfl) (by assumption) ?_
              try simp only [Act.put, List.setIfInBounds_toArray, List.set_cons_zero, List.set_cons_succ]
              refine skipD (i := 58) (d := 142) rfl rfl (by kernel_rfl) (by kernel_rfl) (by kernel_rfl) (fun _ _ _ h => h) (by rfl) (by assumption) ?_
              try simp only [Act.put, List.setIfInBounds_toArray, List.set_cons_zero, List.set_cons_succ]
              refine takeD (i := 59) (d := 143) (v := ?_) rfl rfl (by kernel_rfl) (by kernel_rfl) (by kernel_rfl) (fun _ _ _ h => h) (Or.inl ⟨by rfl, ?_⟩) (by assumption) ?_
              rotate_left
              · (intro w hSw; (try dsimp only at hSw); go_simp; try rfl)
              try simp only [Act.put, List.setIfInBounds_toArray, List.set_cons_zero, List.set_cons_succ]
              refine wpAnyH_done (by kernel_rfl) ?_ _
              clear x1 x2 x3 x4 x5 x6 x7 x8 x9 x10 x11 x12
              go_wp2
              go_ret
              have e := HFn.out
              subst e
              exact ⟨a3, c3, by rw [HB1.out]; rfl, M3.out, P3.out⟩
            obtain ⟨g1, g2, g3, g4⟩ := A1' hb1
            obtain ⟨z3in, z4in, A2⟩ := A2' hb1
            obtain ⟨p2, hp2⟩ : ∃ p, asg F G n d p1.2 (argB1 F X j k s2) (argB2 G V j k s2) = p := ⟨_, rfl⟩
            rw [hp2] at A2
            have hst := stepA_tt hp1 hb1 hp2
            rw [hst] at A3'
            have HC2 : Hid (∀ W a c, Below w0.heap.size w0 W → L ≤ W.heap.size → MapAt W mb ib ub n L (.slice (some ⟨fb, fo, none⟩) K fc) (.slice (some ⟨gb, go', none⟩) K gc) a c p1.2.im p1.2.us p1.2.st → Calls Try.prog 77 #[.pointer (some ⟨mb, 0, none⟩), .int .i64 (q2), .int .i64 (q4)] W (RAs mb ib ub n L (.slice (some ⟨fb, fo, none⟩) K fc) (.slice (some ⟨gb, go', none⟩) K gc) a c p2 W)) := Lib.hid fun W a c hb hL hM => by
              have := IH.out p1.2 _ _ a c W g1.mS (by have := HD.out; omega) z3in z4in hb hL hM
              rw [hp2, e3, e4] at this; exact this
            have hUU4 : nth p2.2.im Y = U := by
              have hji3 : j < p1.2.st.length := by omega
              have hmi := ((Lp.mp g1).mem _).1 (nth_memN hji3)
              rw [g2, HY.out.1] at hmi
              rw [Asg.more A2 _ hmi.1 hmi.2, hUU]
            have hl4 : p2.2.im.length = n := Mp.imL (Asg.mp A2)
            have hg5 : nth p2.2.st j = Y ∧ s1.st.length ≤ p2.2.st.length := by
              have h5 := pre_nth (Asg.pre A2) (i := j) (by omega)
              refine ⟨by rw [h5, g2, HY.out.1], ?_⟩
              have := (Asg.pre A2).length_le
              have := HY.out.2
              omega
            have HUy := Lib.hid (And.intro hl4 hUU4)
            have HB1 := Lib.hid hb1
            obtain ⟨x1, x2, x3, x4, x5, x6, x7, x8, x9, x10, x11, x12⟩ := HPC.out _ hbi _ _ _ _ _ HM.out hl2 hU
            obtain ⟨b2, hb2⟩ : ∃ b, p2.1 = b := ⟨_, rfl⟩
            have HB2 := Lib.hid hb2
            have HFn := Lib.hid (show (p2.1 = false → p2 = fin) ∧ (p2.1 = true → _) from ⟨rest_false HFin.out hkF hst, rest_true HFin.out hkF hst⟩)
            have HA3 := Lib.hid A3'.2
            have HG5 := Lib.hid hg5
            clear hq1 hq2 hq3 hq4 A1 A1' A2' A3' A2 hf hp1 hp2 hst e1 e2 e3 e4 z1in z2in z3in z4in hl2 hl3 hUU hUU4 hl4 hg5 hb1 hU hbi hLi g1 g2 g3 g4 hb2
            go_wp2_with fail
            go_region_held3 (fun w' => w'.cell? ⟨tb k, to k + X, none⟩ = some (.slice (some ⟨rb k X, ro k X, none⟩) n (rc k X)) ∧ w'.cell? ⟨rb k X, ro k X + Y, none⟩ = some (.int .i64 (q1)) ∧ w'.cell? ⟨tb k, to k + Y, none⟩ = some (.slice (some ⟨rb k Y, ro k Y, none⟩) n (rc k Y)) ∧ w'.cell? ⟨rb k Y, ro k Y + X, none⟩ = some (.int .i64 (q2)) ∧ w'.cell? ⟨mb, 1, none⟩ = some (.slice (some ⟨gb, go', none⟩) K gc) ∧ w'.cell? ⟨gb, go' + k, none⟩ = some (.slice (some ⟨tb' k, to' k, none⟩) n (tc' k)) ∧ w'.cell? ⟨tb' k, to' k + V, none⟩ = some (.slice (some ⟨rb' k V, ro' k V, none⟩) n (rc' k V)) ∧ w'.cell? ⟨mb, 2, none⟩ = some (.slice (some ⟨ib, 0, none⟩) n n) ∧ w'.cell? ⟨ib, Y, none⟩ = some (.int .i64 U) ∧ w'.cell? ⟨rb' k V, ro' k V + U, none⟩ = some (.int .i64 (q3)) ∧ w'.cell? ⟨tb' k, to' k + U, none⟩ = some (.slice (some ⟨rb' k U, ro' k U, none⟩) n (rc' k U)) ∧ w'.cell? ⟨rb' k U, ro' k U + V, none⟩ = some (.int .i64 (q4)))
              (first | exact HPC.out _ HBi.out _ _ _ _ _ HMd.out HUx.out.1.1 HUx.out.1.2 | exact HPC.out _ B3.out _ _ _ _ _ M3.out HUx.out.2.1 HUx.out.2.2 | exact HPC.out _ B4.out _ _ _ _ _ M4.out HUy.out.1 HUy.out.2)
              (first
                | (go_at_call 77; (with_reducible refine (HC1.out _ HBi.out HLi.out HMd.out).mono ?_); rintro e w3 ⟨a3, c3, rfl, hM3, hP3⟩; have M3 := Lib.hid hM3; have P3 := Lib.hid (HPd.out.trans hP3); have B3 := Lib.hid (HBel.out _ _ _ (HPd.out.trans hP3)); have L3 := Lib.hid (HLe.out _ _ _ (HPd.out.trans hP3)); rw [HB1.out]; clear hM3 hP3)
                | (go_at_call 77; (with_reducible refine (HC2.out _ _ _ B3.out L3.out M3.out).mono ?_); rintro e w4 ⟨a4, c4, rfl, hM4, hP4⟩; have M4 := Lib.hid hM4; have P4 := Lib.hid (P3.out.trans hP4); have B4 := Lib.hid (HBel.out _ _ _ (P3.out.trans hP4)); rw [HB2.out]; clear hM4 hP4))
            rename_i hHz
            clear hHz x1 x2 x3 x4 x5 x6 x7 x8 x9 x10 x11 x12
            cases b2 with
            | false =>
              go_wp2
              go_ret
              have e := HFn.out.1 HB2.out
              subst e
              exact ⟨a4, c4, by rw [HB2.out]; rfl, M4.out, P4.out⟩
            | true =>
              go_wp2
              go_roundw
              case rel =>
                have h3 := HA3.out
                rw [HB2.out] at h3
                exact ⟨k + 1, p2.2, a4, c4, by omega, by go_num, Lib.hid (by simpa using h3), Lib.hid (HFn.out.2 HB2.out), HG5, M4, P4⟩
              case measure => simp [intOf]; omega
          · obtain rfl : k = K := by omega
            go_wp2
            go_roundw
            case rel =>
              refine ⟨j + 1, s2, a2, c2, by omega, by go_num, Lib.hid (Lp.next (by have := HLp.out; rw [HKK.out.1] at this; exact this)), Lib.hid ?_, HM, HP⟩
              have e := HFin.out
              rw [HKK.out.1, Nat.sub_self] at e
              simp only [rowA, if_true] at e
              rw [show n + 1 - (j + 1) = n - j by omega]
              exact e
            case measure => simp [intOf]; omega
      · go_wp2
        go_ret
        have e := HFin.out
        rw [show n + 1 - j = (n - j) + 1 by omega] at e
        simp only [outA] at e
        rw [if_neg hj] at e
        subst e
        exact ⟨a, c, rfl, HM.out, HP.out⟩
end Go.Proofs.Ytgmhnjccgldddaa
