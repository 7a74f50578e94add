/-
  The program's search for isomorphisms: 'extend' hands the maps that go on with a partial map, one after the other.
-/
import Derived.Test.YtgmhnjccgldddaaY3
import Derived.Test.YtgmhnjccgldddaaR1k
namespace Go.Proofs.Ytgmhnjccgldddaa
set_option linter.unusedVariables false
set_option linter.unusedSimpArgs false
open Go Go.RowKit Go.Shelf
attribute [local go_sem] Oper.semAt_some

theorem yieldAt_wide {m m' : Nat} {P : Program} {l : Nat} {args : Array Value} {W : World} {R : Ending → World → Prop} (h : YieldAt Fence.wide m P l args W R) : YieldAt Fence.wide m' P l args W R := by
  obtain ⟨fn, tmps, assign, body, hy, h1, h2⟩ := h
  exact ⟨fn, tmps, assign, body, hy, h1, fun c cs _ => h2 c cs (room_wide _)⟩

theorem isoLt_more {n : Nat} {F G : List (List (List Int))} {im : List Int} {x : Nat} (hx : FirstFree n im x) (v : Nat) : ∀ r : Nat, ∃ R, isoLt n F G (Goes n im) x (v + r) = isoLt n F G (Goes n im) x v ++ R
  | 0 => ⟨[], by simp⟩
  | r + 1 => by
    obtain ⟨R, hR⟩ := isoLt_more hx v r
    have h := isoM_part (F := F) (G := G) (k := v + r) hx
    exact ⟨R ++ isoQ n F G (fun p => Goes n im p ∧ nth p x = (v + r : Nat)), by rw [show v + (r + 1) = (v + r) + 1 by omega, h, hR, List.append_assoc]⟩
/-- Where the maps with image v of x lie among all that go on. -/
theorem isoM_split {n : Nat} {F G : List (List (List Int))} {im : List Int} {x v : Nat} (hx : FirstFree n im x) (hv : v < n) : ∃ R, isoM n F G im = isoLt n F G (Goes n im) x v ++ (isoQ n F G (fun p => Goes n im p ∧ nth p x = v) ++ R) := by
  obtain ⟨R, hR⟩ := isoLt_more (F := F) (G := G) hx (v + 1) (n - (v + 1))
  have h := isoM_part (F := F) (G := G) (k := v) hx
  have e : isoM n F G im = isoLt n F G (Goes n im) x n := (isoLt_all ⟨by omega, by have := hx.1; omega⟩).symm
  refine ⟨R, ?_⟩
  rw [show v + 1 + (n - (v + 1)) = n by omega] at hR
  rw [e, hR, h, List.append_assoc]

/-- All values at what is set are kept. -/
def VerAll (F G : List (List (List Int))) (s : MSt) : Prop := ∀ y ∈ s.st, ∀ z ∈ s.st, VerA F G s.im y z
theorem VerAll.asg {n : Nat} {F G : List (List (List Int))} {s : MSt} {x v : Int} {r : Bool × MSt} (h : VerAll F G s) (hm : MpS n s) (ht : Tabs n F) (ha : AsgS n F G s x v r) (hb : r.1 = true) : VerAll F G r.2 := by
  intro y hy z hz
  by_cases h1 : y ∈ s.st
  · by_cases h2 : z ∈ s.st
    · have g1 := (Mp.mem hm y).1 h1
      have g2 := (Mp.mem hm z).1 h2
      exact (h y h1 z h2).more (Asg.more ha) ht g1.1 g2.1 g1.2 g2.2
    · exact (Asg.ver ha hb z hz h2 y hy).symm
  · exact Asg.ver ha hb y hy h1 z hz
theorem asg_longer {n : Nat} {F G : List (List (List Int))} {s : MSt} {x v : Int} {r : Bool × MSt} (hm : MpS n s) (ha : AsgS n F G s x v r) (hx : InN n x) (h0 : nth s.im x < 0) (hb : r.1 = true) (hv : 0 ≤ v) : s.st.length + 1 ≤ r.2.st.length := by
  obtain ⟨t, ht⟩ := Asg.pre ha
  rw [← ht, List.length_append]
  rcases Nat.eq_zero_or_pos t.length with e | e
  · exfalso
    have e2 : t = [] := List.eq_nil_of_length_eq_zero e
    rw [e2, List.append_nil] at ht
    have h1 := Asg.val ha hb
    have h2 := (Mp.mem (Asg.mp ha) x).2 ⟨hx, by rw [h1]; exact hv⟩
    rw [← ht] at h2
    have := ((Mp.mem hm x).1 h2).2
    omega
  · omega

theorem Mp.allset {n : Nat} {im : List Int} {us : List Bool} {st : List Int} (h : Mp n im us st) (hf : ∀ x, InN n x → 0 ≤ nth im x) : n ≤ st.length := by
  rcases Nat.lt_or_ge st.length n with hlt | hge
  · exfalso
    have := (perm_of_sub (m := st) (iota_nodup n) (fun x hx => (h.mem x).2 ⟨(mem_iota n x).1 hx, hf x ((mem_iota n x).1 hx)⟩) (by simp; omega)).length_eq
    simp at this; omega
  · exact hge
theorem row_mid (T1 T2 : List (List Int)) (x : List Int) : row (T1 ++ ([x] ++ T2)) (T1.length : Nat) = x := by
  rw [row_nat _ _ (by simp)]
  simp
/-- How far the caller is: nothing has been handed yet, or k maps, and the blocks of the search lie below hi. -/
def PhJ (W1 : World) (J : Nat → Nat → World → Prop) (n mb ib ub : Nat) (a : Option Addr) (c k : Nat) (w : World) : Prop :=
  (k = 0 ∧ Below W1.heap.size W1 w) ∨ ∃ hi, J hi k w ∧ W1.heap.size ≤ hi ∧ hi ≤ w.heap.size ∧ n ≤ c ∧ ∀ b, MBl mb ib ub (.slice a 0 c) b → b < hi
theorem mbl_lo {w W1 : World} {mb ib ub n L : Nat} {vF vG : Value} {a : Option Addr} {c : Nat} {im : List Int} {us : List Bool} {st : List Int} (hM : MapAt w mb ib ub n L vF vG a c im us st) (hlo : W1.heap.size ≤ mb ∧ W1.heap.size ≤ ib ∧ W1.heap.size ≤ ub) {b : Nat} (hb : MBl mb ib ub (.slice a 0 c) b) : W1.heap.size ≤ b ∧ b < w.heap.size := by
  have hb' : MBl mb ib ub (.slice a st.length c) b := by
    rcases hb with h | h | h | h
    · exact .inl h
    · exact .inr (.inl h)
    · exact .inr (.inr (.inl h))
    · exact .inr (.inr (.inr ((own_irr _ _ _ _ _).trans h)))
  refine ⟨?_, hM.lt hb'⟩
  rcases hb' with h | h | h | h
  · omega
  · omega
  · omega
  · have := (hM.own.ownLt h).1
    have := hM.ne
    omega
theorem PhJ.step {W1 : World} {J : Nat → Nat → World → Prop} (hJ : ∀ hi k W W', J hi k W → Keep (fun b => W1.heap.size ≤ b ∧ b < hi) W W' → J hi k W') {n mb ib ub L : Nat} {a a' : Option Addr} {c c' k : Nat} {w w' : World} {vF vG : Value} {im : List Int} {us : List Bool} {st : List Int}
    (h : PhJ W1 J n mb ib ub a c k w) (hM : MapAt w mb ib ub n L vF vG a c im us st) (hlo : W1.heap.size ≤ mb ∧ W1.heap.size ≤ ib ∧ W1.heap.size ≤ ub) (hp : Ph n mb ib ub a c w a' c' w') : PhJ W1 J n mb ib ub a' c' k w' := by
  rcases h with ⟨h1, h2⟩ | ⟨hi, h1, h2, h3, h4, h5⟩
  · exact .inl ⟨h1, hp.below hM hlo h2⟩
  · obtain ⟨rfl, rfl⟩ := hp.2.1 h4
    exact .inr ⟨hi, hJ _ _ _ _ h1 (hp.1.mono fun b _ hb => ⟨(mbl_lo hM hlo hb).1, h5 b hb⟩), h2, Nat.le_trans h3 hp.1.size, h4, h5⟩
theorem keep_ph {n mb ib ub N : Nat} {a : Option Addr} {c : Nat} {w w' : World} (k : Keep (MBl mb ib ub (.slice a N c)) w w') : Ph n mb ib ub a c w a c w' :=
  ⟨k.mono fun b _ h => by
    rcases h with h | h | h | h
    · exact .inl h
    · exact .inr (.inl h)
    · exact .inr (.inr (.inl h))
    · exact .inr (.inr (.inr ((own_irr _ _ _ _ _).trans h))), fun _ => ⟨rfl, rfl⟩, fun _ h => .inl h⟩

/-- The post of 'extend'. -/
def REx (W1 : World) (J Jx : Nat → Nat → World → Prop) (mb ib ub n L : Nat) (vF vG : Value) (s : MSt) (k : Nat) (e : Ending) (w' : World) : Prop :=
  (e = .returned (.bool true) ∧ ∃ a c, MapAt w' mb ib ub n L vF vG a c s.im s.us s.st ∧ PhJ W1 J n mb ib ub a c k w' ∧ L ≤ w'.heap.size) ∨
  (e = .returned (.bool false) ∧ ∃ hi k' a c, Jx hi k' w' ∧ (∀ b, MBl mb ib ub (.slice a 0 c) b → b < hi) ∧ MapAt w' mb ib ub n L vF vG a c s.im s.us s.st)

theorem PhJ.below {w0 W1 : World} {J : Nat → Nat → World → Prop} (hw : Below w0.heap.size w0 W1) (hZ : ∀ hi k W, J hi k W → Below w0.heap.size w0 W) {n mb ib ub : Nat} {a : Option Addr} {c k : Nat} {w : World} (h : PhJ W1 J n mb ib ub a c k w) : Below w0.heap.size w0 w := by
  rcases h with ⟨_, h2⟩ | ⟨hi, h1, _⟩
  · exact bb hw h2
  · exact hZ _ _ _ h1

set_option maxRecDepth 100000 in
set_option maxHeartbeats 8000000 in
theorem c_extend {n K : Nat} {F G : List (List (List Int))} (w0 W1 : World) (hw : Below w0.heap.size w0 W1) {fb fo fc gb go' gc : Nat} {tb to tc tb' to' tc' : Nat → Nat} {rb ro rc rb' ro' rc' : Nat → Nat → Nat} (hF : Tb3 w0 fb fo n K F tb to tc rb ro rc) (hG : Tb3 w0 gb go' n K G tb' to' tc' rb' ro' rc')
    (hKF : K = F.length) (hKG : K = G.length) (hn : n ≤ 12) (hK : K ≤ 12) (hfc : K ≤ fc) (hgc : K ≤ gc) (mb ib ub L : Nat) (hlo : W1.heap.size ≤ mb ∧ W1.heap.size ≤ ib ∧ W1.heap.size ≤ ub) (l N : Nat) (J Jx : Nat → Nat → World → Prop)
    (hZ : ∀ hi k W, J hi k W → Below w0.heap.size w0 W)
    (hJ : ∀ hi k W W', J hi k W → Keep (fun b => W1.heap.size ≤ b ∧ b < hi) W W' → J hi k W') (hJx : ∀ hi k W W', Jx hi k W → Keep (fun b => W1.heap.size ≤ b ∧ b < hi) W W' → Jx hi k W')
    (h0 : ∀ W', Below W1.heap.size W1 W' → J W'.heap.size 0 W')
    (hY : ∀ hi k u W, J hi k W → W1.heap.size ≤ hi → hi ≤ W.heap.size → k < (isoAll n F G).length → Ints W u (row (isoAll n F G) k) → YieldAt Fence.wide N Try.prog l #[u] W fun e W' =>
      (e = .returned (.bool true) ∧ J hi (k + 1) W' ∧ Keep (fun b => b < W1.heap.size ∨ hi ≤ b) W W') ∨ (e = .returned (.bool false) ∧ Jx hi (k + 1) W' ∧ Keep (fun b => b < W1.heap.size ∨ hi ≤ b) W W')) :
    ∀ (d : Nat) (s : MSt) (a0 : Option Addr) (c0 : Nat) (w : World) (T1 T2 : List (List Int)), MpS n s → n < s.st.length + d → VerAll F G s → MapAt w mb ib ub n L (.slice (some ⟨fb, fo, none⟩) K fc) (.slice (some ⟨gb, go', none⟩) K gc) a0 c0 s.im s.us s.st →
      PhJ W1 J n mb ib ub a0 c0 T1.length w → isoAll n F G = T1 ++ (isoM n F G s.im ++ T2) → L ≤ w.heap.size →
      Calls Try.prog 54 #[.pointer (some ⟨mb, 0, none⟩), .func (.yield l) #[] #[]] w (REx W1 J Jx mb ib ub n L (.slice (some ⟨fb, fo, none⟩) K fc) (.slice (some ⟨gb, go', none⟩) K gc) s (T1.length + (isoM n F G s.im).length)) := by
  have HTab := Lib.hid (And.intro (hF.tabs hKF) (hG.tabs hKG))
  have hneq : F.length = G.length := by omega
  have HGood := Lib.hid (fun d m (h : n < m + d) => asg_good HTab.out.1 HTab.out.2 hneq d m h)
  have HAs := Lib.hid (c_assign w0 hF hG hKF hKG hn hK hfc hgc mb ib ub L ⟨Nat.le_trans hw.size hlo.1, Nat.le_trans hw.size hlo.2.1, Nat.le_trans hw.size hlo.2.2⟩)
  have HZ := Lib.hid hZ; have HJ := Lib.hid hJ; have HJx := Lib.hid hJx; have H0 := Lib.hid h0; have HY := Lib.hid hY; have HLo := Lib.hid hlo; have HW := Lib.hid hw
  clear hF hG hKF hKG hZ hJ hJx h0 hY hlo hw hneq
  intro d
  induction d with
  | zero => intro s a0 c0 w T1 T2 hm hd; have := Mp.len hm; omega
  | succ d ih =>
    intro s a0 c0 w T1 T2 hm hd hv hM hP hT hL
    have IH := Lib.hid ih
    have HM := Lib.hid hM; have HMp := Lib.hid hm; have HD := Lib.hid hd; have HV := Lib.hid hv; have HP := Lib.hid hP; have HT := Lib.hid hT; have HL := Lib.hid hL
    obtain ⟨m0, m1, m2, m3, m4, m5⟩ := hM.cells
    have hil : s.im.length = n := Mp.imL hm
    have hIm : Ints w (.slice (some ⟨ib, 0, none⟩) n n) s.im := (Own.of_blk (B := 0) hM.imb (Nat.zero_le _) (by rw [hil]; unfold maxLen; omega) hil.symm hil.symm).ints
    have HIm := Lib.hid hIm
    have hil2 : s.im.length ≤ 1048576 := by omega
    clear ih hm hd hv hM hP hT hL hIm
    refine (callsIn_wide (n := N + 2)).1 ?_
    refine callsIn_of_wp Try.func54 rfl trivial ?_ rfl
    simp only [Try.ntmps54, List.size_toArray, List.length_cons, List.length_nil, Nat.reduceAdd, Nat.reduceSub, Array.replicate_succ, Array.replicate_zero, List.push_toArray, List.append_toArray, List.nil_append, List.cons_append]
    gi_wp2_with (refine ⟨trivial, ?_⟩; gi_at_call 76; refine (callsIn_wide.2 (c_Index _ s.im (-1) _ HIm.out hil2)).mono ?_; rintro e w' ⟨r, rfl, rfl, (⟨rfl, hall⟩ | ⟨x, rfl, hxl, hx1, hxb⟩)⟩)
    · have hfull : ∀ x, InN n x → 0 ≤ nth s.im x := fun x hx => by
        have h1 := hall x.toNat (by rw [hil]; have := hx.2; have := hx.1; omega)
        rw [show ((x.toNat : Nat) : Int) = x by have := hx.1; omega] at h1
        have := (Mp.rng HMp.out x hx).1
        omega
      have hone : isoM n F G s.im = [s.im] := isoM_full HMp.out hfull HV.out
      have hnc : n ≤ c0 := by
        have h1 := Mp.allset HMp.out hfull
        obtain ⟨_, _, e, h2, _⟩ := HM.out.own.ints.shape
        injection e with e1 e2 e3
        omega
      obtain ⟨hi, hj, hlo1, hhi, hmb⟩ : ∃ hi, J hi T1.length w ∧ W1.heap.size ≤ hi ∧ hi ≤ w.heap.size ∧ ∀ b, MBl mb ib ub (.slice a0 0 c0) b → b < hi := by
        rcases HP.out with ⟨hk, hb⟩ | ⟨hi, h1, h2, h3, h4, h5⟩
        · rw [hk]
          exact ⟨w.heap.size, H0.out w hb, hb.size, Nat.le_refl _, fun b h => (mbl_lo HM.out HLo.out h).2⟩
        · exact ⟨hi, h1, h2, h3, h5⟩
      have hT := HT.out
      rw [hone] at hT
      have HOne := Lib.hid hone
      have hrow : row (isoAll n F G) (T1.length : Nat) = s.im := by rw [hT]; exact row_mid _ _ _
      have hlt : T1.length < (isoAll n F G).length := by rw [hT]; simp
      obtain ⟨fn, tmps, assign, body, hy, hR⟩ := yieldAt_wide (m' := N + 1) (HY.out hi T1.length _ w hj hlo1 hhi hlt (by rw [hrow]; exact HIm.out))
      have HJ1 := Lib.hid hj; have HHi := Lib.hid (And.intro hlo1 (And.intro hhi hmb)); have HNc := Lib.hid hnc
      have hkeepM : ∀ W' : World, Keep (fun b => b < W1.heap.size ∨ hi ≤ b) w W' → MapAt W' mb ib ub n L (.slice (some ⟨fb, fo, none⟩) K fc) (.slice (some ⟨gb, go', none⟩) K gc) a0 c0 s.im s.us s.st := fun W' k => HM.out.keep k fun b hb e => by
        have hb' : MBl mb ib ub (.slice a0 0 c0) b := by
          rcases hb with h | h | h | h
          · exact .inl h
          · exact .inr (.inl h)
          · exact .inr (.inr (.inl h))
          · exact .inr (.inr (.inr ((own_irr _ _ _ _ _).trans h)))
        have h1 := (mbl_lo HM.out HLo.out hb').1
        have h2 := HHi.out.2.2 b hb'
        omega
      have HKM := Lib.hid hkeepM
      clear hfull hone hnc hj hlo1 hhi hmb hT hrow hlt hall hkeepM
      gi_wp2
      simp only [hy]
      refine ⟨by simp, hR.mono ?_⟩
      rintro e W3 (⟨rfl, hJ3, hk3⟩ | ⟨rfl, hJx3, hk3⟩)
      · have HJ3 := Lib.hid hJ3; have HK3 := Lib.hid hk3
        clear hJ3 hk3 hR hy
        gi_wp2
        go_ret
        exact .inl ⟨rfl, a0, c0, HKM.out _ HK3.out, .inr ⟨hi, by rw [HOne.out]; exact HJ3.out, HHi.out.1, Nat.le_trans HHi.out.2.1 HK3.out.size, HNc.out, HHi.out.2.2⟩, Nat.le_trans HL.out HK3.out.size⟩
      · have HJ3 := Lib.hid hJx3; have HK3 := Lib.hid hk3
        clear hJx3 hk3 hR hy
        gi_wp2
        go_ret
        exact .inr ⟨rfl, hi, T1.length + 1, a0, c0, HJ3.out, HHi.out.2.2, HKM.out _ HK3.out⟩
    · have hxn : x < n := by omega
      have HFr := Lib.hid (show FirstFree n s.im x from ⟨hxn, hx1, fun y hy => by
        have h1 := hxb y hy
        have := (Mp.rng HMp.out y ⟨by omega, by omega⟩).1
        omega⟩)
      have HXi := Lib.hid (show InN n (x : Int) from ⟨by omega, by omega⟩)
      clear hxl hx1 hxb
      gi_wp2
      gi_loopw [32] (fun v wr => ∃ (q : Nat) (a : Option Addr) (c : Nat), q ≤ n ∧ v = .int .i64 q ∧ Hid (MapAt wr mb ib ub n L (.slice (some ⟨fb, fo, none⟩) K fc) (.slice (some ⟨gb, go', none⟩) K gc) a c s.im s.us s.st) ∧ Hid (PhJ W1 J n mb ib ub a c (T1.length + (isoLt n F G (Goes n s.im) x q).length) wr) ∧ Hid (L ≤ wr.heap.size)) (fun v _ => n - (intOf v).toNat)
      case atStart => exact ⟨0, a0, c0, Nat.zero_le _, rfl, HM, by rw [isoLt_zero HXi.out]; exact HP, HL⟩
      case round =>
        clear HM HP HL m0 m1 m2 m3 m4 m5 HIm
        obtain ⟨q, a, c, hq, rfl, HM, HP, HL⟩ := hrel
        obtain ⟨wo, rfl⟩ : ∃ wo : World, wo = wr := ⟨_, rfl⟩
        obtain ⟨m0, m1, m2, m3, m4, m5⟩ := HM.out.cells
        by_cases hqn : q < n
        · have hpart := isoM_part (F := F) (G := G) (k := q) HFr.out
          have hQi : InN n (q : Int) := ⟨by omega, by omega⟩
          obtain ⟨gu, gu2⟩ := HM.out.usc q (by omega) (by rw [Mp.usL HMp.out]; omega)
          simp only [Int.toNat_natCast] at gu gu2
          by_cases hu : nthB s.us q = true
          · have HPa := Lib.hid (show isoLt n F G (Goes n s.im) x (q + 1) = isoLt n F G (Goes n s.im) x q by rw [hpart, isoM_used HMp.out HFr.out hqn hu, List.append_nil])
            rw [hu] at gu
            clear hpart hu
            gi_wp2
            go_roundw
            case rel => exact ⟨q + 1, a, c, by omega, by go_num, HM, by rw [HPa.out]; exact HP, HL⟩
            case measure => simp [intOf]; omega
          · have hu' : nthB s.us q = false := by simpa using hu
            rw [hu'] at gu
            obtain ⟨R, hsp⟩ := isoM_split (F := F) (G := G) HFr.out hqn
            obtain ⟨p, hp⟩ : ∃ p, asg F G n (d + 1) s x q = p := ⟨_, rfl⟩
            have hA : AsgS n F G s x q p := by rw [← hp]; exact HGood.out (d + 1) s.st.length (by have := HD.out; omega) s x q HMp.out (Nat.le_refl _) HXi.out hQi
            have hqp := isoM_asg HFr.out.1 hA
            have hC := HAs.out (d + 1) s x q a c wo HMp.out (by have := HD.out; omega) HXi.out hQi (HP.out.below HW.out HZ.out) HL.out HM.out
            rw [hp] at hC
            rw [hqp] at hpart hsp
            have HC := Lib.hid hC; have HA := Lib.hid hA; have HPt := Lib.hid hpart; have HSp := Lib.hid hsp
            have hn2 : n ≤ 1048576 := by omega
            have HUn : Hid (∀ (a2 : Option Addr) (c2 : Nat) (w5 : World), MapAt w5 mb ib ub n L (.slice (some ⟨fb, fo, none⟩) K fc) (.slice (some ⟨gb, go', none⟩) K gc) a2 c2 p.2.im p.2.us p.2.st → Calls Try.prog 78 #[.pointer (some ⟨mb, 0, none⟩), .int .i64 s.st.length] w5 (fun e w' => (∃ v, e = .returned v) ∧ MapAt w' mb ib ub n L (.slice (some ⟨fb, fo, none⟩) K fc) (.slice (some ⟨gb, go', none⟩) K gc) a2 c2 s.im s.us s.st ∧ Ph n mb ib ub a2 c2 w5 a2 c2 w')) := Lib.hid fun a2 c2 w5 hM5 =>
              (c_undo mb ib ub L _ _ a2 c2 w5 HMp.out (Asg.mp hA) (Asg.pre hA) (Asg.more hA) hn2 hM5).mono fun e w' h => ⟨h.1, h.2.1, keep_ph h.2.2⟩
            clear hu hu' hsp hqp hA hC hpart hn2
            by_cases hb : p.1 = true
            · have hlong := asg_longer HMp.out HA.out HXi.out (by rw [HFr.out.2.1]; omega) hb (by omega)
              have hver := HV.out.asg HMp.out HTab.out.1 HA.out hb
              have HB := Lib.hid hb
              have hpart := HPt.out
              have hsp := HSp.out
              rw [hb] at hpart hsp
              simp only [if_true] at hpart hsp
              have HEx : Hid (∀ (a1 : Option Addr) (c1 : Nat) (w4 : World), MapAt w4 mb ib ub n L (.slice (some ⟨fb, fo, none⟩) K fc) (.slice (some ⟨gb, go', none⟩) K gc) a1 c1 p.2.im p.2.us p.2.st → PhJ W1 J n mb ib ub a1 c1 (T1.length + (isoLt n F G (Goes n s.im) x q).length) w4 → L ≤ w4.heap.size → Calls Try.prog 54 #[.pointer (some ⟨mb, 0, none⟩), .func (.yield l) #[] #[]] w4 (REx W1 J Jx mb ib ub n L (.slice (some ⟨fb, fo, none⟩) K fc) (.slice (some ⟨gb, go', none⟩) K gc) p.2 (T1.length + (isoLt n F G (Goes n s.im) x (q + 1)).length))) := Lib.hid fun a1 c1 w4 h1 h2 h3 => by
                have := IH.out p.2 a1 c1 w4 (T1 ++ isoLt n F G (Goes n s.im) x q) (R ++ T2) (Asg.mp HA.out) (by have := HD.out; omega) hver h1 (by rw [List.length_append]; exact h2) (by rw [HT.out, hsp]; simp only [List.append_assoc]) h3
                rw [hpart, List.length_append]
                rw [List.length_append, Nat.add_assoc] at this
                exact this
              clear hb hlong hver hpart hsp
              gi_wp2_with (refine ⟨trivial, ?_⟩; gi_at_call 77; refine (callsIn_wide.2 HC.out).mono ?_; rintro e w4 ⟨a1, c1, rfl, hM4, hP4⟩; rw [HB.out]; have M4 := Lib.hid hM4; have P4 := Lib.hid (HP.out.step HJ.out HM.out HLo.out hP4); have L4 := Lib.hid (Nat.le_trans HL.out hP4.1.size); clear hM4 hP4)
              gi_wp2_with (refine ⟨trivial, ?_⟩; gi_at_call 54; refine (callsIn_wide.2 (HEx.out _ _ _ M4.out P4.out L4.out)).mono ?_; rintro e w5 (⟨rfl, a2, c2, hM5, hP5, hL5⟩ | ⟨rfl, hi, k', a2, c2, hJ5, hmb, hM5⟩))
              · have M5 := Lib.hid hM5; have P5 := Lib.hid hP5
                have L5 := Lib.hid hL5
                clear hM5 hP5 hL5
                gi_wp2_with (refine ⟨trivial, ?_⟩; gi_at_call 78; refine (callsIn_wide.2 (HUn.out _ _ _ M5.out)).mono ?_; rintro e w6 ⟨⟨vv, rfl⟩, hM6, hP6⟩; have M6 := Lib.hid hM6; have P6 := Lib.hid hP6; clear hM6 hP6)
                go_roundw
                case rel => exact ⟨q + 1, a2, c2, by omega, by go_num, M6, Lib.hid (P5.out.step HJ.out M5.out HLo.out P6.out), Lib.hid (Nat.le_trans L5.out P6.out.1.size)⟩
                case measure => simp [intOf]; omega
              · have M5 := Lib.hid hM5; have J5 := Lib.hid hJ5; have B5 := Lib.hid hmb
                clear hM5 hJ5 hmb
                gi_wp2_with (refine ⟨trivial, ?_⟩; gi_at_call 78; refine (callsIn_wide.2 (HUn.out _ _ _ M5.out)).mono ?_; rintro e w6 ⟨⟨vv, rfl⟩, hM6, hP6⟩; have M6 := Lib.hid hM6; have P6 := Lib.hid hP6; clear hM6 hP6)
                go_ret
                exact .inr ⟨rfl, hi, k', a2, c2, HJx.out _ _ _ _ J5.out (P6.out.1.mono fun b _ hb => ⟨(mbl_lo M5.out HLo.out hb).1, B5.out b hb⟩), B5.out, M6.out⟩
            · have hb' : p.1 = false := by simpa using hb
              have HB := Lib.hid hb'
              have hpart := HPt.out
              rw [hb'] at hpart
              simp only [Bool.false_eq_true, if_false, List.append_nil] at hpart
              have HPa := Lib.hid hpart
              clear hb hb' hpart
              gi_wp2_with (refine ⟨trivial, ?_⟩; gi_at_call 77; refine (callsIn_wide.2 HC.out).mono ?_; rintro e w4 ⟨a1, c1, rfl, hM4, hP4⟩; rw [HB.out]; have M5 := Lib.hid hM4; have P5 := Lib.hid (HP.out.step HJ.out HM.out HLo.out hP4); have L5 := Lib.hid (Nat.le_trans HL.out hP4.1.size); clear hM4 hP4)
              gi_wp2_with (refine ⟨trivial, ?_⟩; gi_at_call 78; refine (callsIn_wide.2 (HUn.out _ _ _ M5.out)).mono ?_; rintro e w6 ⟨⟨vv, rfl⟩, hM6, hP6⟩; have M6 := Lib.hid hM6; have P6 := Lib.hid hP6; clear hM6 hP6)
              go_roundw
              case rel => exact ⟨q + 1, a1, c1, by omega, by go_num, M6, Lib.hid (by rw [HPa.out]; exact P5.out.step HJ.out M5.out HLo.out P6.out), Lib.hid (Nat.le_trans L5.out P6.out.1.size)⟩
              case measure => simp [intOf]; omega
        · obtain rfl : q = n := by omega
          gi_wp2
          go_ret
          refine .inl ⟨rfl, a, c, HM.out, ?_, HL.out⟩
          have h := HP.out
          rw [isoLt_all HXi.out] at h
          exact h
end Go.Proofs.Ytgmhnjccgldddaa
