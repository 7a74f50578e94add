/-
  The reference's l02Twist (layer 1).
-/
import Derived.Test.YtgmhnjccgldddaaS2a
namespace Go.Proofs.Ytgmhnjccgldddaa
set_option linter.unusedVariables false
set_option linter.unusedSimpArgs false
open Go.RowKit

/-- The result can be read; nothing that was there has turned. -/
def RSolR (w0 : World) (A B : List (List Int)) (e : Ending) (w' : World) : Prop := ∃ r1 r2, e = .returned (.agg #[r1, r2]) ∧ (OwnRows w0.heap.size w' r1 A ∧ OwnRows w0.heap.size w' r2 B) ∧ Below w0.heap.size w0 w'

theorem rowOf_self (p : List Int) : rowOf p.length (nth p) = p := by
  apply ext_nth (by simp)
  intro k hk
  rw [nth_rowOf p.length (nth p) k (by simpa using hk)]

theorem rowOf_const (n : Nat) (c : Int) : rowOf n (fun _ => c) = List.replicate n c := by
  unfold rowOf
  rw [List.map_const']
  simp

theorem OwnRows.shape' {B : Nat} {w : World} {v : Value} {xss : List (List Int)} (h : OwnRows B w v xss) : ∃ a c, v = .slice a xss.length c ∧ Rows w (.slice a xss.length c) xss := by
  have hr := h.rows
  obtain ⟨a, c, rfl, _⟩ := hr.shape
  exact ⟨a, c, rfl, hr⟩

set_option maxHeartbeats 1000000 in
theorem c_l02Twist (v v' : Value) (p q : List Int) (w : World) (hp : Ints w v p) (hq : Ints w v' q) (hl : q.length = p.length) (hn : p.length ≤ 1048576) :
    Calls Try.prog 108 #[v, v'] w (RSolR w (twA p) (twB p q)) := by
  obtain ⟨a, c, rfl, hc, hm⟩ := hp.shape
  obtain ⟨a', c', rfl, hc', hm'⟩ := hq.shape
  have HL := Lib.hid hl; clear hl
  obtain ⟨f0, f1, hW0, hsz⟩ := boxes2 w [.slice none 0 0, .slice none 0 0] [.slice none 0 0, .slice none 0 0] 29 29
  go_enter Try.func108, Try.ntmps108
  go_wp2
  have hB0 : Below w.heap.size w ((w.alloc (.cells #[.slice none 0 0, .slice none 0 0] 29)).alloc (.cells #[.slice none 0 0, .slice none 0 0] 29)) := hW0
  go_loopw [6, 7, 8] (fun i _ _ wr => ∃ (k : Nat) (va vb : Value), k ≤ p.length ∧ i = .int .i64 k ∧ Hid (Below w.heap.size w wr ∧ w.heap.size + 2 ≤ wr.heap.size) ∧ Hid (Blk wr w.heap.size 29 [.slice none 0 0, .slice none 0 0]) ∧ Hid (Blk wr (w.heap.size + 1) 29 [va, vb]) ∧
    Hid (OwnRows (w.heap.size + 2) wr va ((twA p).take k)) ∧ Hid (OwnRows (w.heap.size + 2) wr vb ((twB p q).take k)) ∧ Hid (∀ b, va.ownBlock = some b → vb.ownBlock ≠ some b)) (fun i _ _ _ => p.length - (intOf i).toNat)
  case atStart => exact ⟨0, _, _, Nat.zero_le _, rfl, Lib.hid ⟨hB0, by simp⟩, Lib.hid f0, Lib.hid f1, Lib.hid ⟨[], ⟨by simp, .inl ⟨rfl, rfl⟩⟩, RowVals.nil _ _⟩, Lib.hid ⟨[], ⟨by simp, .inl ⟨rfl, rfl⟩⟩, RowVals.nil _ _⟩, Lib.hid (by intro b hb; cases hb)⟩
  case round =>
    clear hB0 f0 f1 hW0 hsz
    obtain ⟨k, va, vb, hk, rfl, HB, HQ0, HQ1, HA, HBt, HNE⟩ := hrel
    obtain ⟨wo, rfl⟩ : ∃ wo : World, wo = wr := ⟨_, rfl⟩
    by_cases hlt : k < p.length
    · have hkq : k < q.length := by rw [HL.out]; exact hlt
      go_wp2
      go_loopw [7, 8] (fun s y wi => ∃ (j : Nat) (sa : Option Addr) (sc : Nat), j ≤ p.length ∧ y = .int .i64 j ∧ s = .slice sa j sc ∧ Below wo.heap.size wo wi ∧ Own wo.heap.size wi (.slice sa j sc) (List.replicate j (nth q k))) (fun _ y _ => p.length - (intOf y).toNat)
      case atStart => exact ⟨0, _, _, Nat.zero_le _, rfl, rfl, (Below.refl _ _).alloc (Nat.le_refl _) _, Own.made0 wo (Nat.le_refl _)⟩
      case round =>
        obtain ⟨j, sa, sc, hj, rfl, rfl, hb, hown⟩ := hrel
        by_cases hlj : j < p.length
        · obtain ⟨b, o, rfl, hcell⟩ := ((hq.below HB.out.1).below hb).get k hkq
          have Hb := Lib.hid hb; have Ho := Lib.hid hown; have Hs := Lib.hid hb.size; clear hb hown
          go_wp2_with (at_builtin; refine wpList_app_int wo.heap.size wr _ (List.replicate j (nth q k)) (nth q k) _ _ rfl rfl rfl Ho.out rfl (by simp; omega) Hs.out ?_; intro a' c' w' hown' hkeep; rw [List.length_replicate]; have Hk := Lib.hid hkeep; have Ho' := Lib.hid hown'; clear hkeep hown')
          go_roundw
          case rel =>
            have h1 := Ho'.out
            rw [List.length_replicate, ← List.replicate_succ'] at h1
            exact ⟨j + 1, a', c', by omega, by go_num, rfl, Ho.out.frame Hb.out (Nat.le_refl _) Hs.out Hk.out, h1⟩
          case measure => simp [intOf]; omega
        · obtain rfl : j = p.length := by omega
          obtain ⟨wi, rfl⟩ : ∃ wi : World, wi = wr := ⟨_, rfl⟩
          have Hb := Lib.hid hb; have Ho := Lib.hid hown; clear hb hown
          have HQ1d := Lib.hid ((HQ1.out.under Hb.out).drew)
          obtain ⟨cA, cB, cF, cG⟩ := two_cells HQ1d.out
          have hpd := ((hp.below HB.out.1).below Hb.out).below ((Below.refl wi.heap.size wi).drew)
          have hAd := (HA.out.inn.under Hb.out).under ((Below.refl wi.heap.size wi).drew)
          have hlen : ((twA p).take k).length = k := by simp [twA]; omega
          have hBW := HB.out.2
          have hbs := Hb.out.size
          have HPd := Lib.hid hpd; have HAd := Lib.hid hAd; have HLen := Lib.hid hlen; have HBW := Lib.hid hBW; have Hbs := Lib.hid hbs
          have HK1 : Hid (((twA p).take k).length ≤ 1099511627776) := by show _ ≤ _; rw [hlen]; omega
          have HB2s : Hid (w.heap.size + 2 ≤ wi.heap.size) := by show _ ≤ _; omega
          clear hpd hAd hlen hBW hbs
          go_wp2
          go_region_law (first
            | (go_simp; go_at_call 95; refine (c_l01Own _ p _ HPd.out (by omega)).mono ?_; rintro e w1 ⟨r1, rfl, ho1', hb1'⟩; obtain ⟨ra1, rc1, rfl, _⟩ := ho1'.shape; have ho1 := Lib.hid ho1'; have hb1 := Lib.hid hb1'; have HAd1 := Lib.hid (HAd.out.under hb1'); have HB1s : Hid (w.heap.size + 2 ≤ w1.heap.size) := Nat.le_trans HB2s.out hb1'.size; obtain ⟨cA1, cB1, cF1, cG1⟩ := two_cells (HQ1d.out.under hb1'); have cA1z : (w1.alloc (.cells #[.slice ra1 p.length rc1] 26)).cell? ⟨w.heap.size + 1, 0, none⟩ = some va := (two_cells ((HQ1d.out.under hb1').alloc _)).1; clear ho1' hb1')
            | (refine step_app_row2 (w.heap.size + 2) wo.heap.size w1 va ((twA p).take k) (.slice ra1 p.length rc1) p (.tmp 31) (.tmp 34) rfl rfl rfl HAd1.out (ho1.out.mono Hbs.out) rfl HK1.out HBW.out HB1s.out ?_; intro g c2 w2 hown2 hk2 hg2; rw [HLen.out] at hown2; rw [HLen.out]
               have hq1 : ∀ b, va.ownBlock = some b → w.heap.size + 2 ≤ b := fun b e => (OwnRows.lt HA.out e).1
               have hQ2 := (HQ1d.out.under hb1.out).of_block (hk2.block _ (HQ1d.out.under hb1.out).lt (fun e => by have := hq1 _ e; omega))
               obtain ⟨cA2, cB2, cF2, cG2⟩ := two_cells hQ2
               have HQ2 := Lib.hid hQ2; have HK2 := Lib.hid hk2; have HG2 := Lib.hid hg2; have Hown2 := Lib.hid hown2; clear hQ2 hk2 hg2 hown2 hq1))
          all_goals
            have hbw := HBW.out
            have hva : ∀ b, va.ownBlock = some b → w.heap.size + 2 ≤ b ∧ b < wo.heap.size := fun b e => OwnRows.lt HA.out e
            have hvb : ∀ b, vb.ownBlock = some b → w.heap.size + 2 ≤ b ∧ b < wo.heap.size := fun b e => OwnRows.lt HBt.out e
            have hs1 : wo.heap.size ≤ w1.heap.size := Nat.le_trans Hbs.out hb1.out.size
            have hQ3 := HQ2.out.set 0 (.slice (some ⟨g, 0, none⟩) (k + 1) c2)
            have hA3 := Hown2.out.keep (keep1 w2 (w.heap.size + 1) 0 (.slice (some ⟨g, 0, none⟩) (k + 1) c2)) (fun b h1 h2 h3 => by have h3 : b = w.heap.size + 1 := h3; omega)
            have hB1 := ((HBt.out.inn.under Hb.out).under ((Below.refl wi.heap.size wi).drew)).under hb1.out
            have hB3 := (hB1.keepT HAd1.out.out (fun b e1 e2 => HNE.out b e2 e1) HK2.out).keep (keep1 w2 (w.heap.size + 1) 0 (.slice (some ⟨g, 0, none⟩) (k + 1) c2)) (fun b h1 h2 h3 => by have h3 : b = w.heap.size + 1 := h3; omega)
            have hu1 := (Ho.out.under ((Below.refl wi.heap.size wi).drew)).under hb1.out
            have hu3 := (hu1.keep HK2.out (fun b h1 h2 h3 => by have := hva b h3; omega)).keep (keep1 w2 (w.heap.size + 1) 0 (.slice (some ⟨g, 0, none⟩) (k + 1) c2)) (fun b h1 h2 h3 => by have h3 : b = w.heap.size + 1 := h3; omega)
            have hW1 : Below w.heap.size w w1 := bb (bb (bb HB.out.1 Hb.out) ((Below.refl wi.heap.size wi).drew)) hb1.out
            have hW3 := (OwnRows.frame HAd1.out.out hW1 (by omega) (by omega) HK2.out).setCell (p := ⟨w.heap.size + 1, 0, none⟩) (by show _ ≤ w.heap.size + 1; omega) (.slice (some ⟨g, 0, none⟩) (k + 1) c2)
            have hZ1 := (((HQ0.out.under Hb.out).drew).under hb1.out)
            have hZ3 := (hZ1.of_block (HK2.out.block _ hZ1.lt (fun e => by have := hva _ e; omega))).other (a := ⟨w.heap.size + 1, 0, none⟩) (by show w.heap.size ≠ w.heap.size + 1; omega) (.slice (some ⟨g, 0, none⟩) (k + 1) c2)
            have hne3 : ∀ b, (Value.slice (some ⟨g, 0, none⟩) (k + 1) c2).ownBlock = some b → vb.ownBlock ≠ some b := by
              intro b e e2
              simp [Value.ownBlock] at e
              subst e
              rcases HG2.out with h | h
              · exact HNE.out _ h e2
              · have := hvb _ e2; omega
            have hs3 : w1.heap.size ≤ (w2.setCell ⟨w.heap.size + 1, 0, none⟩ (.slice (some ⟨g, 0, none⟩) (k + 1) c2)).heap.size := by simpa [World.setCell] using HK2.out.size
            obtain ⟨w3, hw3⟩ : ∃ w3, w2.setCell ⟨w.heap.size + 1, 0, none⟩ (.slice (some ⟨g, 0, none⟩) (k + 1) c2) = w3 := ⟨_, rfl⟩
            rw [hw3] at hQ3 hA3 hB3 hu3 hW3 hZ3 hs3 ⊢
            obtain ⟨dA, dB, dF, dG⟩ := two_cells hQ3
            have hlb : ((twB p q).take k).length = k := by simp [twB]; omega
            have HLB := Lib.hid hlb
            have HB3 := Lib.hid hB3; have HU3 := Lib.hid hu3; have HQ3 := Lib.hid hQ3; have HA3 := Lib.hid hA3; have HW3 := Lib.hid hW3; have HZ3 := Lib.hid hZ3; have HN3 := Lib.hid hne3; have HVB := Lib.hid hvb
            have HK3 : Hid (((twB p q).take k).length ≤ 1099511627776) := by show _ ≤ _; rw [hlb]; omega
            have HS3 : Hid (w.heap.size + 2 ≤ w3.heap.size ∧ wo.heap.size ≤ w3.heap.size) := by have := HBW.out; exact ⟨by omega, by omega⟩
            have HG3 : Hid (g < w3.heap.size) := (OwnRows.lt hA3 rfl).2
            clear hbw hlb hB3 hu3 hQ3 hA3 hW3 hZ3 hne3 hvb hva hs1 hs3 hW1 hZ1 hu1 hB1 cA1 cA1z cB1 cF1 cG1 cA2 cB2 cF2 cG2 cA cB cF cG hw3
            go_wp2_with (at_builtin; refine wpList_app_row2 (w.heap.size + 2) wo.heap.size w3 vb ((twB p q).take k) _ (List.replicate p.length (nth q k)) _ _ rfl rfl rfl HB3.out HU3.out rfl HK3.out HBW.out HS3.out.1 ?_; intro g2 c4 w4 hown4 hk4 hg4; rw [HLB.out] at hown4; rw [HLB.out]; have hQ4 := HQ3.out.of_block (hk4.block _ HQ3.out.lt (fun e => by have := (HVB.out _ e).1; omega)); obtain ⟨eA, eB, eF, eG⟩ := two_cells hQ4; have HQ4 := Lib.hid hQ4; have Hown4 := Lib.hid hown4; have HK4 := Lib.hid hk4; have HG4 := Lib.hid hg4; clear hQ4 hown4 hk4 hg4)
            go_roundw
            case rel =>
              have hbw := HBW.out
              have hs3 := HS3.out
              have hs4 := HK4.out.size
              have hQ5 := HQ4.out.set 1 (.slice (some ⟨g2, 0, none⟩) (k + 1) c4)
              have hB5 := Hown4.out.keep (keep1 w4 (w.heap.size + 1) 1 (.slice (some ⟨g2, 0, none⟩) (k + 1) c4)) (fun b h1 h2 h3 => by have h3 : b = w.heap.size + 1 := h3; omega)
              have hA5 := (HA3.out.keepT HB3.out.out (fun b e1 e2 => HN3.out b e1 e2) HK4.out).keep (keep1 w4 (w.heap.size + 1) 1 (.slice (some ⟨g2, 0, none⟩) (k + 1) c4)) (fun b h1 h2 h3 => by have h3 : b = w.heap.size + 1 := h3; omega)
              have hW5 := (OwnRows.frame HB3.out.out HW3.out (by omega) (by omega) HK4.out).setCell (p := ⟨w.heap.size + 1, 1, none⟩) (by show _ ≤ w.heap.size + 1; omega) (.slice (some ⟨g2, 0, none⟩) (k + 1) c4)
              have hZ5 := (HZ3.out.of_block (HK4.out.block _ HZ3.out.lt (fun e => by have := (HVB.out _ e).1; omega))).other (a := ⟨w.heap.size + 1, 1, none⟩) (by show w.heap.size ≠ w.heap.size + 1; omega) (.slice (some ⟨g2, 0, none⟩) (k + 1) c4)
              have hs5 : w.heap.size + 2 ≤ (w4.setCell ⟨w.heap.size + 1, 1, none⟩ (.slice (some ⟨g2, 0, none⟩) (k + 1) c4)).heap.size := by have : w3.heap.size ≤ w4.heap.size := hs4; simp [World.setCell]; omega
              refine ⟨k + 1, .slice (some ⟨g, 0, none⟩) (k + 1) c2, .slice (some ⟨g2, 0, none⟩) (k + 1) c4, by omega, by go_num, Lib.hid ⟨hW5, hs5⟩, Lib.hid hZ5, Lib.hid hQ5, Lib.hid ?_, Lib.hid ?_, Lib.hid fun b e1 e2 => ?_⟩
              · rw [take_snoc_row _ _ (by simp [twA]; omega)]
                unfold twA
                rw [row_tabOf _ _ _ hlt, rowOf_self]
                exact hA5
              · rw [take_snoc_row _ _ (by simp [twB]; omega)]
                unfold twB
                rw [row_tabOf _ _ _ hlt, rowOf_const]
                exact hB5
              · simp [Value.ownBlock] at e1 e2
                subst e1
                subst e2
                rcases HG4.out with h | h
                · exact HN3.out _ rfl h
                · have := HG3.out; omega
            case measure => simp [intOf]; omega
    · obtain rfl : k = p.length := by omega
      have hA := HA.out
      have hB := HBt.out
      rw [List.take_of_length_le (by simp [twA])] at hA
      rw [List.take_of_length_le (by simp [twB])] at hB
      obtain ⟨ra1, rc1, rfl, hca⟩ := OwnRows.shape' hA
      obtain ⟨ra2, rc2, rfl, hcb⟩ := OwnRows.shape' hB
      obtain ⟨z0, z1, z2, z3⟩ := two_cells HQ0.out
      obtain ⟨y0, y1, y2, y3⟩ := two_cells HQ1.out
      have HA' := Lib.hid hA; have HB' := Lib.hid hB; clear hA hB hca hcb
      go_wp2
      refine bodyPost_ret (v := .agg #[.slice ra1 (twA p).length rc1, .slice ra2 (twB p q).length rc2]) (by simp [results, Try.results108, go_sem, z0, z1]) rfl ⟨_, _, rfl, ⟨?_, ?_⟩, (HB.out.1.setCell (p := ⟨w.heap.size, 0, none⟩) (Nat.le_refl _) _).setCell (p := ⟨w.heap.size, 1, none⟩) (Nat.le_refl _) _⟩
      · exact ((HA'.out.keep (keep1 _ w.heap.size 0 _) (fun b h1 h2 h3 => by have h3 : b = w.heap.size := h3; omega)).keep (keep1 _ w.heap.size 1 _) (fun b h1 h2 h3 => by have h3 : b = w.heap.size := h3; omega)).mono (by omega)
      · exact ((HB'.out.keep (keep1 _ w.heap.size 0 _) (fun b h1 h2 h3 => by have h3 : b = w.heap.size := h3; omega)).keep (keep1 _ w.heap.size 1 _) (fun b h1 h2 h3 => by have h3 : b = w.heap.size := h3; omega)).mono (by omega)
/-- A pair of tables that can be read, all of it below hi. -/
def RdSol (lo hi : Nat) (w : World) (v1 v2 : Value) (A B : List (List Int)) : Prop := ∃ w0 : World, lo = 0 ∧ Sol w0 v1 v2 A B ∧ w0.heap.size ≤ hi ∧ Below w0.heap.size w0 w
theorem RdSol.sol {lo hi : Nat} {w : World} {v1 v2 : Value} {A B : List (List Int)} (h : RdSol lo hi w v1 v2 A B) : Sol w v1 v2 A B := by
  obtain ⟨w0, _, h1, _, h2⟩ := h
  exact h1.below h2
theorem RdSol.under {lo hi : Nat} {w w' : World} {v1 v2 : Value} {A B : List (List Int)} (h : RdSol lo hi w v1 v2 A B) (hb : Below w.heap.size w w') : RdSol lo hi w' v1 v2 A B := by
  obtain ⟨w0, h0, h1, h3, h2⟩ := h
  exact ⟨w0, h0, h1, h3, bb h2 hb⟩
theorem RdSol.keep {lo hi : Nat} {S : Nat → Prop} {w w' : World} {v1 v2 : Value} {A B : List (List Int)} (h : RdSol lo hi w v1 v2 A B) (k : Keep S w w') (hs : ∀ b, lo ≤ b → b < hi → ¬ S b) : RdSol lo hi w' v1 v2 A B := by
  obtain ⟨w0, h0, h1, h3, h2⟩ := h
  subst h0
  exact ⟨w0, rfl, h1, h3, h2.trans (k.below fun b hb => ⟨by have := h2.size; omega, hs b (Nat.zero_le _) (by omega)⟩)⟩
def RSolRC (w0 : World) (A B : List (List Int)) (c : Int) (e : Ending) (w' : World) : Prop := ∃ r1 r2, e = .returned (.tuple #[.agg #[r1, r2], .int .i64 c]) ∧ RdSol 0 w'.heap.size w' r1 r2 A B ∧ Below w0.heap.size w0 w'

theorem OwnRowsIn.nil0 (lo hi : Nat) (w : World) : OwnRowsIn lo hi w (.slice none 0 0) [] :=
  ⟨[], ⟨by simp, .inl ⟨rfl, rfl⟩⟩, RowVals.nil _ _, (by intro k hk; cases hk), (by intro i hi; simp at hi)⟩
theorem OwnSol.nil0 {lo hi : Nat} {w : World} (h : lo ≤ hi) : OwnSol lo hi w (.slice none 0 0) (.slice none 0 0) [] [] :=
  ⟨lo, lo, lo, lo, Nat.le_refl _, h, Nat.le_refl _, h, .inl (Nat.le_refl _), OwnRowsIn.nil0 _ _ _, OwnRowsIn.nil0 _ _ _⟩

theorem total_le (t : List (List Int)) (h : ∀ r ∈ t, r.length ≤ 12) : total t ≤ t.length * 12 := by
  induction t with
  | nil => simp [total]
  | cons r t ih =>
    have h1 := h r (by simp)
    have h2 := ih fun r hr => h r (by simp [hr])
    simp only [total, List.length_cons]
    omega
theorem tab_rows {n : Nat} {g : Int → Int → Int} (hn : n ≤ 12) : ∀ r ∈ tabOf n g, r.length ≤ 12 := by
  intro r hr
  simp only [tabOf, List.mem_map] at hr
  obtain ⟨x, _, rfl⟩ := hr
  simpa using hn
end Go.Proofs.Ytgmhnjccgldddaa
