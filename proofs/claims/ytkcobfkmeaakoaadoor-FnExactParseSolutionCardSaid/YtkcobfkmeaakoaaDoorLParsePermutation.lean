/-
  The law FnExactParsePermutation answers true: at every text.
-/
import Derived.Test.YtkcobfkmeaakoaaDoorI1
import Derived.Test.YtkcobfkmeaakoaaDoorS1
import Derived.Test.YtkcobfkmeaakoaaDoorI1c
import Derived.Test.YtkcobfkmeaakoaaDoorLawB
import Derived.Lib.Bytealg
namespace Go.Proofs.YtkcobfkmeaakoaaDoor
set_option linter.unusedVariables false
set_option linter.unusedSimpArgs false
open Go.RowKit

/-- The element of a digit, or -1. -/
def dv (c : Int) : Int := if 48 ≤ c ∧ c ≤ 57 then c - 48 else if 97 ≤ c ∧ c ≤ 98 then c - 87 else -1
def bsI (s : ByteArray) : List Int := s.data.toList.map fun c => (c.toNat : Int)
theorem bsI_length (s : ByteArray) : (bsI s).length = s.size := by simp [bsI]
theorem nth_bsI (s : ByteArray) (k : Nat) (h : k < s.size) : nth (bsI s) k = (s[k].toNat : Int) := by
  rw [nth_nat _ _ (by rw [bsI_length]; exact h)]
  simp [bsI]; rfl
def okD (l : List Int) : Bool := l.all fun c => decide (0 ≤ dv c)
def readD (l : List Int) : List Int := if okD l then l.map dv else []
theorem dv_ge (c : Int) : -1 ≤ dv c ∧ dv c ≤ 11 := by unfold dv; split <;> (try split) <;> omega
theorem dv_at (c : Int) : (dv c = c - 48 ∧ 48 ≤ c ∧ c ≤ 57) ∨ (dv c = c - 87 ∧ 97 ≤ c ∧ c ≤ 98) ∨ (dv c = -1 ∧ ¬ (48 ≤ c ∧ c ≤ 57) ∧ ¬ (97 ≤ c ∧ c ≤ 98)) := by
  unfold dv; split <;> (try split) <;> simp_all
theorem okD_no {l : List Int} {k : Nat} (hk : k < l.length) (h : dv (nth l k) < 0) : okD l = false := by
  unfold okD
  refine List.all_eq_false.2 ⟨_, nth_mem (p := l) (x := k) (by omega) (by omega), ?_⟩
  simp; omega
theorem okD_yes {l : List Int} (h : ∀ k : Nat, k < l.length → 0 ≤ dv (nth l k)) : okD l = true := by
  unfold okD
  refine List.all_eq_true.2 fun x hx => ?_
  obtain ⟨k, hk, rfl⟩ := List.getElem_of_mem hx
  have := h k hk
  rw [nth_nat _ _ hk] at this
  simpa using this

theorem lt_snoc' {k : Nat} {P : Nat → Prop} (h : ∀ x, x < k → P x) (hk : P k) : ∀ x, x < k + 1 → P x := by
  intro x hx
  by_cases e : x = k
  · rw [e]; exact hk
  · exact h x (by omega)

/-- The result: a list and whether there is one. -/
def RRead (w0 : World) (xs : List Int) (ok : Bool) (e : Ending) (w' : World) : Prop := ∃ r, e = .returned (.tuple #[r, .bool ok]) ∧ Own w0.heap.size w' r xs ∧ Below w0.heap.size w0 w'

theorem dig_all : ∀ c : Fin 256, Lib.indexByte [48, 49, 50, 51, 52, 53, 54, 55, 56, 57, 97, 98] (UInt8.ofNat c.val) = dv (c.val : Int) := by decide +kernel
theorem dig_at (c : UInt8) : Lib.indexByte [48, 49, 50, 51, 52, 53, 54, 55, 56, 57, 97, 98] c = dv (c.toNat : Int) := by
  have := dig_all ⟨c.toNat, c.toNat_lt⟩
  simpa using this

set_option maxRecDepth 100000 in
set_option maxHeartbeats 400000 in
theorem c_slIndexByte (s : ByteArray) (c : Int) (w : World) :
    Calls Tryd.prog 41 #[.string s, .int .u8 c] w fun e w' => e = .returned (.int .i64 (Lib.indexByte s.data.toList c.toNat.toUInt8)) ∧ w = w' := by
  go_enter Tryd.func41, Tryd.ntmps41
  go_wp2
  rw [run_callFunc_extern Tryd.func49 (by kernel_rfl) (by kernel_rfl) (by kernel_rfl) (e := Extern.BytealgIndexByte.indexByte) (by kernel_rfl), Lib.run_indexByteString]
  simp only [Result.andThen]
  rw [Oper.upon_value]
  go_wp2
  go_ret
  exact ⟨rfl, rfl⟩

set_option maxHeartbeats 400000 in
theorem c_digitAt (c : UInt8) (w : World) :
    Calls Tryd.prog 32 #[.string ⟨#[48, 49, 50, 51, 52, 53, 54, 55, 56, 57, 97, 98]⟩, .int .u8 (c.toNat : Int)] w fun e w' => e = .returned (.int .i64 (dv (c.toNat : Int))) ∧ w = w' := by
  go_enter Tryd.func32, Tryd.ntmps32
  go_wp2_with fail
  refine (c_slIndexByte _ _ _).mono ?_; rintro e w' ⟨rfl, rfl⟩
  go_wp2
  go_ret
  exact ⟨ret_int (dig_at c), rfl⟩

set_option maxHeartbeats 800000 in
theorem c_readDigits (s : ByteArray) (w : World) (hn : s.size ≤ 1048576) :
    Calls Tryd.prog 27 #[.string s] w (RRead w (readD (bsI s)) (okD (bsI s))) := by
  have hmk := run_make_row' (P := Tryd.prog) 37 2 (.int .i64 0) 8 Tryd.underlying37 inf_int64 rfl .i64 .i64 s.size (by omega) (by omega)
  go_enter Tryd.func27, Tryd.ntmps27
  go_wp2
  have hB0 : Below w.heap.size w (w.alloc (.cells (madeCells #[.int .i64 0] s.size) 2)) := (Below.refl _ _).alloc (Nat.le_refl _) _
  have hK0 : Blk (w.alloc (.cells (madeCells #[.int .i64 0] s.size) 2)) w.heap.size 2 (((((bsI s).map dv).take 0).map (Value.int .i64)) ++ (List.replicate s.size (Value.int .i64 0)).drop 0) := by
    simpa using Blk.made w (.int .i64 0) s.size 2
  clear hmk
  go_loopw [12, 5, 6] (fun i _ _ wr => ∃ k : Nat, k ≤ s.size ∧ i = .int .i64 k ∧ Below w.heap.size w wr ∧ Blk wr w.heap.size 2 (((((bsI s).map dv).take k).map (Value.int .i64)) ++ (List.replicate s.size (Value.int .i64 0)).drop k) ∧ Hid (∀ j : Nat, j < k → 0 ≤ dv (nth (bsI s) j))) (fun i _ _ _ => s.size - (intOf i).toNat)
  case atStart => exact ⟨0, Nat.zero_le _, rfl, hB0, hK0, Lib.hid (by intro j hj; omega)⟩
  case round =>
    clear hB0 hK0
    obtain ⟨k, hk, rfl, hb, hblk, HA⟩ := hrel
    by_cases hlt : k < s.size
    · have hnb := nth_bsI s k hlt
      have hge := dv_ge (s[k].toNat : Int)
      have Hb := Lib.hid hb; have Hblk := Lib.hid hblk; have HN := Lib.hid hnb
      obtain ⟨u, h2⟩ := fill_cell hblk (k := k) (by simp [bsI_length]; omega)
      have h3 := hblk.frozen k
      clear hb hblk hnb
      by_cases hd : dv (s[k].toNat : Int) < 0
      · go_wp2_with fail
        refine (c_digitAt _ _).mono ?_; rintro e w' ⟨rfl, rfl⟩
        go_wp2
        go_ret2
        have ho := okD_no (l := bsI s) (k := k) (by rw [bsI_length]; exact hlt) (by rw [HN.out]; exact hd)
        exact ⟨.slice none 0 0, by simp [ho], by simpa [readD, ho] using Own.nil _ _, Hb.out⟩
      · go_wp2_with fail
        refine (c_digitAt _ _).mono ?_; rintro e w' ⟨rfl, rfl⟩
        go_wp2
        go_roundw
        case rel =>
          refine ⟨k + 1, by omega, by go_num, Hb.out.setCell (p := ⟨w.heap.size, k, none⟩) (Nat.le_refl _) _, ?_, Lib.hid (lt_snoc' HA.out (by rw [HN.out]; omega))⟩
          have := Hblk.out.set k (.int .i64 (dv (s[k].toNat : Int)))
          rwa [fill_set _ _ (by simpa [bsI_length] using hlt) _ (by simp [bsI_length]) _ (by rw [nth_map _ _ _ (by omega) (by rw [bsI_length]; omega), HN.out])] at this
        case measure => simp [intOf]; omega
    · have Hb := Lib.hid hb; have Hblk := Lib.hid hblk; clear hb hblk
      obtain rfl : k = s.size := by omega
      go_wp2
      go_ret2
      have ho := okD_yes (l := bsI s) (fun j hj => HA.out j (by rwa [bsI_length] at hj))
      refine ⟨.slice (some ⟨w.heap.size, 0, none⟩) s.size s.size, by simp [ho], Own.of_blk (by have h := Hblk.out; rw [fill_done _ _ (by simp [bsI_length])] at h; simpa [readD, ho] using h) (Nat.le_refl _) (by simp [readD, ho, bsI_length, maxLen]; omega) (by simp [readD, ho, bsI_length]) (by simp [readD, ho, bsI_length]), Hb.out⟩

set_option maxHeartbeats 800000 in
theorem c_l01Read (s : ByteArray) (w : World) (hn : s.size ≤ 1048576) :
    Calls Tryd.prog 24 #[.string s] w (RRead w (readD (bsI s)) (okD (bsI s))) := by
  go_enter Tryd.func24, Tryd.ntmps24
  go_wp2
  go_loopw [4, 5, 6] (fun v i _ wr => ∃ (k : Nat) (sa : Option Addr) (sc : Nat), k ≤ s.size ∧ i = .int .i64 k ∧ v = .slice sa k sc ∧ Below w.heap.size w wr ∧ Own w.heap.size wr (.slice sa k sc) (((bsI s).map dv).take k) ∧ Hid (∀ j : Nat, j < k → 0 ≤ dv (nth (bsI s) j))) (fun _ i _ _ => s.size - (intOf i).toNat)
  case atStart => exact ⟨0, _, _, Nat.zero_le _, rfl, rfl, (Below.refl _ _).alloc (Nat.le_refl _) _, Own.made0 w (Nat.le_refl _), Lib.hid (by intro j hj; omega)⟩
  case round =>
    obtain ⟨k, sa, sc, hk, rfl, rfl, hb, hown, HA⟩ := hrel
    have hlen : (((bsI s).map dv).take k).length = k := by simp [bsI_length]; omega
    by_cases hlt : k < s.size
    · have hnb := nth_bsI s k hlt
      have htk : ((bsI s).map dv).take (k+1) = ((bsI s).map dv).take k ++ [dv (s[k].toNat : Int)] := by
        rw [take_snoc _ _ (by simp [bsI_length]; exact hlt), nth_map _ _ _ (by omega) (by rw [bsI_length]; omega), hnb]
      have hcase := dv_at (s[k].toNat : Int)
      have h0 : (0 : Int) ≤ (s[k].toNat : Int) := by omega
      have h255 : (s[k].toNat : Int) < 256 := by have := s[k].toNat_lt; omega
      have Hb := Lib.hid hb; have Ho := Lib.hid hown; have Hl := Lib.hid hlen; have Hs := Lib.hid hb.size; have HN := Lib.hid hnb; have HT := Lib.hid htk; clear hb hown hlen hnb htk
      rcases hcase with ⟨hv, c1, c2⟩ | ⟨hv, c1, c2⟩ | ⟨hv, c1, c2⟩
      · have i1 : inR (s[k].toNat : Int) 48 57 = true := by simp [inR]; omega
        have HV := Lib.hid hv.symm; clear hv
        go_wp2_with fail
        refine (c_l01In _ _ _ _).mono ?_; rintro e w' ⟨rfl, rfl⟩
        go_wp2_with (at_builtin; refine wpList_app_int w.heap.size wr _ (((bsI s).map dv).take k) ((s[k].toNat : Int) - 48) _ _ rfl rfl rfl Ho.out rfl (by rw [Hl.out]; omega) Hs.out ?_; intro a' c' w' hown' hkeep; rw [Hl.out]; have Hk := Lib.hid hkeep; have Ho' := Lib.hid hown'; clear hkeep hown')
        go_roundw
        case rel =>
          have h1 := Ho'.out
          rw [Hl.out, HV.out, ← HT.out] at h1
          exact ⟨k + 1, a', c', by omega, by go_num, rfl, Ho.out.frame Hb.out (Nat.le_refl _) Hs.out Hk.out, h1, Lib.hid (lt_snoc' HA.out (by rw [HN.out, ← HV.out]; omega))⟩
        case measure => simp [intOf]; omega
      · have i1 : inR (s[k].toNat : Int) 48 57 = false := by simp [inR]; omega
        have i2 : inR (s[k].toNat : Int) 97 98 = true := by simp [inR]; omega
        have HV : Hid ((s[k].toNat : Int) - 97 + 10 = dv (s[k].toNat : Int)) := by show _ = _; omega
        clear hv
        go_wp2_with fail
        refine (c_l01In _ _ _ _).mono ?_; rintro e w' ⟨rfl, rfl⟩
        go_wp2_with fail
        refine (c_l01In _ _ _ _).mono ?_; rintro e w' ⟨rfl, rfl⟩
        go_wp2_with (at_builtin; refine wpList_app_int w.heap.size wr _ (((bsI s).map dv).take k) ((s[k].toNat : Int) - 97 + 10) _ _ rfl rfl rfl Ho.out rfl (by rw [Hl.out]; omega) Hs.out ?_; intro a' c' w' hown' hkeep; rw [Hl.out]; have Hk := Lib.hid hkeep; have Ho' := Lib.hid hown'; clear hkeep hown')
        go_roundw
        case rel =>
          have h1 := Ho'.out
          rw [Hl.out, HV.out, ← HT.out] at h1
          exact ⟨k + 1, a', c', by omega, by go_num, rfl, Ho.out.frame Hb.out (Nat.le_refl _) Hs.out Hk.out, h1, Lib.hid (lt_snoc' HA.out (by rw [HN.out, ← HV.out]; omega))⟩
        case measure => simp [intOf]; omega
      · have i1 : inR (s[k].toNat : Int) 48 57 = false := by simp [inR]; omega
        have i2 : inR (s[k].toNat : Int) 97 98 = false := by simp [inR]; omega
        have ho := okD_no (l := bsI s) (k := k) (by rw [bsI_length]; exact hlt) (by rw [HN.out]; omega)
        have HO := Lib.hid ho
        clear hv c1 c2 ho
        go_wp2_with fail
        refine (c_l01In _ _ _ _).mono ?_; rintro e w' ⟨rfl, rfl⟩
        go_wp2_with fail
        refine (c_l01In _ _ _ _).mono ?_; rintro e w' ⟨rfl, rfl⟩
        go_wp2
        go_ret2
        exact ⟨.slice none 0 0, by simp [HO.out], by simpa [readD, HO.out] using Own.nil _ _, Hb.out⟩
    · have Hb := Lib.hid hb; have Ho := Lib.hid hown; clear hb hown hlen
      obtain rfl : k = s.size := by omega
      go_wp2
      go_ret2
      have ho := okD_yes (l := bsI s) (fun j hj => HA.out j (by rwa [bsI_length] at hj))
      exact ⟨.slice sa s.size sc, by simp [ho], by have h := Ho.out; rw [List.take_of_length_le (by simp [bsI_length])] at h; simpa [readD, ho] using h, Hb.out⟩

def ppOk (s : ByteArray) : Bool := okD (bsI s) && isPerm (readD (bsI s))
def ppRes (s : ByteArray) : List Int := if ppOk s then readD (bsI s) else []
def ppCode (s : ByteArray) : Int := if ppOk s then 0 else 6
theorem ppRes_length (s : ByteArray) : (ppRes s).length ≤ 12 := by
  unfold ppRes
  split
  · rename_i h
    simp [ppOk, isPerm, inR] at h; omega
  · simp



end Go.Proofs.YtkcobfkmeaakoaaDoor
