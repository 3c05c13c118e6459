/- The walks of the powers of a row and of its order. -/
import Derived.Test.YtbmabfgnmafooaaWalkB
import Derived.Test.YtbmabfgnmafooaaWalkS
namespace Go.Proofs.Ytbmabfgnmafooaa
open Go.RowKit
set_option linter.unusedVariables false

def lenOf : Value → Nat | .slice _ n _ => n | _ => 0
theorem size_le_of_row {s : ByteArray} (h : IsRow (bs s)) : s.size ≤ 8 := by have := h.2.1; rwa [size_bs] at this
theorem size_of_pow {a t : ByteArray} {k : Nat} (ha : IsRow (bs a)) (h : bs t = powL (bs a) k) : t.size = a.size := by
  rw [← size_bs, h, (powL_row ha k).2, size_bs]
theorem row_of_pow {a t : ByteArray} {k : Nat} (ha : IsRow (bs a)) (h : bs t = powL (bs a) k) : IsRow (bs t) := by rw [h]; exact (powL_row ha k).1
theorem pow_one {l : List UInt8} (h : IsRow l) : powL l 1 = l := by simp only [powL]; exact rounds_times h

set_option maxRecDepth 100000 in
set_option maxHeartbeats 400000 in
theorem l1Order_any (a : ByteArray) (K : Nat) (w : World) (ha : IsRow (bs a)) (hK : Ord (bs a) K) (hb : K ≤ 16777216) :
    Calls Try.prog 63 #[.string a] w fun e w' => e = .returned (.int .i64 (K : Nat)) ∧ w = w' := by
  have n8 := size_le_of_row ha
  have Ha := Lib.hid ha
  have HK := Lib.hid hK
  have k1 : 1 ≤ K := hK.1
  clear ha hK
  obtain ⟨r, hr⟩ : ∃ r : ByteArray, r = mkS (roundsL a.size) := ⟨_, rfl⟩
  have hrC : ∀ W, Calls Try.prog 71 #[.int .i64 (a.size : Int)] W fun e w' => e = .returned (.string r) ∧ W = w' := fun W => by
    have := l1Rounds_any (a.size : Int) W (by omega) (by omega)
    rwa [Int.toNat_natCast, ← hr] at this
  have HrC := Lib.hid hrC
  have Hr : Hid (bs r = roundsL (bs a).length) := by unfold Hid; rw [hr, bs_mkS, size_bs]
  clear hrC hr
  go_enter Try.func63, Try.ntmps63
  go_wp2
  go_loop [3, 4] (fun k x => ∃ (j : Nat) (t : ByteArray), j + 1 ≤ K ∧ k = .int .i64 ((j : Int) + 1) ∧ x = .string t ∧ Hid (bs t = powL (bs a) (j + 1))) (fun k _ => K - (intOf k).toNat)
  case atStart => exact ⟨0, a, k1, rfl, rfl, (pow_one Ha.out).symm⟩
  case round =>
    obtain ⟨j, t, hj, rfl, rfl, Ht⟩ := hrel
    by_cases hend : j + 1 = K
    · have htr : t = r := by apply bs_inj; rw [Ht.out, hend, HK.out.2.1, Hr.out]
      have Hend := Lib.hid hend
      subst htr
      clear hend
      go_wp2_with (go_at_call 71; refine (HrC.out _).mono ?_; rintro e w' ⟨rfl, rfl⟩)
      go_ret
      exact ⟨ret_i (by have := Hend.out; omega), rfl⟩
    · have hne : t ≠ r := fun e => by
        refine HK.out.2.2 (j + 1) (by omega) (by omega) ?_
        rw [← Ht.out, e, Hr.out]
      have hneL := ne_list hne
      have hs := size_of_pow Ha.out Ht.out
      have Hs := Lib.hid hs
      clear hs
      have hlt : j + 1 < K := by omega
      go_wp2_with (first | (go_at_call 71; refine (HrC.out _).mono ?_; rintro e w' ⟨rfl, rfl⟩) | (go_at_call 90; refine (l1Times_any t a _ (row_of_pow Ha.out Ht.out) Ha.out Hs.out).mono ?_; rintro e w' ⟨rfl, rfl⟩))
      go_round
      case rel => exact ⟨j + 1, _, by omega, by go_num, rfl, by unfold Hid; rw [bs_mkS, Ht.out]; rfl⟩
      case measure => simp [intOf]; omega
def powsB (a : ByteArray) (k : Nat) : List ByteArray := (List.range k).map fun i => mkS (powL (bs a) i)
theorem powsB_length (a : ByteArray) (k : Nat) : (powsB a k).length = k := by simp [powsB]
theorem powsB_snoc (a : ByteArray) (k : Nat) : powsB a (k + 1) = powsB a k ++ [mkS (powL (bs a) k)] := by simp [powsB, List.range_succ]
theorem strsV_append (x y : List ByteArray) : strsV (x ++ y) = strsV x ++ strsV y := by simp [strsV]
set_option maxRecDepth 100000 in
set_option maxHeartbeats 1000000 in
theorem powers_any (a : ByteArray) (K : Nat) (w : World) (ha : IsRow (bs a)) (hK : Ord (bs a) K) (hb : K ≤ 16777216) :
    Calls Try.prog 66 #[.string a] w fun e w' => ∃ A c, e = .returned (.slice A K c) ∧ Own w' 9 w.heap.size w'.heap.size A K c (strsV (powsB a K)) ∧ Below w.heap.size w w' := by
  have n8 := size_le_of_row ha
  have Ha := Lib.hid ha
  have HK := Lib.hid hK
  have k1 : 1 ≤ K := hK.1
  clear ha hK
  obtain ⟨r, hr⟩ : ∃ r : ByteArray, r = mkS (roundsL a.size) := ⟨_, rfl⟩
  have hrC : ∀ W, Calls Try.prog 75 #[.int .i64 (a.size : Int)] W fun e w' => e = .returned (.string r) ∧ W = w' := fun W => by
    have := rounds_any (a.size : Int) W (by omega) (by omega)
    rwa [Int.toNat_natCast, ← hr] at this
  have HrC := Lib.hid hrC
  have Hr : Hid (bs r = roundsL (bs a).length) := by unfold Hid; rw [hr, bs_mkS, size_bs]
  have Hpow0 : Hid (strsV (powsB a 1) = [.string r]) := by unfold Hid; rw [hr, ← size_bs a]; rfl
  clear hrC hr
  go_enter Try.func66, Try.ntmps66
  go_wp2_with (go_at_call 75; refine (HrC.out _).mono ?_; rintro e w' ⟨rfl, rfl⟩)
  go_loopw [3, 4] (fun l p wr => ∃ (j : Nat) (t : ByteArray) (A : Option Addr) (c : Nat), j + 1 ≤ K ∧ l = .slice A (j + 1) c ∧ p = .string t ∧ Hid (bs t = powL (bs a) (j + 1)) ∧ Hid (Own wr 9 w.heap.size wr.heap.size A (j + 1) c (strsV (powsB a (j + 1)))) ∧ Hid (Below w.heap.size w wr)) (fun l _ _ => K - (lenOf l))
  case atStart => exact ⟨0, a, _, _, k1, rfl, rfl, (pow_one Ha.out).symm, (own_one w 9 (.string r)).congr Hpow0.out.symm, below_alloc _ _⟩
  case round =>
    obtain ⟨j, t, A, c, hj, rfl, rfl, Ht, HO, HB⟩ := hrel
    obtain ⟨g, rfl, g1, g2, g3⟩ := HO.out.form (by omega)
    have hc0 : wr.cell? ⟨g, 0, none⟩ = some (.string r) := by
      have hl : (strsV (powsB a (j + 1)))[0]? = some (.string r) := by
        have e := Hpow0.out
        simp [strsV, powsB] at e ⊢
        exact e
      exact (HO.out.mem 0 _ hl).1
    by_cases hend : j + 1 = K
    · have htr : t = r := by apply bs_inj; rw [Ht.out, hend, HK.out.2.1, Hr.out]
      have E : Hid (Own wr 9 w.heap.size wr.heap.size (some ⟨g, 0, none⟩) K c (strsV (powsB a K))) := by unfold Hid; rw [← hend]; exact HO.out
      have Hend := Lib.hid hend
      subst htr
      clear hend
      go_wp2
      go_ret
      exact ⟨_, c, by rw [← Hend.out]; rfl, E.out, HB.out⟩
    · have hne : t ≠ r := fun e => by
        refine HK.out.2.2 (j + 1) (by omega) (by omega) ?_
        rw [← Ht.out, e, Hr.out]
      have hneL := ne_list hne
      have hs := size_of_pow Ha.out Ht.out
      have Hs := Lib.hid hs
      clear hs
      have hlt : j + 1 < K := by omega
      go_wp2_with (first | (at_builtin; refine wpList_append1 wr rfl (.tmp 18) (.tmp 20) 22 rfl 9 (.string ByteArray.empty) 16 Try.underlying22 info_str rfl w.heap.size (some ⟨g, 0, none⟩) (j + 1) c (strsV (powsB a (j + 1))) (.string t) rfl rfl rfl HO.out (by omega) (by omega) HB.out.size ?_; intro A1 c1 w1 ho1 hw1 hsz1 hat1) | (go_at_call 91; refine (times_any t a _ (row_of_pow Ha.out Ht.out) Ha.out Hs.out).mono ?_; rintro e w2 ⟨rfl, hb2⟩))
      have HO1 : Hid (Own w2 9 w.heap.size w2.heap.size A1 (j + 1 + 1) c1 (strsV (powsB a (j + 1 + 1)))) := by
        refine ((ho1.below hb2).mono (Nat.le_refl _) hb2.size).congr ?_
        rw [powsB_snoc a (j + 1), strsV_append, ← Ht.out, mkS_bs]; rfl
      have HB1 : Hid (Below w.heap.size w w2) := (HB.out.trans (hw1.below (Nat.le_refl _) HB.out.size)).trans (hb2.mono (Nat.le_trans HB.out.size (Nat.le_of_lt hsz1)))
      go_roundw
      case rel => exact ⟨j + 1, _, A1, c1, by omega, rfl, rfl, by unfold Hid; rw [bs_mkS, Ht.out]; rfl, HO1.out, HB1.out⟩
      case measure => simp [lenOf]; omega
end Go.Proofs.Ytbmabfgnmafooaa
