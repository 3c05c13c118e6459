/- The walks of the powers with a given exponent. -/
import Derived.Test.YtobidhabodkoaaaWalkE
namespace Go.Proofs.Ytobidhabodkoaaa
open Go.RowKit
set_option linter.unusedVariables false

def powZ (l : List UInt8) (k : Int) : List UInt8 := if k < 0 then powL (turnL l) (-k).toNat else powL l k.toNat
theorem powZ_neg {l : List UInt8} {k : Int} (h : k < 0) : powZ l k = powL (turnL l) (-k).toNat := by unfold powZ; rw [if_pos h]
theorem powZ_pos {l : List UInt8} {k : Int} (h : 0 ≤ k) : powZ l k = powL l k.toNat := by unfold powZ; rw [if_neg (by omega)]

set_option maxHeartbeats 1000000 in
theorem PowerOf_good (a : ByteArray) (k : Int) (w : World) (hm : a.size ≤ maxLen) (ha : IsRow (bs a)) (h1 : -1000 ≤ k) (h2 : k ≤ 1000) :
    Calls Try.prog 32 #[.string a, .int .i64 k] w fun e w' => e = .returned (.tuple #[.string (mkS (powZ (bs a) k)), .bool true]) ∧ Below w.heap.size w w' := by
  have n8 := size_le_of_row ha
  have Ha := Lib.hid ha
  have hg : rowB a = true := by simp [rowB, ha]
  clear ha
  by_cases hneg : k < 0
  · obtain ⟨b, hb⟩ : ∃ b : ByteArray, b = mkS (turnL (bs a)) := ⟨_, rfl⟩
    have hC : ∀ W, Calls Try.prog 52 #[.string a] W fun e w' => e = .returned (.string b) ∧ Below W.heap.size W w' := fun W => by rw [hb]; exact turned_any a W Ha.out
    have HC := Lib.hid hC
    have hbs : bs b = turnL (bs a) := by rw [hb, bs_mkS]
    have Hb : Hid (IsRow (bs b)) := by unfold Hid; rw [hbs]; exact isRow_turn Ha.out
    have b8 := size_le_of_row Hb.out
    have Hbs := Lib.hid hbs
    have HZ := Lib.hid (powZ_neg (l := bs a) hneg)
    clear hC hb hbs
    obtain ⟨m, hmk⟩ : ∃ m : Nat, -k = (m : Int) := ⟨(-k).toNat, by omega⟩
    have hm2 : (m : Int) ≤ 1000 := by omega
    have Hm := Lib.hid hmk
    clear hmk
    go_enter Try.func32, Try.ntmps32
    go_wp2_with (first | (go_at_call 18; refine (GoodRow_any _ _ hm).mono ?_; rintro e w' ⟨rfl, rfl⟩) | (go_at_call 52; refine (HC.out _).mono ?_; rintro e w1 ⟨rfl, hbel⟩) | (go_at_call 46; refine (rounds_any _ _ (by omega) (by omega)).mono ?_; rintro e w' ⟨rfl, rfl⟩))
    go_loopw [6, 28] (fun o i wr => ∃ (j : Nat) (t : ByteArray), (j : Int) ≤ -k ∧ i = .int .i64 j ∧ o = .string t ∧ Hid (bs t = powL (bs b) j) ∧ Hid (Below w.heap.size w wr)) (fun _ i _ => 1001 - (intOf i).toNat)
    case atStart => exact ⟨0, _, by omega, rfl, rfl, by unfold Hid; rw [bs_mkS]; simp [powL, size_bs], hbel⟩
    case round =>
      obtain ⟨j, t, hj, rfl, rfl, Ht, HB⟩ := hrel
      by_cases hlt : (j : Int) < -k
      · have Hs := Lib.hid (size_of_pow Hb.out Ht.out)
        go_wp2_with (go_at_call 56; refine (times_any t b _ (row_of_pow Hb.out Ht.out) Hb.out Hs.out).mono ?_; rintro e w2 ⟨rfl, hb2⟩)
        go_roundw
        case rel => exact ⟨j + 1, _, by omega, by go_num, rfl, by unfold Hid; rw [bs_mkS, Ht.out]; rfl, HB.out.trans (hb2.mono HB.out.size)⟩
        case measure => simp [intOf]; omega
      · have E : Hid (mkS (powZ (bs a) k) = t) := by
          unfold Hid
          rw [HZ.out, ← Hbs.out, show (-k).toNat = j by omega, ← Ht.out, mkS_bs]
        go_wp2
        go_ret2
        exact ⟨ret_sb E.out, HB.out⟩
  · have hpos : 0 ≤ k := by omega
    have HZ := Lib.hid (powZ_pos (l := bs a) hpos)
    clear hneg
    go_enter Try.func32, Try.ntmps32
    go_wp2_with (first | (go_at_call 18; refine (GoodRow_any _ _ hm).mono ?_; rintro e w' ⟨rfl, rfl⟩) | (go_at_call 46; refine (rounds_any _ _ (by omega) (by omega)).mono ?_; rintro e w' ⟨rfl, rfl⟩))
    go_loopw [6, 28] (fun o i wr => ∃ (j : Nat) (t : ByteArray), (j : Int) ≤ k ∧ i = .int .i64 j ∧ o = .string t ∧ Hid (bs t = powL (bs a) j) ∧ Hid (Below w.heap.size w wr)) (fun _ i _ => 1001 - (intOf i).toNat)
    case atStart => exact ⟨0, _, by omega, rfl, rfl, by unfold Hid; rw [bs_mkS]; simp [powL, size_bs], Below.refl _ _⟩
    case round =>
      obtain ⟨j, t, hj, rfl, rfl, Ht, HB⟩ := hrel
      by_cases hlt : (j : Int) < k
      · have Hs := Lib.hid (size_of_pow Ha.out Ht.out)
        go_wp2_with (go_at_call 56; refine (times_any t a _ (row_of_pow Ha.out Ht.out) Ha.out Hs.out).mono ?_; rintro e w2 ⟨rfl, hb2⟩)
        go_roundw
        case rel => exact ⟨j + 1, _, by omega, by go_num, rfl, by unfold Hid; rw [bs_mkS, Ht.out]; rfl, HB.out.trans (hb2.mono HB.out.size)⟩
        case measure => simp [intOf]; omega
      · have E : Hid (mkS (powZ (bs a) k) = t) := by
          unfold Hid
          rw [HZ.out, show k.toNat = j by omega, ← Ht.out, mkS_bs]
        go_wp2
        go_ret2
        exact ⟨ret_sb E.out, HB.out⟩
set_option maxHeartbeats 1000000 in
theorem l1Power_any (a : ByteArray) (k : Int) (w : World) (ha : IsRow (bs a)) (h1 : -1000 ≤ k) (h2 : k ≤ 1000) :
    Calls Try.prog 63 #[.string a, .int .i64 k] w fun e w' => e = .returned (.string (mkS (powZ (bs a) k))) ∧ Below w.heap.size w w' := by
  have n8 := size_le_of_row ha
  have Ha := Lib.hid ha
  clear ha
  by_cases hneg : k < 0
  · obtain ⟨b, hb⟩ : ∃ b : ByteArray, b = mkS (turnL (bs a)) := ⟨_, rfl⟩
    have hC : ∀ W, Calls Try.prog 51 #[.string a] W fun e w' => e = .returned (.string b) ∧ Below W.heap.size W w' := fun W => by rw [hb]; exact l1Turn_any a W Ha.out
    have HC := Lib.hid hC
    have hbs : bs b = turnL (bs a) := by rw [hb, bs_mkS]
    have Hb : Hid (IsRow (bs b)) := by unfold Hid; rw [hbs]; exact isRow_turn Ha.out
    have b8 := size_le_of_row Hb.out
    have Hbs := Lib.hid hbs
    have HZ := Lib.hid (powZ_neg (l := bs a) hneg)
    clear hC hb hbs
    go_enter Try.func63, Try.ntmps63
    go_wp2_with (first | (go_at_call 51; refine (HC.out _).mono ?_; rintro e w1 ⟨rfl, hbel⟩) | (go_at_call 44; refine (l1Rounds_any _ _ (by omega) (by omega)).mono ?_; rintro e w' ⟨rfl, rfl⟩))
    have HBel := Lib.hid hbel
    go_loop [1, 5] (fun i o => ∃ (q j : Nat) (t : ByteArray), (q : Int) + (j : Int) = -k ∧ i = .int .i64 q ∧ o = .string t ∧ Hid (bs t = powL (bs b) j)) (fun i _ => (intOf i).toNat)
    case atStart => exact ⟨(-k).toNat, 0, _, by omega, val_i (by omega), rfl, by unfold Hid; rw [bs_mkS]; simp [powL, size_bs]⟩
    case round =>
      obtain ⟨q, j, t, hj, rfl, rfl, Ht⟩ := hrel
      have Hj := Lib.hid hj
      have hq2 : (q : Int) ≤ 1000 := by omega
      clear hj
      by_cases hlt : 0 < q
      · have hlt' : 0 < (q : Int) := by omega
        have Hs := Lib.hid (size_of_pow Hb.out Ht.out)
        go_wp2_with (go_at_call 54; refine (l1Times_any t b _ (row_of_pow Hb.out Ht.out) Hb.out Hs.out).mono ?_; rintro e w2 ⟨rfl, rfl⟩)
        go_round
        case rel => exact ⟨q - 1, j + 1, _, by have := Hj.out; omega, val_i (by omega), rfl, by unfold Hid; rw [bs_mkS, Ht.out]; rfl⟩
        case measure => simp [intOf]; omega
      · have hlt' : (q : Int) ≤ 0 := by omega
        have E : Hid (mkS (powZ (bs a) k) = t) := by
          unfold Hid
          have := Hj.out
          rw [HZ.out, ← Hbs.out, show (-k).toNat = j by omega, ← Ht.out, mkS_bs]
        clear hlt
        go_wp2
        go_ret
        exact ⟨ret_s E.out, HBel.out⟩
  · have hpos : 0 ≤ k := by omega
    have HZ := Lib.hid (powZ_pos (l := bs a) hpos)
    clear hneg
    go_enter Try.func63, Try.ntmps63
    go_wp2_with (first | (go_at_call 44; refine (l1Rounds_any _ _ (by omega) (by omega)).mono ?_; rintro e w' ⟨rfl, rfl⟩))
    go_loop [1, 5] (fun i o => ∃ (q j : Nat) (t : ByteArray), (q : Int) + (j : Int) = k ∧ i = .int .i64 q ∧ o = .string t ∧ Hid (bs t = powL (bs a) j)) (fun i _ => (intOf i).toNat)
    case atStart => exact ⟨k.toNat, 0, _, by omega, val_i (by omega), rfl, by unfold Hid; rw [bs_mkS]; simp [powL, size_bs]⟩
    case round =>
      obtain ⟨q, j, t, hj, rfl, rfl, Ht⟩ := hrel
      have Hj := Lib.hid hj
      have hq2 : (q : Int) ≤ 1000 := by omega
      clear hj
      by_cases hlt : 0 < q
      · have hlt' : 0 < (q : Int) := by omega
        have Hs := Lib.hid (size_of_pow Ha.out Ht.out)
        go_wp2_with (go_at_call 54; refine (l1Times_any t a _ (row_of_pow Ha.out Ht.out) Ha.out Hs.out).mono ?_; rintro e w2 ⟨rfl, rfl⟩)
        go_round
        case rel => exact ⟨q - 1, j + 1, _, by have := Hj.out; omega, val_i (by omega), rfl, by unfold Hid; rw [bs_mkS, Ht.out]; rfl⟩
        case measure => simp [intOf]; omega
      · have hlt' : (q : Int) ≤ 0 := by omega
        have E : Hid (mkS (powZ (bs a) k) = t) := by
          unfold Hid
          have := Hj.out
          rw [HZ.out, show k.toNat = j by omega, ← Ht.out, mkS_bs]
        clear hlt
        go_wp2
        go_ret
        exact ⟨ret_s E.out, Below.refl _ _⟩
end Go.Proofs.Ytobidhabodkoaaa
