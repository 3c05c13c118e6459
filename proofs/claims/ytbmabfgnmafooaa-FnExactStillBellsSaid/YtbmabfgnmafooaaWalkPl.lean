/- The walks of the search of a bell's place in a row. -/
import Derived.Test.YtbmabfgnmafooaaWalkB
import Derived.Test.YtbmabfgnmafooaaPlainP
namespace Go.Proofs.Ytbmabfgnmafooaa
open Go.RowKit
set_option linter.unusedVariables false

set_option maxRecDepth 100000 in
set_option maxHeartbeats 400000 in
theorem placeOf_any (r : ByteArray) (B : Nat) (w : World) (hr : IsRow (bs r)) (h1 : 1 ≤ B) (h2 : B ≤ r.size) :
    Calls Try.prog 96 #[.string r, .int .i64 (B : Int)] w fun e w' => e = .returned (.int .i64 (bpl (bs r) B : Int)) ∧ w = w' := by
  have Hr := Lib.hid hr
  have n8 : r.size ≤ 8 := by have := hr.2.1; rwa [size_bs] at this
  have HP := Lib.hid (bpl_lt hr h1 (by rw [size_bs]; exact h2))
  clear hr
  go_enter Try.func96, Try.ntmps96
  go_wp2
  go_loop [8] (fun i => ∃ k : Nat, k ≤ r.size ∧ i = .int .i64 k ∧ Hid (k ≤ (bs r).findIdx (fun c => dig c + 1 == B))) (fun i => r.size - (intOf i).toNat)
  case atStart => exact ⟨0, by omega, rfl, Nat.zero_le _⟩
  case round =>
    obtain ⟨k, hk, rfl, HK⟩ := hrel
    have hlt : k < r.size := by have a := HP.out; have b := HK.out; rw [size_bs] at a; omega
    have hbb := Hr.out.byte hlt
    obtain ⟨c1, c2⟩ := hbb
    have b1 : 49 ≤ (r[k].toNat : Int) := by omega
    have b2 : (r[k].toNat : Int) ≤ 255 := by have := UInt8.toNat_lt r[k]; omega
    by_cases hit : dig r[k] + 1 = B
    · have E : Hid ((bpl (bs r) B : Int) = (k : Int) + 1) := by
        unfold Hid; rw [bpl_hit (l := bs r) (by rw [size_bs]; exact hlt) HK.out hit]; omega
      have hq : ((r[k].toNat : Int) - 48 == (B : Int)) = true := by unfold dig at hit; simp; omega
      clear hit c1 c2
      go_wp2
      go_ret
      exact ⟨ret_i E.out, rfl⟩
    · have E : Hid (k + 1 ≤ (bs r).findIdx (fun c => dig c + 1 == B)) := bpl_miss (l := bs r) (by rw [size_bs]; exact hlt) HK.out hit
      have hq : ((r[k].toNat : Int) - 48 == (B : Int)) = false := by unfold dig at hit; simp; omega
      clear hit c1 c2
      go_wp2
      go_round
      case rel => exact ⟨k + 1, by omega, by go_num, E.out⟩
      case measure => simp [intOf]; omega
set_option maxRecDepth 100000 in
set_option maxHeartbeats 400000 in
theorem l5Place_any (r : ByteArray) (B : Nat) (w : World) (hr : IsRow (bs r)) (h1 : 1 ≤ B) (h2 : B ≤ r.size) :
    Calls Try.prog 89 #[.string r, .int .i64 (B : Int)] w fun e w' => e = .returned (.int .i64 (bpl (bs r) B : Int)) ∧ w = w' := by
  have Hr := Lib.hid hr
  have n8 : r.size ≤ 8 := by have := hr.2.1; rwa [size_bs] at this
  have HP := Lib.hid (bpl_lt hr h1 (by rw [size_bs]; exact h2))
  clear hr
  go_enter Try.func89, Try.ntmps89
  go_wp2
  go_loop [5] (fun i => ∃ k : Nat, k ≤ r.size ∧ i = .int .i64 ((k : Int) + 1) ∧ Hid (k ≤ (bs r).findIdx (fun c => dig c + 1 == B))) (fun i => r.size + 1 - (intOf i).toNat)
  case atStart => exact ⟨0, by omega, rfl, Nat.zero_le _⟩
  case round =>
    obtain ⟨k, hk, rfl, HK⟩ := hrel
    have hlt : k < r.size := by have a := HP.out; have b := HK.out; rw [size_bs] at a; omega
    have hbb := Hr.out.byte hlt
    obtain ⟨c1, c2⟩ := hbb
    have HA : Hid (∀ W, Calls Try.prog 72 #[.string r, .int .i64 ((k : Int) + 1)] W fun e w' => e = .returned (.int .i64 ((dig r[k] : Nat) + 1)) ∧ W = w') := fun W => l1At_any r _ k W rfl hlt n8 c1
    obtain ⟨d, hd⟩ : ∃ d, d = dig r[k] := ⟨_, rfl⟩
    rw [← hd] at HA
    have hd8 : d ≤ 255 := by rw [hd]; unfold dig; have := UInt8.toNat_lt r[k]; omega
    by_cases hit : d + 1 = B
    · have E : Hid ((bpl (bs r) B : Int) = (k : Int) + 1) := by
        unfold Hid; rw [bpl_hit (l := bs r) (by rw [size_bs]; exact hlt) HK.out (by rw [bs_get r k hlt, ← hd]; exact hit)]; omega
      have hq : ((d : Int) + 1 == (B : Int)) = true := by simp; omega
      clear hit c1 c2 hd
      go_wp2_with (go_at_call 72; refine (HA.out _).mono ?_; rintro e w' ⟨rfl, rfl⟩)
      go_ret
      exact ⟨ret_i E.out, rfl⟩
    · have E : Hid (k + 1 ≤ (bs r).findIdx (fun c => dig c + 1 == B)) := bpl_miss (l := bs r) (by rw [size_bs]; exact hlt) HK.out (by rw [bs_get r k hlt, ← hd]; exact hit)
      have hq : ((d : Int) + 1 == (B : Int)) = false := by simp; omega
      clear hit c1 c2 hd
      go_wp2_with (go_at_call 72; refine (HA.out _).mono ?_; rintro e w' ⟨rfl, rfl⟩)
      go_round
      case rel => exact ⟨k + 1, by omega, by go_num, E.out⟩
      case measure => simp [intOf]; omega
end Go.Proofs.Ytbmabfgnmafooaa
