/- The walks of the rank of a row. -/
import Derived.Test.YtajmjfekddgelaaWalkC
namespace Go.Proofs.Ytajmjfekddgelaa
open Go.RowKit
set_option linter.unusedVariables false

def lessTo (a : ByteArray) (i j : Nat) : Nat := lessN ((bs a).getD i 0) (((bs a).drop (i + 1)).take (j - (i + 1)))
theorem lessTo_start (a : ByteArray) (i : Nat) : lessTo a i (i + 1) = 0 := by simp [lessTo, lessN]
theorem lessTo_le (a : ByteArray) (i j : Nat) (h8 : a.size ≤ 8) : lessTo a i j ≤ 8 := by
  unfold lessTo
  refine Nat.le_trans (lessN_le _ _) ?_
  rw [List.length_take, List.length_drop, size_bs]; omega
theorem lessTo_step (a : ByteArray) (i j : Nat) (hi : i < a.size) (hij : i + 1 ≤ j) (hj : j < a.size) : lessTo a i (j + 1) = lessTo a i j + if a[j] < a[i] then 1 else 0 := by
  unfold lessTo
  have e : j + 1 - (i + 1) = (j - (i + 1)) + 1 := by omega
  have hl : j - (i + 1) < ((bs a).drop (i + 1)).length := by rw [List.length_drop, size_bs]; omega
  rw [e, List.take_succ_eq_append_getElem hl, lessN_snoc]
  have e2 : ((bs a).drop (i + 1))[j - (i + 1)] = a[j] := by
    rw [List.getElem_drop, ← bs_get a j hj]; congr 1; omega
  rw [e2, getD_bs a i hi]
theorem lessTo_all (a : ByteArray) (i : Nat) (hi : i < a.size) : lessTo a i a.size = lessN ((bs a)[i]'(by rw [size_bs]; exact hi)) ((bs a).drop (i + 1)) := by
  unfold lessTo
  rw [List.take_of_length_le (by rw [List.length_drop, size_bs]; exact Nat.le_refl _), getD_bs a i hi, bs_get]
theorem rank_bound {a : ByteArray} (h8 : a.size ≤ 8) : rankL (bs a) < 40320 + 1 := by
  have h1 := rankL_lt (bs a)
  have h2 := factN_8 (n := (bs a).length) (by rw [size_bs]; exact h8)
  omega
theorem place_inv {a : ByteArray} {i p : Nat} (hi : i < a.size) (h : p * factN (a.size - i) + rankL ((bs a).drop i) = rankL (bs a)) :
    (p * (a.size - i) + lessTo a i a.size) * factN (a.size - (i + 1)) + rankL ((bs a).drop (i + 1)) = rankL (bs a) := by
  have e := rankL_drop (show i < (bs a).length by rw [size_bs]; exact hi)
  simp only [size_bs] at e
  rw [← h, e, lessTo_all a i hi]
  obtain ⟨m, hm⟩ : ∃ m, a.size - i = m + 1 := ⟨a.size - i - 1, by omega⟩
  have hm' : a.size - (i + 1) = m := by omega
  rw [hm, hm', Nat.add_mul, Nat.mul_assoc, factN, Nat.add_assoc]
theorem rank_inv {a : ByteArray} {i p : Nat} (hi : i < a.size) (h : p + rankL ((bs a).drop i) = rankL (bs a)) :
    p + lessTo a i a.size * factN (a.size - (i + 1)) + rankL ((bs a).drop (i + 1)) = rankL (bs a) := by
  have e := rankL_drop (show i < (bs a).length by rw [size_bs]; exact hi)
  simp only [size_bs] at e
  rw [← h, e, lessTo_all a i hi, Nat.add_assoc]
theorem place_le {a : ByteArray} {i p : Nat} (h8 : a.size ≤ 8) (h : p * factN (a.size - i) + rankL ((bs a).drop i) = rankL (bs a)) : p ≤ 40320 := by
  have h1 := rank_bound h8
  have h2 : p * 1 ≤ p * factN (a.size - i) := Nat.mul_le_mul_left _ (factN_pos _)
  omega
theorem place_wrap {p n i le : Nat} (hp : p ≤ 40320) (hn : n ≤ 8) (hi : i ≤ n) (hle : le ≤ 8) : wrap64 (wrap64 ((p : Int) * ((n : Int) - (i : Int))) + (le : Int)) = ((p * (n - i) + le : Nat) : Int) := by
  have e : (n : Int) - (i : Int) = ((n - i : Nat) : Int) := by omega
  have h1 : p * (n - i) ≤ 40320 * 8 := Nat.mul_le_mul hp (by omega)
  rw [e, ← Int.natCast_mul, wrap_small (a := ((p * (n - i) : Nat) : Int)) (by omega) (by omega), wrap_small (by omega) (by omega)]; omega
theorem rank_wrap {p le f : Nat} (hp : p ≤ 40320) (hle : le ≤ 8) (hf : f ≤ 40320) : wrap64 ((p : Int) + wrap64 ((le : Int) * (f : Int))) = ((p + le * f : Nat) : Int) := by
  have h1 : le * f ≤ 8 * 40320 := Nat.mul_le_mul hle hf
  rw [← Int.natCast_mul, wrap_small (a := ((le * f : Nat) : Int)) (by omega) (by omega), wrap_small (by omega) (by omega)]; omega

set_option maxRecDepth 100000 in
set_option maxHeartbeats 400000 in
theorem l1Place_any (a : ByteArray) (w : World) (h8 : a.size ≤ 8) : Calls Try.prog 63 #[.string a] w fun e w' => e = .returned (.int .i64 (rankL (bs a) : Nat)) ∧ ∃ n, w' = w.drewN n := by
  go_enter Try.func63, Try.ntmps63
  go_wp2
  go_loopw [3, 4] (fun o i wr => ∃ k p n : Nat, k ≤ a.size ∧ i = .int .i64 k ∧ o = .int .i64 p ∧ Hid (p * factN (a.size - k) + rankL ((bs a).drop k) = rankL (bs a)) ∧ wr = w.drewN n) (fun _ i _ => a.size - (intOf i).toNat)
  case atStart => exact ⟨0, 0, 0, by omega, rfl, rfl, by simp [Hid], rfl⟩
  case round =>
    obtain ⟨k, p, n, hk, rfl, rfl, Hp, rfl⟩ := hrel
    by_cases hlt : k < a.size
    · go_wp2
      go_loopw [5, 6] (fun o j wr => ∃ q n : Nat, k + 1 ≤ q ∧ q ≤ a.size ∧ j = .int .i64 q ∧ o = .int .i64 (lessTo a k q : Nat) ∧ wr = w.drewN n) (fun _ j _ => a.size - (intOf j).toNat)
      case atStart => exact ⟨k + 1, n, by omega, by omega, by go_num, val_i (by rw [lessTo_start]; rfl), rfl⟩
      case round =>
        obtain ⟨q, n2, hq1, hq2, rfl, rfl, rfl⟩ := hrel
        have hle := lessTo_le a k q h8
        by_cases hqs : q < a.size
        · have i1 : (0 : Int) ≤ (q : Int) := by omega
          have i2 : (q : Int) < (a.size : Int) := by omega
          have i3 : (0 : Int) ≤ (k : Int) := by omega
          have i4 : (k : Int) < (a.size : Int) := by omega
          have HS := Lib.hid (lessTo_step a k q hlt hq1 hqs)
          by_cases hgt : a[q].toNat < a[k].toNat
          · have hgt' : (a[q].toNat : Int) < (a[k].toNat : Int) := by omega
            have E : Hid ((lessTo a k q : Int) + 1 = (lessTo a k (q + 1) : Nat)) := by
              unfold Hid
              rw [HS.out, if_pos (UInt8.lt_iff_toNat_lt.2 hgt)]; omega
            clear hgt
            go_wp2
            go_quiet (fail)
            go_wp2
            go_roundw
            case rel => exact ⟨q + 1, _, by omega, by omega, by go_num, val_i E.out, rfl⟩
            case measure => simp [intOf]; omega
          · have hgt' : (a[k].toNat : Int) ≤ (a[q].toNat : Int) := by omega
            have E : Hid ((lessTo a k q : Int) = (lessTo a k (q + 1) : Nat)) := by
              unfold Hid
              rw [HS.out, if_neg (fun h => hgt (UInt8.lt_iff_toNat_lt.1 h))]; omega
            clear hgt
            go_wp2
            go_quiet (fail)
            go_wp2
            go_roundw
            case rel => exact ⟨q + 1, _, by omega, by omega, by go_num, val_i E.out, rfl⟩
            case measure => simp [intOf]; omega
        · obtain rfl : q = a.size := by omega
          have E := Lib.hid (place_wrap (place_le h8 Hp.out) h8 hk hle)
          have HN := Lib.hid (place_inv hlt Hp.out)
          go_wp2
          go_roundw
          case rel => exact ⟨k + 1, _, _, by omega, by go_num, val_i E.out, HN.out, rfl⟩
          case measure => simp [intOf]; omega
    · have E : Hid ((rankL (bs a) : Int) = (p : Nat)) := by
        unfold Hid
        have := Hp.out
        rw [show a.size - k = 0 by omega, List.drop_of_length_le (by rw [size_bs]; omega)] at this
        simp [factN, rankL] at this
        omega
      go_wp2
      go_ret
      exact ⟨ret_i E.out, _, rfl⟩
end Go.Proofs.Ytajmjfekddgelaa
