/- The walks of the factorial, the sign and the rank. -/
import Derived.Test.YtajmjfekddgelaaWalkB
namespace Go.Proofs.Ytajmjfekddgelaa
open Go.RowKit
set_option linter.unusedVariables false

theorem fact_step {k : Nat} (h : k + 2 ≤ 8) : wrap64 ((factN (k + 1) : Int) * ((k : Int) + 2)) = ((factN (k + 2) : Nat) : Int) := by
  obtain rfl | rfl | rfl | rfl | rfl | rfl | rfl : k = 0 ∨ k = 1 ∨ k = 2 ∨ k = 3 ∨ k = 4 ∨ k = 5 ∨ k = 6 := by omega
  all_goals (simp [factN, wrap64])
theorem wrap_small {a : Int} (h1 : -1000000000 ≤ a) (h2 : a ≤ 1000000000) : wrap64 a = a := by unfold wrap64; omega
theorem factN_8 {n : Nat} (h : n ≤ 8) : factN n ≤ 40320 := factN_le h

set_option maxRecDepth 100000 in
set_option maxHeartbeats 400000 in
theorem l1Fact_any (n : Int) (w : World) (h0 : 0 ≤ n) (h8 : n ≤ 8) : Calls Try.prog 80 #[.int .i64 n] w fun e w' => e = .returned (.int .i64 (factN n.toNat : Nat)) ∧ w = w' := by
  go_enter Try.func80, Try.ntmps80
  go_wp2
  go_loop [0, 3] (fun i o => ∃ m p : Nat, (m : Int) ≤ n ∧ i = .int .i64 m ∧ o = .int .i64 p ∧ Hid (p * factN m = factN n.toNat)) (fun i _ => (intOf i).toNat)
  case atStart => exact ⟨n.toNat, 1, by omega, val_i (by omega), rfl, Nat.one_mul _⟩
  case round =>
    obtain ⟨m, p, hm, rfl, rfl, Hp⟩ := hrel
    by_cases hlt : 1 < m
    · have hlt' : 1 < (m : Int) := by omega
      have hp : p * m ≤ 40320 := by
        have h1 := factN_8 (show n.toNat ≤ 8 by omega)
        obtain ⟨q, rfl⟩ : ∃ q, m = q + 1 := ⟨m - 1, by omega⟩
        have h2 := Hp.out
        simp only [factN] at h2
        have h3 : p * (q + 1) * 1 ≤ p * (q + 1) * factN q := Nat.mul_le_mul_left _ (factN_pos q)
        rw [Nat.mul_assoc p (q + 1) (factN q)] at h3
        omega
      have E : Hid (wrap64 ((p : Int) * (m : Int)) = ((p * m : Nat) : Int)) := by
        unfold Hid
        rw [← Int.natCast_mul]; exact wrap_small (by omega) (by omega)
      have HN : Hid (p * m * factN (m - 1) = factN n.toNat) := by
        unfold Hid
        obtain ⟨q, rfl⟩ : ∃ q, m = q + 1 := ⟨m - 1, by omega⟩
        have h2 := Hp.out
        simp only [factN] at h2
        rw [Nat.add_sub_cancel, Nat.mul_assoc]; exact h2
      clear hp
      go_wp2
      go_round
      case rel => exact ⟨m - 1, p * m, by omega, val_i (by omega), val_i E.out, HN.out⟩
      case measure => simp [intOf]; omega
    · have hlt' : (m : Int) ≤ 1 := by omega
      have E : Hid ((factN n.toNat : Int) = (p : Nat)) := by
        unfold Hid
        rw [← Hp.out]
        have : m = 0 ∨ m = 1 := by omega
        rcases this with rfl | rfl <;> simp [factN]
      clear hlt
      go_wp2
      go_ret
      exact ⟨ret_i E.out, rfl⟩

/-- whether a number is even -/
def evB (n : Nat) : Bool := n % 2 == 0
theorem evB_succ (n : Nat) : evB (n + 1) = !evB n := by
  unfold evB
  have : n % 2 = 0 ∨ n % 2 = 1 := by omega
  rcases this with h | h
  · rw [show (n + 1) % 2 = 1 by omega, h]; rfl
  · rw [show (n + 1) % 2 = 0 by omega, h]; rfl
theorem odd_step (a : ByteArray) (k q : Nat) (c : UInt8) (hq : q < a.size) : oddTo (bs a) k + oddIn c ((bs a).take (q + 1)) = oddTo (bs a) k + oddIn c ((bs a).take q) + if c < a[q] then 1 else 0 := by
  rw [take_snoc a q hq, oddIn_snoc]; omega
theorem odd_next (a : ByteArray) (k : Nat) (hk : k < a.size) : oddTo (bs a) (k + 1) = oddTo (bs a) k + oddIn a[k] ((bs a).take k) := by
  simp only [oddTo, getD_bs a k hk]

end Go.Proofs.Ytajmjfekddgelaa
