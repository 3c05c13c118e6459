/- The walks of the factorial, the sign and the rank. -/
import Derived.Test.YtgpjbmlemnjhfaaWalkB
namespace Go.Proofs.Ytgpjbmlemnjhfaa
open Go.RowKit
set_option linter.unusedVariables false

theorem fact_step {k : Nat} (h : k + 2 ≤ 8) : wrap64 ((factN (k + 1) : Int) * ((k : Int) + 2)) = ((factN (k + 2) : Nat) : Int) := by
  obtain rfl | rfl | rfl | rfl | rfl | rfl | rfl : k = 0 ∨ k = 1 ∨ k = 2 ∨ k = 3 ∨ k = 4 ∨ k = 5 ∨ k = 6 := by omega
  all_goals (simp [factN, wrap64])
theorem wrap_small {a : Int} (h1 : -1000000000 ≤ a) (h2 : a ≤ 1000000000) : wrap64 a = a := by unfold wrap64; omega
theorem factN_8 {n : Nat} (h : n ≤ 8) : factN n ≤ 40320 := factN_le h


/-- whether a number is even -/
def evB (n : Nat) : Bool := n % 2 == 0
theorem evB_succ (n : Nat) : evB (n + 1) = !evB n := by
  unfold evB
  have : n % 2 = 0 ∨ n % 2 = 1 := by omega
  rcases this with h | h
  · rw [show (n + 1) % 2 = 1 by omega, h]; rfl
  · rw [show (n + 1) % 2 = 0 by omega, h]; rfl
theorem odd_step (a : ByteArray) (k q : Nat) (c : UInt8) (hq : q < a.size) : oddTo (bs a) k + oddIn c ((bs a).take (q + 1)) = oddTo (bs a) k + oddIn c ((bs a).take q) + if c < a[q] then 1 else 0 := by
  rw [take_snoc a q hq, oddIn_snoc]; omega
theorem odd_next (a : ByteArray) (k : Nat) (hk : k < a.size) : oddTo (bs a) (k + 1) = oddTo (bs a) k + oddIn a[k] ((bs a).take k) := by
  simp only [oddTo, getD_bs a k hk]

end Go.Proofs.Ytgpjbmlemnjhfaa
