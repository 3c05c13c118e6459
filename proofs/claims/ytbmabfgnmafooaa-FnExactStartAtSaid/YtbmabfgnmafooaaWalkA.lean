/- The walks of the small functions on rows: what each returns, at every string. -/
import Derived.Test.YtbmabfgnmafooaaProg
import Derived.Test.YtbmabfgnmafooaaKit1
import Derived.WalkKit
import Derived.WalkSpells
import Derived.WalkLawsBesides
import Derived.Deep.QuietTactic
import Derived.BigQuiet
import Derived.Lib.Hide
namespace Go.Proofs.Ytbmabfgnmafooaa
open Go.RowKit
set_option linter.unusedVariables false

def inB (n a b : Int) : Bool := decide (a ≤ n ∧ n ≤ b)
theorem inB_true {n a b : Int} (h1 : a ≤ n) (h2 : n ≤ b) : inB n a b = true := by simp [inB, h1, h2]
theorem inB_false {n a b : Int} (h : n < a ∨ b < n) : inB n a b = false := by simp only [inB, decide_eq_false_iff_not]; omega

set_option maxRecDepth 100000 in
set_option maxHeartbeats 400000 in
theorem l1In_any (n a b : Int) (w : World) : Calls Try.prog 58 #[.int .i64 n, .int .i64 a, .int .i64 b] w fun e w' => e = .returned (.bool (inB n a b)) ∧ w = w' := by
  by_cases h1 : a ≤ n
  · by_cases h2 : n ≤ b
    · have e : inB n a b = true := by simp [inB, h1, h2]
      go_enter Try.func58, Try.ntmps58
      go_wp2
      go_ret
      exact ⟨by simp [e], rfl⟩
    · have e : inB n a b = false := by simp [inB, h2]
      go_enter Try.func58, Try.ntmps58
      go_wp2
      go_ret
      exact ⟨by simp, rfl⟩
  · have e : inB n a b = false := by simp [inB, h1]
    go_enter Try.func58, Try.ntmps58
    go_wp2
    go_ret
    exact ⟨by simp, rfl⟩
set_option maxRecDepth 100000 in
set_option maxHeartbeats 400000 in
theorem isStage_any (n : Int) (w : World) : Calls Try.prog 104 #[.int .i64 n] w fun e w' => e = .returned (.bool (inB n 3 8)) ∧ w = w' := by
  by_cases h1 : 3 ≤ n
  · by_cases h2 : n ≤ 8
    · have e : inB n 3 8 = true := by simp [inB, h1, h2]
      go_enter Try.func104, Try.ntmps104
      go_wp2
      go_ret
      exact ⟨by simp [e], rfl⟩
    · have e : inB n 3 8 = false := by simp [inB, h2]
      go_enter Try.func104, Try.ntmps104
      go_wp2
      go_ret
      exact ⟨by simp, rfl⟩
  · have e : inB n 3 8 = false := by simp [inB, h1]
    go_enter Try.func104, Try.ntmps104
    go_wp2
    go_ret
    exact ⟨by simp, rfl⟩
theorem rounds_bytes (n : Nat) (h : n ≤ 8) : ByteArray.extract { data := #[49, 50, 51, 52, 53, 54, 55, 56] } 0 n = mkS (roundsL n) := by
  obtain rfl | rfl | rfl | rfl | rfl | rfl | rfl | rfl | rfl : n = 0 ∨ n = 1 ∨ n = 2 ∨ n = 3 ∨ n = 4 ∨ n = 5 ∨ n = 6 ∨ n = 7 ∨ n = 8 := by omega
  all_goals decide
theorem rounds_any (n : Int) (w : World) (h0 : 0 ≤ n) (h : n ≤ 8) : Calls Try.prog 75 #[.int .i64 n] w fun e w' => e = .returned (.string (mkS (roundsL n.toNat))) ∧ w = w' := by
  go_enter Try.func75, Try.ntmps75
  go_wp2
  go_ret
  exact ⟨by simp [rounds_bytes _ (show n.toNat ≤ 8 by omega)], rfl⟩
theorem l1Rounds_any (n : Int) (w : World) (h0 : 0 ≤ n) (h : n ≤ 8) : Calls Try.prog 71 #[.int .i64 n] w fun e w' => e = .returned (.string (mkS (roundsL n.toNat))) ∧ w = w' := by
  go_enter Try.func71, Try.ntmps71
  go_wp2
  go_ret
  exact ⟨by simp [rounds_bytes _ (show n.toNat ≤ 8 by omega)], rfl⟩


end Go.Proofs.Ytbmabfgnmafooaa
