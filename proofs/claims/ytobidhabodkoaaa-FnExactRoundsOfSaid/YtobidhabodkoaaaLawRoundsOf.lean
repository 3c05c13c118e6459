/- FnExactRoundsOf returns true at every int. No condition. -/
import Derived.Test.YtobidhabodkoaaaWalkA
namespace Go.Proofs.Ytobidhabodkoaaa
open Go.RowKit
set_option linter.unusedVariables false

set_option maxHeartbeats 400000 in
theorem law_FnExactRoundsOf (a0 : Int) (w0 : (Lit.int .i64 a0).wf = true) (w : World) :
    Calls Try.prog 4 #[.int .i64 a0] w fun e w' => e = .returned (.bool true) ∧ Below w.heap.size w w' := by
  by_cases hs : 3 ≤ a0 ∧ a0 ≤ 8
  · obtain ⟨h3, h8⟩ := hs
    have hin : inB a0 3 8 = true := inB_true h3 h8
    have h0 : 0 ≤ a0 := by omega
    go_enter Try.func4, Try.ntmps4
    go_wp2_with (first | (go_at_call 15; go_in) | (go_at_call 16; go_in) | (go_at_call 43; refine (l1In_any _ _ _ _).mono ?_; rintro e w' ⟨rfl, rfl⟩) | (go_at_call 45; refine (isStage_any _ _).mono ?_; rintro e w' ⟨rfl, rfl⟩) | (go_at_call 44; refine (l1Rounds_any _ _ h0 h8).mono ?_; rintro e w' ⟨rfl, rfl⟩) | (go_at_call 46; refine (rounds_any _ _ h0 h8).mono ?_; rintro e w' ⟨rfl, rfl⟩))
    go_ret
    exact ⟨rfl, Below.refl _ _⟩
  · have hin : inB a0 3 8 = false := inB_false (by omega)
    clear hs
    go_enter Try.func4, Try.ntmps4
    go_wp2_with (first | (go_at_call 15; go_in) | (go_at_call 16; go_in) | (go_at_call 43; refine (l1In_any _ _ _ _).mono ?_; rintro e w' ⟨rfl, rfl⟩) | (go_at_call 45; refine (isStage_any _ _).mono ?_; rintro e w' ⟨rfl, rfl⟩))
    go_ret
    exact ⟨rfl, Below.refl _ _⟩
end Go.Proofs.Ytobidhabodkoaaa
