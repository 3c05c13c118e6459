/- FnExactGoodRow returns true at every string. No condition. -/
import Derived.Test.YtobidhabodkoaaaWalkA
namespace Go.Proofs.Ytobidhabodkoaaa
open Go.RowKit
set_option linter.unusedVariables false

set_option maxHeartbeats 400000 in
theorem law_FnExactGoodRow (a0 : ByteArray) (w0 : a0.size ≤ maxLen) (w : World) :
    Calls Try.prog 5 #[.string a0] w fun e w' => e = .returned (.bool true) ∧ Below w.heap.size w w' := by
  by_cases hbig : 1048576 < a0.size
  · have hb : (1048576 : Int) < (a0.size : Int) := by omega
    go_enter Try.func5, Try.ntmps5
    go_wp2
    go_ret
    exact ⟨rfl, Below.refl _ _⟩
  · have hb : (a0.size : Int) ≤ 1048576 := by omega
    clear hbig
    go_enter Try.func5, Try.ntmps5
    go_wp2_with (first | (go_at_call 17; go_in) | (go_at_call 47; refine (l1Row_any _ _ w0).mono ?_; rintro e w' ⟨rfl, n, rfl⟩) | (go_at_call 18; refine (GoodRow_any _ _ w0).mono ?_; rintro e w' ⟨rfl, rfl⟩))
    go_ret
    exact ⟨rfl, below_drewN (Below.refl _ _) _⟩
end Go.Proofs.Ytobidhabodkoaaa
