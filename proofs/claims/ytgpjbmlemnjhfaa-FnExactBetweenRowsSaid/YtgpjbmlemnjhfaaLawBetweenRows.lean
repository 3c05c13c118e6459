/- FnExactBetweenRows returns true at every input. No condition. -/
import Derived.Test.YtgpjbmlemnjhfaaSpBetweenRows
import Derived.Test.YtgpjbmlemnjhfaaOpen
namespace Go.Proofs.Ytgpjbmlemnjhfaa
open Go.RowKit
set_option linter.unusedVariables false

set_option maxRecDepth 100000 in
set_option maxHeartbeats 2000000 in
theorem law_FnExactBetweenRows (a0 : ByteArray) (a1 : ByteArray) {w : World} (w0 : a0.size ≤ maxLen) (w1 : a1.size ≤ maxLen) :
    Calls Try.prog 6 #[.string a0, .string a1] w fun e w' => e = .returned (.bool true) ∧ Below w.heap.size w w' := by
  by_cases hbig0 : 1048576 < a0.size
  · have hb : (1048576 : Int) < (a0.size : Int) := by omega
    go_enter Try.func6, Try.ntmps6
    go_wp2
    go_ret
    exact ⟨rfl, Below.refl _ _⟩
  have hb0 : (a0.size : Int) ≤ 1048576 := by omega
  have hs0 : a0.size ≤ 1048576 := by omega
  clear hbig0
  by_cases hbig1 : 1048576 < a1.size
  · have hb : (1048576 : Int) < (a1.size : Int) := by omega
    go_enter Try.func6, Try.ntmps6
    go_wp2
    go_ret
    exact ⟨rfl, Below.refl _ _⟩
  have hb1 : (a1.size : Int) ≤ 1048576 := by omega
  have hs1 : a1.size ≤ 1048576 := by omega
  clear hbig1
  go_enter Try.func6, Try.ntmps6
  go_wp2_with fail
  refine (sp_BetweenRows a0 a1 _ hs0 hs1).mono ?_
  rintro e x1 ⟨rfl, hb_x1⟩
  have sz_x1 := hb_x1.size
  have ACC := hb_x1
  clear hb_x1
  go_wp2_with fail
  refine (im_BetweenRows a0 a1 _ hs0 hs1).mono ?_
  rintro e x2 ⟨rfl, hb_x2⟩
  have sz_x2 := hb_x2.size
  replace ACC := ACC.trans (hb_x2.mono ACC.size)
  clear hb_x2
  go_wp2
  go_ret
  exact ⟨rfl, ACC⟩
end Go.Proofs.Ytgpjbmlemnjhfaa
