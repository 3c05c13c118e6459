/- FnExactOrderOf returns true at every string. No condition. -/
import Derived.Test.YtobidhabodkoaaaWalkE
namespace Go.Proofs.Ytobidhabodkoaaa
open Go.RowKit
set_option linter.unusedVariables false

set_option maxRecDepth 100000 in
set_option maxHeartbeats 400000 in
theorem law_FnExactOrderOf (a0 : ByteArray) (w0 : a0.size ≤ maxLen) (w : World) :
    Calls Try.prog 10 #[.string a0] w fun e w' => e = .returned (.bool true) ∧ Below w.heap.size w w' := by
  by_cases hbig : 1048576 < a0.size
  · have hb : (1048576 : Int) < (a0.size : Int) := by omega
    go_enter Try.func10, Try.ntmps10
    go_wp2
    go_ret
    exact ⟨rfl, Below.refl _ _⟩
  · have hb : (a0.size : Int) ≤ 1048576 := by omega
    clear hbig
    by_cases hr : rowB a0 = true
    · have hrow : IsRow (bs a0) := by simpa [rowB] using hr
      obtain ⟨K, hK, hKb⟩ := exists_ord hrow
      have HK := Lib.hid hK
      have Hrow := Lib.hid hrow
      clear hrow hK
      go_enter Try.func10, Try.ntmps10
      go_wp2_with (first | (go_at_call 27; go_in) | (go_at_call 28; go_in) | (go_at_call 47; refine (l1Row_any _ _ w0).mono ?_; rintro e w' ⟨rfl, n, rfl⟩) | (go_at_call 18; refine (GoodRow_any _ _ w0).mono ?_; rintro e w' ⟨rfl, rfl⟩) | (go_at_call 59; refine (l1Order_any _ K _ Hrow.out HK.out hKb).mono ?_; rintro e w' ⟨rfl, rfl⟩) | (go_at_call 60; refine (powers_any _ K _ Hrow.out HK.out hKb).mono ?_; rintro e w2 ⟨A, c, rfl, ho, hb2⟩))
      go_ret
      exact ⟨rfl, (below_drewN (Below.refl _ _) _).trans hb2⟩
    · have hr' : rowB a0 = false := by simpa using hr
      clear hr
      go_enter Try.func10, Try.ntmps10
      go_wp2_with (first | (go_at_call 27; go_in) | (go_at_call 28; go_in) | (go_at_call 47; refine (l1Row_any _ _ w0).mono ?_; rintro e w' ⟨rfl, n, rfl⟩) | (go_at_call 18; refine (GoodRow_any _ _ w0).mono ?_; rintro e w' ⟨rfl, rfl⟩))
      go_ret
      exact ⟨rfl, below_drewN (Below.refl _ _) _⟩
end Go.Proofs.Ytobidhabodkoaaa
