/- FnExactPlaceOfRow returns true at every string. No condition. -/
import Derived.Test.YtobidhabodkoaaaWalkD
namespace Go.Proofs.Ytobidhabodkoaaa
open Go.RowKit
set_option linter.unusedVariables false

set_option maxHeartbeats 400000 in
theorem law_FnExactPlaceOfRow (a0 : ByteArray) (w0 : a0.size ≤ maxLen) (w : World) :
    Calls Try.prog 11 #[.string a0] w fun e w' => e = .returned (.bool true) ∧ Below w.heap.size w w' := by
  by_cases hbig : 1048576 < a0.size
  · have hb : (1048576 : Int) < (a0.size : Int) := by omega
    go_enter Try.func11, Try.ntmps11
    go_wp2
    go_ret
    exact ⟨rfl, Below.refl _ _⟩
  · have hb : (a0.size : Int) ≤ 1048576 := by omega
    clear hbig
    by_cases hr : rowB a0 = true
    · have hrow : IsRow (bs a0) := by simpa [rowB] using hr
      have Hrow := Lib.hid hrow
      have h8 : a0.size ≤ 8 := by have := hrow.2.1; rwa [size_bs] at this
      clear hrow
      go_enter Try.func11, Try.ntmps11
      go_wp2_with (first | (go_at_call 29; go_in) | (go_at_call 30; go_in) | (go_at_call 47; refine (l1Row_any _ _ w0).mono ?_; rintro e w' ⟨rfl, n, rfl⟩) | (go_at_call 18; refine (GoodRow_any _ _ w0).mono ?_; rintro e w' ⟨rfl, rfl⟩) | (go_at_call 61; refine (l1Place_any _ _ h8).mono ?_; rintro e w1 ⟨rfl, n1, rfl⟩) | (go_at_call 62; refine (rankOf_any _ _ h8).mono ?_; rintro e w2 ⟨rfl, n2, rfl⟩))
      go_ret
      exact ⟨rfl, below_drewN (Below.refl _ _) _⟩
    · have hr' : rowB a0 = false := by simpa using hr
      clear hr
      go_enter Try.func11, Try.ntmps11
      go_wp2_with (first | (go_at_call 29; go_in) | (go_at_call 30; go_in) | (go_at_call 47; refine (l1Row_any _ _ w0).mono ?_; rintro e w' ⟨rfl, n, rfl⟩) | (go_at_call 18; refine (GoodRow_any _ _ w0).mono ?_; rintro e w' ⟨rfl, rfl⟩))
      go_ret
      exact ⟨rfl, below_drewN (Below.refl _ _) _⟩
end Go.Proofs.Ytobidhabodkoaaa
