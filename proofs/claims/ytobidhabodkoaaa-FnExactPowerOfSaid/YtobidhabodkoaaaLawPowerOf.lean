/- FnExactPowerOf returns true at every string and int. No condition. -/
import Derived.Test.YtobidhabodkoaaaWalkP
namespace Go.Proofs.Ytobidhabodkoaaa
open Go.RowKit
set_option linter.unusedVariables false

set_option maxRecDepth 100000 in
set_option maxHeartbeats 400000 in
theorem law_FnExactPowerOf (a0 : ByteArray) (a1 : Int) (w0 : a0.size ≤ maxLen) (w1 : (Lit.int .i64 a1).wf = true) (w : World) :
    Calls Try.prog 12 #[.string a0, .int .i64 a1] w fun e w' => e = .returned (.bool true) ∧ Below w.heap.size w w' := by
  by_cases hbig : 1048576 < a0.size
  · have hb : (1048576 : Int) < (a0.size : Int) := by omega
    go_enter Try.func12, Try.ntmps12
    go_wp2
    go_ret
    exact ⟨rfl, Below.refl _ _⟩
  have hb : (a0.size : Int) ≤ 1048576 := by omega
  clear hbig
  by_cases hr : rowB a0 = true
  · have hrow : IsRow (bs a0) := by simpa [rowB] using hr
    have Hrow := Lib.hid hrow
    clear hrow
    by_cases hk : -1000 ≤ a1 ∧ a1 ≤ 1000
    · obtain ⟨k1, k2⟩ := hk
      have hin : inB a1 (-1000) 1000 = true := inB_true k1 k2
      go_enter Try.func12, Try.ntmps12
      go_wp2_with (first | (go_at_call 31; go_in) | (go_at_call 47; refine (l1Row_any _ _ w0).mono ?_; rintro e w' ⟨rfl, n, rfl⟩) | (go_at_call 43; refine (l1In_any _ _ _ _).mono ?_; rintro e w' ⟨rfl, rfl⟩) | (go_at_call 63; refine (l1Power_any _ _ _ Hrow.out k1 k2).mono ?_; rintro e w2 ⟨rfl, hb2⟩) | (go_at_call 32; refine (PowerOf_good _ _ _ w0 Hrow.out k1 k2).mono ?_; rintro e w3 ⟨rfl, hb3⟩))
      go_ret
      exact ⟨rfl, ((below_drewN (Below.refl _ _) _).trans (hb2.mono (by simp))).trans (hb3.mono hb2.size)⟩
    · have hin : inB a1 (-1000) 1000 = false := inB_false (by omega)
      rcases (show a1 < -1000 ∨ 1000 < a1 by omega) with h | h
      all_goals
        clear hk
        go_enter Try.func12, Try.ntmps12
        go_wp2_with (first | (go_at_call 31; go_in) | (go_at_call 32; go_in) | (go_at_call 47; refine (l1Row_any _ _ w0).mono ?_; rintro e w' ⟨rfl, n, rfl⟩) | (go_at_call 43; refine (l1In_any _ _ _ _).mono ?_; rintro e w' ⟨rfl, rfl⟩) | (go_at_call 18; refine (GoodRow_any _ _ w0).mono ?_; rintro e w' ⟨rfl, rfl⟩))
        go_ret
        exact ⟨rfl, below_drewN (Below.refl _ _) _⟩
  · have hr' : rowB a0 = false := by simpa using hr
    clear hr
    go_enter Try.func12, Try.ntmps12
    go_wp2_with (first | (go_at_call 31; go_in) | (go_at_call 32; go_in) | (go_at_call 47; refine (l1Row_any _ _ w0).mono ?_; rintro e w' ⟨rfl, n, rfl⟩) | (go_at_call 18; refine (GoodRow_any _ _ w0).mono ?_; rintro e w' ⟨rfl, rfl⟩))
    go_ret
    exact ⟨rfl, below_drewN (Below.refl _ _) _⟩
end Go.Proofs.Ytobidhabodkoaaa
