/- FnExactTimes returns true at every two strings. No condition. -/
import Derived.Test.YtobidhabodkoaaaWalkB
namespace Go.Proofs.Ytobidhabodkoaaa
open Go.RowKit
set_option linter.unusedVariables false

set_option maxHeartbeats 400000 in
theorem law_FnExactTimes (a0 a1 : ByteArray) (w0 : a0.size ≤ maxLen) (w1 : a1.size ≤ maxLen) (w : World) :
    Calls Try.prog 8 #[.string a0, .string a1] w fun e w' => e = .returned (.bool true) ∧ Below w.heap.size w w' := by
  by_cases hbig : 1048576 < a0.size
  · have hb : (1048576 : Int) < (a0.size : Int) := by omega
    go_enter Try.func8, Try.ntmps8
    go_wp2
    go_ret
    exact ⟨rfl, Below.refl _ _⟩
  have hb : (a0.size : Int) ≤ 1048576 := by omega
  clear hbig
  by_cases hbig : 1048576 < a1.size
  · have hb : (1048576 : Int) < (a1.size : Int) := by omega
    go_enter Try.func8, Try.ntmps8
    go_wp2
    go_ret
    exact ⟨rfl, Below.refl _ _⟩
  have hb1 : (a1.size : Int) ≤ 1048576 := by omega
  clear hbig
  by_cases hr : rowB a0 = true
  · have hrow : IsRow (bs a0) := by simpa [rowB] using hr
    have Hrow := Lib.hid hrow
    clear hrow
    by_cases h2 : rowB a1 = true ∧ a0.size = a1.size
    · obtain ⟨hr1, hs⟩ := h2
      have hrow1 : IsRow (bs a1) := by simpa [rowB] using hr1
      have Hrow1 := Lib.hid hrow1
      have Hs := Lib.hid hs
      have e1 : twoB a0 a1 = true := by simp [twoB, hr, hr1, hs]
      have e2 : rowOfB (a0.size : Int) a1 = true := by simp [rowOfB, hr1, hs]
      clear hrow1 hs
      go_enter Try.func8, Try.ntmps8
      go_wp2_with (first | (go_at_call 23; go_in) | (go_at_call 24; go_in) | (go_at_call 53; refine (l1Two_any _ _ _ w0 w1).mono ?_; rintro e w' ⟨rfl, n, rfl⟩) | (go_at_call 18; refine (GoodRow_any _ _ w0).mono ?_; rintro e w' ⟨rfl, rfl⟩) | (go_at_call 55; refine (isRowOf_any _ _ _ w1).mono ?_; rintro e w' ⟨rfl, rfl⟩) | (go_at_call 54; refine (l1Times_any _ _ _ Hrow.out Hrow1.out Hs.out).mono ?_; rintro e w' ⟨rfl, rfl⟩) | (go_at_call 56; refine (times_any _ _ _ Hrow.out Hrow1.out Hs.out).mono ?_; rintro e w' ⟨rfl, hbel⟩))
      go_ret
      exact ⟨rfl, (below_drewN (Below.refl _ _) _).trans hbel⟩
    · have e1 : twoB a0 a1 = false := by simp only [twoB, hr, Bool.true_and, Bool.and_eq_false_iff, decide_eq_false_iff_not]; rcases Classical.em (rowB a1 = true) with h | h; exact .inr (fun e => h2 ⟨h, e⟩); exact .inl (by simpa using h)
      have e2 : rowOfB (a0.size : Int) a1 = false := by simp only [rowOfB, Bool.and_eq_false_iff, decide_eq_false_iff_not]; rcases Classical.em (rowB a1 = true) with h | h; exact .inl (fun e => h2 ⟨h, by omega⟩); exact .inr (by simpa using h)
      clear h2
      go_enter Try.func8, Try.ntmps8
      go_wp2_with (first | (go_at_call 23; go_in) | (go_at_call 24; go_in) | (go_at_call 53; refine (l1Two_any _ _ _ w0 w1).mono ?_; rintro e w' ⟨rfl, n, rfl⟩) | (go_at_call 18; refine (GoodRow_any _ _ w0).mono ?_; rintro e w' ⟨rfl, rfl⟩) | (go_at_call 55; refine (isRowOf_any _ _ _ w1).mono ?_; rintro e w' ⟨rfl, rfl⟩))
      go_ret
      exact ⟨rfl, (below_drewN (Below.refl _ _) _)⟩
  · have hr' : rowB a0 = false := by simpa using hr
    have e1 : twoB a0 a1 = false := by simp [twoB, hr']
    clear hr
    go_enter Try.func8, Try.ntmps8
    go_wp2_with (first | (go_at_call 23; go_in) | (go_at_call 24; go_in) | (go_at_call 53; refine (l1Two_any _ _ _ w0 w1).mono ?_; rintro e w' ⟨rfl, n, rfl⟩) | (go_at_call 18; refine (GoodRow_any _ _ w0).mono ?_; rintro e w' ⟨rfl, rfl⟩) | (go_at_call 55; refine (isRowOf_any _ _ _ w1).mono ?_; rintro e w' ⟨rfl, rfl⟩))
    go_ret
    exact ⟨rfl, (below_drewN (Below.refl _ _) _)⟩
end Go.Proofs.Ytobidhabodkoaaa
