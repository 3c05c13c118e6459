/- GoodChange, of the reference and of the program: what each returns. -/
import Derived.Test.YtpdmogbebahebaaWalkH
namespace Go.Proofs.Ytpdmogbebahebaa
open Go.RowKit
set_option linter.unusedVariables false

theorem small_max {s : ByteArray} (h : s.size ≤ 1048576) : s.size ≤ maxLen := by unfold maxLen; omega
set_option maxRecDepth 100000 in
theorem sp_GoodChange (n : Int) (s : ByteArray) (W : World) (hn : (Lit.int .i64 n).wf = true) (hs : s.size ≤ 1048576) :
    Calls Try.prog 15 #[.int .i64 n, .string s] W fun e w' => e = .returned (.bool (chB n s)) ∧ Below W.heap.size W w' := by
  have hm := small_max hs
  go_enter Try.func15, Try.ntmps15
  go_wp2_with (go_at_call 47; refine (l2Change_any _ _ _ hm).mono ?_; rintro e w' ⟨rfl, rfl⟩)
  go_ret
  exact ⟨rfl, Below.refl _ _⟩
theorem im_GoodChange (n : Int) (s : ByteArray) (W : World) (hn : (Lit.int .i64 n).wf = true) (hs : s.size ≤ 1048576) :
    Calls Try.prog 16 #[.int .i64 n, .string s] W fun e w' => e = .returned (.bool (chB n s)) ∧ Below W.heap.size W w' := GoodChange_any n s W (by omega)
end Go.Proofs.Ytpdmogbebahebaa
