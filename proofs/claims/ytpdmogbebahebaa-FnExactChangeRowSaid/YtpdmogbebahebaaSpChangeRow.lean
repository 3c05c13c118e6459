/- ChangeRow, of the reference and of the program: what each returns. -/
import Derived.Test.YtpdmogbebahebaaWalkV
namespace Go.Proofs.Ytpdmogbebahebaa
open Go.RowKit
set_option linter.unusedVariables false

noncomputable def out_CR (n : Int) (s : ByteArray) : ByteArray := if chB n s = true then crS n s else { data := #[] }
set_option maxRecDepth 100000 in
set_option maxHeartbeats 1000000 in
theorem sp_ChangeRow (n : Int) (s : ByteArray) (W : World) (hn : (Lit.int .i64 n).wf = true) (hs : s.size ≤ 1048576) :
    Calls Try.prog 24 #[.int .i64 n, .string s] W fun e w' => e = .returned (.tuple #[.string (out_CR n s), .bool (chB n s)]) ∧ Below W.heap.size W w' := by
  cases hc : chB n s with
  | true =>
    have E : Hid (out_CR n s = crS n s) := by unfold Hid out_CR; rw [hc]; simp
    have HC := Lib.hid (l2Row_any n s W hc)
    go_enter Try.func24, Try.ntmps24
    go_wp2_with fail
    refine (l2Change_any n s W (by unfold maxLen; omega)).mono ?_
    rintro e w' ⟨rfl, rfl⟩
    go_wp2_with fail
    refine (HC.out).mono ?_
    rintro e w1 ⟨rfl, hb1⟩
    go_wp2
    go_ret2
    exact ⟨ret_sb E.out, hb1⟩
  | false =>
    have E : Hid (out_CR n s = { data := #[] }) := by unfold Hid out_CR; rw [hc]; simp
    go_enter Try.func24, Try.ntmps24
    go_wp2_with fail
    refine (l2Change_any n s W (by unfold maxLen; omega)).mono ?_
    rintro e w' ⟨rfl, rfl⟩
    go_wp2
    go_ret2
    exact ⟨ret_sb E.out, Below.refl _ _⟩
set_option maxRecDepth 100000 in
set_option maxHeartbeats 1000000 in
theorem im_ChangeRow (n : Int) (s : ByteArray) (W : World) (hn : (Lit.int .i64 n).wf = true) (hs : s.size ≤ 1048576) :
    Calls Try.prog 25 #[.int .i64 n, .string s] W fun e w' => e = .returned (.tuple #[.string (out_CR n s), .bool (chB n s)]) ∧ Below W.heap.size W w' := by
  cases hc : chB n s with
  | true =>
    have E : Hid (out_CR n s = crS n s) := by unfold Hid out_CR; rw [hc]; simp
    have HC : Hid (∀ W, Calls Try.prog 57 #[.int .i64 n, .string s] W fun e w' => e = .returned (.string (crS n s)) ∧ Below W.heap.size W w') := fun W => changeRow_any n s W hc
    go_enter Try.func25, Try.ntmps25
    go_wp2_with fail
    refine (GoodChange_any n s W (by omega)).mono ?_
    rintro e w0 ⟨rfl, hb0⟩
    go_wp2_with fail
    refine (HC.out w0).mono ?_
    rintro e w1 ⟨rfl, hb1⟩
    go_wp2
    go_ret2
    exact ⟨ret_sb E.out, hb0.trans (hb1.mono hb0.size)⟩
  | false =>
    have E : Hid (out_CR n s = { data := #[] }) := by unfold Hid out_CR; rw [hc]; simp
    go_enter Try.func25, Try.ntmps25
    go_wp2_with fail
    refine (GoodChange_any n s W (by omega)).mono ?_
    rintro e w0 ⟨rfl, hb0⟩
    go_wp2
    go_ret2
    exact ⟨ret_sb E.out, hb0⟩
end Go.Proofs.Ytpdmogbebahebaa
