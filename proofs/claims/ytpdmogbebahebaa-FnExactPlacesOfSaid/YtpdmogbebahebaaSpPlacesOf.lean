/- PlacesOf, of the reference and of the program: what each returns. -/
import Derived.Test.YtpdmogbebahebaaWalkR
namespace Go.Proofs.Ytpdmogbebahebaa
open Go.RowKit
set_option linter.unusedVariables false

noncomputable def out_PlacesOf (n : Int) (s : ByteArray) : List Int := if chB n s = true then plsI s else []
theorem len_PlacesOf (n : Int) (s : ByteArray) : (out_PlacesOf n s).length ≤ 4194304 := by
  unfold out_PlacesOf
  split
  · rename_i h; have := (ch_size h).2; have := plsI_len s; omega
  · simp
set_option maxRecDepth 100000 in
set_option maxHeartbeats 1000000 in
theorem sp_PlacesOf (n : Int) (s : ByteArray) (W : World) (hn : (Lit.int .i64 n).wf = true) (hs : s.size ≤ 1048576) :
    Calls Try.prog 19 #[.int .i64 n, .string s] W (RetSB 3 (intsV (out_PlacesOf n s)) (chB n s) W) := by
  cases hc : chB n s with
  | true =>
    have E : Hid (out_PlacesOf n s = plsI s) := by unfold Hid out_PlacesOf; rw [hc]; simp
    have HC : Hid (∀ W, Calls Try.prog 54 #[.int .i64 n, .string s] W (RetS 3 (intsV (plsI s)) W)) := fun W => l2Places_any n s W hc
    go_enter Try.func19, Try.ntmps19
    go_wp2_with fail
    refine (l2Change_any n s W (by unfold maxLen; omega)).mono ?_
    rintro e w' ⟨rfl, rfl⟩
    go_wp2_with fail
    refine (HC.out W).mono ?_
    rintro e w1 ⟨A1, n1, c1, rfl, ho1, hb1⟩
    go_wp2
    go_ret2
    refine ⟨A1, n1, c1, rfl, ?_, hb1⟩
    rw [E.out]; exact ho1
  | false =>
    have E : Hid (out_PlacesOf n s = []) := by unfold Hid out_PlacesOf; rw [hc]; simp
    go_enter Try.func19, Try.ntmps19
    go_wp2_with fail
    refine (l2Change_any n s W (by unfold maxLen; omega)).mono ?_
    rintro e w' ⟨rfl, rfl⟩
    go_wp2
    go_ret2
    refine ⟨none, 0, 0, rfl, ?_, Below.refl _ _⟩
    rw [E.out]; exact Own.nil _ _ _ _
set_option maxRecDepth 100000 in
set_option maxHeartbeats 1000000 in
theorem im_PlacesOf (n : Int) (s : ByteArray) (W : World) (hn : (Lit.int .i64 n).wf = true) (hs : s.size ≤ 1048576) :
    Calls Try.prog 20 #[.int .i64 n, .string s] W (RetSB 3 (intsV (out_PlacesOf n s)) (chB n s) W) := by
  cases hc : chB n s with
  | true =>
    have E : Hid (out_PlacesOf n s = plsI s) := by unfold Hid out_PlacesOf; rw [hc]; simp
    have HC : Hid (∀ W, Calls Try.prog 55 #[.string s] W (RetS 3 (intsV (plsI s)) W)) := fun W => placesOf_any n s W hc
    go_enter Try.func20, Try.ntmps20
    go_wp2_with fail
    refine (GoodChange_any n s W (by omega)).mono ?_
    rintro e w0 ⟨rfl, hb0⟩
    go_wp2_with fail
    refine (HC.out w0).mono ?_
    rintro e w1 ⟨A1, n1, c1, rfl, ho1, hb1⟩
    go_wp2
    go_ret2
    refine ⟨A1, n1, c1, rfl, ?_, hb0.trans (hb1.mono hb0.size)⟩
    rw [E.out]; exact ho1.mono hb0.size (Nat.le_refl _)
  | false =>
    have E : Hid (out_PlacesOf n s = []) := by unfold Hid out_PlacesOf; rw [hc]; simp
    go_enter Try.func20, Try.ntmps20
    go_wp2_with fail
    refine (GoodChange_any n s W (by omega)).mono ?_
    rintro e w0 ⟨rfl, hb0⟩
    go_wp2
    go_ret2
    refine ⟨none, 0, 0, rfl, ?_, hb0⟩
    rw [E.out]; exact Own.nil _ _ _ _
end Go.Proofs.Ytpdmogbebahebaa
