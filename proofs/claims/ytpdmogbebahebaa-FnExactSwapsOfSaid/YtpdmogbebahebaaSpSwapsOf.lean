/- SwapsOf, of the reference and of the program: what each returns. -/
import Derived.Test.YtpdmogbebahebaaWalkR
namespace Go.Proofs.Ytpdmogbebahebaa
open Go.RowKit
set_option linter.unusedVariables false

noncomputable def out_SwapsOf (n : Int) (s : ByteArray) : List Int := if chB n s = true then swI n s else []
theorem swF_length (S : Int → Bool) : ∀ (k : Nat) (p : Int), (swF S k p).length ≤ k
  | 0, _ => by simp [swF]
  | 1, p => by
    rw [swF]; split <;> simp
  | k + 2, p => by
    have h1 := swF_length S (k + 1) (p + 1)
    have h2 := swF_length S k (p + 2)
    rw [swF]; split
    · omega
    · rw [List.length_cons]; omega
theorem len_SwapsOf (n : Int) (s : ByteArray) : (out_SwapsOf n s).length ≤ 4194304 := by
  unfold out_SwapsOf
  split
  · rename_i h; have := ch_stage h; have := swF_length (stayB s) (n - 1).toNat 1; unfold swI; omega
  · simp
set_option maxRecDepth 100000 in
set_option maxHeartbeats 1000000 in
theorem sp_SwapsOf (n : Int) (s : ByteArray) (W : World) (hn : (Lit.int .i64 n).wf = true) (hs : s.size ≤ 1048576) :
    Calls Try.prog 28 #[.int .i64 n, .string s] W (RetSB 3 (intsV (out_SwapsOf n s)) (chB n s) W) := by
  cases hc : chB n s with
  | true =>
    have E : Hid (out_SwapsOf n s = swI n s) := by unfold Hid out_SwapsOf; rw [hc]; simp
    have HC : Hid (∀ W, Calls Try.prog 60 #[.int .i64 n, .string s] W (RetS 3 (intsV (swI n s)) W)) := fun W => l2Swaps_any n s W hc
    go_enter Try.func28, Try.ntmps28
    go_wp2_with fail
    refine (l2Change_any n s W (by unfold maxLen; omega)).mono ?_
    rintro e w' ⟨rfl, rfl⟩
    go_wp2_with fail
    refine (HC.out W).mono ?_
    rintro e w1 ⟨A1, n1, c1, rfl, ho1, hb1⟩
    go_wp2
    go_ret2
    refine ⟨A1, n1, c1, rfl, ?_, hb1⟩
    rw [E.out]; exact ho1
  | false =>
    have E : Hid (out_SwapsOf n s = []) := by unfold Hid out_SwapsOf; rw [hc]; simp
    go_enter Try.func28, Try.ntmps28
    go_wp2_with fail
    refine (l2Change_any n s W (by unfold maxLen; omega)).mono ?_
    rintro e w' ⟨rfl, rfl⟩
    go_wp2
    go_ret2
    refine ⟨none, 0, 0, rfl, ?_, Below.refl _ _⟩
    rw [E.out]; exact Own.nil _ _ _ _
set_option maxRecDepth 100000 in
set_option maxHeartbeats 1000000 in
theorem im_SwapsOf (n : Int) (s : ByteArray) (W : World) (hn : (Lit.int .i64 n).wf = true) (hs : s.size ≤ 1048576) :
    Calls Try.prog 29 #[.int .i64 n, .string s] W (RetSB 3 (intsV (out_SwapsOf n s)) (chB n s) W) := by
  cases hc : chB n s with
  | true =>
    have E : Hid (out_SwapsOf n s = swI n s) := by unfold Hid out_SwapsOf; rw [hc]; simp
    have HC : Hid (∀ W, Calls Try.prog 61 #[.int .i64 n, .string s] W (RetS 3 (intsV (swI n s)) W)) := fun W => swapsOf_any n s W hc
    go_enter Try.func29, Try.ntmps29
    go_wp2_with fail
    refine (GoodChange_any n s W (by omega)).mono ?_
    rintro e w0 ⟨rfl, hb0⟩
    go_wp2_with fail
    refine (HC.out w0).mono ?_
    rintro e w1 ⟨A1, n1, c1, rfl, ho1, hb1⟩
    go_wp2
    go_ret2
    refine ⟨A1, n1, c1, rfl, ?_, hb0.trans (hb1.mono hb0.size)⟩
    rw [E.out]; exact ho1.mono hb0.size (Nat.le_refl _)
  | false =>
    have E : Hid (out_SwapsOf n s = []) := by unfold Hid out_SwapsOf; rw [hc]; simp
    go_enter Try.func29, Try.ntmps29
    go_wp2_with fail
    refine (GoodChange_any n s W (by omega)).mono ?_
    rintro e w0 ⟨rfl, hb0⟩
    go_wp2
    go_ret2
    refine ⟨none, 0, 0, rfl, ?_, hb0⟩
    rw [E.out]; exact Own.nil _ _ _ _
end Go.Proofs.Ytpdmogbebahebaa
