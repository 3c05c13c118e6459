/- AllChanges, of the reference and of the program: what each returns. -/
import Derived.Test.YtajmjfekddgelaaWalkFl
import Derived.Test.YtajmjfekddgelaaWalkAl
namespace Go.Proofs.Ytajmjfekddgelaa
open Go.RowKit
set_option linter.unusedVariables false

noncomputable def out_AllChanges (n : Int) : List ByteArray := if inB n 3 8 = true then srt (frT n.toNat (frL n.toNat n.toNat 1)) else []
noncomputable def ok_AllChanges (n : Int) : Bool := inB n 3 8
theorem len_AllChanges (n : Int) : (out_AllChanges n).length ≤ 4194304 := by
  unfold out_AllChanges
  split
  · rename_i h
    have h38 : 3 ≤ n ∧ n ≤ 8 := by simpa [inB] using h
    rw [srt_len]
    unfold frT
    rw [List.length_map]
    refine Nat.le_trans (List.length_filter_le _ _) ?_
    rw [List.length_map]
    refine Nat.le_trans (frL_len _ _ _) ?_
    exact Nat.le_trans (Nat.pow_le_pow_right (by omega) (show n.toNat ≤ 22 by omega)) (by decide)
  · simp
theorem alT_frT (m : Nat) (h3 : 3 ≤ m) (h8 : m ≤ 8) : srt (alT m (2 ^ m)) = srt (frT m (frL m m 1)) := all_srt m h3 h8
set_option maxRecDepth 100000 in
set_option maxHeartbeats 1000000 in
theorem sp_AllChanges (n : Int) (W : World) (hn : (Lit.int .i64 n).wf = true) :
    Calls Try.prog 16 #[.int .i64 n] W (RetSB 9 (strsV (out_AllChanges n)) (ok_AllChanges n) W) := by
  have HI := Lib.hid (l1In_any n 3 8 W)
  cases hc : inB n 3 8 with
  | true =>
    have h38 : 3 ≤ n ∧ n ≤ 8 := by simpa [inB] using hc
    obtain ⟨m, rfl⟩ : ∃ m : Nat, n = (m : Int) := ⟨n.toNat, by omega⟩
    have E : Hid (out_AllChanges m = srt (frT m (frL m m 1)) ∧ ok_AllChanges m = true) := by unfold Hid out_AllChanges ok_AllChanges; rw [hc]; simp
    have HC := Lib.hid (l2All_any m W (by omega) (by omega))
    rw [hc] at HI
    rw [E.out.1, E.out.2]
    clear hc E
    go_enter Try.func16, Try.ntmps16
    go_wp2_with fail
    refine HI.out.mono ?_
    rintro e w' ⟨rfl, rfl⟩
    go_wp2_with fail
    refine HC.out.mono ?_
    rintro e w1 ⟨A1, n1, c1, rfl, ho1, hb1⟩
    go_wp2
    go_ret2
    exact ⟨A1, n1, c1, rfl, ho1, hb1⟩
  | false =>
    have E : Hid (out_AllChanges n = [] ∧ ok_AllChanges n = false) := by unfold Hid out_AllChanges ok_AllChanges; rw [hc]; simp
    rw [hc] at HI
    rw [E.out.1, E.out.2]
    clear hc E
    go_enter Try.func16, Try.ntmps16
    go_wp2_with fail
    refine HI.out.mono ?_
    rintro e w' ⟨rfl, rfl⟩
    go_wp2
    go_ret2
    exact ⟨none, 0, 0, rfl, Own.nil _ _ _ _, Below.refl _ _⟩
set_option maxRecDepth 100000 in
set_option maxHeartbeats 1000000 in
theorem im_AllChanges (n : Int) (W : World) (hn : (Lit.int .i64 n).wf = true) :
    Calls Try.prog 17 #[.int .i64 n] W (RetSB 9 (strsV (out_AllChanges n)) (ok_AllChanges n) W) := by
  cases hc : inB n 3 8 with
  | true =>
    have h38 : 3 ≤ n ∧ n ≤ 8 := by simpa [inB] using hc
    obtain ⟨m, rfl⟩ : ∃ m : Nat, n = (m : Int) := ⟨n.toNat, by omega⟩
    have E : out_AllChanges m = srt (alT m (2 ^ m)) ∧ ok_AllChanges m = true := by
      unfold out_AllChanges ok_AllChanges; rw [hc, alT_frT m (by omega) (by omega)]; simp
    rw [E.1, E.2]
    exact im_all m W (by omega) (by omega)
  | false =>
    have E : Hid (out_AllChanges n = [] ∧ ok_AllChanges n = false) := by unfold Hid out_AllChanges ok_AllChanges; rw [hc]; simp
    have HI := Lib.hid (isStage_any n W)
    rw [hc] at HI
    rw [E.out.1, E.out.2]
    clear hc E
    go_enter Try.func17, Try.ntmps17
    go_wp2_with fail
    refine HI.out.mono ?_
    rintro e w' ⟨rfl, rfl⟩
    go_wp2
    go_ret2
    exact ⟨none, 0, 0, rfl, Own.nil _ _ _ _, Below.refl _ _⟩
end Go.Proofs.Ytajmjfekddgelaa
