/- FnExactRowOf returns true at every two ints. No condition. -/
import Derived.Test.YtobidhabodkoaaaWalkF
namespace Go.Proofs.Ytobidhabodkoaaa
open Go.RowKit
set_option linter.unusedVariables false

set_option maxHeartbeats 1000000 in
theorem law_FnExactRowOf (a0 a1 : Int) (w0 : (Lit.int .i64 a0).wf = true) (w1 : (Lit.int .i64 a1).wf = true) (w : World) :
    Calls Try.prog 6 #[.int .i64 a0, .int .i64 a1] w fun e w' => e = .returned (.bool true) ∧ Below w.heap.size w w' := by
  by_cases hs : 3 ≤ a0 ∧ a0 ≤ 8
  · obtain ⟨h3, h8⟩ := hs
    have h0 : 0 ≤ a0 := by omega
    have hin : inB a0 3 8 = true := inB_true h3 h8
    have hf8 := factN_8 (n := a0.toNat) (by omega)
    by_cases hk : 0 ≤ a1 ∧ a1 < (factN a0.toNat : Nat)
    · obtain ⟨k0, k1⟩ := hk
      have hC : ∀ W, Calls Try.prog 50 #[.int .i64 a0, .int .i64 a1] W fun e w' => e = .returned (.string (mkS (unrank a0.toNat (roundsL a0.toNat) a1.toNat))) ∧ Below W.heap.size W w' := fun W => rowOf_any a0 a1 W h3 h8 k0 k1
      have HC := Lib.hid hC
      have hS : ∀ W, Calls Try.prog 19 #[.int .i64 a0, .int .i64 a1] W fun e w' => e = .returned (.tuple #[.string (mkS (unrank a0.toNat (roundsL a0.toNat) a1.toNat)), .bool true]) ∧ ∃ d, w' = W.drewN d := fun W => sRowOf_good a0 a1 W h3 h8 k0 k1
      have HS := Lib.hid hS
      obtain ⟨F, hF⟩ : ∃ F : Nat, F = factN a0.toNat := ⟨_, rfl⟩
      have hFC : ∀ W, Calls Try.prog 49 #[.int .i64 a0] W fun e w' => e = .returned (.int .i64 (F : Nat)) ∧ W = w' := fun W => by rw [hF]; exact factorial_any a0 W h0 h8
      have HFC := Lib.hid hFC
      rw [← hF] at k1
      obtain ⟨r, hr⟩ : ∃ r : ByteArray, r = mkS (unrank a0.toNat (roundsL a0.toNat) a1.toNat) := ⟨_, rfl⟩
      rw [← hr] at HC HS
      clear hC hS hFC hF hr hf8
      go_enter Try.func6, Try.ntmps6
      go_wp2_with (first | (go_at_call 19; refine (HS.out _).mono ?_; rintro e w' ⟨rfl, d, rfl⟩) | (go_at_call 20; go_in) | (go_at_call 45; refine (isStage_any _ _).mono ?_; rintro e w' ⟨rfl, rfl⟩) | (go_at_call 49; refine (HFC.out _).mono ?_; rintro e w' ⟨rfl, rfl⟩) | (go_at_call 50; refine (HC.out _).mono ?_; rintro e w2 ⟨rfl, hb2⟩))
      go_ret
      exact ⟨rfl, (below_drewN (Below.refl _ _) _).trans hb2⟩
    · obtain ⟨F, hF⟩ : ∃ F : Nat, F = factN a0.toNat := ⟨_, rfl⟩
      rw [← hF] at hk hf8
      have hFC : ∀ W, Calls Try.prog 49 #[.int .i64 a0] W fun e w' => e = .returned (.int .i64 (F : Nat)) ∧ W = w' := fun W => by rw [hF]; exact factorial_any a0 W h0 h8
      have HFC := Lib.hid hFC
      have hGC : ∀ W, Calls Try.prog 48 #[.int .i64 a0] W fun e w' => e = .returned (.int .i64 (F : Nat)) ∧ W = w' := fun W => by rw [hF]; exact l1Fact_any a0 W h0 h8
      have HGC := Lib.hid hGC
      have hin2 : inB a1 0 ((F : Int) - 1) = false := inB_false (by omega)
      clear hFC hGC hF
      rcases (show a1 < 0 ∨ (0 ≤ a1 ∧ (F : Int) ≤ a1) by omega) with h | ⟨h, h'⟩
      all_goals
        clear hk
        go_enter Try.func6, Try.ntmps6
        go_wp2_with (first | (go_at_call 19; go_in) | (go_at_call 20; go_in) | (go_at_call 45; refine (isStage_any _ _).mono ?_; rintro e w' ⟨rfl, rfl⟩) | (go_at_call 43; refine (l1In_any _ _ _ _).mono ?_; rintro e w' ⟨rfl, rfl⟩) | (go_at_call 49; refine (HFC.out _).mono ?_; rintro e w' ⟨rfl, rfl⟩) | (go_at_call 48; refine (HGC.out _).mono ?_; rintro e w' ⟨rfl, rfl⟩))
        go_ret
        exact ⟨rfl, Below.refl _ _⟩
  · have hin : inB a0 3 8 = false := inB_false (by omega)
    clear hs
    go_enter Try.func6, Try.ntmps6
    go_wp2_with (first | (go_at_call 19; go_in) | (go_at_call 20; go_in) | (go_at_call 43; refine (l1In_any _ _ _ _).mono ?_; rintro e w' ⟨rfl, rfl⟩) | (go_at_call 45; refine (isStage_any _ _).mono ?_; rintro e w' ⟨rfl, rfl⟩))
    go_ret
    exact ⟨rfl, Below.refl _ _⟩
end Go.Proofs.Ytobidhabodkoaaa
