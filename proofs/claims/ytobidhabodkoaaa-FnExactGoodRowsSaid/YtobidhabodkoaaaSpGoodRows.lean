/- GoodRows, of the reference and of the program: what each returns. -/
import Derived.Test.YtobidhabodkoaaaWalkG
namespace Go.Proofs.Ytobidhabodkoaaa
open Go.RowKit
set_option linter.unusedVariables false

theorem max_of_small {ss : List ByteArray} (h : ∀ s ∈ ss, s.size ≤ 1048576) : ∀ s ∈ ss, s.size ≤ maxLen := fun s hs => by have := h s hs; unfold maxLen; omega
set_option maxRecDepth 100000 in
theorem sp_GoodRows (A : Option Addr) (n c : Nat) (ss : List ByteArray) (W : World) (hr : Rd W A n (strsV ss)) (hz : ∀ s ∈ ss, s.size ≤ 1048576) (hl : ss.length ≤ 1048576) :
    Calls Try.prog 39 #[.slice A n c] W fun e w' => e = .returned (.bool (rowsB ss)) ∧ Below W.heap.size W w' := by
  have Hr := Lib.hid hr
  have Hz := Lib.hid (max_of_small hz)
  clear hr hz
  go_enter Try.func39, Try.ntmps39
  go_wp2_with (go_at_call 69; refine (l6Rows_any _ _ _ _ _ Hr.out Hz.out).mono ?_; rintro e w' ⟨rfl, d, rfl⟩)
  go_ret
  exact ⟨rfl, below_drewN' (Below.refl _ _) _⟩
theorem im_GoodRows (A : Option Addr) (n c : Nat) (ss : List ByteArray) (W : World) (hr : Rd W A n (strsV ss)) (hz : ∀ s ∈ ss, s.size ≤ 1048576) (hl : ss.length ≤ 1048576) :
    Calls Try.prog 41 #[.slice A n c] W fun e w' => e = .returned (.bool (rowsB ss)) ∧ Below W.heap.size W w' :=
  (GoodRows_any A n c ss W hr (max_of_small hz)).mono fun e w' ⟨he, hw⟩ => ⟨he, hw ▸ Below.refl _ _⟩
end Go.Proofs.Ytobidhabodkoaaa
