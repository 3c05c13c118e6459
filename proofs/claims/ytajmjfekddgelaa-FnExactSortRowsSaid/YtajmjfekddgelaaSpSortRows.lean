/- SortRows, of the reference and of the program: what each returns. -/
import Derived.Test.YtajmjfekddgelaaWalkG
import Derived.Test.YtajmjfekddgelaaSorto
namespace Go.Proofs.Ytajmjfekddgelaa
open Go.RowKit
set_option linter.unusedVariables false

def out_SortRows (ss : List ByteArray) : List ByteArray := if rowsB ss = true then srt ss else []
theorem len_SortRows (ss : List ByteArray) (hn : ss.length ≤ 1048576) : (out_SortRows ss).length ≤ 4194304 := by
  unfold out_SortRows
  split
  · rw [srt_len]; omega
  · simp
set_option maxRecDepth 100000 in
set_option maxHeartbeats 2000000 in
theorem im_SortRows (A : Option Addr) (n c : Nat) (ss : List ByteArray) (W : World) (hr : Rd W A n (strsV ss)) (hz : ∀ s ∈ ss, s.size ≤ 1048576) (hl : ss.length ≤ 1048576) :
    Calls Try.prog 12 #[.slice A n c] W (RetSB 9 (strsV (out_SortRows ss)) (rowsB ss) W) := by
  have hzm : ∀ s ∈ ss, s.size ≤ maxLen := fun s hs => by have := hz s hs; unfold maxLen; omega
  have HA : Hid (∀ W', Rd W' A n (strsV ss) → Calls Try.prog 28 #[.slice A n c] W' fun e w' => e = .returned (.bool (rowsB ss)) ∧ w' = W') := fun W' h => (GoodRows_any A n c ss W' h hzm).mono fun e w' h => ⟨h.1, h.2.symm⟩
  have HT : Hid (∀ W', Below W.heap.size W W' → Calls Try.prog 29 #[.slice A n c] W' (RetS 9 (strsV (srt ss)) W')) := fun W' hb => sorted_any A n c ss W' (by have := hr.slen; omega) (hr.below hb)
  have Hr := Lib.hid hr
  obtain ⟨ra, hra⟩ : ∃ r, r = rowsB ss := ⟨_, rfl⟩
  have EN : Hid (ra = false → out_SortRows ss = []) := fun h => by unfold out_SortRows; rw [← hra, h]; simp
  have EY : Hid (ra = true → out_SortRows ss = srt ss) := fun h => by unfold out_SortRows; rw [← hra, if_pos h]
  have HRA := Lib.hid hra
  rw [← hra] at HA
  clear hra hr hz hzm
  cases ra with
  | false =>
    go_enter Try.func12, Try.ntmps12
    go_wp2_with (go_at_call 28; refine (HA.out _ Hr.out).mono ?_; rintro e w1 ⟨rfl, rfl⟩)
    go_ret2
    refine ⟨none, 0, 0, ret_slb HRA.out.symm, ?_, Below.refl _ _⟩
    rw [EN.out (by trivial)]; exact Own.nil _ _ _ _
  | true =>
    go_enter Try.func12, Try.ntmps12
    go_wp2_with first
      | (go_at_call 28; refine (HA.out _ Hr.out).mono ?_; rintro e w1 ⟨rfl, rfl⟩)
      | (go_at_call 29; refine (HT.out _ (Below.refl _ _)).mono ?_; rintro e w2 ⟨A2, n2, c2, rfl, ho2, hb2⟩)
    go_ret2
    refine ⟨A2, n2, c2, ret_slb HRA.out.symm, ?_, hb2⟩
    rw [EY.out (by trivial)]; exact ho2
set_option maxRecDepth 100000 in
set_option maxHeartbeats 2000000 in
theorem sp_SortRows (A : Option Addr) (n c : Nat) (ss : List ByteArray) (W : World) (hr : Rd W A n (strsV ss)) (hz : ∀ s ∈ ss, s.size ≤ 1048576) (hl : ss.length ≤ 1048576) :
    Calls Try.prog 10 #[.slice A n c] W (RetSB 9 (strsV (out_SortRows ss)) (rowsB ss) W) := by
  have hzm : ∀ s ∈ ss, s.size ≤ maxLen := fun s hs => by have := hz s hs; unfold maxLen; omega
  have HA : Hid (∀ W', Rd W' A n (strsV ss) → Calls Try.prog 26 #[.slice A n c] W' fun e w' => e = .returned (.bool (rowsB ss)) ∧ ∃ d, w' = W'.drewN d) := fun W' h => l6Rows_any A n c ss W' h hzm
  have HT : Hid (∀ W', Below W.heap.size W W' → Calls Try.prog 27 #[.slice A n c] W' (RetS 9 (strsV (srt ss)) W')) := fun W' hb => l6Sort_any n A n c ss W' (Nat.le_refl _) (by have := hr.slen; omega) (hr.below hb)
  have Hr := Lib.hid hr
  obtain ⟨ra, hra⟩ : ∃ r, r = rowsB ss := ⟨_, rfl⟩
  have EN : Hid (ra = false → out_SortRows ss = []) := fun h => by unfold out_SortRows; rw [← hra, h]; simp
  have EY : Hid (ra = true → out_SortRows ss = srt ss) := fun h => by unfold out_SortRows; rw [← hra, if_pos h]
  have HRA := Lib.hid hra
  rw [← hra] at HA
  clear hra hr hz hzm
  cases ra with
  | false =>
    go_enter Try.func10, Try.ntmps10
    go_wp2_with (go_at_call 26; refine (HA.out _ Hr.out).mono ?_; rintro e w1 ⟨rfl, d, rfl⟩)
    go_ret2
    refine ⟨none, 0, 0, ret_slb HRA.out.symm, ?_, below_drewN' (Below.refl _ _) _⟩
    rw [EN.out (by trivial)]; exact Own.nil _ _ _ _
  | true =>
    go_enter Try.func10, Try.ntmps10
    go_wp2_with first
      | (go_at_call 26; refine (HA.out _ Hr.out).mono ?_; rintro e w1 ⟨rfl, d, rfl⟩)
      | (go_at_call 27; refine (HT.out _ (below_drewN' (Below.refl _ _) _)).mono ?_; rintro e w2 ⟨A2, n2, c2, rfl, ho2, hb2⟩)
    go_ret2
    refine ⟨A2, n2, c2, ret_slb HRA.out.symm, ?_, (below_drewN' (Below.refl _ _) d : Below W.heap.size W _).trans hb2⟩
    rw [EY.out (by trivial)]; exact ho2
end Go.Proofs.Ytajmjfekddgelaa
