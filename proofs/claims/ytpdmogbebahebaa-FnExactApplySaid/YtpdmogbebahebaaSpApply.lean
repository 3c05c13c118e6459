/- Apply, of the reference and of the program: what each returns. -/
import Derived.Test.YtpdmogbebahebaaWalkV
namespace Go.Proofs.Ytpdmogbebahebaa
open Go.RowKit
set_option linter.unusedVariables false

theorem ret_tb2 {b v : ByteArray} {x y : Bool} (h : b = v) (h2 : x = y) : Ending.returned (.tuple #[.string v, .bool y]) = .returned (.tuple #[.string b, .bool x]) := by rw [h, h2]
/-- the row behind a row, under a change -/
noncomputable def apS (r c : ByteArray) : ByteArray := mkS (timesL (bs r) (bs (crS r.size c)))
set_option maxRecDepth 100000 in
set_option maxHeartbeats 1000000 in
theorem l2Apply_any (r c : ByteArray) (W : World) (hr : IsRow (bs r)) (hc : chB r.size c = true) :
    Calls Try.prog 64 #[.string r, .string c] W fun e w' => e = .returned (.string (apS r c)) ∧ Below W.heap.size W w' := by
  have HC := Lib.hid (l2Row_any r.size c W hc)
  have HT : Hid (∀ W, Calls Try.prog 85 #[.string r, .string (crS r.size c)] W fun e w' => e = .returned (.string (apS r c)) ∧ W = w') := fun W => l1Times_any r _ W hr (crS_row hc) (by rw [crS_size]; omega)
  go_enter Try.func64, Try.ntmps64
  go_wp2_with fail
  refine (HC.out).mono ?_
  rintro e w1 ⟨rfl, hb1⟩
  go_wp2_with fail
  refine (HT.out w1).mono ?_
  rintro e w2 ⟨rfl, rfl⟩
  go_wp2
  go_ret
  exact ⟨rfl, hb1⟩
set_option maxRecDepth 100000 in
set_option maxHeartbeats 1000000 in
theorem apply_any (r c : ByteArray) (W : World) (hr : IsRow (bs r)) (hc : chB r.size c = true) :
    Calls Try.prog 69 #[.string r, .string c] W fun e w' => e = .returned (.string (apS r c)) ∧ Below W.heap.size W w' := by
  have HC := Lib.hid (changeRow_any r.size c W hc)
  have HT : Hid (∀ W, Calls Try.prog 86 #[.string r, .string (crS r.size c)] W fun e w' => e = .returned (.string (apS r c)) ∧ Below W.heap.size W w') := fun W => times_any r _ W hr (crS_row hc) (by rw [crS_size]; omega)
  go_enter Try.func69, Try.ntmps69
  go_wp2_with fail
  refine (HC.out).mono ?_
  rintro e w1 ⟨rfl, hb1⟩
  go_wp2_with fail
  refine (HT.out w1).mono ?_
  rintro e w2 ⟨rfl, hb2⟩
  go_wp2
  go_ret
  exact ⟨rfl, hb1.trans (hb2.mono hb1.size)⟩
noncomputable def ok_AP (r c : ByteArray) : Bool := rowB r && chB r.size c
noncomputable def out_AP (r c : ByteArray) : ByteArray := if ok_AP r c = true then apS r c else { data := #[] }
set_option maxRecDepth 100000 in
set_option maxHeartbeats 1000000 in
theorem sp_Apply (r c : ByteArray) (W : World) (hs : r.size ≤ 1048576) (hs2 : c.size ≤ 1048576) :
    Calls Try.prog 32 #[.string r, .string c] W fun e w' => e = .returned (.tuple #[.string (out_AP r c), .bool (ok_AP r c)]) ∧ Below W.heap.size W w' := by
  have hm : r.size ≤ maxLen := by unfold maxLen; omega
  have hm2 : c.size ≤ maxLen := by unfold maxLen; omega
  cases hg : rowB r with
  | true =>
    cases hc : chB r.size c with
    | true =>
      have E : Hid (out_AP r c = apS r c ∧ ok_AP r c = true) := by
        have : ok_AP r c = true := by unfold ok_AP; rw [hg, hc]; rfl
        unfold Hid out_AP; rw [this]; simp
      have HC : Hid (∀ W, Calls Try.prog 64 #[.string r, .string c] W fun e w' => e = .returned (.string (apS r c)) ∧ Below W.heap.size W w') := fun W => l2Apply_any r c W (by simpa [rowB] using hg) hc
      go_enter Try.func32, Try.ntmps32
      go_wp2_with first
        | (go_at_call 68; refine (l1Row_any _ _ hm).mono ?_; rintro e w' ⟨rfl, d1, rfl⟩)
        | (go_at_call 47; refine (l2Change_any _ _ _ hm2).mono ?_; rintro e w' ⟨rfl, rfl⟩)
        | (go_at_call 64; refine (HC.out _).mono ?_; rintro e w1 ⟨rfl, hb1⟩)
      go_ret2
      exact ⟨ret_tb2 E.out.1 E.out.2, (below_drewN' (Below.refl _ _) _ : Below W.heap.size W _).trans hb1⟩
    | false =>
      have E : Hid (out_AP r c = { data := #[] } ∧ ok_AP r c = false) := by
        have : ok_AP r c = false := by unfold ok_AP; rw [hc, Bool.and_false]
        unfold Hid out_AP; rw [this]; simp
      go_enter Try.func32, Try.ntmps32
      go_wp2_with first
        | (go_at_call 68; refine (l1Row_any _ _ hm).mono ?_; rintro e w' ⟨rfl, d1, rfl⟩)
        | (go_at_call 47; refine (l2Change_any _ _ _ hm2).mono ?_; rintro e w' ⟨rfl, rfl⟩)
      go_ret2
      exact ⟨ret_tb2 E.out.1 E.out.2, below_drewN' (Below.refl _ _) _⟩
  | false =>
    have E : Hid (out_AP r c = { data := #[] } ∧ ok_AP r c = false) := by
      have : ok_AP r c = false := by unfold ok_AP; rw [hg, Bool.false_and]
      unfold Hid out_AP; rw [this]; simp
    go_enter Try.func32, Try.ntmps32
    go_wp2_with (go_at_call 68; refine (l1Row_any _ _ hm).mono ?_; rintro e w' ⟨rfl, d1, rfl⟩)
    go_ret2
    exact ⟨ret_tb2 E.out.1 E.out.2, below_drewN' (Below.refl _ _) _⟩
set_option maxRecDepth 100000 in
set_option maxHeartbeats 1000000 in
theorem im_Apply (r c : ByteArray) (W : World) (hs : r.size ≤ 1048576) (hs2 : c.size ≤ 1048576) :
    Calls Try.prog 33 #[.string r, .string c] W fun e w' => e = .returned (.tuple #[.string (out_AP r c), .bool (ok_AP r c)]) ∧ Below W.heap.size W w' := by
  have hm : r.size ≤ maxLen := by unfold maxLen; omega
  cases hg : rowB r with
  | true =>
    cases hc : chB r.size c with
    | true =>
      have E : Hid (out_AP r c = apS r c ∧ ok_AP r c = true) := by
        have : ok_AP r c = true := by unfold ok_AP; rw [hg, hc]; rfl
        unfold Hid out_AP; rw [this]; simp
      have HC : Hid (∀ W, Calls Try.prog 69 #[.string r, .string c] W fun e w' => e = .returned (.string (apS r c)) ∧ Below W.heap.size W w') := fun W => apply_any r c W (by simpa [rowB] using hg) hc
      go_enter Try.func33, Try.ntmps33
      go_wp2_with first
        | (go_at_call 65; refine (GoodRow_any _ _ hm).mono ?_; rintro e w' ⟨rfl, rfl⟩)
        | (go_at_call 16; refine (GoodChange_any _ _ _ (by omega)).mono ?_; rintro e w0 ⟨rfl, hb0⟩)
        | (go_at_call 69; refine (HC.out _).mono ?_; rintro e w1 ⟨rfl, hb1⟩)
      go_ret2
      exact ⟨ret_tb2 E.out.1 E.out.2, hb0.trans (hb1.mono hb0.size)⟩
    | false =>
      have E : Hid (out_AP r c = { data := #[] } ∧ ok_AP r c = false) := by
        have : ok_AP r c = false := by unfold ok_AP; rw [hc, Bool.and_false]
        unfold Hid out_AP; rw [this]; simp
      go_enter Try.func33, Try.ntmps33
      go_wp2_with first
        | (go_at_call 65; refine (GoodRow_any _ _ hm).mono ?_; rintro e w' ⟨rfl, rfl⟩)
        | (go_at_call 16; refine (GoodChange_any _ _ _ (by omega)).mono ?_; rintro e w0 ⟨rfl, hb0⟩)
      go_ret2
      exact ⟨ret_tb2 E.out.1 E.out.2, hb0⟩
  | false =>
    have E : Hid (out_AP r c = { data := #[] } ∧ ok_AP r c = false) := by
      have : ok_AP r c = false := by unfold ok_AP; rw [hg, Bool.false_and]
      unfold Hid out_AP; rw [this]; simp
    go_enter Try.func33, Try.ntmps33
    go_wp2_with (go_at_call 65; refine (GoodRow_any _ _ hm).mono ?_; rintro e w' ⟨rfl, rfl⟩)
    go_ret2
    exact ⟨ret_tb2 E.out.1 E.out.2, Below.refl _ _⟩
end Go.Proofs.Ytpdmogbebahebaa
