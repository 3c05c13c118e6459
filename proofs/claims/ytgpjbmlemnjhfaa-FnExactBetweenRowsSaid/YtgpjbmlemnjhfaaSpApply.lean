/- Apply, of the reference and of the program: what each returns. -/
import Derived.Test.YtgpjbmlemnjhfaaWalkV
namespace Go.Proofs.Ytgpjbmlemnjhfaa
open Go.RowKit
set_option linter.unusedVariables false

theorem ret_tb2 {b v : ByteArray} {x y : Bool} (h : b = v) (h2 : x = y) : Ending.returned (.tuple #[.string v, .bool y]) = .returned (.tuple #[.string b, .bool x]) := by rw [h, h2]
/-- the row behind a row, under a change -/
noncomputable def apS (r c : ByteArray) : ByteArray := mkS (timesL (bs r) (bs (crS r.size c)))
set_option maxRecDepth 100000 in
set_option maxHeartbeats 1000000 in
theorem l2Apply_any (r c : ByteArray) (W : World) (hr : IsRow (bs r)) (hc : chB r.size c = true) :
    Calls Try.prog 56 #[.string r, .string c] W fun e w' => e = .returned (.string (apS r c)) ∧ Below W.heap.size W w' := by
  have HC := Lib.hid (l2Row_any r.size c W hc)
  have HT : Hid (∀ W, Calls Try.prog 84 #[.string r, .string (crS r.size c)] W fun e w' => e = .returned (.string (apS r c)) ∧ W = w') := fun W => l1Times_any r _ W hr (crS_row hc) (by rw [crS_size]; omega)
  go_enter Try.func56, Try.ntmps56
  go_wp2_with fail
  refine (HC.out).mono ?_
  rintro e w1 ⟨rfl, hb1⟩
  go_wp2_with fail
  refine (HT.out w1).mono ?_
  rintro e w2 ⟨rfl, rfl⟩
  go_wp2
  go_ret
  exact ⟨rfl, hb1⟩
noncomputable def ok_AP (r c : ByteArray) : Bool := rowB r && chB r.size c
noncomputable def out_AP (r c : ByteArray) : ByteArray := if ok_AP r c = true then apS r c else { data := #[] }
end Go.Proofs.Ytgpjbmlemnjhfaa
