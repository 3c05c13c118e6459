/- LeadsIn, of the reference and of the program: what each returns. -/
import Derived.Test.YtbmabfgnmafooaaSpLeadHead
import Derived.Test.YtbmabfgnmafooaaWalkE
namespace Go.Proofs.Ytbmabfgnmafooaa
open Go.RowKit
set_option linter.unusedVariables false

theorem ret_ib {b v : Int} {x : Bool} (h : b = v) : Ending.returned (.tuple #[.int .i64 v, .bool x]) = .returned (.tuple #[.int .i64 b, .bool x]) := by rw [h]
open Classical in
noncomputable def ordK (a : List UInt8) : Nat := if h : ∃ k, Ord a k ∧ k ≤ 16777216 then Classical.choose h else 0
theorem ordK_ok {a : List UInt8} (h : IsRow a) : Ord a (ordK a) ∧ ordK a ≤ 16777216 := by
  have hx := exists_ord h
  unfold ordK
  rw [dif_pos hx]
  exact Classical.choose_spec hx
theorem lh_row {nm : ByteArray} {st : Int} {ss : List ByteArray} (h : methB nm st ss = true) : IsRow (bs (lhS st ss)) := by
  obtain ⟨h1, h40, h3, h8, hch⟩ := meth_ok h
  have hrow : IsRow (bs (mkS (roundsL st.toNat))) := by rw [bs_mkS]; exact isRow_rounds (by omega) (by omega)
  exact (rowAt_ok hrow (fun c hc => by rw [size_mkS, roundsL_length, Int.toNat_of_nonneg (by omega)]; exact hch c hc) _ (Nat.le_refl _)).1
noncomputable def out_LeadsIn (nm : ByteArray) (st : Int) (ss : List ByteArray) : Int := if methB nm st ss = true then (ordK (bs (lhS st ss)) : Int) else 0
end Go.Proofs.Ytbmabfgnmafooaa
