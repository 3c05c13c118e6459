/- The walks of the check of a method. -/
import Derived.Test.YtgpjbmlemnjhfaaWalkL
import Derived.Test.YtgpjbmlemnjhfaaWalkN
namespace Go.Proofs.Ytgpjbmlemnjhfaa
open Go.RowKit
set_option linter.unusedVariables false

def isL (c : UInt8) : Prop := 97 ≤ c.toNat ∧ c.toNat ≤ 122
instance (c : UInt8) : Decidable (isL c) := by unfold isL; infer_instance
def wordB (s : ByteArray) : Bool := decide (1 ≤ s.size ∧ s.size ≤ 10 ∧ ∀ i (h : i < s.size), isL s[i])
theorem ch_stage0 {n : Int} {s : ByteArray} (h : chB n s = true) : 3 ≤ n ∧ n ≤ 8 := by
  have h := of_cb h
  have := h.1; have := h.2.1; omega
noncomputable def methB (nm : ByteArray) (st : Int) (ss : List ByteArray) : Bool := wordB nm && chsB st ss
end Go.Proofs.Ytgpjbmlemnjhfaa
