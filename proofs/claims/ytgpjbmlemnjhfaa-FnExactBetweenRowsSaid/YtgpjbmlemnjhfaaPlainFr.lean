/- Plain facts: the ways on from place to place, and the text of a list of places. -/
import Derived.Test.YtgpjbmlemnjhfaaWalkSo
import Derived.Test.YtgpjbmlemnjhfaaWalkH
namespace Go.Proofs.Ytgpjbmlemnjhfaa
open Go.RowKit
set_option linter.unusedVariables false

instance (n : Nat) (l : List UInt8) : Decidable (PlacesOK n l) :=
  decidable_of_iff (1 ≤ l.length ∧ l.length + 2 ≤ n ∧ (∀ i, i < l.length → 49 ≤ ch l i ∧ ch l i ≤ 48 + n) ∧ ch l 0 % 2 = 1 ∧
    (∀ i, i < l.length - 1 → ch l i < ch l (i + 1) ∧ (ch l i + ch l (i + 1)) % 2 = 1) ∧ ch l (l.length - 1) % 2 = n % 2)
    ⟨fun ⟨h1, h2, h3, h4, h5, h6⟩ => ⟨h1, h2, h3, h4, fun i hi => h5 i (by omega), h6⟩, fun ⟨h1, h2, h3, h4, h5, h6⟩ => ⟨h1, h2, h3, h4, fun i hi => h5 i (by omega), h6⟩⟩
instance (n : Nat) (l : List UInt8) : Decidable (IsCh n l) := by unfold IsCh; infer_instance
/-- a list of places as a text -/
def txtL (l : List UInt8) : List UInt8 := if l = [] then [45] else l
/-- the reference's ways on from a place (f: at least how many places are left) -/
def frL (n : Nat) : Nat → Nat → List (List Nat)
  | 0, _ => [[]]
  | f + 1, p => if n < p then [[]] else (frL n f (p + 1)).map (p :: ·) ++ (if p < n then frL n f (p + 2) else [])
end Go.Proofs.Ytgpjbmlemnjhfaa
