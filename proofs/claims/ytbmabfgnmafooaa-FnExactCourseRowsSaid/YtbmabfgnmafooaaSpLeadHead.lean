/- LeadHead, of the reference and of the program: what each returns. -/
import Derived.Test.YtbmabfgnmafooaaWalkHd
namespace Go.Proofs.Ytbmabfgnmafooaa
open Go.RowKit
set_option linter.unusedVariables false

theorem Own.cap_ {w : World} {E : TypeId} {lo hi n c : Nat} {A : Option Addr} {xs : List Value} (h : Own w E lo hi A n c xs) : n ≤ c := by
  rcases h.1.2 with ⟨e, h0⟩ | ⟨g, cap, cur, e, _, _, h1, _⟩
  · omega
  · injection e with e1 e2 e3; omega
noncomputable def out_LeadHead (nm : ByteArray) (st : Int) (ss : List ByteArray) : ByteArray := if methB nm st ss = true then lhS st ss else { data := #[] }
end Go.Proofs.Ytbmabfgnmafooaa
