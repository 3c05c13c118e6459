/- What the laws over a method share. -/
import Derived.Test.YtbmabfgnmafooaaOpenM
import Derived.Test.YtbmabfgnmafooaaWalkN2
import Derived.Test.YtbmabfgnmafooaaWalkI
namespace Go.Proofs.Ytbmabfgnmafooaa
open Go.RowKit
set_option linter.unusedVariables false

theorem keep3w {x y : World} {g lo hi : Nat} {v0 v1 v2 : Value} (hw : Wr lo hi x y) (hg : g < x.heap.size) (hd : g < lo ∨ hi ≤ g) (h : x.cell? ⟨g, 0, none⟩ = some v0 ∧ x.cell? ⟨g, 1, none⟩ = some v1 ∧ x.cell? ⟨g, 2, none⟩ = some v2) :
    y.cell? ⟨g, 0, none⟩ = some v0 ∧ y.cell? ⟨g, 1, none⟩ = some v1 ∧ y.cell? ⟨g, 2, none⟩ = some v2 := by
  have hb := hw.block g hg hd
  exact ⟨(World.cell?_of_block (a := ⟨g, 0, none⟩) hb).trans h.1, (World.cell?_of_block (a := ⟨g, 1, none⟩) hb).trans h.2.1, (World.cell?_of_block (a := ⟨g, 2, none⟩) hb).trans h.2.2⟩
theorem Own.cap_ {w : World} {E : TypeId} {lo hi n c : Nat} {A : Option Addr} {xs : List Value} (h : Own w E lo hi A n c xs) : n ≤ c := by
  rcases h.1.2 with ⟨e, h0⟩ | ⟨g, cap, cur, e, _, _, h1, _⟩
  · omega
  · injection e with e1 e2 e3; omega
end Go.Proofs.Ytbmabfgnmafooaa
