/- A method that came in by value; cells of a box. -/
import Derived.Test.YtbmabfgnmafooaaOpen
import Derived.Test.YtbmabfgnmafooaaWalkN
import Derived.Deep.RegionHeld3
namespace Go.Proofs.Ytbmabfgnmafooaa
open Go.RowKit
set_option linter.unusedVariables false

theorem szM_le {nm : ByteArray} {ss : List ByteArray} {l : Int} (h : 0 ≤ szM nm ss l) : (nm.size : Int) ≤ l ∧ (ss.length : Int) ≤ l ∧ (∀ s ∈ ss, (s.size : Int) ≤ l) ∧ szM nm ss l ≤ l := by
  unfold szM at h ⊢
  split at h
  · omega
  · rename_i h1
    split at h
    · omega
    · rename_i h2
      rw [if_neg h1, if_neg h2]
      have h3 := szL_le (ss := ss) (l := l - nm.size) (by omega)
      refine ⟨by omega, by omega, fun s hs => ?_, by omega⟩
      have := h3.2.2 s hs; omega
theorem keep3 {x y : World} {g : Nat} {v0 v1 v2 : Value} (hb : Below x.heap.size x y) (hg : g < x.heap.size) (h : x.cell? ⟨g, 0, none⟩ = some v0 ∧ x.cell? ⟨g, 1, none⟩ = some v1 ∧ x.cell? ⟨g, 2, none⟩ = some v2) :
    y.cell? ⟨g, 0, none⟩ = some v0 ∧ y.cell? ⟨g, 1, none⟩ = some v1 ∧ y.cell? ⟨g, 2, none⟩ = some v2 :=
  ⟨(hb.cell (p := ⟨g, 0, none⟩) hg).trans h.1, (hb.cell (p := ⟨g, 1, none⟩) hg).trans h.2.1, (hb.cell (p := ⟨g, 2, none⟩) hg).trans h.2.2⟩
theorem box3 (w : World) (t : TypeId) (v0 v1 v2 : Value) : (w.alloc (.cells #[v0, v1, v2] t)).cell? ⟨w.heap.size, 0, none⟩ = some v0 ∧ (w.alloc (.cells #[v0, v1, v2] t)).cell? ⟨w.heap.size, 1, none⟩ = some v1 ∧ (w.alloc (.cells #[v0, v1, v2] t)).cell? ⟨w.heap.size, 2, none⟩ = some v2 := by
  have h := heap_last w (.cells #[v0, v1, v2] t) w.heap.size rfl
  exact ⟨(Joins.cell_of_block h 0).trans rfl, (Joins.cell_of_block h 1).trans rfl, (Joins.cell_of_block h 2).trans rfl⟩
theorem keep6 {x y : World} {g g2 : Nat} {v0 v1 v2 u0 u1 u2 : Value} (hb : Below x.heap.size x y) (hg : g < x.heap.size) (hg2 : g2 < x.heap.size)
    (h : x.cell? ⟨g, 0, none⟩ = some v0 ∧ x.cell? ⟨g, 1, none⟩ = some v1 ∧ x.cell? ⟨g, 2, none⟩ = some v2) (h2 : x.cell? ⟨g2, 0, none⟩ = some u0 ∧ x.cell? ⟨g2, 1, none⟩ = some u1 ∧ x.cell? ⟨g2, 2, none⟩ = some u2) :
    y.cell? ⟨g, 0, none⟩ = some v0 ∧ y.cell? ⟨g, 1, none⟩ = some v1 ∧ y.cell? ⟨g, 2, none⟩ = some v2 ∧ y.cell? ⟨g2, 0, none⟩ = some u0 ∧ y.cell? ⟨g2, 1, none⟩ = some u1 ∧ y.cell? ⟨g2, 2, none⟩ = some u2 := by
  have k1 := keep3 hb hg h
  have k2 := keep3 hb hg2 h2
  exact ⟨k1.1, k1.2.1, k1.2.2, k2.1, k2.2.1, k2.2.2⟩
end Go.Proofs.Ytbmabfgnmafooaa
