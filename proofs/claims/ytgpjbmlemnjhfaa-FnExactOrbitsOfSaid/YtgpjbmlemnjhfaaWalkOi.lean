/- OrbitsOf: the program's walk. -/
import Derived.Test.YtgpjbmlemnjhfaaPlainOb
import Derived.Test.YtgpjbmlemnjhfaaWalkB
import Derived.Test.YtgpjbmlemnjhfaaWalkBo
import Derived.Test.YtgpjbmlemnjhfaaSortn
namespace Go.Proofs.Ytgpjbmlemnjhfaa
open Go.RowKit
set_option linter.unusedVariables false

theorem info_intsO : (Try.prog.info? 50).map (fun i => (i.zero, i.size, i.bytes)) = some (some (.slice none 0 0), 1, 24) := by kernel_rfl
/-- no row of a list of rows lies in a block -/
def OffO (rs : List Row) (g : Nat) : Prop := ∀ (i : Nat) (r : Row), rs[i]? = some r → (rowV r).ownBlock ≠ some g
theorem OffO.nil (g : Nat) : OffO [] g := fun i r h => by simp at h
theorem OffO.push {rs : List Row} {g : Nat} {r : Row} (h : OffO rs g) (h2 : (rowV r).ownBlock ≠ some g) : OffO (rs ++ [r]) g := fun i s hs => by
  rcases snoc_get hs with h3 | ⟨_, rfl⟩
  · exact h i s h3
  · exact h2
theorem OwnR.wxO {w w' : World} {lo hi n c : Nat} {A : Option Addr} {rs : List Row} {zss : List (List Int)} {row : Option Nat} (h : OwnR w lo hi A n c rs zss) (hx : Wx row w w') (h2 : ∀ q, row = some q → Off A n c q ∧ OffO rs q) : OwnR w' lo hi A n c rs zss :=
  ⟨hx.own h.o fun k hk e => (h2 k e.symm).1 k hk rfl, h.len, fun i r z a b => hx.own (h.row i r z a b) fun k hk e => (h2 k e.symm).2 i r a hk, h.far, h.apart⟩
/-- what lies in memory while an orbit is gathered -/
structure OSt (W wo w : World) (m : Nat) (A3 : Option Addr) (n3 c3 : Nat) (rs : List Row) (Z : List (List Int)) (sn : List Bool) (A4 : Option Addr) (n4 c4 : Nat) (orb : List Nat) : Prop where
  oc : Own w 3 wo.heap.size w.heap.size A4 n4 c4 (intsV (natI orb))
  ol : OwnR w W.heap.size wo.heap.size A3 n3 c3 rs Z
  os : Own w 4 W.heap.size wo.heap.size (some ⟨W.heap.size, 0, none⟩) m m (boolsV sn)
  sz : wo.heap.size < w.heap.size
  bl : Below W.heap.size W w
  off : Off A3 n3 c3 W.heap.size
  ofr : OffO rs W.heap.size
  wos : W.heap.size ≤ wo.heap.size
theorem OSt.len {W wo w : World} {m n3 c3 n4 c4 : Nat} {A3 A4 : Option Addr} {rs : List Row} {Z : List (List Int)} {sn : List Bool} {orb : List Nat} (h : OSt W wo w m A3 n3 c3 rs Z sn A4 n4 c4 orb) : orb.length = n4 := by
  have := h.oc.rd.ilen; rw [natI_len2] at this; exact this
theorem OSt.mark {W wo w : World} {m n3 c3 n4 c4 : Nat} {A3 A4 : Option Addr} {rs : List Row} {Z : List (List Int)} {sn : List Bool} {orb : List Nat} (h : OSt W wo w m A3 n3 c3 rs Z sn A4 n4 c4 orb) (r : Nat) (hlt : W.heap.size < wo.heap.size) :
    OSt W wo (w.setCell ⟨W.heap.size, r, none⟩ (.bool true)) m A3 n3 c3 rs Z (sn.set r true) A4 n4 c4 orb := by
  have hx := wx_set w W.heap.size r (.bool true)
  refine ⟨(hx.own h.oc fun q hq e => ?_).mono (Nat.le_refl _) (by simp), h.ol.wxO hx fun q hq => ?_, ?_, by simpa using h.sz, h.bl.setCell (Nat.le_refl _) _, h.off, h.ofr, h.wos⟩
  · have := (h.oc.lt q hq).1; injection e with e; omega
  · injection hq with hq; subst hq; exact ⟨h.off, h.ofr⟩
  · have := h.os.set_ r (.bool true)
    rw [boolsV_set] at this
    exact this
theorem OSt.app {W wo w w' : World} {m n3 c3 n4 c4 n5 c5 : Nat} {A3 A4 A5 : Option Addr} {rs : List Row} {Z : List (List Int)} {sn : List Bool} {orb orb2 : List Nat} (h : OSt W wo w m A3 n3 c3 rs Z sn A4 n4 c4 orb)
    (ho : Own w' 3 wo.heap.size w'.heap.size A5 n5 c5 (intsV (natI orb2))) (hx : Wx (Value.slice A4 n4 c4).ownBlock w w') : OSt W wo w' m A3 n3 c3 rs Z sn A5 n5 c5 orb2 := by
  have hlo : ∀ q, (Value.slice A4 n4 c4).ownBlock = some q → wo.heap.size ≤ q := fun q hq => (h.oc.lt q hq).1
  refine ⟨ho, ?_, ?_, Nat.lt_of_lt_of_le h.sz hx.size, h.bl.trans ((h.oc.below_ hx (Nat.le_of_lt h.sz)).mono h.wos), h.off, h.ofr, h.wos⟩
  · refine h.ol.wxO hx fun q hq => ⟨fun k hk e => ?_, fun i r hr e => ?_⟩
    · have a := (h.ol.o.lt k hk).2.1; have b := hlo q hq; omega
    · have a := (h.ol.rowlt i r q hr e).2.1; have b := hlo q hq; omega
  · exact hx.own h.os fun k hk e => by have a := (h.os.lt k hk).2.1; have b := hlo k e.symm; omega
/-- cell k of an orbit -/
theorem Own.natAt {w : World} {E : TypeId} {lo hi g n c k x : Nat} {l : List Nat} (h : Own w E lo hi (some ⟨g, 0, none⟩) n c (intsV (natI l))) (hk : l[k]? = some x) : w.cell? ⟨g, k, none⟩ = some (.int .i64 (x : Int)) :=
  (h.mem k _ (by unfold intsV natI; rw [List.getElem?_map, List.getElem?_map, hk]; rfl)).1
end Go.Proofs.Ytgpjbmlemnjhfaa
