/- The library's sort of a slice of ints that the call owns. -/
import Derived.Test.YtgpjbmlemnjhfaaShelfn
import Derived.Test.YtgpjbmlemnjhfaaKit5
import Derived.Test.YtgpjbmlemnjhfaaPlainP
import Derived.Sort.OwnSortedInts
namespace Go.Proofs.Ytgpjbmlemnjhfaa
open Go.RowKit Go.Sort
set_option linter.unusedVariables false

def srtI (zs : List Int) : List Int := zs.mergeSort fun x y => decide (x ≤ y)
theorem sort_ownI (A : Option Addr) (n c lo hi : Nat) (zs : List Int) (W : World) (hn : n ≤ 1048576) (ho : Own W 3 lo hi A n c (intsV zs)) :
    Calls Try.prog 74 #[.slice A n c] W fun e w' => e = .returned (.tuple #[]) ∧ Own w' 3 lo hi A n c (intsV (srtI zs)) ∧ Wx (Value.slice A n c).ownBlock W w' := by
  have hl : zs.length = n := ho.rd.ilen
  rcases ho.1.2 with ⟨hnil, _⟩ | ⟨g, cap, cur, e, hbase, hb, h1, h2, h3, h4⟩
  · injection hnil with e1 e2 e3
    subst e1 e2 e3
    have hs : zs = [] := List.eq_nil_of_length_eq_zero hl
    subst hs
    refine (Try.slices_Sort_int_none none 0 W).mono ?_
    rintro e w' ⟨rfl, rfl⟩
    exact ⟨rfl, by simpa [srtI, intsV] using ho, ⟨rfl, rfl, rfl, Nat.le_refl _, fun _ _ _ => rfl⟩⟩
  · injection e with e1 e2 e3
    subst e1 e3
    have h4' : cur.toList.take zs.length = zs.map (Value.int .i64) := by rw [hl]; simpa [intsV] using h4
    have hg : g < W.heap.size := (Array.getElem?_eq_some_iff.1 hb).1
    have hS := Try.slices_Sort_int g 0 c zs W (holds_of_blockI hb h4') hg (by omega)
    rw [hl] at hS
    refine hS.mono ?_
    rintro e w' ⟨rfl, d, os, rfl⟩
    have hrow := ownsRow_sortedI (n := d) (os := os) (ts := zs.mergeSort fun x y => decide (x ≤ y)) (ss := zs) (by simp) hbase hb (by rw [hl]; exact h1) h2 h3
    rw [hl] at hrow
    have hgr := grownBy_sortedI (w := W) (g := g) (n := d) (os := os) (zs.mergeSort fun x y => decide (x ≤ y)).toArray
    exact ⟨rfl, ⟨hrow, ho.2⟩, ⟨hgr.os, hgr.tape, hgr.output, hgr.size, fun k hk hne => hgr.block k hk (by simpa [Value.ownBlock] using hne)⟩⟩
/-- a list sorted: the rising list of the same places -/
theorem srtI_of {l m : List Nat} (hp : l.Perm m) (hm : m.Pairwise (· < ·)) : srtI (natI l) = natI m := by
  have h1 : (srtI (natI l)).Perm (natI m) := (List.mergeSort_perm _ _).trans (hp.map _)
  have h2 : (srtI (natI l)).Pairwise fun a b => decide (a ≤ b) = true := List.pairwise_mergeSort (fun a b c h1 h2 => by simp at *; omega) (fun a b => by simp; omega) _
  refine h1.eq_of_pairwise (le := fun a b => a ≤ b) (fun a b _ _ h1 h2 => Int.le_antisymm h1 h2) (h2.imp fun h => by simpa using h) ?_
  unfold natI
  rw [List.pairwise_map]
  exact hm.imp fun h => by omega
end Go.Proofs.Ytgpjbmlemnjhfaa
