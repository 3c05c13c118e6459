/- What is told of a slice of strings, or of ints, that came in. -/
import Derived.Test.YtgpjbmlemnjhfaaKit3
namespace Go.Proofs.Ytgpjbmlemnjhfaa
open Go.RowKit

def StrsIn (w : World) (A : Option Addr) (n : Nat) (ss : List ByteArray) : Prop := Rd w A n (strsV ss) ∧ ∀ s ∈ ss, s.size ≤ maxLen
def IntsIn (w : World) (A : Option Addr) (n : Nat) (zs : List Int) : Prop := Rd w A n (intsV zs) ∧ ∀ z ∈ zs, (Lit.int .i64 z).wf = true
theorem strsIn_nil (w : World) : StrsIn w none 0 [] := ⟨Rd.nil w, by simp⟩
theorem intsIn_nil (w : World) : IntsIn w none 0 [] := ⟨Rd.nil w, by simp⟩
theorem cell_lt {w : World} {a : Addr} {v : Value} (h : w.cell? a = some v) : a.block < w.heap.size := by
  rcases Nat.lt_or_ge a.block w.heap.size with h1 | h1
  · exact h1
  · simp [World.cell?, Array.getElem?_eq_none h1] at h
theorem rd_of_open {w : World} {a : Addr} {len cap : Nat} {vs : List Value} (hl : len ≤ cap) (hm : cap ≤ maxLen) (hz : vs.length = cap) (hcell : ∀ i v, vs[i]? = some v → w.cell? (a.add i) = some v) : Rd w (some a) len (vs.take len) := by
  refine ⟨by rw [List.length_take]; omega, by omega, ?_⟩
  rcases Nat.eq_zero_or_pos len with h0 | h0
  · exact .inl h0
  · right
    obtain ⟨b, off, spot⟩ := a
    have h := hcell 0 _ (List.getElem?_eq_getElem (show 0 < vs.length by omega))
    have hspot : spot = none := by simpa [Addr.add] using World.cell?_spot h
    subst hspot
    refine ⟨b, off, rfl, ?_, fun j v hv => ?_⟩
    · have := cell_lt h
      rw [Addr.add_lit] at this; exact this
    · rw [List.getElem?_take] at hv
      split at hv
      · have := hcell j v hv
        rwa [Addr.add_lit] at this
      · cases hv
theorem strsIn_of_open {w : World} {a : Addr} {len cap : Nat} {zs : List ByteArray} (hl : len ≤ cap) (hm : cap ≤ maxLen) (hz : zs.length = cap) (hcell : ∀ i, i < zs.length → w.cell? (a.add i) = some (.string (zs.getD i ByteArray.empty))) (hw : ∀ s ∈ zs, s.size ≤ maxLen) :
    StrsIn w (some a) len (zs.take len) := by
  refine ⟨?_, fun s hs => hw s (List.mem_of_mem_take hs)⟩
  have := rd_of_open (w := w) (a := a) (vs := strsV zs) hl hm (by rw [strsV_length]; exact hz) fun i v hv => by
    have hi : i < zs.length := by have := (List.getElem?_eq_some_iff.1 hv).1; rwa [strsV_length] at this
    rw [hcell i hi, ← hv]
    simp [strsV, List.getElem?_eq_getElem hi]
  unfold strsV at this ⊢
  rwa [← List.map_take] at this
theorem intsIn_of_open {w : World} {a : Addr} {len cap : Nat} {zs : List Int} (hl : len ≤ cap) (hm : cap ≤ maxLen) (hz : zs.length = cap) (hcell : ∀ i, i < zs.length → w.cell? (a.add i) = some (.int .i64 (zs.getD i 0))) (hw : ∀ n ∈ zs, (Lit.int .i64 n).wf = true) :
    IntsIn w (some a) len (zs.take len) := by
  refine ⟨?_, fun s hs => hw s (List.mem_of_mem_take hs)⟩
  have := rd_of_open (w := w) (a := a) (vs := intsV zs) hl hm (by rw [intsV_length]; exact hz) fun i v hv => by
    have hi : i < zs.length := by have := (List.getElem?_eq_some_iff.1 hv).1; rwa [intsV_length] at this
    rw [hcell i hi, ← hv]
    simp [intsV, List.getElem?_eq_getElem hi]
  unfold intsV at this ⊢
  rwa [← List.map_take] at this
end Go.Proofs.Ytgpjbmlemnjhfaa
