/- Plain words for the laws' helpers: marks, sizes, a list written from its head on. -/
import Derived.Test.YtgpjbmlemnjhfaaPlain1
namespace Go.Proofs.Ytgpjbmlemnjhfaa

def mdig : Nat → Nat → List UInt8 → List UInt8
  | 0, _, o => o
  | f + 1, k, o => if k = 0 then o else mdig f (k / 10) (UInt8.ofNat (48 + k % 10) :: o)
def mtext (k : Nat) : ByteArray := mkS (109 :: mdig k k [])
def marks (k n : Nat) : List ByteArray := (List.range n).map fun i => mtext (k + i)
def markI (k n : Nat) : List Int := (List.range n).map fun i => ((k + i : Nat) : Int)
theorem marks_length (k n : Nat) : (marks k n).length = n := by simp [marks]
theorem markI_length (k n : Nat) : (markI k n).length = n := by simp [markI]
theorem marks_get (k n i : Nat) (h : i < (marks k n).length) : (marks k n)[i] = mtext (k + i) := by simp [marks]
theorem markI_get (k n i : Nat) (h : i < (markI k n).length) : (markI k n)[i] = ((k + i : Nat) : Int) := by simp [markI]

/-- xs with its first q cells set -/
def setTo {α : Type} (f : Nat → α) (xs : List α) : Nat → List α
  | 0 => xs
  | q + 1 => (setTo f xs q).set q (f q)
theorem setTo_length {α : Type} (f : Nat → α) (xs : List α) : ∀ q, (setTo f xs q).length = xs.length
  | 0 => rfl
  | q + 1 => by simp [setTo, setTo_length f xs q]
theorem setTo_get {α : Type} (f : Nat → α) (xs : List α) : ∀ q j, j < xs.length → (setTo f xs q)[j]? = if j < q then some (f j) else xs[j]?
  | 0, j, _ => by simp [setTo]
  | q + 1, j, hj => by
    have ih := setTo_get f xs q j hj
    simp only [setTo, List.getElem?_set, setTo_length]
    by_cases h : q = j
    · subst h; simp [hj]
    · rw [if_neg h, ih]
      by_cases h2 : j < q
      · rw [if_pos h2, if_pos (by omega)]
      · rw [if_neg h2, if_neg (by omega)]
theorem setTo_all {α : Type} (f : Nat → α) (xs ys : List α) (hl : ys.length = xs.length) (hf : ∀ j (h : j < ys.length), ys[j] = f j) : setTo f xs xs.length = ys := by
  apply List.ext_getElem?
  intro j
  by_cases hj : j < xs.length
  · rw [setTo_get f xs _ j hj, if_pos hj, List.getElem?_eq_getElem (by omega), hf]
  · rw [List.getElem?_eq_none (by rw [setTo_length]; omega), List.getElem?_eq_none (by omega)]

def szGo : List ByteArray → Int → Int
  | [], l => l
  | s :: t, l => if l - s.size < 0 then -1 else szGo t (l - s.size)
def szL (ss : List ByteArray) (left : Int) : Int := if left - ss.length < 0 then -1 else szGo ss (left - ss.length)
theorem szGo_le : ∀ (ss : List ByteArray) (l : Int), 0 ≤ szGo ss l → szGo ss l ≤ l ∧ ∀ s ∈ ss, (s.size : Int) ≤ l
  | [], l, _ => ⟨Int.le_refl _, by simp⟩
  | s :: t, l, h => by
    simp only [szGo] at h ⊢
    split at h
    · omega
    · rename_i hs
      rw [if_neg hs]
      have ih := szGo_le t (l - s.size) h
      refine ⟨by omega, fun x hx => ?_⟩
      rcases List.mem_cons.1 hx with rfl | hx
      · omega
      · have := ih.2 x hx; omega
theorem szL_le {ss : List ByteArray} {l : Int} (h : 0 ≤ szL ss l) : szL ss l ≤ l ∧ (ss.length : Int) ≤ l ∧ ∀ s ∈ ss, (s.size : Int) ≤ l := by
  unfold szL at h ⊢
  split at h
  · omega
  · rename_i hs
    rw [if_neg hs]
    have := szGo_le ss (l - ss.length) h
    exact ⟨by omega, by omega, fun s hs2 => by have := this.2 s hs2; omega⟩
theorem szGo_ge : ∀ (ss : List ByteArray) (l : Int), 0 ≤ l → -1 ≤ szGo ss l
  | [], l, h => by simp only [szGo]; omega
  | s :: t, l, h => by
    simp only [szGo]
    split
    · omega
    · exact szGo_ge t _ (by omega)
theorem szL_ge (ss : List ByteArray) (l : Int) : -1 ≤ szL ss l := by
  unfold szL
  split
  · omega
  · exact szGo_ge ss _ (by omega)
end Go.Proofs.Ytgpjbmlemnjhfaa
