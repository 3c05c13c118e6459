/- The walks of lists that read the same both ways. -/
import Derived.Test.YtajmjfekddgelaaWalkS
import Derived.Test.YtajmjfekddgelaaWalkO
namespace Go.Proofs.Ytajmjfekddgelaa
open Go.RowKit
set_option linter.unusedVariables false

def getS (ss : List ByteArray) (i : Nat) : ByteArray := ss.getD i ByteArray.empty
def PalTo (m : Nat) (ss : List ByteArray) (k : Nat) : Prop := ∀ i, i < k → getS ss i = getS ss (m - 1 - i)
instance (m : Nat) (ss : List ByteArray) (k : Nat) : Decidable (PalTo m ss k) := by unfold PalTo; infer_instance
/-- the first m elements read the same both ways -/
def palB (m : Nat) (ss : List ByteArray) : Bool := decide (PalTo m ss m)
theorem Rd.strD {w : World} {A : Option Addr} {n : Nat} {ss : List ByteArray} (h : Rd w A n (strsV ss)) {k : Nat} (hk : k < n) :
    ∃ b off, A = some ⟨b, off, none⟩ ∧ b < w.heap.size ∧ ∀ j, j < n → w.cell? ⟨b, off + j, none⟩ = some (.string (getS ss j)) := by
  obtain ⟨b, off, rfl, hb, _⟩ := h.str hk
  refine ⟨b, off, rfl, hb, fun j hj => ?_⟩
  obtain ⟨b', off', e, _, hc⟩ := h.str hj
  injection e with e; injection e with e1 e2; subst e1 e2
  have := h.slen
  rw [hc]; simp [getS, List.getElem?_eq_getElem (show j < ss.length by omega)]
theorem palB_take {m : Nat} {ss : List ByteArray} (h : m ≤ ss.length) : palB m (ss.take m) = palB m ss := by
  have e : ∀ i, i < m → getS (ss.take m) i = getS ss i := fun i hi => by
    simp [getS, hi]
  have : PalTo m (ss.take m) m ↔ PalTo m ss m := by
    constructor
    · intro h2 i hi
      have := h2 i hi
      rw [e i hi, e (m - 1 - i) (by omega)] at this; exact this
    · intro h2 i hi
      rw [e i hi, e (m - 1 - i) (by omega)]; exact h2 i hi
  unfold palB
  by_cases h2 : PalTo m ss m
  · rw [decide_eq_true h2, decide_eq_true (this.2 h2)]
  · rw [decide_eq_false h2, decide_eq_false (fun h3 => h2 (this.1 h3))]
theorem Rd.take {w : World} {A : Option Addr} {n m : Nat} {ss : List ByteArray} (h : Rd w A n (strsV ss)) (hm : m ≤ n) : Rd w A m (strsV (ss.take m)) := by
  have hl := h.slen
  refine ⟨by rw [strsV_length, List.length_take]; omega, Nat.le_trans hm h.2.1, ?_⟩
  rcases Nat.eq_zero_or_pos m with h0 | h0
  · exact .inl h0
  · obtain ⟨b, off, rfl, hb, hc⟩ := h.strD (show 0 < n by omega)
    refine .inr ⟨b, off, rfl, hb, fun j v hv => ?_⟩
    have hj : j < m := by
      have := (List.getElem?_eq_some_iff.1 hv).1
      rw [strsV_length, List.length_take] at this; omega
    rw [hc j (by omega), ← hv]
    simp [strsV, getS, hj, List.getElem?_eq_getElem (show j < ss.length by omega)]
end Go.Proofs.Ytajmjfekddgelaa
