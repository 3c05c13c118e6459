/- Plain facts: all changes of a stage, by subsets and by going on from place to place: one list but for its order. -/
import Derived.Test.YtajmjfekddgelaaPlainG
import Derived.Test.YtajmjfekddgelaaWalkH
namespace Go.Proofs.Ytajmjfekddgelaa
open Go.RowKit
set_option linter.unusedVariables false

instance (n : Nat) (l : List UInt8) : Decidable (PlacesOK n l) :=
  decidable_of_iff (1 ≤ l.length ∧ l.length + 2 ≤ n ∧ (∀ i, i < l.length → 49 ≤ ch l i ∧ ch l i ≤ 48 + n) ∧ ch l 0 % 2 = 1 ∧
    (∀ i, i < l.length - 1 → ch l i < ch l (i + 1) ∧ (ch l i + ch l (i + 1)) % 2 = 1) ∧ ch l (l.length - 1) % 2 = n % 2)
    ⟨fun ⟨h1, h2, h3, h4, h5, h6⟩ => ⟨h1, h2, h3, h4, fun i hi => h5 i (by omega), h6⟩, fun ⟨h1, h2, h3, h4, h5, h6⟩ => ⟨h1, h2, h3, h4, fun i hi => h5 i (by omega), h6⟩⟩
instance (n : Nat) (l : List UInt8) : Decidable (IsCh n l) := by unfold IsCh; infer_instance
theorem cb_decide (P : Prop) [Decidable P] : cb P = decide P := by
  by_cases h : P
  · rw [cb_true h, decide_eq_true h]
  · rw [cb_false h, decide_eq_false h]
/-- a list of places as a text -/
def txtL (l : List UInt8) : List UInt8 := if l = [] then [45] else l
/-- the first j places of a set of places -/
def subL (s : Nat) : Nat → List UInt8
  | 0 => []
  | j + 1 => if s / 2 ^ j % 2 = 1 then subL s j ++ [UInt8.ofNat (49 + j)] else subL s j
/-- the program's texts: a set of places each -/
def setsL (n : Nat) : List (List UInt8) := (List.range (2 ^ n)).map fun s => txtL (subL s n)
/-- the reference's ways on from a place (f: at least how many places are left) -/
def frL (n : Nat) : Nat → Nat → List (List Nat)
  | 0, _ => [[]]
  | f + 1, p => if n < p then [[]] else (frL n f (p + 1)).map (p :: ·) ++ (if p < n then frL n f (p + 2) else [])
def fromL (n : Nat) : List (List UInt8) := (frL n n 1).map fun l => txtL (l.map fun p => UInt8.ofNat (48 + p))
theorem sets_perm (n : Nat) (h1 : 3 ≤ n) (h2 : n ≤ 8) : ((setsL n).filter fun l => decide (IsCh n l)).Perm ((fromL n).filter fun l => decide (IsCh n l)) := by
  refine List.isPerm_iff.1 ?_
  have h : n = 3 ∨ n = 4 ∨ n = 5 ∨ n = 6 ∨ n = 7 ∨ n = 8 := by omega
  rcases h with rfl | rfl | rfl | rfl | rfl | rfl <;> decide +kernel
theorem all_srt (n : Nat) (h1 : 3 ≤ n) (h2 : n ≤ 8) : srt (((setsL n).filter fun l => cb (IsCh n l)).map mkS) = srt (((fromL n).filter fun l => cb (IsCh n l)).map mkS) := by
  have e : (fun l => cb (IsCh n l)) = fun l => decide (IsCh n l) := funext fun l => cb_decide _
  rw [e]
  refine srt_of ?_ ?_
  · rw [srt_bs]; exact List.pairwise_mergeSort leS_tr leS_to _
  · rw [srt_bs, map_bs_mkS, map_bs_mkS]
    exact (List.mergeSort_perm _ _).trans (sets_perm n h1 h2)
end Go.Proofs.Ytajmjfekddgelaa
