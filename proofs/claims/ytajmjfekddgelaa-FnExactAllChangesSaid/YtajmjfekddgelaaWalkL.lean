/- The walks over lists of changes: their check, their text, their mirror. -/
import Derived.Test.YtajmjfekddgelaaWalkH
import Derived.Test.YtajmjfekddgelaaKit4
namespace Go.Proofs.Ytajmjfekddgelaa
open Go.RowKit
set_option linter.unusedVariables false

/-- a valid list of changes of stage n -/
def ChOK (n : Int) (ss : List ByteArray) : Prop := 1 ≤ ss.length ∧ ss.length ≤ 40 ∧ ∀ s ∈ ss, chB n s = true
noncomputable def chsB (n : Int) (ss : List ByteArray) : Bool := cb (ChOK n ss)
def ChTo (n : Int) (ss : List ByteArray) (k : Nat) : Prop := ∀ s ∈ ss.take k, chB n s = true
theorem ChTo.succ {n : Int} {ss : List ByteArray} {k : Nat} (h : ChTo n ss k) (hk : k < ss.length) (h1 : chB n ss[k] = true) : ChTo n ss (k + 1) := by
  intro s hs
  rw [List.take_succ_eq_append_getElem hk] at hs
  rcases List.mem_append.1 hs with hs | hs
  · exact h s hs
  · simp at hs; subst hs; exact h1
theorem ChTo.all {n : Int} {ss : List ByteArray} {k : Nat} (h : ChTo n ss k) (hk : ss.length ≤ k) : ∀ s ∈ ss, chB n s = true := by
  intro s hs
  refine h s ?_
  rwa [List.take_of_length_le hk]
theorem chs_fail {n : Int} {ss : List ByteArray} {k : Nat} (hk : k < ss.length) (h : chB n ss[k] = false) : chsB n ss = false :=
  cb_false fun hr => by have := hr.2.2 _ (List.getElem_mem hk); rw [h] at this; cases this
theorem chs_len {n : Int} {ss : List ByteArray} (h : ss.length < 1 ∨ 40 < ss.length) : chsB n ss = false := cb_false fun hr => by have := hr.1; have := hr.2.1; omega
theorem chs_stage {n : Int} {ss : List ByteArray} (h : n < 3 ∨ 8 < n) : chsB n ss = false := cb_false fun hr => by
  cases ss with
  | nil => have := hr.1; simp at this
  | cons a t => have := hr.2.2 a (by simp); rw [chB_not h] at this; cases this
/-- the text of changes, one behind the other -/
def dash : ByteArray := { data := #[45] }
def txtStep (prev : Option ByteArray) (s : ByteArray) : List UInt8 :=
  (match prev with | none => [] | some p => if s ≠ dash ∧ p ≠ dash then [46] else []) ++ bs s
def txtGo (prev : Option ByteArray) : List ByteArray → List UInt8
  | [] => []
  | s :: t => txtStep prev s ++ txtGo (some s) t
def prevOf (ss : List ByteArray) (k : Nat) : Option ByteArray := if k = 0 then none else ss[k - 1]?
theorem txt_drop {ss : List ByteArray} {k : Nat} (hk : k < ss.length) : txtGo (prevOf ss k) (ss.drop k) = txtStep (prevOf ss k) ss[k] ++ txtGo (prevOf ss (k + 1)) (ss.drop (k + 1)) := by
  rw [List.drop_eq_getElem_cons hk]
  simp only [txtGo, prevOf, Nat.add_sub_cancel, if_neg (Nat.succ_ne_zero k), List.getElem?_eq_getElem hk]
def totS (ss : List ByteArray) : Nat := (ss.map ByteArray.size).sum
end Go.Proofs.Ytajmjfekddgelaa
