/- The walks over lists of changes: their check, their text, their mirror. -/
import Derived.Test.YtbmabfgnmafooaaWalkH
import Derived.Test.YtbmabfgnmafooaaKit4
namespace Go.Proofs.Ytbmabfgnmafooaa
open Go.RowKit
set_option linter.unusedVariables false

/-- a valid list of changes of stage n -/
def ChOK (n : Int) (ss : List ByteArray) : Prop := 1 ≤ ss.length ∧ ss.length ≤ 40 ∧ ∀ s ∈ ss, chB n s = true
noncomputable def chsB (n : Int) (ss : List ByteArray) : Bool := cb (ChOK n ss)
def ChTo (n : Int) (ss : List ByteArray) (k : Nat) : Prop := ∀ s ∈ ss.take k, chB n s = true
theorem ChTo.succ {n : Int} {ss : List ByteArray} {k : Nat} (h : ChTo n ss k) (hk : k < ss.length) (h1 : chB n ss[k] = true) : ChTo n ss (k + 1) := by
  intro s hs
  rw [List.take_succ_eq_append_getElem hk] at hs
  rcases List.mem_append.1 hs with hs | hs
  · exact h s hs
  · simp at hs; subst hs; exact h1
theorem ChTo.all {n : Int} {ss : List ByteArray} {k : Nat} (h : ChTo n ss k) (hk : ss.length ≤ k) : ∀ s ∈ ss, chB n s = true := by
  intro s hs
  refine h s ?_
  rwa [List.take_of_length_le hk]
theorem chs_fail {n : Int} {ss : List ByteArray} {k : Nat} (hk : k < ss.length) (h : chB n ss[k] = false) : chsB n ss = false :=
  cb_false fun hr => by have := hr.2.2 _ (List.getElem_mem hk); rw [h] at this; cases this
theorem chs_len {n : Int} {ss : List ByteArray} (h : ss.length < 1 ∨ 40 < ss.length) : chsB n ss = false := cb_false fun hr => by have := hr.1; have := hr.2.1; omega
theorem chs_stage {n : Int} {ss : List ByteArray} (h : n < 3 ∨ 8 < n) : chsB n ss = false := cb_false fun hr => by
  cases ss with
  | nil => have := hr.1; simp at this
  | cons a t => have := hr.2.2 a (by simp); rw [chB_not h] at this; cases this
set_option maxRecDepth 100000 in
set_option maxHeartbeats 1000000 in
theorem areChanges_any (n : Int) (A : Option Addr) (m c : Nat) (ss : List ByteArray) (w : World) (hr : Rd w A m (strsV ss)) (hz : ∀ s ∈ ss, s.size ≤ 2097152) :
    Calls Try.prog 84 #[.int .i64 n, .slice A m c] w fun e w' => e = .returned (.bool (chsB n ss)) ∧ Below w.heap.size w w' := by
  have hm := hr.lenB
  have Hr := Lib.hid hr
  have Hl := Lib.hid hr.slen
  have Hz := Lib.hid hz
  clear hr hz
  by_cases h1 : m < 1
  · have h1' : (m : Int) < 1 := by omega
    have E := Lib.hid (chs_len (n := n) (ss := ss) (.inl (by have := Hl.out; omega)))
    clear h1
    go_enter Try.func84, Try.ntmps84
    go_wp2
    go_ret
    exact ⟨ret_b E.out, Below.refl _ _⟩
  have h1' : 1 ≤ (m : Int) := by omega
  by_cases h2 : 40 < m
  · have h2' : 40 < (m : Int) := by omega
    have E := Lib.hid (chs_len (n := n) (ss := ss) (.inr (by have := Hl.out; omega)))
    clear h2 h1
    go_enter Try.func84, Try.ntmps84
    go_wp2
    go_ret
    exact ⟨ret_b E.out, Below.refl _ _⟩
  have h2' : (m : Int) ≤ 40 := by omega
  clear h1 h2
  go_enter Try.func84, Try.ntmps84
  go_wp2
  go_loopw [17] (fun i wr => ∃ k : Nat, k ≤ m ∧ i = .int .i64 k ∧ Hid (ChTo n ss k) ∧ Hid (Below w.heap.size w wr)) (fun i _ => m - (intOf i).toNat)
  case atStart => exact ⟨0, by omega, rfl, by simp [Hid, ChTo], Below.refl _ _⟩
  case round =>
    obtain ⟨k, hk, rfl, HT, HB⟩ := hrel
    by_cases hlt : k < m
    · obtain ⟨b, off, rfl, _, hc⟩ := (Hr.out.below HB.out).str hlt
      have hkl : k < ss.length := by have := Hl.out; omega
      obtain ⟨s, hs⟩ : ∃ s, s = ss[k] := ⟨_, rfl⟩
      rw [← hs] at hc
      have hsm : s.size ≤ 2097152 := by rw [hs]; exact Hz.out _ (List.getElem_mem hkl)
      have Hs := Lib.hid hs
      have i1 : (k : Int) < (m : Int) := by omega
      clear hs
      cases hb : chB n s with
      | true =>
        have HN : Hid (ChTo n ss (k + 1)) := HT.out.succ hkl (by rw [← Hs.out]; exact hb)
        go_wp2_with (go_at_call 98; refine (GoodChange_any _ _ _ hsm).mono ?_; rintro e w2 ⟨rfl, hb2⟩)
        have HB2 := Lib.hid (HB.out.trans (hb2.mono HB.out.size))
        go_roundw
        case rel => exact ⟨k + 1, by omega, by go_num, HN.out, HB2.out⟩
        case measure => simp [intOf]; omega
      | false =>
        have E := Lib.hid (chs_fail (n := n) hkl (by rw [← Hs.out]; exact hb))
        go_wp2_with (go_at_call 98; refine (GoodChange_any _ _ _ hsm).mono ?_; rintro e w2 ⟨rfl, hb2⟩)
        have HB2 := Lib.hid (HB.out.trans (hb2.mono HB.out.size))
        go_ret
        exact ⟨ret_b E.out, HB2.out⟩
    · have E : Hid (chsB n ss = true) := by
        have := Hl.out
        exact cb_true ⟨by omega, by omega, HT.out.all (by omega)⟩
      go_wp2
      go_ret
      exact ⟨ret_b E.out, HB.out⟩
/-- the text of changes, one behind the other -/
def dash : ByteArray := { data := #[45] }
def txtStep (prev : Option ByteArray) (s : ByteArray) : List UInt8 :=
  (match prev with | none => [] | some p => if s ≠ dash ∧ p ≠ dash then [46] else []) ++ bs s
def txtGo (prev : Option ByteArray) : List ByteArray → List UInt8
  | [] => []
  | s :: t => txtStep prev s ++ txtGo (some s) t
def prevOf (ss : List ByteArray) (k : Nat) : Option ByteArray := if k = 0 then none else ss[k - 1]?
theorem txt_drop {ss : List ByteArray} {k : Nat} (hk : k < ss.length) : txtGo (prevOf ss k) (ss.drop k) = txtStep (prevOf ss k) ss[k] ++ txtGo (prevOf ss (k + 1)) (ss.drop (k + 1)) := by
  rw [List.drop_eq_getElem_cons hk]
  simp only [txtGo, prevOf, Nat.add_sub_cancel, if_neg (Nat.succ_ne_zero k), List.getElem?_eq_getElem hk]
def totS (ss : List ByteArray) : Nat := (ss.map ByteArray.size).sum
end Go.Proofs.Ytbmabfgnmafooaa
