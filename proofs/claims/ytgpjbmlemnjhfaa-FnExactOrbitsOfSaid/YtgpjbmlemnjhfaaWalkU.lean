/- Lists made out of rows: the even ones, the products. -/
import Derived.Test.YtgpjbmlemnjhfaaWalkG
import Derived.Test.YtgpjbmlemnjhfaaWalkC
import Derived.Test.YtgpjbmlemnjhfaaKit4
namespace Go.Proofs.Ytgpjbmlemnjhfaa
open Go.RowKit
set_option linter.unusedVariables false

theorem max_of_small' {ss : List ByteArray} (h : ∀ s ∈ ss, s.size ≤ 1048576) : ∀ s ∈ ss, s.size ≤ maxLen := fun s hs => by have := h s hs; unfold maxLen; omega
def evS (s : ByteArray) : Bool := evenL (bs s)
theorem filter_step {α : Type} {f : α → Bool} {l : List α} {k : Nat} (hk : k < l.length) : (l.take (k + 1)).filter f = (l.take k).filter f ++ (if f l[k] = true then [l[k]] else []) := by
  rw [List.take_succ_eq_append_getElem hk, List.filter_append]
  congr 1
  by_cases h : f l[k] = true <;> simp [h]
theorem map_step {α β : Type} {f : α → β} {l : List α} {k : Nat} (hk : k < l.length) : (l.take (k + 1)).map f = (l.take k).map f ++ [f l[k]] := by
  rw [List.take_succ_eq_append_getElem hk, List.map_append]; rfl
def ok_EO (ss : List ByteArray) : Bool := rowsB ss
def out_EvenOnes (ss : List ByteArray) : List ByteArray := if ok_EO ss = true then ss.filter evS else []
theorem len_EvenOnes (ss : List ByteArray) (hn : ss.length ≤ 1048576) : (out_EvenOnes ss).length ≤ 4194304 := by
  unfold out_EvenOnes
  split
  · have := List.length_filter_le evS ss; omega
  · simp
def rowsOfB (m : Int) (ss : List ByteArray) : Bool := rowsB ss && (decide (ss.length = 0) || decide (((headS ss).size : Int) = m))
theorem rowsOf_each {m : Nat} {ss : List ByteArray} (h : rowsOfB m ss = true) : ∀ s ∈ ss, IsRow (bs s) ∧ s.size = m := by
  simp only [rowsOfB, Bool.and_eq_true, Bool.or_eq_true, decide_eq_true_eq, rowsB] at h
  intro s hs
  have := h.1.2 s hs
  rcases h.2 with h2 | h2
  · have := List.length_pos_of_mem hs; omega
  · exact ⟨this.1, by omega⟩
theorem rowsB_len {ss : List ByteArray} (h : rowsB ss = true) : ss.length ≤ 800 := by
  simp only [rowsB, decide_eq_true_eq] at h; exact h.1
def timS (a s : ByteArray) : ByteArray := mkS (timesL (bs a) (bs s))
def ok_LT (a : ByteArray) (ss : List ByteArray) : Bool := rowB a && rowsOfB a.size ss
def out_LeftTimes (a : ByteArray) (ss : List ByteArray) : List ByteArray := if ok_LT a ss = true then ss.map (timS a) else []
theorem len_LeftTimes (a : ByteArray) (ss : List ByteArray) (hn : ss.length ≤ 1048576) : (out_LeftTimes a ss).length ≤ 4194304 := by
  unfold out_LeftTimes
  split
  · rw [List.length_map]; omega
  · simp
set_option maxRecDepth 100000 in
set_option maxHeartbeats 1000000 in
theorem areRowsOf_any (m : Int) (A : Option Addr) (n c : Nat) (ss : List ByteArray) (w : World) (hr : Rd w A n (strsV ss)) (hz : ∀ s ∈ ss, s.size ≤ maxLen) :
    Calls Try.prog 73 #[.int .i64 m, .slice A n c] w fun e w' => e = .returned (.bool (rowsOfB m ss)) ∧ w = w' := by
  have Hr := Lib.hid hr
  have Hl := Lib.hid hr.slen
  have Hz := Lib.hid hz
  clear hr hz
  by_cases hrow : rowsB ss = true
  · by_cases h0 : n = 0
    · have E : Hid (rowsOfB m ss = true) := by
        have := Hl.out
        unfold Hid rowsOfB; rw [hrow, decide_eq_true (by omega)]; rfl
      subst h0
      go_enter Try.func73, Try.ntmps73
      go_wp2_with (go_at_call 67; refine (GoodRows_any _ _ _ _ _ Hr.out Hz.out).mono ?_; rintro e w' ⟨rfl, rfl⟩)
      go_ret
      exact ⟨ret_b E.out, rfl⟩
    · obtain ⟨b, off, rfl, _, hc⟩ := Hr.out.str (k := 0) (by omega)
      rw [Nat.add_zero, ← headS_get (by have := Hl.out; omega)] at hc
      obtain ⟨x, hx⟩ : ∃ x, x = headS ss := ⟨_, rfl⟩
      rw [← hx] at hc
      have i1 : (0 : Int) < (n : Int) := by omega
      have i2 : ((n : Int) == 0) = false := by simp; omega
      have E : Hid (rowsOfB m ss = ((x.size : Int) == m)) := by
        have := Hl.out
        unfold Hid rowsOfB; rw [hrow, decide_eq_false (by omega), ← hx]; by_cases h : (x.size : Int) = m <;> simp [h]
      clear hx h0
      go_enter Try.func73, Try.ntmps73
      go_wp2_with (go_at_call 67; refine (GoodRows_any _ _ _ _ _ Hr.out Hz.out).mono ?_; rintro e w' ⟨rfl, rfl⟩)
      go_ret
      exact ⟨ret_b E.out, rfl⟩
  · have hrow' : rowsB ss = false := by simpa using hrow
    have E : Hid (rowsOfB m ss = false) := by unfold Hid rowsOfB; rw [hrow']; rfl
    clear hrow
    go_enter Try.func73, Try.ntmps73
    go_wp2_with (go_at_call 67; refine (GoodRows_any _ _ _ _ _ Hr.out Hz.out).mono ?_; rintro e w' ⟨rfl, rfl⟩)
    go_ret
    exact ⟨ret_b E.out, rfl⟩
end Go.Proofs.Ytgpjbmlemnjhfaa
