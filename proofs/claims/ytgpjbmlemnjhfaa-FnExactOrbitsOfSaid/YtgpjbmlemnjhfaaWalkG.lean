/- The walks of the check of a list of rows. -/
import Derived.Test.YtgpjbmlemnjhfaaWalkB
import Derived.Test.YtgpjbmlemnjhfaaWalkS
namespace Go.Proofs.Ytgpjbmlemnjhfaa
open Go.RowKit
set_option linter.unusedVariables false

def headS (ss : List ByteArray) : ByteArray := ss.headD ByteArray.empty
/-- a valid list of rows -/
def RowsOK (ss : List ByteArray) : Prop := ss.length ≤ 800 ∧ ∀ s ∈ ss, IsRow (bs s) ∧ s.size = (headS ss).size
instance (ss : List ByteArray) : Decidable (RowsOK ss) := by unfold RowsOK; infer_instance
def rowsB (ss : List ByteArray) : Bool := decide (RowsOK ss)
theorem headS_get {ss : List ByteArray} (h : 0 < ss.length) : headS ss = ss[0] := by
  cases ss with
  | nil => simp at h
  | cons a t => rfl
def RowsTo (ss : List ByteArray) (k : Nat) : Prop := ∀ s ∈ ss.take k, IsRow (bs s) ∧ s.size = (headS ss).size
theorem RowsTo.succ {ss : List ByteArray} {k : Nat} (h : RowsTo ss k) (hk : k < ss.length) (h1 : IsRow (bs ss[k])) (h2 : ss[k].size = (headS ss).size) : RowsTo ss (k + 1) := by
  intro s hs
  rw [List.take_succ_eq_append_getElem hk] at hs
  rcases List.mem_append.1 hs with hs | hs
  · exact h s hs
  · simp at hs; subst hs; exact ⟨h1, h2⟩
theorem RowsTo.all {ss : List ByteArray} {k : Nat} (h : RowsTo ss k) (hk : ss.length ≤ k) : ∀ s ∈ ss, IsRow (bs s) ∧ s.size = (headS ss).size := by
  intro s hs
  refine h s ?_
  rwa [List.take_of_length_le hk]
theorem rows_fail {ss : List ByteArray} {k : Nat} (hk : k < ss.length) (h : ¬ (rowB ss[k] = true ∧ ss[k].size = (headS ss).size)) : rowsB ss = false := by
  simp only [rowsB, decide_eq_false_iff_not]
  intro hr
  have := hr.2 _ (List.getElem_mem hk)
  exact h ⟨by simp [rowB, this.1], this.2⟩
theorem rows_long {ss : List ByteArray} (h : 800 < ss.length) : rowsB ss = false := by
  simp only [rowsB, decide_eq_false_iff_not]
  intro hr
  have := hr.1; omega

set_option maxRecDepth 100000 in
set_option maxHeartbeats 1000000 in
theorem l6Rows_any (A : Option Addr) (n c : Nat) (ss : List ByteArray) (w : World) (hr : Rd w A n (strsV ss)) (hz : ∀ s ∈ ss, s.size ≤ maxLen) :
    Calls Try.prog 65 #[.slice A n c] w fun e w' => e = .returned (.bool (rowsB ss)) ∧ ∃ d, w' = w.drewN d := by
  have hn := hr.lenB
  have Hr := Lib.hid hr
  have Hl := Lib.hid hr.slen
  have Hz := Lib.hid hz
  clear hr hz
  go_enter Try.func65, Try.ntmps65
  go_wp2
  go_loopw [7] (fun i wr => ∃ k d : Nat, k ≤ n ∧ i = .int .i64 k ∧ Hid (RowsTo ss k) ∧ wr = w.drewN d) (fun i _ => n - (intOf i).toNat)
  case atStart => exact ⟨0, 0, by omega, rfl, by simp [Hid, RowsTo], rfl⟩
  case round =>
    obtain ⟨k, d, hk, rfl, HT, rfl⟩ := hrel
    by_cases hlt : k < n
    · obtain ⟨b, off, rfl, _, hc⟩ := Hr.out.str hlt
      have hc0 : w.cell? ⟨b, off, none⟩ = some (.string (headS ss)) := by
        obtain ⟨b', off', e, _, h⟩ := Hr.out.str (k := 0) (by omega)
        injection e with e; injection e with e1 e2; subst e1 e2
        rw [headS_get (by have := Hl.out; omega)]; exact h
      have hkl : k < ss.length := by have := Hl.out; omega
      obtain ⟨s, hs⟩ : ∃ s, s = ss[k] := ⟨_, rfl⟩
      rw [← hs] at hc
      have hsm : s.size ≤ maxLen := by rw [hs]; exact Hz.out _ (List.getElem_mem hkl)
      have Hs := Lib.hid hs
      obtain ⟨hd, hh⟩ : ∃ hd, hd = headS ss := ⟨_, rfl⟩
      rw [← hh] at hc0
      have Hh := Lib.hid hh
      have i1 : (k : Int) < (n : Int) := by omega
      clear hs hh
      by_cases h1 : rowB s = true
      · by_cases h2 : s.size = hd.size
        · have HN : Hid (RowsTo ss (k + 1)) := HT.out.succ hkl (by rw [← Hs.out]; simpa [rowB] using h1) (by rw [← Hs.out, ← Hh.out]; exact h2)
          have hne : ((s.size : Int) != (hd.size : Int)) = false := by simp [h2]
          clear h2
          go_wp2_with (go_at_call 40; refine (l1Row_any _ _ hsm).mono ?_; rintro e w' ⟨rfl, m, rfl⟩)
          go_roundw
          case rel => exact ⟨k + 1, _, by omega, by go_num, HN.out, rfl⟩
          case measure => simp [intOf]; omega
        · have E := Lib.hid (rows_fail hkl (by rw [← Hs.out, ← Hh.out]; exact fun h => h2 h.2))
          have hne : ((s.size : Int) != (hd.size : Int)) = true := by simp; omega
          clear h2
          go_wp2_with (go_at_call 40; refine (l1Row_any _ _ hsm).mono ?_; rintro e w' ⟨rfl, m, rfl⟩)
          go_ret
          exact ⟨ret_b E.out, _, rfl⟩
      · have h1' : rowB s = false := by simpa using h1
        have E := Lib.hid (rows_fail hkl (by rw [← Hs.out]; exact fun h => h1 h.1))
        clear h1
        go_wp2_with (go_at_call 40; refine (l1Row_any _ _ hsm).mono ?_; rintro e w' ⟨rfl, m, rfl⟩)
        go_ret
        exact ⟨ret_b E.out, _, rfl⟩
    · by_cases h8 : n ≤ 800
      · have h8' : (n : Int) ≤ 800 := by omega
        have E : Hid (rowsB ss = true) := by
          have := Hl.out
          simp only [Hid, rowsB, decide_eq_true_eq]
          exact ⟨by omega, HT.out.all (by omega)⟩
        clear h8
        go_wp2
        go_ret
        exact ⟨ret_b E.out, _, rfl⟩
      · have h8' : (800 : Int) < (n : Int) := by omega
        have E := Lib.hid (rows_long (ss := ss) (by have := Hl.out; omega))
        clear h8
        go_wp2
        go_ret
        exact ⟨ret_b (by rw [E.out]; simp; omega), _, rfl⟩
set_option maxRecDepth 100000 in
set_option maxHeartbeats 1000000 in
theorem GoodRows_any (A : Option Addr) (n c : Nat) (ss : List ByteArray) (w : World) (hr : Rd w A n (strsV ss)) (hz : ∀ s ∈ ss, s.size ≤ maxLen) :
    Calls Try.prog 67 #[.slice A n c] w fun e w' => e = .returned (.bool (rowsB ss)) ∧ w = w' := by
  have hn := hr.lenB
  have Hr := Lib.hid hr
  have Hl := Lib.hid hr.slen
  have Hz := Lib.hid hz
  clear hr hz
  by_cases h8 : n ≤ 800
  · have h8' : (n : Int) ≤ 800 := by omega
    go_enter Try.func67, Try.ntmps67
    go_wp2
    go_loop [10] (fun i => ∃ k : Nat, k ≤ n ∧ i = .int .i64 k ∧ Hid (RowsTo ss k)) (fun i => n - (intOf i).toNat)
    case atStart => exact ⟨0, by omega, rfl, by simp [Hid, RowsTo]⟩
    case round =>
      obtain ⟨k, hk, rfl, HT⟩ := hrel
      by_cases hlt : k < n
      · obtain ⟨b, off, rfl, _, hc⟩ := Hr.out.str hlt
        have hc0 : w.cell? ⟨b, off, none⟩ = some (.string (headS ss)) := by
          obtain ⟨b', off', e, _, h⟩ := Hr.out.str (k := 0) (by omega)
          injection e with e; injection e with e1 e2; subst e1 e2
          rw [headS_get (by have := Hl.out; omega)]; exact h
        have hkl : k < ss.length := by have := Hl.out; omega
        obtain ⟨s, hs⟩ : ∃ s, s = ss[k] := ⟨_, rfl⟩
        rw [← hs] at hc
        have hsm : s.size ≤ maxLen := by rw [hs]; exact Hz.out _ (List.getElem_mem hkl)
        have Hs := Lib.hid hs
        obtain ⟨hd, hh⟩ : ∃ hd, hd = headS ss := ⟨_, rfl⟩
        rw [← hh] at hc0
        have Hh := Lib.hid hh
        have i1 : (k : Int) < (n : Int) := by omega
        clear hs hh
        by_cases h1 : rowOfB (hd.size : Int) s = true
        · have HN : Hid (RowsTo ss (k + 1)) := by
            simp only [rowOfB, Bool.and_eq_true, decide_eq_true_eq] at h1
            exact HT.out.succ hkl (by rw [← Hs.out]; simpa [rowB] using h1.2) (by rw [← Hs.out, ← Hh.out]; omega)
          go_wp2_with (go_at_call 57; refine (isRowOf_any _ _ _ hsm).mono ?_; rintro e w' ⟨rfl, rfl⟩)
          go_round
          case rel => exact ⟨k + 1, by omega, by go_num, HN.out⟩
          case measure => simp [intOf]; omega
        · have h1' : rowOfB (hd.size : Int) s = false := by simpa using h1
          have E := Lib.hid (rows_fail hkl (by rw [← Hs.out, ← Hh.out]; intro h; apply h1; simp [rowOfB, h.1, h.2]))
          clear h1
          go_wp2_with (go_at_call 57; refine (isRowOf_any _ _ _ hsm).mono ?_; rintro e w' ⟨rfl, rfl⟩)
          go_ret
          exact ⟨ret_b E.out, rfl⟩
      · have E : Hid (rowsB ss = true) := by
          have := Hl.out
          simp only [Hid, rowsB, decide_eq_true_eq]
          exact ⟨by omega, HT.out.all (by omega)⟩
        go_wp2
        go_ret
        exact ⟨ret_b E.out, rfl⟩
  · have h8' : (800 : Int) < (n : Int) := by omega
    have E := Lib.hid (rows_long (ss := ss) (by have := Hl.out; omega))
    clear h8
    go_enter Try.func67, Try.ntmps67
    go_wp2
    go_ret
    exact ⟨ret_b E.out, rfl⟩
end Go.Proofs.Ytgpjbmlemnjhfaa
