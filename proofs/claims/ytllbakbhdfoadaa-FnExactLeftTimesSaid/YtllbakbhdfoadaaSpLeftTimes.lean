/- LeftTimes, of the reference and of the program: what each returns. -/
import Derived.Test.YtllbakbhdfoadaaWalkU
namespace Go.Proofs.Ytllbakbhdfoadaa
open Go.RowKit
set_option linter.unusedVariables false

set_option maxRecDepth 100000 in
set_option maxHeartbeats 2000000 in
theorem sp_LeftTimes (a : ByteArray) (A : Option Addr) (n c : Nat) (ss : List ByteArray) (W : World) (hs : a.size ≤ 1048576) (hr : Rd W A n (strsV ss)) (hz : ∀ s ∈ ss, s.size ≤ 1048576) (hl : ss.length ≤ 1048576) :
    Calls Try.prog 46 #[.string a, .slice A n c] W (RetSB 9 (strsV (out_LeftTimes a ss)) (ok_LT a ss) W) := by
  have Hr := Lib.hid hr
  have Hz := Lib.hid (max_of_small' hz)
  have Hl := Lib.hid hr.slen
  have ha : a.size ≤ maxLen := by unfold maxLen; omega
  clear hr hz
  by_cases hg : rowB a = true
  · have HA : Hid (IsRow (bs a)) := by simpa [Hid, rowB] using hg
    by_cases hq : rowsB ss = true
    · by_cases h0 : n = 0
      · have h1 : rowsOfB a.size ss = true := by
          have := Hl.out
          unfold rowsOfB; rw [hq, decide_eq_true (by omega)]; rfl
        have E : Hid (out_LeftTimes a ss = ss.map (timS a) ∧ ok_LT a ss = true) := by
          have h : ok_LT a ss = true := by unfold ok_LT; rw [hg, h1]; rfl
          unfold Hid out_LeftTimes; rw [h]; simp
        have HE := Lib.hid (rowsOf_each h1)
        clear h1
        subst h0
        go_enter Try.func46, Try.ntmps46
        go_wp2_with first
          | (go_at_call 73; refine (l1Row_any _ _ ha).mono ?_; rintro e w' ⟨rfl, d1, rfl⟩)
          | (go_at_call 78; refine (l6Rows_any _ _ _ _ _ (Hr.out.below (below_drewN' (Below.refl _ _) _)) Hz.out).mono ?_; rintro e w' ⟨rfl, d, rfl⟩)
          | (go_at_call 79; refine (l6Left_any _ _ _ _ _ _ (by omega) (Hr.out.below (below_drewN' (Below.refl _ _) _)) HA.out HE.out).mono ?_; rintro e w1 ⟨A1, n1, c1, rfl, ho1, hb1⟩)
        go_ret2
        refine ⟨A1, n1, c1, ret_slb E.out.2, ?_, (below_drewN' (Below.refl _ _) _ : Below W.heap.size W _).trans hb1⟩
        rw [E.out.1]; exact ho1
      · obtain ⟨b, off, rfl, _, hc⟩ := Hr.out.str (k := 0) (by omega)
        rw [Nat.add_zero, ← headS_get (by have := Hl.out; omega)] at hc
        obtain ⟨x, hx⟩ : ∃ x, x = headS ss := ⟨_, rfl⟩
        rw [← hx] at hc
        have i1 : (0 : Int) < (n : Int) := by omega
        have F : Hid (rowsOfB a.size ss = decide ((x.size : Int) = (a.size : Int))) := by
          have := Hl.out
          unfold Hid rowsOfB; rw [hq, decide_eq_false (by omega), ← hx]; simp
        clear hx
        by_cases hxa : x.size = a.size
        · have i2 : ((x.size : Int) != (a.size : Int)) = false := by simp; omega
          have h1 : rowsOfB a.size ss = true := by rw [F.out]; exact decide_eq_true (by omega)
          have E : Hid (out_LeftTimes a ss = ss.map (timS a) ∧ ok_LT a ss = true) := by
            have h : ok_LT a ss = true := by unfold ok_LT; rw [hg, h1]; rfl
            unfold Hid out_LeftTimes; rw [h]; simp
          have HE := Lib.hid (rowsOf_each h1)
          have hn : n ≤ 800 := by have := rowsB_len hq; have := Hl.out; omega
          clear h1 F hxa h0
          go_enter Try.func46, Try.ntmps46
          go_wp2_with first
            | (go_at_call 73; refine (l1Row_any _ _ ha).mono ?_; rintro e w' ⟨rfl, d1, rfl⟩)
            | (go_at_call 78; refine (l6Rows_any _ _ _ _ _ (Hr.out.below (below_drewN' (Below.refl _ _) _)) Hz.out).mono ?_; rintro e w' ⟨rfl, d, rfl⟩)
            | (go_at_call 79; refine (l6Left_any _ _ _ _ _ _ hn (Hr.out.below (below_drewN' (Below.refl _ _) _)) HA.out HE.out).mono ?_; rintro e w1 ⟨A1, n1, c1, rfl, ho1, hb1⟩)
          go_ret2
          refine ⟨A1, n1, c1, ret_slb E.out.2, ?_, (below_drewN' (Below.refl _ _) _ : Below W.heap.size W _).trans hb1⟩
          rw [E.out.1]; exact ho1
        · have i2 : ((x.size : Int) != (a.size : Int)) = true := by simp; omega
          have E : Hid (out_LeftTimes a ss = [] ∧ ok_LT a ss = false) := by
            have h : ok_LT a ss = false := by unfold ok_LT; rw [F.out, decide_eq_false (by omega), Bool.and_false]
            unfold Hid out_LeftTimes; rw [h]; simp
          clear F hxa h0
          go_enter Try.func46, Try.ntmps46
          go_wp2_with first
            | (go_at_call 73; refine (l1Row_any _ _ ha).mono ?_; rintro e w' ⟨rfl, d1, rfl⟩)
            | (go_at_call 78; refine (l6Rows_any _ _ _ _ _ (Hr.out.below (below_drewN' (Below.refl _ _) _)) Hz.out).mono ?_; rintro e w' ⟨rfl, d, rfl⟩)
          go_ret2
          refine ⟨none, 0, 0, ret_slb E.out.2, ?_, below_drewN' (Below.refl _ _) _⟩
          rw [E.out.1]; exact Own.nil _ _ _ _
    · have hq' : rowsB ss = false := by simpa using hq
      have E : Hid (out_LeftTimes a ss = [] ∧ ok_LT a ss = false) := by
        have h : ok_LT a ss = false := by unfold ok_LT rowsOfB; rw [hq', Bool.false_and, Bool.and_false]
        unfold Hid out_LeftTimes; rw [h]; simp
      clear hq
      go_enter Try.func46, Try.ntmps46
      go_wp2_with first
        | (go_at_call 73; refine (l1Row_any _ _ ha).mono ?_; rintro e w' ⟨rfl, d1, rfl⟩)
        | (go_at_call 78; refine (l6Rows_any _ _ _ _ _ (Hr.out.below (below_drewN' (Below.refl _ _) _)) Hz.out).mono ?_; rintro e w' ⟨rfl, d, rfl⟩)
      go_ret2
      refine ⟨none, 0, 0, ret_slb E.out.2, ?_, below_drewN' (Below.refl _ _) _⟩
      rw [E.out.1]; exact Own.nil _ _ _ _
  · have hg' : rowB a = false := by simpa using hg
    have E : Hid (out_LeftTimes a ss = [] ∧ ok_LT a ss = false) := by
      have h : ok_LT a ss = false := by unfold ok_LT; rw [hg']; rfl
      unfold Hid out_LeftTimes; rw [h]; simp
    clear hg
    go_enter Try.func46, Try.ntmps46
    go_wp2_with first
      | (go_at_call 73; refine (l1Row_any _ _ ha).mono ?_; rintro e w' ⟨rfl, d1, rfl⟩)
      | (go_at_call 78; refine (l6Rows_any _ _ _ _ _ (Hr.out.below (below_drewN' (Below.refl _ _) _)) Hz.out).mono ?_; rintro e w' ⟨rfl, d, rfl⟩)
    go_ret2
    refine ⟨none, 0, 0, ret_slb E.out.2, ?_, below_drewN' (Below.refl _ _) _⟩
    rw [E.out.1]; exact Own.nil _ _ _ _
set_option maxRecDepth 100000 in
set_option maxHeartbeats 2000000 in
theorem im_LeftTimes (a : ByteArray) (A : Option Addr) (n c : Nat) (ss : List ByteArray) (W : World) (hs : a.size ≤ 1048576) (hr : Rd W A n (strsV ss)) (hz : ∀ s ∈ ss, s.size ≤ 1048576) (hl : ss.length ≤ 1048576) :
    Calls Try.prog 48 #[.string a, .slice A n c] W (RetSB 9 (strsV (out_LeftTimes a ss)) (ok_LT a ss) W) := by
  have Hr := Lib.hid hr
  have Hz := Lib.hid (max_of_small' hz)
  have Hl := Lib.hid hr.slen
  have ha : a.size ≤ maxLen := by unfold maxLen; omega
  clear hr hz
  by_cases hg : rowB a = true
  · by_cases hq : rowsOfB a.size ss = true
    · have E : Hid (out_LeftTimes a ss = ss.map (timS a) ∧ ok_LT a ss = true) := by
        have h : ok_LT a ss = true := by unfold ok_LT; rw [hg, hq]; rfl
        unfold Hid out_LeftTimes; rw [h]; simp
      have HA : Hid (IsRow (bs a)) := by simpa [Hid, rowB] using hg
      have HE := Lib.hid (rowsOf_each hq)
      have hn : n ≤ 800 := by
        have h := hq
        simp only [rowsOfB, Bool.and_eq_true] at h
        have := rowsB_len h.1; have := Hl.out; omega
      go_enter Try.func48, Try.ntmps48
      go_wp2_with first
        | (go_at_call 76; refine (GoodRow_any _ _ ha).mono ?_; rintro e w' ⟨rfl, rfl⟩)
        | (go_at_call 80; refine (areRowsOf_any _ _ _ _ _ _ Hr.out Hz.out).mono ?_; rintro e w' ⟨rfl, rfl⟩)
        | (go_at_call 81; refine (leftTimes_any _ _ _ _ _ _ hn Hr.out HA.out HE.out).mono ?_; rintro e w1 ⟨A1, n1, c1, rfl, ho1, hb1⟩)
      go_ret2
      refine ⟨A1, n1, c1, ret_slb E.out.2, ?_, hb1⟩
      rw [E.out.1]; exact ho1
    · have hq' : rowsOfB a.size ss = false := by simpa using hq
      have E : Hid (out_LeftTimes a ss = [] ∧ ok_LT a ss = false) := by
        have h : ok_LT a ss = false := by unfold ok_LT; rw [hg, hq']; rfl
        unfold Hid out_LeftTimes; rw [h]; simp
      clear hq
      go_enter Try.func48, Try.ntmps48
      go_wp2_with first
        | (go_at_call 76; refine (GoodRow_any _ _ ha).mono ?_; rintro e w' ⟨rfl, rfl⟩)
        | (go_at_call 80; refine (areRowsOf_any _ _ _ _ _ _ Hr.out Hz.out).mono ?_; rintro e w' ⟨rfl, rfl⟩)
      go_ret2
      refine ⟨none, 0, 0, ret_slb E.out.2, ?_, Below.refl _ _⟩
      rw [E.out.1]; exact Own.nil _ _ _ _
  · have hg' : rowB a = false := by simpa using hg
    have E : Hid (out_LeftTimes a ss = [] ∧ ok_LT a ss = false) := by
      have h : ok_LT a ss = false := by unfold ok_LT; rw [hg']; rfl
      unfold Hid out_LeftTimes; rw [h]; simp
    clear hg
    go_enter Try.func48, Try.ntmps48
    go_wp2_with first
      | (go_at_call 76; refine (GoodRow_any _ _ ha).mono ?_; rintro e w' ⟨rfl, rfl⟩)
      | (go_at_call 80; refine (areRowsOf_any _ _ _ _ _ _ Hr.out Hz.out).mono ?_; rintro e w' ⟨rfl, rfl⟩)
    go_ret2
    refine ⟨none, 0, 0, ret_slb E.out.2, ?_, Below.refl _ _⟩
    rw [E.out.1]; exact Own.nil _ _ _ _
end Go.Proofs.Ytllbakbhdfoadaa
