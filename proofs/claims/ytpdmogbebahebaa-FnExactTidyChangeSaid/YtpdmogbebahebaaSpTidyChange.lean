/- TidyChange, of the reference and of the program: what each returns. -/
import Derived.Test.YtpdmogbebahebaaWalkT
namespace Go.Proofs.Ytpdmogbebahebaa
open Go.RowKit
set_option linter.unusedVariables false

noncomputable def out_TC (n : Int) (s : ByteArray) : ByteArray := if inB n 3 8 = true then tidyS n s else { data := #[] }
noncomputable def ok_TC (n : Int) (s : ByteArray) : Bool := inB n 3 8 && tidyB n s
set_option maxRecDepth 100000 in
set_option maxHeartbeats 1000000 in
theorem sp_TidyChange (n : Int) (s : ByteArray) (W : World) (hn : (Lit.int .i64 n).wf = true) (hs : s.size ≤ 1048576) :
    Calls Try.prog 17 #[.int .i64 n, .string s] W fun e w' => e = .returned (.tuple #[.string (out_TC n s), .bool (ok_TC n s)]) ∧ Below W.heap.size W w' := by
  by_cases hst : 3 ≤ n ∧ n ≤ 8
  · obtain ⟨h3, h8⟩ := hst
    have hin : inB n 3 8 = true := inB_true h3 h8
    obtain ⟨t, ht⟩ : ∃ t, t = tidyS n s := ⟨_, rfl⟩
    have hC : ∀ W, Calls Try.prog 52 #[.int .i64 n, .string s] W fun e w' => e = .returned (.string t) ∧ Below W.heap.size W w' := fun W => by rw [ht]; exact l3Tidy_any n s W h3 h8 hs
    have HC := Lib.hid hC
    cases hb : tidyB n s with
    | true =>
      have E : Hid (out_TC n s = t ∧ ok_TC n s = true) := by unfold Hid out_TC ok_TC; rw [hin, hb, ht]; simp
      have hne : t.toList.isEmpty = false := by
        have h1 := isCh_len (of_cb (tidy_pos hb))
        rw [← ht, size_bs] at h1
        rw [List.isEmpty_eq_false_iff]
        intro e
        have e2 : bs t = [] := by rw [ByteArray.toList_eq] at e; exact e
        have e3 : (bs t).length = 0 := by rw [e2]; rfl
        rw [size_bs] at e3
        omega
      have hne2 : (t.toList == []) = false := by cases h : t.toList with | nil => rw [h] at hne; exact absurd hne (by decide) | cons a b => rfl
      have hne3 : ¬ t.toList = [] := by intro e; rw [e] at hne; simp at hne
      clear hC ht
      go_enter Try.func17, Try.ntmps17
      go_wp2_with fail
      refine (l1In_any _ _ _ _).mono ?_
      rintro e w' ⟨rfl, rfl⟩
      go_wp2_with fail
      refine (HC.out _).mono ?_
      rintro e w1 ⟨rfl, hb1⟩
      go_wp2_with fail
      refine (HC.out _).mono ?_
      rintro e w2 ⟨rfl, hb2⟩
      go_wp2
      go_ret2
      exact ⟨ret_tb E.out.1 E.out.2, hb1.trans (hb2.mono hb1.size)⟩
    | false =>
      have E : Hid (out_TC n s = { data := #[] } ∧ ok_TC n s = false) := by unfold Hid out_TC ok_TC; rw [hin, hb, tidy_neg hb]; simp
      have ht2 : t = { data := #[] } := by rw [ht]; exact tidy_neg hb
      clear hC ht
      subst ht2
      go_enter Try.func17, Try.ntmps17
      go_wp2_with fail
      refine (l1In_any _ _ _ _).mono ?_
      rintro e w' ⟨rfl, rfl⟩
      go_wp2_with fail
      refine (HC.out _).mono ?_
      rintro e w1 ⟨rfl, hb1⟩
      go_wp2
      go_ret2
      exact ⟨ret_tb E.out.1 E.out.2, hb1⟩
  · have hin : inB n 3 8 = false := inB_false (by omega)
    have E : Hid (out_TC n s = { data := #[] } ∧ ok_TC n s = false) := by unfold Hid out_TC ok_TC; rw [hin]; simp
    clear hst
    go_enter Try.func17, Try.ntmps17
    go_wp2_with (go_at_call 51; refine (l1In_any _ _ _ _).mono ?_; rintro e w' ⟨rfl, rfl⟩)
    go_ret2
    exact ⟨ret_tb E.out.1 E.out.2, Below.refl _ _⟩
set_option maxRecDepth 100000 in
set_option maxHeartbeats 1000000 in
theorem im_TidyChange (n : Int) (s : ByteArray) (W : World) (hn : (Lit.int .i64 n).wf = true) (hs : s.size ≤ 1048576) :
    Calls Try.prog 18 #[.int .i64 n, .string s] W fun e w' => e = .returned (.tuple #[.string (out_TC n s), .bool (ok_TC n s)]) ∧ Below W.heap.size W w' := by
  by_cases hst : 3 ≤ n ∧ n ≤ 8
  · obtain ⟨h3, h8⟩ := hst
    have hin : inB n 3 8 = true := inB_true h3 h8
    have e1 : out_TC n s = tidyS n s := by unfold out_TC; rw [if_pos hin]
    have e2 : ok_TC n s = tidyB n s := by unfold ok_TC; rw [hin]; rfl
    rw [e1, e2]
    exact TidyChange_good n s W h3 h8 hs
  · have hin : inB n 3 8 = false := inB_false (by omega)
    have E : Hid (out_TC n s = { data := #[] } ∧ ok_TC n s = false) := by unfold Hid out_TC ok_TC; rw [hin]; simp
    clear hst
    go_enter Try.func18, Try.ntmps18
    go_wp2_with (go_at_call 48; refine (isStage_any _ _).mono ?_; rintro e w' ⟨rfl, rfl⟩)
    go_ret2
    exact ⟨ret_tb E.out.1 E.out.2, Below.refl _ _⟩
end Go.Proofs.Ytpdmogbebahebaa
