/- NotationText, of the reference and of the program: what each returns. -/
import Derived.Test.YtpdmogbebahebaaWalkL
namespace Go.Proofs.Ytpdmogbebahebaa
open Go.RowKit
set_option linter.unusedVariables false

theorem small2 {ss : List ByteArray} (h : ∀ s ∈ ss, s.size ≤ 1048576) : ∀ s ∈ ss, s.size ≤ 2097152 := fun s hs => by have := h s hs; omega
theorem chs_small {n : Int} {ss : List ByteArray} (h : chsB n ss = true) : ss.length ≤ 40 ∧ 1 ≤ ss.length ∧ ∀ s ∈ ss, s.size ≤ 8 := by
  have h1 := of_cb h
  refine ⟨h1.2.1, h1.1, fun s hs => ?_⟩
  have h2 := of_cb (h1.2.2 s hs)
  have h3 := isCh_len h2
  have := h2.2.1
  rw [size_bs] at h3; omega
noncomputable def out_NT (n : Int) (ss : List ByteArray) : ByteArray := if chsB n ss = true then mkS (txtGo none ss) else { data := #[] }
set_option maxRecDepth 100000 in
theorem sp_NotationText (n : Int) (A : Option Addr) (m c : Nat) (ss : List ByteArray) (W : World) (hn : (Lit.int .i64 n).wf = true) (hr : Rd W A m (strsV ss)) (hz : ∀ s ∈ ss, s.size ≤ 1048576) (hl : ss.length ≤ 1048576) :
    Calls Try.prog 35 #[.int .i64 n, .slice A m c] W fun e w' => e = .returned (.tuple #[.string (out_NT n ss), .bool (chsB n ss)]) ∧ Below W.heap.size W w' := by
  have Hr := Lib.hid hr
  have Hl := Lib.hid hr.slen
  have Hz := Lib.hid (small2 hz)
  clear hr hz
  cases hb : chsB n ss with
  | true =>
    have hs := chs_small hb
    have Hs := Lib.hid hs
    have hm : m ≤ 40 := by have := Hl.out; omega
    have E : Hid (out_NT n ss = mkS (txtGo none ss)) := by unfold Hid out_NT; rw [if_pos hb]
    clear hs
    go_enter Try.func35, Try.ntmps35
    go_wp2_with (first | (go_at_call 70; refine (l3List_any _ _ _ _ _ _ Hr.out Hz.out).mono ?_; rintro e w' ⟨rfl, rfl⟩) | (go_at_call 71; refine (l3Text_any _ _ _ _ _ Hr.out Hs.out.2.2 hm).mono ?_; rintro e w' ⟨rfl, rfl⟩))
    go_ret2
    exact ⟨ret_sb E.out, Below.refl _ _⟩
  | false =>
    have E : Hid (out_NT n ss = { data := #[] }) := by unfold Hid out_NT; rw [hb, if_neg (by simp)]
    go_enter Try.func35, Try.ntmps35
    go_wp2_with (go_at_call 70; refine (l3List_any _ _ _ _ _ _ Hr.out Hz.out).mono ?_; rintro e w' ⟨rfl, rfl⟩)
    go_ret2
    exact ⟨ret_sb E.out, Below.refl _ _⟩
set_option maxRecDepth 100000 in
theorem im_NotationText (n : Int) (A : Option Addr) (m c : Nat) (ss : List ByteArray) (W : World) (hn : (Lit.int .i64 n).wf = true) (hr : Rd W A m (strsV ss)) (hz : ∀ s ∈ ss, s.size ≤ 1048576) (hl : ss.length ≤ 1048576) :
    Calls Try.prog 37 #[.int .i64 n, .slice A m c] W fun e w' => e = .returned (.tuple #[.string (out_NT n ss), .bool (chsB n ss)]) ∧ Below W.heap.size W w' := by
  have Hr := Lib.hid hr
  have Hl := Lib.hid hr.slen
  have Hz := Lib.hid (small2 hz)
  clear hr hz
  cases hb : chsB n ss with
  | true =>
    have hs := chs_small hb
    have Hs := Lib.hid hs
    have hm : m ≤ 40 := by have := Hl.out; omega
    have E : Hid (out_NT n ss = mkS (txtGo none ss)) := by unfold Hid out_NT; rw [if_pos hb]
    clear hs
    go_enter Try.func37, Try.ntmps37
    go_wp2_with (first | (go_at_call 72; refine (areChanges_any _ _ _ _ _ _ Hr.out Hz.out).mono ?_; rintro e w1 ⟨rfl, hb1⟩) | (go_at_call 73; refine (notationText_any _ _ _ _ _ (Hr.out.below hb1) Hs.out.2.2 hm).mono ?_; rintro e w' ⟨rfl, rfl⟩))
    go_ret2
    exact ⟨ret_sb E.out, hb1⟩
  | false =>
    have E : Hid (out_NT n ss = { data := #[] }) := by unfold Hid out_NT; rw [hb, if_neg (by simp)]
    go_enter Try.func37, Try.ntmps37
    go_wp2_with (go_at_call 72; refine (areChanges_any _ _ _ _ _ _ Hr.out Hz.out).mono ?_; rintro e w1 ⟨rfl, hb1⟩)
    go_ret2
    exact ⟨ret_sb E.out, hb1⟩
end Go.Proofs.Ytpdmogbebahebaa
