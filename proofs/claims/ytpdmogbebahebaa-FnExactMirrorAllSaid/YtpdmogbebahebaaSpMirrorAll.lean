/- MirrorAll, of the reference and of the program: what each returns. -/
import Derived.Test.YtpdmogbebahebaaWalkM
namespace Go.Proofs.Ytpdmogbebahebaa
open Go.RowKit
set_option linter.unusedVariables false

def ok_MA (ss : List ByteArray) : Bool := decide (ss.length ≤ 20)
def out_MirrorAll (ss : List ByteArray) : List ByteArray := if ok_MA ss then mirL ss else []
theorem mirL_length {α : Type} (l : List α) : (mirL l).length = l.length + (l.length - 1) := by simp [mirL]
theorem len_MirrorAll (ss : List ByteArray) (hn : ss.length ≤ 1048576) : (out_MirrorAll ss).length ≤ 4194304 := by
  unfold out_MirrorAll
  split
  · rw [mirL_length]; omega
  · simp
set_option maxRecDepth 100000 in
set_option maxHeartbeats 1000000 in
theorem sp_MirrorAll (A : Option Addr) (n c : Nat) (ss : List ByteArray) (W : World) (hr : Rd W A n (strsV ss)) (hz : ∀ s ∈ ss, s.size ≤ 1048576) (hl : ss.length ≤ 1048576) :
    Calls Try.prog 39 #[.slice A n c] W (RetSB 9 (strsV (out_MirrorAll ss)) (ok_MA ss) W) := by
  have Hr := Lib.hid hr
  have hln := hr.slen
  have hn : n ≤ 1048576 := by omega
  have Hl := Lib.hid hln
  clear hr hz hln
  by_cases h40 : 40 < n
  · have h40' : 40 < (n : Int) := by omega
    have E : Hid (out_MirrorAll ss = [] ∧ ok_MA ss = false) := by
      have := Hl.out
      unfold Hid out_MirrorAll ok_MA
      rw [decide_eq_false (by omega)]; simp
    clear h40
    go_enter Try.func39, Try.ntmps39
    go_wp2
    go_ret2
    refine ⟨none, 0, 0, ret_slb E.out.2, ?_, Below.refl _ _⟩
    rw [E.out.1]; exact Own.nil _ _ _ _
  · have h40' : (n : Int) ≤ 40 := by omega
    clear h40
    by_cases h20 : n ≤ 20
    · have E : Hid (out_MirrorAll ss = mirL ss ∧ ok_MA ss = true) := by
        have := Hl.out
        unfold Hid out_MirrorAll ok_MA
        rw [decide_eq_true (by omega)]; simp
      go_enter Try.func39, Try.ntmps39
      go_wp2_with fail
      refine (l3Mirror_any A n c ss _ hn Hr.out).mono ?_
      rintro e w1 ⟨A1, n1, c1, rfl, ho1, hb1⟩
      have hl1 := ho1.rd.slen
      rw [mirL_length] at hl1
      have hn1 : (n1 : Int) ≤ 40 := by have := Hl.out; omega
      have Hl1 := Lib.hid hl1
      clear hl1 ho1
      go_wp2_with fail
      refine (l3Mirror_any A n c ss _ hn (Hr.out.below hb1)).mono ?_
      rintro e w2 ⟨A2, n2, c2, rfl, ho2, hb2⟩
      go_wp2
      go_ret2
      refine ⟨A2, n2, c2, ret_slb E.out.2, ?_, hb1.trans (hb2.mono hb1.size)⟩
      rw [E.out.1]; exact ho2.mono hb1.size (Nat.le_refl _)
    · have E : Hid (out_MirrorAll ss = [] ∧ ok_MA ss = false) := by
        have := Hl.out
        unfold Hid out_MirrorAll ok_MA
        rw [decide_eq_false (by omega)]; simp
      go_enter Try.func39, Try.ntmps39
      go_wp2_with fail
      refine (l3Mirror_any A n c ss _ hn Hr.out).mono ?_
      rintro e w1 ⟨A1, n1, c1, rfl, ho1, hb1⟩
      have hl1 := ho1.rd.slen
      rw [mirL_length] at hl1
      have hn1 : 40 < (n1 : Int) := by have := Hl.out; omega
      clear hl1 ho1
      go_wp2
      go_ret2
      refine ⟨none, 0, 0, ret_slb E.out.2, ?_, hb1⟩
      rw [E.out.1]; exact Own.nil _ _ _ _
set_option maxRecDepth 100000 in
set_option maxHeartbeats 1000000 in
theorem im_MirrorAll (A : Option Addr) (n c : Nat) (ss : List ByteArray) (W : World) (hr : Rd W A n (strsV ss)) (hz : ∀ s ∈ ss, s.size ≤ 1048576) (hl : ss.length ≤ 1048576) :
    Calls Try.prog 40 #[.slice A n c] W (RetSB 9 (strsV (out_MirrorAll ss)) (ok_MA ss) W) := by
  have Hr := Lib.hid hr
  have hln := hr.slen
  have hn : n ≤ 1048576 := by omega
  have Hl := Lib.hid hln
  clear hr hz hln
  by_cases h20 : n ≤ 20
  · have h20' : (n : Int) ≤ 20 := by omega
    have E : Hid (out_MirrorAll ss = mirL ss ∧ ok_MA ss = true) := by
      have := Hl.out
      unfold Hid out_MirrorAll ok_MA
      rw [decide_eq_true (by omega)]; simp
    clear h20
    go_enter Try.func40, Try.ntmps40
    go_wp2_with fail
    refine (mirrored_any A n c ss _ hn Hr.out).mono ?_
    rintro e w1 ⟨A1, n1, c1, rfl, ho1, hb1⟩
    go_wp2
    go_ret2
    refine ⟨A1, n1, c1, ret_slb E.out.2, ?_, hb1⟩
    rw [E.out.1]; exact ho1
  · have E : Hid (out_MirrorAll ss = [] ∧ ok_MA ss = false) := by
      have := Hl.out
      unfold Hid out_MirrorAll ok_MA
      rw [decide_eq_false (by omega)]; simp
    rcases (show 40 < (n : Int) ∨ (20 < (n : Int) ∧ (n : Int) ≤ 40) by omega) with h | ⟨h, h'⟩
    all_goals
      clear h20
      go_enter Try.func40, Try.ntmps40
      go_wp2
      go_ret2
      refine ⟨none, 0, 0, ret_slb E.out.2, ?_, Below.refl _ _⟩
      rw [E.out.1]; exact Own.nil _ _ _ _
end Go.Proofs.Ytpdmogbebahebaa
