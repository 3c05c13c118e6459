/- The walks of the checks of a method and a bell. -/
import Derived.Test.YtbmabfgnmafooaaWalkPa
namespace Go.Proofs.Ytbmabfgnmafooaa
open Go.RowKit
set_option linter.unusedVariables false

noncomputable def askB (nm : ByteArray) (st : Int) (ss : List ByteArray) (bl : Int) : Bool := methB nm st ss && decide (1 ≤ bl ∧ bl ≤ st)
theorem ask_ok {nm : ByteArray} {st : Int} {ss : List ByteArray} {bl : Int} (h : askB nm st ss bl = true) : methB nm st ss = true ∧ 1 ≤ bl ∧ bl ≤ st := by
  simpa [askB] using h
set_option maxRecDepth 100000 in
theorem isBell_any (n b : Int) (w : World) : Calls Try.prog 76 #[.int .i64 n, .int .i64 b] w fun e w' => e = .returned (.bool (decide (1 ≤ b ∧ b ≤ n))) ∧ w = w' := by
  by_cases h1 : 1 ≤ b
  · by_cases h2 : b ≤ n
    · have E : Hid (decide (1 ≤ b ∧ b ≤ n) = true) := by simp [Hid, h1, h2]
      go_enter Try.func76, Try.ntmps76
      go_wp2
      go_ret
      exact ⟨ret_b (by first | exact E.out | (simp; omega) | simp), rfl⟩
    · have E : Hid (decide (1 ≤ b ∧ b ≤ n) = false) := by simp [Hid, h2]
      have h2' : n < b := by omega
      go_enter Try.func76, Try.ntmps76
      go_wp2
      go_ret
      exact ⟨ret_b (by first | exact E.out | (simp; omega) | simp), rfl⟩
  · have E : Hid (decide (1 ≤ b ∧ b ≤ n) = false) := by simp [Hid, h1]
    have h1' : b < 1 := by omega
    go_enter Try.func76, Try.ntmps76
    go_wp2
    go_ret
    exact ⟨ret_b (by first | exact E.out | (simp; omega) | simp), rfl⟩
set_option maxRecDepth 100000 in
set_option maxHeartbeats 1000000 in
theorem l5Asked_any (nm : ByteArray) (st : Int) (A : Option Addr) (n c : Nat) (ss : List ByteArray) (bl : Int) (W : World) (hs : nm.size ≤ 2097152) (hw : (Lit.int .i64 st).wf = true) (hr : Rd W A n (strsV ss)) (hz : ∀ s ∈ ss, s.size ≤ 2097152) (hwb : (Lit.int .i64 bl).wf = true) :
    Calls Try.prog 61 #[.agg #[.string nm, .int .i64 st, .slice A n c], .int .i64 bl] W fun e w' => e = .returned (.bool (askB nm st ss bl)) ∧ Below W.heap.size W w' := by
  obtain ⟨b, hb⟩ : ∃ b, b = methB nm st ss := ⟨_, rfl⟩
  have HC : Hid (∀ W', Below W.heap.size W W' → Calls Try.prog 54 #[.agg #[.string nm, .int .i64 st, .slice A n c]] W' fun e w' => e = .returned (.bool b) ∧ Below W'.heap.size W' w') := fun W' h => by rw [hb]; exact l4Good_any nm st A n c ss W' hs (hr.below h) hz
  obtain ⟨b2, hb2'⟩ : ∃ b, b = decide (1 ≤ bl ∧ bl ≤ st) := ⟨_, rfl⟩
  have HI : Hid (∀ W', Calls Try.prog 58 #[.int .i64 bl, .int .i64 1, .int .i64 st] W' fun e w' => e = .returned (.bool b2) ∧ W' = w') := fun W' => by
    have h := l1In_any bl 1 st W'
    rwa [show inB bl 1 st = b2 from by rw [hb2']; simp [inB]] at h
  have HA : Hid (askB nm st ss bl = (b && b2)) := by unfold Hid askB; rw [hb, hb2']
  have Hbox := Lib.hid (box3 W 27 (.string nm) (.int .i64 st) (.slice A n c))
  clear hb hb2' hr hz
  cases b with
  | true =>
    go_enter Try.func61, Try.ntmps61
    go_wp2_with fail
    obtain ⟨B0, hB0⟩ : ∃ B, B = W.alloc (.cells #[.string nm, .int .i64 st, .slice A n c] 27) := ⟨_, rfl⟩
    rw [← hB0]
    have hbB : Below W.heap.size W B0 := by rw [hB0]; exact below_alloc _ _
    have hsB : W.heap.size < B0.heap.size := by rw [hB0]; simp
    have hcB := Hbox.out
    rw [← hB0] at hcB
    refine (HC.out _ hbB).mono ?_
    rintro e x1 ⟨rfl, hb1⟩
    have B1 : Below W.heap.size W x1 := hbB.trans (hb1.mono hbB.size)
    have K1 := keep3 hb1 hsB hcB
    obtain ⟨k0, k1, k2⟩ := K1
    clear hcB hB0 hb1
    go_wp2_with (go_at_call 58; refine (HI.out _).mono ?_; rintro e w' ⟨rfl, rfl⟩)
    go_ret
    exact ⟨ret_b (by rw [HA.out]; simp), B1⟩
  | false =>
    go_enter Try.func61, Try.ntmps61
    go_wp2_with fail
    refine (HC.out _ (below_alloc _ _)).mono ?_
    rintro e x1 ⟨rfl, hb1⟩
    have B1 : Below W.heap.size W x1 := (below_alloc W _).trans (hb1.mono (by simp))
    clear hb1
    go_wp2
    go_ret
    exact ⟨ret_b (by rw [HA.out]; rfl), B1⟩
end Go.Proofs.Ytbmabfgnmafooaa
