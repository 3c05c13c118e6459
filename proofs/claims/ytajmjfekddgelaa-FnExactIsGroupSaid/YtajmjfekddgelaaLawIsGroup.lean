/- FnExactIsGroup returns true at every input. No condition. -/
import Derived.Test.YtajmjfekddgelaaSpIsGroup
import Derived.Test.YtajmjfekddgelaaOpen
namespace Go.Proofs.Ytajmjfekddgelaa
open Go.RowKit
set_option linter.unusedVariables false

set_option maxRecDepth 100000 in
set_option maxHeartbeats 2000000 in
theorem law_FnExactIsGroup (a0 : Option Addr) (len0 cap0 : Nat) (z0 : List ByteArray) {w : World} (w0 : StrsIn w a0 len0 z0) :
    Calls Try.prog 7 #[.slice a0 len0 cap0] w fun e w' => e = .returned (.bool true) ∧ Below w.heap.size w w' := by
  obtain ⟨R0, z0m⟩ := w0
  have l0 := R0.lenB
  obtain ⟨left0, hleft0⟩ : ∃ l : Int, l = szL z0 1048576 := ⟨_, rfl⟩
  have g0 := szL_ge z0 1048576
  by_cases hneg0 : left0 < 0
  · have hC : ∀ W, Rd W a0 len0 (strsV z0) → Calls Try.prog 9 #[.slice a0 len0 cap0, .int .i64 1048576] W fun e w' => e = .returned (.int .i64 left0) ∧ W = w' := fun W h => by rw [hleft0]; exact szStringS_any a0 len0 cap0 z0 1048576 W (by omega) (by omega) h z0m
    have HC := Lib.hid hC
    clear hC hleft0 g0 z0m
    go_enter Try.func7, Try.ntmps7
    go_wp2_with fail
    refine (HC.out _ R0).mono ?_
    rintro e w' ⟨rfl, rfl⟩
    go_wp2
    go_ret
    exact ⟨rfl, Below.refl _ _⟩
  have hC0 : ∀ W, Rd W a0 len0 (strsV z0) → Calls Try.prog 9 #[.slice a0 len0 cap0, .int .i64 1048576] W fun e w' => e = .returned (.int .i64 left0) ∧ W = w' := fun W h => by rw [hleft0]; exact szStringS_any a0 len0 cap0 z0 1048576 W (by omega) (by omega) h z0m
  have HC0 := Lib.hid hC0
  have hsz0 := szL_le (ss := z0) (l := 1048576) (by omega)
  rw [← hleft0] at hsz0
  have hn0 : z0.length ≤ 1048576 := by omega
  have hm0 : len0 ≤ 1048576 := by have := R0.slen; omega
  have hz0 : Hid (∀ s ∈ z0, s.size ≤ 1048576) := fun s hs => by have := hsz0.2.2 s hs; omega
  have p0 : 0 ≤ left0 := by omega
  have q0 : left0 ≤ 1048576 := by omega
  clear hC0 hleft0 g0 hneg0 hsz0 z0m
  go_enter Try.func7, Try.ntmps7
  go_wp2_with fail
  refine (HC0.out _ R0).mono ?_
  rintro e w' ⟨rfl, rfl⟩
  go_wp2_with fail
  refine (toStringS_any a0 len0 cap0 z0 _ (by omega) R0).mono ?_
  rintro e x1 ⟨As0, ns0, cs0, rfl, Os0, hb_x1⟩
  have sz_x1 := hb_x1.size
  have ACC := hb_x1
  clear hb_x1
  go_wp2_with fail
  refine (sp_IsGroup As0 ns0 cs0 z0 _ Os0.rd hz0.out hn0).mono ?_
  rintro e x2 ⟨rfl, hb_x2⟩
  have sz_x2 := hb_x2.size
  replace Os0 := Os0.below hb_x2
  replace ACC := ACC.trans (hb_x2.mono ACC.size)
  clear hb_x2
  clear Os0
  go_wp2_with fail
  refine (toStringS_any a0 len0 cap0 z0 _ (by omega) (R0.below ACC)).mono ?_
  rintro e x3 ⟨Ax0, nx0, cx0, rfl, Ox0, hb_x3⟩
  have sz_x3 := hb_x3.size
  replace ACC := ACC.trans (hb_x3.mono ACC.size)
  clear hb_x3
  go_wp2_with fail
  refine (im_IsGroup Ax0 nx0 cx0 z0 _ Ox0.rd hz0.out hn0).mono ?_
  rintro e x4 ⟨rfl, hb_x4⟩
  have sz_x4 := hb_x4.size
  replace Ox0 := Ox0.below hb_x4
  replace ACC := ACC.trans (hb_x4.mono ACC.size)
  clear hb_x4
  go_wp2_with fail
  refine (toStringS_any a0 len0 cap0 z0 _ (by omega) (R0.below ACC)).mono ?_
  rintro e x5 ⟨Ay0, ny0, cy0, rfl, Oy0, hb_x5⟩
  have sz_x5 := hb_x5.size
  replace Ox0 := Ox0.below hb_x5
  replace ACC := ACC.trans (hb_x5.mono ACC.size)
  clear hb_x5
  go_wp2_with fail
  refine (eqStringS_eq Ax0 Ay0 nx0 ny0 cx0 cy0 z0 _ Ox0.rd Oy0.rd).mono ?_
  rintro e x6 ⟨rfl, hb_x6⟩
  have sz_x6 := hb_x6.size
  replace Ox0 := Ox0.below hb_x6
  replace Oy0 := Oy0.below hb_x6
  replace ACC := ACC.trans (hb_x6.mono ACC.size)
  clear hb_x6
  clear Oy0
  go_wp2
  go_ret
  exact ⟨rfl, ACC⟩
end Go.Proofs.Ytajmjfekddgelaa
