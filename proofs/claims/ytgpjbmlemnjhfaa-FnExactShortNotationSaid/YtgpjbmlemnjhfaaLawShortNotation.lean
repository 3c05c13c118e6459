/- FnExactShortNotation returns true at every input. No condition. -/
import Derived.Test.YtgpjbmlemnjhfaaSpShortNotation
import Derived.Test.YtgpjbmlemnjhfaaWalkS
import Derived.Test.YtgpjbmlemnjhfaaOpen
namespace Go.Proofs.Ytgpjbmlemnjhfaa
open Go.RowKit
set_option linter.unusedVariables false

set_option maxRecDepth 100000 in
set_option maxHeartbeats 2000000 in
theorem law_FnExactShortNotation (a0 : Int) (a1 : Option Addr) (len1 cap1 : Nat) (z1 : List ByteArray) {w : World} (w0 : (Lit.int .i64 a0).wf = true) (w1 : StrsIn w a1 len1 z1) :
    Calls Try.prog 5 #[.int .i64 a0, .slice a1 len1 cap1] w fun e w' => e = .returned (.bool true) ∧ Below w.heap.size w w' := by
  obtain ⟨R1, z1m⟩ := w1
  have l1 := R1.lenB
  obtain ⟨left1, hleft1⟩ : ∃ l : Int, l = szL z1 1048576 := ⟨_, rfl⟩
  have g1 := szL_ge z1 1048576
  by_cases hneg1 : left1 < 0
  · have hC : ∀ W, Rd W a1 len1 (strsV z1) → Calls Try.prog 17 #[.slice a1 len1 cap1, .int .i64 1048576] W fun e w' => e = .returned (.int .i64 left1) ∧ W = w' := fun W h => by rw [hleft1]; exact szStringS_any a1 len1 cap1 z1 1048576 W (by omega) (by omega) h z1m
    have HC := Lib.hid hC
    clear hC hleft1 g1 z1m
    go_enter Try.func5, Try.ntmps5
    go_wp2_with fail
    refine (HC.out _ R1).mono ?_
    rintro e w' ⟨rfl, rfl⟩
    go_wp2
    go_ret
    exact ⟨rfl, Below.refl _ _⟩
  have hC1 : ∀ W, Rd W a1 len1 (strsV z1) → Calls Try.prog 17 #[.slice a1 len1 cap1, .int .i64 1048576] W fun e w' => e = .returned (.int .i64 left1) ∧ W = w' := fun W h => by rw [hleft1]; exact szStringS_any a1 len1 cap1 z1 1048576 W (by omega) (by omega) h z1m
  have HC1 := Lib.hid hC1
  have hsz1 := szL_le (ss := z1) (l := 1048576) (by omega)
  rw [← hleft1] at hsz1
  have hn1 : z1.length ≤ 1048576 := by omega
  have hm1 : len1 ≤ 1048576 := by have := R1.slen; omega
  have hz1 : Hid (∀ s ∈ z1, s.size ≤ 1048576) := fun s hs => by have := hsz1.2.2 s hs; omega
  have p1 : 0 ≤ left1 := by omega
  have q1 : left1 ≤ 1048576 := by omega
  clear hC1 hleft1 g1 hneg1 hsz1 z1m
  go_enter Try.func5, Try.ntmps5
  go_wp2_with fail
  refine (HC1.out _ R1).mono ?_
  rintro e w' ⟨rfl, rfl⟩
  go_wp2_with fail
  refine (toStringS_any a1 len1 cap1 z1 _ (by omega) R1).mono ?_
  rintro e x1 ⟨As1, ns1, cs1, rfl, Os1, hb_x1⟩
  have sz_x1 := hb_x1.size
  have ACC := hb_x1
  clear hb_x1
  go_wp2_with fail
  refine (sp_ShortNotation a0 As1 ns1 cs1 z1 _ w0 Os1.cap_ Os1.rd hz1.out hn1).mono ?_
  rintro e x2 ⟨rfl, hb_x2⟩
  have sz_x2 := hb_x2.size
  replace Os1 := Os1.below hb_x2
  replace ACC := ACC.trans (hb_x2.mono ACC.size)
  clear hb_x2
  clear Os1
  go_wp2_with fail
  refine (toStringS_any a1 len1 cap1 z1 _ (by omega) (R1.below ACC)).mono ?_
  rintro e x3 ⟨Ax1, nx1, cx1, rfl, Ox1, hb_x3⟩
  have sz_x3 := hb_x3.size
  replace ACC := ACC.trans (hb_x3.mono ACC.size)
  clear hb_x3
  go_wp2_with fail
  refine (im_ShortNotation a0 Ax1 nx1 cx1 z1 _ w0 Ox1.cap_ Ox1.rd hz1.out hn1).mono ?_
  rintro e x4 ⟨rfl, hb_x4⟩
  have sz_x4 := hb_x4.size
  replace Ox1 := Ox1.below hb_x4
  replace ACC := ACC.trans (hb_x4.mono ACC.size)
  clear hb_x4
  go_wp2_with fail
  refine (toStringS_any a1 len1 cap1 z1 _ (by omega) (R1.below ACC)).mono ?_
  rintro e x5 ⟨Ay1, ny1, cy1, rfl, Oy1, hb_x5⟩
  have sz_x5 := hb_x5.size
  replace Ox1 := Ox1.below hb_x5
  replace ACC := ACC.trans (hb_x5.mono ACC.size)
  clear hb_x5
  go_wp2_with fail
  refine (eqStringS_eq Ax1 Ay1 nx1 ny1 cx1 cy1 z1 _ Ox1.rd Oy1.rd).mono ?_
  rintro e x6 ⟨rfl, hb_x6⟩
  have sz_x6 := hb_x6.size
  replace Ox1 := Ox1.below hb_x6
  replace Oy1 := Oy1.below hb_x6
  replace ACC := ACC.trans (hb_x6.mono ACC.size)
  clear hb_x6
  clear Oy1
  go_wp2
  go_ret
  exact ⟨rfl, ACC⟩
end Go.Proofs.Ytgpjbmlemnjhfaa
