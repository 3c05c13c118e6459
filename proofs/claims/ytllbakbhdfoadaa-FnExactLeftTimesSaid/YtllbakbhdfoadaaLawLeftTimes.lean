/- FnExactLeftTimes returns true at every input. No condition. -/
import Derived.Test.YtllbakbhdfoadaaSpLeftTimes
import Derived.Test.YtllbakbhdfoadaaOpen
namespace Go.Proofs.Ytllbakbhdfoadaa
open Go.RowKit
set_option linter.unusedVariables false

set_option maxRecDepth 100000 in
set_option maxHeartbeats 2000000 in
theorem law_FnExactLeftTimes (a0 : ByteArray) (a1 : Option Addr) (len1 cap1 : Nat) (z1 : List ByteArray) {w : World} (w0 : a0.size ≤ maxLen) (w1 : StrsIn w a1 len1 z1) :
    Calls Try.prog 10 #[.string a0, .slice a1 len1 cap1] w fun e w' => e = .returned (.bool true) ∧ Below w.heap.size w w' := by
  obtain ⟨R1, z1m⟩ := w1
  have l1 := R1.lenB
  by_cases hbig0 : 1048576 < a0.size
  · have hb : (1048576 : Int) < (a0.size : Int) := by omega
    go_enter Try.func10, Try.ntmps10
    go_wp2
    go_ret
    exact ⟨rfl, Below.refl _ _⟩
  have hb0 : (a0.size : Int) ≤ 1048576 := by omega
  have hs0 : a0.size ≤ 1048576 := by omega
  clear hbig0
  obtain ⟨left1, hleft1⟩ : ∃ l : Int, l = szL z1 1048576 := ⟨_, rfl⟩
  have g1 := szL_ge z1 1048576
  by_cases hneg1 : left1 < 0
  · have hC : ∀ W, Rd W a1 len1 (strsV z1) → Calls Try.prog 45 #[.slice a1 len1 cap1, .int .i64 1048576] W fun e w' => e = .returned (.int .i64 left1) ∧ W = w' := fun W h => by rw [hleft1]; exact szStringS_any a1 len1 cap1 z1 1048576 W (by omega) (by omega) h z1m
    have HC := Lib.hid hC
    clear hC hleft1 g1 z1m
    go_enter Try.func10, Try.ntmps10
    go_wp2_with fail
    refine (HC.out _ R1).mono ?_
    rintro e w' ⟨rfl, rfl⟩
    go_wp2
    go_ret
    exact ⟨rfl, Below.refl _ _⟩
  have hC1 : ∀ W, Rd W a1 len1 (strsV z1) → Calls Try.prog 45 #[.slice a1 len1 cap1, .int .i64 1048576] W fun e w' => e = .returned (.int .i64 left1) ∧ W = w' := fun W h => by rw [hleft1]; exact szStringS_any a1 len1 cap1 z1 1048576 W (by omega) (by omega) h z1m
  have HC1 := Lib.hid hC1
  have hsz1 := szL_le (ss := z1) (l := 1048576) (by omega)
  rw [← hleft1] at hsz1
  have hn1 : z1.length ≤ 1048576 := by omega
  have hm1 : len1 ≤ 1048576 := by have := R1.slen; omega
  have hz1 : Hid (∀ s ∈ z1, s.size ≤ 1048576) := fun s hs => by have := hsz1.2.2 s hs; omega
  have p1 : 0 ≤ left1 := by omega
  have q1 : left1 ≤ 1048576 := by omega
  clear hC1 hleft1 g1 hneg1 hsz1 z1m
  go_enter Try.func10, Try.ntmps10
  go_wp2_with fail
  refine (HC1.out _ R1).mono ?_
  rintro e w' ⟨rfl, rfl⟩
  go_wp2_with fail
  refine (toStringS_any a1 len1 cap1 z1 _ (by omega) R1).mono ?_
  rintro e x1 ⟨As1, ns1, cs1, rfl, Os1, hb_x1⟩
  have sz_x1 := hb_x1.size
  have ACC := hb_x1
  clear hb_x1
  go_wp2_with fail
  refine (sp_LeftTimes a0 As1 ns1 cs1 z1 _ hs0 Os1.rd hz1.out hn1).mono ?_
  rintro e x2 ⟨Aw, nw, cw, rfl, Ow, hb_x2⟩
  have sz_x2 := hb_x2.size
  replace Os1 := Os1.below hb_x2
  replace ACC := ACC.trans (hb_x2.mono ACC.size)
  clear hb_x2
  clear Os1
  go_wp2_with fail
  refine (toStringS_any a1 len1 cap1 z1 _ (by omega) (R1.below ACC)).mono ?_
  rintro e x3 ⟨Ax1, nx1, cx1, rfl, Ox1, hb_x3⟩
  have sz_x3 := hb_x3.size
  replace Ow := Ow.below hb_x3
  replace ACC := ACC.trans (hb_x3.mono ACC.size)
  clear hb_x3
  go_wp2_with fail
  refine (im_LeftTimes a0 Ax1 nx1 cx1 z1 _ hs0 Ox1.rd hz1.out hn1).mono ?_
  rintro e x4 ⟨Ag, ng, cg, rfl, Og, hb_x4⟩
  have sz_x4 := hb_x4.size
  replace Ow := Ow.below hb_x4
  replace Ox1 := Ox1.below hb_x4
  replace ACC := ACC.trans (hb_x4.mono ACC.size)
  clear hb_x4
  go_wp2_with fail
  refine (eqStringS_eq Ag Aw ng nw cg cw (out_LeftTimes a0 z1) _ Og.rd Ow.rd).mono ?_
  rintro e x5 ⟨rfl, hb_x5⟩
  have sz_x5 := hb_x5.size
  replace Ow := Ow.below hb_x5
  replace Ox1 := Ox1.below hb_x5
  replace Og := Og.below hb_x5
  replace ACC := ACC.trans (hb_x5.mono ACC.size)
  clear hb_x5
  go_wp2_with fail
  refine (toStringS_any a1 len1 cap1 z1 _ (by omega) (R1.below ACC)).mono ?_
  rintro e x6 ⟨Ay1, ny1, cy1, rfl, Oy1, hb_x6⟩
  have sz_x6 := hb_x6.size
  replace Ow := Ow.below hb_x6
  replace Ox1 := Ox1.below hb_x6
  replace Og := Og.below hb_x6
  replace ACC := ACC.trans (hb_x6.mono ACC.size)
  clear hb_x6
  go_wp2_with fail
  refine (eqStringS_eq Ax1 Ay1 nx1 ny1 cx1 cy1 z1 _ Ox1.rd Oy1.rd).mono ?_
  rintro e x7 ⟨rfl, hb_x7⟩
  have sz_x7 := hb_x7.size
  replace Ow := Ow.below hb_x7
  replace Ox1 := Ox1.below hb_x7
  replace Og := Og.below hb_x7
  replace Oy1 := Oy1.below hb_x7
  replace ACC := ACC.trans (hb_x7.mono ACC.size)
  clear hb_x7
  clear Oy1
  have hlen : Hid ((out_LeftTimes a0 z1).length ≤ 4194304) := len_LeftTimes a0 z1 hn1
  have hlg : ng ≤ 4194304 := by have := Og.rd.slen; have := hlen.out; omega
  have hlx1 : nx1 ≤ 1048576 := by have := Ox1.rd.slen; omega
  go_wp2_with fail
  refine (markStringS_any x2.heap.size x3.heap.size Ax1 nx1 cx1 _ _ 1 _ (by omega) (by omega) (by omega) Ox1).mono ?_
  rintro e x8 ⟨rfl, Mx1, hw_x8⟩
  clear Ox1
  have sz_x8 := hw_x8.size
  replace Ow := Ow.wr hw_x8 (by omega)
  replace Og := Og.wr hw_x8 (by omega)
  replace ACC := ACC.trans (hw_x8.below (by omega) ACC.size)
  clear hw_x8
  go_wp2_with fail
  refine (eqStringS_eq Ag Aw ng nw cg cw (out_LeftTimes a0 z1) _ Og.rd Ow.rd).mono ?_
  rintro e x9 ⟨rfl, hb_x9⟩
  have sz_x9 := hb_x9.size
  replace Ow := Ow.below hb_x9
  replace Og := Og.below hb_x9
  replace ACC := ACC.trans (hb_x9.mono ACC.size)
  clear hb_x9
  go_wp2_with fail
  refine (markStringS_any x3.heap.size x4.heap.size Ag ng cg _ _ 1 _ (by omega) (by omega) (by omega) Og).mono ?_
  rintro e x10 ⟨rfl, Mg, hw_x10⟩
  clear Og
  have sz_x10 := hw_x10.size
  replace Ow := Ow.wr hw_x10 (by omega)
  replace ACC := ACC.trans (hw_x10.below (by omega) ACC.size)
  clear hw_x10
  have Og := Mg
  clear Mg
  go_wp2_with fail
  refine (heldStringS_any Ag ng cg _ 1 _ (by omega) (by omega) (by omega) Og.rd).mono ?_
  rintro e x11 ⟨rfl, hb_x11⟩
  have sz_x11 := hb_x11.size
  replace Ow := Ow.below hb_x11
  replace Og := Og.below hb_x11
  replace ACC := ACC.trans (hb_x11.mono ACC.size)
  clear hb_x11
  go_wp2_with fail
  refine (toStringS_any a1 len1 cap1 z1 _ (by omega) (R1.below ACC)).mono ?_
  rintro e x12 ⟨Ah1, nh1, ch1, rfl, Oh1, hb_x12⟩
  have sz_x12 := hb_x12.size
  replace Ow := Ow.below hb_x12
  replace Og := Og.below hb_x12
  replace ACC := ACC.trans (hb_x12.mono ACC.size)
  clear hb_x12
  go_wp2_with fail
  refine (im_LeftTimes a0 Ah1 nh1 ch1 z1 _ hs0 Oh1.rd hz1.out hn1).mono ?_
  rintro e x13 ⟨Ak, nk, ck, rfl, Ok, hb_x13⟩
  have sz_x13 := hb_x13.size
  replace Ow := Ow.below hb_x13
  replace Og := Og.below hb_x13
  replace Oh1 := Oh1.below hb_x13
  replace ACC := ACC.trans (hb_x13.mono ACC.size)
  clear hb_x13
  go_wp2_with fail
  refine (eqStringS_eq Ak Aw nk nw ck cw (out_LeftTimes a0 z1) _ Ok.rd Ow.rd).mono ?_
  rintro e x14 ⟨rfl, hb_x14⟩
  have sz_x14 := hb_x14.size
  replace Ow := Ow.below hb_x14
  replace Og := Og.below hb_x14
  replace Oh1 := Oh1.below hb_x14
  replace Ok := Ok.below hb_x14
  replace ACC := ACC.trans (hb_x14.mono ACC.size)
  clear hb_x14
  go_wp2_with fail
  refine (heldStringS_any Ag ng cg _ 1 _ (by omega) (by omega) (by omega) Og.rd).mono ?_
  rintro e x15 ⟨rfl, hb_x15⟩
  have sz_x15 := hb_x15.size
  replace Ow := Ow.below hb_x15
  replace Og := Og.below hb_x15
  replace Oh1 := Oh1.below hb_x15
  replace Ok := Ok.below hb_x15
  replace ACC := ACC.trans (hb_x15.mono ACC.size)
  clear hb_x15
  go_wp2
  go_ret
  exact ⟨rfl, ACC⟩
end Go.Proofs.Ytllbakbhdfoadaa
