/- FnExactCosetsIn returns true at every input. No condition. -/
import Derived.Test.YtajmjfekddgelaaSpCosetsIn
import Derived.Test.YtajmjfekddgelaaOpen
namespace Go.Proofs.Ytajmjfekddgelaa
open Go.RowKit
set_option linter.unusedVariables false

set_option maxRecDepth 100000 in
set_option maxHeartbeats 2000000 in
theorem law_FnExactCosetsIn (a0 : Option Addr) (len0 cap0 : Nat) (z0 : List ByteArray) (a1 : Option Addr) (len1 cap1 : Nat) (z1 : List ByteArray) {w : World} (w0 : StrsIn w a0 len0 z0) (w1 : StrsIn w a1 len1 z1) :
    Calls Try.prog 6 #[.slice a0 len0 cap0, .slice a1 len1 cap1] w fun e w' => e = .returned (.bool true) ∧ Below w.heap.size w w' := by
  obtain ⟨R0, z0m⟩ := w0
  have l0 := R0.lenB
  obtain ⟨R1, z1m⟩ := w1
  have l1 := R1.lenB
  obtain ⟨left0, hleft0⟩ : ∃ l : Int, l = szL z0 1048576 := ⟨_, rfl⟩
  have g0 := szL_ge z0 1048576
  by_cases hneg0 : left0 < 0
  · have hC : ∀ W, Rd W a0 len0 (strsV z0) → Calls Try.prog 9 #[.slice a0 len0 cap0, .int .i64 1048576] W fun e w' => e = .returned (.int .i64 left0) ∧ W = w' := fun W h => by rw [hleft0]; exact szStringS_any a0 len0 cap0 z0 1048576 W (by omega) (by omega) h z0m
    have HC := Lib.hid hC
    clear hC hleft0 g0 z0m
    go_enter Try.func6, Try.ntmps6
    go_wp2_with fail
    refine (HC.out _ R0).mono ?_
    rintro e w' ⟨rfl, rfl⟩
    go_wp2
    go_ret
    exact ⟨rfl, Below.refl _ _⟩
  have hC0 : ∀ W, Rd W a0 len0 (strsV z0) → Calls Try.prog 9 #[.slice a0 len0 cap0, .int .i64 1048576] W fun e w' => e = .returned (.int .i64 left0) ∧ W = w' := fun W h => by rw [hleft0]; exact szStringS_any a0 len0 cap0 z0 1048576 W (by omega) (by omega) h z0m
  have HC0 := Lib.hid hC0
  have hsz0 := szL_le (ss := z0) (l := 1048576) (by omega)
  rw [← hleft0] at hsz0
  have hn0 : z0.length ≤ 1048576 := by omega
  have hm0 : len0 ≤ 1048576 := by have := R0.slen; omega
  have hz0 : Hid (∀ s ∈ z0, s.size ≤ 1048576) := fun s hs => by have := hsz0.2.2 s hs; omega
  have p0 : 0 ≤ left0 := by omega
  have q0 : left0 ≤ 1048576 := by omega
  clear hC0 hleft0 g0 hneg0 hsz0 z0m
  obtain ⟨left1, hleft1⟩ : ∃ l : Int, l = szL z1 left0 := ⟨_, rfl⟩
  have g1 := szL_ge z1 left0
  by_cases hneg1 : left1 < 0
  · have hC : ∀ W, Rd W a1 len1 (strsV z1) → Calls Try.prog 9 #[.slice a1 len1 cap1, .int .i64 left0] W fun e w' => e = .returned (.int .i64 left1) ∧ W = w' := fun W h => by rw [hleft1]; exact szStringS_any a1 len1 cap1 z1 left0 W (by omega) (by omega) h z1m
    have HC := Lib.hid hC
    clear hC hleft1 g1 z1m
    go_enter Try.func6, Try.ntmps6
    go_wp2_with fail
    refine (HC0.out _ R0).mono ?_
    rintro e w' ⟨rfl, rfl⟩
    go_wp2_with fail
    refine (HC.out _ R1).mono ?_
    rintro e w' ⟨rfl, rfl⟩
    go_wp2
    go_ret
    exact ⟨rfl, Below.refl _ _⟩
  have hC1 : ∀ W, Rd W a1 len1 (strsV z1) → Calls Try.prog 9 #[.slice a1 len1 cap1, .int .i64 left0] W fun e w' => e = .returned (.int .i64 left1) ∧ W = w' := fun W h => by rw [hleft1]; exact szStringS_any a1 len1 cap1 z1 left0 W (by omega) (by omega) h z1m
  have HC1 := Lib.hid hC1
  have hsz1 := szL_le (ss := z1) (l := left0) (by omega)
  rw [← hleft1] at hsz1
  have hn1 : z1.length ≤ 1048576 := by omega
  have hm1 : len1 ≤ 1048576 := by have := R1.slen; omega
  have hz1 : Hid (∀ s ∈ z1, s.size ≤ 1048576) := fun s hs => by have := hsz1.2.2 s hs; omega
  have p1 : 0 ≤ left1 := by omega
  have q1 : left1 ≤ 1048576 := by omega
  clear hC1 hleft1 g1 hneg1 hsz1 z1m
  go_enter Try.func6, Try.ntmps6
  go_wp2_with fail
  refine (HC0.out _ R0).mono ?_
  rintro e w' ⟨rfl, rfl⟩
  go_wp2_with fail
  refine (HC1.out _ R1).mono ?_
  rintro e w' ⟨rfl, rfl⟩
  go_wp2_with fail
  refine (toStringS_any a0 len0 cap0 z0 _ (by omega) R0).mono ?_
  rintro e x1 ⟨As0, ns0, cs0, rfl, Os0, hb_x1⟩
  have sz_x1 := hb_x1.size
  have ACC := hb_x1
  clear hb_x1
  go_wp2_with fail
  refine (toStringS_any a1 len1 cap1 z1 _ (by omega) (R1.below ACC)).mono ?_
  rintro e x2 ⟨As1, ns1, cs1, rfl, Os1, hb_x2⟩
  have sz_x2 := hb_x2.size
  replace Os0 := Os0.below hb_x2
  replace ACC := ACC.trans (hb_x2.mono ACC.size)
  clear hb_x2
  go_wp2_with fail
  refine (sp_CosetsIn As0 ns0 cs0 z0 As1 ns1 cs1 z1 _ Os0.rd hz0.out hn0 Os1.rd hz1.out hn1).mono ?_
  rintro e x3 ⟨Aw, nw, cw, rfl, Ow, hb_x3⟩
  have sz_x3 := hb_x3.size
  replace Os0 := Os0.below hb_x3
  replace Os1 := Os1.below hb_x3
  replace ACC := ACC.trans (hb_x3.mono ACC.size)
  clear hb_x3
  clear Os0
  clear Os1
  go_wp2_with fail
  refine (toStringS_any a0 len0 cap0 z0 _ (by omega) (R0.below ACC)).mono ?_
  rintro e x4 ⟨Ax0, nx0, cx0, rfl, Ox0, hb_x4⟩
  have sz_x4 := hb_x4.size
  replace Ow := Ow.below hb_x4
  replace ACC := ACC.trans (hb_x4.mono ACC.size)
  clear hb_x4
  go_wp2_with fail
  refine (toStringS_any a1 len1 cap1 z1 _ (by omega) (R1.below ACC)).mono ?_
  rintro e x5 ⟨Ax1, nx1, cx1, rfl, Ox1, hb_x5⟩
  have sz_x5 := hb_x5.size
  replace Ow := Ow.below hb_x5
  replace Ox0 := Ox0.below hb_x5
  replace ACC := ACC.trans (hb_x5.mono ACC.size)
  clear hb_x5
  go_wp2_with fail
  refine (im_CosetsIn Ax0 nx0 cx0 z0 Ax1 nx1 cx1 z1 _ Ox0.rd hz0.out hn0 Ox1.rd hz1.out hn1).mono ?_
  rintro e x6 ⟨Ag, ng, cg, rfl, Og, hb_x6⟩
  have sz_x6 := hb_x6.size
  replace Ow := Ow.below hb_x6
  replace Ox0 := Ox0.below hb_x6
  replace Ox1 := Ox1.below hb_x6
  replace ACC := ACC.trans (hb_x6.mono ACC.size)
  clear hb_x6
  go_wp2_with fail
  refine (eqStringS_eq Ag Aw ng nw cg cw (out_CosetsIn z0 z1) _ Og.rd Ow.rd).mono ?_
  rintro e x7 ⟨rfl, hb_x7⟩
  have sz_x7 := hb_x7.size
  replace Ow := Ow.below hb_x7
  replace Ox0 := Ox0.below hb_x7
  replace Ox1 := Ox1.below hb_x7
  replace Og := Og.below hb_x7
  replace ACC := ACC.trans (hb_x7.mono ACC.size)
  clear hb_x7
  go_wp2_with fail
  refine (toStringS_any a0 len0 cap0 z0 _ (by omega) (R0.below ACC)).mono ?_
  rintro e x8 ⟨Ay0, ny0, cy0, rfl, Oy0, hb_x8⟩
  have sz_x8 := hb_x8.size
  replace Ow := Ow.below hb_x8
  replace Ox0 := Ox0.below hb_x8
  replace Ox1 := Ox1.below hb_x8
  replace Og := Og.below hb_x8
  replace ACC := ACC.trans (hb_x8.mono ACC.size)
  clear hb_x8
  go_wp2_with fail
  refine (eqStringS_eq Ax0 Ay0 nx0 ny0 cx0 cy0 z0 _ Ox0.rd Oy0.rd).mono ?_
  rintro e x9 ⟨rfl, hb_x9⟩
  have sz_x9 := hb_x9.size
  replace Ow := Ow.below hb_x9
  replace Ox0 := Ox0.below hb_x9
  replace Ox1 := Ox1.below hb_x9
  replace Og := Og.below hb_x9
  replace Oy0 := Oy0.below hb_x9
  replace ACC := ACC.trans (hb_x9.mono ACC.size)
  clear hb_x9
  clear Oy0
  go_wp2_with fail
  refine (toStringS_any a1 len1 cap1 z1 _ (by omega) (R1.below ACC)).mono ?_
  rintro e x10 ⟨Ay1, ny1, cy1, rfl, Oy1, hb_x10⟩
  have sz_x10 := hb_x10.size
  replace Ow := Ow.below hb_x10
  replace Ox0 := Ox0.below hb_x10
  replace Ox1 := Ox1.below hb_x10
  replace Og := Og.below hb_x10
  replace ACC := ACC.trans (hb_x10.mono ACC.size)
  clear hb_x10
  go_wp2_with fail
  refine (eqStringS_eq Ax1 Ay1 nx1 ny1 cx1 cy1 z1 _ Ox1.rd Oy1.rd).mono ?_
  rintro e x11 ⟨rfl, hb_x11⟩
  have sz_x11 := hb_x11.size
  replace Ow := Ow.below hb_x11
  replace Ox0 := Ox0.below hb_x11
  replace Ox1 := Ox1.below hb_x11
  replace Og := Og.below hb_x11
  replace Oy1 := Oy1.below hb_x11
  replace ACC := ACC.trans (hb_x11.mono ACC.size)
  clear hb_x11
  clear Oy1
  have hlen : Hid ((out_CosetsIn z0 z1).length ≤ 4194304) := len_CosetsIn z0 z1 hn0 hn1
  have hlg : ng ≤ 4194304 := by have := Og.rd.slen; have := hlen.out; omega
  have hlx0 : nx0 ≤ 1048576 := by have := Ox0.rd.slen; omega
  go_wp2_with fail
  refine (markStringS_any (x3.heap.size) (x4.heap.size) Ax0 nx0 cx0 _ _ 1 _ (by omega) (by omega) (by omega) Ox0).mono ?_
  rintro e x12 ⟨rfl, Mx0, hw_x12⟩
  clear Ox0
  have sz_x12 := hw_x12.size
  replace Ow := Ow.wr hw_x12 (by omega)
  replace Ox1 := Ox1.wr hw_x12 (by omega)
  replace Og := Og.wr hw_x12 (by omega)
  replace ACC := ACC.trans (hw_x12.below (by omega) ACC.size)
  clear hw_x12
  have hlx1 : nx1 ≤ 1048576 := by have := Ox1.rd.slen; omega
  go_wp2_with fail
  refine (markStringS_any (x4.heap.size) (x5.heap.size) Ax1 nx1 cx1 _ _ (1 + nx0) _ (by omega) (by omega) (by omega) Ox1).mono ?_
  rintro e x13 ⟨rfl, Mx1, hw_x13⟩
  clear Ox1
  have sz_x13 := hw_x13.size
  replace Ow := Ow.wr hw_x13 (by omega)
  replace Og := Og.wr hw_x13 (by omega)
  replace ACC := ACC.trans (hw_x13.below (by omega) ACC.size)
  clear hw_x13
  go_wp2_with fail
  refine (eqStringS_eq Ag Aw ng nw cg cw (out_CosetsIn z0 z1) _ Og.rd Ow.rd).mono ?_
  rintro e x14 ⟨rfl, hb_x14⟩
  have sz_x14 := hb_x14.size
  replace Ow := Ow.below hb_x14
  replace Og := Og.below hb_x14
  replace ACC := ACC.trans (hb_x14.mono ACC.size)
  clear hb_x14
  go_wp2_with fail
  refine (markStringS_any (x5.heap.size) (x6.heap.size) Ag ng cg _ _ 1 _ (by omega) (by omega) (by omega) Og).mono ?_
  rintro e x15 ⟨rfl, Mg, hw_x15⟩
  clear Og
  have sz_x15 := hw_x15.size
  replace Ow := Ow.wr hw_x15 (by omega)
  replace ACC := ACC.trans (hw_x15.below (by omega) ACC.size)
  clear hw_x15
  have Og := Mg
  clear Mg
  go_wp2_with fail
  refine (heldStringS_any Ag ng cg _ 1 _ (by omega) (by omega) (by omega) Og.rd).mono ?_
  rintro e x16 ⟨rfl, hb_x16⟩
  have sz_x16 := hb_x16.size
  replace Ow := Ow.below hb_x16
  replace Og := Og.below hb_x16
  replace ACC := ACC.trans (hb_x16.mono ACC.size)
  clear hb_x16
  go_wp2_with fail
  refine (toStringS_any a0 len0 cap0 z0 _ (by omega) (R0.below ACC)).mono ?_
  rintro e x17 ⟨Ah0, nh0, ch0, rfl, Oh0, hb_x17⟩
  have sz_x17 := hb_x17.size
  replace Ow := Ow.below hb_x17
  replace Og := Og.below hb_x17
  replace ACC := ACC.trans (hb_x17.mono ACC.size)
  clear hb_x17
  go_wp2_with fail
  refine (toStringS_any a1 len1 cap1 z1 _ (by omega) (R1.below ACC)).mono ?_
  rintro e x18 ⟨Ah1, nh1, ch1, rfl, Oh1, hb_x18⟩
  have sz_x18 := hb_x18.size
  replace Ow := Ow.below hb_x18
  replace Og := Og.below hb_x18
  replace Oh0 := Oh0.below hb_x18
  replace ACC := ACC.trans (hb_x18.mono ACC.size)
  clear hb_x18
  go_wp2_with fail
  refine (im_CosetsIn Ah0 nh0 ch0 z0 Ah1 nh1 ch1 z1 _ Oh0.rd hz0.out hn0 Oh1.rd hz1.out hn1).mono ?_
  rintro e x19 ⟨Ak, nk, ck, rfl, Ok, hb_x19⟩
  have sz_x19 := hb_x19.size
  replace Ow := Ow.below hb_x19
  replace Og := Og.below hb_x19
  replace Oh0 := Oh0.below hb_x19
  replace Oh1 := Oh1.below hb_x19
  replace ACC := ACC.trans (hb_x19.mono ACC.size)
  clear hb_x19
  go_wp2_with fail
  refine (eqStringS_eq Ak Aw nk nw ck cw (out_CosetsIn z0 z1) _ Ok.rd Ow.rd).mono ?_
  rintro e x20 ⟨rfl, hb_x20⟩
  have sz_x20 := hb_x20.size
  replace Ow := Ow.below hb_x20
  replace Og := Og.below hb_x20
  replace Oh0 := Oh0.below hb_x20
  replace Oh1 := Oh1.below hb_x20
  replace Ok := Ok.below hb_x20
  replace ACC := ACC.trans (hb_x20.mono ACC.size)
  clear hb_x20
  go_wp2_with fail
  refine (heldStringS_any Ag ng cg _ 1 _ (by omega) (by omega) (by omega) Og.rd).mono ?_
  rintro e x21 ⟨rfl, hb_x21⟩
  have sz_x21 := hb_x21.size
  replace Ow := Ow.below hb_x21
  replace Og := Og.below hb_x21
  replace Oh0 := Oh0.below hb_x21
  replace Oh1 := Oh1.below hb_x21
  replace Ok := Ok.below hb_x21
  replace ACC := ACC.trans (hb_x21.mono ACC.size)
  clear hb_x21
  go_wp2
  go_ret
  exact ⟨rfl, ACC⟩
end Go.Proofs.Ytajmjfekddgelaa
