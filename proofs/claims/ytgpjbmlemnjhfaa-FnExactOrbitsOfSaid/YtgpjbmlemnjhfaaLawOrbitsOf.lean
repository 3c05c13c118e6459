/- FnExactOrbitsOf returns true at every input. No condition. -/
import Derived.Test.YtgpjbmlemnjhfaaSpOrbitsOf
import Derived.Test.YtgpjbmlemnjhfaaWalkOj
import Derived.Test.YtgpjbmlemnjhfaaOpen
import Derived.Test.YtgpjbmlemnjhfaaNest
namespace Go.Proofs.Ytgpjbmlemnjhfaa
open Go.RowKit
set_option linter.unusedVariables false

set_option maxRecDepth 100000 in
set_option maxHeartbeats 2000000 in
theorem law_FnExactOrbitsOf (a0 : Option Addr) (len0 cap0 : Nat) (z0 : List ByteArray) (a1 : Int) {w : World} (w0 : StrsIn w a0 len0 z0) (w1 : (Lit.int .i64 a1).wf = true) :
    Calls Try.prog 11 #[.slice a0 len0 cap0, .int .i64 a1] w fun e w' => e = .returned (.bool true) ∧ Below w.heap.size w w' := by
  obtain ⟨R0, z0m⟩ := w0
  have l0 := R0.lenB
  obtain ⟨left0, hleft0⟩ : ∃ l : Int, l = szL z0 1048576 := ⟨_, rfl⟩
  have g0 := szL_ge z0 1048576
  by_cases hneg0 : left0 < 0
  · have hC : ∀ W, Rd W a0 len0 (strsV z0) → Calls Try.prog 17 #[.slice a0 len0 cap0, .int .i64 1048576] W fun e w' => e = .returned (.int .i64 left0) ∧ W = w' := fun W h => by rw [hleft0]; exact szStringS_any a0 len0 cap0 z0 1048576 W (by omega) (by omega) h z0m
    have HC := Lib.hid hC
    clear hC hleft0 g0 z0m
    go_enter Try.func11, Try.ntmps11
    go_wp2_with fail
    refine (HC.out _ R0).mono ?_
    rintro e w' ⟨rfl, rfl⟩
    go_wp2
    go_ret
    exact ⟨rfl, Below.refl _ _⟩
  have hC0 : ∀ W, Rd W a0 len0 (strsV z0) → Calls Try.prog 17 #[.slice a0 len0 cap0, .int .i64 1048576] W fun e w' => e = .returned (.int .i64 left0) ∧ W = w' := fun W h => by rw [hleft0]; exact szStringS_any a0 len0 cap0 z0 1048576 W (by omega) (by omega) h z0m
  have HC0 := Lib.hid hC0
  have hsz0 := szL_le (ss := z0) (l := 1048576) (by omega)
  rw [← hleft0] at hsz0
  have hn0 : z0.length ≤ 1048576 := by omega
  have hm0 : len0 ≤ 1048576 := by have := R0.slen; omega
  have hz0 : Hid (∀ s ∈ z0, s.size ≤ 1048576) := fun s hs => by have := hsz0.2.2 s hs; omega
  have p0 : 0 ≤ left0 := by omega
  have q0 : left0 ≤ 1048576 := by omega
  clear hC0 hleft0 g0 hneg0 hsz0 z0m
  go_enter Try.func11, Try.ntmps11
  go_wp2_with fail
  refine (HC0.out _ R0).mono ?_
  rintro e w' ⟨rfl, rfl⟩
  go_wp2_with fail
  refine (toStringS_any a0 len0 cap0 z0 _ (by omega) R0).mono ?_
  rintro e x1 ⟨As0, ns0, cs0, rfl, Os0, hb_x1⟩
  have sz_x1 := hb_x1.size
  have ACC := hb_x1
  clear hb_x1
  go_wp2_with fail
  refine (sp_OrbitsOf As0 ns0 cs0 z0 a1 _ Os0.rd hz0.out hn0 w1).mono ?_
  rintro e x2 ⟨Aw, nw, cw, rsw, rfl, Ow, hb_x2⟩
  have sz_x2 := hb_x2.size
  replace Os0 := Os0.below hb_x2
  replace ACC := ACC.trans (hb_x2.mono ACC.size)
  clear hb_x2
  clear Os0
  go_wp2_with fail
  refine (toStringS_any a0 len0 cap0 z0 _ (by omega) (R0.below ACC)).mono ?_
  rintro e x3 ⟨Ax0, nx0, cx0, rfl, Ox0, hb_x3⟩
  have sz_x3 := hb_x3.size
  replace Ow := Ow.below hb_x3
  replace ACC := ACC.trans (hb_x3.mono ACC.size)
  clear hb_x3
  go_wp2_with fail
  refine (im_OrbitsOf Ax0 nx0 cx0 z0 a1 _ Ox0.rd hz0.out hn0 w1).mono ?_
  rintro e x4 ⟨Ag, ng, cg, rsg, rfl, Og, hb_x4⟩
  have sz_x4 := hb_x4.size
  replace Ow := Ow.below hb_x4
  replace Ox0 := Ox0.below hb_x4
  replace ACC := ACC.trans (hb_x4.mono ACC.size)
  clear hb_x4
  go_wp2_with fail
  refine (eqIntSS_eq Ag Aw ng nw cg cw rsg rsw (out_OrbitsOf z0 a1) _ Og.rd Ow.rd).mono ?_
  rintro e x5 ⟨rfl, hb_x5⟩
  have sz_x5 := hb_x5.size
  replace Ow := Ow.below hb_x5
  replace Ox0 := Ox0.below hb_x5
  replace Og := Og.below hb_x5
  replace ACC := ACC.trans (hb_x5.mono ACC.size)
  clear hb_x5
  go_wp2_with fail
  refine (toStringS_any a0 len0 cap0 z0 _ (by omega) (R0.below ACC)).mono ?_
  rintro e x6 ⟨Ay0, ny0, cy0, rfl, Oy0, hb_x6⟩
  have sz_x6 := hb_x6.size
  replace Ow := Ow.below hb_x6
  replace Ox0 := Ox0.below hb_x6
  replace Og := Og.below hb_x6
  replace ACC := ACC.trans (hb_x6.mono ACC.size)
  clear hb_x6
  go_wp2_with fail
  refine (eqStringS_eq Ax0 Ay0 nx0 ny0 cx0 cy0 z0 _ Ox0.rd Oy0.rd).mono ?_
  rintro e x7 ⟨rfl, hb_x7⟩
  have sz_x7 := hb_x7.size
  replace Ow := Ow.below hb_x7
  replace Ox0 := Ox0.below hb_x7
  replace Og := Og.below hb_x7
  replace Oy0 := Oy0.below hb_x7
  replace ACC := ACC.trans (hb_x7.mono ACC.size)
  clear hb_x7
  clear Oy0
  have hlen : Hid (tot (out_OrbitsOf z0 a1) ≤ 4194304) := len_OrbitsOf z0 a1 hn0
  have hlx0 : nx0 ≤ 1048576 := by have := Ox0.rd.slen; omega
  go_wp2_with fail
  refine (markStringS_any (x2.heap.size) (x3.heap.size) Ax0 nx0 cx0 _ _ 1 _ (by omega) (by omega) (by omega) Ox0).mono ?_
  rintro e x8 ⟨rfl, Mx0, hw_x8⟩
  clear Ox0
  have sz_x8 := hw_x8.size
  replace Ow := Ow.wr hw_x8 (by omega)
  replace Og := Og.wr hw_x8 (by omega)
  replace ACC := ACC.trans (hw_x8.below (by omega) ACC.size)
  clear hw_x8
  go_wp2_with fail
  refine (eqIntSS_eq Ag Aw ng nw cg cw rsg rsw (out_OrbitsOf z0 a1) _ Og.rd Ow.rd).mono ?_
  rintro e x9 ⟨rfl, hb_x9⟩
  have sz_x9 := hb_x9.size
  replace Ow := Ow.below hb_x9
  replace Og := Og.below hb_x9
  replace ACC := ACC.trans (hb_x9.mono ACC.size)
  clear hb_x9
  go_wp2_with fail
  refine (markIntSS_any (x3.heap.size) (x4.heap.size) Ag ng cg rsg _ _ 1 _ (by omega) (by have := hlen.out; omega) Og).mono ?_
  rintro e x10 ⟨rfl, Mg, hw_x10⟩
  clear Og
  have sz_x10 := hw_x10.size
  replace Ow := Ow.wr hw_x10 (by omega)
  replace ACC := ACC.trans (hw_x10.below (by omega) ACC.size)
  clear hw_x10
  have Og := Mg
  clear Mg
  go_wp2_with fail
  refine (heldIntSS_any Ag ng cg rsg (out_OrbitsOf z0 a1) _ 1 _ (by omega) (by have := hlen.out; omega) Og.rd).mono ?_
  rintro e w' ⟨rfl, rfl⟩
  go_wp2_with fail
  refine (toStringS_any a0 len0 cap0 z0 _ (by omega) (R0.below ACC)).mono ?_
  rintro e x11 ⟨Ah0, nh0, ch0, rfl, Oh0, hb_x11⟩
  have sz_x11 := hb_x11.size
  replace Ow := Ow.below hb_x11
  replace Og := Og.below hb_x11
  replace ACC := ACC.trans (hb_x11.mono ACC.size)
  clear hb_x11
  go_wp2_with fail
  refine (im_OrbitsOf Ah0 nh0 ch0 z0 a1 _ Oh0.rd hz0.out hn0 w1).mono ?_
  rintro e x12 ⟨Ak, nk, ck, rsk, rfl, Ok, hb_x12⟩
  have sz_x12 := hb_x12.size
  replace Ow := Ow.below hb_x12
  replace Og := Og.below hb_x12
  replace Oh0 := Oh0.below hb_x12
  replace ACC := ACC.trans (hb_x12.mono ACC.size)
  clear hb_x12
  go_wp2_with fail
  refine (eqIntSS_eq Ak Aw nk nw ck cw rsk rsw (out_OrbitsOf z0 a1) _ Ok.rd Ow.rd).mono ?_
  rintro e x13 ⟨rfl, hb_x13⟩
  have sz_x13 := hb_x13.size
  replace Ow := Ow.below hb_x13
  replace Og := Og.below hb_x13
  replace Oh0 := Oh0.below hb_x13
  replace Ok := Ok.below hb_x13
  replace ACC := ACC.trans (hb_x13.mono ACC.size)
  clear hb_x13
  go_wp2_with fail
  refine (heldIntSS_any Ag ng cg rsg (out_OrbitsOf z0 a1) _ 1 _ (by omega) (by have := hlen.out; omega) Og.rd).mono ?_
  rintro e w' ⟨rfl, rfl⟩
  go_wp2
  go_ret
  exact ⟨rfl, ACC⟩
end Go.Proofs.Ytgpjbmlemnjhfaa
