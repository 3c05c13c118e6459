/- FnExactSwapsOf returns true at every input. No condition. -/
import Derived.Test.YtpdmogbebahebaaSpSwapsOf
import Derived.Test.YtpdmogbebahebaaOpen
namespace Go.Proofs.Ytpdmogbebahebaa
open Go.RowKit
set_option linter.unusedVariables false

set_option maxRecDepth 100000 in
set_option maxHeartbeats 2000000 in
theorem law_FnExactSwapsOf (a0 : Int) (a1 : ByteArray) {w : World} (w0 : (Lit.int .i64 a0).wf = true) (w1 : a1.size ≤ maxLen) :
    Calls Try.prog 8 #[.int .i64 a0, .string a1] w fun e w' => e = .returned (.bool true) ∧ Below w.heap.size w w' := by
  by_cases hbig1 : 1048576 < a1.size
  · have hb : (1048576 : Int) < (a1.size : Int) := by omega
    go_enter Try.func8, Try.ntmps8
    go_wp2
    go_ret
    exact ⟨rfl, Below.refl _ _⟩
  have hb1 : (a1.size : Int) ≤ 1048576 := by omega
  have hs1 : a1.size ≤ 1048576 := by omega
  clear hbig1
  go_enter Try.func8, Try.ntmps8
  go_wp2_with fail
  refine (sp_SwapsOf a0 a1 _ w0 hs1).mono ?_
  rintro e x1 ⟨Aw, nw, cw, rfl, Ow, hb_x1⟩
  have sz_x1 := hb_x1.size
  have ACC := hb_x1
  clear hb_x1
  go_wp2_with fail
  refine (im_SwapsOf a0 a1 _ w0 hs1).mono ?_
  rintro e x2 ⟨Ag, ng, cg, rfl, Og, hb_x2⟩
  have sz_x2 := hb_x2.size
  replace Ow := Ow.below hb_x2
  replace ACC := ACC.trans (hb_x2.mono ACC.size)
  clear hb_x2
  go_wp2_with fail
  refine (eqIntS_eq Ag Aw ng nw cg cw (out_SwapsOf a0 a1) _ Og.rd Ow.rd).mono ?_
  rintro e x3 ⟨rfl, hb_x3⟩
  have sz_x3 := hb_x3.size
  replace Ow := Ow.below hb_x3
  replace Og := Og.below hb_x3
  replace ACC := ACC.trans (hb_x3.mono ACC.size)
  clear hb_x3
  have hlen : Hid ((out_SwapsOf a0 a1).length ≤ 4194304) := len_SwapsOf a0 a1 
  have hlg : ng ≤ 4194304 := by have := Og.rd.ilen; have := hlen.out; omega
  go_wp2_with fail
  refine (markIntS_any x1.heap.size x2.heap.size Ag ng cg _ _ 1 _ (by omega) (by omega) Og).mono ?_
  rintro e x4 ⟨rfl, Mg, hw_x4⟩
  clear Og
  have sz_x4 := hw_x4.size
  replace Ow := Ow.wr hw_x4 (by omega)
  replace ACC := ACC.trans (hw_x4.below (by omega) ACC.size)
  clear hw_x4
  have Og := Mg
  clear Mg
  go_wp2_with fail
  refine (heldIntS_any Ag ng cg _ 1 _ (by omega) (by omega) Og.rd).mono ?_
  rintro e w' ⟨rfl, rfl⟩
  go_wp2_with fail
  refine (im_SwapsOf a0 a1 _ w0 hs1).mono ?_
  rintro e x5 ⟨Ak, nk, ck, rfl, Ok, hb_x5⟩
  have sz_x5 := hb_x5.size
  replace Ow := Ow.below hb_x5
  replace Og := Og.below hb_x5
  replace ACC := ACC.trans (hb_x5.mono ACC.size)
  clear hb_x5
  go_wp2_with fail
  refine (eqIntS_eq Ak Aw nk nw ck cw (out_SwapsOf a0 a1) _ Ok.rd Ow.rd).mono ?_
  rintro e x6 ⟨rfl, hb_x6⟩
  have sz_x6 := hb_x6.size
  replace Ow := Ow.below hb_x6
  replace Og := Og.below hb_x6
  replace Ok := Ok.below hb_x6
  replace ACC := ACC.trans (hb_x6.mono ACC.size)
  clear hb_x6
  go_wp2_with fail
  refine (heldIntS_any Ag ng cg _ 1 _ (by omega) (by omega) Og.rd).mono ?_
  rintro e w' ⟨rfl, rfl⟩
  go_wp2
  go_ret
  exact ⟨rfl, ACC⟩
end Go.Proofs.Ytpdmogbebahebaa
