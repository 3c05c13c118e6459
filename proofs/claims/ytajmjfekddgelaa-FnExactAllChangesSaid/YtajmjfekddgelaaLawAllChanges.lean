/- FnExactAllChanges returns true at every input. No condition. -/
import Derived.Test.YtajmjfekddgelaaSpAllChanges
import Derived.Test.YtajmjfekddgelaaOpen
namespace Go.Proofs.Ytajmjfekddgelaa
open Go.RowKit
set_option linter.unusedVariables false

set_option maxRecDepth 100000 in
set_option maxHeartbeats 2000000 in
theorem law_FnExactAllChanges (a0 : Int) {w : World} (w0 : (Lit.int .i64 a0).wf = true) :
    Calls Try.prog 4 #[.int .i64 a0] w fun e w' => e = .returned (.bool true) ∧ Below w.heap.size w w' := by
  go_enter Try.func4, Try.ntmps4
  go_wp2_with fail
  refine (sp_AllChanges a0 _ w0).mono ?_
  rintro e x1 ⟨Aw, nw, cw, rfl, Ow, hb_x1⟩
  have sz_x1 := hb_x1.size
  have ACC := hb_x1
  clear hb_x1
  go_wp2_with fail
  refine (im_AllChanges a0 _ w0).mono ?_
  rintro e x2 ⟨Ag, ng, cg, rfl, Og, hb_x2⟩
  have sz_x2 := hb_x2.size
  replace Ow := Ow.below hb_x2
  replace ACC := ACC.trans (hb_x2.mono ACC.size)
  clear hb_x2
  go_wp2_with fail
  refine (eqStringS_eq Ag Aw ng nw cg cw (out_AllChanges a0) _ Og.rd Ow.rd).mono ?_
  rintro e x3 ⟨rfl, hb_x3⟩
  have sz_x3 := hb_x3.size
  replace Ow := Ow.below hb_x3
  replace Og := Og.below hb_x3
  replace ACC := ACC.trans (hb_x3.mono ACC.size)
  clear hb_x3
  have hlen : Hid ((out_AllChanges a0).length ≤ 4194304) := len_AllChanges a0 
  have hlg : ng ≤ 4194304 := by have := Og.rd.slen; have := hlen.out; omega
  go_wp2_with fail
  refine (markStringS_any (x1.heap.size) (x2.heap.size) Ag ng cg _ _ 1 _ (by omega) (by omega) (by omega) Og).mono ?_
  rintro e x4 ⟨rfl, Mg, hw_x4⟩
  clear Og
  have sz_x4 := hw_x4.size
  replace Ow := Ow.wr hw_x4 (by omega)
  replace ACC := ACC.trans (hw_x4.below (by omega) ACC.size)
  clear hw_x4
  have Og := Mg
  clear Mg
  go_wp2_with fail
  refine (heldStringS_any Ag ng cg _ 1 _ (by omega) (by omega) (by omega) Og.rd).mono ?_
  rintro e x5 ⟨rfl, hb_x5⟩
  have sz_x5 := hb_x5.size
  replace Ow := Ow.below hb_x5
  replace Og := Og.below hb_x5
  replace ACC := ACC.trans (hb_x5.mono ACC.size)
  clear hb_x5
  go_wp2_with fail
  refine (im_AllChanges a0 _ w0).mono ?_
  rintro e x6 ⟨Ak, nk, ck, rfl, Ok, hb_x6⟩
  have sz_x6 := hb_x6.size
  replace Ow := Ow.below hb_x6
  replace Og := Og.below hb_x6
  replace ACC := ACC.trans (hb_x6.mono ACC.size)
  clear hb_x6
  go_wp2_with fail
  refine (eqStringS_eq Ak Aw nk nw ck cw (out_AllChanges a0) _ Ok.rd Ow.rd).mono ?_
  rintro e x7 ⟨rfl, hb_x7⟩
  have sz_x7 := hb_x7.size
  replace Ow := Ow.below hb_x7
  replace Og := Og.below hb_x7
  replace Ok := Ok.below hb_x7
  replace ACC := ACC.trans (hb_x7.mono ACC.size)
  clear hb_x7
  go_wp2_with fail
  refine (heldStringS_any Ag ng cg _ 1 _ (by omega) (by omega) (by omega) Og.rd).mono ?_
  rintro e x8 ⟨rfl, hb_x8⟩
  have sz_x8 := hb_x8.size
  replace Ow := Ow.below hb_x8
  replace Og := Og.below hb_x8
  replace Ok := Ok.below hb_x8
  replace ACC := ACC.trans (hb_x8.mono ACC.size)
  clear hb_x8
  go_wp2
  go_ret
  exact ⟨rfl, ACC⟩
end Go.Proofs.Ytajmjfekddgelaa
