/- FnExactCyclesOf returns true at every input. No condition. -/
import Derived.Test.YtgpjbmlemnjhfaaSpCyclesOf
import Derived.Test.YtgpjbmlemnjhfaaOpen
import Derived.Test.YtgpjbmlemnjhfaaNest
namespace Go.Proofs.Ytgpjbmlemnjhfaa
open Go.RowKit
set_option linter.unusedVariables false

set_option maxRecDepth 100000 in
set_option maxHeartbeats 2000000 in
theorem law_FnExactCyclesOf (a0 : ByteArray) {w : World} (w0 : a0.size ≤ maxLen) :
    Calls Try.prog 3 #[.string a0] w fun e w' => e = .returned (.bool true) ∧ Below w.heap.size w w' := by
  by_cases hbig0 : 1048576 < a0.size
  · have hb : (1048576 : Int) < (a0.size : Int) := by omega
    go_enter Try.func3, Try.ntmps3
    go_wp2
    go_ret
    exact ⟨rfl, Below.refl _ _⟩
  have hb0 : (a0.size : Int) ≤ 1048576 := by omega
  have hs0 : a0.size ≤ 1048576 := by omega
  clear hbig0
  go_enter Try.func3, Try.ntmps3
  go_wp2_with fail
  refine (sp_CyclesOf a0 _ hs0).mono ?_
  rintro e x1 ⟨Aw, nw, cw, rsw, rfl, Ow, hb_x1⟩
  have sz_x1 := hb_x1.size
  have ACC := hb_x1
  clear hb_x1
  go_wp2_with fail
  refine (im_CyclesOf a0 _ hs0).mono ?_
  rintro e x2 ⟨Ag, ng, cg, rsg, rfl, Og, hb_x2⟩
  have sz_x2 := hb_x2.size
  replace Ow := Ow.below hb_x2
  replace ACC := ACC.trans (hb_x2.mono ACC.size)
  clear hb_x2
  go_wp2_with fail
  refine (eqIntSS_eq Ag Aw ng nw cg cw rsg rsw (out_CyclesOf a0) _ Og.rd Ow.rd).mono ?_
  rintro e x3 ⟨rfl, hb_x3⟩
  have sz_x3 := hb_x3.size
  replace Ow := Ow.below hb_x3
  replace Og := Og.below hb_x3
  replace ACC := ACC.trans (hb_x3.mono ACC.size)
  clear hb_x3
  have hlen : Hid (tot (out_CyclesOf a0) ≤ 4194304) := len_CyclesOf a0 
  go_wp2_with fail
  refine (markIntSS_any (x1.heap.size) (x2.heap.size) Ag ng cg rsg _ _ 1 _ (by omega) (by have := hlen.out; omega) Og).mono ?_
  rintro e x4 ⟨rfl, Mg, hw_x4⟩
  clear Og
  have sz_x4 := hw_x4.size
  replace Ow := Ow.wr hw_x4 (by omega)
  replace ACC := ACC.trans (hw_x4.below (by omega) ACC.size)
  clear hw_x4
  have Og := Mg
  clear Mg
  go_wp2_with fail
  refine (heldIntSS_any Ag ng cg rsg (out_CyclesOf a0) _ 1 _ (by omega) (by have := hlen.out; omega) Og.rd).mono ?_
  rintro e w' ⟨rfl, rfl⟩
  go_wp2_with fail
  refine (im_CyclesOf a0 _ hs0).mono ?_
  rintro e x5 ⟨Ak, nk, ck, rsk, rfl, Ok, hb_x5⟩
  have sz_x5 := hb_x5.size
  replace Ow := Ow.below hb_x5
  replace Og := Og.below hb_x5
  replace ACC := ACC.trans (hb_x5.mono ACC.size)
  clear hb_x5
  go_wp2_with fail
  refine (eqIntSS_eq Ak Aw nk nw ck cw rsk rsw (out_CyclesOf a0) _ Ok.rd Ow.rd).mono ?_
  rintro e x6 ⟨rfl, hb_x6⟩
  have sz_x6 := hb_x6.size
  replace Ow := Ow.below hb_x6
  replace Og := Og.below hb_x6
  replace Ok := Ok.below hb_x6
  replace ACC := ACC.trans (hb_x6.mono ACC.size)
  clear hb_x6
  go_wp2_with fail
  refine (heldIntSS_any Ag ng cg rsg (out_CyclesOf a0) _ 1 _ (by omega) (by have := hlen.out; omega) Og.rd).mono ?_
  rintro e w' ⟨rfl, rfl⟩
  go_wp2
  go_ret
  exact ⟨rfl, ACC⟩
end Go.Proofs.Ytgpjbmlemnjhfaa
