/- FnExactHalvesOf returns true at every input. No condition. -/
import Derived.Test.YtgpjbmlemnjhfaaSpHalvesOf
import Derived.Test.YtgpjbmlemnjhfaaWalkS
import Derived.Test.YtgpjbmlemnjhfaaOpen
namespace Go.Proofs.Ytgpjbmlemnjhfaa
open Go.RowKit
set_option linter.unusedVariables false

set_option maxRecDepth 100000 in
set_option maxHeartbeats 2000000 in
theorem law_FnExactHalvesOf (a0 : Int) (a1 : Option Addr) (len1 cap1 : Nat) (z1 : List ByteArray) {w : World} (w0 : (Lit.int .i64 a0).wf = true) (w1 : StrsIn w a1 len1 z1) :
    Calls Try.prog 4 #[.int .i64 a0, .slice a1 len1 cap1] w fun e w' => e = .returned (.bool true) ∧ Below w.heap.size w w' := by
  obtain ⟨R1, z1m⟩ := w1
  have l1 := R1.lenB
  obtain ⟨left1, hleft1⟩ : ∃ l : Int, l = szL z1 1048576 := ⟨_, rfl⟩
  have g1 := szL_ge z1 1048576
  by_cases hneg1 : left1 < 0
  · have hC : ∀ W, Rd W a1 len1 (strsV z1) → Calls Try.prog 17 #[.slice a1 len1 cap1, .int .i64 1048576] W fun e w' => e = .returned (.int .i64 left1) ∧ W = w' := fun W h => by rw [hleft1]; exact szStringS_any a1 len1 cap1 z1 1048576 W (by omega) (by omega) h z1m
    have HC := Lib.hid hC
    clear hC hleft1 g1 z1m
    go_enter Try.func4, Try.ntmps4
    go_wp2_with fail
    refine (HC.out _ R1).mono ?_
    rintro e w' ⟨rfl, rfl⟩
    go_wp2
    go_ret
    exact ⟨rfl, Below.refl _ _⟩
  have hC1 : ∀ W, Rd W a1 len1 (strsV z1) → Calls Try.prog 17 #[.slice a1 len1 cap1, .int .i64 1048576] W fun e w' => e = .returned (.int .i64 left1) ∧ W = w' := fun W h => by rw [hleft1]; exact szStringS_any a1 len1 cap1 z1 1048576 W (by omega) (by omega) h z1m
  have HC1 := Lib.hid hC1
  have hsz1 := szL_le (ss := z1) (l := 1048576) (by omega)
  rw [← hleft1] at hsz1
  have hn1 : z1.length ≤ 1048576 := by omega
  have hm1 : len1 ≤ 1048576 := by have := R1.slen; omega
  have hz1 : Hid (∀ s ∈ z1, s.size ≤ 1048576) := fun s hs => by have := hsz1.2.2 s hs; omega
  have p1 : 0 ≤ left1 := by omega
  have q1 : left1 ≤ 1048576 := by omega
  clear hC1 hleft1 g1 hneg1 hsz1 z1m
  go_enter Try.func4, Try.ntmps4
  go_wp2_with fail
  refine (HC1.out _ R1).mono ?_
  rintro e w' ⟨rfl, rfl⟩
  go_wp2_with fail
  refine (toStringS_any a1 len1 cap1 z1 _ (by omega) R1).mono ?_
  rintro e x1 ⟨As1, ns1, cs1, rfl, Os1, hb_x1⟩
  have sz_x1 := hb_x1.size
  have ACC := hb_x1
  clear hb_x1
  go_wp2_with fail
  refine (sp_HalvesOf a0 As1 ns1 cs1 z1 _ w0 Os1.cap_ Os1.rd hz1.out hn1).mono ?_
  rintro e x2 ⟨Awa, nwa, cwa, Awb, nwb, cwb, l1w, h1w, l2w, h2w, rfl, Owa, Owb, djw, daw, dbw, dcw, ddw, hb_x2⟩
  have sz_x2 := hb_x2.size
  replace Os1 := Os1.below hb_x2
  replace ACC := ACC.trans (hb_x2.mono ACC.size)
  clear hb_x2
  clear Os1
  go_wp2_with fail
  refine (toStringS_any a1 len1 cap1 z1 _ (by omega) (R1.below ACC)).mono ?_
  rintro e x3 ⟨Ax1, nx1, cx1, rfl, Ox1, hb_x3⟩
  have sz_x3 := hb_x3.size
  replace Owa := Owa.below hb_x3
  replace Owb := Owb.below hb_x3
  replace ACC := ACC.trans (hb_x3.mono ACC.size)
  clear hb_x3
  go_wp2_with fail
  refine (im_HalvesOf a0 Ax1 nx1 cx1 z1 _ w0 Ox1.cap_ Ox1.rd hz1.out hn1).mono ?_
  rintro e x4 ⟨Aga, nga, cga, Agb, ngb, cgb, l1g, h1g, l2g, h2g, rfl, Oga, Ogb, djg, dag, dbg, dcg, ddg, hb_x4⟩
  have sz_x4 := hb_x4.size
  replace Owa := Owa.below hb_x4
  replace Owb := Owb.below hb_x4
  replace Ox1 := Ox1.below hb_x4
  replace ACC := ACC.trans (hb_x4.mono ACC.size)
  clear hb_x4
  go_wp2_with fail
  refine (eqStringS_eq Aga Awa nga nwa cga cwa (out_HalvesOf a0 z1) _ Oga.rd Owa.rd).mono ?_
  rintro e x5 ⟨rfl, hb_x5⟩
  have sz_x5 := hb_x5.size
  replace Owa := Owa.below hb_x5
  replace Owb := Owb.below hb_x5
  replace Ox1 := Ox1.below hb_x5
  replace Oga := Oga.below hb_x5
  replace Ogb := Ogb.below hb_x5
  replace ACC := ACC.trans (hb_x5.mono ACC.size)
  clear hb_x5
  go_wp2_with fail
  refine (eqStringS_eq Agb Awb ngb nwb cgb cwb (outB_HalvesOf a0 z1) _ Ogb.rd Owb.rd).mono ?_
  rintro e x6 ⟨rfl, hb_x6⟩
  have sz_x6 := hb_x6.size
  replace Owa := Owa.below hb_x6
  replace Owb := Owb.below hb_x6
  replace Ox1 := Ox1.below hb_x6
  replace Oga := Oga.below hb_x6
  replace Ogb := Ogb.below hb_x6
  replace ACC := ACC.trans (hb_x6.mono ACC.size)
  clear hb_x6
  go_wp2_with fail
  refine (toStringS_any a1 len1 cap1 z1 _ (by omega) (R1.below ACC)).mono ?_
  rintro e x7 ⟨Ay1, ny1, cy1, rfl, Oy1, hb_x7⟩
  have sz_x7 := hb_x7.size
  replace Owa := Owa.below hb_x7
  replace Owb := Owb.below hb_x7
  replace Ox1 := Ox1.below hb_x7
  replace Oga := Oga.below hb_x7
  replace Ogb := Ogb.below hb_x7
  replace ACC := ACC.trans (hb_x7.mono ACC.size)
  clear hb_x7
  go_wp2_with fail
  refine (eqStringS_eq Ax1 Ay1 nx1 ny1 cx1 cy1 z1 _ Ox1.rd Oy1.rd).mono ?_
  rintro e x8 ⟨rfl, hb_x8⟩
  have sz_x8 := hb_x8.size
  replace Owa := Owa.below hb_x8
  replace Owb := Owb.below hb_x8
  replace Ox1 := Ox1.below hb_x8
  replace Oga := Oga.below hb_x8
  replace Ogb := Ogb.below hb_x8
  replace Oy1 := Oy1.below hb_x8
  replace ACC := ACC.trans (hb_x8.mono ACC.size)
  clear hb_x8
  clear Oy1
  have hlenA : Hid ((out_HalvesOf a0 z1).length ≤ 4194304) := lenA_HalvesOf a0 z1 hn1
  have hlenB : Hid ((outB_HalvesOf a0 z1).length ≤ 4194304) := lenB_HalvesOf a0 z1 hn1
  have hlga : nga ≤ 4194304 := by have := Oga.rd.slen; have := hlenA.out; omega
  have hlgb : ngb ≤ 4194304 := by have := Ogb.rd.slen; have := hlenB.out; omega
  have hlx1 : nx1 ≤ 1048576 := by have := Ox1.rd.slen; omega
  go_wp2_with fail
  refine (markStringS_any (x2.heap.size) (x3.heap.size) Ax1 nx1 cx1 _ _ 1 _ (by omega) (by omega) (by omega) Ox1).mono ?_
  rintro e x9 ⟨rfl, Mx1, hw_x9⟩
  clear Ox1
  have sz_x9 := hw_x9.size
  replace Owa := Owa.wr hw_x9 (by omega)
  replace Owb := Owb.wr hw_x9 (by omega)
  replace Oga := Oga.wr hw_x9 (by omega)
  replace Ogb := Ogb.wr hw_x9 (by omega)
  replace ACC := ACC.trans (hw_x9.below (by omega) ACC.size)
  clear hw_x9
  go_wp2_with fail
  refine (eqStringS_eq Aga Awa nga nwa cga cwa (out_HalvesOf a0 z1) _ Oga.rd Owa.rd).mono ?_
  rintro e x10 ⟨rfl, hb_x10⟩
  have sz_x10 := hb_x10.size
  replace Owa := Owa.below hb_x10
  replace Owb := Owb.below hb_x10
  replace Oga := Oga.below hb_x10
  replace Ogb := Ogb.below hb_x10
  replace ACC := ACC.trans (hb_x10.mono ACC.size)
  clear hb_x10
  go_wp2_with fail
  refine (eqStringS_eq Agb Awb ngb nwb cgb cwb (outB_HalvesOf a0 z1) _ Ogb.rd Owb.rd).mono ?_
  rintro e x11 ⟨rfl, hb_x11⟩
  have sz_x11 := hb_x11.size
  replace Owa := Owa.below hb_x11
  replace Owb := Owb.below hb_x11
  replace Oga := Oga.below hb_x11
  replace Ogb := Ogb.below hb_x11
  replace ACC := ACC.trans (hb_x11.mono ACC.size)
  clear hb_x11
  go_wp2_with fail
  refine (markStringS_any (l1g) (h1g) Aga nga cga _ _ 1 _ (by omega) (by omega) (by omega) Oga).mono ?_
  rintro e x12 ⟨rfl, Mga, hw_x12⟩
  clear Oga
  have sz_x12 := hw_x12.size
  replace Owa := Owa.wr hw_x12 (by omega)
  replace Owb := Owb.wr hw_x12 (by omega)
  replace Ogb := Ogb.wr hw_x12 (by omega)
  replace ACC := ACC.trans (hw_x12.below (by omega) ACC.size)
  clear hw_x12
  have Oga := Mga
  clear Mga
  go_wp2_with fail
  refine (markStringS_any (l2g) (h2g) Agb ngb cgb _ _ (1 + nga) _ (by omega) (by omega) (by omega) Ogb).mono ?_
  rintro e x13 ⟨rfl, Mgb, hw_x13⟩
  clear Ogb
  have sz_x13 := hw_x13.size
  replace Owa := Owa.wr hw_x13 (by omega)
  replace Owb := Owb.wr hw_x13 (by omega)
  replace Oga := Oga.wr hw_x13 (by omega)
  replace ACC := ACC.trans (hw_x13.below (by omega) ACC.size)
  clear hw_x13
  have Ogb := Mgb
  clear Mgb
  go_wp2_with fail
  refine (heldStringS_any Aga nga cga _ 1 _ (by omega) (by omega) (by omega) Oga.rd).mono ?_
  rintro e x14 ⟨rfl, hb_x14⟩
  have sz_x14 := hb_x14.size
  replace Owa := Owa.below hb_x14
  replace Owb := Owb.below hb_x14
  replace Oga := Oga.below hb_x14
  replace Ogb := Ogb.below hb_x14
  replace ACC := ACC.trans (hb_x14.mono ACC.size)
  clear hb_x14
  go_wp2_with fail
  refine (heldStringS_any Agb ngb cgb _ (1 + nga) _ (by omega) (by omega) (by omega) Ogb.rd).mono ?_
  rintro e x15 ⟨rfl, hb_x15⟩
  have sz_x15 := hb_x15.size
  replace Owa := Owa.below hb_x15
  replace Owb := Owb.below hb_x15
  replace Oga := Oga.below hb_x15
  replace Ogb := Ogb.below hb_x15
  replace ACC := ACC.trans (hb_x15.mono ACC.size)
  clear hb_x15
  go_wp2_with fail
  refine (toStringS_any a1 len1 cap1 z1 _ (by omega) (R1.below ACC)).mono ?_
  rintro e x16 ⟨Ah1, nh1, ch1, rfl, Oh1, hb_x16⟩
  have sz_x16 := hb_x16.size
  replace Owa := Owa.below hb_x16
  replace Owb := Owb.below hb_x16
  replace Oga := Oga.below hb_x16
  replace Ogb := Ogb.below hb_x16
  replace ACC := ACC.trans (hb_x16.mono ACC.size)
  clear hb_x16
  go_wp2_with fail
  refine (im_HalvesOf a0 Ah1 nh1 ch1 z1 _ w0 Oh1.cap_ Oh1.rd hz1.out hn1).mono ?_
  rintro e x17 ⟨Aka, nka, cka, Akb, nkb, ckb, l1k, h1k, l2k, h2k, rfl, Oka, Okb, djk, dak, dbk, dck, ddk, hb_x17⟩
  have sz_x17 := hb_x17.size
  replace Owa := Owa.below hb_x17
  replace Owb := Owb.below hb_x17
  replace Oga := Oga.below hb_x17
  replace Ogb := Ogb.below hb_x17
  replace Oh1 := Oh1.below hb_x17
  replace ACC := ACC.trans (hb_x17.mono ACC.size)
  clear hb_x17
  go_wp2_with fail
  refine (eqStringS_eq Aka Awa nka nwa cka cwa (out_HalvesOf a0 z1) _ Oka.rd Owa.rd).mono ?_
  rintro e x18 ⟨rfl, hb_x18⟩
  have sz_x18 := hb_x18.size
  replace Owa := Owa.below hb_x18
  replace Owb := Owb.below hb_x18
  replace Oga := Oga.below hb_x18
  replace Ogb := Ogb.below hb_x18
  replace Oh1 := Oh1.below hb_x18
  replace Oka := Oka.below hb_x18
  replace Okb := Okb.below hb_x18
  replace ACC := ACC.trans (hb_x18.mono ACC.size)
  clear hb_x18
  go_wp2_with fail
  refine (eqStringS_eq Akb Awb nkb nwb ckb cwb (outB_HalvesOf a0 z1) _ Okb.rd Owb.rd).mono ?_
  rintro e x19 ⟨rfl, hb_x19⟩
  have sz_x19 := hb_x19.size
  replace Owa := Owa.below hb_x19
  replace Owb := Owb.below hb_x19
  replace Oga := Oga.below hb_x19
  replace Ogb := Ogb.below hb_x19
  replace Oh1 := Oh1.below hb_x19
  replace Oka := Oka.below hb_x19
  replace Okb := Okb.below hb_x19
  replace ACC := ACC.trans (hb_x19.mono ACC.size)
  clear hb_x19
  go_wp2_with fail
  refine (heldStringS_any Aga nga cga _ 1 _ (by omega) (by omega) (by omega) Oga.rd).mono ?_
  rintro e x20 ⟨rfl, hb_x20⟩
  have sz_x20 := hb_x20.size
  replace Owa := Owa.below hb_x20
  replace Owb := Owb.below hb_x20
  replace Oga := Oga.below hb_x20
  replace Ogb := Ogb.below hb_x20
  replace Oh1 := Oh1.below hb_x20
  replace Oka := Oka.below hb_x20
  replace Okb := Okb.below hb_x20
  replace ACC := ACC.trans (hb_x20.mono ACC.size)
  clear hb_x20
  go_wp2_with fail
  refine (heldStringS_any Agb ngb cgb _ (1 + nga) _ (by omega) (by omega) (by omega) Ogb.rd).mono ?_
  rintro e x21 ⟨rfl, hb_x21⟩
  have sz_x21 := hb_x21.size
  replace Owa := Owa.below hb_x21
  replace Owb := Owb.below hb_x21
  replace Oga := Oga.below hb_x21
  replace Ogb := Ogb.below hb_x21
  replace Oh1 := Oh1.below hb_x21
  replace Oka := Oka.below hb_x21
  replace Okb := Okb.below hb_x21
  replace ACC := ACC.trans (hb_x21.mono ACC.size)
  clear hb_x21
  go_wp2
  go_ret
  exact ⟨rfl, ACC⟩
end Go.Proofs.Ytgpjbmlemnjhfaa
