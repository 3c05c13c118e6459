/- FnExactStillBells returns true at every input. No condition. -/
import Derived.Test.YtbmabfgnmafooaaSpStillBells
import Derived.Test.YtbmabfgnmafooaaLawM
namespace Go.Proofs.Ytbmabfgnmafooaa
open Go.RowKit
set_option linter.unusedVariables false

set_option maxRecDepth 100000 in
set_option maxHeartbeats 2000000 in
theorem law_FnExactStillBells (a0 : ByteArray) (s0 : Int) (A0 : Option Addr) (len0 cap0 : Nat) (z0 : List ByteArray) {w : World} (u0 : a0.size ≤ maxLen) (v0 : (Lit.int .i64 s0).wf = true) (w0 : StrsIn w A0 len0 z0) :
    Calls Try.prog 8 #[.agg #[.string a0, .int .i64 s0, .slice A0 len0 cap0]] w fun e w' => e = .returned (.bool true) ∧ Below w.heap.size w w' := by
  obtain ⟨R0, z0m⟩ := w0
  have l0 := R0.lenB
  obtain ⟨q, hq⟩ : ∃ q, q = szM a0 z0 1048576 := ⟨_, rfl⟩
  have HC : Hid (∀ W, Below w.heap.size w W → Calls Try.prog 14 #[.agg #[.string a0, .int .i64 s0, .slice A0 len0 cap0], .int .i64 1048576] W fun e w' => e = .returned (.int .i64 q) ∧ Below W.heap.size W w') := fun W h => by
    rw [hq]; exact szMethod_any a0 s0 A0 len0 cap0 z0 1048576 W (by omega) (by omega) u0 (R0.below h) z0m
  have HQ := Lib.hid hq
  have HZM := Lib.hid z0m
  have HR0 := Lib.hid R0
  clear hq z0m R0
  obtain ⟨B0, hB0⟩ : ∃ B, B = w.alloc (.cells #[.string a0, .int .i64 s0, .slice A0 len0 cap0] 24) := ⟨_, rfl⟩
  have hbB : Below w.heap.size w B0 := by rw [hB0]; exact below_alloc _ _
  have hsB : w.heap.size < B0.heap.size := by rw [hB0]; simp
  have hcB := box3 w 24 (.string a0) (.int .i64 s0) (.slice A0 len0 cap0)
  rw [← hB0] at hcB
  have HCB := Lib.hid hcB
  by_cases hneg : q < 0
  · go_enter Try.func8, Try.ntmps8
    go_wp2_with fail
    rw [← hB0]
    refine (HC.out _ hbB).mono ?_
    rintro e x1 ⟨rfl, hb1⟩
    go_wp2
    go_ret
    exact ⟨rfl, hbB.trans (hb1.mono hbB.size)⟩
  · have hle := szM_le (nm := a0) (ss := z0) (l := 1048576) (by rw [← HQ.out]; omega)
    have hs0 : a0.size ≤ 1048576 := by have := hle.1; omega
    have hn0 : z0.length ≤ 1048576 := by have := hle.2.1; omega
    have hm0 : len0 ≤ 1048576 := by have := HR0.out.slen; omega
    have hz0 : Hid (∀ s ∈ z0, s.size ≤ 1048576) := fun s hs => by have := hle.2.2.1 s hs; omega
    have p0 : 0 ≤ q := by omega
    clear hle hneg HQ hcB
    have HT : Hid (∀ W, Below w.heap.size w W → Calls Try.prog 16 #[.agg #[.string a0, .int .i64 s0, .slice A0 len0 cap0]] W (RetM a0 s0 z0 W)) := fun W h => toMethod_any a0 s0 A0 len0 cap0 z0 W (by omega) (HR0.out.below h)
    obtain ⟨b, hb⟩ : ∃ b, b = ok_StillBells a0 s0 z0 := ⟨_, rfl⟩
    obtain ⟨os, hos⟩ : ∃ o, o = out_StillBells a0 s0 z0 := ⟨_, rfl⟩
    have HLen : Hid (os.length ≤ 4194304) := by unfold Hid; rw [hos]; exact len_StillBells a0 s0 z0 hn0
    have HS : Hid (∀ A n c W, n ≤ c → Rd W A n (strsV z0) → Calls Try.prog 32 #[.agg #[.string a0, .int .i64 s0, .slice A n c]] W (RetSB 3 (intsV os) b W)) := fun A n c W hc h => by rw [hb, hos]; exact sp_StillBells a0 s0 A n c z0 W hs0 v0 hc h hz0.out hn0
    have HI : Hid (∀ A n c W, n ≤ c → Rd W A n (strsV z0) → Calls Try.prog 33 #[.agg #[.string a0, .int .i64 s0, .slice A n c]] W (RetSB 3 (intsV os) b W)) := fun A n c W hc h => by rw [hb, hos]; exact im_StillBells a0 s0 A n c z0 W hs0 v0 hc h hz0.out hn0
    have hbb : (b != b) = false := by simp
    clear hb hos
    go_enter Try.func8, Try.ntmps8
    go_wp2_with fail
    rw [← hB0]
    refine (HC.out _ hbB).mono ?_
    rintro e x1 ⟨rfl, hb⟩
    have KA := HCB.out
    have ACC := hbB
    clear hB0
    have sz0 := hsB
    have sz_x1 := hb.size
    replace KA := keep3 hb (by omega) KA
    replace ACC := ACC.trans (hb.mono ACC.size)
    clear hb
    obtain ⟨f00, f01, f02⟩ := KA
    go_wp2_with fail
    refine (HT.out _ ACC).mono ?_
    rintro e x2 ⟨A1, n1, c1, rfl, O1, hb⟩
    have KA := And.intro f00 (And.intro f01 f02)
    clear f00 f01 f02
    have sz_x2 := hb.size
    replace KA := keep3 hb (by omega) KA
    replace ACC := ACC.trans (hb.mono ACC.size)
    clear hb
    obtain ⟨f00, f01, f02⟩ := KA
    go_wp2_with fail
    refine (HS.out A1 n1 c1 _ O1.cap_ O1.rd).mono ?_
    rintro e x3 ⟨Aw, nw, cw, rfl, Ow, hb⟩
    have KA := And.intro f00 (And.intro f01 f02)
    clear f00 f01 f02
    have sz_x3 := hb.size
    replace O1 := O1.below hb
    replace KA := keep3 hb (by omega) KA
    replace ACC := ACC.trans (hb.mono ACC.size)
    clear hb
    obtain ⟨f00, f01, f02⟩ := KA
    clear O1
    go_wp2_with fail
    refine (HT.out _ ACC).mono ?_
    rintro e x4 ⟨Ax, nx, cx, rfl, Ox, hb⟩
    have KA := And.intro f00 (And.intro f01 f02)
    clear f00 f01 f02
    have sz_x4 := hb.size
    replace Ow := Ow.below hb
    replace KA := keep3 hb (by omega) KA
    replace ACC := ACC.trans (hb.mono ACC.size)
    clear hb
    obtain ⟨f00, f01, f02⟩ := KA
    go_wp2_with fail
    obtain ⟨x5, hx5⟩ : ∃ x, x = x4.alloc (.cells #[.string a0, .int .i64 s0, .slice Ax nx cx] 27) := ⟨_, rfl⟩
    rw [← hx5]
    have hb : Below x4.heap.size x4 x5 := by rw [hx5]; exact below_alloc _ _
    have s45 : x4.heap.size < x5.heap.size := by rw [hx5]; simp
    have KX := box3 x4 27 (.string a0) (.int .i64 s0) (.slice Ax nx cx)
    rw [← hx5] at KX
    have KA := And.intro f00 (And.intro f01 f02)
    clear f00 f01 f02 hx5
    have sz_x5 := hb.size
    replace Ow := Ow.below hb
    replace Ox := Ox.below hb
    replace KA := keep3 hb (by omega) KA
    replace ACC := ACC.trans (hb.mono ACC.size)
    clear hb
    refine (HI.out Ax nx cx _ Ox.cap_ Ox.rd).mono ?_
    rintro e x6 ⟨Ag, ng, cg, rfl, Og, hb⟩
    have sz_x6 := hb.size
    replace Ow := Ow.below hb
    replace Ox := Ox.below hb
    replace KA := keep3 hb (by omega) KA
    replace KX := keep3 hb (by omega) KX
    replace ACC := ACC.trans (hb.mono ACC.size)
    clear hb
    obtain ⟨f00, f01, f02⟩ := KA
    obtain ⟨f10, f11, f12⟩ := KX
    go_wp2_with fail
    refine (eqIntS_eq Ag Aw ng nw cg cw os _ Og.rd Ow.rd).mono ?_
    rintro e x7 ⟨rfl, hb⟩
    have KA := And.intro f00 (And.intro f01 f02)
    clear f00 f01 f02
    have KX := And.intro f10 (And.intro f11 f12)
    clear f10 f11 f12
    have sz_x7 := hb.size
    replace Ow := Ow.below hb
    replace Ox := Ox.below hb
    replace Og := Og.below hb
    replace KA := keep3 hb (by omega) KA
    replace KX := keep3 hb (by omega) KX
    replace ACC := ACC.trans (hb.mono ACC.size)
    clear hb
    obtain ⟨f00, f01, f02⟩ := KA
    obtain ⟨f10, f11, f12⟩ := KX
    have HT7 := Lib.hid (HT.out x7.drew ACC.drew)
    have HRx := Lib.hid Ox.rd
    have HE : Hid (∀ A n c y, Below x7.drew.heap.size x7.drew y → Rd y A n (strsV z0) → Calls Try.prog 18 #[.agg #[.string a0, .int .i64 s0, .slice Ax nx cx], .agg #[.string a0, .int .i64 s0, .slice A n c]] y fun e w' => e = .returned (.bool true) ∧ Below y.heap.size y w') := fun A n c y h hr => eqMethod_eq a0 s0 Ax A nx n cx c z0 y (by have := HRx.out.slen; omega) ((show Rd x7.drew Ax nx (strsV z0) from HRx.out).below h) hr
    have HK7 := Lib.hid (And.intro f10 (And.intro f11 (And.intro f12 (And.intro f00 (And.intro f01 f02)))))
    have sA : w.heap.size < x7.heap.size := by omega
    have sX : x4.heap.size < x7.heap.size := by omega
    go_wp2
    go_region_held3 (fun w' => w'.cell? ⟨x4.heap.size, 0, none⟩ = some (.string a0) ∧ w'.cell? ⟨x4.heap.size, 1, none⟩ = some (.int .i64 s0) ∧ w'.cell? ⟨x4.heap.size, 2, none⟩ = some (.slice Ax nx cx) ∧ w'.cell? ⟨w.heap.size, 0, none⟩ = some (.string a0) ∧ w'.cell? ⟨w.heap.size, 1, none⟩ = some (.int .i64 s0) ∧ w'.cell? ⟨w.heap.size, 2, none⟩ = some (.slice A0 len0 cap0))
      (first | go_keep | exact HK7.out | (exact keep6 hb7 (by simpa using sX) (by simpa using sA) ⟨f10, f11, f12⟩ ⟨f00, f01, f02⟩) | (exact keep6 (hb7.trans (hb8.mono hb7.size)) (by simpa using sX) (by simpa using sA) ⟨f10, f11, f12⟩ ⟨f00, f01, f02⟩))
      (first | (go_at_call 16; refine HT7.out.mono ?_; rintro e x8 ⟨Ay, ny, cy, rfl, ho3, hb7⟩) | (go_at_call 18; refine (HE.out Ay ny cy x8 hb7 ho3.rd).mono ?_; rintro e x9 ⟨rfl, hb8⟩))
    have hb : Below x7.heap.size x7 x9 := ((Below.refl _ x7).drew).trans (hb7.trans (hb8.mono hb7.size))
    clear ho3 hb7 hb8 HT7 HRx HE HK7
    have KA := And.intro f00 (And.intro f01 f02)
    have KX := And.intro f10 (And.intro f11 f12)
    clear f00 f01 f02 f10 f11 f12
    have sz_x9 := hb.size
    replace Ow := Ow.below hb
    replace Ox := Ox.below hb
    replace Og := Og.below hb
    replace KA := keep3 hb (by omega) KA
    replace KX := keep3 hb (by omega) KX
    replace ACC := ACC.trans (hb.mono ACC.size)
    clear hb
    obtain ⟨f00, f01, f02⟩ := KA
    obtain ⟨f10, f11, f12⟩ := KX
    have hlg : ng ≤ 4194304 := by have := Og.rd.ilen; have := HLen.out; omega
    have hlx : nx ≤ 1048576 := by have := Ox.rd.slen; omega
    go_wp2_with fail
    refine (markMethod_any x3.heap.size x4.heap.size a0 s0 Ax nx cx _ _ 1 _ (by omega) (by omega) (by omega) Ox (by omega)).mono ?_
    rintro e x10 ⟨rfl, Mx, hb⟩
    clear Ox Mx
    have KA := And.intro f00 (And.intro f01 f02)
    clear f00 f01 f02
    have KX := And.intro f10 (And.intro f11 f12)
    clear f10 f11 f12
    have sz_x10 := hb.size
    replace Ow := Ow.wr hb (by omega)
    replace Og := Og.wr hb (by omega)
    replace KA := keep3w hb (by omega) (by omega) KA
    replace KX := keep3w hb (by omega) (by omega) KX
    replace ACC := ACC.trans (hb.below (by omega) ACC.size)
    clear hb
    clear KX
    obtain ⟨f00, f01, f02⟩ := KA
    go_wp2_with fail
    refine (eqIntS_eq Ag Aw ng nw cg cw os _ Og.rd Ow.rd).mono ?_
    rintro e x11 ⟨rfl, hb⟩
    have KA := And.intro f00 (And.intro f01 f02)
    clear f00 f01 f02
    have sz_x11 := hb.size
    replace Ow := Ow.below hb
    replace Og := Og.below hb
    replace KA := keep3 hb (by omega) KA
    replace ACC := ACC.trans (hb.mono ACC.size)
    clear hb
    obtain ⟨f00, f01, f02⟩ := KA
    go_wp2_with fail
    refine (markIntS_any x5.heap.size x6.heap.size Ag ng cg _ _ 1 _ (by omega) (by omega) Og).mono ?_
    rintro e x12 ⟨rfl, Mg, hb⟩
    clear Og
    have KA := And.intro f00 (And.intro f01 f02)
    clear f00 f01 f02
    have sz_x12 := hb.size
    replace Ow := Ow.wr hb (by omega)
    replace KA := keep3w hb (by omega) (by omega) KA
    replace ACC := ACC.trans (hb.below (by omega) ACC.size)
    clear hb
    obtain ⟨f00, f01, f02⟩ := KA
    have Og := Mg
    clear Mg
    go_wp2_with fail
    refine (heldIntS_any Ag ng cg _ 1 _ (by omega) (by omega) Og.rd).mono ?_
    rintro e x13 ⟨rfl, rfl⟩
    go_wp2_with fail
    refine (HT.out _ ACC).mono ?_
    rintro e x14 ⟨Ah, nh, ch, rfl, Oh, hb⟩
    have KA := And.intro f00 (And.intro f01 f02)
    clear f00 f01 f02
    have sz_x14 := hb.size
    replace Ow := Ow.below hb
    replace Og := Og.below hb
    replace KA := keep3 hb (by omega) KA
    replace ACC := ACC.trans (hb.mono ACC.size)
    clear hb
    obtain ⟨f00, f01, f02⟩ := KA
    go_wp2_with fail
    refine (HI.out Ah nh ch _ Oh.cap_ Oh.rd).mono ?_
    rintro e x15 ⟨Ak, nk, ck, rfl, Ok, hb⟩
    have KA := And.intro f00 (And.intro f01 f02)
    clear f00 f01 f02
    have sz_x15 := hb.size
    replace Ow := Ow.below hb
    replace Og := Og.below hb
    replace Oh := Oh.below hb
    replace KA := keep3 hb (by omega) KA
    replace ACC := ACC.trans (hb.mono ACC.size)
    clear hb
    obtain ⟨f00, f01, f02⟩ := KA
    go_wp2_with fail
    refine (eqIntS_eq Ak Aw nk nw ck cw os _ Ok.rd Ow.rd).mono ?_
    rintro e x16 ⟨rfl, hb⟩
    have KA := And.intro f00 (And.intro f01 f02)
    clear f00 f01 f02
    have sz_x16 := hb.size
    replace Ow := Ow.below hb
    replace Og := Og.below hb
    replace Oh := Oh.below hb
    replace Ok := Ok.below hb
    replace KA := keep3 hb (by omega) KA
    replace ACC := ACC.trans (hb.mono ACC.size)
    clear hb
    obtain ⟨f00, f01, f02⟩ := KA
    go_wp2_with fail
    refine (heldIntS_any Ag ng cg _ 1 _ (by omega) (by omega) Og.rd).mono ?_
    rintro e x17 ⟨rfl, rfl⟩
    go_wp2
    go_ret
    exact ⟨rfl, ACC⟩
end Go.Proofs.Ytbmabfgnmafooaa
