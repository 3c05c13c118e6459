/- FnExactStartAt returns true at every input. No condition. -/
import Derived.Test.YtbmabfgnmafooaaSpStartAt
import Derived.Test.YtbmabfgnmafooaaLawM
namespace Go.Proofs.Ytbmabfgnmafooaa
open Go.RowKit
set_option linter.unusedVariables false

set_option maxRecDepth 100000 in
set_option maxHeartbeats 2000000 in
theorem law_FnExactStartAt (a0 : ByteArray) (s0 : Int) (A0 : Option Addr) (len0 cap0 : Nat) (z0 : List ByteArray) (a1 : Int) {w : World} (u0 : a0.size ≤ maxLen) (v0 : (Lit.int .i64 s0).wf = true) (w0 : StrsIn w A0 len0 z0) (w1 : (Lit.int .i64 a1).wf = true) :
    Calls Try.prog 5 #[.agg #[.string a0, .int .i64 s0, .slice A0 len0 cap0], .int .i64 a1] w fun e w' => e = .returned (.bool true) ∧ Below w.heap.size w w' := by
  obtain ⟨R0, z0m⟩ := w0
  have l0 := R0.lenB
  obtain ⟨q, hq⟩ : ∃ q, q = szM a0 z0 1048576 := ⟨_, rfl⟩
  have HC : Hid (∀ W, Below w.heap.size w W → Calls Try.prog 14 #[.agg #[.string a0, .int .i64 s0, .slice A0 len0 cap0], .int .i64 1048576] W fun e w' => e = .returned (.int .i64 q) ∧ Below W.heap.size W w') := fun W h => by
    rw [hq]; exact szMethod_any a0 s0 A0 len0 cap0 z0 1048576 W (by omega) (by omega) u0 (R0.below h) z0m
  have HQ := Lib.hid hq
  have HZM := Lib.hid z0m
  have HR0 := Lib.hid R0
  clear hq z0m R0
  obtain ⟨B0, hB0⟩ : ∃ B, B = w.alloc (.cells #[.string a0, .int .i64 s0, .slice A0 len0 cap0] 24) := ⟨_, rfl⟩
  have hbB : Below w.heap.size w B0 := by rw [hB0]; exact below_alloc _ _
  have hsB : w.heap.size < B0.heap.size := by rw [hB0]; simp
  have hcB := box3 w 24 (.string a0) (.int .i64 s0) (.slice A0 len0 cap0)
  rw [← hB0] at hcB
  have HCB := Lib.hid hcB
  by_cases hneg : q < 0
  · go_enter Try.func5, Try.ntmps5
    go_wp2_with fail
    rw [← hB0]
    refine (HC.out _ hbB).mono ?_
    rintro e x1 ⟨rfl, hb1⟩
    go_wp2
    go_ret
    exact ⟨rfl, hbB.trans (hb1.mono hbB.size)⟩
  · have hle := szM_le (nm := a0) (ss := z0) (l := 1048576) (by rw [← HQ.out]; omega)
    have hs0 : a0.size ≤ 1048576 := by have := hle.1; omega
    have hn0 : z0.length ≤ 1048576 := by have := hle.2.1; omega
    have hm0 : len0 ≤ 1048576 := by have := HR0.out.slen; omega
    have hz0 : Hid (∀ s ∈ z0, s.size ≤ 1048576) := fun s hs => by have := hle.2.2.1 s hs; omega
    have p0 : 0 ≤ q := by omega
    clear hle hneg HQ hcB
    have HT : Hid (∀ W, Below w.heap.size w W → Calls Try.prog 16 #[.agg #[.string a0, .int .i64 s0, .slice A0 len0 cap0]] W (RetM a0 s0 z0 W)) := fun W h => toMethod_any a0 s0 A0 len0 cap0 z0 W (by omega) (HR0.out.below h)
    obtain ⟨b, hb⟩ : ∃ b, b = okSA a0 s0 z0 a1 := ⟨_, rfl⟩
    obtain ⟨on, hon⟩ : ∃ b, b = onSA a0 s0 z0 a1 := ⟨_, rfl⟩
    obtain ⟨ost, host⟩ : ∃ b, b = osSA a0 s0 z0 a1 := ⟨_, rfl⟩
    obtain ⟨os, hos⟩ : ∃ b, b = olSA a0 s0 z0 a1 := ⟨_, rfl⟩
    have HLen : Hid (os.length ≤ 4194304) := by unfold Hid; rw [hos]; exact len_StartAt a0 s0 z0 a1 hn0
    have HS : Hid (∀ A n c W, n ≤ c → Rd W A n (strsV z0) → Calls Try.prog 23 #[.agg #[.string a0, .int .i64 s0, .slice A n c], .int .i64 a1] W (RetMB on ost os b W)) := fun A n c W hc h => by rw [hb, hon, host, hos]; exact sp_StartAt a0 s0 A n c z0 a1 W hs0 v0 hc h hz0.out hn0 w1
    have HI : Hid (∀ A n c W, n ≤ c → Rd W A n (strsV z0) → Calls Try.prog 24 #[.agg #[.string a0, .int .i64 s0, .slice A n c], .int .i64 a1] W (RetMB on ost os b W)) := fun A n c W hc h => by rw [hb, hon, host, hos]; exact im_StartAt a0 s0 A n c z0 a1 W hs0 v0 hc h hz0.out hn0 w1
    have hbb : (b != b) = false := by simp
    clear hb hon host hos
    go_enter Try.func5, Try.ntmps5
    go_wp2_with fail
    rw [← hB0]
    refine (HC.out _ hbB).mono ?_
    rintro e x1 ⟨rfl, hb⟩
    have KA := HCB.out
    have ACC := hbB
    clear hB0
    have sz0 := hsB
    have sz_x1 := hb.size
    replace KA := keep3 hb (by omega) KA
    replace ACC := ACC.trans (hb.mono ACC.size)
    clear hb
    obtain ⟨f00, f01, f02⟩ := KA
    go_wp2_with fail
    refine (HT.out _ ACC).mono ?_
    rintro e x2 ⟨A1, n1, c1, rfl, O1, hb⟩
    have KA := And.intro f00 (And.intro f01 f02)
    clear f00 f01 f02
    have sz_x2 := hb.size
    replace KA := keep3 hb (by omega) KA
    replace ACC := ACC.trans (hb.mono ACC.size)
    clear hb
    obtain ⟨f00, f01, f02⟩ := KA
    go_wp2_with fail
    refine (HS.out A1 n1 c1 _ O1.cap_ O1.rd).mono ?_
    rintro e x3 ⟨Aw, nw, cw, rfl, Ow, hb⟩
    have KA := And.intro f00 (And.intro f01 f02)
    clear f00 f01 f02
    have sz_x3 := hb.size
    replace O1 := O1.below hb
    replace KA := keep3 hb (by omega) KA
    replace ACC := ACC.trans (hb.mono ACC.size)
    clear hb
    obtain ⟨f00, f01, f02⟩ := KA
    clear O1
    obtain ⟨j00, j01, j02⟩ := keep3 (below_alloc x3 (.cells #[.string on, .int .i64 ost, .slice Aw nw cw] 27)) (by omega) (And.intro f00 (And.intro f01 f02))
    go_wp2_with fail
    clear j00 j01 j02
    obtain ⟨y3, hxy3⟩ : ∃ x, x = x3.alloc (.cells #[.string on, .int .i64 ost, .slice Aw nw cw] 27) := ⟨_, rfl⟩
    rw [← hxy3]
    have hb : Below x3.heap.size x3 y3 := by rw [hxy3]; exact below_alloc _ _
    have sby3 : x3.heap.size < y3.heap.size := by rw [hxy3]; simp
    have KW := box3 x3 27 (.string on) (.int .i64 ost) (.slice Aw nw cw)
    rw [← hxy3] at KW
    have KA := And.intro f00 (And.intro f01 f02)
    clear f00 f01 f02
    clear hxy3
    have sz_y3 := hb.size
    replace Ow := Ow.below hb
    replace KA := keep3 hb (by omega) KA
    replace ACC := ACC.trans (hb.mono ACC.size)
    clear hb
    obtain ⟨f00, f01, f02⟩ := KA
    obtain ⟨f10, f11, f12⟩ := KW
    refine (HT.out _ ACC).mono ?_
    rintro e x4 ⟨Ax, nx, cx, rfl, Ox, hb⟩
    have KA := And.intro f00 (And.intro f01 f02)
    clear f00 f01 f02
    have KW := And.intro f10 (And.intro f11 f12)
    clear f10 f11 f12
    have sz_x4 := hb.size
    replace Ow := Ow.below hb
    replace KA := keep3 hb (by omega) KA
    replace KW := keep3 hb (by omega) KW
    replace ACC := ACC.trans (hb.mono ACC.size)
    clear hb
    obtain ⟨f00, f01, f02⟩ := KA
    obtain ⟨f10, f11, f12⟩ := KW
    obtain ⟨j00, j01, j02⟩ := keep3 (below_alloc x4 (.cells #[.string a0, .int .i64 s0, .slice Ax nx cx] 27)) (by omega) (And.intro f00 (And.intro f01 f02))
    obtain ⟨j10, j11, j12⟩ := keep3 (below_alloc x4 (.cells #[.string a0, .int .i64 s0, .slice Ax nx cx] 27)) (by omega) (And.intro f10 (And.intro f11 f12))
    go_wp2_with fail
    clear j00 j01 j02
    clear j10 j11 j12
    obtain ⟨y4, hxy4⟩ : ∃ x, x = x4.alloc (.cells #[.string a0, .int .i64 s0, .slice Ax nx cx] 27) := ⟨_, rfl⟩
    rw [← hxy4]
    have hb : Below x4.heap.size x4 y4 := by rw [hxy4]; exact below_alloc _ _
    have sby4 : x4.heap.size < y4.heap.size := by rw [hxy4]; simp
    have KX := box3 x4 27 (.string a0) (.int .i64 s0) (.slice Ax nx cx)
    rw [← hxy4] at KX
    have KA := And.intro f00 (And.intro f01 f02)
    clear f00 f01 f02
    have KW := And.intro f10 (And.intro f11 f12)
    clear f10 f11 f12
    clear hxy4
    have sz_y4 := hb.size
    replace Ow := Ow.below hb
    replace Ox := Ox.below hb
    replace KA := keep3 hb (by omega) KA
    replace KW := keep3 hb (by omega) KW
    replace ACC := ACC.trans (hb.mono ACC.size)
    clear hb
    obtain ⟨f00, f01, f02⟩ := KA
    obtain ⟨f10, f11, f12⟩ := KW
    obtain ⟨f20, f21, f22⟩ := KX
    refine (HI.out Ax nx cx _ Ox.cap_ Ox.rd).mono ?_
    rintro e x6 ⟨Ag, ng, cg, rfl, Og, hb⟩
    have KA := And.intro f00 (And.intro f01 f02)
    clear f00 f01 f02
    have KW := And.intro f10 (And.intro f11 f12)
    clear f10 f11 f12
    have KX := And.intro f20 (And.intro f21 f22)
    clear f20 f21 f22
    have sz_x6 := hb.size
    replace Ow := Ow.below hb
    replace Ox := Ox.below hb
    replace KA := keep3 hb (by omega) KA
    replace KW := keep3 hb (by omega) KW
    replace KX := keep3 hb (by omega) KX
    replace ACC := ACC.trans (hb.mono ACC.size)
    clear hb
    obtain ⟨f00, f01, f02⟩ := KA
    obtain ⟨f10, f11, f12⟩ := KW
    obtain ⟨f20, f21, f22⟩ := KX
    have hlg : ng ≤ 4194304 := by have := Og.rd.slen; have := HLen.out; omega
    obtain ⟨j00, j01, j02⟩ := keep3 (below_alloc x6 (.cells #[.string on, .int .i64 ost, .slice Ag ng cg] 27)) (by omega) (And.intro f00 (And.intro f01 f02))
    obtain ⟨j10, j11, j12⟩ := keep3 (below_alloc x6 (.cells #[.string on, .int .i64 ost, .slice Ag ng cg] 27)) (by omega) (And.intro f10 (And.intro f11 f12))
    obtain ⟨j20, j21, j22⟩ := keep3 (below_alloc x6 (.cells #[.string on, .int .i64 ost, .slice Ag ng cg] 27)) (by omega) (And.intro f20 (And.intro f21 f22))
    go_wp2_with fail
    clear j00 j01 j02
    clear j10 j11 j12
    clear j20 j21 j22
    obtain ⟨y6, hxy6⟩ : ∃ x, x = x6.alloc (.cells #[.string on, .int .i64 ost, .slice Ag ng cg] 27) := ⟨_, rfl⟩
    rw [← hxy6]
    have hb : Below x6.heap.size x6 y6 := by rw [hxy6]; exact below_alloc _ _
    have sby6 : x6.heap.size < y6.heap.size := by rw [hxy6]; simp
    have KG := box3 x6 27 (.string on) (.int .i64 ost) (.slice Ag ng cg)
    rw [← hxy6] at KG
    have KA := And.intro f00 (And.intro f01 f02)
    clear f00 f01 f02
    have KW := And.intro f10 (And.intro f11 f12)
    clear f10 f11 f12
    have KX := And.intro f20 (And.intro f21 f22)
    clear f20 f21 f22
    clear hxy6
    have sz_y6 := hb.size
    replace Ow := Ow.below hb
    replace Ox := Ox.below hb
    replace Og := Og.below hb
    replace KA := keep3 hb (by omega) KA
    replace KW := keep3 hb (by omega) KW
    replace KX := keep3 hb (by omega) KX
    replace ACC := ACC.trans (hb.mono ACC.size)
    clear hb
    obtain ⟨f00, f01, f02⟩ := KA
    obtain ⟨f10, f11, f12⟩ := KW
    obtain ⟨f20, f21, f22⟩ := KX
    obtain ⟨f30, f31, f32⟩ := KG
    refine (eqMethod_eq on ost Ag Aw ng nw cg cw os _ (by omega) Og.rd Ow.rd).mono ?_
    rintro e x7 ⟨rfl, hb⟩
    have KA := And.intro f00 (And.intro f01 f02)
    clear f00 f01 f02
    have KW := And.intro f10 (And.intro f11 f12)
    clear f10 f11 f12
    have KX := And.intro f20 (And.intro f21 f22)
    clear f20 f21 f22
    have KG := And.intro f30 (And.intro f31 f32)
    clear f30 f31 f32
    have sz_x7 := hb.size
    replace Ow := Ow.below hb
    replace Ox := Ox.below hb
    replace Og := Og.below hb
    replace KA := keep3 hb (by omega) KA
    replace KW := keep3 hb (by omega) KW
    replace KX := keep3 hb (by omega) KX
    replace KG := keep3 hb (by omega) KG
    replace ACC := ACC.trans (hb.mono ACC.size)
    clear hb
    obtain ⟨f00, f01, f02⟩ := KA
    obtain ⟨f10, f11, f12⟩ := KW
    obtain ⟨f20, f21, f22⟩ := KX
    obtain ⟨f30, f31, f32⟩ := KG
    have HT7 := Lib.hid (HT.out x7.drew ACC.drew)
    have HRx := Lib.hid Ox.rd
    have HE : Hid (∀ A n c y, Below x7.drew.heap.size x7.drew y → Rd y A n (strsV z0) → Calls Try.prog 18 #[.agg #[.string a0, .int .i64 s0, .slice Ax nx cx], .agg #[.string a0, .int .i64 s0, .slice A n c]] y fun e w' => e = .returned (.bool true) ∧ Below y.heap.size y w') := fun A n c y h hr => eqMethod_eq a0 s0 Ax A nx n cx c z0 y (by have := HRx.out.slen; omega) ((show Rd x7.drew Ax nx (strsV z0) from HRx.out).below h) hr
    have HK7 := Lib.hid (And.intro f20 (And.intro f21 (And.intro f22 (And.intro f00 (And.intro f01 f02)))))
    have sA : w.heap.size < x7.heap.size := by omega
    have sX : x4.heap.size < x7.heap.size := by omega
    have KW := And.intro f10 (And.intro f11 f12)
    have KG := And.intro f30 (And.intro f31 f32)
    clear f10 f11 f12 f30 f31 f32
    go_wp2
    go_region_held3 (fun w' => w'.cell? ⟨x4.heap.size, 0, none⟩ = some (.string a0) ∧ w'.cell? ⟨x4.heap.size, 1, none⟩ = some (.int .i64 s0) ∧ w'.cell? ⟨x4.heap.size, 2, none⟩ = some (.slice Ax nx cx) ∧ w'.cell? ⟨w.heap.size, 0, none⟩ = some (.string a0) ∧ w'.cell? ⟨w.heap.size, 1, none⟩ = some (.int .i64 s0) ∧ w'.cell? ⟨w.heap.size, 2, none⟩ = some (.slice A0 len0 cap0))
      (first | go_keep | exact HK7.out | (exact keep6 hb7 (by simpa using sX) (by simpa using sA) ⟨f20, f21, f22⟩ ⟨f00, f01, f02⟩) | (exact keep6 (hb7.trans (hb8.mono hb7.size)) (by simpa using sX) (by simpa using sA) ⟨f20, f21, f22⟩ ⟨f00, f01, f02⟩))
      (first | (go_at_call 16; refine HT7.out.mono ?_; rintro e x8 ⟨Ay, ny, cy, rfl, ho3, hb7⟩) | (go_at_call 18; refine (HE.out Ay ny cy x8 hb7 ho3.rd).mono ?_; rintro e x9 ⟨rfl, hb8⟩))
    have hb : Below x7.heap.size x7 x9 := ((Below.refl _ x7).drew).trans (hb7.trans (hb8.mono hb7.size))
    clear ho3 hb7 hb8 HT7 HRx HE HK7
    have KA := And.intro f00 (And.intro f01 f02)
    have KX := And.intro f20 (And.intro f21 f22)
    clear f00 f01 f02 f20 f21 f22
    have sz_x9 := hb.size
    replace Ow := Ow.below hb
    replace Ox := Ox.below hb
    replace Og := Og.below hb
    replace KA := keep3 hb (by omega) KA
    replace KW := keep3 hb (by omega) KW
    replace KX := keep3 hb (by omega) KX
    replace KG := keep3 hb (by omega) KG
    replace ACC := ACC.trans (hb.mono ACC.size)
    clear hb
    obtain ⟨f00, f01, f02⟩ := KA
    obtain ⟨f10, f11, f12⟩ := KW
    obtain ⟨f20, f21, f22⟩ := KX
    obtain ⟨f30, f31, f32⟩ := KG
    have hlx : nx ≤ 1048576 := by have := Ox.rd.slen; omega
    go_wp2_with fail
    refine (markMethod_any y3.heap.size x4.heap.size a0 s0 Ax nx cx _ _ 1 _ (by omega) (by omega) (by omega) Ox (by omega)).mono ?_
    rintro e x10 ⟨rfl, Mx, hb⟩
    clear Ox Mx
    have KA := And.intro f00 (And.intro f01 f02)
    clear f00 f01 f02
    have KW := And.intro f10 (And.intro f11 f12)
    clear f10 f11 f12
    have KX := And.intro f20 (And.intro f21 f22)
    clear f20 f21 f22
    have KG := And.intro f30 (And.intro f31 f32)
    clear f30 f31 f32
    have sz_x10 := hb.size
    replace Ow := Ow.wr hb (by omega)
    replace Og := Og.wr hb (by omega)
    replace KA := keep3w hb (by omega) (by omega) KA
    replace KW := keep3w hb (by omega) (by omega) KW
    replace KX := keep3w hb (by omega) (by omega) KX
    replace KG := keep3w hb (by omega) (by omega) KG
    replace ACC := ACC.trans (hb.below (by omega) ACC.size)
    clear hb
    clear KX
    obtain ⟨f00, f01, f02⟩ := KA
    obtain ⟨f10, f11, f12⟩ := KW
    obtain ⟨f30, f31, f32⟩ := KG
    go_wp2_with fail
    refine (eqMethod_eq on ost Ag Aw ng nw cg cw os _ (by omega) Og.rd Ow.rd).mono ?_
    rintro e x11 ⟨rfl, hb⟩
    have KA := And.intro f00 (And.intro f01 f02)
    clear f00 f01 f02
    have KW := And.intro f10 (And.intro f11 f12)
    clear f10 f11 f12
    have KG := And.intro f30 (And.intro f31 f32)
    clear f30 f31 f32
    have sz_x11 := hb.size
    replace Ow := Ow.below hb
    replace Og := Og.below hb
    replace KA := keep3 hb (by omega) KA
    replace KW := keep3 hb (by omega) KW
    replace KG := keep3 hb (by omega) KG
    replace ACC := ACC.trans (hb.mono ACC.size)
    clear hb
    obtain ⟨f00, f01, f02⟩ := KA
    obtain ⟨f10, f11, f12⟩ := KW
    obtain ⟨f30, f31, f32⟩ := KG
    go_wp2_with fail
    refine (markMethod_any y4.heap.size x6.heap.size on ost Ag ng cg _ _ 1 _ (by omega) (by omega) (by omega) Og (by omega)).mono ?_
    rintro e x12 ⟨rfl, Mg, hb⟩
    clear Og
    have KA := And.intro f00 (And.intro f01 f02)
    clear f00 f01 f02
    have KW := And.intro f10 (And.intro f11 f12)
    clear f10 f11 f12
    have KG := And.intro f30 (And.intro f31 f32)
    clear f30 f31 f32
    have sz_x12 := hb.size
    replace Ow := Ow.wr hb (by omega)
    replace KA := keep3w hb (by omega) (by omega) KA
    replace KW := keep3w hb (by omega) (by omega) KW
    replace KG := keep3w hb (by omega) (by omega) KG
    replace ACC := ACC.trans (hb.below (by omega) ACC.size)
    clear hb
    obtain ⟨f00, f01, f02⟩ := KA
    obtain ⟨f10, f11, f12⟩ := KW
    obtain ⟨f30, f31, f32⟩ := KG
    have Og := Mg
    clear Mg
    go_wp2_with fail
    refine (heldMethod_any on ost Ag ng cg _ 1 _ (by omega) (by omega) (by omega) Og.rd).mono ?_
    rintro e x13 ⟨rfl, hb⟩
    have KA := And.intro f00 (And.intro f01 f02)
    clear f00 f01 f02
    have KW := And.intro f10 (And.intro f11 f12)
    clear f10 f11 f12
    have KG := And.intro f30 (And.intro f31 f32)
    clear f30 f31 f32
    have sz_x13 := hb.size
    replace Ow := Ow.below hb
    replace Og := Og.below hb
    replace KA := keep3 hb (by omega) KA
    replace KW := keep3 hb (by omega) KW
    replace KG := keep3 hb (by omega) KG
    replace ACC := ACC.trans (hb.mono ACC.size)
    clear hb
    obtain ⟨f00, f01, f02⟩ := KA
    obtain ⟨f10, f11, f12⟩ := KW
    obtain ⟨f30, f31, f32⟩ := KG
    go_wp2_with fail
    refine (HT.out _ ACC).mono ?_
    rintro e x14 ⟨Ah, nh, ch, rfl, Oh, hb⟩
    have KA := And.intro f00 (And.intro f01 f02)
    clear f00 f01 f02
    have KW := And.intro f10 (And.intro f11 f12)
    clear f10 f11 f12
    have KG := And.intro f30 (And.intro f31 f32)
    clear f30 f31 f32
    have sz_x14 := hb.size
    replace Ow := Ow.below hb
    replace Og := Og.below hb
    replace KA := keep3 hb (by omega) KA
    replace KW := keep3 hb (by omega) KW
    replace KG := keep3 hb (by omega) KG
    replace ACC := ACC.trans (hb.mono ACC.size)
    clear hb
    obtain ⟨f00, f01, f02⟩ := KA
    obtain ⟨f10, f11, f12⟩ := KW
    obtain ⟨f30, f31, f32⟩ := KG
    go_wp2_with fail
    refine (HI.out Ah nh ch _ Oh.cap_ Oh.rd).mono ?_
    rintro e x15 ⟨Ak, nk, ck, rfl, Ok, hb⟩
    have KA := And.intro f00 (And.intro f01 f02)
    clear f00 f01 f02
    have KW := And.intro f10 (And.intro f11 f12)
    clear f10 f11 f12
    have KG := And.intro f30 (And.intro f31 f32)
    clear f30 f31 f32
    have sz_x15 := hb.size
    replace Ow := Ow.below hb
    replace Og := Og.below hb
    replace Oh := Oh.below hb
    replace KA := keep3 hb (by omega) KA
    replace KW := keep3 hb (by omega) KW
    replace KG := keep3 hb (by omega) KG
    replace ACC := ACC.trans (hb.mono ACC.size)
    clear hb
    obtain ⟨f00, f01, f02⟩ := KA
    obtain ⟨f10, f11, f12⟩ := KW
    obtain ⟨f30, f31, f32⟩ := KG
    have hlk : nk ≤ 4194304 := by have := Ok.rd.slen; have := HLen.out; omega
    obtain ⟨j00, j01, j02⟩ := keep3 (below_alloc x15 (.cells #[.string on, .int .i64 ost, .slice Ak nk ck] 27)) (by omega) (And.intro f00 (And.intro f01 f02))
    obtain ⟨j10, j11, j12⟩ := keep3 (below_alloc x15 (.cells #[.string on, .int .i64 ost, .slice Ak nk ck] 27)) (by omega) (And.intro f10 (And.intro f11 f12))
    obtain ⟨j30, j31, j32⟩ := keep3 (below_alloc x15 (.cells #[.string on, .int .i64 ost, .slice Ak nk ck] 27)) (by omega) (And.intro f30 (And.intro f31 f32))
    go_wp2_with fail
    clear j00 j01 j02
    clear j10 j11 j12
    clear j30 j31 j32
    obtain ⟨y15, hxy15⟩ : ∃ x, x = x15.alloc (.cells #[.string on, .int .i64 ost, .slice Ak nk ck] 27) := ⟨_, rfl⟩
    rw [← hxy15]
    have hb : Below x15.heap.size x15 y15 := by rw [hxy15]; exact below_alloc _ _
    have sby15 : x15.heap.size < y15.heap.size := by rw [hxy15]; simp
    have KH := box3 x15 27 (.string on) (.int .i64 ost) (.slice Ak nk ck)
    rw [← hxy15] at KH
    have KA := And.intro f00 (And.intro f01 f02)
    clear f00 f01 f02
    have KW := And.intro f10 (And.intro f11 f12)
    clear f10 f11 f12
    have KG := And.intro f30 (And.intro f31 f32)
    clear f30 f31 f32
    clear hxy15
    have sz_y15 := hb.size
    replace Ow := Ow.below hb
    replace Og := Og.below hb
    replace Oh := Oh.below hb
    replace Ok := Ok.below hb
    replace KA := keep3 hb (by omega) KA
    replace KW := keep3 hb (by omega) KW
    replace KG := keep3 hb (by omega) KG
    replace ACC := ACC.trans (hb.mono ACC.size)
    clear hb
    obtain ⟨f00, f01, f02⟩ := KA
    obtain ⟨f10, f11, f12⟩ := KW
    obtain ⟨f30, f31, f32⟩ := KG
    obtain ⟨f40, f41, f42⟩ := KH
    refine (eqMethod_eq on ost Ak Aw nk nw ck cw os _ (by omega) Ok.rd Ow.rd).mono ?_
    rintro e x16 ⟨rfl, hb⟩
    have KA := And.intro f00 (And.intro f01 f02)
    clear f00 f01 f02
    have KW := And.intro f10 (And.intro f11 f12)
    clear f10 f11 f12
    have KG := And.intro f30 (And.intro f31 f32)
    clear f30 f31 f32
    have KH := And.intro f40 (And.intro f41 f42)
    clear f40 f41 f42
    have sz_x16 := hb.size
    replace Ow := Ow.below hb
    replace Og := Og.below hb
    replace Oh := Oh.below hb
    replace Ok := Ok.below hb
    replace KA := keep3 hb (by omega) KA
    replace KW := keep3 hb (by omega) KW
    replace KG := keep3 hb (by omega) KG
    replace KH := keep3 hb (by omega) KH
    replace ACC := ACC.trans (hb.mono ACC.size)
    clear hb
    obtain ⟨f00, f01, f02⟩ := KA
    obtain ⟨f10, f11, f12⟩ := KW
    obtain ⟨f30, f31, f32⟩ := KG
    obtain ⟨f40, f41, f42⟩ := KH
    go_wp2_with fail
    refine (heldMethod_any on ost Ag ng cg _ 1 _ (by omega) (by omega) (by omega) Og.rd).mono ?_
    rintro e x17 ⟨rfl, hb⟩
    have KA := And.intro f00 (And.intro f01 f02)
    clear f00 f01 f02
    have KW := And.intro f10 (And.intro f11 f12)
    clear f10 f11 f12
    have KG := And.intro f30 (And.intro f31 f32)
    clear f30 f31 f32
    have KH := And.intro f40 (And.intro f41 f42)
    clear f40 f41 f42
    have sz_x17 := hb.size
    replace Ow := Ow.below hb
    replace Og := Og.below hb
    replace Oh := Oh.below hb
    replace Ok := Ok.below hb
    replace KA := keep3 hb (by omega) KA
    replace KW := keep3 hb (by omega) KW
    replace KG := keep3 hb (by omega) KG
    replace KH := keep3 hb (by omega) KH
    replace ACC := ACC.trans (hb.mono ACC.size)
    clear hb
    obtain ⟨f00, f01, f02⟩ := KA
    obtain ⟨f10, f11, f12⟩ := KW
    obtain ⟨f30, f31, f32⟩ := KG
    obtain ⟨f40, f41, f42⟩ := KH
    go_wp2
    go_ret
    exact ⟨rfl, ACC⟩
end Go.Proofs.Ytbmabfgnmafooaa
