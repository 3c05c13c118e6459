/- FnExactSameMethod returns true at every input. No condition. -/
import Derived.Test.YtbmabfgnmafooaaSpSameMethod
import Derived.Test.YtbmabfgnmafooaaLawM
namespace Go.Proofs.Ytbmabfgnmafooaa
open Go.RowKit
set_option linter.unusedVariables false

set_option maxRecDepth 100000 in
set_option maxHeartbeats 4000000 in
theorem law_FnExactSameMethod (a0 : ByteArray) (s0 : Int) (A0 : Option Addr) (len0 cap0 : Nat) (z0 : List ByteArray) (a1 : ByteArray) (s1 : Int) (A1 : Option Addr) (len1 cap1 : Nat) (z1 : List ByteArray) {w : World} (u0 : a0.size ≤ maxLen) (v0 : (Lit.int .i64 s0).wf = true) (w0 : StrsIn w A0 len0 z0) (u1 : a1.size ≤ maxLen) (v1 : (Lit.int .i64 s1).wf = true) (w1 : StrsIn w A1 len1 z1) :
    Calls Try.prog 3 #[.agg #[.string a0, .int .i64 s0, .slice A0 len0 cap0], .agg #[.string a1, .int .i64 s1, .slice A1 len1 cap1]] w fun e w' => e = .returned (.bool true) ∧ Below w.heap.size w w' := by
  obtain ⟨R0, z0m⟩ := w0
  obtain ⟨R1, z1m⟩ := w1
  have l0 := R0.lenB
  have l1 := R1.lenB
  have HR0 := Lib.hid R0
  have HR1 := Lib.hid R1
  obtain ⟨q, hq⟩ : ∃ q, q = szM a0 z0 1048576 := ⟨_, rfl⟩
  have HC : Hid (∀ W, Below w.heap.size w W → Calls Try.prog 14 #[.agg #[.string a0, .int .i64 s0, .slice A0 len0 cap0], .int .i64 1048576] W fun e w' => e = .returned (.int .i64 q) ∧ Below W.heap.size W w') := fun W h => by
    rw [hq]; exact szMethod_any a0 s0 A0 len0 cap0 z0 1048576 W (by omega) (by omega) u0 (HR0.out.below h) z0m
  have HQ := Lib.hid hq
  obtain ⟨q1, hq1⟩ : ∃ q1, q1 = szM a1 z1 q := ⟨_, rfl⟩
  have HC1 : Hid (0 ≤ q → ∀ W, Below w.heap.size w W → Calls Try.prog 14 #[.agg #[.string a1, .int .i64 s1, .slice A1 len1 cap1], .int .i64 q] W fun e w' => e = .returned (.int .i64 q1) ∧ Below W.heap.size W w') := fun h0 W h => by
    have hle := szM_le (nm := a0) (ss := z0) (l := 1048576) (by rw [← HQ.out]; exact h0)
    rw [hq1]; exact szMethod_any a1 s1 A1 len1 cap1 z1 q W (by rw [HQ.out]; exact hle.2.2.2) h0 u1 (HR1.out.below h) z1m
  have HQ1 := Lib.hid hq1
  clear hq hq1 z0m z1m R0 R1
  obtain ⟨B0, hB0⟩ : ∃ B, B = (w.alloc (.cells #[.string a0, .int .i64 s0, .slice A0 len0 cap0] 24)).alloc (.cells #[.string a1, .int .i64 s1, .slice A1 len1 cap1] 24) := ⟨_, rfl⟩
  have hbB : Below w.heap.size w B0 := by rw [hB0]; exact (below_alloc w _).alloc (by simp) _
  have hsB : w.heap.size + 1 < B0.heap.size := by rw [hB0]; simp
  have hcA : B0.cell? ⟨w.heap.size, 0, none⟩ = some (.string a0) ∧ B0.cell? ⟨w.heap.size, 1, none⟩ = some (.int .i64 s0) ∧ B0.cell? ⟨w.heap.size, 2, none⟩ = some (.slice A0 len0 cap0) := by
    rw [hB0]; exact keep3 (below_alloc _ _) (by simp) (box3 w 24 (.string a0) (.int .i64 s0) (.slice A0 len0 cap0))
  have hcB : B0.cell? ⟨w.heap.size + 1, 0, none⟩ = some (.string a1) ∧ B0.cell? ⟨w.heap.size + 1, 1, none⟩ = some (.int .i64 s1) ∧ B0.cell? ⟨w.heap.size + 1, 2, none⟩ = some (.slice A1 len1 cap1) := by
    rw [hB0]
    simp
  have HCA := Lib.hid hcA
  have HCB := Lib.hid hcB
  by_cases hneg : q < 0
  · clear hcA hcB
    go_enter Try.func3, Try.ntmps3
    go_wp2_with fail
    rw [← hB0]
    refine (HC.out _ hbB).mono ?_
    rintro e x1 ⟨rfl, hb1⟩
    go_wp2
    go_ret
    exact ⟨rfl, hbB.trans (hb1.mono hbB.size)⟩
  have hle := szM_le (nm := a0) (ss := z0) (l := 1048576) (by rw [← HQ.out]; omega)
  have hm0 : len0 ≤ 1048576 := by have := HR0.out.slen; have := hle.2.1; omega
  have hqb : q ≤ 1048576 := by rw [HQ.out]; exact hle.2.2.2
  have p0 : 0 ≤ q := by omega
  have HC1' := Lib.hid (HC1.out p0)
  clear hle HQ HC1
  by_cases hneg1 : q1 < 0
  · clear hcA hcB hneg
    go_enter Try.func3, Try.ntmps3
    go_wp2_with fail
    rw [← hB0]
    refine (HC.out _ hbB).mono ?_
    rintro e x1 ⟨rfl, hb1⟩
    have B1 : Below w.heap.size w x1 := hbB.trans (hb1.mono hbB.size)
    obtain ⟨f0, f1, f2⟩ := keep3 hb1 hsB HCB.out
    clear hb1
    go_wp2_with fail
    refine (HC1'.out _ B1).mono ?_
    rintro e x2 ⟨rfl, hb2⟩
    go_wp2
    go_ret
    exact ⟨rfl, B1.trans (hb2.mono B1.size)⟩
  have hle1 := szM_le (nm := a1) (ss := z1) (l := q) (by rw [← HQ1.out]; omega)
  have hm1 : len1 ≤ 1048576 := by have := HR1.out.slen; have := hle1.2.1; omega
  have p1 : 0 ≤ q1 := by omega
  clear hle1 hneg hneg1 HQ1 hcA hcB
  have HT0 : Hid (∀ W, Below w.heap.size w W → Calls Try.prog 16 #[.agg #[.string a0, .int .i64 s0, .slice A0 len0 cap0]] W (RetM a0 s0 z0 W)) := fun W h => toMethod_any a0 s0 A0 len0 cap0 z0 W (by omega) (HR0.out.below h)
  have HT1 : Hid (∀ W, Below w.heap.size w W → Calls Try.prog 16 #[.agg #[.string a1, .int .i64 s1, .slice A1 len1 cap1]] W (RetM a1 s1 z1 W)) := fun W h => toMethod_any a1 s1 A1 len1 cap1 z1 W (by omega) (HR1.out.below h)
  obtain ⟨b, hb⟩ : ∃ b, b = out_SM a0 s0 z0 a1 s1 z1 := ⟨_, rfl⟩
  have HS : Hid (∀ A n c B m d W, Rd W A n (strsV z0) → Rd W B m (strsV z1) → Calls Try.prog 15 #[.agg #[.string a0, .int .i64 s0, .slice A n c], .agg #[.string a1, .int .i64 s1, .slice B m d]] W fun e w' => e = .returned (.bool b) ∧ Below W.heap.size W w') := fun A n c B m d W h1 h2 => by rw [hb]; exact sp_SameMethod a0 s0 A n c z0 a1 s1 B m d z1 W h1 h2
  have HI : Hid (∀ A n c B m d W, Rd W A n (strsV z0) → Rd W B m (strsV z1) → Calls Try.prog 17 #[.agg #[.string a0, .int .i64 s0, .slice A n c], .agg #[.string a1, .int .i64 s1, .slice B m d]] W fun e w' => e = .returned (.bool b) ∧ Below W.heap.size W w') := fun A n c B m d W h1 h2 => by rw [hb]; exact im_SameMethod a0 s0 A n c z0 a1 s1 B m d z1 W h1 h2
  have hbb : (b != b) = false := by simp
  clear hb
  go_enter Try.func3, Try.ntmps3
  go_wp2_with fail
  rw [← hB0]
  refine (HC.out _ hbB).mono ?_
  rintro e x1 ⟨rfl, hb1⟩
  have B1 : Below w.heap.size w x1 := hbB.trans (hb1.mono hbB.size)
  have t1 : w.heap.size + 1 < x1.heap.size := Nat.lt_of_lt_of_le hsB hb1.size
  have HA1 : Hid _ := keep3 hb1 (by omega) HCA.out
  have HB1 : Hid _ := keep3 hb1 hsB HCB.out
  obtain ⟨g0, g1, g2⟩ := HB1.out
  clear hb1 hB0 HCA HCB
  go_wp2_with fail
  refine (HC1'.out _ B1).mono ?_
  rintro e x2 ⟨rfl, hb2⟩
  have B2 : Below w.heap.size w x2 := B1.trans (hb2.mono B1.size)
  have t2 : w.heap.size + 1 < x2.heap.size := Nat.lt_of_lt_of_le t1 hb2.size
  have kA := keep3 hb2 (by omega) HA1.out
  have kB := keep3 hb2 t1 HB1.out
  have HK := Lib.hid (And.intro kA.1 (And.intro kA.2.1 (And.intro kA.2.2 (And.intro kB.1 (And.intro kB.2.1 kB.2.2)))))
  have HA2 := Lib.hid kA
  have HB2 := Lib.hid kB
  clear hb2 g0 g1 g2 HA1 HB1 B1 t1
  obtain ⟨f0, f1, f2⟩ := kA
  obtain ⟨g0, g1, g2⟩ := kB
  have sA : w.heap.size < x2.heap.size := by omega
  have BD : Below w.heap.size w x2.drew := B2.drew
  go_wp2

  go_region_held3 (fun w' => w'.cell? ⟨w.heap.size, 0, none⟩ = some (.string a0) ∧ w'.cell? ⟨w.heap.size, 1, none⟩ = some (.int .i64 s0) ∧ w'.cell? ⟨w.heap.size, 2, none⟩ = some (.slice A0 len0 cap0) ∧ w'.cell? ⟨w.heap.size + 1, 0, none⟩ = some (.string a1) ∧ w'.cell? ⟨w.heap.size + 1, 1, none⟩ = some (.int .i64 s1) ∧ w'.cell? ⟨w.heap.size + 1, 2, none⟩ = some (.slice A1 len1 cap1))
    (first | go_keep | exact HK.out | (exact keep6 (hba) (by simpa using sA) (by simpa using t2) ⟨f0, f1, f2⟩ ⟨g0, g1, g2⟩) | (exact keep6 (hbb) (by simpa using sA) (by simpa using t2) ⟨f0, f1, f2⟩ ⟨g0, g1, g2⟩) | (exact keep6 (hba.trans (hbb.mono hba.size)) (by simpa using sA) (by simpa using t2) ⟨f0, f1, f2⟩ ⟨g0, g1, g2⟩) | (exact keep6 (hbb.trans (hba.mono hbb.size)) (by simpa using sA) (by simpa using t2) ⟨f0, f1, f2⟩ ⟨g0, g1, g2⟩) | (exact keep6 (hba.trans ((hbb.trans (hs.mono hbb.size)).mono hba.size)) (by simpa using sA) (by simpa using t2) ⟨f0, f1, f2⟩ ⟨g0, g1, g2⟩) | (exact keep6 (hbb.trans ((hba.trans (hs.mono hba.size)).mono hbb.size)) (by simpa using sA) (by simpa using t2) ⟨f0, f1, f2⟩ ⟨g0, g1, g2⟩))
    (first | (go_at_call 16; (with_reducible refine (HT0.out _ ?hB).mono ?_); (case hB => first | exact BD | exact BD.trans (hbb.mono BD.size)); rintro e xa ⟨Aa, na, ca, rfl, oa, hba⟩) | (go_at_call 16; (with_reducible refine (HT1.out _ ?hB).mono ?_); (case hB => first | exact BD | exact BD.trans (hba.mono BD.size)); rintro e xb ⟨Ab, nb, cb, rfl, ob, hbb⟩) | (go_at_call 15; refine (HS.out Aa na ca Ab nb cb _ (by first | exact oa.rd.below hbb | exact oa.rd) (by first | exact ob.rd.below hba | exact ob.rd)).mono ?_; rintro e x3 ⟨rfl, hs⟩))
  all_goals
    have hb : Below x2.heap.size x2 x3 := by first | exact ((Below.refl _ x2).drew).trans (hba.trans ((hbb.trans (hs.mono hbb.size)).mono hba.size)) | exact ((Below.refl _ x2).drew).trans (hbb.trans ((hba.trans (hs.mono hba.size)).mono hbb.size))
    have KA := HA2.out
    have KB := HB2.out
    have ACC := B2
    clear hba hbb hs oa ob HA2 HB2 HK BD
    clear f0 f1 f2 g0 g1 g2
    have sz_x3 := hb.size
    replace KA := keep3 hb (by omega) KA
    replace KB := keep3 hb (by omega) KB
    replace ACC := ACC.trans (hb.mono ACC.size)
    clear hb
    obtain ⟨f00, f01, f02⟩ := KA
    obtain ⟨f10, f11, f12⟩ := KB
    go_wp2_with fail
    refine (HT0.out _ ACC).mono ?_
    rintro e x4 ⟨Ax, nx, cx, rfl, Ox, hb⟩
    have KA := And.intro f00 (And.intro f01 f02)
    clear f00 f01 f02
    have KB := And.intro f10 (And.intro f11 f12)
    clear f10 f11 f12
    have sz_x4 := hb.size
    replace KA := keep3 hb (by omega) KA
    replace KB := keep3 hb (by omega) KB
    replace ACC := ACC.trans (hb.mono ACC.size)
    clear hb
    obtain ⟨f00, f01, f02⟩ := KA
    obtain ⟨f10, f11, f12⟩ := KB
    obtain ⟨j00, j01, j02⟩ := keep3 (below_alloc x4 (.cells #[.string a0, .int .i64 s0, .slice Ax nx cx] 27)) (by omega) (And.intro f00 (And.intro f01 f02))
    obtain ⟨j10, j11, j12⟩ := keep3 (below_alloc x4 (.cells #[.string a0, .int .i64 s0, .slice Ax nx cx] 27)) (by omega) (And.intro f10 (And.intro f11 f12))
    go_wp2_with fail
    clear j00 j01 j02
    clear j10 j11 j12
    obtain ⟨x5, hxx5⟩ : ∃ x, x = x4.alloc (.cells #[.string a0, .int .i64 s0, .slice Ax nx cx] 27) := ⟨_, rfl⟩
    rw [← hxx5]
    have hb : Below x4.heap.size x4 x5 := by rw [hxx5]; exact below_alloc _ _
    have sbx5 : x4.heap.size < x5.heap.size := by rw [hxx5]; simp
    have KX := box3 x4 27 (.string a0) (.int .i64 s0) (.slice Ax nx cx)
    rw [← hxx5] at KX
    have KA := And.intro f00 (And.intro f01 f02)
    clear f00 f01 f02
    have KB := And.intro f10 (And.intro f11 f12)
    clear f10 f11 f12
    clear hxx5
    have sz_x5 := hb.size
    replace Ox := Ox.below hb
    replace KA := keep3 hb (by omega) KA
    replace KB := keep3 hb (by omega) KB
    replace ACC := ACC.trans (hb.mono ACC.size)
    clear hb
    refine (HT1.out _ ACC).mono ?_
    rintro e x6 ⟨Ay, ny, cy, rfl, Oy, hb⟩
    have sz_x6 := hb.size
    replace Ox := Ox.below hb
    replace KA := keep3 hb (by omega) KA
    replace KB := keep3 hb (by omega) KB
    replace KX := keep3 hb (by omega) KX
    replace ACC := ACC.trans (hb.mono ACC.size)
    clear hb
    obtain ⟨f00, f01, f02⟩ := KA
    obtain ⟨f10, f11, f12⟩ := KB
    obtain ⟨f20, f21, f22⟩ := KX
    obtain ⟨j00, j01, j02⟩ := keep3 (below_alloc x6 (.cells #[.string a1, .int .i64 s1, .slice Ay ny cy] 27)) (by omega) (And.intro f00 (And.intro f01 f02))
    obtain ⟨j10, j11, j12⟩ := keep3 (below_alloc x6 (.cells #[.string a1, .int .i64 s1, .slice Ay ny cy] 27)) (by omega) (And.intro f10 (And.intro f11 f12))
    obtain ⟨j20, j21, j22⟩ := keep3 (below_alloc x6 (.cells #[.string a1, .int .i64 s1, .slice Ay ny cy] 27)) (by omega) (And.intro f20 (And.intro f21 f22))
    go_wp2_with fail
    clear j00 j01 j02
    clear j10 j11 j12
    clear j20 j21 j22
    obtain ⟨x7, hxx7⟩ : ∃ x, x = x6.alloc (.cells #[.string a1, .int .i64 s1, .slice Ay ny cy] 27) := ⟨_, rfl⟩
    rw [← hxx7]
    have hb : Below x6.heap.size x6 x7 := by rw [hxx7]; exact below_alloc _ _
    have sbx7 : x6.heap.size < x7.heap.size := by rw [hxx7]; simp
    have KY := box3 x6 27 (.string a1) (.int .i64 s1) (.slice Ay ny cy)
    rw [← hxx7] at KY
    have KA := And.intro f00 (And.intro f01 f02)
    clear f00 f01 f02
    have KB := And.intro f10 (And.intro f11 f12)
    clear f10 f11 f12
    have KX := And.intro f20 (And.intro f21 f22)
    clear f20 f21 f22
    clear hxx7
    have sz_x7 := hb.size
    replace Ox := Ox.below hb
    replace Oy := Oy.below hb
    replace KA := keep3 hb (by omega) KA
    replace KB := keep3 hb (by omega) KB
    replace KX := keep3 hb (by omega) KX
    replace ACC := ACC.trans (hb.mono ACC.size)
    clear hb
    refine (HI.out Ax nx cx Ay ny cy _ Ox.rd Oy.rd).mono ?_
    rintro e x8 ⟨rfl, hb⟩
    have sz_x8 := hb.size
    replace Ox := Ox.below hb
    replace Oy := Oy.below hb
    replace KA := keep3 hb (by omega) KA
    replace KB := keep3 hb (by omega) KB
    replace KX := keep3 hb (by omega) KX
    replace KY := keep3 hb (by omega) KY
    replace ACC := ACC.trans (hb.mono ACC.size)
    clear hb
    obtain ⟨f00, f01, f02⟩ := KA
    obtain ⟨f10, f11, f12⟩ := KB
    obtain ⟨f20, f21, f22⟩ := KX
    obtain ⟨f30, f31, f32⟩ := KY
    have HTd := Lib.hid (HT0.out x8.drew ACC.drew)
    have HRx := Lib.hid Ox.rd
    have HLx : nx ≤ 4294967296 := by have := HR0.out.slen; have := HRx.out.slen; omega
    have HE : Hid (∀ A n c y, Below x8.drew.heap.size x8.drew y → Rd y A n (strsV z0) → Calls Try.prog 18 #[.agg #[.string a0, .int .i64 s0, .slice Ax nx cx], .agg #[.string a0, .int .i64 s0, .slice A n c]] y fun e w' => e = .returned (.bool true) ∧ Below y.heap.size y w') := fun A n c y h hr => eqMethod_eq a0 s0 Ax A nx n cx c z0 y HLx ((show Rd x8.drew Ax nx (strsV z0) from HRx.out).below h) hr
    have HK7 := Lib.hid (And.intro f20 (And.intro f21 (And.intro f22 (And.intro f00 (And.intro f01 f02)))))
    have sP : w.heap.size < x8.heap.size := by omega
    have sX : x4.heap.size < x8.heap.size := by omega
    go_wp2
    go_region_held3 (fun w' => w'.cell? ⟨x4.heap.size, 0, none⟩ = some (.string a0) ∧ w'.cell? ⟨x4.heap.size, 1, none⟩ = some (.int .i64 s0) ∧ w'.cell? ⟨x4.heap.size, 2, none⟩ = some (.slice Ax nx cx) ∧ w'.cell? ⟨w.heap.size, 0, none⟩ = some (.string a0) ∧ w'.cell? ⟨w.heap.size, 1, none⟩ = some (.int .i64 s0) ∧ w'.cell? ⟨w.heap.size, 2, none⟩ = some (.slice A0 len0 cap0))
      (first | go_keep | exact HK7.out | (exact keep6 hb7 (by simpa using sX) (by simpa using sP) ⟨f20, f21, f22⟩ ⟨f00, f01, f02⟩) | (exact keep6 (hb7.trans (hb8.mono hb7.size)) (by simpa using sX) (by simpa using sP) ⟨f20, f21, f22⟩ ⟨f00, f01, f02⟩))
      (first | (go_at_call 16; refine HTd.out.mono ?_; rintro e x9 ⟨Az, nz, cz, rfl, ho3, hb7⟩) | (go_at_call 18; refine (HE.out Az nz cz x9 hb7 ho3.rd).mono ?_; rintro e x10 ⟨rfl, hb8⟩))
    have hb : Below x8.heap.size x8 x10 := ((Below.refl _ x8).drew).trans (hb7.trans (hb8.mono hb7.size))
    clear ho3 hb7 hb8 HTd HRx HE HK7 sP sX HLx
    have KA := And.intro f00 (And.intro f01 f02)
    clear f00 f01 f02
    have KB := And.intro f10 (And.intro f11 f12)
    clear f10 f11 f12
    have KX := And.intro f20 (And.intro f21 f22)
    clear f20 f21 f22
    have KY := And.intro f30 (And.intro f31 f32)
    clear f30 f31 f32
    have sz_x10 := hb.size
    replace Ox := Ox.below hb
    replace Oy := Oy.below hb
    replace KA := keep3 hb (by omega) KA
    replace KB := keep3 hb (by omega) KB
    replace KX := keep3 hb (by omega) KX
    replace KY := keep3 hb (by omega) KY
    replace ACC := ACC.trans (hb.mono ACC.size)
    clear hb
    obtain ⟨f00, f01, f02⟩ := KA
    obtain ⟨f10, f11, f12⟩ := KB
    obtain ⟨f20, f21, f22⟩ := KX
    obtain ⟨f30, f31, f32⟩ := KY
    have HTd := Lib.hid (HT1.out x10.drew ACC.drew)
    have HRx := Lib.hid Oy.rd
    have HLx : ny ≤ 4294967296 := by have := HR1.out.slen; have := HRx.out.slen; omega
    have HE : Hid (∀ A n c y, Below x10.drew.heap.size x10.drew y → Rd y A n (strsV z1) → Calls Try.prog 18 #[.agg #[.string a1, .int .i64 s1, .slice Ay ny cy], .agg #[.string a1, .int .i64 s1, .slice A n c]] y fun e w' => e = .returned (.bool true) ∧ Below y.heap.size y w') := fun A n c y h hr => eqMethod_eq a1 s1 Ay A ny n cy c z1 y HLx ((show Rd x10.drew Ay ny (strsV z1) from HRx.out).below h) hr
    have HK7 := Lib.hid (And.intro f30 (And.intro f31 (And.intro f32 (And.intro f10 (And.intro f11 f12)))))
    have sP : (w.heap.size + 1) < x10.heap.size := by omega
    have sX : x6.heap.size < x10.heap.size := by omega
    go_wp2
    go_region_held3 (fun w' => w'.cell? ⟨x6.heap.size, 0, none⟩ = some (.string a1) ∧ w'.cell? ⟨x6.heap.size, 1, none⟩ = some (.int .i64 s1) ∧ w'.cell? ⟨x6.heap.size, 2, none⟩ = some (.slice Ay ny cy) ∧ w'.cell? ⟨w.heap.size + 1, 0, none⟩ = some (.string a1) ∧ w'.cell? ⟨w.heap.size + 1, 1, none⟩ = some (.int .i64 s1) ∧ w'.cell? ⟨w.heap.size + 1, 2, none⟩ = some (.slice A1 len1 cap1))
      (first | go_keep | exact HK7.out | (exact keep6 hb7 (by simpa using sX) (by simpa using sP) ⟨f30, f31, f32⟩ ⟨f10, f11, f12⟩) | (exact keep6 (hb7.trans (hb8.mono hb7.size)) (by simpa using sX) (by simpa using sP) ⟨f30, f31, f32⟩ ⟨f10, f11, f12⟩))
      (first | (go_at_call 16; refine HTd.out.mono ?_; rintro e x11 ⟨Az, nz, cz, rfl, ho3, hb7⟩) | (go_at_call 18; refine (HE.out Az nz cz x11 hb7 ho3.rd).mono ?_; rintro e x12 ⟨rfl, hb8⟩))
    have hb : Below x10.heap.size x10 x12 := ((Below.refl _ x10).drew).trans (hb7.trans (hb8.mono hb7.size))
    clear ho3 hb7 hb8 HTd HRx HE HK7 sP sX HLx
    have ACC2 := ACC.trans (hb.mono ACC.size)
    go_wp2
    go_ret
    exact ⟨rfl, ACC2⟩
end Go.Proofs.Ytbmabfgnmafooaa
