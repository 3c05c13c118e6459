/- FnExactLeadsIn returns true at every input. No condition. -/
import Derived.Test.YtalpkcpikmpedaaSpLeadsIn
import Derived.Test.YtalpkcpikmpedaaOpenM
namespace Go.Proofs.Ytalpkcpikmpedaa
open Go.RowKit
set_option linter.unusedVariables false

set_option maxRecDepth 100000 in
set_option maxHeartbeats 2000000 in
theorem law_FnExactLeadsIn (a0 : ByteArray) (s0 : Int) (A0 : Option Addr) (len0 cap0 : Nat) (z0 : List ByteArray) {w : World} (u0 : a0.size ≤ maxLen) (v0 : (Lit.int .i64 s0).wf = true) (w0 : StrsIn w A0 len0 z0) :
    Calls Try.prog 5 #[.agg #[.string a0, .int .i64 s0, .slice A0 len0 cap0]] w fun e w' => e = .returned (.bool true) ∧ Below w.heap.size w w' := by
  obtain ⟨R0, z0m⟩ := w0
  have l0 := R0.lenB
  obtain ⟨q, hq⟩ : ∃ q, q = szM a0 z0 1048576 := ⟨_, rfl⟩
  have HC : Hid (∀ W, Below w.heap.size w W → Calls Try.prog 15 #[.agg #[.string a0, .int .i64 s0, .slice A0 len0 cap0], .int .i64 1048576] W fun e w' => e = .returned (.int .i64 q) ∧ Below W.heap.size W w') := fun W h => by
    rw [hq]; exact szMethod_any a0 s0 A0 len0 cap0 z0 1048576 W (by omega) (by omega) u0 (R0.below h) z0m
  have HQ := Lib.hid hq
  have HZM := Lib.hid z0m
  have HR0 := Lib.hid R0
  clear hq z0m R0
  obtain ⟨B0, hB0⟩ : ∃ B, B = w.alloc (.cells #[.string a0, .int .i64 s0, .slice A0 len0 cap0] 24) := ⟨_, rfl⟩
  have hbB : Below w.heap.size w B0 := by rw [hB0]; exact below_alloc _ _
  have hsB : w.heap.size < B0.heap.size := by rw [hB0]; simp
  have hcB := box3 w 24 (.string a0) (.int .i64 s0) (.slice A0 len0 cap0)
  rw [← hB0] at hcB
  have HCB := Lib.hid hcB
  by_cases hneg : q < 0
  · go_enter Try.func5, Try.ntmps5
    go_wp2_with fail
    rw [← hB0]
    refine (HC.out _ hbB).mono ?_
    rintro e x1 ⟨rfl, hb1⟩
    go_wp2
    go_ret
    exact ⟨rfl, hbB.trans (hb1.mono hbB.size)⟩
  · have hle := szM_le (nm := a0) (ss := z0) (l := 1048576) (by rw [← HQ.out]; omega)
    have hs0 : a0.size ≤ 1048576 := by have := hle.1; omega
    have hn0 : z0.length ≤ 1048576 := by have := hle.2.1; omega
    have hm0 : len0 ≤ 1048576 := by have := HR0.out.slen; omega
    have hz0 : Hid (∀ s ∈ z0, s.size ≤ 1048576) := fun s hs => by have := hle.2.2.1 s hs; omega
    have p0 : 0 ≤ q := by omega
    clear hle hneg HQ hcB
    have HT : Hid (∀ W, Below w.heap.size w W → Calls Try.prog 17 #[.agg #[.string a0, .int .i64 s0, .slice A0 len0 cap0]] W (RetM a0 s0 z0 W)) := fun W h => toMethod_any a0 s0 A0 len0 cap0 z0 W (by omega) (HR0.out.below h)
    obtain ⟨b, hb⟩ : ∃ b, b = out_LeadsIn a0 s0 z0 := ⟨_, rfl⟩
    obtain ⟨b2, hb2⟩ : ∃ b, b = methB a0 s0 z0 := ⟨_, rfl⟩
    have HS : Hid (∀ A n c W, n ≤ c → Rd W A n (strsV z0) → Calls Try.prog 22 #[.agg #[.string a0, .int .i64 s0, .slice A n c]] W fun e w' => e = .returned (.tuple #[.int .i64 b, .bool b2]) ∧ Below W.heap.size W w') := fun A n c W hc h => by rw [hb, hb2]; exact sp_LeadsIn a0 s0 A n c z0 W hs0 v0 hc h hz0.out hn0
    have HI : Hid (∀ A n c W, n ≤ c → Rd W A n (strsV z0) → Calls Try.prog 23 #[.agg #[.string a0, .int .i64 s0, .slice A n c]] W fun e w' => e = .returned (.tuple #[.int .i64 b, .bool b2]) ∧ Below W.heap.size W w') := fun A n c W hc h => by rw [hb, hb2]; exact im_LeadsIn a0 s0 A n c z0 W hs0 v0 hc h hz0.out hn0
    have hb_ : (b != b) = false := by simp
    have hb2_ : (b2 != b2) = false := by simp
    clear hb hb2
    go_enter Try.func5, Try.ntmps5
    go_wp2_with fail
    rw [← hB0]
    refine (HC.out _ hbB).mono ?_
    rintro e x1 ⟨rfl, hb1⟩
    have K1 := keep3 hb1 hsB HCB.out
    have B1 : Below w.heap.size w x1 := hbB.trans (hb1.mono hbB.size)
    have s1 : w.heap.size < x1.heap.size := Nat.lt_of_lt_of_le hsB hb1.size
    have HK1 := Lib.hid K1
    obtain ⟨k10, k11, k12⟩ := K1
    clear hB0
    go_wp2_with fail
    refine (HT.out x1 B1).mono ?_
    rintro e x2 ⟨A1, n1, c1, rfl, ho1, hb2⟩
    have H1 := Lib.hid ho1.rd
    have q1 : n1 ≤ c1 := ho1.cap_
    clear ho1
    go_wp2_with fail
    refine (HS.out A1 n1 c1 x2 q1 H1.out).mono ?_
    rintro e x3 ⟨rfl, hb3⟩
    have K3 := keep3 (hb2.trans (hb3.mono hb2.size)) s1 HK1.out
    have B3 : Below w.heap.size w x3 := B1.trans ((hb2.trans (hb3.mono hb2.size)).mono B1.size)
    have s3 : w.heap.size < x3.heap.size := Nat.lt_of_lt_of_le s1 (Nat.le_trans hb2.size hb3.size)
    have HK3 := Lib.hid K3
    obtain ⟨k30, k31, k32⟩ := K3
    clear k10 k11 k12 hb1 hb2 hb3 B1
    go_wp2_with fail
    refine (HT.out x3 B3).mono ?_
    rintro e x4 ⟨A2, n2, c2, rfl, ho2, hb4⟩
    have H2 := Lib.hid ho2.rd
    have q2 : n2 ≤ c2 := ho2.cap_
    have K4 := keep3 hb4 s3 HK3.out
    have B4 : Below w.heap.size w x4 := B3.trans (hb4.mono B3.size)
    have s4 : w.heap.size < x4.heap.size := Nat.lt_of_lt_of_le s3 hb4.size
    have HK4 := Lib.hid K4
    clear ho2 k30 k31 k32 hb4 B3 K4
    go_wp2_with fail
    obtain ⟨x5, hx5⟩ : ∃ x, x = x4.alloc (.cells #[.string a0, .int .i64 s0, .slice A2 n2 c2] 27) := ⟨_, rfl⟩
    rw [← hx5]
    have h45 : Below x4.heap.size x4 x5 := by rw [hx5]; exact below_alloc _ _
    have s45 : x4.heap.size < x5.heap.size := by rw [hx5]; simp
    have K5 := box3 x4 27 (.string a0) (.int .i64 s0) (.slice A2 n2 c2)
    rw [← hx5] at K5
    have K5b := keep3 h45 s4 HK4.out
    refine (HI.out A2 n2 c2 x5 q2 (H2.out.below h45)).mono ?_
    rintro e x6 ⟨rfl, hb6⟩
    have s6 : w.heap.size < x6.heap.size := by have := hb6.size; omega
    have s46 : x4.heap.size < x6.heap.size := by have := hb6.size; omega
    have K6 := keep6 hb6 s45 (by omega) K5 K5b
    have B6 : Below w.heap.size w x6 := B4.trans ((h45.trans (hb6.mono h45.size)).mono B4.size)
    have H6 : Hid (Rd x6 A2 n2 (strsV z0)) := (H2.out.below h45).below hb6
    have HB6 := Lib.hid B6
    have HK6 := Lib.hid K6
    obtain ⟨f0, f1, f2, e0, e1, e2⟩ := K6
    clear K5 K5b h45 hb6 B4 HK4 hx5 s45 s4 H2 H1 HK3 HK1
    have HT6 : Hid (Calls Try.prog 17 #[.agg #[.string a0, .int .i64 s0, .slice A0 len0 cap0]] x6.drew (RetM a0 s0 z0 x6.drew)) := HT.out x6.drew HB6.out.drew
    have HE : Hid (∀ A n c x7, Below x6.drew.heap.size x6.drew x7 → Rd x7 A n (strsV z0) → Calls Try.prog 19 #[.agg #[.string a0, .int .i64 s0, .slice A2 n2 c2], .agg #[.string a0, .int .i64 s0, .slice A n c]] x7 fun e w' => e = .returned (.bool true) ∧ Below x7.heap.size x7 w') := fun A n c x7 h hr =>
      eqMethod_eq a0 s0 A2 A n2 n c2 c z0 x7 (by have := H6.out.lenB; have := H6.out.slen; omega) ((show Rd x6.drew A2 n2 (strsV z0) from H6.out).below h) hr
    go_wp2
    go_region_held3 (fun w' => w'.cell? ⟨x4.heap.size, 0, none⟩ = some (.string a0) ∧ w'.cell? ⟨x4.heap.size, 1, none⟩ = some (.int .i64 s0) ∧ w'.cell? ⟨x4.heap.size, 2, none⟩ = some (.slice A2 n2 c2) ∧ w'.cell? ⟨w.heap.size, 0, none⟩ = some (.string a0) ∧ w'.cell? ⟨w.heap.size, 1, none⟩ = some (.int .i64 s0) ∧ w'.cell? ⟨w.heap.size, 2, none⟩ = some (.slice A0 len0 cap0))
      (first | go_keep | exact HK6.out | (exact keep6 hb7 (by simpa using s46) (by simpa using s6) ⟨f0, f1, f2⟩ ⟨e0, e1, e2⟩) | (exact keep6 (hb7.trans (hb8.mono hb7.size)) (by simpa using s46) (by simpa using s6) ⟨f0, f1, f2⟩ ⟨e0, e1, e2⟩))
      (first | (go_at_call 17; refine HT6.out.mono ?_; rintro e x7 ⟨A3, n3, c3, rfl, ho3, hb7⟩) | (go_at_call 19; refine (HE.out A3 n3 c3 x7 hb7 ho3.rd).mono ?_; rintro e x8 ⟨rfl, hb8⟩))
    have HB8 : Hid (Below w.heap.size w x8) := HB6.out.drew.trans ((hb7.trans (hb8.mono hb7.size)).mono HB6.out.drew.size)
    go_wp2
    go_ret
    exact ⟨rfl, HB8.out⟩
end Go.Proofs.Ytalpkcpikmpedaa
