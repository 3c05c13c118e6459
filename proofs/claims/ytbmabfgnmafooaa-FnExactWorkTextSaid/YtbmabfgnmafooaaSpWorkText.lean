/- WorkText, of the reference and of the program: what each returns. -/
import Derived.Test.YtbmabfgnmafooaaPlainA
import Derived.Test.YtbmabfgnmafooaaSpPathOf
import Derived.Test.YtbmabfgnmafooaaWalkH
namespace Go.Proofs.Ytbmabfgnmafooaa
open Go.RowKit
set_option linter.unusedVariables false

noncomputable def ok_WorkText (nm : ByteArray) (st : Int) (ss : List ByteArray) (bl : Int) : Bool := askB nm st ss bl
noncomputable def out_WorkText (nm : ByteArray) (st : Int) (ss : List ByteArray) (bl : Int) : ByteArray := if askB nm st ss bl = true then mkS (wkL (pathL st ss bl.toNat) ss.length) else ByteArray.empty
theorem wk_size (p : List Nat) {t : ByteArray} {k : Nat} (h : bs t = wkL p k) : t.size = k := by
  rw [← size_bs, h]; simp [wkL]
theorem wk_step {p : List Nat} {t u : ByteArray} {k : Nat} {c : UInt8} (h : bs t = wkL p k) (hc : wch (p.getD k 0) (p.getD (k + 1) 0) = c) (hu : bs u = [c]) : bs (t ++ u) = wkL p (k + 1) := by
  rw [bs_append, h, hu, wkL_succ, hc]
set_option maxRecDepth 100000 in
set_option maxHeartbeats 2000000 in
theorem sp_WorkText (nm : ByteArray) (st : Int) (A : Option Addr) (n c : Nat) (ss : List ByteArray) (bl : Int) (W : World) (hs : nm.size ≤ 1048576) (hw : (Lit.int .i64 st).wf = true) (hnc : n ≤ c) (hr : Rd W A n (strsV ss)) (hz : ∀ s ∈ ss, s.size ≤ 1048576) (hl : ss.length ≤ 1048576) (hwb : (Lit.int .i64 bl).wf = true) :
    Calls Try.prog 25 #[.agg #[.string nm, .int .i64 st, .slice A n c], .int .i64 bl] W fun e w' => e = .returned (.tuple #[.string (out_WorkText nm st ss bl), .bool (ok_WorkText nm st ss bl)]) ∧ Below W.heap.size W w' := by
  obtain ⟨b, hb⟩ : ∃ b, b = askB nm st ss bl := ⟨_, rfl⟩
  have HC : Hid (∀ W', Below W.heap.size W W' → Calls Try.prog 61 #[.agg #[.string nm, .int .i64 st, .slice A n c], .int .i64 bl] W' fun e w' => e = .returned (.bool b) ∧ Below W'.heap.size W' w') := fun W' h => by rw [hb]; exact l5Asked_any nm st A n c ss bl W' (by omega) hw (hr.below h) (fun s hs => by have := hz s hs; omega) hwb
  have Hbox := Lib.hid (box3 W 27 (.string nm) (.int .i64 st) (.slice A n c))
  have E1 : Hid (askB nm st ss bl = true → out_WorkText nm st ss bl = mkS (wkL (pathL st ss bl.toNat) ss.length)) := fun h => by unfold out_WorkText; rw [if_pos h]
  have E0 : Hid (askB nm st ss bl = false → out_WorkText nm st ss bl = ByteArray.empty) := fun h => by unfold out_WorkText; rw [h]; simp
  have HR := Lib.hid hr
  have Hb := Lib.hid hb
  clear hb hr hz
  cases b with
  | true =>
    have HT : Hid (askB nm st ss bl = true) := Hb.out.symm
    obtain ⟨hm, hB1, hB2⟩ := ask_ok HT.out
    obtain ⟨B, hBb⟩ : ∃ B : Nat, bl = (B : Int) := ⟨bl.toNat, by omega⟩
    subst hBb
    rw [Int.toNat_natCast] at E1
    have HPa : Hid (∀ W', Below W.heap.size W W' → Calls Try.prog 62 #[.agg #[.string nm, .int .i64 st, .slice A n c], .int .i64 (B : Int)] W' (RetS 3 (intsV (natI (pathL st ss B))) W')) := fun W' h => l5Path_any nm st A n c ss B W' hm (HR.out.below h) (by omega) hB2
    have hln := HR.out.slen
    have hn40 := (meth_ok hm).2.1
    have HAd : Hid (∀ i, i < n → _) := fun i hi => path_adj hm (show 1 ≤ B by omega) hB2 i (by omega)
    have hPl : (pathL st ss B).length = n + 1 := by rw [pathL_len, hln]
    obtain ⟨p, hp⟩ : ∃ p, p = pathL st ss B := ⟨_, rfl⟩
    rw [← hp] at HPa HAd E1 hPl
    rw [hln] at E1
    have HPl := Lib.hid hPl
    have hn40' : n ≤ 40 := by omega
    clear hp hm hB1 hB2 hln hn40 hPl
    go_enter Try.func25, Try.ntmps25
    go_wp2_with fail
    obtain ⟨B0, hB0⟩ : ∃ B, B = W.alloc (.cells #[.string nm, .int .i64 st, .slice A n c] 27) := ⟨_, rfl⟩
    rw [← hB0]
    have hbB : Below W.heap.size W B0 := by rw [hB0]; exact below_alloc _ _
    have hsB : W.heap.size < B0.heap.size := by rw [hB0]; simp
    have hcB := Hbox.out
    rw [← hB0] at hcB
    refine (HC.out _ hbB).mono ?_
    rintro e x1 ⟨rfl, hb1⟩
    have B1 : Below W.heap.size W x1 := hbB.trans (hb1.mono hbB.size)
    have K1 := keep3 hb1 hsB hcB
    obtain ⟨k0, k1, k2⟩ := K1
    clear hcB hB0 hb1
    go_wp2_with (go_at_call 62; refine (HPa.out _ B1).mono ?_; rintro e x2 ⟨A2, n2, c2, rfl, ho2, hb2⟩)
    have hn2 : n2 = n + 1 := by have := ho2.rd.ilen; rw [natI_len, HPl.out] at this; exact this.symm
    obtain ⟨N, hN⟩ : ∃ N, N = n + 1 := ⟨_, rfl⟩
    have hN2 : n2 = N := by omega
    subst hN2
    have HN := Lib.hid hN
    obtain ⟨g2, off2, rfl, hg2, hcs⟩ := ho2.rd.intD (k := 0) (by omega)
    have Hcs := Lib.hid hcs
    have HB2 : Hid (Below W.heap.size W x2) := B1.trans (hb2.mono B1.size)
    have hN1 : 1 ≤ n2 := by omega
    have hN41 : n2 ≤ 41 := by omega
    clear hn2 hN ho2 hb2 hcs k0 k1 k2 B1
    go_wp2
    go_loopw [7, 8] (fun t i wr => ∃ (k d : Nat) (t0 : ByteArray), i = .int .i64 ((k : Int) + 1) ∧ t = .string t0 ∧ k < n2 ∧ t0.size ≤ k ∧ Hid (bs t0 = wkL p k) ∧ wr = x2.drewN d) (fun _ i _ => n2 - (intOf i).toNat)
    case atStart => exact ⟨0, 0, _, rfl, rfl, by omega, Nat.zero_le _, rfl, rfl⟩
    case round =>
      obtain ⟨k, d, t0, rfl, rfl, hk, hts, HT0, rfl⟩ := hrel
      by_cases hlt : k + 1 < n2
      · have hc0 := Hcs.out k (by omega)
        have hc1 := Hcs.out (k + 1) hlt
        have hNk : n2 = p.length := by rw [HPl.out]; exact HN.out
        rw [natI_getD p (i := k) (by omega)] at hc0
        rw [natI_getD p (i := k + 1) (by omega)] at hc1
        clear hNk
        have had := HAd.out k (by have := HN.out; omega)
        have HW : Hid (∀ c u, wch (p.getD k 0) (p.getD (k + 1) 0) = c → bs u = [c] → bs (t0 ++ u) = wkL p (k + 1)) := fun c u h1 h2 => wk_step HT0.out h1 h2
        obtain ⟨x, hx⟩ : ∃ x, x = p.getD k 0 := ⟨_, rfl⟩
        obtain ⟨y, hy⟩ : ∃ y, y = p.getD (k + 1) 0 := ⟨_, rfl⟩
        rw [← hx, ← hy] at had HW
        rw [← hx] at hc0
        rw [← hy] at hc1
        obtain ⟨a1, a2, a3, a4, a5⟩ := had
        have i1 : (k : Int) + 1 < (n2 : Int) := by omega
        have i2 : (0 : Int) ≤ (k : Int) + 1 - 1 := by omega
        have i3 : (k : Int) + 1 - 1 = (k : Int) := by omega
        have i4 : ((k : Int) + 1).toNat = k + 1 := by omega
        clear hx hy
        rcases Nat.lt_trichotomy x y with h | h | h
        · have hk2 : (1 : Int) + (y : Int) - (x : Int) = 2 := by omega
          have HS := Lib.hid (HW.out 47 (ByteArray.extract { data := #[92, 61, 47] } 2 3) (by unfold wch; rw [if_pos h]) (by decide))
          have hzz : Hid ((t0 ++ ByteArray.extract { data := #[92, 61, 47] } 2 3).size ≤ k + 1) := by unfold Hid; rw [wk_size p HS.out]; exact Nat.le_refl _
          clear h
          go_wp2
          go_quiet (fail)
          go_wp2
          go_roundw
          case rel => exact ⟨k + 1, _, _, by go_num, rfl, by omega, hzz.out, HS.out, rfl⟩
          case measure => (simp [intOf] <;> omega)
        · have hk2 : (1 : Int) + (y : Int) - (x : Int) = 1 := by omega
          have HS := Lib.hid (HW.out 61 (ByteArray.extract { data := #[92, 61, 47] } 1 2) (by unfold wch; rw [if_neg (by omega), if_neg (by omega)]) (by decide))
          have hzz : Hid ((t0 ++ ByteArray.extract { data := #[92, 61, 47] } 1 2).size ≤ k + 1) := by unfold Hid; rw [wk_size p HS.out]; exact Nat.le_refl _
          clear h
          go_wp2
          go_quiet (fail)
          go_wp2
          go_roundw
          case rel => exact ⟨k + 1, _, _, by go_num, rfl, by omega, hzz.out, HS.out, rfl⟩
          case measure => (simp [intOf] <;> omega)
        · have hk2 : (1 : Int) + (y : Int) - (x : Int) = 0 := by omega
          have HS := Lib.hid (HW.out 92 (ByteArray.extract { data := #[92, 61, 47] } 0 1) (by unfold wch; rw [if_neg (by omega), if_pos h]) (by decide))
          have hzz : Hid ((t0 ++ ByteArray.extract { data := #[92, 61, 47] } 0 1).size ≤ k + 1) := by unfold Hid; rw [wk_size p HS.out]; exact Nat.le_refl _
          clear h
          go_wp2
          go_quiet (fail)
          go_wp2
          go_roundw
          case rel => exact ⟨k + 1, _, _, by go_num, rfl, by omega, hzz.out, HS.out, rfl⟩
          case measure => (simp [intOf] <;> omega)
      · have E : Hid (out_WorkText nm st ss (B : Int) = t0) := by
          unfold Hid
          rw [E1.out HT.out]
          apply bs_inj
          rw [bs_mkS, HT0.out]
          congr 1
          have := HN.out; omega
        have i1 : (n2 : Int) ≤ (k : Int) + 1 := by omega
        go_wp2
        go_ret2
        exact ⟨ret_tb2 E.out HT.out, below_drewN' HB2.out _⟩
  | false =>
    have HT : Hid (askB nm st ss bl = false) := Hb.out.symm
    go_enter Try.func25, Try.ntmps25
    go_wp2_with fail
    refine (HC.out _ (below_alloc _ _)).mono ?_
    rintro e x1 ⟨rfl, hb1⟩
    have B1 : Below W.heap.size W x1 := (below_alloc W _).trans (hb1.mono (by simp))
    clear hb1
    go_wp2
    go_ret2
    exact ⟨ret_tb2 (E0.out HT.out) HT.out, B1⟩
set_option maxRecDepth 100000 in
set_option maxHeartbeats 2000000 in
theorem im_WorkText (nm : ByteArray) (st : Int) (A : Option Addr) (n c : Nat) (ss : List ByteArray) (bl : Int) (W : World) (hs : nm.size ≤ 1048576) (hw : (Lit.int .i64 st).wf = true) (hnc : n ≤ c) (hr : Rd W A n (strsV ss)) (hz : ∀ s ∈ ss, s.size ≤ 1048576) (hl : ss.length ≤ 1048576) (hwb : (Lit.int .i64 bl).wf = true) :
    Calls Try.prog 26 #[.agg #[.string nm, .int .i64 st, .slice A n c], .int .i64 bl] W fun e w' => e = .returned (.tuple #[.string (out_WorkText nm st ss bl), .bool (ok_WorkText nm st ss bl)]) ∧ Below W.heap.size W w' := by
  obtain ⟨b, hb⟩ : ∃ b, b = askB nm st ss bl := ⟨_, rfl⟩
  have HC : Hid (∀ W', Below W.heap.size W W' → Calls Try.prog 38 #[.agg #[.string nm, .int .i64 st, .slice A n c], .int .i64 bl] W' (RetSB 3 (intsV (out_PathOf nm st ss bl)) b W')) := fun W' h => by rw [hb]; exact im_PathOf nm st A n c ss bl W' hs hw hnc (hr.below h) hz hl hwb
  have EP : Hid (askB nm st ss bl = true → out_PathOf nm st ss bl = natI (pathL st ss bl.toNat)) := fun h => by unfold out_PathOf; rw [if_pos h]
  have Hbox := Lib.hid (box3 W 27 (.string nm) (.int .i64 st) (.slice A n c))
  have E1 : Hid (askB nm st ss bl = true → out_WorkText nm st ss bl = mkS (wkL (pathL st ss bl.toNat) ss.length)) := fun h => by unfold out_WorkText; rw [if_pos h]
  have E0 : Hid (askB nm st ss bl = false → out_WorkText nm st ss bl = ByteArray.empty) := fun h => by unfold out_WorkText; rw [h]; simp
  have HR := Lib.hid hr
  have Hb := Lib.hid hb
  clear hb hr hz
  cases b with
  | true =>
    have HT : Hid (askB nm st ss bl = true) := Hb.out.symm
    obtain ⟨hm, hB1, hB2⟩ := ask_ok HT.out
    obtain ⟨B, hBb⟩ : ∃ B : Nat, bl = (B : Int) := ⟨bl.toNat, by omega⟩
    subst hBb
    rw [Int.toNat_natCast] at E1 EP
    rw [EP.out HT.out] at HC
    have hln := HR.out.slen
    have hn40 := (meth_ok hm).2.1
    have HAd : Hid (∀ i, i < n → _) := fun i hi => path_adj hm (show 1 ≤ B by omega) hB2 i (by omega)
    have hPl : (pathL st ss B).length = n + 1 := by rw [pathL_len, hln]
    obtain ⟨p, hp⟩ : ∃ p, p = pathL st ss B := ⟨_, rfl⟩
    rw [← hp] at HC HAd E1 hPl
    rw [hln] at E1
    have HPl := Lib.hid hPl
    have hn40' : n ≤ 40 := by omega
    clear hp hm hB1 hB2 hln hn40 hPl
    go_enter Try.func26, Try.ntmps26
    go_wp2_with fail
    refine (HC.out _ (below_alloc _ _)).mono ?_
    rintro e x2 ⟨A2, n2, c2, rfl, ho2, hb2⟩
    have hn2 : n2 = n + 1 := by have := ho2.rd.ilen; rw [natI_len, HPl.out] at this; exact this.symm
    obtain ⟨N, hN⟩ : ∃ N, N = n + 1 := ⟨_, rfl⟩
    have hN2 : n2 = N := by omega
    subst hN2
    have HN := Lib.hid hN
    obtain ⟨g2, off2, rfl, hg2, hcs⟩ := ho2.rd.intD (k := 0) (by omega)
    have Hcs := Lib.hid hcs
    have HB2 : Hid (Below W.heap.size W x2) := (below_alloc W _).trans (hb2.mono (by simp))
    have hN1 : 1 ≤ n2 := by omega
    have hN41 : n2 ≤ 41 := by omega
    clear hn2 hN ho2 hb2 hcs
    go_wp2
    go_loopw [8, 9] (fun t i wr => ∃ (k d : Nat) (t0 : ByteArray), i = .int .i64 ((k : Int) + 1) ∧ t = .string t0 ∧ k < n2 ∧ t0.size ≤ k ∧ Hid (bs t0 = wkL p k) ∧ wr = x2.drewN d) (fun _ i _ => n2 - (intOf i).toNat)
    case atStart => exact ⟨0, 0, _, rfl, rfl, by omega, Nat.zero_le _, rfl, rfl⟩
    case round =>
      obtain ⟨k, d, t0, rfl, rfl, hk, hts, HT0, rfl⟩ := hrel
      by_cases hlt : k + 1 < n2
      · have hc0 := Hcs.out k (by omega)
        have hc1 := Hcs.out (k + 1) hlt
        have hNk : n2 = p.length := by rw [HPl.out]; exact HN.out
        rw [natI_getD p (i := k) (by omega)] at hc0
        rw [natI_getD p (i := k + 1) (by omega)] at hc1
        clear hNk
        have had := HAd.out k (by have := HN.out; omega)
        have HW : Hid (∀ c u, wch (p.getD k 0) (p.getD (k + 1) 0) = c → bs u = [c] → bs (t0 ++ u) = wkL p (k + 1)) := fun c u h1 h2 => wk_step HT0.out h1 h2
        obtain ⟨x, hx⟩ : ∃ x, x = p.getD k 0 := ⟨_, rfl⟩
        obtain ⟨y, hy⟩ : ∃ y, y = p.getD (k + 1) 0 := ⟨_, rfl⟩
        rw [← hx, ← hy] at had HW
        rw [← hx] at hc0
        rw [← hy] at hc1
        obtain ⟨a1, a2, a3, a4, a5⟩ := had
        have i1 : (k : Int) + 1 < (n2 : Int) := by omega
        have i2 : (0 : Int) ≤ (k : Int) + 1 - 1 := by omega
        have i3 : (k : Int) + 1 - 1 = (k : Int) := by omega
        have i4 : ((k : Int) + 1).toNat = k + 1 := by omega
        clear hx hy
        rcases Nat.lt_trichotomy x y with h | h | h
        · have HS := Lib.hid (HW.out 47 { data := #[47] } (by unfold wch; rw [if_pos h]) rfl)
          have hzz : Hid ((t0 ++ { data := #[47] }).size ≤ k + 1) := by unfold Hid; rw [wk_size p HS.out]; exact Nat.le_refl _
          have t1 : (x : Int) < (y : Int) := by omega
          clear h
          go_wp2
          go_quiet (fail)
          go_wp2
          go_roundw
          case rel => exact ⟨k + 1, _, _, by go_num, rfl, by omega, hzz.out, HS.out, rfl⟩
          case measure => (simp [intOf] <;> omega)
        · have HS := Lib.hid (HW.out 61 { data := #[61] } (by unfold wch; rw [if_neg (by omega), if_neg (by omega)]) rfl)
          have hzz : Hid ((t0 ++ { data := #[61] }).size ≤ k + 1) := by unfold Hid; rw [wk_size p HS.out]; exact Nat.le_refl _
          have t1 : (y : Int) ≤ (x : Int) := by omega
          have t2 : (x : Int) ≤ (y : Int) := by omega
          clear h
          go_wp2
          go_quiet (fail)
          go_wp2
          go_quiet (fail)
          go_wp2
          go_roundw
          case rel => exact ⟨k + 1, _, _, by go_num, rfl, by omega, hzz.out, HS.out, rfl⟩
          case measure => (simp [intOf] <;> omega)
        · have HS := Lib.hid (HW.out 92 { data := #[92] } (by unfold wch; rw [if_neg (by omega), if_pos h]) rfl)
          have hzz : Hid ((t0 ++ { data := #[92] }).size ≤ k + 1) := by unfold Hid; rw [wk_size p HS.out]; exact Nat.le_refl _
          have t1 : (y : Int) ≤ (x : Int) := by omega
          have t2 : (y : Int) < (x : Int) := by omega
          clear h
          go_wp2
          go_quiet (fail)
          go_wp2
          go_quiet (fail)
          go_wp2
          go_roundw
          case rel => exact ⟨k + 1, _, _, by go_num, rfl, by omega, hzz.out, HS.out, rfl⟩
          case measure => (simp [intOf] <;> omega)
      · have E : Hid (out_WorkText nm st ss (B : Int) = t0) := by
          unfold Hid
          rw [E1.out HT.out]
          apply bs_inj
          rw [bs_mkS, HT0.out]
          congr 1
          have := HN.out; omega
        have i1 : (n2 : Int) ≤ (k : Int) + 1 := by omega
        go_wp2
        go_ret2
        exact ⟨ret_tb2 E.out HT.out, below_drewN' HB2.out _⟩
  | false =>
    have HT : Hid (askB nm st ss bl = false) := Hb.out.symm
    go_enter Try.func26, Try.ntmps26
    go_wp2_with fail
    refine (HC.out _ (below_alloc _ _)).mono ?_
    rintro e x1 ⟨A2, n2, c2, rfl, ho2, hb1⟩
    have B1 : Below W.heap.size W x1 := (below_alloc W _).trans (hb1.mono (by simp))
    clear hb1 ho2
    go_wp2
    go_ret2
    exact ⟨ret_tb2 (E0.out HT.out) HT.out, B1⟩
end Go.Proofs.Ytbmabfgnmafooaa
