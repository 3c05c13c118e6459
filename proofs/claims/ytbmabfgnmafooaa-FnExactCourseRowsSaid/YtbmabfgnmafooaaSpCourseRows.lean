/- CourseRows, of the reference and of the program: what each returns. -/
import Derived.Test.YtbmabfgnmafooaaWalkCr
import Derived.Deep.RegionHeld3
import Derived.IntWalk
namespace Go.Proofs.Ytbmabfgnmafooaa
open Go.RowKit
set_option linter.unusedVariables false

set_option maxRecDepth 100000 in
set_option maxHeartbeats 2000000 in
theorem im_CourseRows (nm : ByteArray) (st : Int) (A : Option Addr) (n c : Nat) (ss : List ByteArray) (W : World) (hs : nm.size ≤ 1048576) (hw : (Lit.int .i64 st).wf = true) (hnc : n ≤ c) (hr : Rd W A n (strsV ss)) (hz : ∀ s ∈ ss, s.size ≤ 1048576) (hl : ss.length ≤ 1048576) :
    Calls Try.prog 28 #[.agg #[.string nm, .int .i64 st, .slice A n c]] W (RetSB 9 (strsV (out_CourseRows nm st ss)) (ok_CourseRows nm st ss) W) := by
  obtain ⟨b, hb⟩ : ∃ b, b = methB nm st ss := ⟨_, rfl⟩
  have HC : Hid (∀ W', Below W.heap.size W W' → Calls Try.prog 55 #[.agg #[.string nm, .int .i64 st, .slice A n c]] W' fun e w' => e = .returned (.bool b) ∧ Below W'.heap.size W' w') := fun W' h => by rw [hb]; exact GoodMethod_any nm st A n c ss W' (by omega) (hr.below h) (fun s hs => by have := hz s hs; omega)
  have Hbox := Lib.hid (box3 W 27 (.string nm) (.int .i64 st) (.slice A n c))
  have HR := Lib.hid hr
  have Hb := Lib.hid hb
  have EN : Hid (ok_CourseRows nm st ss = false → out_CourseRows nm st ss = []) := fun h => by unfold out_CourseRows; rw [h]; simp
  have EY : Hid (ok_CourseRows nm st ss = true → out_CourseRows nm st ss = coR st ss (crK st ss)) := fun h => by unfold out_CourseRows; rw [if_pos h]
  clear hb hr hz
  cases b with
  | false =>
    have HF : Hid (ok_CourseRows nm st ss = false) := by unfold Hid ok_CourseRows; rw [← Hb.out]; rfl
    go_enter Try.func28, Try.ntmps28
    go_wp2_with fail
    refine (HC.out _ (below_alloc _ _)).mono ?_
    rintro e x1 ⟨rfl, hb1⟩
    have B1 : Below W.heap.size W x1 := (below_alloc W _).trans (hb1.mono (by simp))
    clear hb1
    go_wp2
    go_ret2
    refine ⟨none, 0, 0, ret_slb HF.out, ?_, B1⟩
    rw [EN.out HF.out]; exact Own.nil _ _ _ _
  | true =>
    have hm : methB nm st ss = true := Hb.out.symm
    obtain ⟨h1, h40, h3, h8, hch⟩ := meth_ok hm
    have hln := HR.out.slen
    have hlh := lh_ok hm
    have hK := crK_ok hm
    have HH : Hid (∀ W', Below W.heap.size W W' → Calls Try.prog 67 #[.agg #[.string nm, .int .i64 st, .slice A n c]] W' fun e w' => e = .returned (.string (lhS st ss)) ∧ Below W'.heap.size W' w') := fun W' h => leadHead_any nm st A n c ss W' hm (HR.out.below h)
    have HP : Hid (∀ W, Calls Try.prog 66 #[.string (lhS st ss)] W fun e w' => ∃ A c, e = .returned (.slice A (crK st ss) c) ∧ Own w' 9 W.heap.size w'.heap.size A (crK st ss) c (strsV (powsB (lhS st ss) (crK st ss))) ∧ Below W.heap.size W w') := fun W => by have h := ordK_ok hlh.1; exact powers_any _ _ W hlh.1 h.1 h.2
    have HLd : Hid (∀ i W', Below W.heap.size W W' → Calls Try.prog 68 #[.agg #[.string nm, .int .i64 st, .slice A n c], .string (hdS st ss i)] W' fun e w' => ∃ A2 c2, e = .returned (.slice A2 n c2) ∧ Rd w' A2 n (strsV (rowsTo (hdS st ss i) ss n)) ∧ Below W'.heap.size W' w') := fun i W' h => leadRows_any nm st A n c ss (hdS st ss i) W' (by omega) (HR.out.below h) (hd_ok hm i).1 (fun s hs => by rw [(hd_ok hm i).2]; exact hch s hs)
    have HS : Hid (∀ k, coR st ss (k + 1) = coR st ss k ++ rowsTo (hdS st ss k) ss n) := fun k => by rw [coR_succ, hln]
    have HG : Hid (∀ k K, k < K → getS (powsB (lhS st ss) K) k = hdS st ss k) := fun k K h => powsB_get st ss h
    have HQ : Hid (ok_CourseRows nm st ss = decide (n * crK st ss ≤ 800)) := by unfold Hid ok_CourseRows; rw [hm, hln]; rfl
    obtain ⟨K, hKK⟩ : ∃ K, K = crK st ss := ⟨_, rfl⟩
    rw [← hKK] at HP HQ EY hK
    obtain ⟨hK1, hK2⟩ := hK
    obtain ⟨l, hl2⟩ : ∃ l, l = lhS st ss := ⟨_, rfl⟩
    rw [← hl2] at HH HP HG
    have hn40 : n ≤ 40 := by omega
    have hb1' : (0 : Int) ≤ (K : Int) * (n : Int) := by rw [← Int.natCast_mul]; omega
    have hb2' : (K : Int) * (n : Int) ≤ 671088640 := by rw [← Int.natCast_mul]; have := Nat.mul_le_mul hK2 hn40; omega
    clear hl2 hKK hm hch hlh hln h1 h40
    by_cases h800 : n * K ≤ 800
    · have HT : Hid (ok_CourseRows nm st ss = true) := by unfold Hid; rw [HQ.out]; exact decide_eq_true h800
      have H8 := Lib.hid h800
      have hq : (K : Int) * (n : Int) ≤ 800 := by rw [← Int.natCast_mul, Nat.mul_comm]; omega
      clear h800
      go_enter Try.func28, Try.ntmps28
      go_wp2_with fail
      obtain ⟨B0, hB0⟩ : ∃ B, B = W.alloc (.cells #[.string nm, .int .i64 st, .slice A n c] 27) := ⟨_, rfl⟩
      rw [← hB0]
      have hbB : Below W.heap.size W B0 := by rw [hB0]; exact below_alloc _ _
      have hsB : W.heap.size < B0.heap.size := by rw [hB0]; simp
      have hcB := Hbox.out
      rw [← hB0] at hcB
      refine (HC.out _ hbB).mono ?_
      rintro e x1 ⟨rfl, hb1⟩
      have B1 : Below W.heap.size W x1 := hbB.trans (hb1.mono hbB.size)
      have KK := keep3 hb1 hsB hcB
      have s1 : W.heap.size < x1.heap.size := Nat.lt_of_lt_of_le hsB hb1.size
      clear hcB hB0 hb1 hbB hsB
      have HK1 := Lib.hid KK
      obtain ⟨k0, k1, k2⟩ := KK
      go_wp2_with fail
      refine (HH.out _ B1).mono ?_
      rintro e x2 ⟨rfl, hb2⟩
      have KK2 := keep3 hb2 s1 HK1.out
      have B2 : Below W.heap.size W x2 := B1.trans (hb2.mono B1.size)
      have s2 : W.heap.size < x2.heap.size := Nat.lt_of_lt_of_le s1 hb2.size
      clear hb2 k0 k1 k2 HK1 B1
      have HK2 := Lib.hid KK2
      obtain ⟨k0, k1, k2⟩ := KK2
      go_wp2_with fail
      refine (HP.out _).mono ?_
      rintro e x3 ⟨A2, c2, rfl, ho2, hb3⟩
      have KK3 := keep3 hb3 s2 HK2.out
      have B3 : Below W.heap.size W x3 := B2.trans (hb3.mono B2.size)
      have s3 : W.heap.size < x3.heap.size := Nat.lt_of_lt_of_le s2 hb3.size
      obtain ⟨g2, rfl, hg1, hg2, hg3⟩ := ho2.form (by omega)
      have HR2 : Hid (Rd (x3.alloc (.cells #[] 9)) (some ⟨g2, 0, none⟩) K (strsV (powsB l K))) := ho2.rd.below (below_alloc x3 _)
      have HK3 : Hid _ := keep3 (below_alloc x3 (.cells #[] 9)) s3 KK3
      have HO2 : Hid (Own (x3.alloc (.cells #[] 9)) 9 W.heap.size (x3.alloc (.cells #[] 9)).heap.size (some ⟨x3.heap.size, 0, none⟩) 0 0 []) := (own_empty x3 9).mono (by omega) (Nat.le_refl _)
      have HB2 : Hid (Below W.heap.size W (x3.alloc (.cells #[] 9))) := B3.trans ((below_alloc x3 _).mono B3.size)
      have hWg : W.heap.size < (x3.alloc (.cells #[] 9)).heap.size := by simp; omega
      have HF2 : Hid (Off (some ⟨x3.heap.size, 0, none⟩) 0 0 g2) := fun k hk => by simp [Value.ownBlock] at hk; omega
      have HFW : Hid (Off (some ⟨x3.heap.size, 0, none⟩) 0 0 W.heap.size) := fun k hk => by simp [Value.ownBlock] at hk; omega
      clear hb3 k0 k1 k2 HK2 B2 B3 s1 s2 ho2 hg1 hg2
      obtain ⟨k0, k1, k2⟩ := KK3
      have hdr : ∀ d, (x3.drewN d).heap.size = x3.heap.size := fun d => rfl
      go_wp2
      go_loopw [5, 24] (fun ls i wr => ∃ (k : Nat) (A3 : Option Addr) (L c3 : Nat), i = .int .i64 k ∧ ls = .slice A3 L c3 ∧ k ≤ K ∧ Hid (L = k * n) ∧ Hid (Own wr 9 W.heap.size wr.heap.size A3 L c3 (strsV (coR st ss k))) ∧ Hid (Off A3 L c3 g2) ∧ Hid (Off A3 L c3 W.heap.size) ∧ Hid (Rd wr (some ⟨g2, 0, none⟩) K (strsV (powsB l K))) ∧ Hid (wr.cell? ⟨W.heap.size, 0, none⟩ = some (.string nm) ∧ wr.cell? ⟨W.heap.size, 1, none⟩ = some (.int .i64 st) ∧ wr.cell? ⟨W.heap.size, 2, none⟩ = some (.slice A n c)) ∧ Hid (Below W.heap.size W wr) ∧ W.heap.size < wr.heap.size) (fun _ i _ => K - (intOf i).toNat)
      case atStart => exact ⟨0, _, _, _, rfl, rfl, by omega, by simp [Hid], HO2.out, HF2.out, HFW.out, HR2.out, HK3.out, HB2.out, hWg⟩
      case round =>
        obtain ⟨k, A3, L, c3, rfl, rfl, hk, HL, HO3, HF, HFW3, HR3, HK4, HB, hWr⟩ := hrel
        by_cases hlt : k < K
        · obtain ⟨b, off, heq, hgw, hcs⟩ := HR3.out.strD hlt
          injection heq with heq; injection heq with e1 e2; subst e1 e2
          have hcl := hcs k hlt
          rw [HG.out k K hlt, Nat.zero_add] at hcl
          have HLk := Lib.hid (HLd.out k)
          have HSk := Lib.hid (HS.out k)
          obtain ⟨t, ht⟩ : ∃ t, t = hdS st ss k := ⟨_, rfl⟩
          rw [← ht] at HLk HSk hcl
          have hL8 : L + n ≤ 4000 := by
            have a := HL.out; have b := H8.out
            have := Nat.mul_le_mul (show k + 1 ≤ K by omega) (Nat.le_refl n)
            rw [Nat.succ_mul, Nat.mul_comm K n] at this; omega
          have i1 : (k : Int) < (K : Int) := by omega
          obtain ⟨f0, f1, f2⟩ := HK4.out
          clear ht hcs
          go_wp2_with first
            | (go_at_call 68; refine (HLk.out _ HB.out).mono ?_; rintro e x5 ⟨A5, c5, rfl, hr5, hb5⟩)
            | (at_builtin; refine wpList_appendNx x5 rfl (.tmp 28) (.tmp 31) 22 rfl 9 (.string ByteArray.empty) 16 Try.underlying22 info_str rfl W.heap.size A3 L c3 _ rfl ((HO3.out.below hb5).mono (Nat.le_refl _) hb5.size) A5 n c5 _ rfl (hr5.none_) hr5 (strs_one _) (by omega) (by omega) (Nat.le_trans HB.out.size hb5.size) ?_; intro A4 c4 x4 ho4 hx4 hat4)
          have s5 : wr.heap.size ≤ x5.heap.size := hb5.size
          have HO4 : Hid (Own x4 9 W.heap.size x4.heap.size A4 (L + n) c4 (strsV (coR st ss (k + 1)))) := ho4.congr (by rw [HSk.out, strsV_app])
          have HB5 : Below W.heap.size W x5 := HB.out.trans (hb5.mono HB.out.size)
          have HO5 : Own x5 9 W.heap.size x5.heap.size A3 L c3 (strsV (coR st ss k)) := (HO3.out.below hb5).mono (Nat.le_refl _) hb5.size
          have HB4 : Hid (Below W.heap.size W x4) := HB5.trans (HO5.below_ hx4 HB5.size)
          have HR4 : Hid (Rd x4 (some ⟨g2, 0, none⟩) K (strsV (powsB l K))) := hx4.rd (HR3.out.below hb5) HF.out.ne
          have HF4 : Hid (Off A4 (L + n) c4 g2) := HF.out.next (by omega) hat4
          have HFW4 : Hid (Off A4 (L + n) c4 W.heap.size) := HFW3.out.next (by omega) hat4
          have HK5 : Hid _ := keep3y hx4 (by omega) HFW3.out (keep3 hb5 hWr HK4.out)
          have hW4 : W.heap.size < x4.heap.size := by have := hx4.size; omega
          have HL4 : Hid (L + n = (k + 1) * n) := by unfold Hid; rw [HL.out, Nat.succ_mul]
          clear hb5 hr5 ho4 hx4 hat4 HO5 HB5 f0 f1 f2
          go_roundw
          case rel => exact ⟨k + 1, A4, L + n, c4, by go_num, rfl, by omega, HL4.out, HO4.out, HF4.out, HFW4.out, HR4.out, HK5.out, HB4.out, hW4⟩
          case measure => (simp [intOf] <;> omega)
        · obtain rfl : k = K := by omega
          go_wp2
          go_ret2
          refine ⟨_, _, _, ret_slb HT.out, ?_, HB.out⟩
          rw [EY.out HT.out]; exact HO3.out
    · have HT : Hid (ok_CourseRows nm st ss = false) := by unfold Hid; rw [HQ.out]; exact decide_eq_false h800
      have hq : 800 < (K : Int) * (n : Int) := by rw [← Int.natCast_mul, Nat.mul_comm]; omega
      clear h800
      go_enter Try.func28, Try.ntmps28
      go_wp2_with fail
      obtain ⟨B0, hB0⟩ : ∃ B, B = W.alloc (.cells #[.string nm, .int .i64 st, .slice A n c] 27) := ⟨_, rfl⟩
      rw [← hB0]
      have hbB : Below W.heap.size W B0 := by rw [hB0]; exact below_alloc _ _
      have hsB : W.heap.size < B0.heap.size := by rw [hB0]; simp
      have hcB := Hbox.out
      rw [← hB0] at hcB
      refine (HC.out _ hbB).mono ?_
      rintro e x1 ⟨rfl, hb1⟩
      have B1 : Below W.heap.size W x1 := hbB.trans (hb1.mono hbB.size)
      have KK := keep3 hb1 hsB hcB
      have s1 : W.heap.size < x1.heap.size := Nat.lt_of_lt_of_le hsB hb1.size
      clear hcB hB0 hb1 hbB hsB
      have HK1 := Lib.hid KK
      obtain ⟨k0, k1, k2⟩ := KK
      go_wp2_with fail
      refine (HH.out _ B1).mono ?_
      rintro e x2 ⟨rfl, hb2⟩
      have KK2 := keep3 hb2 s1 HK1.out
      have B2 : Below W.heap.size W x2 := B1.trans (hb2.mono B1.size)
      have s2 : W.heap.size < x2.heap.size := Nat.lt_of_lt_of_le s1 hb2.size
      clear hb2 k0 k1 k2 HK1 B1
      have HK2 := Lib.hid KK2
      obtain ⟨k0, k1, k2⟩ := KK2
      go_wp2_with fail
      refine (HP.out _).mono ?_
      rintro e x3 ⟨A2, c2, rfl, ho2, hb3⟩
      have KK3 := keep3 hb3 s2 HK2.out
      have B3 : Below W.heap.size W x3 := B2.trans (hb3.mono B2.size)
      clear hb3 k0 k1 k2 HK2 B2 ho2
      obtain ⟨k0, k1, k2⟩ := KK3
      go_wp2
      go_ret2
      refine ⟨none, 0, 0, ret_slb HT.out, ?_, B3⟩
      rw [EN.out HT.out]; exact Own.nil _ _ _ _
set_option maxRecDepth 100000 in
set_option maxHeartbeats 2000000 in
theorem sp_CourseRows_no (nm : ByteArray) (st : Int) (A : Option Addr) (n c : Nat) (ss : List ByteArray) (W : World) (hs : nm.size ≤ 1048576) (hw : (Lit.int .i64 st).wf = true) (hnc : n ≤ c) (hr : Rd W A n (strsV ss)) (hz : ∀ s ∈ ss, s.size ≤ 1048576) (hl : ss.length ≤ 1048576) (hno : methB nm st ss = false) :
    Calls Try.prog 27 #[.agg #[.string nm, .int .i64 st, .slice A n c]] W (RetSB 9 (strsV (out_CourseRows nm st ss)) (ok_CourseRows nm st ss) W) := by
  obtain ⟨b, hb⟩ : ∃ b, b = methB nm st ss := ⟨_, rfl⟩
  have HC : Hid (∀ W', Below W.heap.size W W' → Calls Try.prog 54 #[.agg #[.string nm, .int .i64 st, .slice A n c]] W' fun e w' => e = .returned (.bool b) ∧ Below W'.heap.size W' w') := fun W' h => by rw [hb]; exact l4Good_any nm st A n c ss W' (by omega) (hr.below h) (fun s hs => by have := hz s hs; omega)
  have Hbox := Lib.hid (box3 W 27 (.string nm) (.int .i64 st) (.slice A n c))
  have HR := Lib.hid hr
  have Hb := Lib.hid hb
  have EN : Hid (ok_CourseRows nm st ss = false → out_CourseRows nm st ss = []) := fun h => by unfold out_CourseRows; rw [h]; simp
  have EY : Hid (ok_CourseRows nm st ss = true → out_CourseRows nm st ss = coR st ss (crK st ss)) := fun h => by unfold out_CourseRows; rw [if_pos h]
  obtain ⟨B0, hB0⟩ : ∃ B, B = W.alloc (.cells #[.string nm, .int .i64 st, .slice A n c] 27) := ⟨_, rfl⟩
  have hbB : Below W.heap.size W B0 := by rw [hB0]; exact below_alloc _ _
  have hsB : W.heap.size < B0.heap.size := by rw [hB0]; simp
  have hcB := Hbox.out
  rw [← hB0] at hcB
  have HcB := Lib.hid hcB
  have HG := Lib.hid (HC.out B0.drew hbB.drew)
  have hbf : b = false := by rw [hb, hno]
  have hbt : (!b) = true := by rw [hbf]; rfl
  clear hb hr hz hno
  have HF : Hid (ok_CourseRows nm st ss = false) := by unfold Hid ok_CourseRows; rw [← Hb.out, hbf]; rfl
  go_enter Try.func27, Try.ntmps27
  go_wp2
  rw [← hB0]
  obtain ⟨f0, f1, f2⟩ := hcB
  clear hB0
  first | (go_region_with (go_at_call 54; refine HG.out.mono ?_; rintro e x1 ⟨rfl, hb1⟩; obtain ⟨q0, q1, q2⟩ := keep3 hb1 (by simpa using hsB) ⟨f0, f1, f2⟩)) | fail
  all_goals
    have B1 : Below W.heap.size W x1 := hbB.drew.trans (hb1.mono hbB.drew.size)
    go_wp2
    go_ret2
    refine ⟨none, 0, 0, ret_slb HF.out, ?_, B1⟩
    rw [EN.out HF.out]; exact Own.nil _ _ _ _
set_option maxRecDepth 100000 in
set_option maxHeartbeats 2000000 in
theorem sp_CourseRows (nm : ByteArray) (st : Int) (A : Option Addr) (n c : Nat) (ss : List ByteArray) (W : World) (hs : nm.size ≤ 1048576) (hw : (Lit.int .i64 st).wf = true) (hnc : n ≤ c) (hr : Rd W A n (strsV ss)) (hz : ∀ s ∈ ss, s.size ≤ 1048576) (hl : ss.length ≤ 1048576) :
    Calls Try.prog 27 #[.agg #[.string nm, .int .i64 st, .slice A n c]] W (RetSB 9 (strsV (out_CourseRows nm st ss)) (ok_CourseRows nm st ss) W) := by
  obtain ⟨b, hb⟩ : ∃ b, b = methB nm st ss := ⟨_, rfl⟩
  have HC : Hid (∀ W', Below W.heap.size W W' → Calls Try.prog 54 #[.agg #[.string nm, .int .i64 st, .slice A n c]] W' fun e w' => e = .returned (.bool b) ∧ Below W'.heap.size W' w') := fun W' h => by rw [hb]; exact l4Good_any nm st A n c ss W' (by omega) (hr.below h) (fun s hs => by have := hz s hs; omega)
  have Hbox := Lib.hid (box3 W 27 (.string nm) (.int .i64 st) (.slice A n c))
  have HR := Lib.hid hr
  have Hb := Lib.hid hb
  have EN : Hid (ok_CourseRows nm st ss = false → out_CourseRows nm st ss = []) := fun h => by unfold out_CourseRows; rw [h]; simp
  have EY : Hid (ok_CourseRows nm st ss = true → out_CourseRows nm st ss = coR st ss (crK st ss)) := fun h => by unfold out_CourseRows; rw [if_pos h]
  obtain ⟨B0, hB0⟩ : ∃ B, B = W.alloc (.cells #[.string nm, .int .i64 st, .slice A n c] 27) := ⟨_, rfl⟩
  have hbB : Below W.heap.size W B0 := by rw [hB0]; exact below_alloc _ _
  have hsB : W.heap.size < B0.heap.size := by rw [hB0]; simp
  have hcB := Hbox.out
  rw [← hB0] at hcB
  have HcB := Lib.hid hcB
  have HG := Lib.hid (HC.out B0.drew hbB.drew)
  clear hb hr
  cases b with
  | false =>
    exact sp_CourseRows_no nm st A n c ss W hs hw hnc HR.out hz hl Hb.out.symm
  | true =>
    clear hz
    have hm : methB nm st ss = true := Hb.out.symm
    obtain ⟨h1, h40, h3, h8, hch⟩ := meth_ok hm
    have hln := HR.out.slen
    have hlh := lh_ok hm
    have hK := crK_ok hm
    have HH : Hid (∀ W', Below W.heap.size W W' → Calls Try.prog 64 #[.agg #[.string nm, .int .i64 st, .slice A n c]] W' fun e w' => e = .returned (.string (lhS st ss)) ∧ Below W'.heap.size W' w') := fun W' h => l4Head_any nm st A n c ss W' hm (HR.out.below h)
    have HO : Hid (∀ W, Calls Try.prog 63 #[.string (lhS st ss)] W fun e w' => e = .returned (.int .i64 (crK st ss : Int)) ∧ W = w') := fun W => by have h := ordK_ok hlh.1; exact l1Order_any _ _ W hlh.1 h.1 h.2
    have HCo : Hid (ss.length * crK st ss ≤ 800 → ∀ W', Below W.heap.size W W' → Calls Try.prog 65 #[.agg #[.string nm, .int .i64 st, .slice A n c]] W' (RetS 9 (strsV (coR st ss (crK st ss))) W')) := fun h8 W' h => l4Course_any nm st A n c ss W' hm (HR.out.below h) h8
    have HQ : Hid (ok_CourseRows nm st ss = decide (n * crK st ss ≤ 800)) := by unfold Hid ok_CourseRows; rw [hm, hln]; rfl
    rw [hln] at HCo
    obtain ⟨K, hKK⟩ : ∃ K, K = crK st ss := ⟨_, rfl⟩
    rw [← hKK] at HO HQ EY hK HCo
    obtain ⟨hK1, hK2⟩ := hK
    obtain ⟨l, hl2⟩ : ∃ l, l = lhS st ss := ⟨_, rfl⟩
    rw [← hl2] at HH HO
    have hn40 : n ≤ 40 := by omega
    have hb1' : (0 : Int) ≤ (n : Int) * (K : Int) := by rw [← Int.natCast_mul]; omega
    have hb2' : (n : Int) * (K : Int) ≤ 671088640 := by rw [← Int.natCast_mul]; have := Nat.mul_le_mul hn40 hK2; omega
    have hwr : IntKind.i64.wrap ((n : Int) * (K : Int)) = (n : Int) * (K : Int) := IntWalk.i64_in _ (by omega)
    clear hl2 hKK hm hch hlh hln h1 h40
    by_cases h800 : n * K ≤ 800
    · have HT : Hid (ok_CourseRows nm st ss = true) := by unfold Hid; rw [HQ.out]; exact decide_eq_true h800
      have HCo2 := Lib.hid (HCo.out h800)
      have hq : (n : Int) * (K : Int) ≤ 800 := by rw [← Int.natCast_mul]; omega
      have hqd : decide ((800 : Int) < (n : Int) * (K : Int)) = false := by simp; omega
      clear h800
      go_enter Try.func27, Try.ntmps27
      go_wp2
      rw [← hB0]
      obtain ⟨f0, f1, f2⟩ := hcB
      clear hB0
      go_region_with (first | (go_at_call 54; refine HG.out.mono ?_; rintro e x1 ⟨rfl, hb1⟩; obtain ⟨q0, q1, q2⟩ := keep3 hb1 (by simpa using hsB) ⟨f0, f1, f2⟩) | (go_at_call 64; refine (HH.out _ (hbB.drew.trans (hb1.mono hbB.drew.size))).mono ?_; rintro e x2 ⟨rfl, hb2⟩; obtain ⟨r0, r1, r2⟩ := keep3 (hb1.trans (hb2.mono hb1.size)) (by simpa using hsB) ⟨f0, f1, f2⟩) | (go_at_call 63; refine (HO.out _).mono ?_; rintro e w' ⟨rfl, rfl⟩))
      all_goals
        have B1 : Below W.heap.size W x1 := hbB.drew.trans (hb1.mono hbB.drew.size)
        have B2 : Below W.heap.size W x2 := B1.trans (hb2.mono B1.size)
        go_wp2_with (go_at_call 65; refine (HCo2.out _ B2).mono ?_; rintro e x3 ⟨A3, n3, c3, rfl, ho3, hb3⟩)
        go_ret2
        refine ⟨_, _, _, ret_slb HT.out, ?_, B2.trans (hb3.mono B2.size)⟩
        rw [EY.out HT.out]; exact ho3.mono B2.size (Nat.le_refl _)
    · have HT : Hid (ok_CourseRows nm st ss = false) := by unfold Hid; rw [HQ.out]; exact decide_eq_false h800
      have hq : 800 < (n : Int) * (K : Int) := by rw [← Int.natCast_mul]; omega
      have hqd : decide ((800 : Int) < (n : Int) * (K : Int)) = true := by simp; omega
      clear h800
      go_enter Try.func27, Try.ntmps27
      go_wp2
      rw [← hB0]
      obtain ⟨f0, f1, f2⟩ := hcB
      clear hB0
      go_region_with (first | (go_at_call 54; refine HG.out.mono ?_; rintro e x1 ⟨rfl, hb1⟩; obtain ⟨q0, q1, q2⟩ := keep3 hb1 (by simpa using hsB) ⟨f0, f1, f2⟩) | (go_at_call 64; refine (HH.out _ (hbB.drew.trans (hb1.mono hbB.drew.size))).mono ?_; rintro e x2 ⟨rfl, hb2⟩; obtain ⟨r0, r1, r2⟩ := keep3 (hb1.trans (hb2.mono hb1.size)) (by simpa using hsB) ⟨f0, f1, f2⟩) | (go_at_call 63; refine (HO.out _).mono ?_; rintro e w' ⟨rfl, rfl⟩))
      all_goals
        have B1 : Below W.heap.size W x1 := hbB.drew.trans (hb1.mono hbB.drew.size)
        have B2 : Below W.heap.size W x2 := B1.trans (hb2.mono B1.size)
        go_wp2
        go_ret2
        refine ⟨none, 0, 0, ret_slb HT.out, ?_, B2⟩
        rw [EN.out HT.out]; exact Own.nil _ _ _ _
end Go.Proofs.Ytbmabfgnmafooaa
