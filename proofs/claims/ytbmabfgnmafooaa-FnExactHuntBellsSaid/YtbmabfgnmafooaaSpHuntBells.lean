/- HuntBells, of the reference and of the program: what each returns. -/
import Derived.Test.YtbmabfgnmafooaaWalkPb
import Derived.Test.YtbmabfgnmafooaaWalkSt
import Derived.Deep.RegionHeld3
namespace Go.Proofs.Ytbmabfgnmafooaa
open Go.RowKit
set_option linter.unusedVariables false

noncomputable def ok_HuntBells (nm : ByteArray) (st : Int) (ss : List ByteArray) : Bool := methB nm st ss
noncomputable def out_HuntBells (nm : ByteArray) (st : Int) (ss : List ByteArray) : List Int := if methB nm st ss = true then natI (stL [lhS st ss] st.toNat) else []
theorem len_HuntBells (nm : ByteArray) (st : Int) (ss : List ByteArray) (hl : ss.length ≤ 1048576) : (out_HuntBells nm st ss).length ≤ 4194304 := by
  unfold out_HuntBells
  split
  · rename_i h
    have hm := meth_ok h
    rw [natI_len]
    have := stL_len [lhS st ss] st.toNat; omega
  · simp
set_option maxRecDepth 100000 in
set_option maxHeartbeats 1000000 in
theorem l4Hunt_any (nm : ByteArray) (st : Int) (A : Option Addr) (n c : Nat) (ss : List ByteArray) (W : World) (hm : methB nm st ss = true) (hr : Rd W A n (strsV ss)) :
    Calls Try.prog 78 #[.agg #[.string nm, .int .i64 st, .slice A n c]] W (RetS 3 (intsV (natI (stL [lhS st ss] st.toNat))) W) := by
  obtain ⟨hrow, hsz⟩ := lh_ok hm
  have h8 : (lhS st ss).size ≤ 8 := by have := hrow.2.1; rwa [size_bs] at this
  have HH : Hid (∀ W', Below W.heap.size W W' → Calls Try.prog 64 #[.agg #[.string nm, .int .i64 st, .slice A n c]] W' fun e w' => e = .returned (.string (lhS st ss)) ∧ Below W'.heap.size W' w') := fun W' h => l4Head_any nm st A n c ss W' hm (hr.below h)
  obtain ⟨h, hh⟩ : ∃ h, h = lhS st ss := ⟨_, rfl⟩
  rw [← hh] at hrow hsz HH h8 ⊢
  obtain ⟨m, rfl⟩ : ∃ m : Nat, st = (m : Int) := ⟨st.toNat, by omega⟩
  rw [Int.toNat_natCast]
  have hsm : h.size = m := by omega
  have Hrow := Lib.hid hrow
  have HS : Hid (∀ k, stL [h] (k + 1) = stL [h] k ++ (if [h].any (mvB k) = true then [] else [k + 1])) := stL_succ [h]
  have Hbox := Lib.hid (box3 W 27 (.string nm) (.int .i64 (m : Int)) (.slice A n c))
  clear hh hm hr hrow hsz
  go_enter Try.func78, Try.ntmps78
  go_wp2_with fail
  obtain ⟨B0, hB0⟩ : ∃ B, B = W.alloc (.cells #[.string nm, .int .i64 (m : Int), .slice A n c] 27) := ⟨_, rfl⟩
  rw [← hB0]
  have hbB : Below W.heap.size W B0 := by rw [hB0]; exact below_alloc _ _
  have hsB : W.heap.size < B0.heap.size := by rw [hB0]; simp
  have hcB := Hbox.out
  rw [← hB0] at hcB
  refine (HH.out _ hbB).mono ?_
  rintro e x1 ⟨rfl, hb1⟩
  have B1 : Below W.heap.size W x1 := hbB.trans (hb1.mono hbB.size)
  have HK1 : Hid _ := keep3 hb1 hsB hcB
  have s1 : W.heap.size < x1.heap.size := Nat.lt_of_lt_of_le hsB hb1.size
  clear hcB hB0 hb1 hbB hsB
  go_wp2
  go_loopw [3, 5] (fun l i wr => ∃ (k L : Nat) (A3 : Option Addr) (c3 : Nat), i = .int .i64 ((k : Int) + 1) ∧ l = .slice A3 L c3 ∧ k ≤ m ∧ L ≤ k ∧ Hid (Own wr 3 W.heap.size wr.heap.size A3 L c3 (intsV (natI (stL [h] k)))) ∧ Hid (Off A3 L c3 W.heap.size) ∧ Hid (wr.cell? ⟨W.heap.size, 0, none⟩ = some (.string nm) ∧ wr.cell? ⟨W.heap.size, 1, none⟩ = some (.int .i64 (m : Int)) ∧ wr.cell? ⟨W.heap.size, 2, none⟩ = some (.slice A n c)) ∧ Hid (Below W.heap.size W wr) ∧ W.heap.size < wr.heap.size) (fun _ i _ => m + 1 - (intOf i).toNat)
  case atStart => exact ⟨0, 0, none, 0, rfl, rfl, by omega, by omega, Own.nil _ _ _ _, fun k hk => by simp [Value.ownBlock] at hk, HK1.out, B1, s1⟩
  case round =>
    obtain ⟨k, L, A3, c3, rfl, rfl, hk, hL, HO, HF, HK, HB, hWr⟩ := hrel
    obtain ⟨f0, f1, f2⟩ := HK.out
    by_cases hlt : k < m
    · have hkh : k < h.size := by omega
      have hby := Hrow.out.byte hkh
      have HA : Hid (∀ W, Calls Try.prog 72 #[.string h, .int .i64 ((k : Int) + 1)] W fun e w' => e = .returned (.int .i64 ((dig h[k] : Nat) + 1)) ∧ W = w') := fun W => l1At_any h _ k W rfl hkh h8 hby.1
      have hq : mvB k h = decide (dig h[k] ≠ k) := by
        rw [mvB_get hkh]; congr 1; apply propext; unfold dig; omega
      have HSk := HS.out k
      rw [show [h].any (mvB k) = mvB k h by simp, hq] at HSk
      obtain ⟨d, hd⟩ : ∃ d, d = dig h[k] := ⟨_, rfl⟩
      rw [← hd] at HA HSk
      have hd8 : d ≤ 255 := by rw [hd]; unfold dig; have := UInt8.toNat_lt h[k]; omega
      have i1 : (k : Int) + 1 ≤ (m : Int) := by omega
      clear hby hq hd
      by_cases he : d = k
      · have HSt : Hid (stL [h] (k + 1) = stL [h] k ++ [k + 1]) := by unfold Hid; rw [HSk]; simp [he]
        have ht : ((d : Int) + 1 == (k : Int) + 1) = true := by simp [he]
        clear he HSk
        go_wp2_with first
          | (go_at_call 72; refine (HA.out _).mono ?_; rintro e w' ⟨rfl, rfl⟩)
          | (at_builtin; refine wpList_append1x wr rfl (.tmp 19) (.tmp 21) 42 rfl 3 (.int .i64 0) 8 Try.underlying42 info_int rfl W.heap.size A3 L c3 _ (.int .i64 ((k : Int) + 1)) rfl rfl rfl HO.out (by omega) (by omega) HB.out.size ?_; intro A4 c4 w4 ho4 hx4 hsz4 hat4)
        have HO4 : Hid (Own w4 3 W.heap.size w4.heap.size A4 (L + 1) c4 (intsV (natI (stL [h] (k + 1))))) := by
          refine ho4.congr ?_
          rw [HSt.out, natI_app, intsV_app]; rfl
        have HB4 : Hid (Below W.heap.size W w4) := HB.out.trans (HO.out.below_ hx4 HB.out.size)
        have HF4 : Hid (Off A4 (L + 1) c4 W.heap.size) := HF.out.next hWr hat4
        have HK4 : Hid (w4.cell? ⟨W.heap.size, 0, none⟩ = some (.string nm) ∧ w4.cell? ⟨W.heap.size, 1, none⟩ = some (.int .i64 (m : Int)) ∧ w4.cell? ⟨W.heap.size, 2, none⟩ = some (.slice A n c)) :=
          ⟨(hx4.cell (p := ⟨W.heap.size, 0, none⟩) hWr HF.out.ne).trans f0, (hx4.cell (p := ⟨W.heap.size, 1, none⟩) hWr HF.out.ne).trans f1, (hx4.cell (p := ⟨W.heap.size, 2, none⟩) hWr HF.out.ne).trans f2⟩
        have hW4 : W.heap.size < w4.heap.size := by omega
        clear ho4 hx4 hat4 f0 f1 f2
        go_roundw
        case rel => exact ⟨k + 1, L + 1, A4, c4, by go_num, rfl, by omega, by omega, HO4.out, HF4.out, HK4.out, HB4.out, hW4⟩
        case measure => (simp [intOf] <;> omega)
      · have HSt : Hid (stL [h] (k + 1) = stL [h] k) := by unfold Hid; rw [HSk]; simp [he]
        have ht : ((d : Int) + 1 == (k : Int) + 1) = false := by simp; omega
        clear he HSk
        go_wp2_with (go_at_call 72; refine (HA.out _).mono ?_; rintro e w' ⟨rfl, rfl⟩)
        go_roundw
        case rel => exact ⟨k + 1, L, A3, c3, by go_num, rfl, by omega, by omega, by unfold Hid; rw [HSt.out]; exact HO.out, HF.out, HK.out, HB.out, hWr⟩
        case measure => (simp [intOf] <;> omega)
    · obtain rfl : k = m := by omega
      have i1 : (k : Int) < (k : Int) + 1 := by omega
      go_wp2
      go_ret
      exact ⟨_, _, _, rfl, HO.out, HB.out⟩
set_option maxRecDepth 100000 in
set_option maxHeartbeats 1000000 in
theorem sp_HuntBells (nm : ByteArray) (st : Int) (A : Option Addr) (n c : Nat) (ss : List ByteArray) (W : World) (hs : nm.size ≤ 1048576) (hw : (Lit.int .i64 st).wf = true) (hnc : n ≤ c) (hr : Rd W A n (strsV ss)) (hz : ∀ s ∈ ss, s.size ≤ 1048576) (hl : ss.length ≤ 1048576) :
    Calls Try.prog 39 #[.agg #[.string nm, .int .i64 st, .slice A n c]] W (RetSB 3 (intsV (out_HuntBells nm st ss)) (ok_HuntBells nm st ss) W) := by
  obtain ⟨b, hb⟩ : ∃ b, b = methB nm st ss := ⟨_, rfl⟩
  have HC : Hid (∀ W', Below W.heap.size W W' → Calls Try.prog 54 #[.agg #[.string nm, .int .i64 st, .slice A n c]] W' fun e w' => e = .returned (.bool b) ∧ Below W'.heap.size W' w') := fun W' h => by rw [hb]; exact l4Good_any nm st A n c ss W' (by omega) (hr.below h) (fun s hs => by have := hz s hs; omega)
  have HF : Hid (∀ W', b = true → Below W.heap.size W W' → Calls Try.prog 78 #[.agg #[.string nm, .int .i64 st, .slice A n c]] W' (RetS 3 (intsV (natI (stL [lhS st ss] st.toNat))) W')) := fun W' h1 h2 => l4Hunt_any nm st A n c ss W' (by rw [← hb]; exact h1) (hr.below h2)
  have Hbox := Lib.hid (box3 W 27 (.string nm) (.int .i64 st) (.slice A n c))
  have Hb := Lib.hid hb
  have E1 : Hid (methB nm st ss = true → out_HuntBells nm st ss = natI (stL [lhS st ss] st.toNat)) := fun h => by unfold out_HuntBells; rw [if_pos h]
  have E0 : Hid (methB nm st ss = false → out_HuntBells nm st ss = []) := fun h => by unfold out_HuntBells; rw [h]; simp
  clear hb hr hz
  cases b with
  | false =>
    go_enter Try.func39, Try.ntmps39
    go_wp2_with fail
    refine (HC.out _ (below_alloc _ _)).mono ?_
    rintro e x1 ⟨rfl, hb1⟩
    have B1 : Below W.heap.size W x1 := (below_alloc W _).trans (hb1.mono (by simp))
    clear hb1
    go_wp2
    go_ret2
    refine ⟨none, 0, 0, ret_slb (show ok_HuntBells nm st ss = false from Hb.out.symm), ?_, B1⟩
    rw [E0.out Hb.out.symm]; exact Own.nil _ _ _ _
  | true =>
    go_enter Try.func39, Try.ntmps39
    go_wp2_with fail
    obtain ⟨B0, hB0⟩ : ∃ B, B = W.alloc (.cells #[.string nm, .int .i64 st, .slice A n c] 27) := ⟨_, rfl⟩
    rw [← hB0]
    have hbB : Below W.heap.size W B0 := by rw [hB0]; exact below_alloc _ _
    have hsB : W.heap.size < B0.heap.size := by rw [hB0]; simp
    have hcB := Hbox.out
    rw [← hB0] at hcB
    refine (HC.out _ hbB).mono ?_
    rintro e x1 ⟨rfl, hb1⟩
    have B1 : Below W.heap.size W x1 := hbB.trans (hb1.mono hbB.size)
    have K1 := keep3 hb1 hsB hcB
    obtain ⟨k0, k1, k2⟩ := K1
    clear hcB hB0 hb1
    go_wp2_with (go_at_call 78; refine (HF.out _ (by first | trivial | rfl) B1).mono ?_; rintro e x2 ⟨A2, n2, c2, rfl, ho2, hb2⟩)
    go_ret2
    refine ⟨A2, n2, c2, ret_slb (show ok_HuntBells nm st ss = true from Hb.out.symm), ?_, B1.trans (hb2.mono B1.size)⟩
    rw [E1.out Hb.out.symm]; exact ho2.mono B1.size (Nat.le_refl _)
set_option maxRecDepth 100000 in
set_option maxHeartbeats 1000000 in
theorem im_HuntBells (nm : ByteArray) (st : Int) (A : Option Addr) (n c : Nat) (ss : List ByteArray) (W : World) (hs : nm.size ≤ 1048576) (hw : (Lit.int .i64 st).wf = true) (hnc : n ≤ c) (hr : Rd W A n (strsV ss)) (hz : ∀ s ∈ ss, s.size ≤ 1048576) (hl : ss.length ≤ 1048576) :
    Calls Try.prog 40 #[.agg #[.string nm, .int .i64 st, .slice A n c]] W (RetSB 3 (intsV (out_HuntBells nm st ss)) (ok_HuntBells nm st ss) W) := by
  obtain ⟨b, hb⟩ : ∃ b, b = methB nm st ss := ⟨_, rfl⟩
  have HC : Hid (∀ W', Below W.heap.size W W' → Calls Try.prog 55 #[.agg #[.string nm, .int .i64 st, .slice A n c]] W' fun e w' => e = .returned (.bool b) ∧ Below W'.heap.size W' w') := fun W' h => by rw [hb]; exact GoodMethod_any nm st A n c ss W' (by omega) (hr.below h) (fun s hs => by have := hz s hs; omega)
  have Hbox := Lib.hid (box3 W 27 (.string nm) (.int .i64 st) (.slice A n c))
  have HR := Lib.hid hr
  have Hb := Lib.hid hb
  have E1 : Hid (methB nm st ss = true → out_HuntBells nm st ss = natI (stL [lhS st ss] st.toNat)) := fun h => by unfold out_HuntBells; rw [if_pos h]
  have E0 : Hid (methB nm st ss = false → out_HuntBells nm st ss = []) := fun h => by unfold out_HuntBells; rw [h]; simp
  clear hb hr hz
  cases b with
  | false =>
    go_enter Try.func40, Try.ntmps40
    go_wp2_with fail
    refine (HC.out _ (below_alloc _ _)).mono ?_
    rintro e x1 ⟨rfl, hb1⟩
    have B1 : Below W.heap.size W x1 := (below_alloc W _).trans (hb1.mono (by simp))
    clear hb1
    go_wp2
    go_ret2
    refine ⟨none, 0, 0, ret_slb (show ok_HuntBells nm st ss = false from Hb.out.symm), ?_, B1⟩
    rw [E0.out Hb.out.symm]; exact Own.nil _ _ _ _
  | true =>
    have hm : methB nm st ss = true := Hb.out.symm
    obtain ⟨hrow, hsz⟩ := lh_ok hm
    have h8 : (lhS st ss).size ≤ 8 := by have := hrow.2.1; rwa [size_bs] at this
    obtain ⟨m, rfl⟩ : ∃ m : Nat, st = (m : Int) := ⟨st.toNat, by omega⟩
    rw [Int.toNat_natCast] at E1
    have HH : Hid (∀ W', Below W.heap.size W W' → Calls Try.prog 67 #[.agg #[.string nm, .int .i64 (m : Int), .slice A n c]] W' fun e w' => e = .returned (.string (lhS (m : Int) ss)) ∧ Below W'.heap.size W' w') := fun W' h => leadHead_any nm (m : Int) A n c ss W' hm (HR.out.below h)
    have HSt : Hid (∀ W' : World, Calls Try.prog 73 #[.int .i64 (m : Int), .slice (some ⟨W'.heap.size, 0, none⟩) 1 1] (W'.alloc (.cells #[.string (lhS (m : Int) ss)] 9)) (RetS 3 (intsV (natI (stL [lhS (m : Int) ss] m))) (W'.alloc (.cells #[.string (lhS (m : Int) ss)] 9)))) := fun W' => still_any m _ 1 1 [lhS (m : Int) ss] _ (by omega) (by omega) (own_one W' 9 (.string (lhS (m : Int) ss))).rd (fun r hr => by simp at hr; subst hr; omega)
    obtain ⟨h, hh⟩ : ∃ h, h = lhS (m : Int) ss := ⟨_, rfl⟩
    rw [← hh] at HH HSt E1
    clear hh hm hrow hsz h8
    go_enter Try.func40, Try.ntmps40
    go_wp2_with fail
    obtain ⟨B0, hB0⟩ : ∃ B, B = W.alloc (.cells #[.string nm, .int .i64 (m : Int), .slice A n c] 27) := ⟨_, rfl⟩
    rw [← hB0]
    have hbB : Below W.heap.size W B0 := by rw [hB0]; exact below_alloc _ _
    have hsB : W.heap.size < B0.heap.size := by rw [hB0]; simp
    have hcB := Hbox.out
    rw [← hB0] at hcB
    refine (HC.out _ hbB).mono ?_
    rintro e x1 ⟨rfl, hb1⟩
    have B1 : Below W.heap.size W x1 := hbB.trans (hb1.mono hbB.size)
    have K1 := keep3 hb1 hsB hcB
    have s1 : W.heap.size < x1.heap.size := Nat.lt_of_lt_of_le hsB hb1.size
    have HK1 := Lib.hid K1
    obtain ⟨f0, f1, f2⟩ := K1
    clear hcB hB0 hb1 hbB hsB
    have HHd := Lib.hid (HH.out x1.drew B1.drew)
    go_wp2
    go_region_held3 (fun w' => w'.cell? ⟨W.heap.size, 0, none⟩ = some (.string nm) ∧ w'.cell? ⟨W.heap.size, 1, none⟩ = some (.int .i64 (m : Int)) ∧ w'.cell? ⟨W.heap.size, 2, none⟩ = some (.slice A n c))
      (first | go_keep | exact HK1.out | (exact (keep3 hb2 (by simpa using s1) ⟨f0, f1, f2⟩)) | (exact (keep3 (hb2.trans ((below_alloc x2 _).mono hb2.size)) (by simpa using s1) ⟨f0, f1, f2⟩)) | (exact (keep3 (hb2.trans (((below_alloc x2 _).trans (hb3.mono (by simp))).mono hb2.size)) (by simpa using s1) ⟨f0, f1, f2⟩)))
      (first | (go_at_call 67; refine HHd.out.mono ?_; rintro e x2 ⟨rfl, hb2⟩) | (go_at_call 73; refine (HSt.out x2).mono ?_; rintro e x3 ⟨A3, n3, c3, rfl, ho3, hb3⟩))
    have B2 : Below W.heap.size W x2 := B1.drew.trans (hb2.mono B1.drew.size)
    have B2' : Below W.heap.size W (x2.alloc (.cells #[.string h] 9)) := B2.trans ((below_alloc x2 _).mono B2.size)
    have B3 : Below W.heap.size W x3 := B2'.trans (hb3.mono B2'.size)
    go_wp2
    go_ret2
    refine ⟨A3, n3, c3, ret_slb (show ok_HuntBells nm (m : Int) ss = true from Hb.out.symm), ?_, B3⟩
    rw [E1.out Hb.out.symm]; exact ho3.mono B2'.size (Nat.le_refl _)
end Go.Proofs.Ytbmabfgnmafooaa
