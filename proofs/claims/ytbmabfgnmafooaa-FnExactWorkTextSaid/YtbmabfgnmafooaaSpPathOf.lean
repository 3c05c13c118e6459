/- PathOf, of the reference and of the program: what each returns. -/
import Derived.Test.YtbmabfgnmafooaaAsked
import Derived.Test.YtbmabfgnmafooaaWalkPa
namespace Go.Proofs.Ytbmabfgnmafooaa
open Go.RowKit
set_option linter.unusedVariables false

noncomputable def ok_PathOf (nm : ByteArray) (st : Int) (ss : List ByteArray) (bl : Int) : Bool := askB nm st ss bl
noncomputable def out_PathOf (nm : ByteArray) (st : Int) (ss : List ByteArray) (bl : Int) : List Int := if askB nm st ss bl = true then natI (pathL st ss bl.toNat) else []
theorem len_PathOf (nm : ByteArray) (st : Int) (ss : List ByteArray) (bl : Int) (hl : ss.length ≤ 1048576) : (out_PathOf nm st ss bl).length ≤ 4194304 := by
  unfold out_PathOf
  split
  · rw [natI_len, pathL_len]; omega
  · simp
set_option maxRecDepth 100000 in
set_option maxHeartbeats 1000000 in
theorem sp_PathOf (nm : ByteArray) (st : Int) (A : Option Addr) (n c : Nat) (ss : List ByteArray) (bl : Int) (W : World) (hs : nm.size ≤ 1048576) (hw : (Lit.int .i64 st).wf = true) (hnc : n ≤ c) (hr : Rd W A n (strsV ss)) (hz : ∀ s ∈ ss, s.size ≤ 1048576) (hl : ss.length ≤ 1048576) (hwb : (Lit.int .i64 bl).wf = true) :
    Calls Try.prog 37 #[.agg #[.string nm, .int .i64 st, .slice A n c], .int .i64 bl] W (RetSB 3 (intsV (out_PathOf nm st ss bl)) (ok_PathOf nm st ss bl) W) := by
  obtain ⟨b, hb⟩ : ∃ b, b = askB nm st ss bl := ⟨_, rfl⟩
  have HC : Hid (∀ W', Below W.heap.size W W' → Calls Try.prog 61 #[.agg #[.string nm, .int .i64 st, .slice A n c], .int .i64 bl] W' fun e w' => e = .returned (.bool b) ∧ Below W'.heap.size W' w') := fun W' h => by rw [hb]; exact l5Asked_any nm st A n c ss bl W' (by omega) hw (hr.below h) (fun s hs => by have := hz s hs; omega) hwb
  have HF : Hid (∀ W', askB nm st ss bl = true → Below W.heap.size W W' → Calls Try.prog 62 #[.agg #[.string nm, .int .i64 st, .slice A n c], .int .i64 bl] W' (RetS 3 (intsV (natI (pathL st ss bl.toNat))) W')) := fun W' h1 h2 => by
    have hq := ask_ok h1
    obtain ⟨B, rfl⟩ : ∃ B : Nat, bl = (B : Int) := ⟨bl.toNat, by omega⟩
    rw [Int.toNat_natCast]
    exact l5Path_any nm st A n c ss B W' hq.1 (hr.below h2) (by omega) hq.2.2
  have E1 : Hid (askB nm st ss bl = true → out_PathOf nm st ss bl = natI (pathL st ss bl.toNat)) := fun h => by unfold out_PathOf; rw [if_pos h]
  have E0 : Hid (askB nm st ss bl = false → out_PathOf nm st ss bl = []) := fun h => by unfold out_PathOf; rw [h]; simp
  have Hbox := Lib.hid (box3 W 27 (.string nm) (.int .i64 st) (.slice A n c))
  have Hb := Lib.hid hb
  clear hb hr hz
  cases b with
  | true =>
    have HT : Hid (askB nm st ss bl = true) := Hb.out.symm
    go_enter Try.func37, Try.ntmps37
    go_wp2_with fail
    obtain ⟨B0, hB0⟩ : ∃ B, B = W.alloc (.cells #[.string nm, .int .i64 st, .slice A n c] 27) := ⟨_, rfl⟩
    rw [← hB0]
    have hbB : Below W.heap.size W B0 := by rw [hB0]; exact below_alloc _ _
    have hsB : W.heap.size < B0.heap.size := by rw [hB0]; simp
    have hcB := Hbox.out
    rw [← hB0] at hcB
    refine (HC.out _ hbB).mono ?_
    rintro e x1 ⟨rfl, hb1⟩
    have B1 : Below W.heap.size W x1 := hbB.trans (hb1.mono hbB.size)
    have K1 := keep3 hb1 hsB hcB
    have s1 : W.heap.size < x1.heap.size := Nat.lt_of_lt_of_le hsB hb1.size
    obtain ⟨k0, k1, k2⟩ := K1
    clear hcB hB0 hb1
    go_wp2_with (go_at_call 62; refine (HF.out _ HT.out B1).mono ?_; rintro e x2 ⟨A2, n2, c2, rfl, ho2, hb2⟩)
    go_ret2
    refine ⟨A2, n2, c2, ret_slb (show ok_PathOf nm st ss bl = true from HT.out), ?_, B1.trans (hb2.mono B1.size)⟩
    rw [E1.out HT.out]; exact ho2.mono B1.size (Nat.le_refl _)
  | false =>
    have HT : Hid (askB nm st ss bl = false) := Hb.out.symm
    go_enter Try.func37, Try.ntmps37
    go_wp2_with fail
    obtain ⟨B0, hB0⟩ : ∃ B, B = W.alloc (.cells #[.string nm, .int .i64 st, .slice A n c] 27) := ⟨_, rfl⟩
    rw [← hB0]
    have hbB : Below W.heap.size W B0 := by rw [hB0]; exact below_alloc _ _
    have hsB : W.heap.size < B0.heap.size := by rw [hB0]; simp
    have hcB := Hbox.out
    rw [← hB0] at hcB
    refine (HC.out _ hbB).mono ?_
    rintro e x1 ⟨rfl, hb1⟩
    have B1 : Below W.heap.size W x1 := hbB.trans (hb1.mono hbB.size)
    have K1 := keep3 hb1 hsB hcB
    have s1 : W.heap.size < x1.heap.size := Nat.lt_of_lt_of_le hsB hb1.size
    obtain ⟨k0, k1, k2⟩ := K1
    clear hcB hB0 hb1
    go_wp2
    go_ret2
    refine ⟨none, 0, 0, ret_slb (show ok_PathOf nm st ss bl = false from HT.out), ?_, B1⟩
    rw [E0.out HT.out]; exact Own.nil _ _ _ _
set_option maxRecDepth 100000 in
set_option maxHeartbeats 1000000 in
theorem im_PathOf (nm : ByteArray) (st : Int) (A : Option Addr) (n c : Nat) (ss : List ByteArray) (bl : Int) (W : World) (hs : nm.size ≤ 1048576) (hw : (Lit.int .i64 st).wf = true) (hnc : n ≤ c) (hr : Rd W A n (strsV ss)) (hz : ∀ s ∈ ss, s.size ≤ 1048576) (hl : ss.length ≤ 1048576) (hwb : (Lit.int .i64 bl).wf = true) :
    Calls Try.prog 38 #[.agg #[.string nm, .int .i64 st, .slice A n c], .int .i64 bl] W (RetSB 3 (intsV (out_PathOf nm st ss bl)) (ok_PathOf nm st ss bl) W) := by
  obtain ⟨b, hb⟩ : ∃ b, b = methB nm st ss := ⟨_, rfl⟩
  have HC : Hid (∀ W', Below W.heap.size W W' → Calls Try.prog 55 #[.agg #[.string nm, .int .i64 st, .slice A n c]] W' fun e w' => e = .returned (.bool b) ∧ Below W'.heap.size W' w') := fun W' h => by rw [hb]; exact GoodMethod_any nm st A n c ss W' (by omega) (hr.below h) (fun s hs => by have := hz s hs; omega)
  obtain ⟨b2, hb2'⟩ : ∃ b, b = decide (1 ≤ bl ∧ bl ≤ st) := ⟨_, rfl⟩
  have HI : Hid (∀ W', Calls Try.prog 76 #[.int .i64 st, .int .i64 bl] W' fun e w' => e = .returned (.bool b2) ∧ W' = w') := fun W' => by rw [hb2']; exact isBell_any st bl W'
  have HA : Hid (askB nm st ss bl = (b && b2)) := by unfold Hid askB; rw [hb, hb2']
  have HF : Hid (∀ W', askB nm st ss bl = true → Below W.heap.size W W' → Calls Try.prog 77 #[.agg #[.string nm, .int .i64 st, .slice A n c], .int .i64 bl] W' (RetS 3 (intsV (natI (pathL st ss bl.toNat))) W')) := fun W' h1 h2 => by
    have hq := ask_ok h1
    obtain ⟨B, rfl⟩ : ∃ B : Nat, bl = (B : Int) := ⟨bl.toNat, by omega⟩
    rw [Int.toNat_natCast]
    exact pathOf_any nm st A n c ss B W' hq.1 (hr.below h2) (by omega) hq.2.2
  have E1 : Hid (askB nm st ss bl = true → out_PathOf nm st ss bl = natI (pathL st ss bl.toNat)) := fun h => by unfold out_PathOf; rw [if_pos h]
  have E0 : Hid (askB nm st ss bl = false → out_PathOf nm st ss bl = []) := fun h => by unfold out_PathOf; rw [h]; simp
  have Hbox := Lib.hid (box3 W 27 (.string nm) (.int .i64 st) (.slice A n c))
  clear hb hb2' hr hz
  cases b with
  | true =>
    cases b2 with
    | true =>
      have HT : Hid (askB nm st ss bl = true) := HA.out
      go_enter Try.func38, Try.ntmps38
      go_wp2_with fail
      obtain ⟨B0, hB0⟩ : ∃ B, B = W.alloc (.cells #[.string nm, .int .i64 st, .slice A n c] 27) := ⟨_, rfl⟩
      rw [← hB0]
      have hbB : Below W.heap.size W B0 := by rw [hB0]; exact below_alloc _ _
      have hsB : W.heap.size < B0.heap.size := by rw [hB0]; simp
      have hcB := Hbox.out
      rw [← hB0] at hcB
      refine (HC.out _ hbB).mono ?_
      rintro e x1 ⟨rfl, hb1⟩
      have B1 : Below W.heap.size W x1 := hbB.trans (hb1.mono hbB.size)
      have K1 := keep3 hb1 hsB hcB
      have s1 : W.heap.size < x1.heap.size := Nat.lt_of_lt_of_le hsB hb1.size
      obtain ⟨k0, k1, k2⟩ := K1
      clear hcB hB0 hb1
      go_wp2_with first | (go_at_call 76; refine (HI.out _).mono ?_; rintro e w' ⟨rfl, rfl⟩) | (go_at_call 77; refine (HF.out _ HT.out B1).mono ?_; rintro e x2 ⟨A2, n2, c2, rfl, ho2, hb2⟩)
      go_ret2
      refine ⟨A2, n2, c2, ret_slb (show ok_PathOf nm st ss bl = true from HT.out), ?_, B1.trans (hb2.mono B1.size)⟩
      rw [E1.out HT.out]; exact ho2.mono B1.size (Nat.le_refl _)
    | false =>
      have HT : Hid (askB nm st ss bl = false) := HA.out
      go_enter Try.func38, Try.ntmps38
      go_wp2_with fail
      obtain ⟨B0, hB0⟩ : ∃ B, B = W.alloc (.cells #[.string nm, .int .i64 st, .slice A n c] 27) := ⟨_, rfl⟩
      rw [← hB0]
      have hbB : Below W.heap.size W B0 := by rw [hB0]; exact below_alloc _ _
      have hsB : W.heap.size < B0.heap.size := by rw [hB0]; simp
      have hcB := Hbox.out
      rw [← hB0] at hcB
      refine (HC.out _ hbB).mono ?_
      rintro e x1 ⟨rfl, hb1⟩
      have B1 : Below W.heap.size W x1 := hbB.trans (hb1.mono hbB.size)
      have K1 := keep3 hb1 hsB hcB
      have s1 : W.heap.size < x1.heap.size := Nat.lt_of_lt_of_le hsB hb1.size
      obtain ⟨k0, k1, k2⟩ := K1
      clear hcB hB0 hb1
      go_wp2_with (go_at_call 76; refine (HI.out _).mono ?_; rintro e w' ⟨rfl, rfl⟩)
      go_ret2
      refine ⟨none, 0, 0, ret_slb (show ok_PathOf nm st ss bl = false from HT.out), ?_, B1⟩
      rw [E0.out HT.out]; exact Own.nil _ _ _ _
  | false =>
    have HT : Hid (askB nm st ss bl = false) := by unfold Hid; rw [HA.out]; rfl
    go_enter Try.func38, Try.ntmps38
    go_wp2_with fail
    obtain ⟨B0, hB0⟩ : ∃ B, B = W.alloc (.cells #[.string nm, .int .i64 st, .slice A n c] 27) := ⟨_, rfl⟩
    rw [← hB0]
    have hbB : Below W.heap.size W B0 := by rw [hB0]; exact below_alloc _ _
    have hsB : W.heap.size < B0.heap.size := by rw [hB0]; simp
    have hcB := Hbox.out
    rw [← hB0] at hcB
    refine (HC.out _ hbB).mono ?_
    rintro e x1 ⟨rfl, hb1⟩
    have B1 : Below W.heap.size W x1 := hbB.trans (hb1.mono hbB.size)
    have K1 := keep3 hb1 hsB hcB
    have s1 : W.heap.size < x1.heap.size := Nat.lt_of_lt_of_le hsB hb1.size
    obtain ⟨k0, k1, k2⟩ := K1
    clear hcB hB0 hb1
    go_wp2
    go_ret2
    refine ⟨none, 0, 0, ret_slb (show ok_PathOf nm st ss bl = false from HT.out), ?_, B1⟩
    rw [E0.out HT.out]; exact Own.nil _ _ _ _
end Go.Proofs.Ytbmabfgnmafooaa
