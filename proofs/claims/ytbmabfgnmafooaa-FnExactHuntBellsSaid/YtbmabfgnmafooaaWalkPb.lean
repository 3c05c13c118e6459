/- The walks of the cycle of place bells of a bell. -/
import Derived.Test.YtbmabfgnmafooaaWalkPa
import Derived.Test.YtbmabfgnmafooaaWalkR
import Derived.Test.YtbmabfgnmafooaaWalkE
namespace Go.Proofs.Ytbmabfgnmafooaa
open Go.RowKit
set_option linter.unusedVariables false

theorem lh_ok {nm : ByteArray} {st : Int} {ss : List ByteArray} (h : methB nm st ss = true) : IsRow (bs (lhS st ss)) ∧ ((lhS st ss).size : Int) = st := by
  obtain ⟨h1, h40, h3, h8, hch⟩ := meth_ok h
  have hrow : IsRow (bs (mkS (roundsL st.toNat))) := by rw [bs_mkS]; exact isRow_rounds (by omega) (by omega)
  have := rowAt_ok hrow (fun c hc => by rw [size_mkS, roundsL_length, Int.toNat_of_nonneg (by omega)]; exact hch c hc) _ (Nat.le_refl _)
  refine ⟨this.1, ?_⟩
  unfold lhS
  rw [this.2, size_mkS, roundsL_length]; omega
noncomputable def pbO (st : Int) (ss : List ByteArray) (B : Nat) : List Nat := pbL (bs (lhS st ss)) B (pbK (bs (lhS st ss)) B)
theorem pbL_zero_mem {h : List UInt8} {B K : Nat} (hK : 0 < K) : B ∈ pbL h B K := List.mem_map.2 ⟨0, by simpa using hK, rfl⟩
theorem natOne (k : Nat) : intsV (natI [k]) = [.int .i64 (k : Int)] := rfl
set_option maxRecDepth 100000 in
set_option maxHeartbeats 2000000 in
theorem placeBells_any (nm : ByteArray) (st : Int) (A : Option Addr) (n c : Nat) (ss : List ByteArray) (B : Nat) (W : World) (hm : methB nm st ss = true) (hr : Rd W A n (strsV ss)) (hB1 : 1 ≤ B) (hB2 : (B : Int) ≤ st) :
    Calls Try.prog 80 #[.agg #[.string nm, .int .i64 st, .slice A n c], .int .i64 (B : Int)] W (RetS 3 (intsV (natI (pbO st ss B))) W) := by
  obtain ⟨hrow, hsz⟩ := lh_ok hm
  have h8 : (lhS st ss).size ≤ 8 := by have := hrow.2.1; rwa [size_bs] at this
  have HH : Hid (∀ W', Below W.heap.size W W' → Calls Try.prog 67 #[.agg #[.string nm, .int .i64 st, .slice A n c]] W' fun e w' => e = .returned (.string (lhS st ss)) ∧ Below W'.heap.size W' w') := fun W' h => leadHead_any nm st A n c ss W' hm (hr.below h)
  have E0 : pbO st ss B = pbL (bs (lhS st ss)) B (pbK (bs (lhS st ss)) B) := rfl
  obtain ⟨h, hh⟩ : ∃ h, h = lhS st ss := ⟨_, rfl⟩
  rw [← hh] at hrow hsz HH E0 h8
  have hBs : B ≤ h.size := by omega
  have HK := Lib.hid (pbK_ok hrow hB1 (by rw [size_bs]; exact hBs))
  have HI := Lib.hid (pbs_in hrow hB1 (show B ≤ (bs h).length by rw [size_bs]; exact hBs))
  have HN : Hid (∀ k, k < pbK (bs h) B → itN (bpl (bs h)) B k ∉ pbL (bs h) B k) := fun k hk => pbs_notin hrow hB1 (by rw [size_bs]; exact hBs) hk
  obtain ⟨K, hK⟩ : ∃ K, K = pbK (bs h) B := ⟨_, rfl⟩
  rw [← hK] at HK E0 HN
  have E := Lib.hid E0
  have hK8 : K ≤ 8 := by have := HK.out.2; rw [size_bs] at this; omega
  have Hrow := Lib.hid hrow
  have Hbox := Lib.hid (box3 W 27 (.string nm) (.int .i64 st) (.slice A n c))
  clear hh hK E0 hm hr hrow hB2 hsz
  go_enter Try.func80, Try.ntmps80
  go_wp2_with fail
  obtain ⟨B0, hB0⟩ : ∃ B, B = W.alloc (.cells #[.string nm, .int .i64 st, .slice A n c] 27) := ⟨_, rfl⟩
  rw [← hB0]
  have hbB : Below W.heap.size W B0 := by rw [hB0]; exact below_alloc _ _
  refine (HH.out _ hbB).mono ?_
  rintro e x1 ⟨rfl, hb1⟩
  have B1 : Below W.heap.size W x1 := hbB.trans (hb1.mono hbB.size)
  have HO1 := Lib.hid (own_empty x1 3)
  have HB1 : Hid (Below W.heap.size W (x1.alloc (.cells #[] 3))) := B1.trans ((below_alloc x1 _).mono B1.size)
  clear hB0 hb1 hbB
  go_wp2
  go_loopw [1, 6] (fun b l wr => ∃ (k : Nat) (A3 : Option Addr) (c3 : Nat) (x : Nat), b = .int .i64 (x : Int) ∧ l = .slice A3 k c3 ∧ k ≤ K ∧ Hid (x = itN (bpl (bs h)) B k) ∧ Hid (Own wr 3 W.heap.size wr.heap.size A3 k c3 (intsV (natI (pbL (bs h) B k)))) ∧ Hid (Below W.heap.size W wr)) (fun _ l _ => K - lenOf l)
  case atStart => exact ⟨0, _, _, B, rfl, rfl, by omega, rfl, (HO1.out).mono B1.size (Nat.le_refl _), HB1.out⟩
  case round =>
    obtain ⟨k, A3, c3, x, rfl, rfl, hk, HX, HO3, HB⟩ := hrel
    have HC : Hid (Calls Try.prog 97 #[.slice A3 k c3, .int .i64 (x : Int)] wr fun e w' => e = .returned (.bool (decide ((x : Int) ∈ natI (pbL (bs h) B k)))) ∧ wr = w') := contains_any A3 k c3 _ _ wr (by omega) HO3.out.rd
    obtain ⟨q, hq⟩ : ∃ q : Bool, q = decide ((x : Int) ∈ natI (pbL (bs h) B k)) := ⟨_, rfl⟩
    rw [← hq] at HC
    by_cases hlt : k < K
    · obtain rfl : q = false := by
        rw [hq, decide_eq_false_iff_not, mem_natI, HX.out]; exact HN.out k hlt
      have hin := HI.out k
      rw [← HX.out] at hin
      have HPl : Hid (∀ W, Calls Try.prog 96 #[.string h, .int .i64 (x : Int)] W fun e w' => e = .returned (.int .i64 (bpl (bs h) x : Int)) ∧ W = w') := fun W => placeOf_any h x W Hrow.out hin.1 (by rw [← size_bs]; exact hin.2)
      have HS : Hid (intsV (natI (pbL (bs h) B (k + 1))) = intsV (natI (pbL (bs h) B k)) ++ [.int .i64 (x : Int)]) := by
        unfold Hid; rw [pbL_succ, natI_app, intsV_app, natOne, HX.out]
      obtain ⟨y, hy⟩ : ∃ y, y = bpl (bs h) x := ⟨_, rfl⟩
      rw [← hy] at HPl
      have HY : Hid (y = itN (bpl (bs h)) B (k + 1)) := by unfold Hid; rw [hy, HX.out]; rfl
      clear hq hin hy
      go_wp2_with first
        | (go_at_call 97; refine (HC.out).mono ?_; rintro e w' ⟨rfl, rfl⟩)
        | (at_builtin; refine wpList_append1x wr rfl (.tmp 14) (.tmp 16) 42 rfl 3 (.int .i64 0) 8 Try.underlying42 info_int rfl W.heap.size A3 k c3 _ (.int .i64 (x : Int)) rfl rfl rfl HO3.out (by omega) (by omega) HB.out.size ?_; intro A4 c4 w4 ho4 hx4 hsz4 hat4)
        | (go_at_call 96; refine (HPl.out _).mono ?_; rintro e w' ⟨rfl, rfl⟩)
      have HO4 : Hid (Own w4 3 W.heap.size w4.heap.size A4 (k + 1) c4 (intsV (natI (pbL (bs h) B (k + 1))))) := ho4.congr HS.out.symm
      have HB4 : Hid (Below W.heap.size W w4) := HB.out.trans (HO3.out.below_ hx4 HB.out.size)
      go_roundw
      case rel => exact ⟨k + 1, A4, c4, y, rfl, rfl, by omega, HY.out, HO4.out, HB4.out⟩
      case measure => (simp [lenOf] <;> omega)
    · obtain rfl : k = K := by omega
      obtain rfl : q = true := by
        rw [hq, decide_eq_true_eq, mem_natI, HX.out, HK.out.1.2.1]; exact pbL_zero_mem HK.out.1.1
      clear hq
      go_wp2_with (go_at_call 97; refine (HC.out).mono ?_; rintro e w' ⟨rfl, rfl⟩)
      go_ret
      refine ⟨_, _, _, rfl, ?_, HB.out⟩
      rw [E.out]; exact HO3.out
set_option maxRecDepth 100000 in
set_option maxHeartbeats 2000000 in
theorem l5Bells_any (nm : ByteArray) (st : Int) (A : Option Addr) (n c : Nat) (ss : List ByteArray) (B : Nat) (W : World) (hm : methB nm st ss = true) (hr : Rd W A n (strsV ss)) (hB1 : 1 ≤ B) (hB2 : (B : Int) ≤ st) :
    Calls Try.prog 79 #[.agg #[.string nm, .int .i64 st, .slice A n c], .int .i64 (B : Int)] W (RetS 3 (intsV (natI (pbO st ss B))) W) := by
  obtain ⟨hrow, hsz⟩ := lh_ok hm
  have h8 : (lhS st ss).size ≤ 8 := by have := hrow.2.1; rwa [size_bs] at this
  have HH : Hid (∀ W', Below W.heap.size W W' → Calls Try.prog 64 #[.agg #[.string nm, .int .i64 st, .slice A n c]] W' fun e w' => e = .returned (.string (lhS st ss)) ∧ Below W'.heap.size W' w') := fun W' h => l4Head_any nm st A n c ss W' hm (hr.below h)
  have E0 : pbO st ss B = pbL (bs (lhS st ss)) B (pbK (bs (lhS st ss)) B) := rfl
  obtain ⟨h, hh⟩ : ∃ h, h = lhS st ss := ⟨_, rfl⟩
  rw [← hh] at hrow hsz HH E0 h8
  have hBs : B ≤ h.size := by omega
  have HK := Lib.hid (pbK_ok hrow hB1 (by rw [size_bs]; exact hBs))
  have HI := Lib.hid (pbs_in hrow hB1 (show B ≤ (bs h).length by rw [size_bs]; exact hBs))
  have HP0 : Hid (∀ W, Calls Try.prog 89 #[.string h, .int .i64 (B : Int)] W fun e w' => e = .returned (.int .i64 (bpl (bs h) B : Int)) ∧ W = w') := fun W => l5Place_any h B W hrow hB1 hBs
  obtain ⟨y0, hy0⟩ : ∃ y, y = bpl (bs h) B := ⟨_, rfl⟩
  rw [← hy0] at HP0
  have HY0 : Hid (y0 = itN (bpl (bs h)) B 1) := hy0
  obtain ⟨K, hK⟩ : ∃ K, K = pbK (bs h) B := ⟨_, rfl⟩
  rw [← hK] at HK E0
  have E := Lib.hid E0
  have hK8 : K ≤ 8 := by have := HK.out.2; rw [size_bs] at this; omega
  have hK1 : 1 ≤ K := HK.out.1.1
  have Hrow := Lib.hid hrow
  clear hh hK E0 hm hr hrow hB2 hsz hy0
  go_enter Try.func79, Try.ntmps79
  go_wp2_with fail
  obtain ⟨B0, hB0⟩ : ∃ B, B = W.alloc (.cells #[.string nm, .int .i64 st, .slice A n c] 27) := ⟨_, rfl⟩
  rw [← hB0]
  have hbB : Below W.heap.size W B0 := by rw [hB0]; exact below_alloc _ _
  refine (HH.out _ hbB).mono ?_
  rintro e x1 ⟨rfl, hb1⟩
  have B1 : Below W.heap.size W x1 := hbB.trans (hb1.mono hbB.size)
  have HO1 := Lib.hid (own_one x1 3 (.int .i64 (B : Int)))
  have HB1 : Hid (Below W.heap.size W (x1.alloc (.cells #[.int .i64 (B : Int)] 3))) := B1.trans ((below_alloc x1 _).mono B1.size)
  clear hB0 hb1 hbB
  go_wp2_with (go_at_call 89; refine (HP0.out _).mono ?_; rintro e w' ⟨rfl, rfl⟩)
  go_loopw [6, 7] (fun l b wr => ∃ (k : Nat) (A3 : Option Addr) (c3 : Nat) (x : Nat), b = .int .i64 (x : Int) ∧ l = .slice A3 (k + 1) c3 ∧ k + 1 ≤ K ∧ Hid (x = itN (bpl (bs h)) B (k + 1)) ∧ Hid (Own wr 3 W.heap.size wr.heap.size A3 (k + 1) c3 (intsV (natI (pbL (bs h) B (k + 1))))) ∧ Hid (Below W.heap.size W wr)) (fun l _ _ => K - lenOf l)
  case atStart => exact ⟨0, _, _, y0, rfl, rfl, by omega, HY0.out, (HO1.out).mono B1.size (Nat.le_refl _), HB1.out⟩
  case round =>
    obtain ⟨k, A3, c3, x, rfl, rfl, hk, HX, HO3, HB⟩ := hrel
    by_cases hxB : x = B
    · have hkK : k + 1 = K := by
        apply Classical.byContradiction
        intro hne
        exact HK.out.1.2.2 (k + 1) (by omega) (by omega) (by rw [← HX.out]; exact hxB)
      have hne : ((x : Int) != (B : Int)) = false := by simp [hxB]
      have E2 : Hid (Own wr 3 W.heap.size wr.heap.size A3 (k + 1) c3 (intsV (natI (pbO st ss B)))) := by unfold Hid; rw [E.out, ← hkK]; exact HO3.out
      clear hxB hkK
      go_wp2
      go_ret
      exact ⟨_, _, _, rfl, E2.out, HB.out⟩
    · have hlt : k + 1 < K := by
        rcases Nat.lt_or_ge (k + 1) K with h | h
        · exact h
        · exfalso
          have e : k + 1 = K := by omega
          exact hxB (by rw [HX.out, e]; exact HK.out.1.2.1)
      have hne : ((x : Int) != (B : Int)) = true := by simp; omega
      have hin := HI.out (k + 1)
      rw [← HX.out] at hin
      have HPl : Hid (∀ W, Calls Try.prog 89 #[.string h, .int .i64 (x : Int)] W fun e w' => e = .returned (.int .i64 (bpl (bs h) x : Int)) ∧ W = w') := fun W => l5Place_any h x W Hrow.out hin.1 (by rw [← size_bs]; exact hin.2)
      have HS : Hid (intsV (natI (pbL (bs h) B (k + 1 + 1))) = intsV (natI (pbL (bs h) B (k + 1))) ++ [.int .i64 (x : Int)]) := by
        unfold Hid; rw [pbL_succ _ _ (k + 1), natI_app, intsV_app, natOne, HX.out]
      obtain ⟨y, hy⟩ : ∃ y, y = bpl (bs h) x := ⟨_, rfl⟩
      rw [← hy] at HPl
      have HY : Hid (y = itN (bpl (bs h)) B (k + 1 + 1)) := by unfold Hid; rw [hy, HX.out]; rfl
      clear hin hy hxB
      go_wp2_with first
        | (at_builtin; refine wpList_append1x wr rfl (.tmp 21) (.tmp 23) 42 rfl 3 (.int .i64 0) 8 Try.underlying42 info_int rfl W.heap.size A3 (k + 1) c3 _ (.int .i64 (x : Int)) rfl rfl rfl HO3.out (by omega) (by omega) HB.out.size ?_; intro A4 c4 w4 ho4 hx4 hsz4 hat4)
        | (go_at_call 89; refine (HPl.out _).mono ?_; rintro e w' ⟨rfl, rfl⟩)
      have HO4 : Hid (Own w4 3 W.heap.size w4.heap.size A4 (k + 1 + 1) c4 (intsV (natI (pbL (bs h) B (k + 1 + 1))))) := ho4.congr HS.out.symm
      have HB4 : Hid (Below W.heap.size W w4) := HB.out.trans (HO3.out.below_ hx4 HB.out.size)
      go_roundw
      case rel => exact ⟨k + 1, A4, c4, y, rfl, rfl, by omega, HY.out, HO4.out, HB4.out⟩
      case measure => (simp [lenOf] <;> omega)
end Go.Proofs.Ytbmabfgnmafooaa
