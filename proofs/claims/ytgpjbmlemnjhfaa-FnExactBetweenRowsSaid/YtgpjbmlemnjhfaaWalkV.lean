/- The walks of the row of a change. -/
import Derived.Test.YtgpjbmlemnjhfaaWalkR
import Derived.Test.YtgpjbmlemnjhfaaWalkB
namespace Go.Proofs.Ytgpjbmlemnjhfaa
open Go.RowKit
set_option linter.unusedVariables false

/-- elements i and i + 1 exchanged -/
def exchAt : Nat → List UInt8 → List UInt8
  | 0, x :: y :: t => y :: x :: t
  | k + 1, x :: t => x :: exchAt k t
  | _, l => l
theorem exchAt_perm : ∀ (k : Nat) (l : List UInt8), (exchAt k l).Perm l
  | 0, [] => .refl _
  | 0, [_] => .refl _
  | 0, x :: y :: t => List.Perm.swap _ _ _
  | k + 1, [] => .refl _
  | k + 1, x :: t => (exchAt_perm k t).cons x
theorem exchAt_set : ∀ (k : Nat) (l : List UInt8), k + 1 < l.length → (l.set k (l.getD (k + 1) 0)).set (k + 1) (l.getD k 0) = exchAt k l
  | 0, [], h => by simp at h
  | 0, [_], h => by simp at h
  | 0, x :: y :: t, h => by simp [exchAt]
  | k + 1, [], h => by simp at h
  | k + 1, x :: t, h => by
    have h2 := exchAt_set k t (by simp at h; omega)
    simp only [exchAt, List.set_cons_succ, List.getD_cons_succ, h2]
theorem exchAt_get (k : Nat) (l : List UInt8) (j : Nat) (hj : k + 1 < j) (h : k + 1 < l.length) : (exchAt k l).getD j 0 = l.getD j 0 := by
  rw [← exchAt_set k l h]
  simp [show k + 1 ≠ j by omega, show k ≠ j by omega]
def exch (l : List UInt8) (p : Int) : List UInt8 := exchAt (p - 1).toNat l
def crL (n : Nat) (ps : List Int) : List UInt8 := ps.foldl exch (roundsL n)
theorem crL_snoc (n : Nat) (ps : List Int) (p : Int) : crL n (ps ++ [p]) = exch (crL n ps) p := by simp [crL]
theorem crL_perm (n : Nat) (ps : List Int) : (crL n ps).Perm (roundsL n) := by
  unfold crL
  generalize roundsL n = l
  induction ps generalizing l with
  | nil => exact .refl _
  | cons p t ih => exact (ih _).trans (exchAt_perm _ _)
theorem crL_length (n : Nat) (ps : List Int) : (crL n ps).length = n := by rw [(crL_perm n ps).length_eq, roundsL_length]
theorem crL_row {n : Nat} (ps : List Int) (h3 : 3 ≤ n) (h8 : n ≤ 8) : IsRow (crL n ps) := by
  have h := isRow_rounds h3 h8
  have hp := crL_perm n ps
  have hl := hp.length_eq
  refine ⟨by rw [hl]; exact h.1, by rw [hl]; exact h.2.1, fun c hc => by rw [hl]; exact h.2.2.1 c (hp.mem_iff.1 hc), hp.nodup_iff.2 h.2.2.2⟩
theorem swF_bd (S : Int → Bool) : ∀ (k : Nat) (p : Int), ∀ x ∈ swF S k p, p ≤ x ∧ x < p + k
  | 0, _, x, h => by simp [swF] at h
  | 1, p, x, h => by
    rw [swF] at h
    split at h
    · simp at h
    · simp at h; omega
  | k + 2, p, x, h => by
    rw [swF] at h
    split at h
    · have := swF_bd S (k + 1) (p + 1) x h; omega
    · rw [List.mem_cons] at h
      rcases h with rfl | h
      · omega
      · have := swF_bd S k (p + 2) x h; omega
theorem swI_bd {n : Int} {s : ByteArray} (h : 1 ≤ n) : ∀ x ∈ swI n s, 1 ≤ x ∧ x < n := fun x hx => by
  have := swF_bd (stayB s) _ _ x hx
  omega
noncomputable def crS (n : Int) (s : ByteArray) : ByteArray := mkS (crL n.toNat (swI n s))
theorem crS_row {n : Int} {s : ByteArray} (h : chB n s = true) : IsRow (bs (crS n s)) := by
  have := ch_stage h
  unfold crS; rw [bs_mkS]; exact crL_row _ (by omega) (by omega)
theorem crS_size (n : Int) (s : ByteArray) : (crS n s).size = n.toNat := by unfold crS; rw [size_mkS, crL_length]

set_option maxRecDepth 100000 in
set_option maxHeartbeats 1000000 in
theorem l2Row_any (n : Int) (s : ByteArray) (w : World) (hc : chB n s = true) : Calls Try.prog 85 #[.int .i64 n, .string s] w fun e w' => e = .returned (.string (crS n s)) ∧ Below w.heap.size w w' := by
  have hm : s.size ≤ 2097152 := by have := (ch_size hc).2; omega
  obtain ⟨h3, h8⟩ := ch_stage hc
  obtain ⟨m, rfl⟩ : ∃ m : Nat, n = (m : Int) := ⟨n.toNat, by omega⟩
  clear hc
  obtain ⟨r, hr⟩ : ∃ r, r = mkS (roundsL m) := ⟨_, rfl⟩
  have hrs : r.size = m := by rw [hr, size_mkS, roundsL_length]
  have hrb : bs r = roundsL m := by rw [hr, bs_mkS]
  have HR : Hid (∀ W, Calls Try.prog 93 #[.int .i64 (m : Int)] W fun e w' => e = .returned (.string r) ∧ W = w') := fun W => by
    have := l1Rounds_any (m : Int) W (by omega) h8
    rwa [Int.toNat_natCast, ← hr] at this
  clear hr
  obtain ⟨cap, w1, hmk, hmem, hbel, hlt⟩ := bytes_made (P := Try.prog) w 9 64 5 r Try.underlying9 Try.underlying64 Try.underlying5
  rw [hrs] at hmk
  rw [hrb] at hmem
  have Hmk := Lib.hid hmem
  clear hmem hrb
  go_enter Try.func85, Try.ntmps85
  go_wp2_with fail
  refine (HR.out _).mono ?_
  rintro e w' ⟨rfl, rfl⟩
  go_wp2
  go_loopw [6] (fun i wr => ∃ (k : Nat) (out : List Int), i = .int .i64 ((k : Int) + 1) ∧ k ≤ m ∧ Hid (out ++ swF (stayB s) ((m : Int) - ((k : Int) + 1)).toNat ((k : Int) + 1) = swI m s) ∧ Hid (∀ j, k ≤ j → j < m → (crL m out).getD j 0 = UInt8.ofNat (49 + j)) ∧ Hid (Mem wr w.heap.size (u8s (crL m out))) ∧ Below w.heap.size w wr ∧ w.heap.size < wr.heap.size) (fun i _ => (m + 1 - intOf i).toNat)
  case atStart => exact ⟨0, [], rfl, by omega, rfl, fun j _ hj => roundsL_get hj, Hmk.out, hbel, hlt⟩
  case round =>
    obtain ⟨k, out, rfl, hk, HQ, HJ, Hm, hbl, hlw⟩ := hrel
    by_cases hkn : k + 1 < m
    · have i1 : (k : Int) + 1 < (m : Int) := by omega
      have HC := Lib.hid (l2Stays_any s ((k : Int) + 1) wr hm (by omega))
      cases hs : stayB s ((k : Int) + 1) with
      | true =>
        have HQ2 : Hid (out ++ swF (stayB s) ((m : Int) - ((k : Int) + 1 + 1)).toNat ((k : Int) + 1 + 1) = swI m s) := by
          unfold Hid; rw [← HQ.out, swF_stay i1 hs]
        have HJ2 : Hid (∀ j, k + 1 ≤ j → j < m → (crL m out).getD j 0 = UInt8.ofNat (49 + j)) := fun j h1 h2 => HJ.out j (by omega) h2
        clear HQ HJ
        go_wp2_with fail
        refine (HC.out).mono ?_
        rintro e w' ⟨rfl, rfl⟩
        go_wp2
        go_roundw
        case rel => exact ⟨k + 1, out, by go_num, by omega, HQ2.out, HJ2.out, Hm.out, hbl, hlw⟩
        case measure => (simp [intOf] <;> omega)
      | false =>
        have HQ2 : Hid ((out ++ [(k : Int) + 1]) ++ swF (stayB s) ((m : Int) - ((k : Int) + 1 + 2)).toNat ((k : Int) + 1 + 2) = swI m s) := by
          unfold Hid; rw [← HQ.out, swF_swap i1 hs, List.append_assoc]; rfl
        have hll := crL_length m out
        have g1 := HJ.out k (by omega) (by omega)
        have g2 := HJ.out (k + 1) (by omega) hkn
        have hst := exchAt_set k (crL m out) (by omega)
        rw [g1, g2] at hst
        have HX : Hid (crL m (out ++ [(k : Int) + 1]) = ((crL m out).set k (UInt8.ofNat (49 + (k + 1)))).set (k + 1) (UInt8.ofNat (49 + k))) := by
          unfold Hid; rw [crL_snoc, exch, hst]; congr 1; omega
        have HJ2 : Hid (∀ j, k + 2 ≤ j → j < m → (crL m (out ++ [(k : Int) + 1])).getD j 0 = UInt8.ofNat (49 + j)) := fun j h1 h2 => by
          rw [crL_snoc, exch, show ((k : Int) + 1 - 1).toNat = k by omega, exchAt_get k _ j (by omega) (by omega)]
          exact HJ.out j (by omega) h2
        have e1 : ((UInt8.ofNat (49 + (k + 1))).toNat : Int) = 49 + ((k : Int) + 1) := by rw [UInt8.toNat_ofNat', Nat.mod_eq_of_lt (by omega)]; omega
        have e2 : ((UInt8.ofNat (49 + k)).toNat : Int) = 48 + ((k : Int) + 1) := by rw [UInt8.toNat_ofNat', Nat.mod_eq_of_lt (by omega)]; omega
        have HM2 : Hid (Mem ((wr.setCell ⟨w.heap.size, k, none⟩ (.int .u8 (49 + ((k : Int) + 1)))).setCell ⟨w.heap.size, k + 1, none⟩ (.int .u8 (48 + ((k : Int) + 1)))) w.heap.size (u8s (crL m (out ++ [(k : Int) + 1])))) := by
          refine ((Hm.out.set_ k _).set_ (k + 1) _).congr ?_
          rw [HX.out, ← e1, ← e2, u8s_set, u8s_set]
        have hl1 : k < (u8s (crL m out)).length := by rw [u8s_length, hll]; omega
        have hl2 : k + 1 < (u8s (crL m out)).length := by rw [u8s_length, hll]; omega
        obtain ⟨v0, hc⟩ : ∃ v0, wr.cell? ⟨w.heap.size, k, none⟩ = some v0 := ⟨_, Hm.out.get hl1⟩
        have hf : wr.frozen? ⟨w.heap.size, k, none⟩ = false := Hm.out.free hl1
        obtain ⟨v1, hc1⟩ : ∃ v1, wr.cell? ⟨w.heap.size, k + 1, none⟩ = some v1 := ⟨_, Hm.out.get hl2⟩
        have hf1 : wr.frozen? ⟨w.heap.size, k + 1, none⟩ = false := Hm.out.free hl2
        clear HQ HJ hst g1 g2 hll hl1 hl2 HX e1 e2
        go_wp2_with fail
        refine (HC.out).mono ?_
        rintro e w' ⟨rfl, rfl⟩
        go_wp2
        go_roundw
        case rel => exact ⟨k + 2, out ++ [(k : Int) + 1], val_i (by omega), by omega, (by unfold Hid; simpa [Int.add_assoc] using HQ2.out), HJ2.out, HM2.out, (hbl.setCell (Nat.le_refl _) _).setCell (Nat.le_refl _) _, by simp; exact hlw⟩
        case measure => (simp [intOf] <;> omega)
    · have E : Hid (out = swI m s) := by
        unfold Hid; rw [← HQ.out, swF_end (by omega), List.append_nil]
      have hge : (m : Int) ≤ (k : Int) + 1 := by omega
      have E2 : Hid (mkS (crL m out) = crS (m : Int) s) := by unfold Hid crS; rw [E.out, Int.toNat_natCast]
      have hcv := Hm.out.back (P := Try.prog) 64 9 5 m cap (by rw [crL_length]) Try.underlying64 Try.underlying5 Try.underlying9
      clear hkn
      go_wp2
      go_ret
      exact ⟨ret_s E2.out.symm, hbl⟩
end Go.Proofs.Ytgpjbmlemnjhfaa
