/- EvenOnes, of the reference and of the program: what each returns. -/
import Derived.Test.YtllbakbhdfoadaaWalkU
namespace Go.Proofs.Ytllbakbhdfoadaa
open Go.RowKit
set_option linter.unusedVariables false

set_option maxRecDepth 100000 in
set_option maxHeartbeats 2000000 in
theorem sp_EvenOnes (A : Option Addr) (n c : Nat) (ss : List ByteArray) (W : World) (hr : Rd W A n (strsV ss)) (hz : ∀ s ∈ ss, s.size ≤ 1048576) (hl : ss.length ≤ 1048576) :
    Calls Try.prog 49 #[.slice A n c] W (RetSB 9 (strsV (out_EvenOnes ss)) (ok_EO ss) W) := by
  have Hr := Lib.hid hr
  have Hz := Lib.hid (max_of_small' hz)
  have Hl := Lib.hid hr.slen
  clear hr hz
  by_cases hrow : rowsB ss = true
  · have E : Hid (out_EvenOnes ss = ss.filter evS ∧ ok_EO ss = true) := by
      unfold Hid out_EvenOnes ok_EO; rw [hrow]; simp
    have hn : n ≤ 800 := by have := rowsB_len hrow; have := Hl.out; omega
    go_enter Try.func49, Try.ntmps49
    go_wp2_with (go_at_call 78; refine (l6Rows_any _ _ _ _ _ Hr.out Hz.out).mono ?_; rintro e w' ⟨rfl, d, rfl⟩)
    go_loopw [4, 12] (fun l i wr => ∃ (k : Nat) (A2 : Option Addr) (n2 c2 : Nat), i = .int .i64 k ∧ l = .slice A2 n2 c2 ∧ k ≤ n ∧ n2 ≤ k ∧ Hid (Own wr 9 W.heap.size wr.heap.size A2 n2 c2 (strsV ((ss.take k).filter evS))) ∧ Hid (Below W.heap.size W wr)) (fun _ i _ => n - (intOf i).toNat)
    case atStart => exact ⟨0, none, 0, 0, rfl, rfl, by omega, by omega, Own.nil _ _ _ _, below_drewN' (Below.refl _ _) _⟩
    case round =>
      obtain ⟨k, A2, n2, c2, rfl, rfl, hk, hn2, HO, HB⟩ := hrel
      by_cases hlt : k < n
      · obtain ⟨b, off, rfl, _, hc⟩ := (Hr.out.below HB.out).str hlt
        have hkl : k < ss.length := by have := Hl.out; omega
        have HS := Lib.hid (filter_step (f := evS) hkl)
        have hsm : ss[k].size ≤ maxLen := Hz.out _ (List.getElem_mem hkl)
        obtain ⟨s, hs⟩ : ∃ s, s = ss[k] := ⟨_, rfl⟩
        rw [← hs] at hc HS hsm
        have i1 : (k : Int) < (n : Int) := by omega
        clear hs
        by_cases hev : evenL (bs s) = true
        · go_wp2_with first
            | (go_at_call 82; refine (l1Even_any _ _ hsm).mono ?_; rintro e w' ⟨rfl, m, rfl⟩)
            | (at_builtin; refine wpList_append1 (wr.drewN m) rfl (.tmp 18) (.tmp 20) 22 rfl 9 (.string ByteArray.empty) 16 Try.underlying22 info_str rfl W.heap.size A2 n2 c2 _ (.string s) rfl rfl rfl (HO.out.drewN m) (by omega) (by omega) HB.out.size ?_; intro A3 c3 w2 ho2 hw2 hsz2 hat2)
          have HO2 : Hid (Own w2 9 W.heap.size w2.heap.size A3 (n2 + 1) c3 (strsV ((ss.take (k + 1)).filter evS))) := by
            refine ho2.congr ?_
            rw [HS.out, if_pos (show evS s = true from hev), strsV_app ((ss.take k).filter evS), strsV_one]
          have HB2 : Hid (Below W.heap.size W w2) := (below_drewN' HB.out m).trans (hw2.below (Nat.le_refl _) HB.out.size)
          go_roundw
          case rel => exact ⟨k + 1, A3, n2 + 1, c3, by go_num, rfl, by omega, by omega, HO2.out, HB2.out⟩
          case measure => (simp [intOf] <;> omega)
        · have hev' : evenL (bs s) = false := by simpa using hev
          have HS2 : Hid ((ss.take (k + 1)).filter evS = (ss.take k).filter evS) := by
            unfold Hid
            rw [HS.out, if_neg (show ¬ evS s = true from hev), List.append_nil]
          clear hev HS
          go_wp2_with (go_at_call 82; refine (l1Even_any _ _ hsm).mono ?_; rintro e w' ⟨rfl, m, rfl⟩)
          go_roundw
          case rel => exact ⟨k + 1, A2, n2, c2, by go_num, rfl, by omega, by omega, (HO.out.drewN m).congr (by rw [HS2.out]), below_drewN' HB.out m⟩
          case measure => (simp [intOf] <;> omega)
      · have E2 : Hid (Own wr 9 W.heap.size wr.heap.size A2 n2 c2 (strsV (out_EvenOnes ss))) := by
          refine HO.out.congr ?_
          rw [E.out.1, List.take_of_length_le (by have := Hl.out; omega)]
        go_wp2
        go_ret2
        exact ⟨_, _, _, ret_slb E.out.2, E2.out, HB.out⟩
  · have hrow' : rowsB ss = false := by simpa using hrow
    have E : Hid (out_EvenOnes ss = [] ∧ ok_EO ss = false) := by
      unfold Hid out_EvenOnes ok_EO; rw [hrow']; simp
    clear hrow
    go_enter Try.func49, Try.ntmps49
    go_wp2_with (go_at_call 78; refine (l6Rows_any _ _ _ _ _ Hr.out Hz.out).mono ?_; rintro e w' ⟨rfl, d, rfl⟩)
    go_ret2
    refine ⟨none, 0, 0, ret_slb E.out.2, ?_, below_drewN' (Below.refl _ _) _⟩
    rw [E.out.1]; exact Own.nil _ _ _ _
set_option maxRecDepth 100000 in
set_option maxHeartbeats 2000000 in
theorem im_EvenOnes (A : Option Addr) (n c : Nat) (ss : List ByteArray) (W : World) (hr : Rd W A n (strsV ss)) (hz : ∀ s ∈ ss, s.size ≤ 1048576) (hl : ss.length ≤ 1048576) :
    Calls Try.prog 50 #[.slice A n c] W (RetSB 9 (strsV (out_EvenOnes ss)) (ok_EO ss) W) := by
  have Hr := Lib.hid hr
  have Hz := Lib.hid (max_of_small' hz)
  have Hl := Lib.hid hr.slen
  clear hr hz
  by_cases hrow : rowsB ss = true
  · have E : Hid (out_EvenOnes ss = ss.filter evS ∧ ok_EO ss = true) := by
      unfold Hid out_EvenOnes ok_EO; rw [hrow]; simp
    have hn : n ≤ 800 := by have := rowsB_len hrow; have := Hl.out; omega
    go_enter Try.func50, Try.ntmps50
    go_wp2_with (go_at_call 83; refine (GoodRows_any _ _ _ _ _ Hr.out Hz.out).mono ?_; rintro e w' ⟨rfl, rfl⟩)
    go_loopw [4, 13] (fun l i wr => ∃ (k : Nat) (A2 : Option Addr) (n2 c2 : Nat), i = .int .i64 k ∧ l = .slice A2 n2 c2 ∧ k ≤ n ∧ n2 ≤ k ∧ Hid (Own wr 9 W.heap.size wr.heap.size A2 n2 c2 (strsV ((ss.take k).filter evS))) ∧ Hid (Below W.heap.size W wr)) (fun _ i _ => n - (intOf i).toNat)
    case atStart => exact ⟨0, _, 0, 0, rfl, rfl, by omega, by omega, (own_empty _ 9).mono (by simp) (Nat.le_refl _), below_alloc _ _⟩
    case round =>
      obtain ⟨k, A2, n2, c2, rfl, rfl, hk, hn2, HO, HB⟩ := hrel
      by_cases hlt : k < n
      · obtain ⟨b, off, rfl, _, hc⟩ := (Hr.out.below HB.out).str hlt
        have hkl : k < ss.length := by have := Hl.out; omega
        have HS := Lib.hid (filter_step (f := evS) hkl)
        have hsm : ss[k].size ≤ maxLen := Hz.out _ (List.getElem_mem hkl)
        obtain ⟨s, hs⟩ : ∃ s, s = ss[k] := ⟨_, rfl⟩
        rw [← hs] at hc HS hsm
        have i1 : (k : Int) < (n : Int) := by omega
        clear hs
        by_cases hev : evenL (bs s) = true
        · go_wp2_with first
            | (go_at_call 84; refine (even_any _ _ hsm).mono ?_; rintro e w' ⟨rfl, m, rfl⟩)
            | (at_builtin; refine wpList_append1 (wr.drewN m) rfl (.tmp 19) (.tmp 21) 22 rfl 9 (.string ByteArray.empty) 16 Try.underlying22 info_str rfl W.heap.size A2 n2 c2 _ (.string s) rfl rfl rfl (HO.out.drewN m) (by omega) (by omega) HB.out.size ?_; intro A3 c3 w2 ho2 hw2 hsz2 hat2)
          have HO2 : Hid (Own w2 9 W.heap.size w2.heap.size A3 (n2 + 1) c3 (strsV ((ss.take (k + 1)).filter evS))) := by
            refine ho2.congr ?_
            rw [HS.out, if_pos (show evS s = true from hev), strsV_app ((ss.take k).filter evS), strsV_one]
          have HB2 : Hid (Below W.heap.size W w2) := (below_drewN' HB.out m).trans (hw2.below (Nat.le_refl _) HB.out.size)
          go_roundw
          case rel => exact ⟨k + 1, A3, n2 + 1, c3, by go_num, rfl, by omega, by omega, HO2.out, HB2.out⟩
          case measure => (simp [intOf] <;> omega)
        · have hev' : evenL (bs s) = false := by simpa using hev
          have HS2 : Hid ((ss.take (k + 1)).filter evS = (ss.take k).filter evS) := by
            unfold Hid
            rw [HS.out, if_neg (show ¬ evS s = true from hev), List.append_nil]
          clear hev HS
          go_wp2_with (go_at_call 84; refine (even_any _ _ hsm).mono ?_; rintro e w' ⟨rfl, m, rfl⟩)
          go_roundw
          case rel => exact ⟨k + 1, A2, n2, c2, by go_num, rfl, by omega, by omega, (HO.out.drewN m).congr (by rw [HS2.out]), below_drewN' HB.out m⟩
          case measure => (simp [intOf] <;> omega)
      · have E2 : Hid (Own wr 9 W.heap.size wr.heap.size A2 n2 c2 (strsV (out_EvenOnes ss))) := by
          refine HO.out.congr ?_
          rw [E.out.1, List.take_of_length_le (by have := Hl.out; omega)]
        go_wp2
        go_ret2
        exact ⟨_, _, _, ret_slb E.out.2, E2.out, HB.out⟩
  · have hrow' : rowsB ss = false := by simpa using hrow
    have E : Hid (out_EvenOnes ss = [] ∧ ok_EO ss = false) := by
      unfold Hid out_EvenOnes ok_EO; rw [hrow']; simp
    clear hrow
    go_enter Try.func50, Try.ntmps50
    go_wp2_with (go_at_call 83; refine (GoodRows_any _ _ _ _ _ Hr.out Hz.out).mono ?_; rintro e w' ⟨rfl, rfl⟩)
    go_ret2
    refine ⟨none, 0, 0, ret_slb E.out.2, ?_, Below.refl _ _⟩
    rw [E.out.1]; exact Own.nil _ _ _ _
end Go.Proofs.Ytllbakbhdfoadaa
