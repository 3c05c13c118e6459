/- Lists made out of rows: the even ones, the products. -/
import Derived.Test.YtajmjfekddgelaaWalkG
import Derived.Test.YtajmjfekddgelaaWalkC
import Derived.Test.YtajmjfekddgelaaKit4
namespace Go.Proofs.Ytajmjfekddgelaa
open Go.RowKit
set_option linter.unusedVariables false

theorem max_of_small' {ss : List ByteArray} (h : ∀ s ∈ ss, s.size ≤ 1048576) : ∀ s ∈ ss, s.size ≤ maxLen := fun s hs => by have := h s hs; unfold maxLen; omega
def evS (s : ByteArray) : Bool := evenL (bs s)
theorem filter_step {α : Type} {f : α → Bool} {l : List α} {k : Nat} (hk : k < l.length) : (l.take (k + 1)).filter f = (l.take k).filter f ++ (if f l[k] = true then [l[k]] else []) := by
  rw [List.take_succ_eq_append_getElem hk, List.filter_append]
  congr 1
  by_cases h : f l[k] = true <;> simp [h]
theorem map_step {α β : Type} {f : α → β} {l : List α} {k : Nat} (hk : k < l.length) : (l.take (k + 1)).map f = (l.take k).map f ++ [f l[k]] := by
  rw [List.take_succ_eq_append_getElem hk, List.map_append]; rfl
def ok_EO (ss : List ByteArray) : Bool := rowsB ss
def out_EvenOnes (ss : List ByteArray) : List ByteArray := if ok_EO ss = true then ss.filter evS else []
theorem len_EvenOnes (ss : List ByteArray) (hn : ss.length ≤ 1048576) : (out_EvenOnes ss).length ≤ 4194304 := by
  unfold out_EvenOnes
  split
  · have := List.length_filter_le evS ss; omega
  · simp
def rowsOfB (m : Int) (ss : List ByteArray) : Bool := rowsB ss && (decide (ss.length = 0) || decide (((headS ss).size : Int) = m))
theorem rowsOf_each {m : Nat} {ss : List ByteArray} (h : rowsOfB m ss = true) : ∀ s ∈ ss, IsRow (bs s) ∧ s.size = m := by
  simp only [rowsOfB, Bool.and_eq_true, Bool.or_eq_true, decide_eq_true_eq, rowsB] at h
  intro s hs
  have := h.1.2 s hs
  rcases h.2 with h2 | h2
  · have := List.length_pos_of_mem hs; omega
  · exact ⟨this.1, by omega⟩
theorem rowsB_len {ss : List ByteArray} (h : rowsB ss = true) : ss.length ≤ 800 := by
  simp only [rowsB, decide_eq_true_eq] at h; exact h.1
def timS (a s : ByteArray) : ByteArray := mkS (timesL (bs a) (bs s))
def ok_LT (a : ByteArray) (ss : List ByteArray) : Bool := rowB a && rowsOfB a.size ss
def out_LeftTimes (a : ByteArray) (ss : List ByteArray) : List ByteArray := if ok_LT a ss = true then ss.map (timS a) else []
theorem len_LeftTimes (a : ByteArray) (ss : List ByteArray) (hn : ss.length ≤ 1048576) : (out_LeftTimes a ss).length ≤ 4194304 := by
  unfold out_LeftTimes
  split
  · rw [List.length_map]; omega
  · simp
set_option maxRecDepth 100000 in
set_option maxHeartbeats 1000000 in
theorem areRowsOf_any (m : Int) (A : Option Addr) (n c : Nat) (ss : List ByteArray) (w : World) (hr : Rd w A n (strsV ss)) (hz : ∀ s ∈ ss, s.size ≤ maxLen) :
    Calls Try.prog 42 #[.int .i64 m, .slice A n c] w fun e w' => e = .returned (.bool (rowsOfB m ss)) ∧ w = w' := by
  have Hr := Lib.hid hr
  have Hl := Lib.hid hr.slen
  have Hz := Lib.hid hz
  clear hr hz
  by_cases hrow : rowsB ss = true
  · by_cases h0 : n = 0
    · have E : Hid (rowsOfB m ss = true) := by
        have := Hl.out
        unfold Hid rowsOfB; rw [hrow, decide_eq_true (by omega)]; rfl
      subst h0
      go_enter Try.func42, Try.ntmps42
      go_wp2_with (go_at_call 28; refine (GoodRows_any _ _ _ _ _ Hr.out Hz.out).mono ?_; rintro e w' ⟨rfl, rfl⟩)
      go_ret
      exact ⟨ret_b E.out, rfl⟩
    · obtain ⟨b, off, rfl, _, hc⟩ := Hr.out.str (k := 0) (by omega)
      rw [Nat.add_zero, ← headS_get (by have := Hl.out; omega)] at hc
      obtain ⟨x, hx⟩ : ∃ x, x = headS ss := ⟨_, rfl⟩
      rw [← hx] at hc
      have i1 : (0 : Int) < (n : Int) := by omega
      have i2 : ((n : Int) == 0) = false := by simp; omega
      have E : Hid (rowsOfB m ss = ((x.size : Int) == m)) := by
        have := Hl.out
        unfold Hid rowsOfB; rw [hrow, decide_eq_false (by omega), ← hx]; by_cases h : (x.size : Int) = m <;> simp [h]
      clear hx h0
      go_enter Try.func42, Try.ntmps42
      go_wp2_with (go_at_call 28; refine (GoodRows_any _ _ _ _ _ Hr.out Hz.out).mono ?_; rintro e w' ⟨rfl, rfl⟩)
      go_ret
      exact ⟨ret_b E.out, rfl⟩
  · have hrow' : rowsB ss = false := by simpa using hrow
    have E : Hid (rowsOfB m ss = false) := by unfold Hid rowsOfB; rw [hrow']; rfl
    clear hrow
    go_enter Try.func42, Try.ntmps42
    go_wp2_with (go_at_call 28; refine (GoodRows_any _ _ _ _ _ Hr.out Hz.out).mono ?_; rintro e w' ⟨rfl, rfl⟩)
    go_ret
    exact ⟨ret_b E.out, rfl⟩
set_option maxRecDepth 100000 in
set_option maxHeartbeats 2000000 in
theorem l6Left_any (a : ByteArray) (A : Option Addr) (n c : Nat) (ss : List ByteArray) (W : World) (hn : n ≤ 800) (hr : Rd W A n (strsV ss)) (ha : IsRow (bs a)) (hs : ∀ s ∈ ss, IsRow (bs s) ∧ s.size = a.size) :
    Calls Try.prog 40 #[.string a, .slice A n c] W (RetS 9 (strsV (ss.map (timS a))) W) := by
  have Hr := Lib.hid hr
  have Hl := Lib.hid hr.slen
  have HA := Lib.hid ha
  have HH := Lib.hid hs
  clear hr ha hs
  go_enter Try.func40, Try.ntmps40
  go_wp2
  go_loopw [5, 10] (fun l i wr => ∃ (k : Nat) (A2 : Option Addr) (n2 c2 : Nat), i = .int .i64 k ∧ l = .slice A2 n2 c2 ∧ k ≤ n ∧ n2 ≤ k ∧ Hid (Own wr 9 W.heap.size wr.heap.size A2 n2 c2 (strsV ((ss.take k).map (timS a)))) ∧ Hid (Below W.heap.size W wr)) (fun _ i _ => n - (intOf i).toNat)
  case atStart => exact ⟨0, none, 0, 0, rfl, rfl, by omega, by omega, Own.nil _ _ _ _, Below.refl _ _⟩
  case round =>
    obtain ⟨k, A2, n2, c2, rfl, rfl, hk, hn2, HO, HB⟩ := hrel
    by_cases hlt : k < n
    · obtain ⟨b, off, rfl, _, hc⟩ := (Hr.out.below HB.out).str hlt
      have hkl : k < ss.length := by have := Hl.out; omega
      have HS := Lib.hid (map_step (f := timS a) hkl)
      have HR := Lib.hid (HH.out _ (List.getElem_mem hkl))
      obtain ⟨s, hs⟩ : ∃ s, s = ss[k] := ⟨_, rfl⟩
      rw [← hs] at hc HS HR
      have i1 : (k : Int) < (n : Int) := by omega
      clear hs
      go_wp2_with fail
      refine (l1Times_any _ _ _ HA.out HR.out.1 HR.out.2.symm).mono ?_
      rintro e w0 ⟨rfl, rfl⟩
      have HO0 : Hid (Own wr 9 W.heap.size wr.heap.size A2 n2 c2 (strsV ((ss.take k).map (timS a)))) := HO.out
      have HB0 : Hid (Below W.heap.size W wr) := HB.out
      obtain ⟨x, hx⟩ : ∃ x, x = timS a s := ⟨_, rfl⟩
      rw [show mkS (timesL (bs a) (bs s)) = x from hx.symm]
      have HX := Lib.hid hx
      clear hx
      go_wp2_with (at_builtin; refine wpList_append1 wr rfl (.tmp 14) (.tmp 18) 22 rfl 9 (.string ByteArray.empty) 16 Try.underlying22 info_str rfl W.heap.size A2 n2 c2 _ (.string x) rfl rfl rfl HO0.out (by omega) (by omega) HB0.out.size ?_; intro A3 c3 w2 ho2 hw2 hsz2 hat2)
      have HO2 : Hid (Own w2 9 W.heap.size w2.heap.size A3 (n2 + 1) c3 (strsV ((ss.take (k + 1)).map (timS a)))) := by
        refine ho2.congr ?_
        rw [HS.out, strsV_app ((ss.take k).map (timS a)), strsV_one, HX.out]
      have HB2 : Hid (Below W.heap.size W w2) := HB0.out.trans (hw2.below (Nat.le_refl _) HB0.out.size)
      go_roundw
      case rel => exact ⟨k + 1, A3, n2 + 1, c3, by go_num, rfl, by omega, by omega, HO2.out, HB2.out⟩
      case measure => (simp [intOf] <;> omega)
    · have E2 : Hid (Own wr 9 W.heap.size wr.heap.size A2 n2 c2 (strsV (ss.map (timS a)))) := by
        refine HO.out.congr ?_
        rw [List.take_of_length_le (by have := Hl.out; omega)]
      go_wp2
      go_ret
      exact ⟨_, _, _, rfl, E2.out, HB.out⟩
set_option maxRecDepth 100000 in
set_option maxHeartbeats 2000000 in
theorem leftTimes_any (a : ByteArray) (A : Option Addr) (n c : Nat) (ss : List ByteArray) (W : World) (hn : n ≤ 800) (hr : Rd W A n (strsV ss)) (ha : IsRow (bs a)) (hs : ∀ s ∈ ss, IsRow (bs s) ∧ s.size = a.size) :
    Calls Try.prog 44 #[.string a, .slice A n c] W (RetS 9 (strsV (ss.map (timS a))) W) := by
  have Hr := Lib.hid hr
  have Hl := Lib.hid hr.slen
  have HA := Lib.hid ha
  have HH := Lib.hid hs
  clear hr ha hs
  go_enter Try.func44, Try.ntmps44
  go_wp2
  go_loopw [5, 11] (fun l i wr => ∃ (k : Nat) (A2 : Option Addr) (n2 c2 : Nat), i = .int .i64 k ∧ l = .slice A2 n2 c2 ∧ k ≤ n ∧ n2 ≤ k ∧ Hid (Own wr 9 W.heap.size wr.heap.size A2 n2 c2 (strsV ((ss.take k).map (timS a)))) ∧ Hid (Below W.heap.size W wr)) (fun _ i _ => n - (intOf i).toNat)
  case atStart => exact ⟨0, _, 0, 0, rfl, rfl, by omega, by omega, own_empty _ 9, below_alloc _ _⟩
  case round =>
    obtain ⟨k, A2, n2, c2, rfl, rfl, hk, hn2, HO, HB⟩ := hrel
    by_cases hlt : k < n
    · obtain ⟨b, off, rfl, _, hc⟩ := (Hr.out.below HB.out).str hlt
      have hkl : k < ss.length := by have := Hl.out; omega
      have HS := Lib.hid (map_step (f := timS a) hkl)
      have HR := Lib.hid (HH.out _ (List.getElem_mem hkl))
      obtain ⟨s, hs⟩ : ∃ s, s = ss[k] := ⟨_, rfl⟩
      rw [← hs] at hc HS HR
      have i1 : (k : Int) < (n : Int) := by omega
      clear hs
      go_wp2_with fail
      refine (times_any _ _ _ HA.out HR.out.1 HR.out.2.symm).mono ?_
      rintro e w0 ⟨rfl, hb0⟩
      have HO0 : Hid (Own w0 9 W.heap.size w0.heap.size A2 n2 c2 (strsV ((ss.take k).map (timS a)))) := (HO.out.below hb0).mono (Nat.le_refl _) hb0.size
      have HB0 : Hid (Below W.heap.size W w0) := HB.out.trans (hb0.mono HB.out.size)
      clear hb0
      obtain ⟨x, hx⟩ : ∃ x, x = timS a s := ⟨_, rfl⟩
      rw [show mkS (timesL (bs a) (bs s)) = x from hx.symm]
      have HX := Lib.hid hx
      clear hx
      go_wp2_with (at_builtin; refine wpList_append1 w0 rfl (.tmp 15) (.tmp 19) 22 rfl 9 (.string ByteArray.empty) 16 Try.underlying22 info_str rfl W.heap.size A2 n2 c2 _ (.string x) rfl rfl rfl HO0.out (by omega) (by omega) HB0.out.size ?_; intro A3 c3 w2 ho2 hw2 hsz2 hat2)
      have HO2 : Hid (Own w2 9 W.heap.size w2.heap.size A3 (n2 + 1) c3 (strsV ((ss.take (k + 1)).map (timS a)))) := by
        refine ho2.congr ?_
        rw [HS.out, strsV_app ((ss.take k).map (timS a)), strsV_one, HX.out]
      have HB2 : Hid (Below W.heap.size W w2) := HB0.out.trans (hw2.below (Nat.le_refl _) HB0.out.size)
      go_roundw
      case rel => exact ⟨k + 1, A3, n2 + 1, c3, by go_num, rfl, by omega, by omega, HO2.out, HB2.out⟩
      case measure => (simp [intOf] <;> omega)
    · have E2 : Hid (Own wr 9 W.heap.size wr.heap.size A2 n2 c2 (strsV (ss.map (timS a)))) := by
        refine HO.out.congr ?_
        rw [List.take_of_length_le (by have := Hl.out; omega)]
      go_wp2
      go_ret
      exact ⟨_, _, _, rfl, E2.out, HB.out⟩
end Go.Proofs.Ytajmjfekddgelaa
