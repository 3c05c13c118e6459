/- The walks of the clone and the mirror of a list of strings. -/
import Derived.Test.YtpdmogbebahebaaWalkS
import Derived.Test.YtpdmogbebahebaaKit4
namespace Go.Proofs.Ytpdmogbebahebaa
open Go.RowKit
set_option linter.unusedVariables false

/-- a list with all its elements but the last one in reverse order behind it -/
def mirL {α : Type} (l : List α) : List α := l ++ l.dropLast.reverse
theorem mir_step {α : Type} {l : List α} {j : Nat} (hj : j + 1 < l.length) : l ++ (l.dropLast.reverse).take (l.length - 1 - j) = (l ++ (l.dropLast.reverse).take (l.length - 1 - (j + 1))) ++ [l[j]] := by
  have hl : l.length - 1 - (j + 1) < l.dropLast.reverse.length := by simp; omega
  have e : l.length - 1 - j = (l.length - 1 - (j + 1)) + 1 := by omega
  rw [e, List.take_succ_eq_append_getElem hl, ← List.append_assoc]
  congr 2
  rw [List.getElem_reverse, List.getElem_dropLast]
  congr 1
  simp; omega
set_option maxRecDepth 100000 in
set_option maxHeartbeats 1000000 in
theorem cloneS_any (A : Option Addr) (n c : Nat) (ss : List ByteArray) (w : World) (hn : n ≤ 4194304) (hr : Rd w A n (strsV ss)) :
    Calls Try.prog 88 #[.slice A n c] w (RetS 9 (strsV ss) w) := by
  have Hr := Lib.hid hr
  clear hr
  cases A with
  | none =>
    have h0 := Hr.out.none_ rfl
    subst h0
    have hs : ss = [] := List.eq_nil_of_length_eq_zero Hr.out.slen
    subst hs
    have hq := fun (W : World) => Lib.run_eql_slice_nil (P := Try.prog) W 32 9 none 0 c 0 0 Try.underlying32
    go_enter Try.func88, Try.ntmps88
    go_wp2
    go_ret
    exact ⟨_, _, _, rfl, Own.nil _ _ _ _, Below.refl _ _⟩
  | some ad =>
    have hq := fun (W : World) => Lib.run_eql_slice_nil (P := Try.prog) W 32 9 (some ad) n c 0 0 Try.underlying32
    go_enter Try.func88, Try.ntmps88
    go_wp2_with (at_builtin; refine wpList_appendN _ rfl (.tmp 5) (.tmp 6) 32 rfl 9 (.string ByteArray.empty) 16 Try.underlying32 info_str rfl w.heap.size (some ⟨w.heap.size, 0, none⟩) 0 0 [] rfl (own_empty w 9) (some ad) n c (strsV ss) rfl Hr.out.none_ (Hr.out.below (below_alloc _ _)) (strs_one ss) (by omega) (by omega) (by simp) ?_; intro A1 c1 w1 ho1 hw1 hsz1)
    go_ret
    refine ⟨A1, n, c1, rfl, by simpa using ho1, (below_alloc w _).trans (hw1.below (Nat.le_refl _) (by simp))⟩
set_option maxRecDepth 100000 in
set_option maxHeartbeats 1000000 in
theorem l1OwnS_any (A : Option Addr) (n c : Nat) (ss : List ByteArray) (w : World) (hn : n ≤ 4194304) (hr : Rd w A n (strsV ss)) :
    Calls Try.prog 87 #[.slice A n c] w (RetS 9 (strsV ss) w) := by
  have Hr := Lib.hid hr
  clear hr
  go_enter Try.func87, Try.ntmps87
  go_wp2_with (at_builtin; refine wpList_appendN _ rfl (.tmp 3) (.tmp 4) 32 rfl 9 (.string ByteArray.empty) 16 Try.underlying32 info_str rfl w.heap.size (some ⟨w.heap.size, 0, none⟩) 0 0 [] rfl (own_empty w 9) A n c (strsV ss) rfl Hr.out.none_ (Hr.out.below (below_alloc _ _)) (strs_one ss) (by omega) (by omega) (by simp) ?_; intro A1 c1 w1 ho1 hw1 hsz1)
  go_ret
  refine ⟨A1, n, c1, rfl, by simpa using ho1, (below_alloc w _).trans (hw1.below (Nat.le_refl _) (by simp))⟩
set_option maxRecDepth 100000 in
set_option maxHeartbeats 1000000 in
theorem mirrored_any (A : Option Addr) (n c : Nat) (ss : List ByteArray) (w : World) (hn : n ≤ 1048576) (hr : Rd w A n (strsV ss)) :
    Calls Try.prog 75 #[.slice A n c] w (RetS 9 (strsV (mirL ss)) w) := by
  have Hr := Lib.hid hr
  have Hl := Lib.hid hr.slen
  clear hr
  go_enter Try.func75, Try.ntmps75
  go_wp2_with (go_at_call 88; refine (cloneS_any A n c ss _ (by omega) Hr.out).mono ?_; rintro e w1 ⟨A1, n1, c1, rfl, ho1, hb1⟩)
  have hn1 : n1 = n := by rw [← ho1.rd.slen, Hl.out]
  subst hn1
  have HO1 := Lib.hid ho1
  have HB1 := Lib.hid hb1
  clear ho1 hb1
  go_loopw [3, 4] (fun l i wr => ∃ (q : Nat) (k : Int) (A2 : Option Addr) (n2 c2 : Nat), i = .int .i64 k ∧ l = .slice A2 n2 c2 ∧ -2 ≤ k ∧ k + 2 ≤ (n1 : Int) ∧ n2 ≤ 2097152 ∧ Hid ((n1 : Int) - 2 - k = q ∧ (q = 0 ∨ q < n1)) ∧ Hid (Own wr 9 w.heap.size wr.heap.size A2 n2 c2 (strsV (ss ++ (ss.dropLast.reverse).take q))) ∧ Hid (Below w.heap.size w wr)) (fun _ i _ => (intOf i + 1).toNat)
  case atStart => exact ⟨0, _, A1, n1, c1, rfl, rfl, by omega, by omega, by omega, ⟨by omega, .inl rfl⟩, HO1.out.congr (by simp), HB1.out⟩
  case round =>
    obtain ⟨q, k, A2, n2, c2, rfl, rfl, hk1, hk2, hn2, HQ, HO, HB⟩ := hrel
    by_cases hge : 0 ≤ k
    · obtain ⟨j, hj⟩ : ∃ j : Nat, k = (j : Int) := ⟨k.toNat, by omega⟩
      subst hj
      have hjn : j < n1 := by omega
      obtain ⟨b, off, rfl, _, hc⟩ := (Hr.out.below HB.out).str hjn
      have hjl : j < ss.length := by have := Hl.out; omega
      obtain ⟨s, hs⟩ : ∃ s, s = ss[j] := ⟨_, rfl⟩
      rw [← hs] at hc
      have hlen2 : n2 ≤ 2 * n1 := by
        have h1 := HO.out.rd.slen
        rw [List.length_append, List.length_take, List.length_reverse, List.length_dropLast, Hl.out] at h1
        omega
      have i1 : (j : Int) < (n1 : Int) := by omega
      have HS : Hid (ss ++ (ss.dropLast.reverse).take (q + 1) = (ss ++ (ss.dropLast.reverse).take q) ++ [s]) := by
        unfold Hid
        have hq := HQ.out.1
        have hl := Hl.out
        have := mir_step (l := ss) (j := j) (by omega)
        rw [show ss.length - 1 - j = q + 1 by omega, show ss.length - 1 - (j + 1) = q by omega, ← hs] at this
        exact this
      have hn2' : n2 + 1 ≤ 2097152 := by
        have h1 := HO.out.rd.slen
        have hq := HQ.out.1
        rw [List.length_append, List.length_take, List.length_reverse, List.length_dropLast, Hl.out] at h1
        omega
      clear hs
      go_wp2_with (at_builtin; refine wpList_append1 wr rfl (.tmp 14) (.tmp 19) 32 rfl 9 (.string ByteArray.empty) 16 Try.underlying32 info_str rfl w.heap.size A2 n2 c2 _ (.string s) rfl rfl rfl HO.out (by omega) (by omega) HB.out.size ?_; intro A3 c3 w2 ho2 hw2 hsz2 hat2)
      have HO2 : Hid (Own w2 9 w.heap.size w2.heap.size A3 (n2 + 1) c3 (strsV (ss ++ (ss.dropLast.reverse).take (q + 1)))) := by
        refine ho2.congr ?_
        rw [HS.out, strsV_app (ss ++ (ss.dropLast.reverse).take q), strsV_one]
      have HB2 : Hid (Below w.heap.size w w2) := HB.out.trans (hw2.below (Nat.le_refl _) HB.out.size)
      go_roundw
      case rel => exact ⟨q + 1, (j : Int) - 1, A3, n2 + 1, c3, val_i (by omega), rfl, by omega, by omega, by omega, ⟨by have := HQ.out.1; omega, .inr (by have := HQ.out.1; omega)⟩, HO2.out, HB2.out⟩
      case measure => (simp [intOf] <;> omega)
    · have hlt : k < 0 := by omega
      have E : Hid (Own wr 9 w.heap.size wr.heap.size A2 n2 c2 (strsV (mirL ss))) := by
        refine HO.out.congr ?_
        unfold mirL
        rw [List.take_of_length_le]
        have hq := HQ.out.1
        have hl := Hl.out
        simp; omega
      clear hge
      go_wp2
      go_ret
      exact ⟨_, _, _, rfl, E.out, HB.out⟩
set_option maxRecDepth 100000 in
set_option maxHeartbeats 1000000 in
theorem l3Mirror_any (A : Option Addr) (n c : Nat) (ss : List ByteArray) (w : World) (hn : n ≤ 1048576) (hr : Rd w A n (strsV ss)) :
    Calls Try.prog 74 #[.slice A n c] w (RetS 9 (strsV (mirL ss)) w) := by
  have Hr := Lib.hid hr
  have Hl := Lib.hid hr.slen
  clear hr
  go_enter Try.func74, Try.ntmps74
  go_wp2_with (go_at_call 87; refine (l1OwnS_any A n c ss _ (by omega) Hr.out).mono ?_; rintro e w1 ⟨A1, n1, c1, rfl, ho1, hb1⟩)
  have hn1 : n1 = n := by rw [← ho1.rd.slen, Hl.out]
  subst hn1
  have HO1 := Lib.hid ho1
  have HB1 := Lib.hid hb1
  clear ho1 hb1
  go_loopw [3, 4] (fun l i wr => ∃ (q : Nat) (k : Int) (A2 : Option Addr) (n2 c2 : Nat), i = .int .i64 k ∧ l = .slice A2 n2 c2 ∧ -2 ≤ k ∧ k + 2 ≤ (n1 : Int) ∧ n2 ≤ 2097152 ∧ Hid ((n1 : Int) - 2 - k = q ∧ (q = 0 ∨ q < n1)) ∧ Hid (Own wr 9 w.heap.size wr.heap.size A2 n2 c2 (strsV (ss ++ (ss.dropLast.reverse).take q))) ∧ Hid (Below w.heap.size w wr)) (fun _ i _ => (intOf i + 1).toNat)
  case atStart => exact ⟨0, _, A1, n1, c1, rfl, rfl, by omega, by omega, by omega, ⟨by omega, .inl rfl⟩, HO1.out.congr (by simp), HB1.out⟩
  case round =>
    obtain ⟨q, k, A2, n2, c2, rfl, rfl, hk1, hk2, hn2, HQ, HO, HB⟩ := hrel
    by_cases hge : 0 ≤ k
    · obtain ⟨j, hj⟩ : ∃ j : Nat, k = (j : Int) := ⟨k.toNat, by omega⟩
      subst hj
      have hjn : j < n1 := by omega
      obtain ⟨b, off, rfl, _, hc⟩ := (Hr.out.below HB.out).str hjn
      have hjl : j < ss.length := by have := Hl.out; omega
      obtain ⟨s, hs⟩ : ∃ s, s = ss[j] := ⟨_, rfl⟩
      rw [← hs] at hc
      have hlen2 : n2 ≤ 2 * n1 := by
        have h1 := HO.out.rd.slen
        rw [List.length_append, List.length_take, List.length_reverse, List.length_dropLast, Hl.out] at h1
        omega
      have i1 : (j : Int) < (n1 : Int) := by omega
      have HS : Hid (ss ++ (ss.dropLast.reverse).take (q + 1) = (ss ++ (ss.dropLast.reverse).take q) ++ [s]) := by
        unfold Hid
        have hq := HQ.out.1
        have hl := Hl.out
        have := mir_step (l := ss) (j := j) (by omega)
        rw [show ss.length - 1 - j = q + 1 by omega, show ss.length - 1 - (j + 1) = q by omega, ← hs] at this
        exact this
      have hn2' : n2 + 1 ≤ 2097152 := by
        have h1 := HO.out.rd.slen
        have hq := HQ.out.1
        rw [List.length_append, List.length_take, List.length_reverse, List.length_dropLast, Hl.out] at h1
        omega
      clear hs
      go_wp2_with (at_builtin; refine wpList_append1 wr rfl (.tmp 14) (.tmp 19) 32 rfl 9 (.string ByteArray.empty) 16 Try.underlying32 info_str rfl w.heap.size A2 n2 c2 _ (.string s) rfl rfl rfl HO.out (by omega) (by omega) HB.out.size ?_; intro A3 c3 w2 ho2 hw2 hsz2 hat2)
      have HO2 : Hid (Own w2 9 w.heap.size w2.heap.size A3 (n2 + 1) c3 (strsV (ss ++ (ss.dropLast.reverse).take (q + 1)))) := by
        refine ho2.congr ?_
        rw [HS.out, strsV_app (ss ++ (ss.dropLast.reverse).take q), strsV_one]
      have HB2 : Hid (Below w.heap.size w w2) := HB.out.trans (hw2.below (Nat.le_refl _) HB.out.size)
      go_roundw
      case rel => exact ⟨q + 1, (j : Int) - 1, A3, n2 + 1, c3, val_i (by omega), rfl, by omega, by omega, by omega, ⟨by have := HQ.out.1; omega, .inr (by have := HQ.out.1; omega)⟩, HO2.out, HB2.out⟩
      case measure => (simp [intOf] <;> omega)
    · have hlt : k < 0 := by omega
      have E : Hid (Own wr 9 w.heap.size wr.heap.size A2 n2 c2 (strsV (mirL ss))) := by
        refine HO.out.congr ?_
        unfold mirL
        rw [List.take_of_length_le]
        have hq := HQ.out.1
        have hl := Hl.out
        simp; omega
      clear hge
      go_wp2
      go_ret
      exact ⟨_, _, _, rfl, E.out, HB.out⟩
end Go.Proofs.Ytpdmogbebahebaa
