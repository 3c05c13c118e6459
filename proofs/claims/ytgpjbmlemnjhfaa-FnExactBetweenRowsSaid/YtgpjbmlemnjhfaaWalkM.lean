/- The walks of the clone and the mirror of a list of strings. -/
import Derived.Test.YtgpjbmlemnjhfaaWalkS
import Derived.Test.YtgpjbmlemnjhfaaKit4
namespace Go.Proofs.Ytgpjbmlemnjhfaa
open Go.RowKit
set_option linter.unusedVariables false

/-- a list with all its elements but the last one in reverse order behind it -/
def mirL {α : Type} (l : List α) : List α := l ++ l.dropLast.reverse
theorem mir_step {α : Type} {l : List α} {j : Nat} (hj : j + 1 < l.length) : l ++ (l.dropLast.reverse).take (l.length - 1 - j) = (l ++ (l.dropLast.reverse).take (l.length - 1 - (j + 1))) ++ [l[j]] := by
  have hl : l.length - 1 - (j + 1) < l.dropLast.reverse.length := by simp; omega
  have e : l.length - 1 - j = (l.length - 1 - (j + 1)) + 1 := by omega
  rw [e, List.take_succ_eq_append_getElem hl, ← List.append_assoc]
  congr 2
  rw [List.getElem_reverse, List.getElem_dropLast]
  congr 1
  simp; omega
set_option maxRecDepth 100000 in
set_option maxHeartbeats 1000000 in
theorem cloneS_any (A : Option Addr) (n c : Nat) (ss : List ByteArray) (w : World) (hn : n ≤ 4194304) (hr : Rd w A n (strsV ss)) :
    Calls Try.prog 80 #[.slice A n c] w (RetS 9 (strsV ss) w) := by
  have Hr := Lib.hid hr
  clear hr
  cases A with
  | none =>
    have h0 := Hr.out.none_ rfl
    subst h0
    have hs : ss = [] := List.eq_nil_of_length_eq_zero Hr.out.slen
    subst hs
    have hq := fun (W : World) => Lib.run_eql_slice_nil (P := Try.prog) W 28 9 none 0 c 0 0 Try.underlying28
    go_enter Try.func80, Try.ntmps80
    go_wp2
    go_ret
    exact ⟨_, _, _, rfl, Own.nil _ _ _ _, Below.refl _ _⟩
  | some ad =>
    have hq := fun (W : World) => Lib.run_eql_slice_nil (P := Try.prog) W 28 9 (some ad) n c 0 0 Try.underlying28
    go_enter Try.func80, Try.ntmps80
    go_wp2_with (at_builtin; refine wpList_appendN _ rfl (.tmp 5) (.tmp 6) 28 rfl 9 (.string ByteArray.empty) 16 Try.underlying28 info_str rfl w.heap.size (some ⟨w.heap.size, 0, none⟩) 0 0 [] rfl (own_empty w 9) (some ad) n c (strsV ss) rfl Hr.out.none_ (Hr.out.below (below_alloc _ _)) (strs_one ss) (by omega) (by omega) (by simp) ?_; intro A1 c1 w1 ho1 hw1 hsz1)
    go_ret
    refine ⟨A1, n, c1, rfl, by simpa using ho1, (below_alloc w _).trans (hw1.below (Nat.le_refl _) (by simp))⟩
set_option maxRecDepth 100000 in
set_option maxHeartbeats 1000000 in
theorem l1OwnS_any (A : Option Addr) (n c : Nat) (ss : List ByteArray) (w : World) (hn : n ≤ 4194304) (hr : Rd w A n (strsV ss)) :
    Calls Try.prog 77 #[.slice A n c] w (RetS 9 (strsV ss) w) := by
  have Hr := Lib.hid hr
  clear hr
  go_enter Try.func77, Try.ntmps77
  go_wp2_with (at_builtin; refine wpList_appendN _ rfl (.tmp 3) (.tmp 4) 28 rfl 9 (.string ByteArray.empty) 16 Try.underlying28 info_str rfl w.heap.size (some ⟨w.heap.size, 0, none⟩) 0 0 [] rfl (own_empty w 9) A n c (strsV ss) rfl Hr.out.none_ (Hr.out.below (below_alloc _ _)) (strs_one ss) (by omega) (by omega) (by simp) ?_; intro A1 c1 w1 ho1 hw1 hsz1)
  go_ret
  refine ⟨A1, n, c1, rfl, by simpa using ho1, (below_alloc w _).trans (hw1.below (Nat.le_refl _) (by simp))⟩
end Go.Proofs.Ytgpjbmlemnjhfaa
