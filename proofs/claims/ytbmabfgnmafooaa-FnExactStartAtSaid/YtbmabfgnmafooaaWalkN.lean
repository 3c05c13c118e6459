/- The walks of the laws' helpers over a method by value. -/
import Derived.Test.YtbmabfgnmafooaaWalkS
import Derived.Test.YtbmabfgnmafooaaKit4
import Derived.Laws.Rows
import Derived.Lib.SmallJoins
namespace Go.Proofs.Ytbmabfgnmafooaa
open Go.RowKit
set_option linter.unusedVariables false

/-- a method as a value -/
def methV (nm : ByteArray) (st : Int) (A : Option Addr) (n c : Nat) : Value := .agg #[.string nm, .int .i64 st, .slice A n c]
def szM (nm : ByteArray) (ss : List ByteArray) (l : Int) : Int := if l - nm.size < 0 then -1 else if szL ss (l - nm.size) < 0 then -1 else szL ss (l - nm.size)
/-- what a call that hands back a method with its own list leaves -/
def RetM (nm : ByteArray) (st : Int) (ss : List ByteArray) (w : World) (e : Ending) (w' : World) : Prop :=
  ∃ A n c, e = .returned (.agg #[.string nm, .int .i64 st, .slice A n c]) ∧ Own w' 9 w.heap.size w'.heap.size A n c (strsV ss) ∧ Below w.heap.size w w'

theorem heap_last (w : World) (o : Obj) (k : Nat) (hk : k = w.heap.size) : (w.alloc o).heap[k]? = some o := by
  subst hk
  show (w.heap.push o)[w.heap.size]? = some o
  simp
theorem heap_past (w : World) (o : Obj) (k : Nat) (hk : k < w.heap.size) : (w.alloc o).heap[k]? = w.heap[k]? := Below.heap_alloc _ _ _ hk
set_option maxRecDepth 100000 in
set_option maxHeartbeats 1000000 in
theorem szMethod_any (nm : ByteArray) (st : Int) (A : Option Addr) (n c : Nat) (ss : List ByteArray) (l : Int) (w : World) (hl : l ≤ 1048576) (h0 : 0 ≤ l) (hm : nm.size ≤ maxLen) (hr : Rd w A n (strsV ss)) (hz : ∀ s ∈ ss, s.size ≤ maxLen) :
    Calls Try.prog 14 #[.agg #[.string nm, .int .i64 st, .slice A n c], .int .i64 l] w fun e w' => e = .returned (.int .i64 (szM nm ss l)) ∧ Below w.heap.size w w' := by
  have Hr := Lib.hid hr
  have Hz := Lib.hid hz
  unfold maxLen at hm
  clear hr hz
  by_cases h1 : l - (nm.size : Int) < 0
  · have E : Hid (szM nm ss l = -1) := by unfold Hid szM; rw [if_pos h1]
    go_enter Try.func14, Try.ntmps14
    go_wp2
    go_ret
    exact ⟨ret_i E.out, below_alloc _ _⟩
  · obtain ⟨k, hk⟩ : ∃ k : Int, k = l - (nm.size : Int) := ⟨_, rfl⟩
    have k0 : 0 ≤ k := by omega
    have HC : Hid (∀ W, Rd W A n (strsV ss) → Calls Try.prog 50 #[.slice A n c, .int .i64 k] W fun e w' => e = .returned (.int .i64 (szL ss k)) ∧ W = w') := fun W h => szStringS_any A n c ss k W (by omega) (by omega) h Hz.out
    have E0 : szM nm ss l = if szL ss k < 0 then -1 else szL ss k := by unfold szM; rw [if_neg h1, hk]
    obtain ⟨q, hq⟩ : ∃ q, q = szL ss k := ⟨_, rfl⟩
    rw [← hq] at HC E0
    have hk' : l - (nm.size : Int) = k := hk.symm
    clear hq hk h1
    by_cases hneg : q < 0
    · have E : Hid (szM nm ss l = -1) := by unfold Hid; rw [E0, if_pos hneg]
      clear E0
      go_enter Try.func14, Try.ntmps14
      go_wp2_with (go_at_call 50; (try rw [hk']); refine (HC.out _ (Hr.out.below (below_alloc _ _))).mono ?_; rintro e w' ⟨rfl, rfl⟩)
      go_ret
      exact ⟨ret_i E.out, below_alloc _ _⟩
    · have E : Hid (szM nm ss l = q) := by unfold Hid; rw [E0, if_neg hneg]
      clear E0
      go_enter Try.func14, Try.ntmps14
      go_wp2_with (go_at_call 50; (try rw [hk']); refine (HC.out _ (Hr.out.below (below_alloc _ _))).mono ?_; rintro e w' ⟨rfl, rfl⟩)
      go_ret
      exact ⟨ret_i E.out, below_alloc _ _⟩
set_option maxRecDepth 100000 in
set_option maxHeartbeats 1000000 in
theorem toMethod_any (nm : ByteArray) (st : Int) (A : Option Addr) (n c : Nat) (ss : List ByteArray) (w : World) (hn : n ≤ 4294967296) (hr : Rd w A n (strsV ss)) :
    Calls Try.prog 16 #[.agg #[.string nm, .int .i64 st, .slice A n c]] w (RetM nm st ss w) := by
  have HC : Hid (∀ W, Below w.heap.size w W → Calls Try.prog 52 #[.slice A n c] W (RetS 9 (strsV ss) W)) := fun W h => toStringS_any A n c ss W hn (hr.below h)
  clear hr
  go_enter Try.func16, Try.ntmps16
  go_wp2_with fail
  obtain ⟨W0, hW0⟩ : ∃ W0, W0 = ((w.alloc (.cells #[.string nm, .int .i64 st, .slice A n c] 24)).alloc (.cells #[.string { data := #[] }, .int .i64 0, .slice none 0 0] 27)).alloc (.cells #[.string nm, .int .i64 st, .slice none 0 0] 27) := ⟨_, rfl⟩
  rw [← hW0]
  have hbW : Below w.heap.size w W0 := by rw [hW0]; exact ((below_alloc w _).alloc (by simp) _).alloc (by simp; omega) _
  have hsW : W0.heap.size = w.heap.size + 1 + 1 + 1 := by rw [hW0]; simp
  refine (HC.out W0 hbW).mono ?_
  rintro e w1 ⟨A1, n1, c1, rfl, ho1, hb1⟩
  have hbk2 : w1.heap[w.heap.size + 1]? = some (.cells #[.string { data := #[] }, .int .i64 0, .slice none 0 0] 27 (0, 0)) := (hb1.block _ (by omega)).trans (by rw [hW0]; exact (heap_past _ _ _ (by simp)).trans (heap_last _ _ _ (by simp)))
  have hbk3 : w1.heap[w.heap.size + 1 + 1]? = some (.cells #[.string nm, .int .i64 st, .slice none 0 0] 27 (0, 0)) := (hb1.block _ (by omega)).trans (by rw [hW0]; exact heap_last _ _ _ (by simp))
  have a0 : w1.cell? ⟨w.heap.size + 1, 0, none⟩ = some (.string { data := #[] }) := by simp [World.cell?, hbk2]
  have a1 : w1.cell? ⟨w.heap.size + 1, 1, none⟩ = some (.int .i64 0) := by simp [World.cell?, hbk2]
  have a2 : w1.cell? ⟨w.heap.size + 1, 2, none⟩ = some (.slice none 0 0) := by simp [World.cell?, hbk2]
  have b0 : w1.cell? ⟨w.heap.size + 1 + 1, 0, none⟩ = some (.string nm) := by simp [World.cell?, hbk3]
  have b1 : w1.cell? ⟨w.heap.size + 1 + 1, 1, none⟩ = some (.int .i64 st) := by simp [World.cell?, hbk3]
  have b2 : w1.cell? ⟨w.heap.size + 1 + 1, 2, none⟩ = some (.slice none 0 0) := by simp [World.cell?, hbk3]
  have fa0 : w1.frozen? ⟨w.heap.size + 1, 0, none⟩ = false := by simp [World.frozen?, hbk2]
  have fa1 : w1.frozen? ⟨w.heap.size + 1, 1, none⟩ = false := by simp [World.frozen?, hbk2]
  have fa2 : w1.frozen? ⟨w.heap.size + 1, 2, none⟩ = false := by simp [World.frozen?, hbk2]
  have fb2 : w1.frozen? ⟨w.heap.size + 1 + 1, 2, none⟩ = false := by simp [World.frozen?, hbk3]
  have hs1 := hb1.size
  have HF : Hid (((((w1.setCell ⟨w.heap.size + 1 + 1, 2, none⟩ (.slice A1 n1 c1)).setCell ⟨w.heap.size + 1, 0, none⟩ (.string nm)).setCell ⟨w.heap.size + 1, 1, none⟩ (.int .i64 st)).setCell ⟨w.heap.size + 1, 2, none⟩ (.slice A1 n1 c1)).heap[w.heap.size + 1]? = some (.cells #[.string nm, .int .i64 st, .slice A1 n1 c1] 27 (0, 0))) := by
    have h0 : (w1.setCell ⟨w.heap.size + 1 + 1, 2, none⟩ (.slice A1 n1 c1)).heap[w.heap.size + 1]? = some (.cells #[.string { data := #[] }, .int .i64 0, .slice none 0 0] 27 (0, 0)) :=
      ((Wr.setCell (lo := w.heap.size + 1 + 1) (hi := w.heap.size + 1 + 1 + 1) ⟨w.heap.size + 1 + 1, 2, none⟩ ⟨Nat.le_refl _, Nat.lt_succ_self _⟩ (.slice A1 n1 c1) (Wr.refl _ _ w1)).block _ (by omega) (.inl (Nat.lt_succ_self _))).trans hbk2
    exact Joins.block_setCell (Joins.block_setCell (Joins.block_setCell h0 _) _) _
  have HW : Hid (Wr (w.heap.size + 1) (w.heap.size + 1 + 1 + 1) w1 ((((w1.setCell ⟨w.heap.size + 1 + 1, 2, none⟩ (.slice A1 n1 c1)).setCell ⟨w.heap.size + 1, 0, none⟩ (.string nm)).setCell ⟨w.heap.size + 1, 1, none⟩ (.int .i64 st)).setCell ⟨w.heap.size + 1, 2, none⟩ (.slice A1 n1 c1))) := by
    unfold Hid
    refine Wr.setCell _ ?_ _ (Wr.setCell _ ?_ _ (Wr.setCell _ ?_ _ (Wr.setCell _ ?_ _ (Wr.refl _ _ w1))))
    · show w.heap.size + 1 ≤ w.heap.size + 1 ∧ w.heap.size + 1 < w.heap.size + 1 + 1 + 1; omega
    · show w.heap.size + 1 ≤ w.heap.size + 1 ∧ w.heap.size + 1 < w.heap.size + 1 + 1 + 1; omega
    · show w.heap.size + 1 ≤ w.heap.size + 1 ∧ w.heap.size + 1 < w.heap.size + 1 + 1 + 1; omega
    · show w.heap.size + 1 ≤ w.heap.size + 1 + 1 ∧ w.heap.size + 1 + 1 < w.heap.size + 1 + 1 + 1; omega
  have HO := Lib.hid ho1
  have HB : Hid (Below w.heap.size w w1) := hbW.trans (hb1.mono hbW.size)
  have HS1 : Hid (W0.heap.size = w.heap.size + 1 + 1 + 1 ∧ W0.heap.size ≤ w1.heap.size) := ⟨hsW, hb1.size⟩
  clear hbk2 hbk3 ho1 hb1 hbW hW0 hs1 hsW
  go_wp2
  refine bodyPost_ret (results_cell_row rfl _ _ (w.heap.size + 1) 27 _ (0, 0) _ rfl HF.out Try.underlying27 rfl (by kernel_rfl)) rfl ?_
  have hs := HS1.out
  refine ⟨A1, n1, c1, rfl, ((HO.out.wr HW.out (.inr (by omega))).mono (by omega) HW.out.size), HB.out.trans (HW.out.below (by omega) (by omega))⟩
set_option maxRecDepth 100000 in
set_option maxHeartbeats 1000000 in
theorem eqMethod_eq (nm : ByteArray) (st : Int) (A B : Option Addr) (n m c c2 : Nat) (ss : List ByteArray) (w : World) (hn : n ≤ 4294967296) (hr : Rd w A n (strsV ss)) (hr2 : Rd w B m (strsV ss)) :
    Calls Try.prog 18 #[.agg #[.string nm, .int .i64 st, .slice A n c], .agg #[.string nm, .int .i64 st, .slice B m c2]] w fun e w' => e = .returned (.bool true) ∧ Below w.heap.size w w' := by
  have HC : Hid (∀ W, Below w.heap.size w W → Calls Try.prog 29 #[.slice A n c, .slice B m c2] W fun e w' => e = .returned (.bool true) ∧ Below W.heap.size W w') := fun W h => eqStringS_eq A B n m c c2 ss W (hr.below h) (hr2.below h)
  clear hr hr2
  go_enter Try.func18, Try.ntmps18
  go_wp2_with fail
  refine (HC.out _ ((below_alloc w _).alloc (by simp) _)).mono ?_
  rintro e w1 ⟨rfl, hb1⟩
  have HB : Hid (Below w.heap.size w w1) := ((below_alloc w _).alloc (by simp) _).trans (hb1.mono (by simp; omega))
  clear hb1
  go_wp2
  go_ret
  exact ⟨rfl, HB.out⟩
end Go.Proofs.Ytbmabfgnmafooaa
