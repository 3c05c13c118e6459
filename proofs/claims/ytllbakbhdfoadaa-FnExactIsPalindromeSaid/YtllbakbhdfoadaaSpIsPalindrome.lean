/- IsPalindrome, of the reference and of the program: what each returns. -/
import Derived.Test.YtllbakbhdfoadaaWalkY
import Derived.Test.YtllbakbhdfoadaaOpenM
namespace Go.Proofs.Ytllbakbhdfoadaa
open Go.RowKit
set_option linter.unusedVariables false

theorem Own.cap_ {w : World} {E : TypeId} {lo hi n c : Nat} {A : Option Addr} {xs : List Value} (h : Own w E lo hi A n c xs) : n ≤ c := by
  rcases h.1.2 with ⟨e, h0⟩ | ⟨g, cap, cur, e, _, _, h1, _⟩
  · omega
  · injection e with e1 e2 e3; omega
theorem ret_bb2 {a b x y : Bool} (h : a = x) (h2 : b = y) : Ending.returned (.tuple #[.bool x, .bool y]) = .returned (.tuple #[.bool a, .bool b]) := by rw [h, h2]
noncomputable def out_IP (nm : ByteArray) (st : Int) (ss : List ByteArray) : Bool := methB nm st ss && palB (ss.length - 1) ss
theorem meth_len {nm : ByteArray} {st : Int} {ss : List ByteArray} (h : methB nm st ss = true) : 1 ≤ ss.length ∧ ss.length ≤ 40 := by
  unfold methB at h
  rw [Bool.and_eq_true] at h
  have := of_cb h.2
  exact ⟨this.1, this.2.1⟩
set_option maxRecDepth 100000 in
set_option maxHeartbeats 1000000 in
theorem sp_IsPalindrome (nm : ByteArray) (st : Int) (A : Option Addr) (n c : Nat) (ss : List ByteArray) (W : World) (hs : nm.size ≤ 1048576) (hw : (Lit.int .i64 st).wf = true) (hnc : n ≤ c) (hr : Rd W A n (strsV ss)) (hz : ∀ s ∈ ss, s.size ≤ 1048576) (hl : ss.length ≤ 1048576) :
    Calls Try.prog 20 #[.agg #[.string nm, .int .i64 st, .slice A n c]] W fun e w' => e = .returned (.tuple #[.bool (out_IP nm st ss), .bool (methB nm st ss)]) ∧ Below W.heap.size W w' := by
  have hln := hr.slen
  obtain ⟨b, hb⟩ : ∃ b, b = methB nm st ss := ⟨_, rfl⟩
  have HC : Hid (∀ W', Below W.heap.size W W' → Calls Try.prog 60 #[.agg #[.string nm, .int .i64 st, .slice A n c]] W' fun e w' => e = .returned (.bool b) ∧ Below W'.heap.size W' w') := fun W' h => by rw [hb]; exact l4Good_any nm st A n c ss W' (by omega) (hr.below h) (fun s hs => by have := hz s hs; omega)
  have HP : Hid (∀ W', Below W.heap.size W W' → b = true → Calls Try.prog 61 #[.agg #[.string nm, .int .i64 st, .slice A n c]] W' fun e w' => e = .returned (.bool (palB (ss.length - 1) ss)) ∧ Below W'.heap.size W' w') := fun W' h hbt => l4Palindrome_any nm st A n c _ ss W' (by have := meth_len (nm := nm) (st := st) (ss := ss) (by rw [← hb]; exact hbt); omega) (by omega) (hr.below h)
  have E : Hid (out_IP nm st ss = (b && palB (ss.length - 1) ss)) := by unfold Hid out_IP; rw [hb]
  have Hb := Lib.hid hb
  rw [← hb]
  have hbox := box3 W 27 (.string nm) (.int .i64 st) (.slice A n c)
  have Hbox := Lib.hid hbox
  clear hb hbox hr hz
  obtain ⟨p, hp⟩ : ∃ p, p = palB (ss.length - 1) ss := ⟨_, rfl⟩
  rw [← hp] at HP E
  clear hp
  cases b with
  | true =>
    go_enter Try.func20, Try.ntmps20
    go_wp2_with fail
    obtain ⟨B0, hB0⟩ : ∃ B, B = W.alloc (.cells #[.string nm, .int .i64 st, .slice A n c] 27) := ⟨_, rfl⟩
    rw [← hB0]
    have hbB : Below W.heap.size W B0 := by rw [hB0]; exact below_alloc _ _
    have hsB : W.heap.size < B0.heap.size := by rw [hB0]; simp
    have hcB := Hbox.out
    rw [← hB0] at hcB
    refine (HC.out _ hbB).mono ?_
    rintro e x1 ⟨rfl, hb1⟩
    have B1 : Below W.heap.size W x1 := hbB.trans (hb1.mono hbB.size)
    obtain ⟨k0, k1, k2⟩ := keep3 hb1 hsB hcB
    clear hcB hB0 hb1
    go_wp2_with fail
    refine (HP.out _ B1 (by first | trivial | rfl)).mono ?_
    rintro e x2 ⟨rfl, hb2⟩
    go_wp2
    go_ret2
    exact ⟨ret_bb2 (by rw [E.out]; simp) rfl, B1.trans (hb2.mono B1.size)⟩
  | false =>
    go_enter Try.func20, Try.ntmps20
    go_wp2_with fail
    refine (HC.out _ (below_alloc _ _)).mono ?_
    rintro e x1 ⟨rfl, hb1⟩
    go_wp2
    go_ret2
    exact ⟨ret_bb2 (by rw [E.out]; simp) rfl, (below_alloc W _).trans (hb1.mono (by simp))⟩
set_option maxRecDepth 100000 in
set_option maxHeartbeats 1000000 in
theorem im_IsPalindrome (nm : ByteArray) (st : Int) (A : Option Addr) (n c : Nat) (ss : List ByteArray) (W : World) (hs : nm.size ≤ 1048576) (hw : (Lit.int .i64 st).wf = true) (hnc : n ≤ c) (hr : Rd W A n (strsV ss)) (hz : ∀ s ∈ ss, s.size ≤ 1048576) (hl : ss.length ≤ 1048576) :
    Calls Try.prog 21 #[.agg #[.string nm, .int .i64 st, .slice A n c]] W fun e w' => e = .returned (.tuple #[.bool (out_IP nm st ss), .bool (methB nm st ss)]) ∧ Below W.heap.size W w' := by
  have hln := hr.slen
  obtain ⟨b, hb⟩ : ∃ b, b = methB nm st ss := ⟨_, rfl⟩
  have HC : Hid (∀ W', Below W.heap.size W W' → Calls Try.prog 62 #[.agg #[.string nm, .int .i64 st, .slice A n c]] W' fun e w' => e = .returned (.bool b) ∧ Below W'.heap.size W' w') := fun W' h => by rw [hb]; exact GoodMethod_any nm st A n c ss W' (by omega) (hr.below h) (fun s hs => by have := hz s hs; omega)
  have HP : Hid (∀ W', Below W.heap.size W W' → b = true → Calls Try.prog 63 #[.agg #[.string nm, .int .i64 st, .slice A n c]] W' fun e w' => e = .returned (.bool (palB (ss.length - 1) ss)) ∧ Below W'.heap.size W' w') := fun W' h hbt => palindrome_any nm st A n c _ ss W' (by have := meth_len (nm := nm) (st := st) (ss := ss) (by rw [← hb]; exact hbt); omega) (by omega) hnc (hr.below h)
  have E : Hid (out_IP nm st ss = (b && palB (ss.length - 1) ss)) := by unfold Hid out_IP; rw [hb]
  have Hb := Lib.hid hb
  rw [← hb]
  have hbox := box3 W 27 (.string nm) (.int .i64 st) (.slice A n c)
  have Hbox := Lib.hid hbox
  clear hb hbox hr hz
  obtain ⟨p, hp⟩ : ∃ p, p = palB (ss.length - 1) ss := ⟨_, rfl⟩
  rw [← hp] at HP E
  clear hp
  cases b with
  | true =>
    go_enter Try.func21, Try.ntmps21
    go_wp2_with fail
    obtain ⟨B0, hB0⟩ : ∃ B, B = W.alloc (.cells #[.string nm, .int .i64 st, .slice A n c] 27) := ⟨_, rfl⟩
    rw [← hB0]
    have hbB : Below W.heap.size W B0 := by rw [hB0]; exact below_alloc _ _
    have hsB : W.heap.size < B0.heap.size := by rw [hB0]; simp
    have hcB := Hbox.out
    rw [← hB0] at hcB
    refine (HC.out _ hbB).mono ?_
    rintro e x1 ⟨rfl, hb1⟩
    have B1 : Below W.heap.size W x1 := hbB.trans (hb1.mono hbB.size)
    obtain ⟨k0, k1, k2⟩ := keep3 hb1 hsB hcB
    clear hcB hB0 hb1
    go_wp2_with fail
    refine (HP.out _ B1 (by first | trivial | rfl)).mono ?_
    rintro e x2 ⟨rfl, hb2⟩
    go_wp2
    go_ret2
    exact ⟨ret_bb2 (by rw [E.out]; simp) rfl, B1.trans (hb2.mono B1.size)⟩
  | false =>
    go_enter Try.func21, Try.ntmps21
    go_wp2_with fail
    refine (HC.out _ (below_alloc _ _)).mono ?_
    rintro e x1 ⟨rfl, hb1⟩
    go_wp2
    go_ret2
    exact ⟨ret_bb2 (by rw [E.out]; simp) rfl, (below_alloc W _).trans (hb1.mono (by simp))⟩
end Go.Proofs.Ytllbakbhdfoadaa
