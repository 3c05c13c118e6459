/- LeadHead, of the reference and of the program: what each returns. -/
import Derived.Test.YtalpkcpikmpedaaWalkHd
namespace Go.Proofs.Ytalpkcpikmpedaa
open Go.RowKit
set_option linter.unusedVariables false

theorem Own.cap_ {w : World} {E : TypeId} {lo hi n c : Nat} {A : Option Addr} {xs : List Value} (h : Own w E lo hi A n c xs) : n ≤ c := by
  rcases h.1.2 with ⟨e, h0⟩ | ⟨g, cap, cur, e, _, _, h1, _⟩
  · omega
  · injection e with e1 e2 e3; omega
noncomputable def out_LeadHead (nm : ByteArray) (st : Int) (ss : List ByteArray) : ByteArray := if methB nm st ss = true then lhS st ss else { data := #[] }
set_option maxRecDepth 100000 in
set_option maxHeartbeats 1000000 in
theorem sp_LeadHead (nm : ByteArray) (st : Int) (A : Option Addr) (n c : Nat) (ss : List ByteArray) (W : World) (hs : nm.size ≤ 1048576) (hw : (Lit.int .i64 st).wf = true) (hnc : n ≤ c) (hr : Rd W A n (strsV ss)) (hz : ∀ s ∈ ss, s.size ≤ 1048576) (hl : ss.length ≤ 1048576) :
    Calls Try.prog 20 #[.agg #[.string nm, .int .i64 st, .slice A n c]] W fun e w' => e = .returned (.tuple #[.string (out_LeadHead nm st ss), .bool (methB nm st ss)]) ∧ Below W.heap.size W w' := by
  obtain ⟨b, hb⟩ : ∃ b, b = methB nm st ss := ⟨_, rfl⟩
  have HC : Hid (∀ W', Below W.heap.size W W' → Calls Try.prog 53 #[.agg #[.string nm, .int .i64 st, .slice A n c]] W' fun e w' => e = .returned (.bool b) ∧ Below W'.heap.size W' w') := fun W' h => by rw [hb]; exact l4Good_any nm st A n c ss W' (by omega) (hr.below h) (fun s hs => by have := hz s hs; omega)
  have HP : Hid (∀ W', Below W.heap.size W W' → b = true → Calls Try.prog 57 #[.agg #[.string nm, .int .i64 st, .slice A n c]] W' fun e w' => e = .returned (.string (lhS st ss)) ∧ Below W'.heap.size W' w') := fun W' h hbt => l4Head_any nm st A n c ss W' (by rw [← hb]; exact hbt) (hr.below h)
  have E : Hid (out_LeadHead nm st ss = if b = true then lhS st ss else { data := #[] }) := by unfold Hid out_LeadHead; rw [hb]
  rw [← hb]
  have Hbox := Lib.hid (box3 W 27 (.string nm) (.int .i64 st) (.slice A n c))
  clear hb hr hz
  obtain ⟨p, hp⟩ : ∃ p, p = lhS st ss := ⟨_, rfl⟩
  rw [← hp] at HP E
  clear hp
  cases b with
  | true =>
    go_enter Try.func20, Try.ntmps20
    go_wp2_with fail
    obtain ⟨B0, hB0⟩ : ∃ B, B = W.alloc (.cells #[.string nm, .int .i64 st, .slice A n c] 27) := ⟨_, rfl⟩
    rw [← hB0]
    have hbB : Below W.heap.size W B0 := by rw [hB0]; exact below_alloc _ _
    have hsB : W.heap.size < B0.heap.size := by rw [hB0]; simp
    have hcB := Hbox.out
    rw [← hB0] at hcB
    refine (HC.out _ hbB).mono ?_
    rintro e x1 ⟨rfl, hb1⟩
    have B1 : Below W.heap.size W x1 := hbB.trans (hb1.mono hbB.size)
    obtain ⟨k0, k1, k2⟩ := keep3 hb1 hsB hcB
    clear hcB hB0 hb1
    go_wp2_with fail
    refine (HP.out _ B1 (by first | trivial | rfl)).mono ?_
    rintro e x2 ⟨rfl, hb2⟩
    go_wp2
    go_ret2
    exact ⟨ret_sb (by rw [E.out]; simp), B1.trans (hb2.mono B1.size)⟩
  | false =>
    go_enter Try.func20, Try.ntmps20
    go_wp2_with fail
    refine (HC.out _ (below_alloc _ _)).mono ?_
    rintro e x1 ⟨rfl, hb1⟩
    go_wp2
    go_ret2
    exact ⟨ret_sb (by rw [E.out]; simp), (below_alloc W _).trans (hb1.mono (by simp))⟩
set_option maxRecDepth 100000 in
set_option maxHeartbeats 1000000 in
theorem im_LeadHead (nm : ByteArray) (st : Int) (A : Option Addr) (n c : Nat) (ss : List ByteArray) (W : World) (hs : nm.size ≤ 1048576) (hw : (Lit.int .i64 st).wf = true) (hnc : n ≤ c) (hr : Rd W A n (strsV ss)) (hz : ∀ s ∈ ss, s.size ≤ 1048576) (hl : ss.length ≤ 1048576) :
    Calls Try.prog 21 #[.agg #[.string nm, .int .i64 st, .slice A n c]] W fun e w' => e = .returned (.tuple #[.string (out_LeadHead nm st ss), .bool (methB nm st ss)]) ∧ Below W.heap.size W w' := by
  obtain ⟨b, hb⟩ : ∃ b, b = methB nm st ss := ⟨_, rfl⟩
  have HC : Hid (∀ W', Below W.heap.size W W' → Calls Try.prog 18 #[.agg #[.string nm, .int .i64 st, .slice A n c]] W' fun e w' => e = .returned (.bool b) ∧ Below W'.heap.size W' w') := fun W' h => by rw [hb]; exact GoodMethod_any nm st A n c ss W' (by omega) (hr.below h) (fun s hs => by have := hz s hs; omega)
  have HP : Hid (∀ W', Below W.heap.size W W' → b = true → Calls Try.prog 58 #[.agg #[.string nm, .int .i64 st, .slice A n c]] W' fun e w' => e = .returned (.string (lhS st ss)) ∧ Below W'.heap.size W' w') := fun W' h hbt => leadHead_any nm st A n c ss W' (by rw [← hb]; exact hbt) (hr.below h)
  have E : Hid (out_LeadHead nm st ss = if b = true then lhS st ss else { data := #[] }) := by unfold Hid out_LeadHead; rw [hb]
  rw [← hb]
  have Hbox := Lib.hid (box3 W 27 (.string nm) (.int .i64 st) (.slice A n c))
  clear hb hr hz
  obtain ⟨p, hp⟩ : ∃ p, p = lhS st ss := ⟨_, rfl⟩
  rw [← hp] at HP E
  clear hp
  cases b with
  | true =>
    go_enter Try.func21, Try.ntmps21
    go_wp2_with fail
    obtain ⟨B0, hB0⟩ : ∃ B, B = W.alloc (.cells #[.string nm, .int .i64 st, .slice A n c] 27) := ⟨_, rfl⟩
    rw [← hB0]
    have hbB : Below W.heap.size W B0 := by rw [hB0]; exact below_alloc _ _
    have hsB : W.heap.size < B0.heap.size := by rw [hB0]; simp
    have hcB := Hbox.out
    rw [← hB0] at hcB
    refine (HC.out _ hbB).mono ?_
    rintro e x1 ⟨rfl, hb1⟩
    have B1 : Below W.heap.size W x1 := hbB.trans (hb1.mono hbB.size)
    obtain ⟨k0, k1, k2⟩ := keep3 hb1 hsB hcB
    clear hcB hB0 hb1
    go_wp2_with fail
    refine (HP.out _ B1 (by first | trivial | rfl)).mono ?_
    rintro e x2 ⟨rfl, hb2⟩
    go_wp2
    go_ret2
    exact ⟨ret_sb (by rw [E.out]; simp), B1.trans (hb2.mono B1.size)⟩
  | false =>
    go_enter Try.func21, Try.ntmps21
    go_wp2_with fail
    refine (HC.out _ (below_alloc _ _)).mono ?_
    rintro e x1 ⟨rfl, hb1⟩
    go_wp2
    go_ret2
    exact ⟨ret_sb (by rw [E.out]; simp), (below_alloc W _).trans (hb1.mono (by simp))⟩
end Go.Proofs.Ytalpkcpikmpedaa
