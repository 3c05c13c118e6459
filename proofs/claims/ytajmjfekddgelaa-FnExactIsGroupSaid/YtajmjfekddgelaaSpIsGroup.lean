/- IsGroup, of the reference and of the program: what each returns. -/
import Derived.Test.YtajmjfekddgelaaWalkGr
import Derived.Test.YtajmjfekddgelaaWalkGs
import Derived.BigQuiet
namespace Go.Proofs.Ytajmjfekddgelaa
open Go.RowKit Go.Maps
set_option linter.unusedVariables false

theorem ret_bb3 {a b x y : Bool} (h : a = x) (h2 : b = y) : Ending.returned (.tuple #[.bool x, .bool y]) = .returned (.tuple #[.bool a, .bool b]) := by rw [h, h2]
def ok_IG (ss : List ByteArray) : Bool := incB ss && rowsB ss
noncomputable def out_IG (ss : List ByteArray) : Bool := ok_IG ss && grpB ss
set_option maxRecDepth 100000 in
set_option maxHeartbeats 2000000 in
theorem im_IsGroup (A : Option Addr) (n c : Nat) (ss : List ByteArray) (W : World) (hr : Rd W A n (strsV ss)) (hz : ∀ s ∈ ss, s.size ≤ 1048576) (hl : ss.length ≤ 1048576) :
    Calls Try.prog 23 #[.slice A n c] W fun e w' => e = .returned (.tuple #[.bool (out_IG ss), .bool (ok_IG ss)]) ∧ Below W.heap.size W w' := by
  have hzm : ∀ s ∈ ss, s.size ≤ maxLen := fun s hs => by have := hz s hs; unfold maxLen; omega
  have HA : Hid (∀ W', Rd W' A n (strsV ss) → Calls Try.prog 28 #[.slice A n c] W' fun e w' => e = .returned (.bool (rowsB ss)) ∧ W' = w') := fun W' h => GoodRows_any A n c ss W' h hzm
  have HI : Hid (∀ W', Rd W' A n (strsV ss) → Calls Try.prog 48 #[.slice A n c] W' fun e w' => e = .returned (.bool (incB ss)) ∧ ∃ d, w' = W'.drewN d) := fun W' h => increasing_any A n c ss W' h
  have HT : Hid (rowsB ss = true → ∀ W', Rd W' A n (strsV ss) → Calls Try.prog 43 #[.slice A n c] W' fun e w' => e = .returned (.bool (incB ss && grpB ss)) ∧ Below W'.heap.size W' w') := fun h1 W' h => isGroup_any A n c ss W' h h1
  have Hr := Lib.hid hr
  obtain ⟨ra, hra⟩ : ∃ r, r = rowsB ss := ⟨_, rfl⟩
  obtain ⟨rb, hrb⟩ : ∃ r, r = incB ss := ⟨_, rfl⟩
  obtain ⟨rc, hrc⟩ : ∃ r, r = grpB ss := ⟨_, rfl⟩
  have EO : Hid (out_IG ss = (rb && ra && rc)) := by unfold Hid out_IG ok_IG; rw [hra, hrb, hrc]
  have EK : Hid (ok_IG ss = (rb && ra)) := by unfold Hid ok_IG; rw [hra, hrb]
  rw [← hra] at HA HT
  rw [← hrb] at HI HT
  rw [← hrc] at HT
  clear hra hrb hrc hr hz hzm
  cases ra with
  | false =>
    go_enter Try.func23, Try.ntmps23
    go_wp2_with (go_at_call 28; refine (HA.out _ Hr.out).mono ?_; rintro e w1 ⟨rfl, rfl⟩)
    go_ret2
    exact ⟨ret_bb3 (by rw [EO.out]; simp) (by rw [EK.out]; simp), Below.refl _ _⟩
  | true =>
    cases rb with
    | false =>
      go_enter Try.func23, Try.ntmps23
      go_wp2_with first
        | (go_at_call 28; refine (HA.out _ Hr.out).mono ?_; rintro e w1 ⟨rfl, rfl⟩)
        | (go_at_call 48; refine (HI.out _ Hr.out).mono ?_; rintro e w2 ⟨rfl, d, rfl⟩)
      go_ret2
      exact ⟨ret_bb3 (by rw [EO.out]; simp) (by rw [EK.out]; simp), below_drewN' (Below.refl _ _) _⟩
    | true =>
      go_enter Try.func23, Try.ntmps23
      go_wp2_with first
        | (go_at_call 28; refine (HA.out _ Hr.out).mono ?_; rintro e w1 ⟨rfl, rfl⟩)
        | (go_at_call 48; refine (HI.out _ Hr.out).mono ?_; rintro e w2 ⟨rfl, d, rfl⟩)
        | (go_at_call 43; refine (HT.out (by trivial) _ (Hr.out.drewN _)).mono ?_; rintro e w3 ⟨rfl, hb3⟩)
      go_ret2
      exact ⟨ret_bb3 (by rw [EO.out]; simp) (by rw [EK.out]; rfl), (below_drewN' (Below.refl _ _) d : Below W.heap.size W _).trans hb3⟩
set_option maxRecDepth 100000 in
set_option maxHeartbeats 2000000 in
theorem sp_IsGroup (A : Option Addr) (n c : Nat) (ss : List ByteArray) (W : World) (hr : Rd W A n (strsV ss)) (hz : ∀ s ∈ ss, s.size ≤ 1048576) (hl : ss.length ≤ 1048576) :
    Calls Try.prog 22 #[.slice A n c] W fun e w' => e = .returned (.tuple #[.bool (out_IG ss), .bool (ok_IG ss)]) ∧ Below W.heap.size W w' := by
  have hzm : ∀ s ∈ ss, s.size ≤ maxLen := fun s hs => by have := hz s hs; unfold maxLen; omega
  have HA := Lib.hid (l6Rising_any A n c ss W hr hzm)
  have HT : Hid (rowsB ss = true → ∀ W', Rd W' A n (strsV ss) → Calls Try.prog 38 #[.slice A n c] W' fun e w' => e = .returned (.bool (grpB ss)) ∧ Below W'.heap.size W' w') := fun h1 W' h => l6Group_any A n c ss W' h h1
  have Hr := Lib.hid hr
  have HK : Hid (ok_IG ss = true → rowsB ss = true) := fun h => by unfold ok_IG at h; rw [Bool.and_eq_true] at h; exact h.2
  obtain ⟨ra, hra⟩ : ∃ r, r = ok_IG ss := ⟨_, rfl⟩
  obtain ⟨rc, hrc⟩ : ∃ r, r = grpB ss := ⟨_, rfl⟩
  have EO : Hid (out_IG ss = (ra && rc)) := by unfold Hid out_IG; rw [hra, hrc]
  have EK : Hid (ok_IG ss = ra) := hra.symm
  unfold ok_IG at hra
  rw [← hra] at HA
  rw [EK.out] at HK
  rw [← hrc] at HT
  clear hra hrc hr hz hzm
  cases ra with
  | false =>
    go_enter Try.func22, Try.ntmps22
    go_wp2_with (go_at_call 37; refine HA.out.mono ?_; rintro e w1 ⟨rfl, d, rfl⟩)
    go_ret2
    exact ⟨ret_bb3 (by rw [EO.out]; simp) (by rw [EK.out]), below_drewN' (Below.refl _ _) _⟩
  | true =>
    have HRB := Lib.hid (HK.out (by trivial))
    go_enter Try.func22, Try.ntmps22
    go_wp2_with first
      | (go_at_call 37; refine HA.out.mono ?_; rintro e w1 ⟨rfl, d, rfl⟩)
      | (go_at_call 38; refine (HT.out HRB.out _ (Hr.out.drewN _)).mono ?_; rintro e w2 ⟨rfl, hb2⟩)
    go_ret2
    exact ⟨ret_bb3 (by rw [EO.out]; simp) (by rw [EK.out]), (below_drewN' (Below.refl _ _) d : Below W.heap.size W _).trans hb2⟩
end Go.Proofs.Ytajmjfekddgelaa
