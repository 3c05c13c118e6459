/- LeadsIn, of the reference and of the program: what each returns. -/
import Derived.Test.YtalpkcpikmpedaaSpLeadHead
import Derived.Test.YtalpkcpikmpedaaWalkE
namespace Go.Proofs.Ytalpkcpikmpedaa
open Go.RowKit
set_option linter.unusedVariables false

theorem ret_ib {b v : Int} {x : Bool} (h : b = v) : Ending.returned (.tuple #[.int .i64 v, .bool x]) = .returned (.tuple #[.int .i64 b, .bool x]) := by rw [h]
open Classical in
noncomputable def ordK (a : List UInt8) : Nat := if h : ∃ k, Ord a k ∧ k ≤ 16777216 then Classical.choose h else 0
theorem ordK_ok {a : List UInt8} (h : IsRow a) : Ord a (ordK a) ∧ ordK a ≤ 16777216 := by
  have hx := exists_ord h
  unfold ordK
  rw [dif_pos hx]
  exact Classical.choose_spec hx
theorem lh_row {nm : ByteArray} {st : Int} {ss : List ByteArray} (h : methB nm st ss = true) : IsRow (bs (lhS st ss)) := by
  obtain ⟨h1, h40, h3, h8, hch⟩ := meth_ok h
  have hrow : IsRow (bs (mkS (roundsL st.toNat))) := by rw [bs_mkS]; exact isRow_rounds (by omega) (by omega)
  exact (rowAt_ok hrow (fun c hc => by rw [size_mkS, roundsL_length, Int.toNat_of_nonneg (by omega)]; exact hch c hc) _ (Nat.le_refl _)).1
noncomputable def out_LeadsIn (nm : ByteArray) (st : Int) (ss : List ByteArray) : Int := if methB nm st ss = true then (ordK (bs (lhS st ss)) : Int) else 0
set_option maxRecDepth 100000 in
set_option maxHeartbeats 1000000 in
theorem sp_LeadsIn (nm : ByteArray) (st : Int) (A : Option Addr) (n c : Nat) (ss : List ByteArray) (W : World) (hs : nm.size ≤ 1048576) (hw : (Lit.int .i64 st).wf = true) (hnc : n ≤ c) (hr : Rd W A n (strsV ss)) (hz : ∀ s ∈ ss, s.size ≤ 1048576) (hl : ss.length ≤ 1048576) :
    Calls Try.prog 22 #[.agg #[.string nm, .int .i64 st, .slice A n c]] W fun e w' => e = .returned (.tuple #[.int .i64 (out_LeadsIn nm st ss), .bool (methB nm st ss)]) ∧ Below W.heap.size W w' := by
  obtain ⟨b, hb⟩ : ∃ b, b = methB nm st ss := ⟨_, rfl⟩
  have HC : Hid (∀ W', Below W.heap.size W W' → Calls Try.prog 53 #[.agg #[.string nm, .int .i64 st, .slice A n c]] W' fun e w' => e = .returned (.bool b) ∧ Below W'.heap.size W' w') := fun W' h => by rw [hb]; exact l4Good_any nm st A n c ss W' (by omega) (hr.below h) (fun s hs => by have := hz s hs; omega)
  have HP : Hid (∀ W', Below W.heap.size W W' → b = true → Calls Try.prog 57 #[.agg #[.string nm, .int .i64 st, .slice A n c]] W' fun e w' => e = .returned (.string (lhS st ss)) ∧ Below W'.heap.size W' w') := fun W' h hbt => l4Head_any nm st A n c ss W' (by rw [← hb]; exact hbt) (hr.below h)
  have E : Hid (out_LeadsIn nm st ss = if b = true then (ordK (bs (lhS st ss)) : Int) else 0) := by unfold Hid out_LeadsIn; rw [hb]
  have HO : Hid (∀ W, b = true → Calls Try.prog 59 #[.string (lhS st ss)] W fun e w' => e = .returned (.int .i64 (ordK (bs (lhS st ss)) : Int)) ∧ W = w') := fun W hbt => by have h := ordK_ok (lh_row (nm := nm) (st := st) (ss := ss) (by rw [← hb]; exact hbt)); exact l1Order_any _ _ W (lh_row (nm := nm) (st := st) (ss := ss) (by rw [← hb]; exact hbt)) h.1 h.2
  rw [← hb]
  have Hbox := Lib.hid (box3 W 27 (.string nm) (.int .i64 st) (.slice A n c))
  clear hb hr hz
  obtain ⟨p, hp⟩ : ∃ p, p = lhS st ss := ⟨_, rfl⟩
  rw [← hp] at HP HO E
  clear hp
  obtain ⟨K, hK⟩ : ∃ K, K = ordK (bs p) := ⟨_, rfl⟩
  rw [← hK] at HO E
  clear hK
  cases b with
  | true =>
    go_enter Try.func22, Try.ntmps22
    go_wp2_with fail
    obtain ⟨B0, hB0⟩ : ∃ B, B = W.alloc (.cells #[.string nm, .int .i64 st, .slice A n c] 27) := ⟨_, rfl⟩
    rw [← hB0]
    have hbB : Below W.heap.size W B0 := by rw [hB0]; exact below_alloc _ _
    have hsB : W.heap.size < B0.heap.size := by rw [hB0]; simp
    have hcB := Hbox.out
    rw [← hB0] at hcB
    refine (HC.out _ hbB).mono ?_
    rintro e x1 ⟨rfl, hb1⟩
    have B1 : Below W.heap.size W x1 := hbB.trans (hb1.mono hbB.size)
    obtain ⟨k0, k1, k2⟩ := keep3 hb1 hsB hcB
    clear hcB hB0 hb1
    go_wp2_with fail
    refine (HP.out _ B1 (by first | trivial | rfl)).mono ?_
    rintro e x2 ⟨rfl, hb2⟩
    go_wp2_with fail
    refine (HO.out x2 (by first | trivial | rfl)).mono ?_
    rintro e x3 ⟨rfl, rfl⟩
    go_wp2
    go_ret2
    exact ⟨ret_ib (by rw [E.out]; simp), B1.trans (hb2.mono B1.size)⟩
  | false =>
    go_enter Try.func22, Try.ntmps22
    go_wp2_with fail
    refine (HC.out _ (below_alloc _ _)).mono ?_
    rintro e x1 ⟨rfl, hb1⟩
    go_wp2
    go_ret2
    exact ⟨ret_ib (by rw [E.out]; simp), (below_alloc W _).trans (hb1.mono (by simp))⟩
set_option maxRecDepth 100000 in
set_option maxHeartbeats 1000000 in
theorem im_LeadsIn (nm : ByteArray) (st : Int) (A : Option Addr) (n c : Nat) (ss : List ByteArray) (W : World) (hs : nm.size ≤ 1048576) (hw : (Lit.int .i64 st).wf = true) (hnc : n ≤ c) (hr : Rd W A n (strsV ss)) (hz : ∀ s ∈ ss, s.size ≤ 1048576) (hl : ss.length ≤ 1048576) :
    Calls Try.prog 23 #[.agg #[.string nm, .int .i64 st, .slice A n c]] W fun e w' => e = .returned (.tuple #[.int .i64 (out_LeadsIn nm st ss), .bool (methB nm st ss)]) ∧ Below W.heap.size W w' := by
  obtain ⟨b, hb⟩ : ∃ b, b = methB nm st ss := ⟨_, rfl⟩
  have HC : Hid (∀ W', Below W.heap.size W W' → Calls Try.prog 18 #[.agg #[.string nm, .int .i64 st, .slice A n c]] W' fun e w' => e = .returned (.bool b) ∧ Below W'.heap.size W' w') := fun W' h => by rw [hb]; exact GoodMethod_any nm st A n c ss W' (by omega) (hr.below h) (fun s hs => by have := hz s hs; omega)
  have HP : Hid (∀ W', Below W.heap.size W W' → b = true → Calls Try.prog 58 #[.agg #[.string nm, .int .i64 st, .slice A n c]] W' fun e w' => e = .returned (.string (lhS st ss)) ∧ Below W'.heap.size W' w') := fun W' h hbt => leadHead_any nm st A n c ss W' (by rw [← hb]; exact hbt) (hr.below h)
  have E : Hid (out_LeadsIn nm st ss = if b = true then (ordK (bs (lhS st ss)) : Int) else 0) := by unfold Hid out_LeadsIn; rw [hb]
  have HO : Hid (∀ W, b = true → Calls Try.prog 60 #[.string (lhS st ss)] W fun e w' => ∃ A c, e = .returned (.slice A (ordK (bs (lhS st ss))) c) ∧ Own w' 9 W.heap.size w'.heap.size A (ordK (bs (lhS st ss))) c (strsV (powsB (lhS st ss) (ordK (bs (lhS st ss))))) ∧ Below W.heap.size W w') := fun W hbt => by have h := ordK_ok (lh_row (nm := nm) (st := st) (ss := ss) (by rw [← hb]; exact hbt)); exact powers_any _ _ W (lh_row (nm := nm) (st := st) (ss := ss) (by rw [← hb]; exact hbt)) h.1 h.2
  rw [← hb]
  have Hbox := Lib.hid (box3 W 27 (.string nm) (.int .i64 st) (.slice A n c))
  clear hb hr hz
  obtain ⟨p, hp⟩ : ∃ p, p = lhS st ss := ⟨_, rfl⟩
  rw [← hp] at HP HO E
  clear hp
  obtain ⟨K, hK⟩ : ∃ K, K = ordK (bs p) := ⟨_, rfl⟩
  rw [← hK] at HO E
  clear hK
  cases b with
  | true =>
    go_enter Try.func23, Try.ntmps23
    go_wp2_with fail
    obtain ⟨B0, hB0⟩ : ∃ B, B = W.alloc (.cells #[.string nm, .int .i64 st, .slice A n c] 27) := ⟨_, rfl⟩
    rw [← hB0]
    have hbB : Below W.heap.size W B0 := by rw [hB0]; exact below_alloc _ _
    have hsB : W.heap.size < B0.heap.size := by rw [hB0]; simp
    have hcB := Hbox.out
    rw [← hB0] at hcB
    refine (HC.out _ hbB).mono ?_
    rintro e x1 ⟨rfl, hb1⟩
    have B1 : Below W.heap.size W x1 := hbB.trans (hb1.mono hbB.size)
    obtain ⟨k0, k1, k2⟩ := keep3 hb1 hsB hcB
    clear hcB hB0 hb1
    go_wp2_with fail
    refine (HP.out _ B1 (by first | trivial | rfl)).mono ?_
    rintro e x2 ⟨rfl, hb2⟩
    go_wp2_with fail
    refine (HO.out x2 (by first | trivial | rfl)).mono ?_
    rintro e x3 ⟨A3, c3, rfl, ho3, hb3⟩
    clear ho3
    go_wp2
    go_ret2
    exact ⟨ret_ib (by rw [E.out]; simp), B1.trans ((hb2.trans (hb3.mono hb2.size)).mono B1.size)⟩
  | false =>
    go_enter Try.func23, Try.ntmps23
    go_wp2_with fail
    refine (HC.out _ (below_alloc _ _)).mono ?_
    rintro e x1 ⟨rfl, hb1⟩
    go_wp2
    go_ret2
    exact ⟨ret_ib (by rw [E.out]; simp), (below_alloc W _).trans (hb1.mono (by simp))⟩
end Go.Proofs.Ytalpkcpikmpedaa
