/- The walks of the lead head of a method. -/
import Derived.Test.YtbmabfgnmafooaaWalkZ
import Derived.Test.YtbmabfgnmafooaaWalkY
namespace Go.Proofs.Ytbmabfgnmafooaa
open Go.RowKit
set_option linter.unusedVariables false

noncomputable def lhS (st : Int) (ss : List ByteArray) : ByteArray := rowAt (mkS (roundsL st.toNat)) ss ss.length
theorem meth_ok {nm : ByteArray} {st : Int} {ss : List ByteArray} (h : methB nm st ss = true) : 1 ≤ ss.length ∧ ss.length ≤ 40 ∧ 3 ≤ st ∧ st ≤ 8 ∧ ∀ s ∈ ss, chB st s = true := by
  unfold methB at h
  rw [Bool.and_eq_true] at h
  have h2 := of_cb h.2
  have h3 := ch_stage0 (h2.2.2 _ (List.getElem_mem (show 0 < ss.length by have := h2.1; omega)))
  exact ⟨h2.1, h2.2.1, h3.1, h3.2, h2.2.2⟩
set_option maxRecDepth 100000 in
set_option maxHeartbeats 2000000 in
theorem l4Head_any (nm : ByteArray) (st : Int) (A : Option Addr) (n c : Nat) (ss : List ByteArray) (W : World) (hm : methB nm st ss = true) (hr : Rd W A n (strsV ss)) :
    Calls Try.prog 64 #[.agg #[.string nm, .int .i64 st, .slice A n c]] W fun e w' => e = .returned (.string (lhS st ss)) ∧ Below W.heap.size W w' := by
  obtain ⟨h1, h40, h3, h8, hch⟩ := meth_ok hm
  have hl := hr.slen
  obtain ⟨m, rfl⟩ : ∃ m : Nat, st = (m : Int) := ⟨st.toNat, by omega⟩
  obtain ⟨r, hrr⟩ : ∃ r, r = mkS (roundsL m) := ⟨_, rfl⟩
  have hrs : r.size = m := by rw [hrr, size_mkS, roundsL_length]
  have hrow : IsRow (bs r) := by rw [hrr, bs_mkS]; exact isRow_rounds (by omega) (by omega)
  have HRo : Hid (∀ W, Calls Try.prog 71 #[.int .i64 (m : Int)] W fun e w' => e = .returned (.string r) ∧ W = w') := fun W => by
    have := l1Rounds_any (m : Int) W (by omega) h8
    rwa [Int.toNat_natCast, ← hrr] at this
  have E : Hid (lhS (m : Int) ss = rowAt r ss n) := by unfold Hid lhS; rw [Int.toNat_natCast, ← hrr, hl]
  have HL : Hid (∀ W', Below W.heap.size W W' → Calls Try.prog 70 #[.slice A n c, .string r] W' (RetST 9 (strsV (rowsTo r ss n)) (rowAt r ss n) W')) := fun W' h => l4Lead_any A n c ss r W' (by omega) (hr.below h) hrow (fun s hs => by rw [hrs]; exact hch s hs)
  have hbox := box3 W 27 (.string nm) (.int .i64 (m : Int)) (.slice A n c)
  obtain ⟨B0, hB0⟩ : ∃ B, B = W.alloc (.cells #[.string nm, .int .i64 (m : Int), .slice A n c] 27) := ⟨_, rfl⟩
  rw [← hB0] at hbox
  have Hbox := Lib.hid hbox
  have hbB : Below W.heap.size W B0 := by rw [hB0]; exact below_alloc _ _
  have hsB : W.heap.size < B0.heap.size := by rw [hB0]; simp
  clear hrr hrow hch hm hr h1
  go_enter Try.func64, Try.ntmps64
  go_wp2
  rw [← hB0]
  obtain ⟨f0, f1, f2⟩ := hbox
  clear hB0
  have HL2 := Lib.hid (HL.out B0.drew hbB.drew)
  go_region_held3 (fun w' => w'.cell? ⟨W.heap.size, 1, none⟩ = some (.int .i64 (m : Int)) ∧ w'.cell? ⟨W.heap.size, 2, none⟩ = some (.slice A n c))
    (first | go_keep | exact Hbox.out.2 | (exact (keep3 hb2 (by simpa using hsB) ⟨f0, f1, f2⟩).2))
    (first | (go_at_call 71; refine (HRo.out _).mono ?_; rintro e w' ⟨rfl, rfl⟩) | (go_at_call 70; refine HL2.out.mono ?_; rintro e x2 ⟨A2, n2, c2, rfl, ho2, hb2⟩))
  have HB2 : Hid (Below W.heap.size W x2) := hbB.drew.trans (hb2.mono hbB.drew.size)
  go_wp2
  go_ret
  exact ⟨ret_s E.out, HB2.out⟩
set_option maxRecDepth 100000 in
set_option maxHeartbeats 2000000 in
theorem leadHead_any (nm : ByteArray) (st : Int) (A : Option Addr) (n c : Nat) (ss : List ByteArray) (W : World) (hm : methB nm st ss = true) (hr : Rd W A n (strsV ss)) :
    Calls Try.prog 67 #[.agg #[.string nm, .int .i64 st, .slice A n c]] W fun e w' => e = .returned (.string (lhS st ss)) ∧ Below W.heap.size W w' := by
  obtain ⟨h1, h40, h3, h8, hch⟩ := meth_ok hm
  have hl := hr.slen
  obtain ⟨m, rfl⟩ : ∃ m : Nat, st = (m : Int) := ⟨st.toNat, by omega⟩
  obtain ⟨r, hrr⟩ : ∃ r, r = mkS (roundsL m) := ⟨_, rfl⟩
  have hrs : r.size = m := by rw [hrr, size_mkS, roundsL_length]
  have hrow : IsRow (bs r) := by rw [hrr, bs_mkS]; exact isRow_rounds (by omega) (by omega)
  have HRo : Hid (∀ W, Calls Try.prog 75 #[.int .i64 (m : Int)] W fun e w' => e = .returned (.string r) ∧ W = w') := fun W => by
    have := rounds_any (m : Int) W (by omega) h8
    rwa [Int.toNat_natCast, ← hrr] at this
  have E : Hid (lhS (m : Int) ss = rowAt r ss n) := by unfold Hid lhS; rw [Int.toNat_natCast, ← hrr, hl]
  have HL : Hid (∀ W', Below W.heap.size W W' → Calls Try.prog 74 #[.string r, .slice A n c] W' (RetS 9 (strsV (rowsTo r ss (n + 1))) W')) := fun W' h => rowsUnder_any A n c ss r W' (by omega) (hr.below h) hrow (fun s hs => by rw [hrs]; exact hch s hs)
  have hbox := box3 W 27 (.string nm) (.int .i64 (m : Int)) (.slice A n c)
  obtain ⟨B0, hB0⟩ : ∃ B, B = W.alloc (.cells #[.string nm, .int .i64 (m : Int), .slice A n c] 27) := ⟨_, rfl⟩
  rw [← hB0] at hbox
  have Hbox := Lib.hid hbox
  have hbB : Below W.heap.size W B0 := by rw [hB0]; exact below_alloc _ _
  have hsB : W.heap.size < B0.heap.size := by rw [hB0]; simp
  clear hrr hrow hch hm hr h1
  go_enter Try.func67, Try.ntmps67
  go_wp2
  rw [← hB0]
  obtain ⟨f0, f1, f2⟩ := hbox
  clear hB0
  have HL2 := Lib.hid (HL.out B0.drew hbB.drew)
  go_region_held3 (fun w' => w'.cell? ⟨W.heap.size, 1, none⟩ = some (.int .i64 (m : Int)) ∧ w'.cell? ⟨W.heap.size, 2, none⟩ = some (.slice A n c))
    (first | go_keep | exact Hbox.out.2 | (exact (keep3 hb2 (by simpa using hsB) ⟨f0, f1, f2⟩).2))
    (first | (go_at_call 75; refine (HRo.out _).mono ?_; rintro e w' ⟨rfl, rfl⟩) | (go_at_call 74; refine HL2.out.mono ?_; rintro e x2 ⟨A2, n2, c2, rfl, ho2, hb2⟩))
  have HB2 : Hid (Below W.heap.size W x2) := hbB.drew.trans (hb2.mono hbB.drew.size)
  have hn2 : n2 = n + 1 := by
    have := ho2.rd.slen
    unfold rowsTo at this
    rw [List.length_map, List.length_range] at this; omega
  obtain ⟨b, off, rfl, _, hcs⟩ := ho2.rd.strD (k := n) (by omega)
  have hcn := hcs n (by omega)
  have hg : getS (rowsTo r ss (n + 1)) n = rowAt r ss n := by
    rw [rowsTo_succ, getS, List.getD_eq_getElem?_getD, List.getElem?_append_right (by simp [rowsTo])]
    simp [rowsTo]
  rw [hg] at hcn
  obtain ⟨u, hu⟩ : ∃ u, u = rowAt r ss n := ⟨_, rfl⟩
  rw [← hu] at hcn E
  subst hn2
  have h01 : ((n + 1 : Nat) : Int) - 1 = (n : Int) := by omega
  clear hcs hg hu ho2
  go_wp2
  go_ret
  exact ⟨ret_s E.out, HB2.out⟩
end Go.Proofs.Ytbmabfgnmafooaa
