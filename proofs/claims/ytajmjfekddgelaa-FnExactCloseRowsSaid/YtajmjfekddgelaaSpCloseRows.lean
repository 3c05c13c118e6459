/- CloseRows, of the reference and of the program: what each returns. -/
import Derived.Test.YtajmjfekddgelaaWalkG
import Derived.Test.YtajmjfekddgelaaWalkCl
import Derived.BigQuiet
namespace Go.Proofs.Ytajmjfekddgelaa
open Go.RowKit
set_option linter.unusedVariables false

def okCR (ss : List ByteArray) : Bool := rowsB ss && decide (0 < ss.length) && genB (headS ss).size ss 800
def out_CloseRows (ss : List ByteArray) : List ByteArray := if (rowsB ss && decide (0 < ss.length)) = true then genL (headS ss).size ss 800 else []
theorem len_CloseRows (ss : List ByteArray) (hn : ss.length ≤ 1048576) : (out_CloseRows ss).length ≤ 4194304 := by
  unfold out_CloseRows
  split
  · unfold genL
    split
    · rename_i h
      rw [srt_len]
      have := of_decide_eq_true h
      omega
    · simp
  · simp
theorem rowsN_of {ss : List ByteArray} (h : rowsB ss = true) (h0 : 0 < ss.length) : ss.length ≤ 800 ∧ 3 ≤ (headS ss).size ∧ (headS ss).size ≤ 8 ∧ RowsN (headS ss).size ss := by
  have h2 : RowsOK ss := by simpa [rowsB] using h
  have h3 := h2.2 (headS ss) (by rw [headS_get h0]; exact List.getElem_mem h0)
  have h4 := h3.1.1
  have h5 := h3.1.2.1
  rw [size_bs] at h4 h5
  exact ⟨h2.1, h4, h5, h2.2⟩
set_option maxRecDepth 100000 in
set_option maxHeartbeats 2000000 in
theorem im_CloseRows (A : Option Addr) (n c : Nat) (ss : List ByteArray) (W : World) (hr : Rd W A n (strsV ss)) (hz : ∀ s ∈ ss, s.size ≤ 1048576) (hl : ss.length ≤ 1048576) :
    Calls Try.prog 25 #[.slice A n c] W (RetSB 9 (strsV (out_CloseRows ss)) (okCR ss) W) := by
  have hzm : ∀ s ∈ ss, s.size ≤ maxLen := fun s hs => by have := hz s hs; unfold maxLen; omega
  have HA : Hid (∀ W', Rd W' A n (strsV ss) → Calls Try.prog 28 #[.slice A n c] W' fun e w' => e = .returned (.bool (rowsB ss)) ∧ w' = W') := fun W' h => (GoodRows_any A n c ss W' h hzm).mono fun e w' h => ⟨h.1, h.2.symm⟩
  have HG : Hid (rowsB ss = true → 0 < n → ∀ W', Below W.heap.size W W' → Calls Try.prog 50 #[.int .i64 ((headS ss).size : Int), .slice A n c, .int .i64 800] W' (RetSB 9 (strsV (genL (headS ss).size ss 800)) (genB (headS ss).size ss 800) W')) := fun h1 h2 W' hb => by
    have h3 := rowsN_of h1 (by have := hr.slen; omega)
    exact generated_any (headS ss).size 800 A n c ss W' h3.2.1 h3.2.2.1 (by have := hr.slen; omega) (by omega) (by omega) (hr.below hb) h3.2.2.2
  have HX : Hid (0 < n → ∃ b off, A = some ⟨b, off, none⟩ ∧ W.cell? ⟨b, off, none⟩ = some (.string (headS ss))) := fun h => by
    obtain ⟨b, off, e, _, hc⟩ := hr.strD (k := 0) h
    have hc0 := hc 0 h
    have e2 : getS ss 0 = headS ss := by cases ss <;> rfl
    rw [e2] at hc0
    exact ⟨b, off, e, hc0⟩
  have Hr := Lib.hid hr
  have hn8 : n ≤ 1048576 := by have := hr.slen; omega
  obtain ⟨x, hx⟩ : ∃ x, x = headS ss := ⟨_, rfl⟩
  obtain ⟨gl, hgl⟩ : ∃ g, g = genL (headS ss).size ss 800 := ⟨_, rfl⟩
  obtain ⟨gb, hgb⟩ : ∃ g, g = genB (headS ss).size ss 800 := ⟨_, rfl⟩
  obtain ⟨ra, hra⟩ : ∃ r, r = rowsB ss := ⟨_, rfl⟩
  have E1 : Hid (okCR ss = (ra && decide (0 < n) && gb)) := by unfold Hid okCR; rw [hra, hgb, hr.slen]
  have E2 : Hid (out_CloseRows ss = if (ra && decide (0 < n)) = true then gl else []) := by unfold Hid out_CloseRows; rw [hra, hgl, hr.slen]
  rw [← hgl, ← hgb, ← hx, ← hra] at HG
  rw [← hra] at HA
  rw [← hx] at HX
  clear hx hgl hgb hra hr hz hzm hl
  by_cases hn0 : 0 < n
  · obtain ⟨b1, o1, rfl, hc1⟩ := HX.out hn0
    have hne : ((n : Int) == 0) = false := by simp; omega
    have i1 : (0 : Int) < (n : Int) := by omega
    have ED : Hid (decide (0 < n) = true) := decide_eq_true hn0
    cases ra with
    | false =>
      have HT : Hid (okCR ss = false) := by unfold Hid; rw [E1.out]; rfl
      have HU : Hid (out_CloseRows ss = []) := by unfold Hid; rw [E2.out]; simp
      go_enter Try.func25, Try.ntmps25
      go_wp2_with (go_at_call 28; refine (HA.out _ Hr.out).mono ?_; rintro e w1 ⟨rfl, rfl⟩)
      go_ret2
      refine ⟨none, 0, 0, ret_slb HT.out, ?_, Below.refl _ _⟩
      rw [HU.out]; exact Own.nil _ _ _ _
    | true =>
      have HT : Hid (okCR ss = gb) := by unfold Hid; rw [E1.out, ED.out]; simp
      have HU : Hid (out_CloseRows ss = gl) := by unfold Hid; rw [E2.out, ED.out]; simp
      go_enter Try.func25, Try.ntmps25
      go_wp2_with first
        | (go_at_call 28; refine (HA.out _ Hr.out).mono ?_; rintro e w1 ⟨rfl, rfl⟩)
        | (go_at_call 50; refine (HG.out (by trivial) hn0 _ (Below.refl _ _)).mono ?_; rintro e w2 ⟨A2, n2, c2, rfl, ho2, hb2⟩)
      go_ret2
      refine ⟨A2, n2, c2, ret_slb HT.out, ?_, hb2⟩
      rw [HU.out]; exact ho2
  · have hne : ((n : Int) == 0) = true := by simp; omega
    have HT : Hid (okCR ss = false) := by unfold Hid; rw [E1.out, decide_eq_false hn0]; simp
    have HU : Hid (out_CloseRows ss = []) := by unfold Hid; rw [E2.out, decide_eq_false hn0]; simp
    go_enter Try.func25, Try.ntmps25
    go_wp2
    go_ret2
    refine ⟨none, 0, 0, ret_slb HT.out, ?_, Below.refl _ _⟩
    rw [HU.out]; exact Own.nil _ _ _ _
set_option maxRecDepth 100000 in
set_option maxHeartbeats 2000000 in
theorem sp_CloseRows (A : Option Addr) (n c : Nat) (ss : List ByteArray) (W : World) (hr : Rd W A n (strsV ss)) (hz : ∀ s ∈ ss, s.size ≤ 1048576) (hl : ss.length ≤ 1048576) :
    Calls Try.prog 24 #[.slice A n c] W (RetSB 9 (strsV (out_CloseRows ss)) (okCR ss) W) := by
  have hzm : ∀ s ∈ ss, s.size ≤ maxLen := fun s hs => by have := hz s hs; unfold maxLen; omega
  have HA : Hid (∀ W', Rd W' A n (strsV ss) → Calls Try.prog 26 #[.slice A n c] W' fun e w' => e = .returned (.bool (rowsB ss)) ∧ ∃ d, w' = W'.drewN d) := fun W' h => l6Rows_any A n c ss W' h hzm
  have HG : Hid (rowsB ss = true → 0 < n → ∀ W', Below W.heap.size W W' → Calls Try.prog 49 #[.slice A n c] W' (RetSB 9 (strsV (genL (headS ss).size ss 800)) (genB (headS ss).size ss 800) W')) := fun h1 h2 W' hb => by
    have h3 := rowsN_of h1 (by have := hr.slen; omega)
    exact l6Close_any (headS ss).size 800 rfl A n c ss W' h3.2.1 h3.2.2.1 h2 (by have := hr.slen; omega) (hr.below hb) h3.2.2.2
  have Hr := Lib.hid hr
  have hn8 : n ≤ 1048576 := by have := hr.slen; omega
  obtain ⟨gl, hgl⟩ : ∃ g, g = genL (headS ss).size ss 800 := ⟨_, rfl⟩
  obtain ⟨gb, hgb⟩ : ∃ g, g = genB (headS ss).size ss 800 := ⟨_, rfl⟩
  obtain ⟨ra, hra⟩ : ∃ r, r = rowsB ss := ⟨_, rfl⟩
  have E1 : Hid (okCR ss = (ra && decide (0 < n) && gb)) := by unfold Hid okCR; rw [hra, hgb, hr.slen]
  have E2 : Hid (out_CloseRows ss = if (ra && decide (0 < n)) = true then gl else []) := by unfold Hid out_CloseRows; rw [hra, hgl, hr.slen]
  rw [← hgl, ← hgb, ← hra] at HG
  rw [← hra] at HA
  clear hgl hgb hra hr hz hzm hl
  cases ra with
  | false =>
    have HT : Hid (okCR ss = false) := by unfold Hid; rw [E1.out]; rfl
    have HU : Hid (out_CloseRows ss = []) := by unfold Hid; rw [E2.out]; simp
    go_enter Try.func24, Try.ntmps24
    go_wp2_with (go_at_call 26; refine (HA.out _ Hr.out).mono ?_; rintro e w1 ⟨rfl, d, rfl⟩)
    go_ret2
    refine ⟨none, 0, 0, ret_slb HT.out, ?_, below_drewN' (Below.refl _ _) _⟩
    rw [HU.out]; exact Own.nil _ _ _ _
  | true =>
    by_cases hn0 : 0 < n
    · have hne : ((n : Int) == 0) = false := by simp; omega
      have ED : Hid (decide (0 < n) = true) := decide_eq_true hn0
      have HT : Hid (okCR ss = gb) := by unfold Hid; rw [E1.out, ED.out]; simp
      have HU : Hid (out_CloseRows ss = gl) := by unfold Hid; rw [E2.out, ED.out]; simp
      go_enter Try.func24, Try.ntmps24
      go_wp2_with first
        | (go_at_call 26; refine (HA.out _ Hr.out).mono ?_; rintro e w1 ⟨rfl, d, rfl⟩)
        | (go_at_call 49; refine (HG.out (by trivial) hn0 _ (below_drewN' (Below.refl _ _) _)).mono ?_; rintro e w2 ⟨A2, n2, c2, rfl, ho2, hb2⟩)
      go_ret2
      refine ⟨A2, n2, c2, ret_slb HT.out, ?_, (below_drewN' (Below.refl _ _) d : Below W.heap.size W _).trans hb2⟩
      rw [HU.out]; exact ho2
    · have hne : ((n : Int) == 0) = true := by simp; omega
      have HT : Hid (okCR ss = false) := by unfold Hid; rw [E1.out, decide_eq_false hn0]; simp
      have HU : Hid (out_CloseRows ss = []) := by unfold Hid; rw [E2.out, decide_eq_false hn0]; simp
      go_enter Try.func24, Try.ntmps24
      go_wp2_with (go_at_call 26; refine (HA.out _ Hr.out).mono ?_; rintro e w1 ⟨rfl, d, rfl⟩)
      go_ret2
      refine ⟨none, 0, 0, ret_slb HT.out, ?_, below_drewN' (Below.refl _ _) _⟩
      rw [HU.out]; exact Own.nil _ _ _ _
end Go.Proofs.Ytajmjfekddgelaa
