/- A list of changes begun at another place. -/
import Derived.Test.YtbmabfgnmafooaaWalkSa
namespace Go.Proofs.Ytbmabfgnmafooaa
open Go.RowKit Go.Sort
set_option linter.unusedVariables false

theorem Rd.dropV {w : World} {b o n k : Nat} {ss : List ByteArray} (h : Rd w (some ⟨b, o, none⟩) n (strsV ss)) (hk : k ≤ n) : Rd w (some ⟨b, o + k, none⟩) (n - k) (strsV (ss.drop k)) := by
  refine ⟨?_, Nat.le_trans (Nat.sub_le _ _) h.2.1, ?_⟩
  · have := h.slen; simp [strsV]; omega
  · rcases h.2.2 with h0 | ⟨b', off', e, hb, hc⟩
    · exact .inl (by omega)
    · injection e with e; injection e with e1 e2; subst e1 e2
      refine .inr ⟨b, o + k, rfl, hb, fun j v hv => ?_⟩
      have e : o + k + j = o + (k + j) := by omega
      rw [e]
      refine hc (k + j) v ?_
      rw [strsV, List.map_drop, List.getElem?_drop] at hv
      exact hv
set_option maxRecDepth 100000 in
set_option maxHeartbeats 1000000 in
theorem rotated_any (A : Option Addr) (n c k : Nat) (ss : List ByteArray) (W : World) (hk : k < n) (hnc : n ≤ c) (hn : n ≤ 1048576) (hr : Rd W A n (strsV ss)) :
    Calls Try.prog 60 #[.slice A n c, .int .i64 k] W (RetS 9 (strsV (ss.drop k ++ ss.take k)) W) := by
  obtain ⟨b, o, rfl, hbk, hcs⟩ := hr.strD hk
  have Hr := Lib.hid hr
  have Hl := Lib.hid hr.slen
  have i1 : (0 : Int) ≤ (k : Int) := by omega
  have i2 : (k : Int) ≤ (n : Int) := by omega
  have i3 : (n : Int) ≤ (c : Int) := by omega
  have i4 : (k : Int) ≤ (c : Int) := by omega
  have i5 : k ≤ n := by omega
  have i6 : k ≤ c := by omega
  have i7 : ¬ c = k := by omega
  obtain ⟨X, hX⟩ : ∃ X, X = (W.alloc (.cells #[.slice (some ⟨b, o + k, none⟩) (n - k) (c - k), .slice (some ⟨b, o, none⟩) k c] 22)).drew := ⟨_, rfl⟩
  have hBX : Below W.heap.size W X := by rw [hX]; exact (below_alloc W _).drew
  have hsX : W.heap.size < X.heap.size := by rw [hX]; show W.heap.size < (W.alloc _).heap.size; simp
  have hk1 := heap_last W (.cells #[.slice (some ⟨b, o + k, none⟩) (n - k) (c - k), .slice (some ⟨b, o, none⟩) k c] 22) W.heap.size rfl
  have hx0 : X.cell? ⟨W.heap.size, 0, none⟩ = some (.slice (some ⟨b, o + k, none⟩) (n - k) (c - k)) := by rw [hX]; exact (Joins.cell_of_block hk1 0).trans rfl
  have hx1 : X.cell? ⟨W.heap.size, 1, none⟩ = some (.slice (some ⟨b, o, none⟩) k c) := by rw [hX]; exact (Joins.cell_of_block hk1 1).trans rfl
  have hl := hr.slen
  have HC : Hid (Calls Try.prog 88 #[.slice (some ⟨W.heap.size, 0, none⟩) 2 2] X (RetS 9 (strsV (ss.drop k ++ ss.take k)) X)) := by
    have hr1 := (hr.dropV i5).below hBX
    have hr0 : Rd X (some ⟨b, o, none⟩) k (strsV (ss.take k)) := by
      have := (hr.takeV i5).below hBX
      rw [strsV, ← List.map_take] at this
      exact this
    exact concat_any W.heap.size 2 (fun | 0 => 0 | 1 => n - k | _ + 2 => n) (fun | 0 => [] | 1 => ss.drop k | _ + 2 => ss.drop k ++ ss.take k) X hsX
      (fun j hj => by
        match j, hj with
        | 0, _ => exact ⟨_, _, _, ss.drop k, hx0, hr1, by simp, by simp⟩
        | 1, _ => exact ⟨_, _, _, ss.take k, hx1, hr0, by show n = n - k + k; omega, rfl⟩)
      rfl rfl
      (fun j hj => by
        match j with
        | 0 => exact Nat.zero_le _
        | 1 => show n - k ≤ _; omega
        | j + 2 => show n ≤ _; omega)
      (by show 1 ≤ n; omega) (by omega)
  have HBX := Lib.hid hBX
  clear hr hcs hk1 hx0 hx1 hsX hBX hl
  go_enter Try.func60, Try.ntmps60
  go_wp2
  go_region_held3 (fun _ => True) (exact trivial) (first | (go_at_call 88; rw [← hX]; refine HC.out.mono ?_; rintro e x2 ⟨A2, n2, c2, rfl, ho2, hb2⟩) | fail)
  have HO : Hid (Own x2 9 W.heap.size x2.heap.size A2 n2 c2 (strsV (ss.drop k ++ ss.take k))) := ho2.mono HBX.out.size (Nat.le_refl _)
  have HB : Hid (Below W.heap.size W x2) := HBX.out.trans (hb2.mono HBX.out.size)
  clear ho2 hb2 hX
  go_wp2
  go_ret
  exact ⟨A2, n2, c2, rfl, HO.out, HB.out⟩
end Go.Proofs.Ytbmabfgnmafooaa
