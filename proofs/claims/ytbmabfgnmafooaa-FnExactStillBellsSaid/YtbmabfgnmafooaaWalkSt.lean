/- The walks of the bells that never move. -/
import Derived.Test.YtbmabfgnmafooaaWalkHd
import Derived.Test.YtbmabfgnmafooaaKit5
import Derived.Test.YtbmabfgnmafooaaPlainP
import Derived.IntWalk
import Derived.Shelf.Abstract
namespace Go.Proofs.Ytbmabfgnmafooaa
open Go.RowKit
set_option linter.unusedVariables false

/-- whether place i of a row holds another bell -/
def mvB (i : Nat) (r : ByteArray) : Bool := decide (((bs r).getD i 0).toNat ≠ 49 + i)
def stL (rows : List ByteArray) (n : Nat) : List Nat := ((List.range n).filter fun i => !(rows.any (mvB i))).map (· + 1)
theorem stL_succ (rows : List ByteArray) (k : Nat) : stL rows (k + 1) = stL rows k ++ (if rows.any (mvB k) = true then [] else [k + 1]) := by
  unfold stL
  rw [List.range_succ, List.filter_append, List.map_append]
  congr 1
  cases h : rows.any (mvB k) <;> simp [h]
theorem stL_len (rows : List ByteArray) (n : Nat) : (stL rows n).length ≤ n := by
  unfold stL
  rw [List.length_map]
  exact Nat.le_trans (List.length_filter_le _ _) (by simp)
theorem mvB_get {r : ByteArray} {i : Nat} (hi : i < r.size) : mvB i r = decide (r[i].toNat ≠ 49 + i) := by unfold mvB; rw [getD_bs r i hi]
set_option maxRecDepth 100000 in
set_option maxHeartbeats 400000 in
theorem still1_any (r : ByteArray) (i Bx : Nat) (W : World) (hi : i < r.size) (h8 : r.size ≤ 8) (hc : W.cell? ⟨Bx, 0, none⟩ = some (.int .i64 (i : Int))) :
    Calls Try.prog 94 #[.string r, .pointer (some ⟨Bx, 0, none⟩)] W fun e w' => e = .returned (.bool (mvB i r)) ∧ ∃ d, w' = W.drewN d := by
  have E : Hid ((((r[i].toNat : Int) != 49 + (i : Int))) = mvB i r) := by
    unfold Hid
    rw [mvB_get hi]
    by_cases h : r[i].toNat = 49 + i
    · simp [h]
    · have : (r[i].toNat : Int) ≠ 49 + (i : Int) := by omega
      simp [h, this]
  have i1 : (0 : Int) ≤ (i : Int) := by omega
  have i2 : (i : Int) < (r.size : Int) := by omega
  have i3 : (i : Int) ≤ 8 := by omega
  have j1 : IntKind.i64.wrap (49 + (i : Int)) = 49 + (i : Int) := IntWalk.i64_in _ (by omega)
  have j2 : IntKind.u8.wrap (49 + (i : Int)) = 49 + (i : Int) := IntWalk.u8_in _ (by omega)
  go_enter Try.func94, Try.ntmps94
  go_wp2
  go_quiet (fail)
  go_wp2
  go_ret
  exact ⟨ret_b E.out.symm, _, rfl⟩
set_option maxRecDepth 100000 in
set_option maxHeartbeats 1000000 in
theorem indexFunc_any (A : Option Addr) (n c : Nat) (rows : List ByteArray) (i m Bx : Nat) (w : World) (hn : n ≤ 1048576) (hr : Rd w A n (strsV rows)) (him : i < m) (h8 : m ≤ 8) (hz : ∀ r ∈ rows, r.size = m) (hc : w.cell? ⟨Bx, 0, none⟩ = some (.int .i64 (i : Int))) :
    Calls Try.prog 101 #[.slice A n c, .func (.func 94) #[] #[.pointer (some ⟨Bx, 0, none⟩)]] w fun e w' => ∃ q : Int, e = .returned (.int .i64 q) ∧ (∃ d, w' = w.drewN d) ∧ decide ((0 : Int) ≤ q) = rows.any (mvB i) := by
  have Hr := Lib.hid hr
  have Hl := Lib.hid hr.slen
  have Hz := Lib.hid hz
  have HC := Lib.hid hc
  have eg := enters_of Try.func94 (by kernel_rfl) rfl
  clear hr hz hc
  go_enter Try.func101, Try.ntmps101
  go_wp2
  go_loopw [8] (fun i2 wr => ∃ k d : Nat, k ≤ n ∧ i2 = .int .i64 k ∧ wr = w.drewN d ∧ Hid (∀ j (hj : j < rows.length), j < k → mvB i rows[j] = false)) (fun i2 _ => n - (intOf i2).toNat)
  case atStart => exact ⟨0, 0, by omega, rfl, rfl, fun j _ hj => by omega⟩
  case round =>
    obtain ⟨k, d, hk, rfl, rfl, HK⟩ := hrel
    by_cases hlt : k < n
    · obtain ⟨b, off, rfl, hbs, hcl⟩ := Hr.out.str hlt
      have hkl : k < rows.length := by have := Hl.out; omega
      have hsz := Hz.out _ (List.getElem_mem hkl)
      have HP : Hid (∀ d2, Calls Try.prog 94 (#[.string rows[k]] ++ #[.pointer (some ⟨Bx, 0, none⟩)]) (w.drewN d2) fun e w' => e = .returned (.bool (mvB i rows[k])) ∧ ∃ d3, w' = (w.drewN d2).drewN d3) := fun d2 => still1_any rows[k] i Bx (w.drewN d2) (by omega) (by omega) HC.out
      have HKk : Hid (mvB i rows[k] = false → ∀ j (hj : j < rows.length), j < k + 1 → mvB i rows[j] = false) := fun h j hj hj2 => by
        by_cases e : j = k
        · subst e; exact h
        · exact HK.out j hj (by omega)
      have HY : Hid (mvB i rows[k] = true → rows.any (mvB i) = true) := fun h => List.any_eq_true.2 ⟨_, List.getElem_mem hkl, h⟩
      obtain ⟨s, hs⟩ : ∃ s, s = rows[k] := ⟨_, rfl⟩
      rw [← hs] at hcl HP HKk HY
      obtain ⟨q, hq⟩ : ∃ q, q = mvB i s := ⟨_, rfl⟩
      rw [← hq] at HP HKk HY
      have HPd := Lib.hid (HP.out d)
      have i1 : (k : Int) < (n : Int) := by omega
      clear hs hq hsz
      cases q with
      | true =>
        have E := HY.out rfl
        have E2 := Lib.hid E
        clear E
        go_wp2_with (go_at_call 94; refine (HPd.out).mono ?_; rintro e x ⟨rfl, d3, rfl⟩)
        go_ret
        exact ⟨_, rfl, ⟨_, rfl⟩, by rw [E2.out]; simp⟩
      | false =>
        have E2 := Lib.hid (HKk.out rfl)
        go_wp2_with (go_at_call 94; refine (HPd.out).mono ?_; rintro e x ⟨rfl, d3, rfl⟩)
        go_roundw
        case rel => exact ⟨k + 1, d + d3, by omega, by go_num, rfl, E2.out⟩
        case measure => (simp [intOf] <;> omega)
    · have E : Hid (rows.any (mvB i) = false) := by
        unfold Hid
        rw [List.any_eq_false]
        intro x hx
        obtain ⟨j, hj, rfl⟩ := List.getElem_of_mem hx
        rw [HK.out j hj (by have := Hl.out; omega)]; simp
      go_wp2
      go_ret
      exact ⟨-1, rfl, ⟨_, rfl⟩, by rw [E.out]; simp⟩
set_option maxRecDepth 100000 in
set_option maxHeartbeats 400000 in
theorem containsFunc_any (A : Option Addr) (n c : Nat) (rows : List ByteArray) (i m Bx : Nat) (w : World) (hn : n ≤ 1048576) (hr : Rd w A n (strsV rows)) (him : i < m) (h8 : m ≤ 8) (hz : ∀ r ∈ rows, r.size = m) (hc : w.cell? ⟨Bx, 0, none⟩ = some (.int .i64 (i : Int))) :
    Calls Try.prog 93 #[.slice A n c, .func (.func 94) #[] #[.pointer (some ⟨Bx, 0, none⟩)]] w fun e w' => e = .returned (.bool (rows.any (mvB i))) ∧ ∃ d, w' = w.drewN d := by
  have HI := Lib.hid (indexFunc_any A n c rows i m Bx w hn hr him h8 hz hc)
  obtain ⟨q, hq⟩ : ∃ q, q = rows.any (mvB i) := ⟨_, rfl⟩
  rw [← hq] at HI ⊢
  clear hq hr hz hc
  go_enter Try.func93, Try.ntmps93
  go_wp2_with fail
  refine (HI.out).mono ?_
  rintro e w' ⟨r, rfl, ⟨d, rfl⟩, hrr⟩
  have HR := Lib.hid hrr
  cases q with
  | true =>
    have i1 : (0 : Int) ≤ r := by simpa using hrr
    clear hrr
    go_wp2
    go_ret
    exact ⟨by first | rfl | (exact ret_b (by simp; omega)) | (exact ret_b HR.out.symm), _, rfl⟩
  | false =>
    have i1 : r < (0 : Int) := by simpa using hrr
    clear hrr
    go_wp2
    go_ret
    exact ⟨by first | rfl | (exact ret_b (by simp; omega)) | (exact ret_b HR.out.symm), _, rfl⟩
set_option maxRecDepth 100000 in
set_option maxHeartbeats 1000000 in
theorem still_any (m : Nat) (A : Option Addr) (n c : Nat) (rows : List ByteArray) (W : World) (h8 : m ≤ 8) (hn : n ≤ 1048576) (hr : Rd W A n (strsV rows)) (hz : ∀ r ∈ rows, r.size = m) :
    Calls Try.prog 73 #[.int .i64 (m : Int), .slice A n c] W (RetS 3 (intsV (natI (stL rows m))) W) := by
  have Hr := Lib.hid hr
  have HCF : Hid (∀ (i Bx : Nat) (w : World), Below W.heap.size W w → i < m → w.cell? ⟨Bx, 0, none⟩ = some (.int .i64 (i : Int)) → Calls Try.prog 93 #[.slice A n c, .func (.func 94) #[] #[.pointer (some ⟨Bx, 0, none⟩)]] w fun e w' => e = .returned (.bool (rows.any (mvB i))) ∧ ∃ d, w' = w.drewN d) := fun i Bx w hb him hc => containsFunc_any A n c rows i m Bx w hn (hr.below hb) him h8 hz hc
  have HS : Hid (∀ k, stL rows (k + 1) = stL rows k ++ (if rows.any (mvB k) = true then [] else [k + 1])) := stL_succ rows
  have HL : Hid (∀ k, (stL rows k).length ≤ k) := stL_len rows
  clear hr hz
  go_enter Try.func73, Try.ntmps73
  go_wp2
  go_loopw [5, 9] (fun l i wr => ∃ (k L : Nat) (A3 : Option Addr) (c3 : Nat), i = .int .i64 k ∧ l = .slice A3 L c3 ∧ k ≤ m ∧ L ≤ k ∧ Hid (Own wr 3 W.heap.size wr.heap.size A3 L c3 (intsV (natI (stL rows k)))) ∧ Hid (Below W.heap.size W wr)) (fun _ i _ => m - (intOf i).toNat)
  case atStart => exact ⟨0, 0, _, _, rfl, rfl, by omega, by omega, own_empty W 3, below_alloc _ _⟩
  case round =>
    obtain ⟨k, L, A3, c3, rfl, rfl, hk, hL, HO, HB⟩ := hrel
    by_cases hlt : k < m
    · have HCk := Lib.hid (HCF.out k wr.heap.size (wr.alloc (.cells #[.int .i64 (k : Int)] 3)) (HB.out.trans ((below_alloc wr _).mono HB.out.size)) hlt (by simp))
      have HSk := HS.out k
      obtain ⟨q, hq⟩ : ∃ q, q = rows.any (mvB k) := ⟨_, rfl⟩
      rw [← hq] at HCk HSk
      have i1 : (k : Int) < (m : Int) := by omega
      clear hq
      cases q with
      | true =>
        have HSt : Hid (stL rows (k + 1) = stL rows k) := by unfold Hid; rw [HSk]; simp
        clear HSk
        go_wp2_with fail
        refine (HCk.out).mono ?_
        rintro e x ⟨rfl, d, rfl⟩
        obtain ⟨y, hy⟩ : ∃ y, y = (wr.alloc (.cells #[.int .i64 (k : Int)] 3)).drewN d := ⟨_, rfl⟩
        rw [← hy]
        have hyc : y.cell? ⟨wr.heap.size, 0, none⟩ = some (.int .i64 (k : Int)) := by rw [hy]; exact (show (wr.alloc (.cells #[.int .i64 (k : Int)] 3)).cell? ⟨wr.heap.size, 0, none⟩ = _ by simp)
        have hyb : Below wr.heap.size wr y := by rw [hy]; exact below_drewN' (below_alloc _ _) _
        have HOy : Hid (Own y 3 W.heap.size y.heap.size A3 L c3 (intsV (natI (stL rows k)))) := (HO.out.below hyb).mono (Nat.le_refl _) hyb.size
        have HBy : Hid (Below W.heap.size W y) := HB.out.trans (hyb.mono HB.out.size)
        clear hy hyb
        go_wp2
        go_roundw
        case rel => exact ⟨k + 1, L, A3, c3, by go_num, rfl, by omega, by omega, by unfold Hid; rw [HSt.out]; exact HOy.out, HBy.out⟩
        case measure => (simp [intOf] <;> omega)
      | false =>
        have HSt : Hid (stL rows (k + 1) = stL rows k ++ [k + 1]) := by unfold Hid; rw [HSk]; simp
        clear HSk
        go_wp2_with fail
        refine (HCk.out).mono ?_
        rintro e x ⟨rfl, d, rfl⟩
        obtain ⟨y, hy⟩ : ∃ y, y = (wr.alloc (.cells #[.int .i64 (k : Int)] 3)).drewN d := ⟨_, rfl⟩
        rw [← hy]
        have hyc : y.cell? ⟨wr.heap.size, 0, none⟩ = some (.int .i64 (k : Int)) := by rw [hy]; exact (show (wr.alloc (.cells #[.int .i64 (k : Int)] 3)).cell? ⟨wr.heap.size, 0, none⟩ = _ by simp)
        have hyb : Below wr.heap.size wr y := by rw [hy]; exact below_drewN' (below_alloc _ _) _
        have HOy : Hid (Own y 3 W.heap.size y.heap.size A3 L c3 (intsV (natI (stL rows k)))) := (HO.out.below hyb).mono (Nat.le_refl _) hyb.size
        have HBy : Hid (Below W.heap.size W y) := HB.out.trans (hyb.mono HB.out.size)
        clear hy hyb
        go_wp2_with (at_builtin; refine wpList_append1x y rfl (.tmp 16) (.tmp 19) 42 rfl 3 (.int .i64 0) 8 Try.underlying42 info_int rfl W.heap.size A3 L c3 _ (.int .i64 ((k : Int) + 1)) rfl rfl rfl HOy.out (by omega) (by omega) HBy.out.size ?_; intro A4 c4 w4 ho4 hx4 hsz4 hat4)
        have HO4 : Hid (Own w4 3 W.heap.size w4.heap.size A4 (L + 1) c4 (intsV (natI (stL rows (k + 1))))) := by
          refine ho4.congr ?_
          rw [HSt.out, natI_app, intsV_app]; rfl
        have HB4 : Hid (Below W.heap.size W w4) := HBy.out.trans (HOy.out.below_ hx4 HBy.out.size)
        clear ho4 hx4 hat4
        go_roundw
        case rel => exact ⟨k + 1, L + 1, A4, c4, by go_num, rfl, by omega, by omega, HO4.out, HB4.out⟩
        case measure => (simp [intOf] <;> omega)
    · obtain rfl : k = m := by omega
      go_wp2
      go_ret
      exact ⟨_, _, _, rfl, HO.out, HB.out⟩
end Go.Proofs.Ytbmabfgnmafooaa
