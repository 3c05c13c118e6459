/- RowsOf, of the reference and of the program: what each returns. -/
import Derived.Test.YtgpjbmlemnjhfaaWalkQ
import Derived.Test.YtgpjbmlemnjhfaaWalkB
import Derived.Test.YtgpjbmlemnjhfaaNest2
namespace Go.Proofs.Ytgpjbmlemnjhfaa
open Go.RowKit
set_option linter.unusedVariables false

def getZ (zss : List (List Int)) (k i : Nat) : Int := (zss.getD k []).getD i 0
def colL (zss : List (List Int)) (i : Nat) : Nat → List UInt8
  | 0 => List.replicate zss.length 0
  | k + 1 => (colL zss i k).set (getZ zss k i - 1).toNat (UInt8.ofNat (49 + k))
theorem colL_len (zss : List (List Int)) (i : Nat) : ∀ k, (colL zss i k).length = zss.length
  | 0 => by simp [colL]
  | k + 1 => by simp only [colL, List.length_set]; exact colL_len zss i k
def wide (zss : List (List Int)) : Nat := (zss.getD 0 []).length
structure PathsOK (zss : List (List Int)) : Prop where
  c1 : 3 ≤ zss.length ∧ zss.length ≤ 8
  c2 : 1 ≤ wide zss ∧ wide zss ≤ 800
  c3 : ∀ k, k < zss.length → (zss.getD k []).length = wide zss
  c4 : ∀ k, k < zss.length → ∀ i, i < wide zss → 1 ≤ getZ zss k i ∧ getZ zss k i ≤ zss.length
  c5 : ∀ i, i < wide zss → IsRow (colL zss i zss.length)
noncomputable def ok_RowsOf (zss : List (List Int)) : Bool := cb (PathsOK zss)
def colsL (zss : List (List Int)) (k : Nat) : List ByteArray := (List.range k).map fun i => mkS (colL zss i zss.length)
theorem colsL_succ (zss : List (List Int)) (k : Nat) : colsL zss (k + 1) = colsL zss k ++ [mkS (colL zss k zss.length)] := by simp [colsL, List.range_succ]
noncomputable def out_RowsOf (zss : List (List Int)) : List ByteArray := if ok_RowsOf zss = true then colsL zss (wide zss) else []
theorem len_RowsOf (zss : List (List Int)) (hn : zss.length ≤ 1048576) : (out_RowsOf zss).length ≤ 4194304 := by
  unfold out_RowsOf
  split
  · rename_i h
    have h2 := (of_cb h).c2
    simp [colsL]; omega
  · simp
theorem no_RowsOf {zss : List (List Int)} (h : ¬ PathsOK zss) : ok_RowsOf zss = false ∧ out_RowsOf zss = [] := by
  have h1 : ok_RowsOf zss = false := cb_false h
  refine ⟨h1, ?_⟩
  unfold out_RowsOf
  rw [h1]; simp
theorem info_u8r : (Try.prog.info? 5).map (fun i => (i.zero, i.size, i.bytes)) = some (some (.int .u8 0), 1, 1) := by kernel_rfl
/-- what the walk reads -/
theorem paths_open {W : World} {A : Option Addr} {n : Nat} {zss : List (List Int)} (h : IntssIn W A n zss) (h0 : 0 < n) : ∃ (b off : Nat) (r : Nat → Row), A = some ⟨b, off, none⟩ ∧
    ∀ w, Below W.heap.size W w → ∀ k, k < n → w.cell? ⟨b, off + k, none⟩ = some (.slice (r k).1 (r k).2.1 (r k).2.2) ∧ (r k).2.1 = (zss.getD k []).length ∧ Rd w (r k).1 (r k).2.1 (intsV (zss.getD k [])) ∧
      ∀ i, i < (zss.getD k []).length → ∃ b2 o2, (r k).1 = some ⟨b2, o2, none⟩ ∧ w.cell? ⟨b2, o2 + i, none⟩ = some (.int .i64 (getZ zss k i)) := by
  obtain ⟨rs, hr⟩ := h
  have hnl := hr.nlen
  obtain ⟨b, off, _, rfl, _, _, _⟩ := hr.o.row h0
  refine ⟨b, off, fun k => rs.getD k (none, 0, 0), rfl, fun w hw k hk => ?_⟩
  obtain ⟨b', off', r, e, _, hrk, hc⟩ := (hr.below hw).o.row hk
  injection e with e; injection e with e1 e2; subst e1 e2
  obtain ⟨z, hz⟩ := get_of_len hr.len hrk
  have hrow := (hr.below hw).row k r z hrk hz
  have e1 : rs.getD k (none, 0, 0) = r := getD_of hrk
  have e2 : zss.getD k [] = z := getD_of hz
  simp only [e1, e2]
  refine ⟨hc, hrow.ilen.symm, hrow, fun i hi => ?_⟩
  obtain ⟨b2, o2, e3, _, hc2⟩ := hrow.int (k := i) (by rw [← hrow.ilen]; exact hi)
  refine ⟨b2, o2, e3, ?_⟩
  rw [hc2]
  unfold getZ
  rw [e2]
  simp [List.getElem?_eq_getElem hi]
set_option maxRecDepth 100000 in
set_option maxHeartbeats 4000000 in
theorem im_RowsOf (A : Option Addr) (n c : Nat) (zss : List (List Int)) (W : World) (hr : IntssIn W A n zss) (ht : tot zss ≤ 1048576) (hl : zss.length ≤ 1048576) :
    Calls Try.prog 31 #[.slice A n c] W (RetSB 9 (strsV (out_RowsOf zss)) (ok_RowsOf zss) W) := by
  have HIs : Hid (∀ a w, Calls Try.prog 63 #[.int .i64 a] w fun e w' => e = .returned (.bool (inB a 3 8)) ∧ w = w') := fun a w => isStage_any a w
  have hnl := hr.nlen
  have hnb := hr.lenB
  by_cases h1n : ¬ (3 ≤ n ∧ n ≤ 8)
  · have HT := Lib.hid (no_RowsOf (zss := zss) fun h => h1n (by have := h.c1; omega))
    have hin : inB (n : Int) 3 8 = false := by unfold inB; simp; omega
    clear hr hnl h1n
    go_enter Try.func31, Try.ntmps31
    go_wp2_with (go_at_call 63; refine (HIs.out _ _).mono ?_; rintro e w1 ⟨rfl, rfl⟩)
    go_ret2
    refine ⟨none, 0, 0, ret_slb HT.out.1, ?_, Below.refl _ _⟩
    rw [HT.out.2]; exact Own.nil _ _ _ _
  have h1 : 3 ≤ n ∧ n ≤ 8 := Classical.not_not.1 h1n
  have hin : inB (n : Int) 3 8 = true := by unfold inB; simp; omega
  obtain ⟨b, off, r, rfl, hP⟩ := paths_open hr (by omega)
  have HP := Lib.hid hP
  have h0 := hP W (Below.refl _ _) 0 (by omega)
  have hc0 := h0.1
  rw [Nat.add_zero] at hc0
  have hM0 : (r 0).2.1 = wide zss := h0.2.1
  obtain ⟨⟨rA, M, rc⟩, hr0⟩ : ∃ x, x = r 0 := ⟨_, rfl⟩
  rw [← hr0] at hc0 hM0
  simp only at hc0 hM0
  have i0 : (0 : Int) < (n : Int) := by omega
  have i0' : 0 < n := by omega
  have hMb : M ≤ 9223372036854775807 := by have h5 := h0.2.2.1.lenB; rw [← hr0] at h5; exact h5
  clear hr hP h0 h1n
  by_cases h2a : ¬ 1 ≤ M
  · have HT := Lib.hid (no_RowsOf (zss := zss) fun h => h2a (by have := h.c2; omega))
    have j1 : (M : Int) < 1 := by omega
    clear hnl h1 h2a hM0 hr0
    go_enter Try.func31, Try.ntmps31
    go_wp2_with (go_at_call 63; refine (HIs.out _ _).mono ?_; rintro e w1 ⟨rfl, rfl⟩)
    go_ret2
    refine ⟨none, 0, 0, ret_slb HT.out.1, ?_, Below.refl _ _⟩
    rw [HT.out.2]; exact Own.nil _ _ _ _
  by_cases h2b : ¬ M ≤ 800
  · have HT := Lib.hid (no_RowsOf (zss := zss) fun h => h2b (by have := h.c2; omega))
    have j1 : (800 : Int) < (M : Int) := by omega
    have j2 : (1 : Int) ≤ (M : Int) := by omega
    clear hnl h1 h2b hM0 hr0
    go_enter Try.func31, Try.ntmps31
    go_wp2_with (go_at_call 63; refine (HIs.out _ _).mono ?_; rintro e w1 ⟨rfl, rfl⟩)
    go_ret2
    refine ⟨none, 0, 0, ret_slb HT.out.1, ?_, Below.refl _ _⟩
    rw [HT.out.2]; exact Own.nil _ _ _ _
  have h2 : 1 ≤ M ∧ M ≤ 800 := by omega
  have j1 : (1 : Int) ≤ (M : Int) := by omega
  have j2 : (M : Int) ≤ 800 := by omega
  clear h2a h2b
  have HM0 := Lib.hid hM0
  have HNL := Lib.hid hnl
  have HR0 := Lib.hid hr0
  clear hM0 hnl hr0
  have HBe : Hid (∀ x w, Calls Try.prog 64 #[.int .i64 (n : Int), .int .i64 x] w fun e w' => e = .returned (.bool (inB x 1 n)) ∧ w = w') := fun x w => isBell_any (n : Int) x w
  have HRow : Hid (∀ s : ByteArray, s.size ≤ 8 → ∀ w, Calls Try.prog 43 #[.string s] w fun e w' => e = .returned (.bool (rowB s)) ∧ w = w') := fun s h w => GoodRow_any s w (by unfold maxLen; omega)
  go_enter Try.func31, Try.ntmps31
  go_wp2_with (go_at_call 63; refine (HIs.out _ _).mono ?_; rintro e w1 ⟨rfl, rfl⟩)
  go_loop [33] (fun i => ∃ k : Nat, i = .int .i64 k ∧ k ≤ n ∧ Hid (∀ j, j < k → (zss.getD j []).length = M)) (fun i => n - (intOf i).toNat)
  case atStart => exact ⟨0, rfl, by omega, fun j hj => by omega⟩
  case round =>
    obtain ⟨k, rfl, hk, HT⟩ := hrel
    by_cases hlt : k < n
    · obtain ⟨hc1, hl1, hrd, _⟩ := HP.out W (Below.refl _ _) k hlt
      obtain ⟨⟨A1, n1, c1⟩, hr1⟩ : ∃ x, x = r k := ⟨_, rfl⟩
      rw [← hr1] at hc1 hl1 hrd
      simp only at hc1 hl1 hrd
      have i1 : (k : Int) < (n : Int) := by omega
      have hnb1 := hrd.lenB
      by_cases he : n1 = M
      · have hne : ((n1 : Int) != (M : Int)) = false := by simp; omega
        have HN : Hid (∀ j, j < k + 1 → (zss.getD j []).length = M) := fun j hj => by
          by_cases e : j = k
          · subst e; omega
          · exact HT.out j (by omega)
        clear hrd hr1 hl1 he
        go_wp2
        go_round
        case rel => exact ⟨k + 1, by go_num, by omega, HN.out⟩
        case measure => (simp [intOf] <;> omega)
      · have hne : ((n1 : Int) != (M : Int)) = true := by simp; omega
        have HF := Lib.hid (no_RowsOf (zss := zss) fun h => he (by have := h.c3 k (by rw [HNL.out]; exact hlt); have := HM0.out; omega))
        clear hrd hr1 hl1 he
        go_wp2
        go_ret2
        refine ⟨none, 0, 0, ret_slb HF.out.1, ?_, Below.refl _ _⟩
        rw [HF.out.2]; exact Own.nil _ _ _ _
    · obtain rfl : k = n := by omega
      have HA := HT
      clear HT hlt hk
      have hbA : Below W.heap.size W (W.alloc (.cells #[] 9)) := below_alloc _ _
      have hcA : (W.alloc (.cells #[] 9)).cell? ⟨b, off, none⟩ = some (.slice rA M rc) := by
        have h5 := (HP.out _ hbA 0 i0').1
        rw [← HR0.out, Nat.add_zero] at h5; exact h5
      go_wp2
      go_loopw [7, 50] (fun l i wr => ∃ (q : Nat) (A3 : Option Addr) (c3 : Nat), i = .int .i64 q ∧ l = .slice A3 q c3 ∧ q ≤ M ∧ Hid (∀ j, j < q → (∀ k2, k2 < k → 1 ≤ getZ zss k2 j ∧ getZ zss k2 j ≤ (k : Int)) ∧ IsRow (colL zss j zss.length)) ∧ Hid (Own wr 9 W.heap.size wr.heap.size A3 q c3 (strsV (colsL zss q))) ∧ Hid (Below W.heap.size W wr)) (fun _ i _ => M - (intOf i).toNat)
      case atStart => exact ⟨0, _, 0, rfl, rfl, by omega, fun j hj => by omega, (own_empty W 9), hbA⟩
      case round =>
        clear hcA
        obtain ⟨q, A3, c3, rfl, rfl, hq, HJ, HO, HB⟩ := hrel
        obtain ⟨wo, rfl⟩ : ∃ w, w = wr := ⟨_, rfl⟩
        by_cases hlt2 : q < M
        · have i2 : (q : Int) < (M : Int) := by omega
          have hws : W.heap.size ≤ wo.heap.size := HB.out.size
          obtain ⟨w1, hmk, hmem, hbel, hlt1⟩ := make_bytes (P := Try.prog) wo 64 5 Try.underlying64 info_u8r k (by omega)
          have HMm : Hid (Mem w1 wo.heap.size (u8s (colL zss q 0))) := by
            refine hmem.congr ?_
            simp only [colL]; rw [HNL.out]
          have HB1 := Lib.hid hbel
          clear hmem hbel
          go_wp2
          go_loopw [57] (fun i wr => ∃ k2 : Nat, i = .int .i64 k2 ∧ k2 ≤ k ∧ Hid (∀ j, j < k2 → 1 ≤ getZ zss j q ∧ getZ zss j q ≤ (k : Int)) ∧ Hid (Mem wr wo.heap.size (u8s (colL zss q k2))) ∧ Hid (Below wo.heap.size wo wr) ∧ wo.heap.size < wr.heap.size) (fun i _ => k - (intOf i).toNat)
          case atStart => exact ⟨0, rfl, by omega, fun j hj => by omega, HMm.out, HB1.out, hlt1⟩
          case round =>
            clear HMm HB1 hlt1 hmk
            obtain ⟨k2, rfl, hk2, HZ, HMm, HBw, hWr⟩ := hrel
            have HBB : Hid (Below W.heap.size W wr) := HB.out.trans (HBw.out.mono hws)
            by_cases hlt3 : k2 < k
            · obtain ⟨hc1, hl1, hrd, hcell⟩ := HP.out wr HBB.out k2 hlt3
              have hlen := HA.out k2 hlt3
              obtain ⟨b2, o2, hA2, hcx⟩ := hcell q (by omega)
              obtain ⟨⟨A1, n1, c1⟩, hr1⟩ : ∃ x, x = r k2 := ⟨_, rfl⟩
              rw [← hr1] at hc1 hl1 hA2
              simp only at hc1 hl1 hA2
              subst hA2
              have i3 : (k2 : Int) < (k : Int) := by omega
              have i4 : (q : Int) < (n1 : Int) := by omega
              have hll : (colL zss q k2).length = k := by rw [colL_len, HNL.out]
              by_cases hz : 1 ≤ getZ zss k2 q ∧ getZ zss k2 q ≤ (k : Int)
              · skip
                obtain ⟨p, hp⟩ : ∃ p : Nat, getZ zss k2 q = (p : Int) + 1 := ⟨(getZ zss k2 q - 1).toNat, by omega⟩
                have hpk : p < k := by omega
                have HST : Hid (colL zss q (k2 + 1) = (colL zss q k2).set p (UInt8.ofNat (49 + k2))) := by
                  unfold Hid
                  simp only [colL]
                  rw [hp, show ((p : Int) + 1 - 1).toNat = p by omega]
                rw [hp] at hcx
                have e1 : ((UInt8.ofNat (49 + k2)).toNat : Int) = 49 + (k2 : Int) := by rw [UInt8.toNat_ofNat', Nat.mod_eq_of_lt (by omega)]; omega
                have HM2 : Hid (Mem (wr.setCell ⟨wo.heap.size, p, none⟩ (.int .u8 (49 + (k2 : Int)))) wo.heap.size (u8s (colL zss q (k2 + 1)))) := by
                  refine (HMm.out.set_ p _).congr ?_
                  rw [HST.out, ← e1, u8s_set]
                have hlr : p < (u8s (colL zss q k2)).length := by rw [u8s_length, hll]; exact hpk
                obtain ⟨v0, hcz⟩ : ∃ v, wr.cell? ⟨wo.heap.size, p, none⟩ = some v := ⟨_, HMm.out.get hlr⟩
                have hfz : wr.frozen? ⟨wo.heap.size, p, none⟩ = false := HMm.out.free hlr
                have HB2 : Hid (Below wo.heap.size wo (wr.setCell ⟨wo.heap.size, p, none⟩ (.int .u8 (49 + (k2 : Int))))) := HBw.out.setCell (Nat.le_refl _) _
                have HZ2 : Hid (∀ j, j < k2 + 1 → 1 ≤ getZ zss j q ∧ getZ zss j q ≤ (k : Int)) := fun j hj => by
                  by_cases e : j = k2
                  · subst e; exact hz
                  · exact HZ.out j (by omega)
                have i5 : (p : Int) < (k : Int) := by omega
                have hW2 : wo.heap.size < (wr.setCell ⟨wo.heap.size, p, none⟩ (.int .u8 (49 + (k2 : Int)))).heap.size := by simpa using hWr
                have hbe : inB ((p : Int) + 1) 1 (k : Int) = true := by unfold inB; simp; omega
                have HBx := Lib.hid (HBe.out ((p : Int) + 1) wr)
                clear hrd hcell hr1 hlr hll hp e1 hz hl1 hlen
                go_wp2_with (go_at_call 64; refine HBx.out.mono ?_; rintro e w2 ⟨rfl, rfl⟩)
                go_roundw
                case rel => exact ⟨k2 + 1, by go_num, by omega, HZ2.out, HM2.out, HB2.out, hW2⟩
                case measure => (simp [intOf] <;> omega)
              · have HF := Lib.hid (no_RowsOf (zss := zss) fun h => hz (by have h5 := h.c4 k2 (by rw [HNL.out]; exact hlt3) q (by rw [← HM0.out]; exact hlt2); rw [HNL.out] at h5; exact h5))
                have hbe : inB (getZ zss k2 q) 1 (k : Int) = false := by unfold inB; simp; omega
                have HBx := Lib.hid (HBe.out (getZ zss k2 q) wr)
                obtain ⟨x, hx⟩ : ∃ x, x = getZ zss k2 q := ⟨_, rfl⟩
                rw [← hx] at hcx hbe HBx
                clear hrd hcell hr1 hll hz hx hl1 hlen
                go_wp2_with (go_at_call 64; refine HBx.out.mono ?_; rintro e w2 ⟨rfl, rfl⟩)
                go_ret2
                refine ⟨none, 0, 0, ret_slb HF.out.1, ?_, HBB.out⟩
                rw [HF.out.2]; exact Own.nil _ _ _ _
            · obtain rfl : k2 = k := by omega
              have hcv0 : ∀ d, Mem (wr.drewN d) wo.heap.size (u8s (colL zss q k2)) := fun d => HMm.out.drewN d
              have hll : (colL zss q k2).length = k2 := by rw [colL_len, HNL.out]
              have hcv := fun d => (hcv0 d).back (P := Try.prog) 64 9 5 k2 k2 hll.symm Try.underlying64 Try.underlying5 Try.underlying9
              have hcvw := HMm.out.back (P := Try.prog) 64 9 5 k2 k2 hll.symm Try.underlying64 Try.underlying5 Try.underlying9
              have HCS : Hid (colsL zss (q + 1) = colsL zss q ++ [mkS (colL zss q k2)]) := by unfold Hid; rw [colsL_succ, HNL.out]
              have hrb : rowB (mkS (colL zss q k2)) = decide (IsRow (colL zss q k2)) := by unfold rowB; rw [bs_mkS]
              have HF : Hid (¬ IsRow (colL zss q k2) → ok_RowsOf zss = false ∧ out_RowsOf zss = []) := fun h5 => no_RowsOf fun h => h5 (by have h6 := h.c5 q (by rw [← HM0.out]; exact hlt2); rwa [HNL.out] at h6)
              have HJ2 : Hid (IsRow (colL zss q k2) → ∀ j, j < q + 1 → (∀ k3, k3 < k2 → 1 ≤ getZ zss k3 j ∧ getZ zss k3 j ≤ (k2 : Int)) ∧ IsRow (colL zss j zss.length)) := fun h5 j hj => by
                by_cases e : j = q
                · subst e; exact ⟨HZ.out, by rw [HNL.out]; exact h5⟩
                · exact HJ.out j (by omega)
              have hsz : (mkS (colL zss q k2)).size ≤ 8 := by rw [size_mkS, hll]; omega
              obtain ⟨cl, hcl⟩ : ∃ x, x = colL zss q k2 := ⟨_, rfl⟩
              rw [← hcl] at hcv hcvw HCS hrb HF HJ2 hsz
              obtain ⟨s, hs⟩ : ∃ x, x = mkS cl := ⟨_, rfl⟩
              rw [← hs] at hcv hcvw HCS hrb hsz
              have HRw := Lib.hid (HRow.out s hsz wr)
              have HOo : Own wr 9 W.heap.size wr.heap.size A3 q c3 (strsV (colsL zss q)) := (HO.out.below HBw.out).mono (Nat.le_refl _) HBw.out.size
              have hsw : W.heap.size ≤ wr.heap.size := HBB.out.size
              clear hcv0 hcl hs hll
              by_cases hrow : IsRow cl
              · rw [decide_eq_true hrow] at hrb
                rw [hrb] at HRw
                have HJ3 := Lib.hid (HJ2.out hrow)
                clear hrow HF HJ2
                go_wp2_with first
                  | (go_at_call 43; refine HRw.out.mono ?_; rintro e w2 ⟨rfl, rfl⟩)
                  | (at_builtin; refine wpList_append1x wr rfl (.tmp 84) (.tmp 87) 28 rfl 9 (.string ByteArray.empty) 16 Try.underlying28 info_str rfl W.heap.size A3 q c3 _ (.string s) rfl rfl rfl HOo (by omega) (by omega) hsw ?_; intro A5 c5 w5 ho5 hx5 hsz5 hat5)
                have HO5 : Hid (Own w5 9 W.heap.size w5.heap.size A5 (q + 1) c5 (strsV (colsL zss (q + 1)))) := ho5.congr (by rw [HCS.out, strsV_app, strsV_one])
                have HB5 : Hid (Below W.heap.size W w5) := HBB.out.trans (HOo.below_ hx5 hsw)
                clear ho5 hx5 hat5 hsz5
                go_roundw
                case rel => exact ⟨q + 1, A5, c5, by go_num, rfl, by omega, HJ3.out, HO5.out, HB5.out⟩
                case measure => (simp [intOf] <;> omega)
              · rw [decide_eq_false hrow] at hrb
                rw [hrb] at HRw
                have HF2 := Lib.hid (HF.out hrow)
                clear hrow HF HJ2
                go_wp2_with (go_at_call 43; refine HRw.out.mono ?_; rintro e w2 ⟨rfl, rfl⟩)
                go_ret2
                refine ⟨none, 0, 0, ret_slb HF2.out.1, ?_, HBB.out⟩
                rw [HF2.out.2]; exact Own.nil _ _ _ _
        · obtain rfl : q = M := by omega
          have HT : Hid (ok_RowsOf zss = true) := cb_true {
            c1 := by rw [HNL.out]; exact h1
            c2 := by rw [← HM0.out]; exact h2
            c3 := fun j hj => by rw [← HM0.out]; exact HA.out j (by rw [← HNL.out]; exact hj)
            c4 := fun j hj i hi => by rw [HNL.out]; exact (HJ.out i (by rw [HM0.out]; exact hi)).1 j (by rw [← HNL.out]; exact hj)
            c5 := fun i hi => (HJ.out i (by rw [HM0.out]; exact hi)).2 }
          have HU : Hid (out_RowsOf zss = colsL zss q) := by unfold Hid out_RowsOf; rw [if_pos HT.out, HM0.out]
          go_wp2
          go_ret2
          refine ⟨A3, q, c3, ret_slb HT.out, ?_, HB.out⟩
          rw [HU.out]; exact HO.out
set_option maxRecDepth 100000 in
set_option maxHeartbeats 4000000 in
theorem sp_RowsOf (A : Option Addr) (n c : Nat) (zss : List (List Int)) (W : World) (hr : IntssIn W A n zss) (ht : tot zss ≤ 1048576) (hl : zss.length ≤ 1048576) :
    Calls Try.prog 29 #[.slice A n c] W (RetSB 9 (strsV (out_RowsOf zss)) (ok_RowsOf zss) W) := by
  have HIn : Hid (∀ a lo hi w, Calls Try.prog 60 #[.int .i64 a, .int .i64 lo, .int .i64 hi] w fun e w' => e = .returned (.bool (inB a lo hi)) ∧ w = w') := fun a lo hi w => l1In_any a lo hi w
  have hnl := hr.nlen
  have hnb := hr.lenB
  by_cases h1n : ¬ (3 ≤ n ∧ n ≤ 8)
  · have HT := Lib.hid (no_RowsOf (zss := zss) fun h => h1n (by have := h.c1; omega))
    have hin : inB (n : Int) 3 8 = false := by unfold inB; simp; omega
    clear hr hnl h1n
    go_enter Try.func29, Try.ntmps29
    go_wp2_with (go_at_call 60; refine (HIn.out _ _ _ _).mono ?_; rintro e w1 ⟨rfl, rfl⟩)
    go_ret2
    refine ⟨none, 0, 0, ret_slb HT.out.1, ?_, Below.refl _ _⟩
    rw [HT.out.2]; exact Own.nil _ _ _ _
  have h1 : 3 ≤ n ∧ n ≤ 8 := Classical.not_not.1 h1n
  have hin : inB (n : Int) 3 8 = true := by unfold inB; simp; omega
  obtain ⟨b, off, r, rfl, hP⟩ := paths_open hr (by omega)
  have HP := Lib.hid hP
  have h0 := hP W (Below.refl _ _) 0 (by omega)
  have hc0 := h0.1
  rw [Nat.add_zero] at hc0
  have hM0 : (r 0).2.1 = wide zss := h0.2.1
  obtain ⟨⟨rA, M, rc⟩, hr0⟩ : ∃ x, x = r 0 := ⟨_, rfl⟩
  rw [← hr0] at hc0 hM0
  simp only at hc0 hM0
  have i0 : (0 : Int) < (n : Int) := by omega
  have i0' : 0 < n := by omega
  have hMb : M ≤ 9223372036854775807 := by have h5 := h0.2.2.1.lenB; rw [← hr0] at h5; exact h5
  clear hr hP h0 h1n
  by_cases h2n : ¬ (1 ≤ M ∧ M ≤ 800)
  · have HT := Lib.hid (no_RowsOf (zss := zss) fun h => h2n (by have := h.c2; omega))
    have hin2 : inB (M : Int) 1 800 = false := by unfold inB; simp; omega
    clear hnl h1 h2n hM0 hr0
    go_enter Try.func29, Try.ntmps29
    go_wp2_with (go_at_call 60; refine (HIn.out _ _ _ _).mono ?_; rintro e w1 ⟨rfl, rfl⟩)
    go_ret2
    refine ⟨none, 0, 0, ret_slb HT.out.1, ?_, Below.refl _ _⟩
    rw [HT.out.2]; exact Own.nil _ _ _ _
  have h2 : 1 ≤ M ∧ M ≤ 800 := Classical.not_not.1 h2n
  clear h2n
  have hin2 : inB (M : Int) 1 800 = true := by unfold inB; simp; omega
  have HM0 := Lib.hid hM0
  have HNL := Lib.hid hnl
  have HR0 := Lib.hid hr0
  clear hM0 hnl hr0
  have HAl : Hid (∀ A2 n2 c2 zs w, Rd w A2 n2 (intsV zs) → Calls Try.prog 61 #[.slice A2 n2 c2, .int .i64 1, .int .i64 (n : Int)] w fun e w' => e = .returned (.bool (cb (∀ i, i < zs.length → 1 ≤ zs.getD i 0 ∧ zs.getD i 0 ≤ (n : Int)))) ∧ w = w') := fun A2 n2 c2 zs w h => l1All_any A2 n2 c2 zs 1 (n : Int) w h
  have HRow : Hid (∀ s : ByteArray, s.size ≤ 8 → ∀ w, Calls Try.prog 40 #[.string s] w fun e w' => e = .returned (.bool (rowB s)) ∧ ∃ d, w' = w.drewN d) := fun s h w => l1Row_any s w (by unfold maxLen; omega)
  go_enter Try.func29, Try.ntmps29
  go_wp2_with (go_at_call 60; refine (HIn.out _ _ _ _).mono ?_; rintro e w1 ⟨rfl, rfl⟩)
  go_loop [27] (fun i => ∃ k : Nat, i = .int .i64 k ∧ k ≤ n ∧ Hid (∀ j, j < k → (zss.getD j []).length = M ∧ ∀ i, i < M → 1 ≤ getZ zss j i ∧ getZ zss j i ≤ (n : Int))) (fun i => n - (intOf i).toNat)
  case atStart => exact ⟨0, rfl, by omega, fun j hj => by omega⟩
  case round =>
    obtain ⟨k, rfl, hk, HT⟩ := hrel
    by_cases hlt : k < n
    · obtain ⟨hc1, hl1, hrd, _⟩ := HP.out W (Below.refl _ _) k hlt
      obtain ⟨⟨A1, n1, c1⟩, hr1⟩ : ∃ x, x = r k := ⟨_, rfl⟩
      rw [← hr1] at hc1 hl1 hrd
      simp only at hc1 hl1 hrd
      have i1 : (k : Int) < (n : Int) := by omega
      have hnb1 := hrd.lenB
      by_cases he : n1 = M
      · have hne : ((n1 : Int) != (M : Int)) = false := by simp; omega
        have HA1 := Lib.hid (HAl.out A1 n1 c1 (zss.getD k []) W hrd)
        by_cases hcb : ∀ i, i < (zss.getD k []).length → 1 ≤ (zss.getD k []).getD i 0 ∧ (zss.getD k []).getD i 0 ≤ (n : Int)
        · rw [cb_true hcb] at HA1
          have HN : Hid (∀ j, j < k + 1 → (zss.getD j []).length = M ∧ ∀ i, i < M → 1 ≤ getZ zss j i ∧ getZ zss j i ≤ (n : Int)) := fun j hj => by
            by_cases e : j = k
            · subst e; exact ⟨by omega, fun i hi => hcb i (by omega)⟩
            · exact HT.out j (by omega)
          clear hcb hrd hr1 hl1 he
          go_wp2_with (go_at_call 61; refine HA1.out.mono ?_; rintro e w1 ⟨rfl, rfl⟩)
          go_round
          case rel => exact ⟨k + 1, by go_num, by omega, HN.out⟩
          case measure => (simp [intOf] <;> omega)
        · rw [cb_false hcb] at HA1
          have HF := Lib.hid (no_RowsOf (zss := zss) fun h => hcb fun i hi => by
            have h3 := h.c4 k (by rw [HNL.out]; exact hlt) i (by rw [← h.c3 k (by rw [HNL.out]; exact hlt)]; exact hi)
            rw [HNL.out] at h3; exact h3)
          clear hcb hrd hr1 hl1 he
          go_wp2_with (go_at_call 61; refine HA1.out.mono ?_; rintro e w1 ⟨rfl, rfl⟩)
          go_ret2
          refine ⟨none, 0, 0, ret_slb HF.out.1, ?_, Below.refl _ _⟩
          rw [HF.out.2]; exact Own.nil _ _ _ _
      · have hne : ((n1 : Int) != (M : Int)) = true := by simp; omega
        have HF := Lib.hid (no_RowsOf (zss := zss) fun h => he (by have := h.c3 k (by rw [HNL.out]; exact hlt); have := HM0.out; omega))
        clear hrd hr1 hl1 he
        go_wp2
        go_ret2
        refine ⟨none, 0, 0, ret_slb HF.out.1, ?_, Below.refl _ _⟩
        rw [HF.out.2]; exact Own.nil _ _ _ _
    · obtain rfl : k = n := by omega
      have HA := HT
      clear HT hlt hk
      have hcA := hc0
      go_wp2
      go_loopw [7, 49] (fun l i wr => ∃ (q : Nat) (A3 : Option Addr) (c3 : Nat), i = .int .i64 q ∧ l = .slice A3 q c3 ∧ q ≤ M ∧ Hid (∀ j, j < q → (∀ k2, k2 < k → 1 ≤ getZ zss k2 j ∧ getZ zss k2 j ≤ (k : Int)) ∧ IsRow (colL zss j zss.length)) ∧ Hid (Own wr 9 W.heap.size wr.heap.size A3 q c3 (strsV (colsL zss q))) ∧ Hid (Below W.heap.size W wr)) (fun _ i _ => M - (intOf i).toNat)
      case atStart => exact ⟨0, none, 0, rfl, rfl, by omega, fun j hj => by omega, Own.nil _ _ _ _, Below.refl _ _⟩
      case round =>
        clear hcA
        obtain ⟨q, A3, c3, rfl, rfl, hq, HJ, HO, HB⟩ := hrel
        obtain ⟨wo, rfl⟩ : ∃ w, w = wr := ⟨_, rfl⟩
        by_cases hlt2 : q < M
        · have i2 : (q : Int) < (M : Int) := by omega
          have hws : W.heap.size ≤ wo.heap.size := HB.out.size
          obtain ⟨w1, hmk, hmem, hbel, hlt1⟩ := make_bytes (P := Try.prog) wo 64 5 Try.underlying64 info_u8r k (by omega)
          have HMm : Hid (Mem w1 wo.heap.size (u8s (colL zss q 0))) := by
            refine hmem.congr ?_
            simp only [colL]; rw [HNL.out]
          have HB1 := Lib.hid hbel
          clear hmem hbel
          go_wp2
          go_loopw [56] (fun i wr => ∃ k2 : Nat, i = .int .i64 k2 ∧ k2 ≤ k ∧ Hid (∀ j, j < k2 → 1 ≤ getZ zss j q ∧ getZ zss j q ≤ (k : Int)) ∧ Hid (Mem wr wo.heap.size (u8s (colL zss q k2))) ∧ Hid (Below wo.heap.size wo wr) ∧ wo.heap.size < wr.heap.size) (fun i _ => k - (intOf i).toNat)
          case atStart => exact ⟨0, rfl, by omega, fun j hj => by omega, HMm.out, HB1.out, hlt1⟩
          case round =>
            clear HMm HB1 hlt1 hmk
            obtain ⟨k2, rfl, hk2, HZ, HMm, HBw, hWr⟩ := hrel
            have HBB : Hid (Below W.heap.size W wr) := HB.out.trans (HBw.out.mono hws)
            by_cases hlt3 : k2 < k
            · obtain ⟨hc1, hl1, hrd, hcell⟩ := HP.out wr HBB.out k2 hlt3
              have hlen := (HA.out k2 hlt3).1
              obtain ⟨b2, o2, hA2, hcx⟩ := hcell q (by omega)
              obtain ⟨⟨A1, n1, c1⟩, hr1⟩ : ∃ x, x = r k2 := ⟨_, rfl⟩
              rw [← hr1] at hc1 hl1 hA2
              simp only at hc1 hl1 hA2
              subst hA2
              have i3 : (k2 : Int) < (k : Int) := by omega
              have i4 : (q : Int) < (n1 : Int) := by omega
              have hll : (colL zss q k2).length = k := by rw [colL_len, HNL.out]
              have hz := (HA.out k2 hlt3).2 q hlt2
              obtain ⟨p, hp⟩ : ∃ p : Nat, getZ zss k2 q = (p : Int) + 1 := ⟨(getZ zss k2 q - 1).toNat, by omega⟩
              have hpk : p < k := by omega
              have HST : Hid (colL zss q (k2 + 1) = (colL zss q k2).set p (UInt8.ofNat (49 + k2))) := by
                unfold Hid
                simp only [colL]
                rw [hp, show ((p : Int) + 1 - 1).toNat = p by omega]
              rw [hp] at hcx
              have e1 : ((UInt8.ofNat (49 + k2)).toNat : Int) = 49 + (k2 : Int) := by rw [UInt8.toNat_ofNat', Nat.mod_eq_of_lt (by omega)]; omega
              have HM2 : Hid (Mem (wr.setCell ⟨wo.heap.size, p, none⟩ (.int .u8 (49 + (k2 : Int)))) wo.heap.size (u8s (colL zss q (k2 + 1)))) := by
                refine (HMm.out.set_ p _).congr ?_
                rw [HST.out, ← e1, u8s_set]
              have hlr : p < (u8s (colL zss q k2)).length := by rw [u8s_length, hll]; exact hpk
              obtain ⟨v0, hcz⟩ : ∃ v, wr.cell? ⟨wo.heap.size, p, none⟩ = some v := ⟨_, HMm.out.get hlr⟩
              have hfz : wr.frozen? ⟨wo.heap.size, p, none⟩ = false := HMm.out.free hlr
              have HB2 : Hid (Below wo.heap.size wo (wr.setCell ⟨wo.heap.size, p, none⟩ (.int .u8 (49 + (k2 : Int))))) := HBw.out.setCell (Nat.le_refl _) _
              have HZ2 : Hid (∀ j, j < k2 + 1 → 1 ≤ getZ zss j q ∧ getZ zss j q ≤ (k : Int)) := fun j hj => by
                by_cases e : j = k2
                · subst e; exact hz
                · exact HZ.out j (by omega)
              have i5 : (p : Int) < (k : Int) := by omega
              have hW2 : wo.heap.size < (wr.setCell ⟨wo.heap.size, p, none⟩ (.int .u8 (49 + (k2 : Int)))).heap.size := by simpa using hWr
              clear hrd hcell hr1 hlr hll hp e1 hz hl1 hlen
              go_wp2
              go_roundw
              case rel => exact ⟨k2 + 1, by go_num, by omega, HZ2.out, HM2.out, HB2.out, hW2⟩
              case measure => (simp [intOf] <;> omega)
            · obtain rfl : k2 = k := by omega
              have hcv0 : ∀ d, Mem (wr.drewN d) wo.heap.size (u8s (colL zss q k2)) := fun d => HMm.out.drewN d
              have hll : (colL zss q k2).length = k2 := by rw [colL_len, HNL.out]
              have hcv := fun d => (hcv0 d).back (P := Try.prog) 64 9 5 k2 k2 hll.symm Try.underlying64 Try.underlying5 Try.underlying9
              have hcvw := HMm.out.back (P := Try.prog) 64 9 5 k2 k2 hll.symm Try.underlying64 Try.underlying5 Try.underlying9
              have HCS : Hid (colsL zss (q + 1) = colsL zss q ++ [mkS (colL zss q k2)]) := by unfold Hid; rw [colsL_succ, HNL.out]
              have hrb : rowB (mkS (colL zss q k2)) = decide (IsRow (colL zss q k2)) := by unfold rowB; rw [bs_mkS]
              have HF : Hid (¬ IsRow (colL zss q k2) → ok_RowsOf zss = false ∧ out_RowsOf zss = []) := fun h5 => no_RowsOf fun h => h5 (by have h6 := h.c5 q (by rw [← HM0.out]; exact hlt2); rwa [HNL.out] at h6)
              have HJ2 : Hid (IsRow (colL zss q k2) → ∀ j, j < q + 1 → (∀ k3, k3 < k2 → 1 ≤ getZ zss k3 j ∧ getZ zss k3 j ≤ (k2 : Int)) ∧ IsRow (colL zss j zss.length)) := fun h5 j hj => by
                by_cases e : j = q
                · subst e; exact ⟨HZ.out, by rw [HNL.out]; exact h5⟩
                · exact HJ.out j (by omega)
              have hsz : (mkS (colL zss q k2)).size ≤ 8 := by rw [size_mkS, hll]; omega
              obtain ⟨cl, hcl⟩ : ∃ x, x = colL zss q k2 := ⟨_, rfl⟩
              rw [← hcl] at hcv hcvw HCS hrb HF HJ2 hsz
              obtain ⟨s, hs⟩ : ∃ x, x = mkS cl := ⟨_, rfl⟩
              rw [← hs] at hcv hcvw HCS hrb hsz
              have HRw := Lib.hid (HRow.out s hsz wr)
              have HOo : Own wr 9 W.heap.size wr.heap.size A3 q c3 (strsV (colsL zss q)) := (HO.out.below HBw.out).mono (Nat.le_refl _) HBw.out.size
              have hsw : W.heap.size ≤ wr.heap.size := HBB.out.size
              clear hcv0 hcl hs hll
              by_cases hrow : IsRow cl
              · rw [decide_eq_true hrow] at hrb
                rw [hrb] at HRw
                have HJ3 := Lib.hid (HJ2.out hrow)
                clear hrow HF HJ2
                go_wp2_with first
                  | (go_at_call 40; refine HRw.out.mono ?_; rintro e w2 ⟨rfl, d, rfl⟩)
                  | (at_builtin; refine wpList_append1x (wr.drewN d) rfl (.tmp 76) (.tmp 79) 28 rfl 9 (.string ByteArray.empty) 16 Try.underlying28 info_str rfl W.heap.size A3 q c3 _ (.string s) rfl rfl rfl (HOo.drewN d) (by omega) (by omega) hsw ?_; intro A5 c5 w5 ho5 hx5 hsz5 hat5)
                have HO5 : Hid (Own w5 9 W.heap.size w5.heap.size A5 (q + 1) c5 (strsV (colsL zss (q + 1)))) := ho5.congr (by rw [HCS.out, strsV_app, strsV_one])
                have HB5 : Hid (Below W.heap.size W w5) := (below_drewN' HBB.out d).trans ((HOo.drewN d).below_ hx5 hsw)
                clear ho5 hx5 hat5 hsz5
                go_roundw
                case rel => exact ⟨q + 1, A5, c5, by go_num, rfl, by omega, HJ3.out, HO5.out, HB5.out⟩
                case measure => (simp [intOf] <;> omega)
              · rw [decide_eq_false hrow] at hrb
                rw [hrb] at HRw
                have HF2 := Lib.hid (HF.out hrow)
                clear hrow HF HJ2
                go_wp2_with (go_at_call 40; refine HRw.out.mono ?_; rintro e w2 ⟨rfl, d, rfl⟩)
                go_ret2
                refine ⟨none, 0, 0, ret_slb HF2.out.1, ?_, below_drewN' HBB.out _⟩
                rw [HF2.out.2]; exact Own.nil _ _ _ _
        · obtain rfl : q = M := by omega
          have HT : Hid (ok_RowsOf zss = true) := cb_true {
            c1 := by rw [HNL.out]; exact h1
            c2 := by rw [← HM0.out]; exact h2
            c3 := fun j hj => by rw [← HM0.out]; exact (HA.out j (by rw [← HNL.out]; exact hj)).1
            c4 := fun j hj i hi => by rw [HNL.out]; exact (HJ.out i (by rw [HM0.out]; exact hi)).1 j (by rw [← HNL.out]; exact hj)
            c5 := fun i hi => (HJ.out i (by rw [HM0.out]; exact hi)).2 }
          have HU : Hid (out_RowsOf zss = colsL zss q) := by unfold Hid out_RowsOf; rw [if_pos HT.out, HM0.out]
          go_wp2
          go_ret2
          refine ⟨A3, q, c3, ret_slb HT.out, ?_, HB.out⟩
          rw [HU.out]; exact HO.out
end Go.Proofs.Ytgpjbmlemnjhfaa
