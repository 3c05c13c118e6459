/- OrbitsOf: the program's walk. -/
import Derived.Test.YtgpjbmlemnjhfaaWalkOi
namespace Go.Proofs.Ytgpjbmlemnjhfaa
open Go.RowKit
set_option linter.unusedVariables false

set_option maxRecDepth 100000 in
set_option maxHeartbeats 4000000 in
theorem im_OrbitsOf (A : Option Addr) (n c : Nat) (ss : List ByteArray) (N : Int) (W : World) (hr : Rd W A n (strsV ss)) (hz : ∀ s ∈ ss, s.size ≤ 1048576) (hl : ss.length ≤ 1048576) (hN : (Lit.int .i64 N).wf = true) :
    Calls Try.prog 39 #[.slice A n c, .int .i64 N] W (RetRB (out_OrbitsOf ss N) (ok_OrbitsOf ss N) W) := by
  have hzm : ∀ s ∈ ss, s.size ≤ maxLen := fun s hs => by have := hz s hs; unfold maxLen; omega
  have HS := Lib.hid (fun W => isStage_any N W)
  have HA := Lib.hid (areRowsOf_any N A n c ss W hr hzm)
  have EN : Hid (ok_OrbitsOf ss N = false → out_OrbitsOf ss N = []) := fun h => by unfold out_OrbitsOf; rw [h]; simp
  have EY : Hid (ok_OrbitsOf ss N = true → out_OrbitsOf ss N = obZ N.toNat (LO N.toNat ss) N.toNat) := fun h => by unfold out_OrbitsOf; rw [if_pos h]
  cases hst : inB N 3 8 with
  | false =>
    have HT : Hid (ok_OrbitsOf ss N = false) := by unfold Hid ok_OrbitsOf; rw [hst]; rfl
    rw [hst] at HS
    clear hst hr hz hl hN hzm HA
    go_enter Try.func39, Try.ntmps39
    go_wp2_with (go_at_call 63; refine (HS.out _).mono ?_; rintro e w1 ⟨rfl, rfl⟩)
    go_ret2
    refine ⟨none, 0, 0, [], ret_slb HT.out, ?_, Below.refl _ _⟩
    rw [EN.out HT.out]; exact OwnR.of_own (Own.nil _ _ _ _)
  | true =>
    have h38 : 3 ≤ N ∧ N ≤ 8 := by simpa [inB] using hst
    rw [hst] at HS
    cases hrw : rowsOfB N ss with
    | false =>
      have HT : Hid (ok_OrbitsOf ss N = false) := by unfold Hid ok_OrbitsOf; rw [hst, hrw]; rfl
      rw [hrw] at HA
      clear hst hr hz hl hN hzm hrw h38
      go_enter Try.func39, Try.ntmps39
      go_wp2_with first
        | (go_at_call 63; refine (HS.out _).mono ?_; rintro e w1 ⟨rfl, rfl⟩)
        | (go_at_call 73; refine HA.out.mono ?_; rintro e w1 ⟨rfl, rfl⟩)
      go_ret2
      refine ⟨none, 0, 0, [], ret_slb HT.out, ?_, Below.refl _ _⟩
      rw [EN.out HT.out]; exact OwnR.of_own (Own.nil _ _ _ _)
    | true =>
      have HT : Hid (ok_OrbitsOf ss N = true) := by unfold Hid ok_OrbitsOf; rw [hst, hrw]; rfl
      rw [hrw] at HA
      obtain ⟨m, rfl⟩ : ∃ m : Nat, N = (m : Int) := ⟨N.toNat, by omega⟩
      have h3 : 3 ≤ m := by omega
      have h8 : m ≤ 8 := by omega
      have hE := EY.out HT.out
      rw [Int.toNat_natCast] at hE
      have HE := Lib.hid hE
      have hrows := rowsOf_each hrw
      have HG : Hid (Gens m (gsL ss)) := gens_of hrows
      have HL : Hid (Lab m (gsL ss) (LO m ss)) := LO_lab hrows (by omega)
      have HRw := Lib.hid hrows
      have Hr := Lib.hid hr
      have hn : n ≤ 1048576 := by have := hr.slen; omega
      have Hsl := Lib.hid hr.slen
      obtain ⟨L, hL⟩ : ∃ L, L = LO m ss := ⟨_, rfl⟩
      rw [← hL] at HE HL
      obtain ⟨w1, hmk, hown, hbel, hlt⟩ := make_row (P := Try.prog) W 53 4 (.bool false) 1 Try.underlying53 info_bool rfl (by omega) m (by omega)
      have HS1 : Hid (Own (w1.alloc (.cells #[] 50)) 4 W.heap.size (w1.alloc (.cells #[] 50)).heap.size (some ⟨W.heap.size, 0, none⟩) m m (boolsV (List.replicate m false))) := by
        refine ((hown.below (below_alloc _ _)).mono (Nat.le_refl _) (by simp)).congr ?_
        simp [boolsV]
      have HO1 : Hid (OwnR (w1.alloc (.cells #[] 50)) W.heap.size (w1.alloc (.cells #[] 50)).heap.size (some ⟨w1.heap.size, 0, none⟩) 0 0 [] []) := OwnR.of_own ((own_empty w1 50).mono (by omega) (Nat.le_refl _))
      have HB1 : Hid (Below W.heap.size W (w1.alloc (.cells #[] 50))) := hbel.trans ((below_alloc _ _).mono (by omega))
      have HF1 : Hid (Off (some ⟨w1.heap.size, 0, none⟩) 0 0 W.heap.size) := fun q hq => by simp [Value.ownBlock] at hq; omega
      have hsz1 : W.heap.size < (w1.alloc (.cells #[] 50)).heap.size := by simp; omega
      have HQ1 : Hid ((List.replicate m false).length = m ∧ ∀ q, q < m → ((List.replicate m false)[q]? = some true ↔ L (q + 1) ≤ 0)) := by
        refine ⟨by simp, fun q hq => ?_⟩
        have := (HL.out.bd (q + 1) (by omega) (by omega)).1
        rw [List.getElem?_replicate, if_pos hq]
        simp; omega
      clear hst hr hz hl hN hzm hrw h38 hrows hE hL EN EY hown hbel
      go_enter Try.func39, Try.ntmps39
      go_wp2_with first
        | (go_at_call 63; refine (HS.out _).mono ?_; rintro e w0 ⟨rfl, rfl⟩)
        | (go_at_call 73; refine HA.out.mono ?_; rintro e w0 ⟨rfl, rfl⟩)
      go_loopw [7, 27] (fun l i wr => ∃ (k n3 : Nat) (A3 : Option Addr) (c3 : Nat) (rs : List Row) (sn : List Bool), i = .int .i64 (k : Int) ∧ l = .slice A3 n3 c3 ∧ k ≤ m ∧ n3 ≤ k ∧ Hid (OwnR wr W.heap.size wr.heap.size A3 n3 c3 rs (obZ m L k)) ∧ Hid (Own wr 4 W.heap.size wr.heap.size (some ⟨W.heap.size, 0, none⟩) m m (boolsV sn)) ∧ Hid (sn.length = m ∧ ∀ q, q < m → (sn[q]? = some true ↔ L (q + 1) ≤ k)) ∧ Hid (Off A3 n3 c3 W.heap.size) ∧ Hid (OffO rs W.heap.size) ∧ W.heap.size < wr.heap.size ∧ Hid (Below W.heap.size W wr)) (fun _ i _ => ((m : Int) - intOf i).toNat)
      case atStart => exact ⟨0, 0, _, _, [], _, rfl, rfl, by omega, by omega, HO1.out, HS1.out, HQ1.out, HF1.out, OffO.nil _, hsz1, HB1.out⟩
      case round =>
        clear HO1 HS1 HF1 HB1 HQ1 hmk hsz1
        obtain ⟨k, n3, A3, c3, rs, sn, rfl, rfl, hk, hn3, HO, HSn, HQ, HF, HFR, hWr, HB⟩ := hrel
        obtain ⟨wo, rfl⟩ : ∃ w, w = wr := ⟨_, rfl⟩
        by_cases hkm : k < m
        · have i1 : (k : Int) < (m : Int) := by omega
          by_cases hseen : sn[k]? = some true
          · obtain ⟨hcq, _⟩ := HSn.out.boolAt hseen
            have hle := (HQ.out.2 k hkm).1 hseen
            have HO2 : Hid (OwnR wo W.heap.size wo.heap.size A3 n3 c3 rs (obZ m L (k + 1))) := by
              unfold Hid; rw [obZ_succ, if_pos (cls_none HL.out hkm hle)]; exact HO.out
            have HQ2 : Hid (sn.length = m ∧ ∀ q, q < m → (sn[q]? = some true ↔ L (q + 1) ≤ k + 1)) := ⟨HQ.out.1, skip_next HL.out hkm HQ.out.2 hseen⟩
            clear hseen hle
            go_wp2
            go_roundw
            case rel => exact ⟨k + 1, n3, A3, c3, rs, sn, by go_num, rfl, by omega, by omega, HO2.out, HSn.out, HQ2.out, HF.out, HFR.out, hWr, HB.out⟩
            case measure => (simp [intOf] <;> omega)
          · have hfl := getT (by have := HQ.out.1; omega) hseen
            obtain ⟨hcq, hfz⟩ := HSn.out.boolAt hfl
            have HBI : Hid (BInv m (gsL ss) L k (sn.set k true) [k + 1] 0 0) := BInv.start HL.out hkm HQ.out.1 HQ.out.2 hseen
            have e0 : (wo.setCell ⟨W.heap.size, k, none⟩ (.bool true)).heap.size = wo.heap.size := by simp
            have hxs := wx_set wo W.heap.size k (.bool true)
            have hOm : OwnR (wo.setCell ⟨W.heap.size, k, none⟩ (.bool true)) W.heap.size wo.heap.size A3 n3 c3 rs (obZ m L k) := HO.out.wxO hxs fun q hq => by
              injection hq with hq; subst hq; exact ⟨HF.out, HFR.out⟩
            have hSm : Own (wo.setCell ⟨W.heap.size, k, none⟩ (.bool true)) 4 W.heap.size wo.heap.size (some ⟨W.heap.size, 0, none⟩) m m (boolsV (sn.set k true)) := by
              have := HSn.out.set_ k (.bool true)
              rw [boolsV_set] at this
              exact this
            have HSt : Hid (OSt W wo ((wo.setCell ⟨W.heap.size, k, none⟩ (.bool true)).alloc (.cells #[.int .i64 ((k : Int) + 1)] 3)) m A3 n3 c3 rs (obZ m L k) (sn.set k true) (some ⟨wo.heap.size, 0, none⟩) 1 1 [k + 1]) := by
              have hoc := own_one (wo.setCell ⟨W.heap.size, k, none⟩ (.bool true)) 3 (.int .i64 ((k : Int) + 1))
              rw [e0] at hoc
              refine ⟨hoc, hOm.below (below_alloc _ _), hSm.below (below_alloc _ _), by simp, ?_, HF.out, HFR.out, Nat.le_of_lt hWr⟩
              exact (HB.out.setCell (Nat.le_refl _) _).trans ((below_alloc _ _).mono (by rw [e0]; omega))
            clear hseen hfl hOm hSm hxs
            go_wp2
            go_loopw [9, 10] (fun l i wr => ∃ (q n4 : Nat) (A4 : Option Addr) (c4 : Nat) (sn : List Bool) (orb : List Nat), l = .slice A4 n4 c4 ∧ i = .int .i64 (q : Int) ∧ q ≤ n4 ∧ n4 ≤ m ∧ Hid (BInv m (gsL ss) L k sn orb q 0) ∧ Hid (OSt W wo wr m A3 n3 c3 rs (obZ m L k) sn A4 n4 c4 orb)) (fun _ i _ => ((m : Int) - intOf i).toNat)
            case atStart => exact ⟨0, 1, _, 1, _, _, rfl, rfl, by omega, by omega, HBI.out, HSt.out⟩
            case round =>
              clear HBI HSt hcq hfz e0
              obtain ⟨q, n4, A4, c4, sn, orb, rfl, rfl, hq, hn4, HBI, HSt⟩ := hrel
              obtain ⟨wp, rfl⟩ : ∃ w, w = wr := ⟨_, rfl⟩
              by_cases hqn : q < n4
              · have i2 : (q : Int) < (n4 : Int) := by omega
                go_wp2
                go_loopw [9, 48] (fun l i wr => ∃ (j n4 : Nat) (A4 : Option Addr) (c4 : Nat) (sn : List Bool) (orb : List Nat), l = .slice A4 n4 c4 ∧ i = .int .i64 (j : Int) ∧ q < n4 ∧ n4 ≤ m ∧ j ≤ n ∧ Hid (BInv m (gsL ss) L k sn orb q j) ∧ Hid (OSt W wo wr m A3 n3 c3 rs (obZ m L k) sn A4 n4 c4 orb)) (fun _ i _ => ((n : Int) - intOf i).toNat)
                case atStart => exact ⟨0, n4, A4, c4, sn, orb, rfl, rfl, hqn, hn4, by omega, HBI.out, HSt.out⟩
                case round =>
                  clear HBI HSt i2 hq hqn hn4
                  obtain ⟨j, n4, A4, c4, sn, orb, rfl, rfl, hqn, hn4, hj, HBI, HSt⟩ := hrel
                  by_cases hjn : j < n
                  · have i3 : (j : Int) < (n : Int) := by omega
                    obtain ⟨b, off, rfl, _, hcell⟩ := (Hr.out.below HSt.out.bl).str hjn
                    have hjl : j < ss.length := by have := Hsl.out; omega
                    obtain ⟨s, hs⟩ : ∃ s, s = ss[j] := ⟨_, rfl⟩
                    rw [← hs] at hcell
                    have hsj : ss[j]? = some s := by rw [List.getElem?_eq_getElem hjl, hs]
                    obtain ⟨hsr, hsm⟩ := HRw.out s (List.mem_of_getElem? hsj)
                    have hg := gsL_get hsj
                    obtain ⟨x, hx⟩ : ∃ x, orb[q]? = some x := ⟨_, List.getElem?_eq_getElem (by rw [HSt.out.len]; exact hqn)⟩
                    have hxm := HBI.out.mem x (List.mem_of_getElem? hx)
                    obtain ⟨g4, rfl, _⟩ := HSt.out.oc.form (by omega)
                    obtain ⟨xx, rfl⟩ : ∃ xx, x = xx + 1 := ⟨x - 1, by omega⟩
                    have hcx : wr.cell? ⟨g4, q, none⟩ = some (.int .i64 ((xx : Int) + 1)) := HSt.out.oc.natAt hx
                    have hxs : xx < s.size := by omega
                    have hby := hsr.byte hxs
                    obtain ⟨y, hy⟩ : ∃ y, s[xx]'hxs = y := ⟨_, rfl⟩
                    rw [hy] at hby
                    have hnx : goL (bs s) (xx + 1) = y.toNat - 49 + 1 := by
                      unfold goL dig
                      rw [Nat.add_sub_cancel, getD_bs s xx hxs, hy]
                    obtain ⟨r, hr⟩ : ∃ r, r = y.toNat - 49 := ⟨_, rfl⟩
                    rw [← hr] at hnx
                    have hyv : (y.toNat : Int) - 48 = (r : Int) + 1 := by omega
                    have y1 : 48 ≤ (y.toNat : Int) := by omega
                    have y2 : (y.toNat : Int) ≤ 255 := by omega
                    have hrm : r < m := by omega
                    have r1 : (r : Int) < (m : Int) := by omega
                    have r2 : (r : Int) + 49 ≤ 255 := by omega
                    have r3 : (0 : Int) ≤ (r : Int) := by omega
                    have x1 : (xx : Int) < (s.size : Int) := by omega
                    have x2 : (xx : Int) < (m : Int) := by omega
                    have x3 : wrap64 (xx : Int) = (xx : Int) := by unfold wrap64; omega
                    have q1 : (q : Int) < (n4 : Int) := by omega
                    have hgr : goL (bs s) (xx + 1) - 1 = r := by omega
                    by_cases hseen : sn[r]? = some true
                    · have HB2 : Hid (BInv m (gsL ss) L k sn orb q (j + 1)) := HBI.out.old hx hg (by rw [hgr]; exact hseen)
                      obtain ⟨hcs, _⟩ := HSt.out.os.boolAt hseen
                      clear hjl hs hsj hsr hsm hg hx hxm hby hnx hr hgr hseen
                      go_wp2
                      go_roundw
                      case rel => exact ⟨j + 1, n4, _, c4, sn, orb, rfl, by go_num, hqn, hn4, by omega, HB2.out, HSt.out⟩
                      case measure => (simp [intOf] <;> omega)
                    · have hfl := getT (by rw [HBI.out.len]; exact hrm) hseen
                      obtain ⟨hcs, hfz⟩ := HSt.out.os.boolAt hfl
                      have HB2 : Hid (BInv m (gsL ss) L k (sn.set r true) (orb ++ [r + 1]) q (j + 1)) := by
                        have h := HBI.out.new HL.out HG.out hx hg (by rw [hgr]; exact hseen)
                        rw [hgr, hnx] at h
                        exact h
                      have hmk := HSt.out.mark r hWr
                      have hsn : (wr.setCell ⟨W.heap.size, r, none⟩ (.bool true)).heap.size = wr.heap.size := by simp
                      have hszo := HSt.out.sz
                      have hol : n4 + 1 ≤ m := by
                        have h1 := HB2.out.olen
                        have h2 := HSt.out.len
                        rw [List.length_append, h2] at h1
                        exact h1
                      clear hjl hs hsj hsr hsm hg hx hxm hby hnx hr hgr hseen hfl
                      go_wp2_with (at_builtin; refine wpList_append1y (wr.setCell ⟨W.heap.size, r, none⟩ (.bool true)) rfl (.tmp 71) (.tmp 73) 50 rfl 3 (.int .i64 0) 8 Try.underlying50 info_int rfl wo.heap.size (some ⟨g4, 0, none⟩) n4 c4 _ (.int .i64 ((r : Int) + 1)) rfl wr.heap.size (by simp) rfl rfl hmk.oc (by omega) (by omega) (by omega) ?_; intro A5 c5 w5 ho5 hx5 hsz5 hat5)
                      have HSt5 : Hid (OSt W wo w5 m A3 n3 c3 rs (obZ m L k) (sn.set r true) A5 (n4 + 1) c5 (orb ++ [r + 1])) := hmk.app (ho5.congr (by unfold natI; rw [List.map_append, intsV_app]; rfl)) hx5
                      clear hmk hsn hszo ho5 hx5 hsz5 hat5
                      go_roundw
                      case rel => exact ⟨j + 1, n4 + 1, A5, c5, _, _, rfl, by go_num, by omega, hol, by omega, HB2.out, HSt5.out⟩
                      case measure => (simp [intOf] <;> omega)
                  · obtain rfl : j = n := by omega
                    have HB2 : Hid (BInv m (gsL ss) L k sn orb (q + 1) 0) := by
                      have h := HBI.out
                      rw [show j = (gsL ss).length by rw [gsL_len]; exact Hsl.out.symm] at h
                      exact h.next (by rw [HSt.out.len]; exact hqn)
                    go_wp2
                    go_roundw
                    case rel => exact ⟨q + 1, n4, A4, c4, sn, orb, rfl, by go_num, by omega, hn4, HB2.out, HSt.out⟩
                    case measure => (simp [intOf] <;> omega)
              · obtain rfl : q = n4 := by omega
                have hlen := HSt.out.len
                have hBe : BInv m (gsL ss) L k sn orb orb.length 0 := by rw [hlen]; exact HBI.out
                have hperm := hBe.perm HL.out HG.out
                have hLk := (hBe.mem (k + 1) hBe.first).2.2
                have HQ6 : Hid (sn.length = m ∧ ∀ q, q < m → (sn[q]? = some true ↔ L (q + 1) ≤ k + 1)) := ⟨hBe.len, hBe.seen_next HL.out HG.out⟩
                have HZ : Hid (obZ m L (k + 1) = obZ m L k ++ [natI (clsL m L (k + 1))]) := by
                  unfold Hid; rw [obZ_succ, if_neg (cls_some HL.out hkm (by omega))]
                have HSrt : Hid (Calls Try.prog 74 #[.slice A4 q c4] wp fun e w' => e = .returned (.tuple #[]) ∧ Own w' 3 wo.heap.size wp.heap.size A4 q c4 (intsV (natI (clsL m L (k + 1)))) ∧ Wx (Value.slice A4 q c4).ownBlock wp w') := by
                  have h := sort_ownI A4 q c4 wo.heap.size wp.heap.size (natI orb) wp (by omega) HSt.out.oc
                  rw [srtI_of hperm cls_rising] at h
                  exact h
                have hws : W.heap.size ≤ wo.heap.size := by omega
                clear hlen hBe hperm hLk HBI
                go_wp2_with first
                  | (go_at_call 74; refine HSrt.out.mono ?_; rintro e w5 ⟨rfl, ho5, hx5⟩; have hst5 : OSt W wo w5 m A3 n3 c3 rs (obZ m L k) sn A4 q c4 (clsL m L (k + 1)) := HSt.out.app (ho5.mono (Nat.le_refl _) hx5.size) hx5; have hsz5 := hst5.sz)
                  | (at_builtin; refine wpList_append1x w5 rfl (.tmp 78) (.tmp 80) 22 rfl 50 (.slice none 0 0) 24 Try.underlying22 info_intsO rfl W.heap.size A3 n3 c3 _ (.slice A4 q c4) rfl rfl rfl (hst5.ol.o.mono (Nat.le_refl _) (by omega)) (by omega) (by omega) (by omega) ?_; intro A6 c6 w6 ho6 hx6 hsz6 hat6)
                have HO6 : Hid (OwnR w6 W.heap.size w6.heap.size A6 (n3 + 1) c6 (rs ++ [(A4, q, c4)]) (obZ m L (k + 1))) := by
                  unfold Hid; rw [HZ.out]
                  exact (hst5.ol.mono (Nat.le_refl _) (by omega)).push (r := (A4, q, c4)) (l2 := wo.heap.size) hst5.oc hws (fun i s g a b => (hst5.ol.rowlt i s g a b).2.1) (fun g hg => (hst5.ol.o.lt g hg).2.1) ho6 hx6 hat6
                have HS6 : Hid (Own w6 4 W.heap.size w6.heap.size (some ⟨W.heap.size, 0, none⟩) m m (boolsV sn)) := (hx6.own hst5.os (fun g hg => by
                  have hg2 : W.heap.size = g := by simpa [Value.ownBlock] using hg
                  subst hg2; exact HF.out.ne)).mono (Nat.le_refl _) (by omega)
                have HF6 : Hid (Off A6 (n3 + 1) c6 W.heap.size) := HF.out.next (by omega) hat6
                have HR6 : Hid (OffO (rs ++ [(A4, q, c4)]) W.heap.size) := HFR.out.push fun e => by have h3 := (hst5.oc.lt _ e).1; omega
                have HB6 : Hid (Below W.heap.size W w6) := hst5.bl.trans ((hst5.ol.o.mono (Nat.le_refl _) (show wo.heap.size ≤ w5.heap.size by omega)).below_ hx6 (by omega))
                have hW6 : W.heap.size < w6.heap.size := by omega
                clear hst5 hsz5 ho5 hx5 ho6 hx6 hsz6 hat6 HSt
                go_roundw
                case rel => exact ⟨k + 1, n3 + 1, A6, c6, _, sn, by go_num, rfl, by omega, by omega, HO6.out, HS6.out, HQ6.out, HF6.out, HR6.out, hW6, HB6.out⟩
                case measure => (simp [intOf] <;> omega)
        · obtain rfl : k = m := by omega
          go_wp2
          go_ret2
          refine ⟨_, _, _, rs, ret_slb HT.out, ?_, HB.out⟩
          rw [HE.out]; exact HO.out
end Go.Proofs.Ytgpjbmlemnjhfaa
