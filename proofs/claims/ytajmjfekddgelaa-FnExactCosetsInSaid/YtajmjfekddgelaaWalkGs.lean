/- The walk of the reference's test whether a list of rows is a group. -/
import Derived.Test.YtajmjfekddgelaaPlainG
import Derived.Test.YtajmjfekddgelaaWalkCl
import Derived.Test.YtajmjfekddgelaaWalkG
import Derived.BigQuiet
namespace Go.Proofs.Ytajmjfekddgelaa
open Go.RowKit Go.Maps
set_option linter.unusedVariables false

theorem grp_all {ss : List ByteArray} {n : Nat} (hl : ss.length = n) (h0 : 0 < n) (he : headS ss = mkS (roundsL (headS ss).size)) (h : ∀ i, i < n → ∀ j, j < n → hasB ss (timS (getS ss i) (getS ss j)) = true) : grpB ss = true := by
  refine grpB_true.2 ⟨by omega, he, fun a ha b hb => ?_⟩
  obtain ⟨i, hi, e1⟩ := List.mem_iff_getElem.1 ha
  obtain ⟨j, hj, e2⟩ := List.mem_iff_getElem.1 hb
  have := h i (by omega) j (by omega)
  have q1 : getS ss i = a := by simp [getS, List.getElem?_eq_getElem hi, e1]
  have q2 : getS ss j = b := by simp [getS, List.getElem?_eq_getElem hj, e2]
  rwa [q1, q2] at this
theorem grp_not {ss : List ByteArray} {i j : Nat} (hi : i < ss.length) (hj : j < ss.length) (h : hasB ss (timS (getS ss i) (getS ss j)) = false) : grpB ss = false := by
  refine grpB_false.2 fun hg => ?_
  have := hg.2.2 _ (getS_mem hi) _ (getS_mem hj)
  rw [h] at this; cases this
theorem grp_head {ss : List ByteArray} (h : headS ss ≠ mkS (roundsL (headS ss).size)) : grpB ss = false := grpB_false.2 fun hg => h hg.2.1
theorem grp_nil {ss : List ByteArray} (h : ss.length = 0) : grpB ss = false := grpB_false.2 fun hg => by have := hg.1; omega
set_option maxRecDepth 100000 in
set_option maxHeartbeats 2000000 in
theorem l6Group_any (A : Option Addr) (n c : Nat) (ss : List ByteArray) (W : World) (hr : Rd W A n (strsV ss)) (hok : rowsB ss = true) :
    Calls Try.prog 38 #[.slice A n c] W fun e w' => e = .returned (.bool (grpB ss)) ∧ Below W.heap.size W w' := by
  have hl := hr.slen
  by_cases hn0 : n = 0
  · have E : Hid (grpB ss = false) := grp_nil (by omega)
    have hne : ((n : Int) == 0) = true := by simp [hn0]
    clear hr hok hl hn0
    go_enter Try.func38, Try.ntmps38
    go_wp2
    go_quiet (fail)
    go_wp2
    go_ret
    exact ⟨ret_b E.out, below_drewN' (Below.refl _ _) _⟩
  · have h2 : RowsOK ss := by simpa [rowsB] using hok
    have hn8 : n ≤ 800 := by have := h2.1; omega
    have h00 : 0 < ss.length := by omega
    have h3 := h2.2 (headS ss) (by rw [headS_get h00]; exact List.getElem_mem h00)
    have hh3 := h3.1.1
    have hh8 := h3.1.2.1
    rw [size_bs] at hh3 hh8
    have hRN : RowsN (headS ss).size ss := h2.2
    have hne : ((n : Int) == 0) = false := by simp; omega
    have i0 : (0 : Int) < (n : Int) := by omega
    have e0 : getS ss 0 = headS ss := by cases ss <;> rfl
    have HRo : Hid (∀ w, Calls Try.prog 61 #[.int .i64 ((headS ss).size : Int)] w fun e w' => e = .returned (.string (mkS (roundsL (headS ss).size))) ∧ w' = w) := fun w => by
      have := l1Rounds_any ((headS ss).size : Int) w (by omega) (by omega)
      rw [Int.toNat_natCast] at this
      exact this.mono fun e w' h => ⟨h.1, h.2.symm⟩
    obtain ⟨b, off, rfl, _, hcs⟩ := hr.strD (k := 0) (by omega)
    have hc0 := hcs 0 (by omega)
    rw [e0, Nat.add_zero] at hc0
    by_cases hx : headS ss = mkS (roundsL (headS ss).size)
    · obtain ⟨N, hN⟩ : ∃ N, N = (headS ss).size := ⟨_, rfl⟩
      have HSe : Hid (∀ w, Calls Try.prog 62 #[.int .i64 ((headS ss).size : Int)] w fun e w' => e = .returned (.slice (some ⟨w.heap.size, 0, none⟩) (factN N) (factN N)) ∧ Own w' 4 w.heap.size w'.heap.size (some ⟨w.heap.size, 0, none⟩) (factN N) (factN N) (boolsV (seenL (factN N) [])) ∧ Below w.heap.size w w' ∧ w.heap.size < w'.heap.size) := fun w => by rw [hN]; exact l6Seen_any _ w hh8
      have HPl : Hid (∀ y : ByteArray, y.size = N → ∀ w, Calls Try.prog 63 #[.string y] w fun e w' => e = .returned (.int .i64 (rankL (bs y) : Nat)) ∧ ∃ d, w' = w.drewN d) := fun y hy w => (l1Place_any y w (by omega)).mono fun e w' h => ⟨h.1, h.2⟩
      have HRk : Hid (∀ y : ByteArray, y.size = N → rankL (bs y) < factN N) := fun y hy => by
        have := rankL_lt (bs y)
        rwa [size_bs, hy] at this
      have hf : factN N ≤ 40320 := by rw [hN]; exact factN_le hh8
      obtain ⟨F, hF⟩ : ∃ F, F = factN N := ⟨_, rfl⟩
      rw [← hF] at HSe HRk hf
      have HAll : Hid ((∀ i, i < n → ∀ j, j < n → hasB ss (timS (getS ss i) (getS ss j)) = true) → grpB ss = true) := grp_all hl (by omega) hx
      have HNo : Hid (∀ i, i < n → ∀ j, j < n → hasB ss (timS (getS ss i) (getS ss j)) = false → grpB ss = false) := fun i hi j hj h => grp_not (by omega) (by omega) h
      have HRN : Hid (RowsN N ss) := by rw [hN]; exact hRN
      have Hl := Lib.hid hl
      have Hr := Lib.hid hr
      obtain ⟨x, hxx⟩ : ∃ x, x = headS ss := ⟨_, rfl⟩
      rw [← hxx] at hc0 HRo hx HSe
      rw [← hx] at HRo
      have hxq : (x.toList == x.toList) = true := by simp
      clear hr hok hl h2 h00 h3 hh3 hh8 hRN e0 hcs hx hxx hN hF
      go_enter Try.func38, Try.ntmps38
      go_wp2
      go_quiet ((go_at_call 61; with_reducible exact Calls.quiet_of_same (HRo.out _)))
      go_wp2_with fail
      refine (HSe.out _).mono ?_
      rintro e w1 ⟨rfl, ho1, hb1, hW1⟩
      have HO1 : Hid (Own w1 4 W.heap.size w1.heap.size (some ⟨W.heap.size, 0, none⟩) F F (boolsV (seenL F []))) := ho1
      have HB1 : Hid (Below W.heap.size W w1) := (below_drewN' (Below.refl _ _) nq : Below W.heap.size W _).trans hb1
      have hW1' : W.heap.size < w1.heap.size := hW1
      clear ho1 hb1 hW1
      go_wp2
      go_loopw [31] (fun i wr => ∃ k : Nat, k ≤ n ∧ i = .int .i64 k ∧ Hid (Own wr 4 W.heap.size wr.heap.size (some ⟨W.heap.size, 0, none⟩) F F (boolsV (seenL F (ss.take k)))) ∧ W.heap.size < wr.heap.size ∧ Hid (Below W.heap.size W wr)) (fun i _ => n - (intOf i).toNat)
      case atStart => exact ⟨0, by omega, rfl, HO1.out, hW1', HB1.out⟩
      case round =>
        obtain ⟨k, hk, rfl, HO, hWr, HB⟩ := hrel
        by_cases hlt : k < n
        · obtain ⟨b2, o2, e9, _, hcs⟩ := (Hr.out.below HB.out).strD hlt
          injection e9 with e9; injection e9 with e91 e92; subst e91 e92
          have hc1 := hcs k hlt
          have hkl : k < ss.length := by have := Hl.out; omega
          have hsz : (getS ss k).size = N := (HRN.out _ (getS_mem hkl)).2
          have HT : Hid (ss.take (k + 1) = ss.take k ++ [getS ss k]) := by
            unfold Hid
            rw [List.take_succ_eq_append_getElem hkl]; simp [getS, List.getElem?_eq_getElem hkl]
          obtain ⟨y, hy⟩ : ∃ y, y = getS ss k := ⟨_, rfl⟩
          rw [← hy] at hc1 hsz HT
          have HPy := Lib.hid (HPl.out y hsz)
          have hrk := HRk.out y hsz
          have HSn := Lib.hid (seenL_snoc F (ss.take k) y)
          obtain ⟨r, hrr⟩ : ∃ r, r = rankL (bs y) := ⟨_, rfl⟩
          rw [← hrr] at HPy hrk HSn
          have hlr : Hid (r < (boolsV (seenL F (ss.take k))).length) := by unfold Hid boolsV; rw [List.length_map, seenL_len]; exact hrk
          have i1 : (k : Int) < (n : Int) := by omega
          have i4 : (r : Int) < (F : Int) := by omega
          clear hcs hkl hsz hy hrr
          go_wp2_with fail
          refine (HPy.out _).mono ?_
          rintro e x5 ⟨rfl, d5, rfl⟩
          obtain ⟨v0, hcz⟩ : ∃ v, (wr.drewN d5).cell? ⟨W.heap.size, r, none⟩ = some v := ⟨_, HO.out.mem.get hlr.out⟩
          have hfz : (wr.drewN d5).frozen? ⟨W.heap.size, r, none⟩ = false := HO.out.mem.free hlr.out
          have HO6 : Hid (Own ((wr.drewN d5).setCell ⟨W.heap.size, r, none⟩ (.bool true)) 4 W.heap.size ((wr.drewN d5).setCell ⟨W.heap.size, r, none⟩ (.bool true)).heap.size (some ⟨W.heap.size, 0, none⟩) F F (boolsV (seenL F (ss.take (k + 1))))) := by
            refine (((HO.out.drewN d5).set_ r (.bool true)).congr ?_).mono (Nat.le_refl _) (by simp)
            rw [HT.out, HSn.out]; simp [boolsV, List.map_set]
          have HB6 : Hid (Below W.heap.size W ((wr.drewN d5).setCell ⟨W.heap.size, r, none⟩ (.bool true))) := (below_drewN' HB.out d5).setCell (Nat.le_refl _) _
          have hW6 : W.heap.size < ((wr.drewN d5).setCell ⟨W.heap.size, r, none⟩ (.bool true)).heap.size := by simpa using hWr
          go_wp2
          go_roundw
          case rel => exact ⟨k + 1, by omega, by go_num, HO6.out, hW6, HB6.out⟩
          case measure => (simp [intOf] <;> omega)
        · have HO7 : Hid (Own wr 4 W.heap.size wr.heap.size (some ⟨W.heap.size, 0, none⟩) F F (boolsV (seenL F ss))) := by
            have h7 := HO.out
            rwa [List.take_of_length_le (by have := Hl.out; omega)] at h7
          clear HO HO1 HB1 hW1'
          have HR8 := Lib.hid (Hr.out.below HB.out)
          obtain ⟨w3, hw3⟩ : ∃ w, w = wr := ⟨_, rfl⟩
          rw [← hw3] at HO7 HB HR8 hWr
          go_wp2
          rw [← hw3]
          clear hw3
          go_loopw [42] (fun i wr => ∃ k d : Nat, k ≤ n ∧ i = .int .i64 k ∧ Hid (∀ i, i < k → ∀ j, j < n → hasB ss (timS (getS ss i) (getS ss j)) = true) ∧ wr = w3.drewN d) (fun i _ => n - (intOf i).toNat)
          case atStart => exact ⟨0, 0, by omega, rfl, fun i hi => by omega, rfl⟩
          case round =>
            obtain ⟨k2, d2, hk2, rfl, HA2, rfl⟩ := hrel
            by_cases hlt2 : k2 < n
            · obtain ⟨b3, o3, e9, _, hcs⟩ := HR8.out.strD hlt2
              injection e9 with e9; injection e9 with e91 e92; subst e91 e92
              have hc1 := hcs k2 hlt2
              have hX := HRN.out _ (getS_mem (show k2 < ss.length by have := Hl.out; omega))
              have HNx : Hid ((∀ j, j < n → hasB ss (timS (getS ss k2) (getS ss j)) = true) → ∀ i, i < k2 + 1 → ∀ j, j < n → hasB ss (timS (getS ss i) (getS ss j)) = true) := fun h i hi => by
                by_cases e : i = k2
                · subst e; exact h
                · exact HA2.out i (by omega)
              have HN2 : Hid (∀ j, j < n → hasB ss (timS (getS ss k2) (getS ss j)) = false → grpB ss = false) := fun j hj h => HNo.out k2 hlt2 j hj h
              obtain ⟨x2, hx2⟩ : ∃ x, x = getS ss k2 := ⟨_, rfl⟩
              rw [← hx2] at hc1 hX HNx HN2
              have HX := Lib.hid hX
              have i1 : (k2 : Int) < (n : Int) := by omega
              clear hcs hX hx2 HA2
              go_wp2
              go_loopw [48] (fun i wr => ∃ j d : Nat, j ≤ n ∧ i = .int .i64 j ∧ Hid (∀ i, i < j → hasB ss (timS x2 (getS ss i)) = true) ∧ wr = w3.drewN d) (fun i _ => n - (intOf i).toNat)
              case atStart => exact ⟨0, d2, by omega, rfl, fun i hi => by omega, rfl⟩
              case round =>
                clear hc1
                obtain ⟨j, d3, hj, rfl, HA3, rfl⟩ := hrel
                by_cases hlt3 : j < n
                · obtain ⟨b4, o4, e9, _, hcs⟩ := HR8.out.strD hlt3
                  injection e9 with e9; injection e9 with e91 e92; subst e91 e92
                  have hc1 := hcs j hlt3
                  have hG := HRN.out _ (getS_mem (show j < ss.length by have := Hl.out; omega))
                  have HN3 := Lib.hid (HN2.out j hlt3)
                  have HA4 : Hid (hasB ss (timS x2 (getS ss j)) = true → ∀ i, i < j + 1 → hasB ss (timS x2 (getS ss i)) = true) := fun h i hi => by
                    by_cases e : i = j
                    · subst e; exact h
                    · exact HA3.out i (by omega)
                  obtain ⟨g, hgg⟩ : ∃ g, g = getS ss j := ⟨_, rfl⟩
                  rw [← hgg] at hc1 hG HN3 HA4
                  have HTm : Hid (∀ W', Calls Try.prog 64 #[.string x2, .string g] W' fun e w' => e = .returned (.string (timS x2 g)) ∧ W' = w') := fun W' => l1Times_any x2 g W' HX.out.1 hG.1 (by rw [HX.out.2, hG.2])
                  have hY := timS_row HX.out hG
                  obtain ⟨y, hy⟩ : ∃ y, y = timS x2 g := ⟨_, rfl⟩
                  rw [← hy] at HTm hY HN3 HA4
                  have HPy := Lib.hid (HPl.out y hY.2)
                  have hrk := HRk.out y hY.2
                  obtain ⟨r, hrr⟩ : ∃ r, r = rankL (bs y) := ⟨_, rfl⟩
                  have hht := seenL_hit (F := F) HRN.out hY hrr (by rw [hrr]; exact hrk)
                  rw [← hrr] at HPy hrk
                  obtain ⟨q, hq⟩ : ∃ q, q = hasB ss y := ⟨_, rfl⟩
                  rw [← hq] at hht HN3 HA4
                  have hlr : r < (boolsV (seenL F ss)).length := by unfold boolsV; rw [List.length_map, seenL_len]; exact hrk
                  have HCq : Hid (w3.cell? ⟨W.heap.size, r, none⟩ = some (.bool q)) := by
                    have h1 := HO7.out.mem.get hlr
                    unfold Hid
                    rw [h1]
                    rw [List.getElem?_eq_getElem hlr] at hht
                    exact hht
                  have i2 : (j : Int) < (n : Int) := by omega
                  have i4 : (r : Int) < (F : Int) := by omega
                  clear hcs hG hgg hy hY hht hq hrr hlr HA3
                  cases q with
                  | true =>
                    have HA5 := Lib.hid (HA4.out (by trivial))
                    clear HN3 HA4
                    go_wp2_with fail
                    refine (HTm.out _).mono ?_
                    rintro e w' ⟨rfl, rfl⟩
                    go_wp2_with fail
                    refine (HPy.out _).mono ?_
                    rintro e x5 ⟨rfl, d5, rfl⟩
                    have hcq := HCq.out
                    go_wp2
                    go_roundw
                    case rel => exact ⟨j + 1, d3 + d5, by omega, by go_num, HA5.out, by first | rfl | exact World.drewN_drewN _ _ _ | exact (World.drewN_drewN _ _ _).symm | simp⟩
                    case measure => (simp [intOf] <;> omega)
                  | false =>
                    have E := Lib.hid (HN3.out (by trivial))
                    clear HN3 HA4
                    go_wp2_with fail
                    refine (HTm.out _).mono ?_
                    rintro e w' ⟨rfl, rfl⟩
                    go_wp2_with fail
                    refine (HPy.out _).mono ?_
                    rintro e x5 ⟨rfl, d5, rfl⟩
                    have hcq := HCq.out
                    go_wp2
                    go_ret
                    exact ⟨ret_b E.out, below_drewN' HB.out _⟩
                · obtain rfl : j = n := by omega
                  have HA5 := Lib.hid (HNx.out HA3.out)
                  go_wp2
                  go_roundw
                  case rel => exact ⟨k2 + 1, d3, by omega, by go_num, HA5.out, rfl⟩
                  case measure => (simp [intOf] <;> omega)
            · obtain rfl : k2 = n := by omega
              have E := Lib.hid (HAll.out HA2.out)
              go_wp2
              go_ret
              exact ⟨ret_b E.out, below_drewN' HB.out _⟩
    · have E : Hid (grpB ss = false) := grp_head hx
      obtain ⟨x, hxx⟩ : ∃ x, x = headS ss := ⟨_, rfl⟩
      obtain ⟨y, hyy⟩ : ∃ x, x = mkS (roundsL (headS ss).size) := ⟨_, rfl⟩
      rw [← hyy] at HRo hx
      rw [← hxx] at hc0 HRo hx
      have hxq := ne_list hx
      clear hr hok hl h2 h00 h3 hh3 hh8 hRN e0 hcs hx hxx hyy
      go_enter Try.func38, Try.ntmps38
      go_wp2
      go_quiet ((go_at_call 61; with_reducible exact Calls.quiet_of_same (HRo.out _)))
      go_wp2
      go_ret
      exact ⟨ret_b E.out, below_drewN' (Below.refl _ _) _⟩
end Go.Proofs.Ytajmjfekddgelaa
