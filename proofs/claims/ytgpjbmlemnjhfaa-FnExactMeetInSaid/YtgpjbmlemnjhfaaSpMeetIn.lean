/- MeetIn, of the reference and of the program: what each returns. -/
import Derived.Test.YtgpjbmlemnjhfaaWalkG
import Derived.Test.YtgpjbmlemnjhfaaKitMap
import Derived.Test.YtgpjbmlemnjhfaaWalkY
import Derived.BigQuiet
namespace Go.Proofs.Ytgpjbmlemnjhfaa
open Go.RowKit Go.Maps
set_option linter.unusedVariables false

def meL (ss tt : List ByteArray) (k : Nat) : List ByteArray := (ss.take k).filter (hasB tt)
theorem meL_succ (ss tt : List ByteArray) {k : Nat} (h : k < ss.length) : meL ss tt (k + 1) = meL ss tt k ++ (if hasB tt (getS ss k) = true then [getS ss k] else []) := by
  unfold meL
  rw [List.take_succ_eq_append_getElem h, List.filter_append]
  congr 1
  have e : getS ss k = ss[k] := by simp [getS, List.getElem?_eq_getElem h]
  rw [e]
  cases hx : hasB tt ss[k] <;> simp [hx]
theorem meL_len (ss tt : List ByteArray) (k : Nat) : (meL ss tt k).length ≤ k := by
  unfold meL
  refine Nat.le_trans (List.length_filter_le _ _) ?_
  rw [List.length_take]; omega
def okMB (ss tt : List ByteArray) : Bool := rowsB ss && rowsB tt && !(decide (0 < ss.length) && decide (0 < tt.length) && decide ((headS ss).size ≠ (headS tt).size))
def out_MeetIn (ss tt : List ByteArray) : List ByteArray := if okMB ss tt = true then meL ss tt ss.length else []
theorem len_MeetIn (ss tt : List ByteArray) (h1 : ss.length ≤ 1048576) (h2 : tt.length ≤ 1048576) : (out_MeetIn ss tt).length ≤ 4194304 := by
  unfold out_MeetIn
  split
  · have := meL_len ss tt ss.length; omega
  · simp
theorem rows_ok {ss : List ByteArray} (h : rowsB ss = true) : ss.length ≤ 800 ∧ ∀ s ∈ ss, s.size ≤ 8 := by
  have h2 : RowsOK ss := by simpa [rowsB] using h
  refine ⟨h2.1, fun s hs => ?_⟩
  have := (h2.2 s hs).1.2.1
  rwa [size_bs] at this
theorem getS_small {ss : List ByteArray} (h : ∀ s ∈ ss, s.size ≤ 8) {k : Nat} (hk : k < ss.length) : (getS ss k).size ≤ 8 := by
  have e : getS ss k = ss[k] := by simp [getS, List.getElem?_eq_getElem hk]
  rw [e]; exact h _ (List.getElem_mem hk)
set_option maxRecDepth 100000 in
set_option maxHeartbeats 1000000 in
theorem l1HasS_any (A : Option Addr) (n c : Nat) (ss : List ByteArray) (x : ByteArray) (w : World) (hr : Rd w A n (strsV ss)) :
    Calls Try.prog 66 #[.slice A n c, .string x] w fun e w' => e = .returned (.bool (hasB ss x)) ∧ w = w' := by
  have hn := hr.lenB
  have Hr := Lib.hid hr
  have Hl := Lib.hid hr.slen
  clear hr
  go_enter Try.func66, Try.ntmps66
  go_wp2
  go_loop [9] (fun i => ∃ k : Nat, k ≤ n ∧ i = .int .i64 k ∧ Hid (∀ j, j < k → bs (getS ss j) ≠ bs x)) (fun i => n - (intOf i).toNat)
  case atStart => exact ⟨0, by omega, rfl, fun j hj => by omega⟩
  case round =>
    obtain ⟨k, hk, rfl, HK⟩ := hrel
    by_cases hlt : k < n
    · obtain ⟨b, off, rfl, hbs, hcs⟩ := Hr.out.strD hlt
      have hcl := hcs k hlt
      obtain ⟨y, hy⟩ : ∃ y, y = getS ss k := ⟨_, rfl⟩
      rw [← hy] at hcl
      have Hy := Lib.hid hy
      have i1 : (k : Int) < (n : Int) := by omega
      clear hcs hy
      by_cases he : y = x
      · have E : Hid (hasB ss x = true) := by
          have hl := Hl.out
          refine hasB_mem.2 ?_
          rw [← he, Hy.out]
          have e : getS ss k = ss[k]'(by omega) := by simp [getS, List.getElem?_eq_getElem (show k < ss.length by omega)]
          rw [e]; exact List.getElem_mem _
        subst he
        go_wp2
        go_ret
        exact ⟨ret_b E.out, rfl⟩
      · have HK1 : Hid (∀ j, j < k + 1 → bs (getS ss j) ≠ bs x) := by
          intro j hj
          by_cases e : j = k
          · subst e; rw [← Hy.out]; exact fun h => he (bs_inj h)
          · exact HK.out j (by omega)
        have hne := ne_list he
        clear he
        go_wp2
        go_round
        case rel => exact ⟨k + 1, by omega, by go_num, HK1.out⟩
        case measure => (simp [intOf] <;> omega)
    · have E : Hid (hasB ss x = false) := by
        unfold Hid
        cases h : hasB ss x with
        | false => rfl
        | true =>
          obtain ⟨i, hi, e⟩ := List.getElem_of_mem (hasB_mem.1 h)
          have h3 := HK.out i (by have := Hl.out; omega)
          have e2 : getS ss i = ss[i] := by simp [getS, List.getElem?_eq_getElem hi]
          rw [e2, e] at h3
          exact absurd rfl h3
      go_wp2
      go_ret
      exact ⟨ret_b E.out, rfl⟩
set_option maxRecDepth 100000 in
set_option maxHeartbeats 2000000 in
theorem meeting_any (A : Option Addr) (n c : Nat) (ss : List ByteArray) (B : Option Addr) (m d : Nat) (tt : List ByteArray) (W : World) (h8 : n ≤ 800) (h9 : m ≤ 800) (hr : Rd W A n (strsV ss)) (hr2 : Rd W B m (strsV tt)) (hz : ∀ s ∈ ss, s.size ≤ 8) (hz2 : ∀ s ∈ tt, s.size ≤ 8) :
    Calls Try.prog 68 #[.slice A n c, .slice B m d] W (RetS 9 (strsV (meL ss tt n)) W) := by
  have Hr := Lib.hid hr
  have Hr2 := Lib.hid hr2
  have Hl := Lib.hid hr.slen
  have Hl2 := Lib.hid hr2.slen
  have Hz := Lib.hid hz
  have Hz2 := Lib.hid hz2
  have hmm := @run_makeMap Try.prog
  clear hr hr2 hz hz2
  go_enter Try.func68, Try.ntmps68
  go_wp2
  go_loopw [14] (fun i wr => ∃ k : Nat, k ≤ m ∧ i = .int .i64 k ∧ Hid (OwnSet wr W.heap.size k (tt.take k)) ∧ Hid (Below W.heap.size W wr)) (fun i _ => m - (intOf i).toNat)
  case atStart => exact ⟨0, by omega, rfl, (by rw [List.take_zero]; exact World.ownsMap_made W Try.prog 9 (plainElem (H := Unit) Try.prog 4) : OwnSet _ _ _ (tt.take 0)), below_alloc _ _⟩
  case round =>
    obtain ⟨k, hk, rfl, HM, HB⟩ := hrel
    by_cases hlt : k < m
    · obtain ⟨b, off, rfl, hbs, hcs⟩ := (Hr2.out.below HB.out).strD hlt
      have hcl := hcs k hlt
      have hkl : k < tt.length := by have := Hl2.out; omega
      have hsm := getS_small Hz2.out hkl
      have HS : Hid (tt.take (k + 1) = tt.take k ++ [getS tt k]) := by
        unfold Hid
        rw [List.take_succ_eq_append_getElem hkl]
        simp [getS, List.getElem?_eq_getElem hkl]
      obtain ⟨s, hs⟩ : ∃ s, s = getS tt k := ⟨_, rfl⟩
      rw [← hs] at hcl hsm HS
      have hkey : keyOf Try.prog 9 (.string s) = some (keyL s) := keyOf_str (by unfold maxLen; omega)
      have i1 : (k : Int) < (m : Int) := by omega
      clear hs hcs
      go_wp2_with (at_mapUpdate; refine wpList_mapUpdate_own _ rfl _ _ _ 76 rfl 9 4 strKey Try.underlying76 _ W.heap.size k _ rfl HM.out (by unfold maxLen; omega) _ _ _ rfl rfl hkey _ [] (plainElem_bool Try.underlying4 true) ?_; intro w1 hown1 hgrow1)
      have HM1 : Hid (OwnSet w1 W.heap.size (k + 1) (tt.take (k + 1))) := by unfold Hid OwnSet; rw [HS.out, setD_snoc]; exact hown1
      have HB1 : Hid (Below W.heap.size W w1) := HB.out.trans ⟨hgrow1.os, hgrow1.tape, hgrow1.output, hgrow1.size, fun q hq => hgrow1.block q (Nat.lt_of_lt_of_le hq HB.out.size) (fun e => by injection e with e; omega)⟩
      clear hown1 hgrow1
      go_roundw
      case rel => exact ⟨k + 1, by omega, by go_num, HM1.out, HB1.out⟩
      case measure => (simp [intOf] <;> omega)
    · obtain rfl : k = m := by omega
      have HM2 : Hid (OwnSet (wr.alloc (.cells #[] 9)) W.heap.size k tt) := by
        have := HM.out
        rw [List.take_of_length_le (by have := Hl2.out; omega)] at this
        exact World.ownsMap.alloc this _
      have HB2 : Hid (Below W.heap.size W (wr.alloc (.cells #[] 9))) := HB.out.trans ((below_alloc wr _).mono HB.out.size)
      have hWlt : W.heap.size < wr.heap.size := HM.out.lt
      have HO2 : Hid (Own (wr.alloc (.cells #[] 9)) 9 W.heap.size (wr.alloc (.cells #[] 9)).heap.size (some ⟨wr.heap.size, 0, none⟩) 0 0 []) := (own_empty wr 9).mono (by omega) (Nat.le_refl _)
      have HF2 : Hid (Off (some ⟨wr.heap.size, 0, none⟩) 0 0 W.heap.size) := fun q hq => by simp [Value.ownBlock] at hq; omega
      clear HM HB
      go_wp2
      go_loopw [8, 24] (fun l i wr => ∃ (j L : Nat) (A3 : Option Addr) (c3 : Nat), i = .int .i64 j ∧ l = .slice A3 L c3 ∧ j ≤ n ∧ L ≤ j ∧ Hid (Own wr 9 W.heap.size wr.heap.size A3 L c3 (strsV (meL ss tt j))) ∧ Hid (Off A3 L c3 W.heap.size) ∧ Hid (OwnSet wr W.heap.size k tt) ∧ Hid (Below W.heap.size W wr)) (fun _ i _ => n - (intOf i).toNat)
      case atStart => exact ⟨0, 0, _, _, rfl, rfl, by omega, by omega, by simpa [Hid, meL, strsV] using HO2.out, HF2.out, HM2.out, HB2.out⟩
      case round =>
        obtain ⟨j, L, A3, c3, rfl, rfl, hj, hL, HO, HF, HM, HB⟩ := hrel
        by_cases hlt2 : j < n
        · obtain ⟨b, off, rfl, hbs, hcs⟩ := (Hr.out.below HB.out).strD hlt2
          have hcl := hcs j hlt2
          have hkl : j < ss.length := by have := Hl.out; omega
          have hsm := getS_small Hz.out hkl
          have hS := meL_succ ss tt hkl
          have hat0 := setD_at tt (getS ss j)
          obtain ⟨s, hs⟩ : ∃ s, s = getS ss j := ⟨_, rfl⟩
          rw [← hs] at hcl hsm hS hat0
          have hkey : keyOf Try.prog 9 (.string s) = some (keyL s) := keyOf_str (by unfold maxLen; omega)
          obtain ⟨q, hq⟩ : ∃ q, q = hasB tt s := ⟨_, rfl⟩
          rw [← hq] at hS hat0
          have Hat := Lib.hid hat0
          have i1 : (j : Int) < (n : Int) := by omega
          clear hs hcs hq hat0
          cases q with
          | true =>
            have HS : Hid (strsV (meL ss tt (j + 1)) = strsV (meL ss tt j) ++ [.string s]) := by unfold Hid; rw [hS, if_pos rfl, strsV_app, strsV_one]
            clear hS
            go_wp2_with first
              | (at_lookup; refine wpList_lookup_own_bool _ rfl _ _ 76 rfl 9 4 strKey Try.underlying76 Try.underlying4 (zeroB _) W.heap.size k _ rfl HM.out _ _ rfl hkey ?_; intro cc hcc; obtain rfl : cc = true := (by rw [Hat.out] at hcc; injection hcc with hcc; injection hcc with hcc; exact hcc.symm))
              | (at_builtin; refine wpList_append1x wr rfl (.tmp 31) (.tmp 33) 28 rfl 9 (.string ByteArray.empty) 16 Try.underlying28 info_str rfl W.heap.size A3 L c3 _ (.string s) rfl rfl rfl HO.out (by omega) (by omega) HB.out.size ?_; intro A4 c4 w4 ho4 hx4 hsz4 hat4)
            have HO4 : Hid (Own w4 9 W.heap.size w4.heap.size A4 (L + 1) c4 (strsV (meL ss tt (j + 1)))) := ho4.congr HS.out.symm
            have HB4 : Hid (Below W.heap.size W w4) := HB.out.trans (HO.out.below_ hx4 HB.out.size)
            have hW2 : W.heap.size < wr.heap.size := HM.out.lt
            have HM4 : Hid (OwnSet w4 W.heap.size k tt) := HM.out.below (hx4.block _ hW2 HF.out.ne)
            have HF4 : Hid (Off A4 (L + 1) c4 W.heap.size) := HF.out.next hW2 hat4
            clear ho4 hx4 hat4
            go_roundw
            case rel => exact ⟨j + 1, L + 1, A4, c4, by go_num, rfl, by omega, by omega, HO4.out, HF4.out, HM4.out, HB4.out⟩
            case measure => (simp [intOf] <;> omega)
          | false =>
            have HS : Hid (meL ss tt (j + 1) = meL ss tt j) := by unfold Hid; rw [hS]; simp
            clear hS
            go_wp2_with (at_lookup; refine wpList_lookup_own_bool _ rfl _ _ 76 rfl 9 4 strKey Try.underlying76 Try.underlying4 (zeroB _) W.heap.size k _ rfl HM.out _ _ rfl hkey ?_; intro cc hcc; obtain rfl : cc = false := (by rw [Hat.out] at hcc; injection hcc with hcc; injection hcc with hcc; exact hcc.symm))
            go_roundw
            case rel => exact ⟨j + 1, L, A3, c3, by go_num, rfl, by omega, by omega, by unfold Hid; rw [HS.out]; exact HO.out, HF.out, HM.out, HB.out⟩
            case measure => (simp [intOf] <;> omega)
        · obtain rfl : j = n := by omega
          go_wp2
          go_ret
          exact ⟨_, _, _, rfl, HO.out, HB.out⟩
set_option maxRecDepth 100000 in
set_option maxHeartbeats 2000000 in
theorem im_MeetIn (A : Option Addr) (n c : Nat) (ss : List ByteArray) (B : Option Addr) (m d : Nat) (tt : List ByteArray) (W : World) (hr : Rd W A n (strsV ss)) (hz : ∀ s ∈ ss, s.size ≤ 1048576) (hl : ss.length ≤ 1048576) (hr2 : Rd W B m (strsV tt)) (hz2 : ∀ s ∈ tt, s.size ≤ 1048576) (hl2 : tt.length ≤ 1048576) :
    Calls Try.prog 33 #[.slice A n c, .slice B m d] W (RetSB 9 (strsV (out_MeetIn ss tt)) (okMB ss tt) W) := by
  have hzm : ∀ s ∈ ss, s.size ≤ maxLen := fun s hs => by have := hz s hs; unfold maxLen; omega
  have hzm2 : ∀ s ∈ tt, s.size ≤ maxLen := fun s hs => by have := hz2 s hs; unfold maxLen; omega
  have HA : Hid (∀ W', Rd W' A n (strsV ss) → Calls Try.prog 67 #[.slice A n c] W' fun e w' => e = .returned (.bool (rowsB ss)) ∧ w' = W') := fun W' h => (GoodRows_any A n c ss W' h hzm).mono fun e w' h => ⟨h.1, h.2.symm⟩
  have HB : Hid (∀ W', Rd W' B m (strsV tt) → Calls Try.prog 67 #[.slice B m d] W' fun e w' => e = .returned (.bool (rowsB tt)) ∧ w' = W') := fun W' h => (GoodRows_any B m d tt W' h hzm2).mono fun e w' h => ⟨h.1, h.2.symm⟩
  have HMt : Hid (rowsB ss = true → rowsB tt = true → ∀ W', Below W.heap.size W W' → Calls Try.prog 68 #[.slice A n c, .slice B m d] W' (RetS 9 (strsV (meL ss tt n)) W')) := fun h1 h2 W' hb => by
    have a := rows_ok h1
    have b := rows_ok h2
    exact meeting_any A n c ss B m d tt W' (by have := hr.slen; omega) (by have := hr2.slen; omega) (hr.below hb) (hr2.below hb) a.2 b.2
  have EN : Hid (okMB ss tt = false → out_MeetIn ss tt = []) := fun h => by unfold out_MeetIn; rw [h]; simp
  have EY : Hid (okMB ss tt = true → out_MeetIn ss tt = meL ss tt n) := fun h => by unfold out_MeetIn; rw [if_pos h, hr.slen]
  have EK : okMB ss tt = (rowsB ss && rowsB tt && !(decide (0 < ss.length) && decide (0 < tt.length) && decide ((headS ss).size ≠ (headS tt).size))) := rfl
  rw [hr.slen, hr2.slen] at EK
  have Hr := Lib.hid hr
  have Hr2 := Lib.hid hr2
  obtain ⟨ra, hra⟩ : ∃ r, r = rowsB ss := ⟨_, rfl⟩
  obtain ⟨rb, hrb⟩ : ∃ r, r = rowsB tt := ⟨_, rfl⟩
  have HRA := Lib.hid hra
  have HRB := Lib.hid hrb
  rw [← hra, ← hrb] at EK
  rw [← hra] at HA
  rw [← hrb] at HB
  have HX : Hid (0 < n → ∃ b off, A = some ⟨b, off, none⟩ ∧ W.cell? ⟨b, off, none⟩ = some (.string (headS ss))) := fun h => by
    obtain ⟨b, off, e, _, hc⟩ := Hr.out.strD (k := 0) h
    have hc0 := hc 0 h
    have e2 : getS ss 0 = headS ss := by cases ss <;> rfl
    rw [e2] at hc0
    exact ⟨b, off, e, hc0⟩
  have HY : Hid (0 < m → ∃ b off, B = some ⟨b, off, none⟩ ∧ W.cell? ⟨b, off, none⟩ = some (.string (headS tt))) := fun h => by
    obtain ⟨b, off, e, _, hc⟩ := Hr2.out.strD (k := 0) h
    have hc0 := hc 0 h
    have e2 : getS tt 0 = headS tt := by cases tt <;> rfl
    rw [e2] at hc0
    exact ⟨b, off, e, hc0⟩
  have nb : (n : Int) ≤ 1048576 := by have := hr.slen; omega
  have mb : (m : Int) ≤ 1048576 := by have := hr2.slen; omega
  obtain ⟨x, hx⟩ : ∃ x, x = headS ss := ⟨_, rfl⟩
  obtain ⟨y, hy⟩ : ∃ y, y = headS tt := ⟨_, rfl⟩
  rw [← hx] at HX EK
  rw [← hy] at HY EK
  have HEK := Lib.hid EK
  clear hra hrb hr hr2 hz hz2 hzm hzm2 hx hy EK
  cases ra with
  | false =>

    have HT : Hid (okMB ss tt = false) := by unfold Hid; rw [HEK.out]; rfl
    go_enter Try.func33, Try.ntmps33
    go_wp2
    go_quiet (first | (go_at_call 67; with_reducible exact Calls.quiet_of_same (HA.out _ (Hr.out.drewN _))) | (go_at_call 67; with_reducible exact Calls.quiet_of_same (HB.out _ (Hr2.out.drewN _))))
    go_wp2
    go_ret2
    refine ⟨none, 0, 0, ret_slb HT.out, ?_, ?_⟩
    · rw [EN.out HT.out]; exact Own.nil _ _ _ _
    · first | exact Below.refl _ _ | exact below_drewN' (Below.refl _ _) _
  | true =>
    cases rb with
    | false =>

      have HT : Hid (okMB ss tt = false) := by unfold Hid; rw [HEK.out]; rfl
      go_enter Try.func33, Try.ntmps33
      go_wp2
      go_quiet (first | (go_at_call 67; with_reducible exact Calls.quiet_of_same (HA.out _ (Hr.out.drewN _))) | (go_at_call 67; with_reducible exact Calls.quiet_of_same (HB.out _ (Hr2.out.drewN _))))
      go_wp2
      go_ret2
      refine ⟨none, 0, 0, ret_slb HT.out, ?_, ?_⟩
      · rw [EN.out HT.out]; exact Own.nil _ _ _ _
      · first | exact Below.refl _ _ | exact below_drewN' (Below.refl _ _) _
    | true =>
      by_cases hn0 : 0 < n
      · obtain ⟨b1, o1, rfl, hc1⟩ := HX.out hn0
        have i1 : (0 : Int) < (n : Int) := by omega
        by_cases hm0 : 0 < m
        · obtain ⟨b2, o2, rfl, hc2⟩ := HY.out hm0
          have i2 : (0 : Int) < (m : Int) := by omega
          by_cases he : x.size = y.size
          ·
            have hne : ((x.size : Int) != (y.size : Int)) = false := by simp [he]
            have HT : Hid (okMB ss tt = true) := by unfold Hid; rw [HEK.out]; simp [he]
            go_enter Try.func33, Try.ntmps33
            clear he
            go_wp2
            go_quiet (first | (go_at_call 67; with_reducible exact Calls.quiet_of_same (HA.out _ (Hr.out.drewN _))) | (go_at_call 67; with_reducible exact Calls.quiet_of_same (HB.out _ (Hr2.out.drewN _))))
            go_wp2_with (go_at_call 68; refine (HMt.out HRA.out.symm HRB.out.symm _ (by first | exact Below.refl _ _ | exact below_drewN' (Below.refl _ _) _)).mono ?_; rintro e x2 ⟨A2, n2, c2, rfl, ho2, hb2⟩)
            go_ret2
            refine ⟨A2, n2, c2, ret_slb HT.out, ?_, ?_⟩
            · rw [EY.out HT.out]; exact ho2
            · exact (below_drewN' (Below.refl _ _) _).trans hb2
          ·
            have hne : ((x.size : Int) != (y.size : Int)) = true := by simp; omega
            have HT : Hid (okMB ss tt = false) := by unfold Hid; rw [HEK.out]; simp [he, hn0, hm0]
            go_enter Try.func33, Try.ntmps33
            clear he
            go_wp2
            go_quiet (first | (go_at_call 67; with_reducible exact Calls.quiet_of_same (HA.out _ (Hr.out.drewN _))) | (go_at_call 67; with_reducible exact Calls.quiet_of_same (HB.out _ (Hr2.out.drewN _))))
            go_wp2
            go_ret2
            refine ⟨none, 0, 0, ret_slb HT.out, ?_, ?_⟩
            · rw [EN.out HT.out]; exact Own.nil _ _ _ _
            · first | exact Below.refl _ _ | exact below_drewN' (Below.refl _ _) _
        ·
          have i2 : (m : Int) ≤ 0 := by omega
          have HT : Hid (okMB ss tt = true) := by unfold Hid; rw [HEK.out]; simp [hm0]
          go_enter Try.func33, Try.ntmps33
          go_wp2
          go_quiet (first | (go_at_call 67; with_reducible exact Calls.quiet_of_same (HA.out _ (Hr.out.drewN _))) | (go_at_call 67; with_reducible exact Calls.quiet_of_same (HB.out _ (Hr2.out.drewN _))))
          go_wp2_with (go_at_call 68; refine (HMt.out HRA.out.symm HRB.out.symm _ (by first | exact Below.refl _ _ | exact below_drewN' (Below.refl _ _) _)).mono ?_; rintro e x2 ⟨A2, n2, c2, rfl, ho2, hb2⟩)
          go_ret2
          refine ⟨A2, n2, c2, ret_slb HT.out, ?_, ?_⟩
          · rw [EY.out HT.out]; exact ho2
          · exact (below_drewN' (Below.refl _ _) _).trans hb2
      ·
        have i1 : (n : Int) ≤ 0 := by omega
        have HT : Hid (okMB ss tt = true) := by unfold Hid; rw [HEK.out]; simp [hn0]
        go_enter Try.func33, Try.ntmps33
        go_wp2
        go_quiet (first | (go_at_call 67; with_reducible exact Calls.quiet_of_same (HA.out _ (Hr.out.drewN _))) | (go_at_call 67; with_reducible exact Calls.quiet_of_same (HB.out _ (Hr2.out.drewN _))))
        go_wp2_with (go_at_call 68; refine (HMt.out HRA.out.symm HRB.out.symm _ (by first | exact Below.refl _ _ | exact below_drewN' (Below.refl _ _) _)).mono ?_; rintro e x2 ⟨A2, n2, c2, rfl, ho2, hb2⟩)
        go_ret2
        refine ⟨A2, n2, c2, ret_slb HT.out, ?_, ?_⟩
        · rw [EY.out HT.out]; exact ho2
        · exact (below_drewN' (Below.refl _ _) _).trans hb2
set_option maxRecDepth 100000 in
set_option maxHeartbeats 2000000 in
theorem sp_MeetIn (A : Option Addr) (n c : Nat) (ss : List ByteArray) (B : Option Addr) (m d : Nat) (tt : List ByteArray) (W : World) (hr : Rd W A n (strsV ss)) (hz : ∀ s ∈ ss, s.size ≤ 1048576) (hl : ss.length ≤ 1048576) (hr2 : Rd W B m (strsV tt)) (hz2 : ∀ s ∈ tt, s.size ≤ 1048576) (hl2 : tt.length ≤ 1048576) :
    Calls Try.prog 32 #[.slice A n c, .slice B m d] W (RetSB 9 (strsV (out_MeetIn ss tt)) (okMB ss tt) W) := by
  have hzm : ∀ s ∈ ss, s.size ≤ maxLen := fun s hs => by have := hz s hs; unfold maxLen; omega
  have hzm2 : ∀ s ∈ tt, s.size ≤ maxLen := fun s hs => by have := hz2 s hs; unfold maxLen; omega
  have HA : Hid (∀ W', Rd W' A n (strsV ss) → Calls Try.prog 65 #[.slice A n c] W' fun e w' => e = .returned (.bool (rowsB ss)) ∧ ∃ d, w' = W'.drewN d) := fun W' h => l6Rows_any A n c ss W' h hzm
  have HB : Hid (∀ W', Rd W' B m (strsV tt) → Calls Try.prog 65 #[.slice B m d] W' fun e w' => e = .returned (.bool (rowsB tt)) ∧ ∃ d, w' = W'.drewN d) := fun W' h => l6Rows_any B m d tt W' h hzm2
  have HHs : Hid (∀ x W', Below W.heap.size W W' → Calls Try.prog 66 #[.slice B m d, .string x] W' fun e w' => e = .returned (.bool (hasB tt x)) ∧ W' = w') := fun x W' hb => l1HasS_any B m d tt x W' (hr2.below hb)
  have Hl : Hid (ss.length = n) := hr.slen
  have EN : Hid (okMB ss tt = false → out_MeetIn ss tt = []) := fun h => by unfold out_MeetIn; rw [h]; simp
  have EY : Hid (okMB ss tt = true → out_MeetIn ss tt = meL ss tt n) := fun h => by unfold out_MeetIn; rw [if_pos h, hr.slen]
  have EK : okMB ss tt = (rowsB ss && rowsB tt && !(decide (0 < ss.length) && decide (0 < tt.length) && decide ((headS ss).size ≠ (headS tt).size))) := rfl
  rw [hr.slen, hr2.slen] at EK
  have Hr := Lib.hid hr
  have Hr2 := Lib.hid hr2
  obtain ⟨ra, hra⟩ : ∃ r, r = rowsB ss := ⟨_, rfl⟩
  obtain ⟨rb, hrb⟩ : ∃ r, r = rowsB tt := ⟨_, rfl⟩
  have HRA := Lib.hid hra
  have HRB := Lib.hid hrb
  rw [← hra, ← hrb] at EK
  rw [← hra] at HA
  rw [← hrb] at HB
  have HX : Hid (0 < n → ∃ b off, A = some ⟨b, off, none⟩ ∧ W.cell? ⟨b, off, none⟩ = some (.string (headS ss))) := fun h => by
    obtain ⟨b, off, e, _, hc⟩ := Hr.out.strD (k := 0) h
    have hc0 := hc 0 h
    have e2 : getS ss 0 = headS ss := by cases ss <;> rfl
    rw [e2] at hc0
    exact ⟨b, off, e, hc0⟩
  have HY : Hid (0 < m → ∃ b off, B = some ⟨b, off, none⟩ ∧ W.cell? ⟨b, off, none⟩ = some (.string (headS tt))) := fun h => by
    obtain ⟨b, off, e, _, hc⟩ := Hr2.out.strD (k := 0) h
    have hc0 := hc 0 h
    have e2 : getS tt 0 = headS tt := by cases tt <;> rfl
    rw [e2] at hc0
    exact ⟨b, off, e, hc0⟩
  have nb : (n : Int) ≤ 1048576 := by have := hr.slen; omega
  have mb : (m : Int) ≤ 1048576 := by have := hr2.slen; omega
  obtain ⟨x, hx⟩ : ∃ x, x = headS ss := ⟨_, rfl⟩
  obtain ⟨y, hy⟩ : ∃ y, y = headS tt := ⟨_, rfl⟩
  rw [← hx] at HX EK
  rw [← hy] at HY EK
  have HEK := Lib.hid EK
  clear hra hrb hr hr2 hz hz2 hzm hzm2 hx hy EK
  cases ra with
  | false =>

    have HT : Hid (okMB ss tt = false) := by unfold Hid; rw [HEK.out]; rfl
    go_enter Try.func32, Try.ntmps32
    go_wp2
    go_quiet (first | (go_at_call 65; with_reducible exact Calls.quiet_of (HA.out _ (Hr.out.drewN _))) | (go_at_call 65; with_reducible exact Calls.quiet_of (HB.out _ (Hr2.out.drewN _))))
    go_wp2
    go_ret2
    refine ⟨none, 0, 0, ret_slb HT.out, ?_, ?_⟩
    · rw [EN.out HT.out]; exact Own.nil _ _ _ _
    · first | exact Below.refl _ _ | exact below_drewN' (Below.refl _ _) _
  | true =>
    cases rb with
    | false =>

      have HT : Hid (okMB ss tt = false) := by unfold Hid; rw [HEK.out]; rfl
      go_enter Try.func32, Try.ntmps32
      go_wp2
      go_quiet (first | (go_at_call 65; with_reducible exact Calls.quiet_of (HA.out _ (Hr.out.drewN _))) | (go_at_call 65; with_reducible exact Calls.quiet_of (HB.out _ (Hr2.out.drewN _))))
      go_wp2
      go_ret2
      refine ⟨none, 0, 0, ret_slb HT.out, ?_, ?_⟩
      · rw [EN.out HT.out]; exact Own.nil _ _ _ _
      · first | exact Below.refl _ _ | exact below_drewN' (Below.refl _ _) _
    | true =>
      by_cases hn0 : 0 < n
      · obtain ⟨b1, o1, rfl, hc1⟩ := HX.out hn0
        have i1 : (0 : Int) < (n : Int) := by omega
        by_cases hm0 : 0 < m
        · obtain ⟨b2, o2, rfl, hc2⟩ := HY.out hm0
          have i2 : (0 : Int) < (m : Int) := by omega
          by_cases he : x.size = y.size
          ·
            have hne : ((x.size : Int) != (y.size : Int)) = false := by simp [he]
            have HT : Hid (okMB ss tt = true) := by unfold Hid; rw [HEK.out]; simp [he]
            go_enter Try.func32, Try.ntmps32
            clear he
            go_wp2
            go_quiet (first | (go_at_call 65; with_reducible exact Calls.quiet_of (HA.out _ (Hr.out.drewN _))) | (go_at_call 65; with_reducible exact Calls.quiet_of (HB.out _ (Hr2.out.drewN _))))
            have HB0 : Hid (Below W.heap.size W (W.drewN nq)) := below_drewN' (Below.refl _ _) _
            go_wp2
            go_loopw [6, 40] (fun l i wr => ∃ (j L : Nat) (A3 : Option Addr) (c3 : Nat), i = .int .i64 j ∧ l = .slice A3 L c3 ∧ j ≤ n ∧ L ≤ j ∧ Hid (Own wr 9 W.heap.size wr.heap.size A3 L c3 (strsV (meL ss tt j))) ∧ Hid (Below W.heap.size W wr)) (fun _ i _ => n - (intOf i).toNat)
            case atStart => exact ⟨0, 0, none, 0, rfl, rfl, by omega, by omega, by simpa [Hid, meL, strsV] using Own.nil (W.drewN nq) 9 W.heap.size (W.drewN nq).heap.size, HB0.out⟩
            case round =>
              obtain ⟨j, L, A3, c3, rfl, rfl, hj, hL, HO, HBw⟩ := hrel
              by_cases hlt2 : j < n
              · obtain ⟨b, off, e0, hbs, hcs⟩ := (Hr.out.below HBw.out).strD hlt2
                first | (injection e0 with e0; injection e0 with e01 e02; subst e01 e02) | subst e0
                have hcl := hcs j hlt2
                have hkl : j < ss.length := by have := Hl.out; omega
                have hS := meL_succ ss tt hkl
                obtain ⟨s, hs⟩ : ∃ s, s = getS ss j := ⟨_, rfl⟩
                rw [← hs] at hcl hS
                have HHj := Lib.hid (HHs.out s wr HBw.out)
                obtain ⟨q, hq⟩ : ∃ q, q = hasB tt s := ⟨_, rfl⟩
                rw [← hq] at hS HHj
                have k1 : (j : Int) < (n : Int) := by omega
                clear hs hcs hq
                cases q with
                | true =>
                  have HS : Hid (strsV (meL ss tt (j + 1)) = strsV (meL ss tt j) ++ [.string s]) := by unfold Hid; rw [hS, if_pos rfl, strsV_app, strsV_one]
                  clear hS
                  go_wp2_with first
                    | (go_at_call 66; refine (HHj.out).mono ?_; rintro e w' ⟨rfl, rfl⟩)
                    | (at_builtin; refine wpList_append1x wr rfl (.tmp 47) (.tmp 49) 28 rfl 9 (.string ByteArray.empty) 16 Try.underlying28 info_str rfl W.heap.size A3 L c3 _ (.string s) rfl rfl rfl HO.out (by omega) (by omega) HBw.out.size ?_; intro A4 c4 w4 ho4 hx4 hsz4 hat4)
                  have HO4 : Hid (Own w4 9 W.heap.size w4.heap.size A4 (L + 1) c4 (strsV (meL ss tt (j + 1)))) := ho4.congr HS.out.symm
                  have HB4 : Hid (Below W.heap.size W w4) := HBw.out.trans (HO.out.below_ hx4 HBw.out.size)
                  clear ho4 hx4 hat4
                  go_roundw
                  case rel => exact ⟨j + 1, L + 1, A4, c4, by go_num, rfl, by omega, by omega, HO4.out, HB4.out⟩
                  case measure => (simp [intOf] <;> omega)
                | false =>
                  have HS : Hid (meL ss tt (j + 1) = meL ss tt j) := by unfold Hid; rw [hS]; simp
                  clear hS
                  go_wp2_with (go_at_call 66; refine (HHj.out).mono ?_; rintro e w' ⟨rfl, rfl⟩)
                  go_roundw
                  case rel => exact ⟨j + 1, L, A3, c3, by go_num, rfl, by omega, by omega, by unfold Hid; rw [HS.out]; exact HO.out, HBw.out⟩
                  case measure => (simp [intOf] <;> omega)
              · have hjn : j = n := by omega
                have E : Hid (Own wr 9 W.heap.size wr.heap.size A3 L c3 (strsV (out_MeetIn ss tt))) := by unfold Hid; rw [EY.out HT.out, ← hjn]; exact HO.out
                have k1 : (n : Int) ≤ (j : Int) := by omega
                clear hjn
                go_wp2
                go_ret2
                exact ⟨_, _, _, ret_slb HT.out, E.out, HBw.out⟩
          ·
            have hne : ((x.size : Int) != (y.size : Int)) = true := by simp; omega
            have HT : Hid (okMB ss tt = false) := by unfold Hid; rw [HEK.out]; simp [he, hn0, hm0]
            go_enter Try.func32, Try.ntmps32
            clear he
            go_wp2
            go_quiet (first | (go_at_call 65; with_reducible exact Calls.quiet_of (HA.out _ (Hr.out.drewN _))) | (go_at_call 65; with_reducible exact Calls.quiet_of (HB.out _ (Hr2.out.drewN _))))
            go_wp2
            go_ret2
            refine ⟨none, 0, 0, ret_slb HT.out, ?_, ?_⟩
            · rw [EN.out HT.out]; exact Own.nil _ _ _ _
            · first | exact Below.refl _ _ | exact below_drewN' (Below.refl _ _) _
        ·
          have i2 : (m : Int) ≤ 0 := by omega
          have HT : Hid (okMB ss tt = true) := by unfold Hid; rw [HEK.out]; simp [hm0]
          go_enter Try.func32, Try.ntmps32
          go_wp2
          go_quiet (first | (go_at_call 65; with_reducible exact Calls.quiet_of (HA.out _ (Hr.out.drewN _))) | (go_at_call 65; with_reducible exact Calls.quiet_of (HB.out _ (Hr2.out.drewN _))))
          have HB0 : Hid (Below W.heap.size W (W.drewN nq)) := below_drewN' (Below.refl _ _) _
          go_wp2
          go_loopw [6, 40] (fun l i wr => ∃ (j L : Nat) (A3 : Option Addr) (c3 : Nat), i = .int .i64 j ∧ l = .slice A3 L c3 ∧ j ≤ n ∧ L ≤ j ∧ Hid (Own wr 9 W.heap.size wr.heap.size A3 L c3 (strsV (meL ss tt j))) ∧ Hid (Below W.heap.size W wr)) (fun _ i _ => n - (intOf i).toNat)
          case atStart => exact ⟨0, 0, none, 0, rfl, rfl, by omega, by omega, by simpa [Hid, meL, strsV] using Own.nil (W.drewN nq) 9 W.heap.size (W.drewN nq).heap.size, HB0.out⟩
          case round =>
            obtain ⟨j, L, A3, c3, rfl, rfl, hj, hL, HO, HBw⟩ := hrel
            by_cases hlt2 : j < n
            · obtain ⟨b, off, e0, hbs, hcs⟩ := (Hr.out.below HBw.out).strD hlt2
              first | (injection e0 with e0; injection e0 with e01 e02; subst e01 e02) | subst e0
              have hcl := hcs j hlt2
              have hkl : j < ss.length := by have := Hl.out; omega
              have hS := meL_succ ss tt hkl
              obtain ⟨s, hs⟩ : ∃ s, s = getS ss j := ⟨_, rfl⟩
              rw [← hs] at hcl hS
              have HHj := Lib.hid (HHs.out s wr HBw.out)
              obtain ⟨q, hq⟩ : ∃ q, q = hasB tt s := ⟨_, rfl⟩
              rw [← hq] at hS HHj
              have k1 : (j : Int) < (n : Int) := by omega
              clear hs hcs hq
              cases q with
              | true =>
                have HS : Hid (strsV (meL ss tt (j + 1)) = strsV (meL ss tt j) ++ [.string s]) := by unfold Hid; rw [hS, if_pos rfl, strsV_app, strsV_one]
                clear hS
                go_wp2_with first
                  | (go_at_call 66; refine (HHj.out).mono ?_; rintro e w' ⟨rfl, rfl⟩)
                  | (at_builtin; refine wpList_append1x wr rfl (.tmp 47) (.tmp 49) 28 rfl 9 (.string ByteArray.empty) 16 Try.underlying28 info_str rfl W.heap.size A3 L c3 _ (.string s) rfl rfl rfl HO.out (by omega) (by omega) HBw.out.size ?_; intro A4 c4 w4 ho4 hx4 hsz4 hat4)
                have HO4 : Hid (Own w4 9 W.heap.size w4.heap.size A4 (L + 1) c4 (strsV (meL ss tt (j + 1)))) := ho4.congr HS.out.symm
                have HB4 : Hid (Below W.heap.size W w4) := HBw.out.trans (HO.out.below_ hx4 HBw.out.size)
                clear ho4 hx4 hat4
                go_roundw
                case rel => exact ⟨j + 1, L + 1, A4, c4, by go_num, rfl, by omega, by omega, HO4.out, HB4.out⟩
                case measure => (simp [intOf] <;> omega)
              | false =>
                have HS : Hid (meL ss tt (j + 1) = meL ss tt j) := by unfold Hid; rw [hS]; simp
                clear hS
                go_wp2_with (go_at_call 66; refine (HHj.out).mono ?_; rintro e w' ⟨rfl, rfl⟩)
                go_roundw
                case rel => exact ⟨j + 1, L, A3, c3, by go_num, rfl, by omega, by omega, by unfold Hid; rw [HS.out]; exact HO.out, HBw.out⟩
                case measure => (simp [intOf] <;> omega)
            · have hjn : j = n := by omega
              have E : Hid (Own wr 9 W.heap.size wr.heap.size A3 L c3 (strsV (out_MeetIn ss tt))) := by unfold Hid; rw [EY.out HT.out, ← hjn]; exact HO.out
              have k1 : (n : Int) ≤ (j : Int) := by omega
              clear hjn
              go_wp2
              go_ret2
              exact ⟨_, _, _, ret_slb HT.out, E.out, HBw.out⟩
      ·
        have i1 : (n : Int) ≤ 0 := by omega
        have HT : Hid (okMB ss tt = true) := by unfold Hid; rw [HEK.out]; simp [hn0]
        go_enter Try.func32, Try.ntmps32
        go_wp2
        go_quiet (first | (go_at_call 65; with_reducible exact Calls.quiet_of (HA.out _ (Hr.out.drewN _))) | (go_at_call 65; with_reducible exact Calls.quiet_of (HB.out _ (Hr2.out.drewN _))))
        have HB0 : Hid (Below W.heap.size W (W.drewN nq)) := below_drewN' (Below.refl _ _) _
        go_wp2
        go_loopw [6, 40] (fun l i wr => ∃ (j L : Nat) (A3 : Option Addr) (c3 : Nat), i = .int .i64 j ∧ l = .slice A3 L c3 ∧ j ≤ n ∧ L ≤ j ∧ Hid (Own wr 9 W.heap.size wr.heap.size A3 L c3 (strsV (meL ss tt j))) ∧ Hid (Below W.heap.size W wr)) (fun _ i _ => n - (intOf i).toNat)
        case atStart => exact ⟨0, 0, none, 0, rfl, rfl, by omega, by omega, by simpa [Hid, meL, strsV] using Own.nil (W.drewN nq) 9 W.heap.size (W.drewN nq).heap.size, HB0.out⟩
        case round =>
          obtain ⟨j, L, A3, c3, rfl, rfl, hj, hL, HO, HBw⟩ := hrel
          by_cases hlt2 : j < n
          · exfalso; omega
          · have hjn : j = n := by omega
            have E : Hid (Own wr 9 W.heap.size wr.heap.size A3 L c3 (strsV (out_MeetIn ss tt))) := by unfold Hid; rw [EY.out HT.out, ← hjn]; exact HO.out
            have k1 : (n : Int) ≤ (j : Int) := by omega
            clear hjn
            go_wp2
            go_ret2
            exact ⟨_, _, _, ret_slb HT.out, E.out, HBw.out⟩
end Go.Proofs.Ytgpjbmlemnjhfaa
