/- IsTrueList, of the reference and of the program: what each returns. -/
import Derived.Test.YtgpjbmlemnjhfaaWalkG
import Derived.Test.YtgpjbmlemnjhfaaKitMap
import Derived.Test.YtgpjbmlemnjhfaaWalkSo
import Derived.BigQuiet
namespace Go.Proofs.Ytgpjbmlemnjhfaa
open Go.RowKit Go.Maps
set_option linter.unusedVariables false

theorem ret_bb2 {a b x y : Bool} (h : a = x) (h2 : b = y) : Ending.returned (.tuple #[.bool x, .bool y]) = .returned (.tuple #[.bool a, .bool b]) := by rw [h, h2]
/-- no text twice -/
def trueB (ss : List ByteArray) : Bool := decide (ss.map bs).Nodup
def out_IT (ss : List ByteArray) : Bool := rowsB ss && trueB ss
theorem trueB_take {ss : List ByteArray} {k : Nat} (h : k < ss.length) (h1 : ((ss.take k).map bs).Nodup) (h2 : hasB (ss.take k) (getS ss k) = false) : ((ss.take (k + 1)).map bs).Nodup := by
  have e : getS ss k = ss[k] := by simp [getS, List.getElem?_eq_getElem h]
  rw [List.take_succ_eq_append_getElem h, List.map_append, List.nodup_append]
  refine ⟨h1, by simp, fun a ha b hb => ?_⟩
  simp only [List.map_cons, List.map_nil, List.mem_singleton] at hb
  subst hb
  intro e2
  subst e2
  obtain ⟨x, hx, e3⟩ := List.mem_map.1 ha
  have h3 := bs_inj e3
  rw [h3, ← e] at hx
  have := hasB_mem.2 hx
  rw [h2] at this
  cases this
theorem trueB_no {ss : List ByteArray} {k : Nat} (h : k < ss.length) (h2 : hasB (ss.take k) (getS ss k) = true) : trueB ss = false := by
  have e : getS ss k = ss[k] := by simp [getS, List.getElem?_eq_getElem h]
  refine decide_eq_false fun hn => ?_
  have h1 : ((ss.take (k + 1)).map bs).Nodup := hn.sublist ((List.take_sublist _ _).map bs)
  rw [List.take_succ_eq_append_getElem h, List.map_append, List.nodup_append] at h1
  exact h1.2.2 (bs ss[k]) (List.mem_map.2 ⟨_, by have := hasB_mem.1 h2; rwa [e] at this, rfl⟩) (bs ss[k]) (by simp) rfl
theorem trueB_srt (ss : List ByteArray) : trueB ss = decide ((srt ss).map bs).Nodup := by
  unfold trueB
  rw [srt_bs]
  exact decide_eq_decide.2 (List.mergeSort_perm _ _).nodup_iff.symm
theorem getS_map {ss : List ByteArray} {k : Nat} (h : k < ss.length) : bs (getS ss k) = (ss.map bs)[k]'(by simpa using h) := by
  simp [getS, List.getElem?_eq_getElem h]
theorem srt_adj (ss : List ByteArray) {n : Nat} (hn : (srt ss).length = n) : trueB ss = true ↔ ∀ j, 1 ≤ j → j < n → getS (srt ss) j ≠ getS (srt ss) (j - 1) := by
  have hp : ((srt ss).map bs).Pairwise fun a b => leS a b = true := by rw [srt_bs]; exact List.pairwise_mergeSort leS_tr leS_to _
  rw [trueB_srt, decide_eq_true_eq]
  subst hn
  constructor
  · intro h j h1 h2 e
    have e2 : bs (getS (srt ss) j) = bs (getS (srt ss) (j - 1)) := by rw [e]
    rw [getS_map h2, getS_map (by omega)] at e2
    rw [List.nodup_iff_pairwise_ne, List.pairwise_iff_getElem] at h
    exact h (j - 1) j (by simp; omega) (by simpa using h2) (by omega) e2.symm
  · intro h
    rw [List.nodup_iff_pairwise_ne, List.pairwise_iff_getElem]
    intro i j hi hj hij e
    have hi' : i < (srt ss).length := by simpa using hi
    have hj' : j < (srt ss).length := by simpa using hj
    have hm1 : ((srt ss).map bs)[i] ≤ ((srt ss).map bs)[j - 1]'(by omega) := by
      rcases Nat.lt_or_ge i (j - 1) with h3 | h3
      · exact of_decide_eq_true (List.pairwise_iff_getElem.1 hp i (j - 1) hi (by omega) h3)
      · obtain rfl : i = j - 1 := by omega
        exact List.le_refl _
    have hm2 : ((srt ss).map bs)[j - 1]'(by omega) ≤ ((srt ss).map bs)[j] := of_decide_eq_true (List.pairwise_iff_getElem.1 hp (j - 1) j (by omega) hj (by omega))
    rw [e] at hm1
    have e3 := List.le_antisymm hm1 hm2
    refine h j (by omega) hj' (bs_inj ?_)
    rw [getS_map hj', getS_map (show j - 1 < _ by omega)]
    exact e3
set_option maxRecDepth 100000 in
set_option maxHeartbeats 1000000 in
theorem l7True_any (A : Option Addr) (n c : Nat) (ss : List ByteArray) (W : World) (hn : n ≤ 1048576) (hr : Rd W A n (strsV ss)) :
    Calls Try.prog 70 #[.slice A n c] W fun e w' => e = .returned (.bool (trueB ss)) ∧ Below W.heap.size W w' := by
  have HS := Lib.hid (l6Sort_any n A n c ss W (by omega) hn hr)
  have Hl := Lib.hid hr.slen
  clear hr
  go_enter Try.func70, Try.ntmps70
  go_wp2_with (go_at_call 87; refine HS.out.mono ?_; rintro e w1 ⟨A1, n1, c1, rfl, ho1, hb1⟩)
  have hn1 : n1 = (srt ss).length := ho1.rd.slen.symm
  have hn2 : n1 ≤ 1048576 := by have := srt_len ss; have := Hl.out; omega
  have HN : Hid ((srt ss).length = n1) := hn1.symm
  have HRd := Lib.hid ho1.rd
  have HB := Lib.hid hb1
  clear ho1 hb1 hn1
  go_wp2
  go_loopw [4] (fun i wr => ∃ k : Nat, 1 ≤ k ∧ k ≤ n1 + 1 ∧ i = .int .i64 k ∧ Hid (∀ j, 1 ≤ j → j < k → getS (srt ss) j ≠ getS (srt ss) (j - 1)) ∧ Hid (Below w1.heap.size w1 wr)) (fun i _ => n1 + 1 - (intOf i).toNat)
  case atStart => exact ⟨1, by omega, by omega, rfl, fun j h1 h2 => by omega, Below.refl _ _⟩
  case round =>
    obtain ⟨k, hk, hk1, rfl, HK, HBw⟩ := hrel
    by_cases hlt : k < n1
    · have HR2 := HRd.out.below HBw.out
      obtain ⟨b, off, rfl, hbs, hcs⟩ := HR2.strD hlt
      have hc1 := hcs k hlt
      have hc2 : wr.cell? ⟨b, off + (k - 1), none⟩ = some (.string (getS (srt ss) (k - 1))) := hcs (k - 1) (by omega)
      have ek : ((k : Int) - 1) = ((k - 1 : Nat) : Int) := by omega
      obtain ⟨x, hx⟩ : ∃ x, x = getS (srt ss) k := ⟨_, rfl⟩
      obtain ⟨y, hy⟩ : ∃ y, y = getS (srt ss) (k - 1) := ⟨_, rfl⟩
      rw [← hx] at hc1
      rw [← hy] at hc2
      have HX := Lib.hid hx
      have HY := Lib.hid hy
      have i1 : (k : Int) < (n1 : Int) := by omega
      have i2 : (1 : Int) ≤ (k : Int) := by omega
      have i3 : (k : Int) - 1 < (n1 : Int) := by omega
      have i4 : (0 : Int) ≤ (k : Int) - 1 := by omega
      have et : ((k : Int) - 1).toNat = k - 1 := by omega
      clear hcs HR2 hx hy
      by_cases he : x = y
      · have E : Hid (trueB ss = false) := by
          unfold Hid
          cases h : trueB ss with
          | false => rfl
          | true => exact absurd (HX.out ▸ HY.out ▸ he) ((srt_adj ss HN.out).1 h k hk hlt)
        subst he
        go_wp2
        go_quiet (fail)
        go_wp2
        go_ret
        exact ⟨ret_b E.out, HB.out.trans ((below_drewN' HBw.out _).mono HB.out.size)⟩
      · have HK1 : Hid (∀ j, 1 ≤ j → j < k + 1 → getS (srt ss) j ≠ getS (srt ss) (j - 1)) := by
          intro j h1 h2
          by_cases e : j = k
          · subst e; rw [← HX.out, ← HY.out]; exact he
          · exact HK.out j h1 (by omega)
        have hne := ne_list he
        clear he
        go_wp2
        go_quiet (fail)
        go_wp2
        go_roundw
        case rel => exact ⟨k + 1, by omega, by omega, by go_num, HK1.out, below_drewN' HBw.out _⟩
        case measure => (simp [intOf] <;> omega)
    · have E : Hid (trueB ss = true) := (srt_adj ss HN.out).2 fun j h1 h2 => HK.out j h1 (by omega)
      go_wp2
      go_ret
      exact ⟨ret_b E.out, HB.out.trans (HBw.out.mono HB.out.size)⟩
set_option maxRecDepth 100000 in
set_option maxHeartbeats 2000000 in
theorem isTrue_any (A : Option Addr) (n c : Nat) (ss : List ByteArray) (W : World) (h8 : n ≤ 800) (hr : Rd W A n (strsV ss)) (hz : ∀ s ∈ ss, s.size ≤ 8) :
    Calls Try.prog 71 #[.slice A n c] W fun e w' => e = .returned (.bool (trueB ss)) ∧ Below W.heap.size W w' := by
  have Hr := Lib.hid hr
  have Hl := Lib.hid hr.slen
  have Hz := Lib.hid hz
  have hmm := @run_makeMap Try.prog
  clear hr hz
  go_enter Try.func71, Try.ntmps71
  go_wp2
  go_loopw [9] (fun i wr => ∃ k : Nat, k ≤ n ∧ i = .int .i64 k ∧ Hid ((ss.take k).map bs).Nodup ∧ Hid (OwnSet wr W.heap.size k (ss.take k)) ∧ Hid (Below W.heap.size W wr)) (fun i _ => n - (intOf i).toNat)
  case atStart => exact ⟨0, by omega, rfl, by simp [Hid], (by rw [List.take_zero]; exact World.ownsMap_made W Try.prog 9 (plainElem (H := Unit) Try.prog 4) : OwnSet _ _ _ (ss.take 0)), below_alloc _ _⟩
  case round =>
    obtain ⟨k, hk, rfl, HN, HM, HB⟩ := hrel
    by_cases hlt : k < n
    · obtain ⟨b, off, rfl, hbs, hcs⟩ := (Hr.out.below HB.out).strD hlt
      have hcl := hcs k hlt
      have hkl : k < ss.length := by have := Hl.out; omega
      have hsm : (getS ss k).size ≤ 8 := by
        have e : getS ss k = ss[k] := by simp [getS, List.getElem?_eq_getElem hkl]
        rw [e]; exact Hz.out _ (List.getElem_mem hkl)
      have HS : Hid (ss.take (k + 1) = ss.take k ++ [getS ss k]) := by
        unfold Hid
        rw [List.take_succ_eq_append_getElem hkl]
        simp [getS, List.getElem?_eq_getElem hkl]
      have hat0 := setD_at (ss.take k) (getS ss k)
      have HT : Hid (hasB (ss.take k) (getS ss k) = false → ((ss.take (k + 1)).map bs).Nodup) := fun h => trueB_take hkl HN.out h
      have HF : Hid (hasB (ss.take k) (getS ss k) = true → trueB ss = false) := fun h => trueB_no hkl h
      obtain ⟨s, hs⟩ : ∃ s, s = getS ss k := ⟨_, rfl⟩
      rw [← hs] at hcl hsm HS hat0 HT HF
      have hkey : keyOf Try.prog 9 (.string s) = some (keyL s) := keyOf_str (by unfold maxLen; omega)
      obtain ⟨q, hq⟩ : ∃ q, q = hasB (ss.take k) s := ⟨_, rfl⟩
      rw [← hq] at hat0 HT HF
      have Hat := Lib.hid hat0
      have i1 : (k : Int) < (n : Int) := by omega
      clear hs hcs hkl hq hat0
      cases q with
      | true =>
        have E := Lib.hid (HF.out rfl)
        go_wp2_with (at_lookup; refine wpList_lookup_own_bool _ rfl _ _ 76 rfl 9 4 strKey Try.underlying76 Try.underlying4 (zeroB _) W.heap.size k _ rfl HM.out _ _ rfl hkey ?_; intro cc hcc; obtain rfl : cc = true := (by rw [Hat.out] at hcc; injection hcc with hcc; injection hcc with hcc; exact hcc.symm))
        go_ret
        exact ⟨ret_b E.out, HB.out⟩
      | false =>
        have HN2 := Lib.hid (HT.out rfl)
        go_wp2_with first
          | (at_lookup; refine wpList_lookup_own_bool _ rfl _ _ 76 rfl 9 4 strKey Try.underlying76 Try.underlying4 (zeroB _) W.heap.size k _ rfl HM.out _ _ rfl hkey ?_; intro cc hcc; obtain rfl : cc = false := (by rw [Hat.out] at hcc; injection hcc with hcc; injection hcc with hcc; exact hcc.symm))
          | (at_mapUpdate; refine wpList_mapUpdate_own _ rfl _ _ _ 76 rfl 9 4 strKey Try.underlying76 _ W.heap.size k _ rfl HM.out (by unfold maxLen; omega) _ _ _ rfl rfl hkey _ [] (plainElem_bool Try.underlying4 true) ?_; intro w1 hown1 hgrow1)
        have HM1 : Hid (OwnSet w1 W.heap.size (k + 1) (ss.take (k + 1))) := by unfold Hid OwnSet; rw [HS.out, setD_snoc]; exact hown1
        have HB1 : Hid (Below W.heap.size W w1) := HB.out.trans ⟨hgrow1.os, hgrow1.tape, hgrow1.output, hgrow1.size, fun q hq => hgrow1.block q (Nat.lt_of_lt_of_le hq HB.out.size) (fun e => by injection e with e; omega)⟩
        clear hown1 hgrow1
        go_roundw
        case rel => exact ⟨k + 1, by omega, by go_num, HN2.out, HM1.out, HB1.out⟩
        case measure => (simp [intOf] <;> omega)
    · obtain rfl : k = n := by omega
      have E : Hid (trueB ss = true) := by
        have := HN.out
        rw [List.take_of_length_le (by have := Hl.out; omega)] at this
        exact decide_eq_true this
      go_wp2
      go_ret
      exact ⟨ret_b E.out, HB.out⟩
set_option maxRecDepth 100000 in
set_option maxHeartbeats 2000000 in
theorem im_IsTrueList (A : Option Addr) (n c : Nat) (ss : List ByteArray) (W : World) (hr : Rd W A n (strsV ss)) (hz : ∀ s ∈ ss, s.size ≤ 1048576) (hl : ss.length ≤ 1048576) :
    Calls Try.prog 37 #[.slice A n c] W fun e w' => e = .returned (.tuple #[.bool (out_IT ss), .bool (rowsB ss)]) ∧ Below W.heap.size W w' := by
  have hzm : ∀ s ∈ ss, s.size ≤ maxLen := fun s hs => by have := hz s hs; unfold maxLen; omega
  have HA : Hid (∀ W', Rd W' A n (strsV ss) → Calls Try.prog 67 #[.slice A n c] W' fun e w' => e = .returned (.bool (rowsB ss)) ∧ w' = W') := fun W' h => (GoodRows_any A n c ss W' h hzm).mono fun e w' h => ⟨h.1, h.2.symm⟩
  have HT : Hid (rowsB ss = true → ∀ W', Below W.heap.size W W' → Calls Try.prog 71 #[.slice A n c] W' fun e w' => e = .returned (.bool (trueB ss)) ∧ Below W'.heap.size W' w') := fun h1 W' hb => by
    have h2 : RowsOK ss := by simpa [rowsB] using h1
    exact isTrue_any A n c ss W' (by have := hr.slen; have := h2.1; omega) (hr.below hb) fun s hs => by have := (h2.2 s hs).1.2.1; rwa [size_bs] at this
  have Hr := Lib.hid hr
  obtain ⟨ra, hra⟩ : ∃ r, r = rowsB ss := ⟨_, rfl⟩
  have EO : Hid (out_IT ss = (ra && trueB ss)) := by unfold Hid out_IT; rw [hra]
  rw [← hra] at HA HT
  have HRA := Lib.hid hra
  clear hra hr hz hzm
  cases ra with
  | false =>
    go_enter Try.func37, Try.ntmps37
    go_wp2_with (go_at_call 67; refine (HA.out _ Hr.out).mono ?_; rintro e w1 ⟨rfl, rfl⟩)
    go_ret2
    exact ⟨ret_bb2 EO.out HRA.out.symm, Below.refl _ _⟩
  | true =>
    go_enter Try.func37, Try.ntmps37
    go_wp2_with first
      | (go_at_call 67; refine (HA.out _ Hr.out).mono ?_; rintro e w1 ⟨rfl, rfl⟩)
      | (go_at_call 71; refine (HT.out (by trivial) _ (Below.refl _ _)).mono ?_; rintro e w2 ⟨rfl, hb2⟩)
    go_ret2
    exact ⟨ret_bb2 (by rw [EO.out]; rfl) HRA.out.symm, hb2⟩
set_option maxRecDepth 100000 in
set_option maxHeartbeats 2000000 in
theorem sp_IsTrueList (A : Option Addr) (n c : Nat) (ss : List ByteArray) (W : World) (hr : Rd W A n (strsV ss)) (hz : ∀ s ∈ ss, s.size ≤ 1048576) (hl : ss.length ≤ 1048576) :
    Calls Try.prog 36 #[.slice A n c] W fun e w' => e = .returned (.tuple #[.bool (out_IT ss), .bool (rowsB ss)]) ∧ Below W.heap.size W w' := by
  have hzm : ∀ s ∈ ss, s.size ≤ maxLen := fun s hs => by have := hz s hs; unfold maxLen; omega
  have HA : Hid (∀ W', Rd W' A n (strsV ss) → Calls Try.prog 65 #[.slice A n c] W' fun e w' => e = .returned (.bool (rowsB ss)) ∧ ∃ d, w' = W'.drewN d) := fun W' h => l6Rows_any A n c ss W' h hzm
  have HT : Hid (∀ W', Below W.heap.size W W' → Calls Try.prog 70 #[.slice A n c] W' fun e w' => e = .returned (.bool (trueB ss)) ∧ Below W'.heap.size W' w') := fun W' hb => l7True_any A n c ss W' (by have := hr.slen; omega) (hr.below hb)
  have Hr := Lib.hid hr
  obtain ⟨ra, hra⟩ : ∃ r, r = rowsB ss := ⟨_, rfl⟩
  have EO : Hid (out_IT ss = (ra && trueB ss)) := by unfold Hid out_IT; rw [hra]
  rw [← hra] at HA
  have HRA := Lib.hid hra
  clear hra hr hz hzm
  cases ra with
  | false =>
    go_enter Try.func36, Try.ntmps36
    go_wp2_with (go_at_call 65; refine (HA.out _ Hr.out).mono ?_; rintro e w1 ⟨rfl, d, rfl⟩)
    go_ret2
    exact ⟨ret_bb2 EO.out HRA.out.symm, below_drewN' (Below.refl _ _) _⟩
  | true =>
    go_enter Try.func36, Try.ntmps36
    go_wp2_with first
      | (go_at_call 65; refine (HA.out _ Hr.out).mono ?_; rintro e w1 ⟨rfl, d, rfl⟩)
      | (go_at_call 70; refine (HT.out _ (below_drewN' (Below.refl _ _) _)).mono ?_; rintro e w2 ⟨rfl, hb2⟩)
    go_ret2
    exact ⟨ret_bb2 (by rw [EO.out]; rfl) HRA.out.symm, (below_drewN' (Below.refl _ _) d : Below W.heap.size W _).trans hb2⟩
end Go.Proofs.Ytgpjbmlemnjhfaa
