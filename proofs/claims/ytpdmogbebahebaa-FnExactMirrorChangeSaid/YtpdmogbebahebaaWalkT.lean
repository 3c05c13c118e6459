/- The walks of the completion of an abbreviated change. -/
import Derived.Test.YtpdmogbebahebaaWalkH
import Derived.Test.YtpdmogbebahebaaKit4
namespace Go.Proofs.Ytpdmogbebahebaa
open Go.RowKit
set_option linter.unusedVariables false

def dgS (n : Int) : ByteArray := mkS [UInt8.ofNat (48 + n.toNat)]
def xS (s : ByteArray) : ByteArray := if bs s = [120] then { data := #[45] } else s
def tidyL (n : Int) (s : ByteArray) : List ByteArray := [xS s, xS s ++ dgS n, { data := #[49] } ++ xS s, { data := #[49] } ++ xS s ++ dgS n]
noncomputable def tidyS (n : Int) (s : ByteArray) : ByteArray := ((tidyL n s).find? (chB n)).getD { data := #[] }
noncomputable def tidyB (n : Int) (s : ByteArray) : Bool := (tidyL n s).any (chB n)
def NoTo (n : Int) (l : List ByteArray) (k : Nat) : Prop := ∀ s ∈ l.take k, chB n s = false
theorem NoTo.succ {n : Int} {l : List ByteArray} {k : Nat} (h : NoTo n l k) (hk : k < l.length) (h1 : chB n l[k] = false) : NoTo n l (k + 1) := by
  intro s hs
  rw [List.take_succ_eq_append_getElem hk] at hs
  rcases List.mem_append.1 hs with hs | hs
  · exact h s hs
  · simp at hs; subst hs; exact h1
theorem tidy_found {n : Int} {s : ByteArray} {k : Nat} (h : NoTo n (tidyL n s) k) (hk : k < (tidyL n s).length) (h1 : chB n (tidyL n s)[k] = true) : tidyS n s = (tidyL n s)[k] ∧ tidyB n s = true := by
  refine ⟨?_, ?_⟩
  · unfold tidyS
    have : (tidyL n s).find? (chB n) = some (tidyL n s)[k] := by
      rw [List.find?_eq_some_iff_getElem]
      refine ⟨h1, k, hk, rfl, fun j hj => ?_⟩
      have := h (tidyL n s)[j] (by rw [List.mem_take_iff_getElem]; exact ⟨j, by omega, rfl⟩)
      simp [this]
    rw [this]; rfl
  · unfold tidyB
    rw [List.any_eq_true]
    exact ⟨_, List.getElem_mem hk, h1⟩
theorem tidy_none {n : Int} {s : ByteArray} (h : NoTo n (tidyL n s) 4) : tidyS n s = { data := #[] } ∧ tidyB n s = false := by
  have h' : ∀ x ∈ tidyL n s, chB n x = false := fun x hx => h x (by rw [List.take_of_length_le (by simp [tidyL])]; exact hx)
  refine ⟨?_, ?_⟩
  · unfold tidyS
    rw [List.find?_eq_none.2 fun x hx => by rw [h' x hx]; simp]; rfl
  · unfold tidyB
    rw [List.any_eq_false]
    exact fun x hx => by rw [h' x hx]; simp
theorem tidy_pos {n : Int} {s : ByteArray} (h : tidyB n s = true) : chB n (tidyS n s) = true := by
  unfold tidyB at h
  rw [List.any_eq_true] at h
  obtain ⟨x, hx, hc⟩ := h
  unfold tidyS
  cases hf : (tidyL n s).find? (chB n) with
  | none => have := List.find?_eq_none.1 hf x hx; rw [hc] at this; simp at this
  | some y => exact List.find?_some hf
theorem tidy_neg {n : Int} {s : ByteArray} (h : tidyB n s = false) : tidyS n s = { data := #[] } := by
  unfold tidyB at h
  rw [List.any_eq_false] at h
  unfold tidyS
  rw [List.find?_eq_none.2 fun x hx => h x hx]; rfl
theorem own_lit4 (w : World) (e : TypeId) (a b c d : Value) : Own (w.alloc (.cells #[a, b, c, d] e)) e w.heap.size (w.alloc (.cells #[a, b, c, d] e)).heap.size (some ⟨w.heap.size, 0, none⟩) 4 4 [a, b, c, d] :=
  Own.of_row (World.ownsRow_lit w #[a, b, c, d] 4 (Nat.le_refl _) (by unfold maxLen; omega) rfl)
theorem tidy_size {n : Int} {s : ByteArray} (hs : s.size ≤ 1048576) : ∀ x ∈ tidyL n s, x.size ≤ 2097152 := by
  have hx : (xS s).size ≤ 1048576 := by
    unfold xS
    split
    · exact Nat.le_trans (show (1 : Nat) ≤ 1048576 by omega) (Nat.le_refl _)
    · exact hs
  have hd : (dgS n).size = 1 := by unfold dgS; rw [size_mkS]; rfl
  have e1 : ∀ a b : ByteArray, (a ++ b).size = a.size + b.size := fun a b => by rw [← size_bs, bs_append, List.length_append, size_bs, size_bs]
  have h1 : ({ data := #[49] } : ByteArray).size = 1 := rfl
  intro x hxm
  simp only [tidyL, List.mem_cons, List.not_mem_nil, or_false] at hxm
  rcases hxm with rfl | rfl | rfl | rfl
  · omega
  · rw [e1]; omega
  · rw [e1]; omega
  · rw [e1, e1]; omega
theorem x_list {s : ByteArray} (h : s.toList = [120]) : xS s = { data := #[45] } := by
  unfold xS; rw [if_pos (by rw [ByteArray.toList_eq] at h; exact h)]
theorem x_list_not {s : ByteArray} (h : ¬ s.toList = [120]) : xS s = s := by
  unfold xS; rw [if_neg (by intro e; apply h; rw [ByteArray.toList_eq]; exact e)]

set_option maxRecDepth 100000 in
set_option maxHeartbeats 1000000 in
theorem l1Num_small (n : Int) (w : World) (h0 : 0 ≤ n) (h9 : n ≤ 9) : Calls Try.prog 80 #[.int .i64 n] w fun e w' => e = .returned (.string (dgS n)) ∧ Below w.heap.size w w' := by
  obtain ⟨t, hcv, ht, hz⟩ := one_byte (P := Try.prog) w 59 9 5 (48 + n) (UInt8.ofNat (48 + n.toNat)) (by rw [UInt8.toNat_ofNat', Nat.mod_eq_of_lt (by omega)]; omega) Try.underlying59 Try.underlying5 Try.underlying9
  have E : Hid (dgS n = t) := by unfold Hid dgS; rw [← ht, mkS_bs]
  clear ht
  have h10 : n < 10 := by omega
  go_enter Try.func80, Try.ntmps80
  go_wp2_with fail
  go_ret
  exact ⟨ret_s E.out, below_alloc _ _⟩
theorem extract_one' (s : ByteArray) (d : Nat) (h : d < s.size) : bs (s.extract d (d + 1)) = [s[d]] := by
  have e : bs (s.extract d (d + 1)) = ((bs s).take (d + 1)).drop d := by
    have e1 : d + (d + 1 - d) = d + 1 := by omega
    simp [bs, List.take_drop, e1]
  rw [e, take_snoc s d h, List.drop_append_of_le_length (by simp [size_bs]; omega), List.drop_of_length_le (by simp only [List.length_take]; omega)]
  rfl
theorem ret_tb {b v : ByteArray} {x y : Bool} (h : b = v) (h2 : x = y) : Ending.returned (.tuple #[.string v, .bool y]) = .returned (.tuple #[.string b, .bool x]) := by rw [h, h2]
set_option maxRecDepth 100000 in
set_option maxHeartbeats 2000000 in
theorem l3Tidy_any (n : Int) (s : ByteArray) (w : World) (h3 : 3 ≤ n) (h8 : n ≤ 8) (hs : s.size ≤ 1048576) :
    Calls Try.prog 52 #[.int .i64 n, .string s] w fun e w' => e = .returned (.string (tidyS n s)) ∧ Below w.heap.size w w' := by
  obtain ⟨d, hd⟩ : ∃ d, d = dgS n := ⟨_, rfl⟩
  have hC : ∀ W, Calls Try.prog 80 #[.int .i64 n] W fun e w' => e = .returned (.string d) ∧ Below W.heap.size W w' := fun W => by rw [hd]; exact l1Num_small n W (by omega) (by omega)
  have HC := Lib.hid hC
  have hds : d.size ≤ 1 := by rw [hd]; unfold dgS; rw [size_mkS]; exact Nat.le_refl _
  have Hsz := Lib.hid (tidy_size (n := n) hs)
  obtain ⟨t, ht⟩ : ∃ t, t = xS s := ⟨_, rfl⟩
  have HL : Hid (tidyL n s = [t, t ++ d, { data := #[49] } ++ t, { data := #[49] } ++ t ++ d]) := by unfold Hid tidyL; rw [ht, hd]
  clear hC hd
  by_cases hx : s.toList = [120]
  · have hx1 : (s.toList == [120]) = true := by rw [hx]; rfl
    rw [x_list hx] at ht
    subst ht
    clear hx
    go_enter Try.func52, Try.ntmps52
    go_wp2_with fail
    refine (HC.out _).mono ?_
    rintro e w1 ⟨rfl, hb1⟩
    go_wp2_with fail
    refine (HC.out _).mono ?_
    rintro e w2 ⟨rfl, hb2⟩
    have HB2 := Lib.hid (hb1.trans (hb2.mono hb1.size))
    clear hb1 hb2
    go_wp2_with fail
    have HO := Lib.hid ((own_lit4 w2 9 (.string { data := #[45] }) (.string ({ data := #[45] } ++ d)) (.string ({ data := #[49] } ++ { data := #[45] })) (.string ({ data := #[49] } ++ { data := #[45] } ++ d))).congr (show _ = strsV (tidyL n s) by rw [HL.out]; rfl))
    go_loopw [23] (fun i wr => ∃ k : Nat, k ≤ 4 ∧ i = .int .i64 k ∧ Hid (NoTo n (tidyL n s) k) ∧ Hid (Own wr 9 w2.heap.size (w2.heap.size + 1) (some ⟨w2.heap.size, 0, none⟩) 4 4 (strsV (tidyL n s))) ∧ Hid (Below w.heap.size w wr)) (fun i _ => 4 - (intOf i).toNat)
    case atStart => exact ⟨0, by omega, rfl, by simp [Hid, NoTo], HO.out.mono (Nat.le_refl _) (by simp), HB2.out.trans ((below_alloc w2 _).mono HB2.out.size)⟩
    case round =>
      obtain ⟨k, hk, rfl, HT, HOw, HB⟩ := hrel
      by_cases hlt : k < 4
      · obtain ⟨b, off, e, _, hc⟩ := HOw.out.rd.str hlt
        injection e with e; injection e with e1 e2; subst e1 e2
        have hkl : k < (tidyL n s).length := by simpa [tidyL] using hlt
        obtain ⟨x, hx⟩ : ∃ x, x = (tidyL n s)[k] := ⟨_, rfl⟩
        rw [← hx, Nat.zero_add] at hc
        have hxs : x.size ≤ 2097152 := by rw [hx]; exact Hsz.out _ (List.getElem_mem hkl)
        have hxm : x.size ≤ maxLen := by unfold maxLen; omega
        have Hx := Lib.hid hx
        have i1 : (k : Int) < 4 := by omega
        clear hx
        cases hb : chB n x with
        | true =>
          have E := Lib.hid (tidy_found HT.out hkl (by rw [← Hx.out]; exact hb))
          rw [← Hx.out] at E
          go_wp2_with (go_at_call 47; refine (l2Change_any _ _ _ hxm).mono ?_; rintro e w' ⟨rfl, rfl⟩)
          go_ret
          exact ⟨ret_s E.out.1, HB.out⟩
        | false =>
          have HN : Hid (NoTo n (tidyL n s) (k + 1)) := HT.out.succ hkl (by rw [← Hx.out]; exact hb)
          go_wp2_with (go_at_call 47; refine (l2Change_any _ _ _ hxm).mono ?_; rintro e w' ⟨rfl, rfl⟩)
          go_roundw
          case rel => exact ⟨k + 1, by omega, by go_num, HN.out, HOw.out, HB.out⟩
          case measure => (simp [intOf]; omega)
      · have E : Hid (tidyS n s = { data := #[] } ∧ tidyB n s = false) := tidy_none (by have := HT.out; rwa [show k = 4 by omega] at this)
        have hge : (4 : Int) ≤ (k : Int) := by omega
        clear hlt
        go_wp2
        go_ret
        exact ⟨ret_s E.out.1, HB.out⟩
  · have hx1 : (s.toList == [120]) = false := by simp [hx]
    rw [x_list_not hx] at ht
    obtain rfl : s = t := ht.symm
    clear hx
    go_enter Try.func52, Try.ntmps52
    go_wp2_with fail
    refine (HC.out _).mono ?_
    rintro e w1 ⟨rfl, hb1⟩
    go_wp2_with fail
    refine (HC.out _).mono ?_
    rintro e w2 ⟨rfl, hb2⟩
    have HB2 := Lib.hid (hb1.trans (hb2.mono hb1.size))
    clear hb1 hb2
    go_wp2_with fail
    have HO := Lib.hid ((own_lit4 w2 9 (.string s) (.string (s ++ d)) (.string ({ data := #[49] } ++ s)) (.string ({ data := #[49] } ++ s ++ d))).congr (show _ = strsV (tidyL n s) by rw [HL.out]; rfl))
    go_loopw [23] (fun i wr => ∃ k : Nat, k ≤ 4 ∧ i = .int .i64 k ∧ Hid (NoTo n (tidyL n s) k) ∧ Hid (Own wr 9 w2.heap.size (w2.heap.size + 1) (some ⟨w2.heap.size, 0, none⟩) 4 4 (strsV (tidyL n s))) ∧ Hid (Below w.heap.size w wr)) (fun i _ => 4 - (intOf i).toNat)
    case atStart => exact ⟨0, by omega, rfl, by simp [Hid, NoTo], HO.out.mono (Nat.le_refl _) (by simp), HB2.out.trans ((below_alloc w2 _).mono HB2.out.size)⟩
    case round =>
      obtain ⟨k, hk, rfl, HT, HOw, HB⟩ := hrel
      by_cases hlt : k < 4
      · obtain ⟨b, off, e, _, hc⟩ := HOw.out.rd.str hlt
        injection e with e; injection e with e1 e2; subst e1 e2
        have hkl : k < (tidyL n s).length := by simpa [tidyL] using hlt
        obtain ⟨x, hx⟩ : ∃ x, x = (tidyL n s)[k] := ⟨_, rfl⟩
        rw [← hx, Nat.zero_add] at hc
        have hxs : x.size ≤ 2097152 := by rw [hx]; exact Hsz.out _ (List.getElem_mem hkl)
        have hxm : x.size ≤ maxLen := by unfold maxLen; omega
        have Hx := Lib.hid hx
        have i1 : (k : Int) < 4 := by omega
        clear hx
        cases hb : chB n x with
        | true =>
          have E := Lib.hid (tidy_found HT.out hkl (by rw [← Hx.out]; exact hb))
          rw [← Hx.out] at E
          go_wp2_with (go_at_call 47; refine (l2Change_any _ _ _ hxm).mono ?_; rintro e w' ⟨rfl, rfl⟩)
          go_ret
          exact ⟨ret_s E.out.1, HB.out⟩
        | false =>
          have HN : Hid (NoTo n (tidyL n s) (k + 1)) := HT.out.succ hkl (by rw [← Hx.out]; exact hb)
          go_wp2_with (go_at_call 47; refine (l2Change_any _ _ _ hxm).mono ?_; rintro e w' ⟨rfl, rfl⟩)
          go_roundw
          case rel => exact ⟨k + 1, by omega, by go_num, HN.out, HOw.out, HB.out⟩
          case measure => (simp [intOf]; omega)
      · have E : Hid (tidyS n s = { data := #[] } ∧ tidyB n s = false) := tidy_none (by have := HT.out; rwa [show k = 4 by omega] at this)
        have hge : (4 : Int) ≤ (k : Int) := by omega
        clear hlt
        go_wp2
        go_ret
        exact ⟨ret_s E.out.1, HB.out⟩
set_option maxRecDepth 100000 in
set_option maxHeartbeats 2000000 in
theorem TidyChange_good (n : Int) (s : ByteArray) (w : World) (h3 : 3 ≤ n) (h8 : n ≤ 8) (hs : s.size ≤ 1048576) :
    Calls Try.prog 18 #[.int .i64 n, .string s] w fun e w' => e = .returned (.tuple #[.string (tidyS n s), .bool (tidyB n s)]) ∧ Below w.heap.size w w' := by
  have hin : inB n 3 8 = true := inB_true h3 h8
  obtain ⟨r, hr⟩ : ∃ r : ByteArray, r = mkS (roundsL n.toNat) := ⟨_, rfl⟩
  have hC : ∀ W, Calls Try.prog 53 #[.int .i64 n] W fun e w' => e = .returned (.string r) ∧ W = w' := fun W => by rw [hr]; exact rounds_any n W (by omega) (by omega)
  have HC := Lib.hid hC
  have hrs : (r.size : Int) = n := by rw [hr, size_mkS, roundsL_length]; omega
  have hrs1 : (r.size : Int) ≤ n := by omega
  have hrs2 : n ≤ (r.size : Int) := by omega
  obtain ⟨m, hm⟩ : ∃ m : Nat, n - 1 = (m : Int) := ⟨(n - 1).toNat, by omega⟩
  have hmr : (m : Int) ≤ (r.size : Int) := by omega
  obtain ⟨d, hd⟩ : ∃ d, d = r.extract m r.size := ⟨_, rfl⟩
  have hdd : d = dgS n := by
    apply bs_inj
    have hmn : m + 1 = r.size := by omega
    rw [hd, ← hmn, extract_one' r m (by omega)]
    unfold dgS
    rw [bs_mkS]
    congr 1
    have hg : r[m]'(by omega) = (bs r).getD m 0 := (getD_bs r m (by omega)).symm
    rw [hg, hr, bs_mkS, roundsL_get (by omega), show n.toNat = m + 1 by omega]
    congr 1
    omega
  have hds : d.size ≤ 1 := by rw [hdd]; unfold dgS; rw [size_mkS]; exact Nat.le_refl _
  have Hsz := Lib.hid (tidy_size (n := n) hs)
  obtain ⟨t, ht⟩ : ∃ t, t = xS s := ⟨_, rfl⟩
  have HL : Hid (tidyL n s = [t, t ++ d, { data := #[49] } ++ t, { data := #[49] } ++ t ++ d]) := by unfold Hid tidyL; rw [ht, hdd]
  have hde : r.extract m r.size = d := hd.symm
  have HB2 : Hid (Below w.heap.size w w) := Below.refl _ _
  clear hC hdd hrs hr hd
  by_cases hx : s.toList = [120]
  · have hx1 : (s.toList == [120]) = true := by rw [hx]; rfl
    rw [x_list hx] at ht
    subst ht
    clear hx
    go_enter Try.func18, Try.ntmps18
    go_wp2_with (first | (go_at_call 48; refine (isStage_any _ _).mono ?_; rintro e w' ⟨rfl, rfl⟩) | (go_at_call 53; refine (HC.out _).mono ?_; rintro e w' ⟨rfl, rfl⟩))
    have HO := Lib.hid ((own_lit4 w 9 (.string { data := #[45] }) (.string ({ data := #[45] } ++ d)) (.string ({ data := #[49] } ++ { data := #[45] })) (.string ({ data := #[49] } ++ { data := #[45] } ++ d))).congr (show _ = strsV (tidyL n s) by rw [HL.out]; rfl))
    go_loopw [31] (fun i wr => ∃ k : Nat, k ≤ 4 ∧ i = .int .i64 k ∧ Hid (NoTo n (tidyL n s) k) ∧ Hid (Own wr 9 w.heap.size (w.heap.size + 1) (some ⟨w.heap.size, 0, none⟩) 4 4 (strsV (tidyL n s))) ∧ Hid (Below w.heap.size w wr)) (fun i _ => 4 - (intOf i).toNat)
    case atStart => exact ⟨0, by omega, rfl, by simp [Hid, NoTo], HO.out.mono (Nat.le_refl _) (by simp), HB2.out.trans ((below_alloc w _).mono HB2.out.size)⟩
    case round =>
      obtain ⟨k, hk, rfl, HT, HOw, HB⟩ := hrel
      by_cases hlt : k < 4
      · obtain ⟨b, off, e, _, hc⟩ := HOw.out.rd.str hlt
        injection e with e; injection e with e1 e2; subst e1 e2
        have hkl : k < (tidyL n s).length := by simpa [tidyL] using hlt
        obtain ⟨x, hx⟩ : ∃ x, x = (tidyL n s)[k] := ⟨_, rfl⟩
        rw [← hx, Nat.zero_add] at hc
        have hxs : x.size ≤ 2097152 := by rw [hx]; exact Hsz.out _ (List.getElem_mem hkl)
        have hxm : x.size ≤ maxLen := by unfold maxLen; omega
        have Hx := Lib.hid hx
        have i1 : (k : Int) < 4 := by omega
        clear hx
        cases hb : chB n x with
        | true =>
          have E := Lib.hid (tidy_found HT.out hkl (by rw [← Hx.out]; exact hb))
          rw [← Hx.out] at E
          go_wp2_with (go_at_call 16; refine (GoodChange_any _ _ _ hxs).mono ?_; rintro e w3 ⟨rfl, hb3⟩)
          go_ret2
          exact ⟨ret_tb E.out.1 E.out.2, HB.out.trans (hb3.mono HB.out.size)⟩
        | false =>
          have HN : Hid (NoTo n (tidyL n s) (k + 1)) := HT.out.succ hkl (by rw [← Hx.out]; exact hb)
          go_wp2_with (go_at_call 16; refine (GoodChange_any _ _ _ hxs).mono ?_; rintro e w3 ⟨rfl, hb3⟩)
          go_roundw
          case rel => exact ⟨k + 1, by omega, by go_num, HN.out, HOw.out.below hb3, HB.out.trans (hb3.mono HB.out.size)⟩
          case measure => (simp [intOf]; omega)
      · have E : Hid (tidyS n s = { data := #[] } ∧ tidyB n s = false) := tidy_none (by have := HT.out; rwa [show k = 4 by omega] at this)
        have hge : (4 : Int) ≤ (k : Int) := by omega
        clear hlt
        go_wp2
        go_ret2
        exact ⟨ret_tb E.out.1 E.out.2, HB.out⟩
  · have hx1 : (s.toList == [120]) = false := by simp [hx]
    rw [x_list_not hx] at ht
    obtain rfl : s = t := ht.symm
    clear hx
    go_enter Try.func18, Try.ntmps18
    go_wp2_with (first | (go_at_call 48; refine (isStage_any _ _).mono ?_; rintro e w' ⟨rfl, rfl⟩) | (go_at_call 53; refine (HC.out _).mono ?_; rintro e w' ⟨rfl, rfl⟩))
    have HO := Lib.hid ((own_lit4 w 9 (.string s) (.string (s ++ d)) (.string ({ data := #[49] } ++ s)) (.string ({ data := #[49] } ++ s ++ d))).congr (show _ = strsV (tidyL n s) by rw [HL.out]; rfl))
    go_loopw [31] (fun i wr => ∃ k : Nat, k ≤ 4 ∧ i = .int .i64 k ∧ Hid (NoTo n (tidyL n s) k) ∧ Hid (Own wr 9 w.heap.size (w.heap.size + 1) (some ⟨w.heap.size, 0, none⟩) 4 4 (strsV (tidyL n s))) ∧ Hid (Below w.heap.size w wr)) (fun i _ => 4 - (intOf i).toNat)
    case atStart => exact ⟨0, by omega, rfl, by simp [Hid, NoTo], HO.out.mono (Nat.le_refl _) (by simp), HB2.out.trans ((below_alloc w _).mono HB2.out.size)⟩
    case round =>
      obtain ⟨k, hk, rfl, HT, HOw, HB⟩ := hrel
      by_cases hlt : k < 4
      · obtain ⟨b, off, e, _, hc⟩ := HOw.out.rd.str hlt
        injection e with e; injection e with e1 e2; subst e1 e2
        have hkl : k < (tidyL n s).length := by simpa [tidyL] using hlt
        obtain ⟨x, hx⟩ : ∃ x, x = (tidyL n s)[k] := ⟨_, rfl⟩
        rw [← hx, Nat.zero_add] at hc
        have hxs : x.size ≤ 2097152 := by rw [hx]; exact Hsz.out _ (List.getElem_mem hkl)
        have hxm : x.size ≤ maxLen := by unfold maxLen; omega
        have Hx := Lib.hid hx
        have i1 : (k : Int) < 4 := by omega
        clear hx
        cases hb : chB n x with
        | true =>
          have E := Lib.hid (tidy_found HT.out hkl (by rw [← Hx.out]; exact hb))
          rw [← Hx.out] at E
          go_wp2_with (go_at_call 16; refine (GoodChange_any _ _ _ hxs).mono ?_; rintro e w3 ⟨rfl, hb3⟩)
          go_ret2
          exact ⟨ret_tb E.out.1 E.out.2, HB.out.trans (hb3.mono HB.out.size)⟩
        | false =>
          have HN : Hid (NoTo n (tidyL n s) (k + 1)) := HT.out.succ hkl (by rw [← Hx.out]; exact hb)
          go_wp2_with (go_at_call 16; refine (GoodChange_any _ _ _ hxs).mono ?_; rintro e w3 ⟨rfl, hb3⟩)
          go_roundw
          case rel => exact ⟨k + 1, by omega, by go_num, HN.out, HOw.out.below hb3, HB.out.trans (hb3.mono HB.out.size)⟩
          case measure => (simp [intOf]; omega)
      · have E : Hid (tidyS n s = { data := #[] } ∧ tidyB n s = false) := tidy_none (by have := HT.out; rwa [show k = 4 by omega] at this)
        have hge : (4 : Int) ≤ (k : Int) := by omega
        clear hlt
        go_wp2
        go_ret2
        exact ⟨ret_tb E.out.1 E.out.2, HB.out⟩
end Go.Proofs.Ytpdmogbebahebaa
