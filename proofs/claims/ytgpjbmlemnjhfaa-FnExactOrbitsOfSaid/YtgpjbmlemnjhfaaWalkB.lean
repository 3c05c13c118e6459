/- The walks of the product and the inverse of rows. -/
import Derived.Test.YtgpjbmlemnjhfaaWalkA
import Derived.Test.YtgpjbmlemnjhfaaKit2
import Derived.Test.YtgpjbmlemnjhfaaPlain2
namespace Go.Proofs.Ytgpjbmlemnjhfaa
open Go.RowKit
set_option linter.unusedVariables false

theorem bs_extract (s : ByteArray) (i j : Nat) : bs (s.extract i j) = ((bs s).take j).drop i := by
  by_cases h : i ≤ j
  · have e : i + (j - i) = j := by omega
    simp [bs, List.take_drop, e]
  · have e1 : j - i = 0 := by omega
    have e2 : List.drop i (List.take j (bs s)) = [] := List.drop_of_length_le (by simp only [List.length_take]; omega)
    rw [e2]
    simp [bs, e1]
    
theorem extract_one (s : ByteArray) (d : Nat) (h : d < s.size) : bs (s.extract d (d + 1)) = [s[d]] := by
  rw [bs_extract, take_snoc s d h, List.drop_append_of_le_length (by simp [size_bs]; omega), List.drop_of_length_le (by simp only [List.length_take]; omega)]
  rfl
theorem IsRow.byte {s : ByteArray} (h : IsRow (bs s)) {k : Nat} (hk : k < s.size) : 49 ≤ s[k].toNat ∧ s[k].toNat ≤ 48 + s.size := by
  have := h.2.2.1 _ (get_mem s k hk); rwa [size_bs] at this

theorem times_fill (a b : ByteArray) (k : Nat) (hk : k < b.size) (h1 : 49 ≤ b[k].toNat) (h2 : b[k].toNat - 49 < a.size) {w : World} {g : Nat} (h : Mem w g (u8s (fillTo (timesL (bs a) (bs b)) 0 k))) :
    Mem (w.setCell ⟨g, k, none⟩ (.int .u8 (a[b[k].toNat - 49].toNat : Int))) g (u8s (fillTo (timesL (bs a) (bs b)) 0 (k + 1))) := by
  have hl : k < (timesL (bs a) (bs b)).length := by rw [timesL_length, size_bs]; exact hk
  refine (h.set_ k _).congr ?_
  rw [u8s_set, ← fillTo_set _ _ hl]
  congr 2
  have e : (timesL (bs a) (bs b))[k] = (bs a).getD (dig (b[k])) 0 := by simp only [timesL, List.getElem_map]; rw [bs_get b k hk]
  rw [e, ← getD_bs a _ h2]; rfl

theorem times_step (a b : ByteArray) (k : Nat) (hk : k < b.size) (h2 : dig b[k] < a.size) : (timesL (bs a) (bs b)).take (k + 1) = (timesL (bs a) (bs b)).take k ++ [a[dig b[k]]] := by
  have hl : k < (timesL (bs a) (bs b)).length := by rw [timesL_length, size_bs]; exact hk
  rw [List.take_succ_eq_append_getElem hl]
  have e : (timesL (bs a) (bs b))[k] = (bs a).getD (dig (b[k])) 0 := by simp only [timesL, List.getElem_map]; rw [bs_get b k hk]
  rw [e, getD_bs a _ h2]
set_option maxRecDepth 100000 in
set_option maxHeartbeats 400000 in
theorem l1At_any (s : ByteArray) (p : Int) (k : Nat) (w : World) (hp : p = (k : Int) + 1) (hk : k < s.size) (hs : s.size ≤ 8) (h1 : 49 ≤ s[k].toNat) :
    Calls Try.prog 42 #[.string s, .int .i64 p] w fun e w' => e = .returned (.int .i64 ((dig s[k] : Nat) + 1)) ∧ w = w' := by
  subst hp
  have b1 : 49 ≤ (s[k].toNat : Int) := by omega
  have b2 : (s[k].toNat : Int) ≤ 255 := by have := UInt8.toNat_lt s[k]; omega
  have E : Hid ((dig s[k] : Int) + 1 = (s[k].toNat : Int) - 48) := by unfold Hid dig; omega
  go_enter Try.func42, Try.ntmps42
  go_wp2
  go_ret
  exact ⟨ret_i E.out, rfl⟩
/-- whether a string is a row of n -/
def rowOfB (n : Int) (s : ByteArray) : Bool := decide ((s.size : Int) = n) && rowB s
set_option maxRecDepth 100000 in
set_option maxHeartbeats 400000 in
theorem isRowOf_any (n : Int) (s : ByteArray) (w : World) (hm : s.size ≤ maxLen) : Calls Try.prog 57 #[.int .i64 n, .string s] w fun e w' => e = .returned (.bool (rowOfB n s)) ∧ w = w' := by
  by_cases h : (s.size : Int) = n
  · have hb : ((s.size : Int) == n) = true := by simpa using h
    have E : Hid (rowOfB n s = rowB s) := by unfold Hid rowOfB; simp [h]
    clear h
    go_enter Try.func57, Try.ntmps57
    go_wp2_with (go_at_call 43; refine (GoodRow_any _ _ hm).mono ?_; rintro e w' ⟨rfl, rfl⟩)
    go_ret
    exact ⟨ret_b E.out, rfl⟩
  · have hb : ((s.size : Int) == n) = false := by simpa using h
    have E : Hid (rowOfB n s = false) := by unfold Hid rowOfB; simp [h]
    clear h
    go_enter Try.func57, Try.ntmps57
    go_wp2_with (go_at_call 43; refine (GoodRow_any _ _ hm).mono ?_; rintro e w' ⟨rfl, rfl⟩)
    go_ret
    exact ⟨ret_b E.out, rfl⟩
/-- whether two strings are rows of one stage -/
def twoB (a b : ByteArray) : Bool := rowB a && rowB b && decide (a.size = b.size)
set_option maxRecDepth 100000 in
set_option maxHeartbeats 400000 in
theorem l1Two_any (a b : ByteArray) (w : World) (ha : a.size ≤ maxLen) (hb : b.size ≤ maxLen) : Calls Try.prog 54 #[.string a, .string b] w fun e w' => e = .returned (.bool (twoB a b)) ∧ ∃ n, w' = w.drewN n := by
  by_cases h1 : rowB a = true
  · by_cases h2 : rowB b = true
    · by_cases h3 : a.size = b.size
      · have h3' : ((a.size : Int) == (b.size : Int)) = true := by simp [h3]
        have E : Hid (twoB a b = true) := by unfold Hid twoB; simp [h1, h2, h3]
        clear h3
        go_enter Try.func54, Try.ntmps54
        go_wp2_with (go_at_call 40; refine (l1Row_any _ _ (by assumption)).mono ?_; rintro e w' ⟨rfl, n1, rfl⟩)
        go_ret
        exact ⟨ret_b E.out, _, rfl⟩
      · have h3' : ((a.size : Int) == (b.size : Int)) = false := by simp; omega
        have E : Hid (twoB a b = false) := by unfold Hid twoB; simp [h3]
        clear h3
        go_enter Try.func54, Try.ntmps54
        go_wp2_with (go_at_call 40; refine (l1Row_any _ _ (by assumption)).mono ?_; rintro e w' ⟨rfl, n1, rfl⟩)
        go_ret
        exact ⟨ret_b E.out, _, rfl⟩
    · have h2' : rowB b = false := by simpa using h2
      have E : Hid (twoB a b = false) := by unfold Hid twoB; simp [h2']
      clear h2
      go_enter Try.func54, Try.ntmps54
      go_wp2_with (go_at_call 40; refine (l1Row_any _ _ (by assumption)).mono ?_; rintro e w' ⟨rfl, n1, rfl⟩)
      go_ret
      exact ⟨ret_b E.out, _, rfl⟩
  · have h1' : rowB a = false := by simpa using h1
    have E : Hid (twoB a b = false) := by unfold Hid twoB; simp [h1']
    clear h1
    go_enter Try.func54, Try.ntmps54
    go_wp2_with (go_at_call 40; refine (l1Row_any _ _ (by assumption)).mono ?_; rintro e w' ⟨rfl, n1, rfl⟩)
    go_ret
    exact ⟨ret_b E.out, _, rfl⟩
set_option maxRecDepth 100000 in
set_option maxHeartbeats 400000 in
theorem l1Times_any (a b : ByteArray) (w : World) (ha : IsRow (bs a)) (hb : IsRow (bs b)) (hab : a.size = b.size) :
    Calls Try.prog 84 #[.string a, .string b] w fun e w' => e = .returned (.string (mkS (timesL (bs a) (bs b)))) ∧ w = w' := by
  have Hb := Lib.hid hb
  have Ha := Lib.hid ha
  have n3 : 3 ≤ b.size := by have := hb.1; rwa [size_bs] at this
  have n8 : b.size ≤ 8 := by have := hb.2.1; rwa [size_bs] at this
  have s1 : b.size ≤ a.size := by omega
  have s2 : a.size ≤ b.size := by omega
  clear ha hb hab
  go_enter Try.func84, Try.ntmps84
  go_wp2
  go_loop [5, 6] (fun o i => ∃ (k : Nat) (t : ByteArray), k ≤ b.size ∧ i = .int .i64 ((k : Int) + 1) ∧ o = .string t ∧ Hid (bs t = (timesL (bs a) (bs b)).take k) ∧ t.size ≤ 8) (fun _ i => b.size + 1 - (intOf i).toNat)
  case atStart => exact ⟨0, _, by omega, rfl, rfl, by simp [Hid, bs], by decide⟩
  case round =>
    obtain ⟨k, t, hk, rfl, rfl, Ht, ht8⟩ := hrel
    by_cases hkn : k < b.size
    · have hbb := Hb.out.byte hkn
      obtain ⟨c1, c2⟩ := hbb
      have d1 : dig b[k] < a.size := by unfold dig; omega
      have d2 : (dig b[k] : Int) < (a.size : Int) := by omega
      go_wp2_with (go_at_call 42; refine (l1At_any b _ k _ rfl hkn n8 c1).mono ?_; rintro e w' ⟨rfl, rfl⟩)
      have HN : bs (t ++ a.extract (dig b[k]) (dig b[k] + 1)) = (timesL (bs a) (bs b)).take (k + 1) := by
        rw [bs_append, Ht.out, extract_one a _ d1, times_step a b k hkn d1]
      have hz : (t ++ a.extract (dig b[k]) (dig b[k] + 1)).size ≤ 8 := by rw [← size_bs, HN, List.length_take, timesL_length, size_bs]; omega
      go_round
      case rel => exact ⟨k + 1, _, by omega, by go_num, rfl, HN, hz⟩
      case measure => simp [intOf]; omega
    · have E : Hid (mkS (timesL (bs a) (bs b)) = t) := by
        unfold Hid
        have := Ht.out
        rw [List.take_of_length_le (by rw [timesL_length, size_bs]; omega)] at this
        rw [← this, mkS_bs]
      go_wp2
      go_ret
      exact ⟨ret_s E.out, rfl⟩
theorem turn_fill (init : List UInt8) (a : ByteArray) (k : Nat) (hk : k < a.size) (h8 : a.size ≤ 8) (v : Int) (hv : v = 49 + (k : Int)) {w : World} {g : Nat} (h : Mem w g (u8s (turnTo init (bs a) k))) :
    Mem (w.setCell ⟨g, dig a[k], none⟩ (.int .u8 v)) g (u8s (turnTo init (bs a) (k + 1))) := by
  refine (h.set_ _ _).congr ?_
  have e : v = ((UInt8.ofNat (49 + k)).toNat : Int) := by
    rw [UInt8.toNat_ofNat', Nat.mod_eq_of_lt (by omega)]; omega
  rw [e, u8s_set]
  simp only [turnTo, getD_bs a k hk]
end Go.Proofs.Ytgpjbmlemnjhfaa
