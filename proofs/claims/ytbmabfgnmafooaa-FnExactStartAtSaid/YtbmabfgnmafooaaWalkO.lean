/- The walks of the check of a method. -/
import Derived.Test.YtbmabfgnmafooaaWalkL
import Derived.Test.YtbmabfgnmafooaaWalkN
namespace Go.Proofs.Ytbmabfgnmafooaa
open Go.RowKit
set_option linter.unusedVariables false

def isL (c : UInt8) : Prop := 97 ≤ c.toNat ∧ c.toNat ≤ 122
instance (c : UInt8) : Decidable (isL c) := by unfold isL; infer_instance
def wordB (s : ByteArray) : Bool := decide (1 ≤ s.size ∧ s.size ≤ 10 ∧ ∀ i (h : i < s.size), isL s[i])
theorem ch_stage0 {n : Int} {s : ByteArray} (h : chB n s = true) : 3 ≤ n ∧ n ≤ 8 := by
  have h := of_cb h
  have := h.1; have := h.2.1; omega
noncomputable def methB (nm : ByteArray) (st : Int) (ss : List ByteArray) : Bool := wordB nm && chsB st ss
set_option maxRecDepth 100000 in
set_option maxHeartbeats 1000000 in
theorem l4Name_any (s : ByteArray) (w : World) (hm : s.size ≤ 2097152) : Calls Try.prog 82 #[.string s] w fun e w' => e = .returned (.bool (wordB s)) ∧ w = w' := by
  go_enter Try.func82, Try.ntmps82
  go_wp2
  go_loop [3] (fun i => ∃ k : Nat, k ≤ s.size ∧ i = .int .i64 k ∧ Hid (∀ i (h : i < s.size), i < k → isL s[i])) (fun i => s.size - (intOf i).toNat)
  case atStart => exact ⟨0, by omega, rfl, fun j _ hj => by omega⟩
  case round =>
    obtain ⟨k, hk, rfl, HK⟩ := hrel
    by_cases hlt : k < s.size
    · have i1 : (k : Int) < (s.size : Int) := by omega
      have b2 : (s[k].toNat : Int) ≤ 255 := by have := UInt8.toNat_lt s[k]; omega
      by_cases ha : isL s[k]
      · have c1 : 97 ≤ (s[k].toNat : Int) := by have := ha.1; omega
        have c2 : (s[k].toNat : Int) ≤ 122 := by have := ha.2; omega
        have HK2 : Hid (∀ i (h : i < s.size), i < k + 1 → isL s[i]) := fun j hj h => by
          by_cases e : j = k
          · subst e; exact ha
          · exact HK.out j hj (by omega)
        clear ha
        go_wp2
        go_round
        case rel => exact ⟨k + 1, by omega, by go_num, HK2.out⟩
        case measure => simp [intOf]; omega
      · have E : Hid (wordB s = false) := decide_eq_false fun h => ha (h.2.2 k hlt)
        by_cases hb : s[k].toNat < 97
        · have c1 : (s[k].toNat : Int) < 97 := by omega
          clear ha hb
          go_wp2
          go_ret
          exact ⟨ret_b E.out, rfl⟩
        · have c1 : 97 ≤ (s[k].toNat : Int) := by omega
          have c2 : 122 < (s[k].toNat : Int) := by
            have : ¬ s[k].toNat ≤ 122 := fun h => ha ⟨by omega, h⟩
            omega
          clear ha hb
          go_wp2
          go_ret
          exact ⟨ret_b E.out, rfl⟩
    · by_cases h0 : True
      · clear h0
        have E : Hid (wordB s = inB s.size 1 10) := by
          unfold Hid wordB inB
          by_cases h : 1 ≤ s.size ∧ s.size ≤ 10
          · rw [decide_eq_true ⟨h.1, h.2, fun i hi => HK.out i hi (by omega)⟩]
            simp; omega
          · rw [decide_eq_false (fun h2 => h ⟨h2.1, h2.2.1⟩)]
            simp; omega
        go_wp2_with (go_at_call 58; refine (l1In_any _ _ _ _).mono ?_; rintro e w' ⟨rfl, rfl⟩)
        go_ret
        exact ⟨ret_b E.out, rfl⟩
      · exact absurd trivial h0
set_option maxRecDepth 100000 in
set_option maxHeartbeats 1000000 in
theorem isWord_any (s : ByteArray) (w : World) (hm : s.size ≤ 2097152) : Calls Try.prog 83 #[.string s] w fun e w' => e = .returned (.bool (wordB s)) ∧ w = w' := by
  go_enter Try.func83, Try.ntmps83
  go_wp2
  go_loop [6] (fun i => ∃ k : Nat, k ≤ s.size ∧ i = .int .i64 k ∧ Hid (∀ i (h : i < s.size), i < k → isL s[i])) (fun i => s.size - (intOf i).toNat)
  case atStart => exact ⟨0, by omega, rfl, fun j _ hj => by omega⟩
  case round =>
    obtain ⟨k, hk, rfl, HK⟩ := hrel
    by_cases hlt : k < s.size
    · have i1 : (k : Int) < (s.size : Int) := by omega
      have b2 : (s[k].toNat : Int) ≤ 255 := by have := UInt8.toNat_lt s[k]; omega
      by_cases ha : isL s[k]
      · have c1 : 97 ≤ (s[k].toNat : Int) := by have := ha.1; omega
        have c2 : (s[k].toNat : Int) ≤ 122 := by have := ha.2; omega
        have HK2 : Hid (∀ i (h : i < s.size), i < k + 1 → isL s[i]) := fun j hj h => by
          by_cases e : j = k
          · subst e; exact ha
          · exact HK.out j hj (by omega)
        clear ha
        go_wp2
        go_round
        case rel => exact ⟨k + 1, by omega, by go_num, HK2.out⟩
        case measure => simp [intOf]; omega
      · have E : Hid (wordB s = false) := decide_eq_false fun h => ha (h.2.2 k hlt)
        by_cases hb : s[k].toNat < 97
        · have c1 : (s[k].toNat : Int) < 97 := by omega
          clear ha hb
          go_wp2
          go_ret
          exact ⟨ret_b E.out, rfl⟩
        · have c1 : 97 ≤ (s[k].toNat : Int) := by omega
          have c2 : 122 < (s[k].toNat : Int) := by
            have : ¬ s[k].toNat ≤ 122 := fun h => ha ⟨by omega, h⟩
            omega
          clear ha hb
          go_wp2
          go_ret
          exact ⟨ret_b E.out, rfl⟩
    · by_cases h0 : True
      · clear h0
        by_cases h1 : 1 ≤ s.size
        · have h1' : 1 ≤ (s.size : Int) := by omega
          have E : Hid (wordB s = decide ((s.size : Int) ≤ 10)) := by
            unfold Hid wordB
            by_cases h : s.size ≤ 10
            · rw [decide_eq_true ⟨h1, h, fun i hi => HK.out i hi (by omega)⟩]
              simp; omega
            · rw [decide_eq_false (fun h2 => h h2.2.1)]
              simp; omega
          clear h1
          go_wp2
          go_ret
          exact ⟨ret_b E.out, rfl⟩
        · have h1' : (s.size : Int) < 1 := by omega
          have E : Hid (wordB s = false) := by unfold Hid wordB; rw [decide_eq_false (fun h2 => h1 h2.1)]
          clear h1
          go_wp2
          go_ret
          exact ⟨ret_b E.out, rfl⟩
      · exact absurd trivial h0
set_option maxRecDepth 100000 in
set_option maxHeartbeats 2000000 in
theorem l4Good_any (nm : ByteArray) (st : Int) (A : Option Addr) (n c : Nat) (ss : List ByteArray) (w : World) (hm : nm.size ≤ 2097152) (hr : Rd w A n (strsV ss)) (hz : ∀ s ∈ ss, s.size ≤ 2097152) :
    Calls Try.prog 54 #[.agg #[.string nm, .int .i64 st, .slice A n c]] w fun e w' => e = .returned (.bool (methB nm st ss)) ∧ Below w.heap.size w w' := by
  have hn := hr.lenB
  have Hl := Lib.hid hr.slen
  have Hz := Lib.hid hz
  have Hr := Lib.hid (hr.below (below_alloc w (.cells #[.string nm, .int .i64 st, .slice A n c] 27)))
  clear hr hz
  obtain ⟨wq, hwq⟩ : ∃ q, q = wordB nm := ⟨_, rfl⟩
  have HN : Hid (∀ W, Calls Try.prog 82 #[.string nm] W fun e w' => e = .returned (.bool wq) ∧ W = w') := fun W => by rw [hwq]; exact l4Name_any nm W hm
  have Hwq := Lib.hid hwq
  clear hwq
  go_enter Try.func54, Try.ntmps54
  go_wp2
  go_loop [8] (fun i => ∃ k : Nat, k ≤ n ∧ i = .int .i64 k ∧ Hid (ChTo st ss k)) (fun i => n - (intOf i).toNat)
  case atStart => exact ⟨0, by omega, rfl, by simp [Hid, ChTo]⟩
  case round =>
    obtain ⟨k, hk, rfl, HT⟩ := hrel
    by_cases hlt : k < n
    · obtain ⟨b, off, rfl, _, hc⟩ := Hr.out.str hlt
      have hkl : k < ss.length := by have := Hl.out; omega
      obtain ⟨s, hs⟩ : ∃ s, s = ss[k] := ⟨_, rfl⟩
      rw [← hs] at hc
      have hsm : s.size ≤ 2097152 := by rw [hs]; exact Hz.out _ (List.getElem_mem hkl)
      have Hs := Lib.hid hs
      have i1 : (k : Int) < (n : Int) := by omega
      clear hs
      cases hb : chB st s with
      | true =>
        have HN2 : Hid (ChTo st ss (k + 1)) := HT.out.succ hkl (by rw [← Hs.out]; exact hb)
        go_wp2_with (go_at_call 81; refine (l2Change_any _ _ _ (by unfold maxLen; omega)).mono ?_; rintro e w' ⟨rfl, rfl⟩)
        go_round
        case rel => exact ⟨k + 1, by omega, by go_num, HN2.out⟩
        case measure => simp [intOf]; omega
      | false =>
        have E : Hid (methB nm st ss = false) := by
          unfold Hid methB
          rw [chs_fail (n := st) hkl (by rw [← Hs.out]; exact hb), Bool.and_false]
        go_wp2_with (go_at_call 81; refine (l2Change_any _ _ _ (by unfold maxLen; omega)).mono ?_; rintro e w' ⟨rfl, rfl⟩)
        go_ret
        exact ⟨ret_b E.out, below_alloc _ _⟩
    · cases hw : wq with
      | false =>
        have E : Hid (methB nm st ss = false) := by
          unfold Hid methB; rw [← Hwq.out, hw, Bool.false_and]
        subst hw
        go_wp2_with (go_at_call 82; refine (HN.out _).mono ?_; rintro e w' ⟨rfl, rfl⟩)
        go_ret
        exact ⟨ret_b E.out, below_alloc _ _⟩
      | true =>
        cases hst : inB st 3 8 with
        | false =>
          have E : Hid (methB nm st ss = false) := by
            unfold Hid methB
            rw [show chsB st ss = false from cb_false fun h => by
              have h1 := ch_stage0 (h.2.2 _ (List.getElem_mem (show 0 < ss.length by have := h.1; omega)))
              rw [inB_true h1.1 h1.2] at hst; exact Bool.noConfusion hst, Bool.and_false]
          subst hw
          go_wp2_with first
            | (go_at_call 82; refine (HN.out _).mono ?_; rintro e w' ⟨rfl, rfl⟩)
            | (go_at_call 58; refine (l1In_any _ _ _ _).mono ?_; rintro e w' ⟨rfl, rfl⟩)
          go_ret
          exact ⟨ret_b E.out, below_alloc _ _⟩
        | true =>
          have E : Hid (methB nm st ss = inB (n : Int) 1 40) := by
            have := Hl.out
            unfold Hid methB
            rw [← Hwq.out, hw, Bool.true_and]
            by_cases h : 1 ≤ n ∧ n ≤ 40
            · rw [inB_true (by omega) (by omega)]
              exact cb_true ⟨by omega, by omega, HT.out.all (by omega)⟩
            · rw [inB_false (by omega)]
              exact cb_false fun h2 => h ⟨by have := h2.1; omega, by have := h2.2.1; omega⟩
          subst hw
          go_wp2_with first
            | (go_at_call 82; refine (HN.out _).mono ?_; rintro e w' ⟨rfl, rfl⟩)
            | (go_at_call 58; refine (l1In_any _ _ _ _).mono ?_; rintro e w' ⟨rfl, rfl⟩)
          go_ret
          exact ⟨ret_b E.out, below_alloc _ _⟩
set_option maxRecDepth 100000 in
set_option maxHeartbeats 2000000 in
theorem GoodMethod_any (nm : ByteArray) (st : Int) (A : Option Addr) (n c : Nat) (ss : List ByteArray) (w : World) (hm : nm.size ≤ 2097152) (hr : Rd w A n (strsV ss)) (hz : ∀ s ∈ ss, s.size ≤ 2097152) :
    Calls Try.prog 55 #[.agg #[.string nm, .int .i64 st, .slice A n c]] w fun e w' => e = .returned (.bool (methB nm st ss)) ∧ Below w.heap.size w w' := by
  obtain ⟨wq, hwq⟩ : ∃ q, q = wordB nm := ⟨_, rfl⟩
  have HN : Hid (∀ W, Calls Try.prog 83 #[.string nm] W fun e w' => e = .returned (.bool wq) ∧ W = w') := fun W => by rw [hwq]; exact isWord_any nm W hm
  have HA : Hid (∀ W, Below w.heap.size w W → Calls Try.prog 84 #[.int .i64 st, .slice A n c] W fun e w' => e = .returned (.bool (chsB st ss)) ∧ Below W.heap.size W w') := fun W h => areChanges_any st A n c ss W (hr.below h) hz
  have Hwq := Lib.hid hwq
  clear hwq hr hz
  cases hw : wq with
  | false =>
    have E : Hid (methB nm st ss = false) := by unfold Hid methB; rw [← Hwq.out, hw, Bool.false_and]
    subst hw
    go_enter Try.func55, Try.ntmps55
    go_wp2_with (go_at_call 83; refine (HN.out _).mono ?_; rintro e w' ⟨rfl, rfl⟩)
    go_ret
    exact ⟨ret_b E.out, below_alloc _ _⟩
  | true =>
    have E : Hid (methB nm st ss = chsB st ss) := by unfold Hid methB; rw [← Hwq.out, hw, Bool.true_and]
    subst hw
    go_enter Try.func55, Try.ntmps55
    go_wp2_with first
      | (go_at_call 83; refine (HN.out _).mono ?_; rintro e w' ⟨rfl, rfl⟩)
      | (go_at_call 84; refine (HA.out _ (below_alloc _ _)).mono ?_; rintro e w1 ⟨rfl, hb1⟩)
    go_ret
    exact ⟨ret_b E.out, (below_alloc w _).trans (hb1.mono (by simp))⟩
end Go.Proofs.Ytbmabfgnmafooaa
