/- The walks over lists of changes: their check, their text, their mirror. -/
import Derived.Test.YtgpjbmlemnjhfaaWalkH
import Derived.Test.YtgpjbmlemnjhfaaKit4
namespace Go.Proofs.Ytgpjbmlemnjhfaa
open Go.RowKit
set_option linter.unusedVariables false

/-- a valid list of changes of stage n -/
def ChOK (n : Int) (ss : List ByteArray) : Prop := 1 ≤ ss.length ∧ ss.length ≤ 40 ∧ ∀ s ∈ ss, chB n s = true
noncomputable def chsB (n : Int) (ss : List ByteArray) : Bool := cb (ChOK n ss)
def ChTo (n : Int) (ss : List ByteArray) (k : Nat) : Prop := ∀ s ∈ ss.take k, chB n s = true
theorem ChTo.succ {n : Int} {ss : List ByteArray} {k : Nat} (h : ChTo n ss k) (hk : k < ss.length) (h1 : chB n ss[k] = true) : ChTo n ss (k + 1) := by
  intro s hs
  rw [List.take_succ_eq_append_getElem hk] at hs
  rcases List.mem_append.1 hs with hs | hs
  · exact h s hs
  · simp at hs; subst hs; exact h1
theorem ChTo.all {n : Int} {ss : List ByteArray} {k : Nat} (h : ChTo n ss k) (hk : ss.length ≤ k) : ∀ s ∈ ss, chB n s = true := by
  intro s hs
  refine h s ?_
  rwa [List.take_of_length_le hk]
theorem chs_fail {n : Int} {ss : List ByteArray} {k : Nat} (hk : k < ss.length) (h : chB n ss[k] = false) : chsB n ss = false :=
  cb_false fun hr => by have := hr.2.2 _ (List.getElem_mem hk); rw [h] at this; cases this
theorem chs_len {n : Int} {ss : List ByteArray} (h : ss.length < 1 ∨ 40 < ss.length) : chsB n ss = false := cb_false fun hr => by have := hr.1; have := hr.2.1; omega
theorem chs_stage {n : Int} {ss : List ByteArray} (h : n < 3 ∨ 8 < n) : chsB n ss = false := cb_false fun hr => by
  cases ss with
  | nil => have := hr.1; simp at this
  | cons a t => have := hr.2.2 a (by simp); rw [chB_not h] at this; cases this
set_option maxRecDepth 100000 in
set_option maxHeartbeats 1000000 in
theorem areChanges_any (n : Int) (A : Option Addr) (m c : Nat) (ss : List ByteArray) (w : World) (hr : Rd w A m (strsV ss)) (hz : ∀ s ∈ ss, s.size ≤ 2097152) :
    Calls Try.prog 49 #[.int .i64 n, .slice A m c] w fun e w' => e = .returned (.bool (chsB n ss)) ∧ Below w.heap.size w w' := by
  have hm := hr.lenB
  have Hr := Lib.hid hr
  have Hl := Lib.hid hr.slen
  have Hz := Lib.hid hz
  clear hr hz
  by_cases h1 : m < 1
  · have h1' : (m : Int) < 1 := by omega
    have E := Lib.hid (chs_len (n := n) (ss := ss) (.inl (by have := Hl.out; omega)))
    clear h1
    go_enter Try.func49, Try.ntmps49
    go_wp2
    go_ret
    exact ⟨ret_b E.out, Below.refl _ _⟩
  have h1' : 1 ≤ (m : Int) := by omega
  by_cases h2 : 40 < m
  · have h2' : 40 < (m : Int) := by omega
    have E := Lib.hid (chs_len (n := n) (ss := ss) (.inr (by have := Hl.out; omega)))
    clear h2 h1
    go_enter Try.func49, Try.ntmps49
    go_wp2
    go_ret
    exact ⟨ret_b E.out, Below.refl _ _⟩
  have h2' : (m : Int) ≤ 40 := by omega
  clear h1 h2
  go_enter Try.func49, Try.ntmps49
  go_wp2
  go_loopw [17] (fun i wr => ∃ k : Nat, k ≤ m ∧ i = .int .i64 k ∧ Hid (ChTo n ss k) ∧ Hid (Below w.heap.size w wr)) (fun i _ => m - (intOf i).toNat)
  case atStart => exact ⟨0, by omega, rfl, by simp [Hid, ChTo], Below.refl _ _⟩
  case round =>
    obtain ⟨k, hk, rfl, HT, HB⟩ := hrel
    by_cases hlt : k < m
    · obtain ⟨b, off, rfl, _, hc⟩ := (Hr.out.below HB.out).str hlt
      have hkl : k < ss.length := by have := Hl.out; omega
      obtain ⟨s, hs⟩ : ∃ s, s = ss[k] := ⟨_, rfl⟩
      rw [← hs] at hc
      have hsm : s.size ≤ 2097152 := by rw [hs]; exact Hz.out _ (List.getElem_mem hkl)
      have Hs := Lib.hid hs
      have i1 : (k : Int) < (m : Int) := by omega
      clear hs
      cases hb : chB n s with
      | true =>
        have HN : Hid (ChTo n ss (k + 1)) := HT.out.succ hkl (by rw [← Hs.out]; exact hb)
        go_wp2_with (go_at_call 78; refine (GoodChange_any _ _ _ hsm).mono ?_; rintro e w2 ⟨rfl, hb2⟩)
        have HB2 := Lib.hid (HB.out.trans (hb2.mono HB.out.size))
        go_roundw
        case rel => exact ⟨k + 1, by omega, by go_num, HN.out, HB2.out⟩
        case measure => simp [intOf]; omega
      | false =>
        have E := Lib.hid (chs_fail (n := n) hkl (by rw [← Hs.out]; exact hb))
        go_wp2_with (go_at_call 78; refine (GoodChange_any _ _ _ hsm).mono ?_; rintro e w2 ⟨rfl, hb2⟩)
        have HB2 := Lib.hid (HB.out.trans (hb2.mono HB.out.size))
        go_ret
        exact ⟨ret_b E.out, HB2.out⟩
    · have E : Hid (chsB n ss = true) := by
        have := Hl.out
        exact cb_true ⟨by omega, by omega, HT.out.all (by omega)⟩
      go_wp2
      go_ret
      exact ⟨ret_b E.out, HB.out⟩
set_option maxRecDepth 100000 in
set_option maxHeartbeats 1000000 in
theorem l3List_any (n : Int) (A : Option Addr) (m c : Nat) (ss : List ByteArray) (w : World) (hr : Rd w A m (strsV ss)) (hz : ∀ s ∈ ss, s.size ≤ 2097152) :
    Calls Try.prog 47 #[.int .i64 n, .slice A m c] w fun e w' => e = .returned (.bool (chsB n ss)) ∧ w = w' := by
  have hm := hr.lenB
  have Hr := Lib.hid hr
  have Hl := Lib.hid hr.slen
  have Hz := Lib.hid hz
  clear hr hz
  go_enter Try.func47, Try.ntmps47
  go_wp2
  go_loop [9] (fun i => ∃ k : Nat, k ≤ m ∧ i = .int .i64 k ∧ Hid (ChTo n ss k)) (fun i => m - (intOf i).toNat)
  case atStart => exact ⟨0, by omega, rfl, by simp [Hid, ChTo]⟩
  case round =>
    obtain ⟨k, hk, rfl, HT⟩ := hrel
    by_cases hlt : k < m
    · obtain ⟨b, off, rfl, _, hc⟩ := Hr.out.str hlt
      have hkl : k < ss.length := by have := Hl.out; omega
      obtain ⟨s, hs⟩ : ∃ s, s = ss[k] := ⟨_, rfl⟩
      rw [← hs] at hc
      have hsm : s.size ≤ maxLen := by rw [hs]; have := Hz.out _ (List.getElem_mem hkl); unfold maxLen; omega
      have Hs := Lib.hid hs
      have i1 : (k : Int) < (m : Int) := by omega
      clear hs
      cases hb : chB n s with
      | true =>
        have HN : Hid (ChTo n ss (k + 1)) := HT.out.succ hkl (by rw [← Hs.out]; exact hb)
        go_wp2_with (go_at_call 75; refine (l2Change_any _ _ _ hsm).mono ?_; rintro e w2 ⟨rfl, rfl⟩)
        go_round
        case rel => exact ⟨k + 1, by omega, by go_num, HN.out⟩
        case measure => simp [intOf]; omega
      | false =>
        have E := Lib.hid (chs_fail (n := n) hkl (by rw [← Hs.out]; exact hb))
        go_wp2_with (go_at_call 75; refine (l2Change_any _ _ _ hsm).mono ?_; rintro e w2 ⟨rfl, rfl⟩)
        go_ret
        exact ⟨ret_b E.out, rfl⟩
    · by_cases h1 : 1 ≤ m ∧ m ≤ 40
      · have hin1 : inB (m : Int) 1 40 = true := inB_true (by omega) (by omega)
        by_cases h2 : 3 ≤ n ∧ n ≤ 8
        · have hin2 : inB n 3 8 = true := inB_true h2.1 h2.2
          have E : Hid (chsB n ss = true) := by
            have := Hl.out
            exact cb_true ⟨by omega, by omega, HT.out.all (by omega)⟩
          clear h1 h2
          go_wp2_with (go_at_call 60; refine (l1In_any _ _ _ _).mono ?_; rintro e w' ⟨rfl, rfl⟩)
          go_ret
          exact ⟨ret_b E.out, rfl⟩
        · have hin2 : inB n 3 8 = false := inB_false (by omega)
          have E := Lib.hid (chs_stage (n := n) (ss := ss) (by omega))
          clear h1 h2
          go_wp2_with (go_at_call 60; refine (l1In_any _ _ _ _).mono ?_; rintro e w' ⟨rfl, rfl⟩)
          go_ret
          exact ⟨ret_b E.out, rfl⟩
      · have hin1 : inB (m : Int) 1 40 = false := inB_false (by omega)
        have E := Lib.hid (chs_len (n := n) (ss := ss) (by have := Hl.out; omega))
        clear h1
        go_wp2_with (go_at_call 60; refine (l1In_any _ _ _ _).mono ?_; rintro e w' ⟨rfl, rfl⟩)
        go_ret
        exact ⟨ret_b E.out, rfl⟩
/-- the text of changes, one behind the other -/
def dash : ByteArray := { data := #[45] }
def txtStep (prev : Option ByteArray) (s : ByteArray) : List UInt8 :=
  (match prev with | none => [] | some p => if s ≠ dash ∧ p ≠ dash then [46] else []) ++ bs s
def txtGo (prev : Option ByteArray) : List ByteArray → List UInt8
  | [] => []
  | s :: t => txtStep prev s ++ txtGo (some s) t
def prevOf (ss : List ByteArray) (k : Nat) : Option ByteArray := if k = 0 then none else ss[k - 1]?
theorem txt_drop {ss : List ByteArray} {k : Nat} (hk : k < ss.length) : txtGo (prevOf ss k) (ss.drop k) = txtStep (prevOf ss k) ss[k] ++ txtGo (prevOf ss (k + 1)) (ss.drop (k + 1)) := by
  rw [List.drop_eq_getElem_cons hk]
  simp only [txtGo, prevOf, Nat.add_sub_cancel, if_neg (Nat.succ_ne_zero k), List.getElem?_eq_getElem hk]
def totS (ss : List ByteArray) : Nat := (ss.map ByteArray.size).sum
set_option maxRecDepth 100000 in
set_option maxHeartbeats 2000000 in
theorem notationText_any (A : Option Addr) (m c : Nat) (ss : List ByteArray) (w : World) (hr : Rd w A m (strsV ss)) (hz : ∀ s ∈ ss, s.size ≤ 8) (hm : m ≤ 40) :
    Calls Try.prog 81 #[.slice A m c] w fun e w' => e = .returned (.string (mkS (txtGo none ss))) ∧ w = w' := by
  have Hr := Lib.hid hr
  have Hl := Lib.hid hr.slen
  have Hz := Lib.hid hz
  clear hr hz
  go_enter Try.func81, Try.ntmps81
  go_wp2
  go_loop [3, 8] (fun o i => ∃ (k : Nat) (t : ByteArray), k ≤ m ∧ i = .int .i64 k ∧ o = .string t ∧ t.size ≤ 9 * k ∧ Hid (bs t ++ txtGo (prevOf ss k) (ss.drop k) = txtGo none ss)) (fun _ i => m - (intOf i).toNat)
  case atStart => exact ⟨0, _, by omega, rfl, rfl, Nat.zero_le _, rfl⟩
  case round =>
    obtain ⟨k, t, hk, rfl, rfl, ht, HT⟩ := hrel
    by_cases hlt : k < m
    · obtain ⟨b, off, rfl, _, hcs⟩ : ∃ b off, A = some ⟨b, off, none⟩ ∧ b < w.heap.size ∧ ∀ j (hj : j < m), w.cell? ⟨b, off + j, none⟩ = some (.string (ss[j]'(by have := Hl.out; omega))) := by
        obtain ⟨b, off, rfl, hb, _⟩ := Hr.out.str hlt
        refine ⟨b, off, rfl, hb, fun j hj => ?_⟩
        obtain ⟨b', off', e, _, hc⟩ := Hr.out.str hj
        injection e with e; injection e with e1 e2; subst e1 e2
        exact hc
      have hkl : k < ss.length := by have := Hl.out; omega
      have hc := hcs k hlt
      obtain ⟨s, hs⟩ : ∃ s, s = ss[k] := ⟨_, rfl⟩
      rw [← hs] at hc
      have hsm : s.size ≤ 8 := by rw [hs]; exact Hz.out _ (List.getElem_mem hkl)
      have HD : Hid (txtGo (prevOf ss k) (ss.drop k) = txtStep (prevOf ss k) s ++ txtGo (prevOf ss (k + 1)) (ss.drop (k + 1))) := by unfold Hid; rw [hs]; exact txt_drop hkl
      have i1 : (k : Int) < (m : Int) := by omega
      clear hs
      by_cases hk0 : k = 0
      · have g0 : decide ((0 : Int) < (k : Int)) = false := by simp [hk0]
        have g0' : (k : Int) ≤ 0 := by omega
        have HN : Hid (bs (t ++ s) ++ txtGo (prevOf ss (k + 1)) (ss.drop (k + 1)) = txtGo none ss) := by
          unfold Hid
          rw [← HT.out, HD.out, bs_append, List.append_assoc]
          simp [txtStep, prevOf, hk0]
        have hzz : Hid ((t ++ s).size = t.size + s.size) := by unfold Hid; rw [← size_bs, bs_append, List.length_append, size_bs, size_bs]
        clear hk0 hcs
        go_wp2
        go_round
        case rel => exact ⟨k + 1, _, by omega, by go_num, rfl, by rw [hzz.out]; omega, HN.out⟩
        case measure => simp [intOf]; omega
      · have g0 : decide ((0 : Int) < (k : Int)) = true := by simp; omega
        have g0' : 0 < (k : Int) := by omega
        have hcp := hcs (k - 1) (by omega)
        obtain ⟨p, hp⟩ : ∃ p, p = ss[k - 1]'(by omega) := ⟨_, rfl⟩
        rw [← hp] at hcp
        have HP : Hid (prevOf ss k = some p) := by unfold Hid prevOf; rw [if_neg hk0, List.getElem?_eq_getElem (by omega), hp]
        have j1 : (0 : Int) ≤ (k : Int) - 1 := by omega
        clear hcs hp hk0
        by_cases hs1 : s = dash
        · have l1 : (s.toList == [45]) = true := by rw [hs1, ByteArray.toList_eq]; rfl
          have l1' : s.toList = [45] := by rw [hs1, ByteArray.toList_eq]; rfl
          have HN : Hid (bs (t ++ s) ++ txtGo (prevOf ss (k + 1)) (ss.drop (k + 1)) = txtGo none ss) := by
            unfold Hid
            rw [← HT.out, HD.out, bs_append, List.append_assoc, HP.out]
            simp [txtStep, hs1]
          have hzz : Hid ((t ++ s).size = t.size + s.size) := by unfold Hid; rw [← size_bs, bs_append, List.length_append, size_bs, size_bs]
          clear l1' hs1
          go_wp2
          go_round
          case rel => exact ⟨k + 1, _, by omega, by go_num, rfl, by rw [hzz.out]; omega, HN.out⟩
          case measure => simp [intOf]; omega
        · have l1 : (s.toList == [45]) = false := by
            rw [beq_eq_false_iff_ne, ByteArray.toList_eq]; intro e; exact hs1 (bs_inj (by unfold bs; rw [e]; rfl))
          by_cases hp1 : p = dash
          · have l2 : (p.toList == [45]) = true := by rw [hp1, ByteArray.toList_eq]; rfl
            have HN : Hid (bs (t ++ s) ++ txtGo (prevOf ss (k + 1)) (ss.drop (k + 1)) = txtGo none ss) := by
              unfold Hid
              rw [← HT.out, HD.out, bs_append, List.append_assoc, HP.out]
              simp [txtStep, hp1]
            have hzz : Hid ((t ++ s).size = t.size + s.size) := by unfold Hid; rw [← size_bs, bs_append, List.length_append, size_bs, size_bs]
            clear hs1 hp1
            go_wp2
            go_round
            case rel => exact ⟨k + 1, _, by omega, by go_num, rfl, by rw [hzz.out]; omega, HN.out⟩
            case measure => simp [intOf]; omega
          · have l2 : (p.toList == [45]) = false := by
              rw [beq_eq_false_iff_ne, ByteArray.toList_eq]; intro e; exact hp1 (bs_inj (by unfold bs; rw [e]; rfl))
            have HN : Hid (bs (t ++ { data := #[46] } ++ s) ++ txtGo (prevOf ss (k + 1)) (ss.drop (k + 1)) = txtGo none ss) := by
              unfold Hid
              rw [← HT.out, HD.out, bs_append, bs_append, List.append_assoc, List.append_assoc, HP.out]
              simp [txtStep, hs1, hp1, bs]
            have hzz : Hid ((t ++ { data := #[46] } ++ s).size = t.size + s.size + 1) := by unfold Hid; rw [← size_bs, bs_append, bs_append, List.length_append, List.length_append, size_bs, size_bs]; show t.size + 1 + s.size = _; omega
            clear hs1 hp1
            go_wp2
            go_round
            case rel => exact ⟨k + 1, _, by omega, by go_num, rfl, by rw [hzz.out]; omega, HN.out⟩
            case measure => simp [intOf]; omega
    · have E : Hid (mkS (txtGo none ss) = t) := by
        unfold Hid
        have := HT.out
        rw [List.drop_of_length_le (by have := Hl.out; omega)] at this
        simp only [txtGo, List.append_nil] at this
        rw [← this, mkS_bs]
      go_wp2
      go_ret
      exact ⟨ret_s E.out, rfl⟩
set_option maxRecDepth 100000 in
set_option maxHeartbeats 2000000 in
theorem l3Text_any (A : Option Addr) (m c : Nat) (ss : List ByteArray) (w : World) (hr : Rd w A m (strsV ss)) (hz : ∀ s ∈ ss, s.size ≤ 8) (hm : m ≤ 40) :
    Calls Try.prog 52 #[.slice A m c] w fun e w' => e = .returned (.string (mkS (txtGo none ss))) ∧ w = w' := by
  have Hr := Lib.hid hr
  have Hl := Lib.hid hr.slen
  have Hz := Lib.hid hz
  clear hr hz
  go_enter Try.func52, Try.ntmps52
  go_wp2
  go_loop [3, 8] (fun o i => ∃ (k : Nat) (t : ByteArray), k ≤ m ∧ i = .int .i64 k ∧ o = .string t ∧ t.size ≤ 9 * k ∧ Hid (bs t ++ txtGo (prevOf ss k) (ss.drop k) = txtGo none ss)) (fun _ i => m - (intOf i).toNat)
  case atStart => exact ⟨0, _, by omega, rfl, rfl, Nat.zero_le _, rfl⟩
  case round =>
    obtain ⟨k, t, hk, rfl, rfl, ht, HT⟩ := hrel
    by_cases hlt : k < m
    · obtain ⟨b, off, rfl, _, hcs⟩ : ∃ b off, A = some ⟨b, off, none⟩ ∧ b < w.heap.size ∧ ∀ j (hj : j < m), w.cell? ⟨b, off + j, none⟩ = some (.string (ss[j]'(by have := Hl.out; omega))) := by
        obtain ⟨b, off, rfl, hb, _⟩ := Hr.out.str hlt
        refine ⟨b, off, rfl, hb, fun j hj => ?_⟩
        obtain ⟨b', off', e, _, hc⟩ := Hr.out.str hj
        injection e with e; injection e with e1 e2; subst e1 e2
        exact hc
      have hkl : k < ss.length := by have := Hl.out; omega
      have hc := hcs k hlt
      obtain ⟨s, hs⟩ : ∃ s, s = ss[k] := ⟨_, rfl⟩
      rw [← hs] at hc
      have hsm : s.size ≤ 8 := by rw [hs]; exact Hz.out _ (List.getElem_mem hkl)
      have HD : Hid (txtGo (prevOf ss k) (ss.drop k) = txtStep (prevOf ss k) s ++ txtGo (prevOf ss (k + 1)) (ss.drop (k + 1))) := by unfold Hid; rw [hs]; exact txt_drop hkl
      have i1 : (k : Int) < (m : Int) := by omega
      clear hs
      by_cases hk0 : k = 0
      · have g0 : decide ((0 : Int) < (k : Int)) = false := by simp [hk0]
        have g0' : (k : Int) ≤ 0 := by omega
        have HN : Hid (bs (t ++ s) ++ txtGo (prevOf ss (k + 1)) (ss.drop (k + 1)) = txtGo none ss) := by
          unfold Hid
          rw [← HT.out, HD.out, bs_append, List.append_assoc]
          simp [txtStep, prevOf, hk0]
        have hzz : Hid ((t ++ s).size = t.size + s.size) := by unfold Hid; rw [← size_bs, bs_append, List.length_append, size_bs, size_bs]
        clear hk0 hcs
        go_wp2
        go_round
        case rel => exact ⟨k + 1, _, by omega, by go_num, rfl, by rw [hzz.out]; omega, HN.out⟩
        case measure => simp [intOf]; omega
      · have g0 : decide ((0 : Int) < (k : Int)) = true := by simp; omega
        have g0' : 0 < (k : Int) := by omega
        have hcp := hcs (k - 1) (by omega)
        obtain ⟨p, hp⟩ : ∃ p, p = ss[k - 1]'(by omega) := ⟨_, rfl⟩
        rw [← hp] at hcp
        have HP : Hid (prevOf ss k = some p) := by unfold Hid prevOf; rw [if_neg hk0, List.getElem?_eq_getElem (by omega), hp]
        have j1 : (0 : Int) ≤ (k : Int) - 1 := by omega
        clear hcs hp hk0
        by_cases hs1 : s = dash
        · have l1 : (s.toList == [45]) = true := by rw [hs1, ByteArray.toList_eq]; rfl
          have l1' : s.toList = [45] := by rw [hs1, ByteArray.toList_eq]; rfl
          have HN : Hid (bs (t ++ s) ++ txtGo (prevOf ss (k + 1)) (ss.drop (k + 1)) = txtGo none ss) := by
            unfold Hid
            rw [← HT.out, HD.out, bs_append, List.append_assoc, HP.out]
            simp [txtStep, hs1]
          have hzz : Hid ((t ++ s).size = t.size + s.size) := by unfold Hid; rw [← size_bs, bs_append, List.length_append, size_bs, size_bs]
          clear l1' hs1
          go_wp2
          go_round
          case rel => exact ⟨k + 1, _, by omega, by go_num, rfl, by rw [hzz.out]; omega, HN.out⟩
          case measure => simp [intOf]; omega
        · have l1 : (s.toList == [45]) = false := by
            rw [beq_eq_false_iff_ne, ByteArray.toList_eq]; intro e; exact hs1 (bs_inj (by unfold bs; rw [e]; rfl))
          by_cases hp1 : p = dash
          · have l2 : (p.toList == [45]) = true := by rw [hp1, ByteArray.toList_eq]; rfl
            have HN : Hid (bs (t ++ s) ++ txtGo (prevOf ss (k + 1)) (ss.drop (k + 1)) = txtGo none ss) := by
              unfold Hid
              rw [← HT.out, HD.out, bs_append, List.append_assoc, HP.out]
              simp [txtStep, hp1]
            have hzz : Hid ((t ++ s).size = t.size + s.size) := by unfold Hid; rw [← size_bs, bs_append, List.length_append, size_bs, size_bs]
            clear hs1 hp1
            go_wp2
            go_round
            case rel => exact ⟨k + 1, _, by omega, by go_num, rfl, by rw [hzz.out]; omega, HN.out⟩
            case measure => simp [intOf]; omega
          · have l2 : (p.toList == [45]) = false := by
              rw [beq_eq_false_iff_ne, ByteArray.toList_eq]; intro e; exact hp1 (bs_inj (by unfold bs; rw [e]; rfl))
            have HN : Hid (bs (t ++ { data := #[46] } ++ s) ++ txtGo (prevOf ss (k + 1)) (ss.drop (k + 1)) = txtGo none ss) := by
              unfold Hid
              rw [← HT.out, HD.out, bs_append, bs_append, List.append_assoc, List.append_assoc, HP.out]
              simp [txtStep, hs1, hp1, bs]
            have hzz : Hid ((t ++ { data := #[46] } ++ s).size = t.size + s.size + 1) := by unfold Hid; rw [← size_bs, bs_append, bs_append, List.length_append, List.length_append, size_bs, size_bs]; show t.size + 1 + s.size = _; omega
            clear hs1 hp1
            go_wp2
            go_round
            case rel => exact ⟨k + 1, _, by omega, by go_num, rfl, by rw [hzz.out]; omega, HN.out⟩
            case measure => simp [intOf]; omega
    · have E : Hid (mkS (txtGo none ss) = t) := by
        unfold Hid
        have := HT.out
        rw [List.drop_of_length_le (by have := Hl.out; omega)] at this
        simp only [txtGo, List.append_nil] at this
        rw [← this, mkS_bs]
      go_wp2
      go_ret
      exact ⟨ret_s E.out, rfl⟩
end Go.Proofs.Ytgpjbmlemnjhfaa
