/- The change between two rows: the program's walk. -/
import Derived.Test.YtgpjbmlemnjhfaaPlainBt
import Derived.Test.YtgpjbmlemnjhfaaWalkM
import Derived.Test.YtgpjbmlemnjhfaaWalkB
import Derived.BigQuiet
namespace Go.Proofs.Ytgpjbmlemnjhfaa
open Go.RowKit
set_option linter.unusedVariables false

/-- what is still to come at place k + 1 -/
def btD (a b : List UInt8) (k : Nat) : Option (List Nat) := btL (k + 1) (a.drop k) (b.drop k)
theorem btD_zero (a b : List UInt8) : btD a b 0 = btL 1 a b := by simp [btD]
theorem btD_end {a b : List UInt8} {k : Nat} (ha : a.length ≤ k) (hb : b.length ≤ k) : btD a b k = some [] := by
  unfold btD; rw [List.drop_of_length_le ha, List.drop_of_length_le hb]; rfl
theorem btD_same {a b : List UInt8} {k : Nat} (hl : a.length = b.length) (hk : k < a.length) (h : a[k] = b[k]'(by omega)) : btD a b k = (btD a b (k + 1)).map ((k + 1) :: ·) := by
  unfold btD
  rw [List.drop_eq_getElem_cons hk, List.drop_eq_getElem_cons (show k < b.length by omega)]
  by_cases h1 : k + 1 < a.length
  · rw [List.drop_eq_getElem_cons h1, List.drop_eq_getElem_cons (show k + 1 < b.length by omega), btL, if_pos h]
  · rw [List.drop_of_length_le (by omega), List.drop_of_length_le (by omega)]; show (if a[k] = b[k]'(by omega) then some [k + 1] else none) = _; rw [if_pos h]; rfl
theorem btD_swap {a b : List UInt8} {k : Nat} (hl : a.length = b.length) (hk : k + 1 < a.length) (h : a[k] ≠ b[k]'(by omega)) (h1 : a[k] = b[k + 1]'(by omega)) (h2 : a[k + 1] = b[k]'(by omega)) : btD a b k = btD a b (k + 2) := by
  unfold btD
  rw [List.drop_eq_getElem_cons (show k < a.length by omega), List.drop_eq_getElem_cons (show k < b.length by omega), List.drop_eq_getElem_cons hk, List.drop_eq_getElem_cons (show k + 1 < b.length by omega), btL, if_neg h, if_pos ⟨h1, h2⟩]
theorem btD_none {a b : List UInt8} {k : Nat} (hl : a.length = b.length) (hk : k < a.length) (h : a[k] ≠ b[k]'(by omega)) (h2 : ∀ h1 : k + 1 < a.length, ¬ (a[k] = b[k + 1]'(by omega) ∧ a[k + 1] = b[k]'(by omega))) : btD a b k = none := by
  unfold btD
  rw [List.drop_eq_getElem_cons hk, List.drop_eq_getElem_cons (show k < b.length by omega)]
  by_cases h1 : k + 1 < a.length
  · rw [List.drop_eq_getElem_cons h1, List.drop_eq_getElem_cons (show k + 1 < b.length by omega), btL, if_neg h, if_neg (h2 h1)]
  · rw [List.drop_of_length_le (by omega), List.drop_of_length_le (by omega)]; exact if_neg h
theorem bs_at (s : ByteArray) (k : Nat) (h : k < s.size) (h2 : k < (bs s).length) : (bs s)[k] = s[k] := bs_get s k h
theorem b_eq {x y : UInt8} (h : x = y) : ((x.toNat : Int) == (y.toNat : Int)) = true := by simp [h]
theorem b_ne {x y : UInt8} (h : x ≠ y) : ((x.toNat : Int) == (y.toNat : Int)) = false := by
  refine beq_eq_false_iff_ne.2 fun e => h (u8_eq (by omega))
/-- places as a text -/
def plT (l : List Nat) : List UInt8 := l.map fun p => UInt8.ofNat (48 + p)
theorem ret_tb2' {v : ByteArray} {x y : Bool} (h : x = y) : Ending.returned (.tuple #[.string v, .bool y]) = .returned (.tuple #[.string v, .bool x]) := by rw [h]
theorem no_some {o : Option (List UInt8)} {v : ByteArray} (h : o = none) : ∀ c, o = some c → v = mkS c := fun c hc => by rw [h] at hc; cases hc
set_option maxRecDepth 100000 in
set_option maxHeartbeats 4000000 in
theorem between_any (a b : ByteArray) (W : World) (ha : IsRow (bs a)) (hb : IsRow (bs b)) (hs : b.size = a.size) :
    Calls Try.prog 58 #[.string a, .string b] W fun e w' => ∃ v, e = .returned (.tuple #[.string v, .bool (btO a.size (bs a) (bs b)).isSome]) ∧ (∀ c, btO a.size (bs a) (bs b) = some c → v = mkS c) ∧ ∃ d, w' = W.drewN d := by
  obtain ⟨m, hm⟩ : ∃ m, m = a.size := ⟨_, rfl⟩
  have h38 : 3 ≤ m ∧ m ≤ 8 := by have h1 := ha.1; have h2 := ha.2.1; rw [size_bs] at h1 h2; omega
  obtain ⟨r, hr⟩ : ∃ r, r = mkS (roundsL m) := ⟨_, rfl⟩
  have HRo : Hid (∀ w, Calls Try.prog 86 #[.int .i64 m] w fun e w' => e = .returned (.string r) ∧ w = w') := fun w => by
    have := rounds_any (m : Int) w (by omega) (by omega)
    rwa [Int.toNat_natCast, ← hr] at this
  have HRs : Hid (r.size = m) := by unfold Hid; rw [hr, size_mkS, roundsL_length]
  have HRb : Hid (∀ p (h : p < r.size), r[p] = UInt8.ofNat (49 + p)) := fun p h => by
    have h2 : p < m := by have := HRs.out; omega
    rw [← getD_bs r p h, hr, bs_mkS, roundsL_get h2]
  obtain ⟨h3, h8⟩ := h38
  have HA := Lib.hid ha
  have HB := Lib.hid hb
  have hsm : (a.size : Int) = (m : Int) := by omega
  have hsb : (b.size : Int) = (m : Int) := by omega
  have HM := Lib.hid hm
  have HS := Lib.hid hs
  rw [← hm]
  clear ha hb hr hm hs
  go_enter Try.func58, Try.ntmps58
  go_wp2
  go_loopw [6, 7, 8] (fun c s i wr => ∃ (k : Nat) (l : List Nat) (t : ByteArray) (d : Nat) (sw : Bool), c = .string t ∧ s = .bool sw ∧ i = .int .i64 (k : Int) ∧ k ≤ m ∧ Hid (sw = decide (l.length + 2 ≤ k)) ∧ Hid (l.length = k ∨ l.length + 2 ≤ k) ∧ Hid (bs t = plT l) ∧ t.size ≤ k ∧ Hid (btL 1 (bs a) (bs b) = (btD (bs a) (bs b) k).map (l ++ ·)) ∧ wr = W.drewN d) (fun _ _ i _ => ((m : Int) - intOf i).toNat)
  case atStart => exact ⟨0, [], _, 0, _, rfl, rfl, rfl, Nat.zero_le _, by simp [Hid], .inl rfl, rfl, Nat.le_refl _, by simp [Hid, btD_zero], rfl⟩
  case round =>
    obtain ⟨k, l, t, d, sw, rfl, rfl, rfl, hk, HW, HL, HT, htz, HD, rfl⟩ := hrel
    by_cases hkm : k < m
    · have i1 : (k : Int) < (m : Int) := by omega
      have hka : k < a.size := by omega
      have hkb : k < b.size := by omega
      have hla : (bs a).length = (bs b).length := by rw [size_bs, size_bs]; omega
      obtain ⟨x, hx⟩ : ∃ x, x = a[k]'hka := ⟨_, rfl⟩
      obtain ⟨y, hy⟩ : ∃ y, y = b[k]'hkb := ⟨_, rfl⟩
      have hkl : k < (bs a).length := by rw [size_bs]; exact hka
      have hax : (bs a)[k]'hkl = x := (bs_get a k hka).trans hx.symm
      have hby : (bs b)[k]'(by omega) = y := (bs_get b k hkb).trans hy.symm
      have hxs : a[k]'hka = x := hx.symm
      have hys : b[k]'hkb = y := hy.symm
      have HXY := Lib.hid (And.intro hxs hys)
      clear hx hy
      by_cases hxy : x = y
      · have HD2 : Hid (btL 1 (bs a) (bs b) = (btD (bs a) (bs b) (k + 1)).map ((l ++ [k + 1]) ++ ·)) := by
          unfold Hid
          rw [HD.out, btD_same hla hkl (hax.trans (hxy.trans hby.symm)), Option.map_map]
          congr 1
          funext z; simp
        have e1 := b_eq hxy
        have hpr : k < r.size := by have := HRs.out; omega
        have HT2 : Hid (bs (t ++ r.extract k (k + 1)) = plT (l ++ [k + 1])) := by
          unfold Hid
          rw [bs_append, HT.out, extract_one r k hpr, HRb.out k hpr]
          unfold plT
          rw [List.map_append]
          show _ = _ ++ [UInt8.ofNat (48 + (k + 1))]
          rw [show 48 + (k + 1) = 49 + k by omega]
        have hsz : (t ++ r.extract k (k + 1)).size ≤ k + 1 := by
          rw [← size_bs, HT2.out]; unfold plT; rw [List.length_map, List.length_append, List.length_singleton]
          rcases HL.out with h | h <;> omega
        have HL2 : Hid ((l ++ [k + 1]).length = k + 1 ∨ (l ++ [k + 1]).length + 2 ≤ k + 1) := by
          rcases HL.out with h | h
          · exact .inl (by simp; omega)
          · exact .inr (by simp; omega)
        have HW2 : Hid (sw = decide ((l ++ [k + 1]).length + 2 ≤ k + 1)) := by
          unfold Hid; rw [HW.out]; refine decide_eq_decide.2 ?_; simp
        have i3 : (k : Int) < (r.size : Int) := by omega
        have i4 : (k : Int) + 1 ≤ (r.size : Int) := by omega
        clear hxy hax hby
        go_wp2
        go_quiet (fail)
        go_wp2_with (go_at_call 86; refine (HRo.out _).mono ?_; rintro e w9 ⟨rfl, rfl⟩)
        obtain ⟨t2, ht2⟩ : ∃ t2, t2 = t ++ r.extract k (k + 1) := ⟨_, rfl⟩
        have HT3 : Hid (bs t2 = plT (l ++ [k + 1])) := by rw [ht2]; exact HT2.out
        have hsz2 : t2.size ≤ k + 1 := by rw [ht2]; exact hsz
        (try rw [← ht2])
        clear ht2 HT2 hsz
        go_roundw
        case rel => exact ⟨k + 1, l ++ [k + 1], t2, _, sw, rfl, rfl, by go_num, by omega, HW2.out, HL2.out, HT3.out, hsz2, HD2.out, by trivial⟩
        case measure => (simp [intOf] <;> omega)
      · have e1 := b_ne hxy
        by_cases hk1 : k + 1 < m
        · have hk1a : k + 1 < a.size := by omega
          have hk1b : k + 1 < b.size := by omega
          have i2 : (k : Int) + 1 < (m : Int) := by omega
          have i3 : (0 : Int) ≤ (k : Int) + 1 := by omega
          have it : ((k : Int) + 1).toNat = k + 1 := by omega
          have kw : IntKind.i64.wrap ((k : Int) + 1) = (k : Int) + 1 := by rw [IntKind.wrap_i64]; omega
          obtain ⟨x2, hx2⟩ : ∃ x2, x2 = a[k + 1]'hk1a := ⟨_, rfl⟩
          obtain ⟨y2, hy2⟩ : ∃ y2, y2 = b[k + 1]'hk1b := ⟨_, rfl⟩
          have hk1l : k + 1 < (bs a).length := by rw [size_bs]; exact hk1a
          have hax2 : (bs a)[k + 1]'hk1l = x2 := (bs_get a (k + 1) hk1a).trans hx2.symm
          have hby2 : (bs b)[k + 1]'(by omega) = y2 := (bs_get b (k + 1) hk1b).trans hy2.symm
          have hxs2 : a[k + 1]'hk1a = x2 := hx2.symm
          have hys2 : b[k + 1]'hk1b = y2 := hy2.symm
          clear hx2 hy2
          by_cases h1 : x = y2
          · have e2 := b_eq h1
            by_cases h2 : x2 = y
            · have e3 := b_eq h2
              have HD2 : Hid (btL 1 (bs a) (bs b) = (btD (bs a) (bs b) (k + 2)).map (l ++ ·)) := by
                unfold Hid
                rw [HD.out, btD_swap hla hk1l (fun h => hxy (hax.symm.trans (h.trans hby))) (hax.trans (h1.trans hby2.symm)) (hax2.trans (h2.trans hby.symm))]
              have HL2 : Hid (l.length = k + 2 ∨ l.length + 2 ≤ k + 2) := .inr (by rcases HL.out with h | h <;> omega)
              have HW2 : Hid (true = decide (l.length + 2 ≤ k + 2)) := (decide_eq_true (by rcases HL.out with h | h <;> omega)).symm
              clear hxy hax hby h1 h2 hax2 hby2 HW HL HD HXY
              go_wp2
              go_quiet (fail)
              go_wp2
              go_quiet (fail)
              go_wp2
              go_roundw
              case rel => exact ⟨k + 2, l, t, _, true, rfl, rfl, by go_num, by omega, HW2.out, HL2.out, HT.out, by omega, HD2.out, by trivial⟩
              case measure => (simp [intOf] <;> omega)
            · have e3 := b_ne h2
              have HN : Hid (btO m (bs a) (bs b) = none) := by
                unfold Hid btO
                rw [HD.out, btD_none hla hkl (fun h => hxy (hax.symm.trans (h.trans hby))) (fun _ h => h2 (hax2.symm.trans (h.2.trans hby)))]; rfl
              clear hxy hax hby h1 h2 hax2 hby2 HW HL HD HXY
              go_wp2
              go_quiet (fail)
              go_wp2
              go_quiet (fail)
              go_wp2
              go_ret2
              exact ⟨_, ret_tb2' (by rw [HN.out]; rfl), no_some HN.out, _, by rw [World.drewN_drewN, World.drewN_drewN]⟩
          · have e2 := b_ne h1
            have HN : Hid (btO m (bs a) (bs b) = none) := by
              unfold Hid btO
              rw [HD.out, btD_none hla hkl (fun h => hxy (hax.symm.trans (h.trans hby))) (fun _ h => h1 (hax.symm.trans (h.1.trans hby2)))]; rfl
            clear hxy hax hby h1 hax2 hby2 HW HL HD HXY
            go_wp2
            go_quiet (fail)
            go_wp2
            go_quiet (fail)
            go_wp2
            go_ret2
            exact ⟨_, ret_tb2' (by rw [HN.out]; rfl), no_some HN.out, _, by rw [World.drewN_drewN, World.drewN_drewN]⟩
        · have i2 : ¬ (k : Int) + 1 < (m : Int) := by omega
          have i2b : (m : Int) ≤ (k : Int) + 1 := by omega
          have i2c : decide ((k : Int) + 1 < (m : Int)) = false := decide_eq_false i2
          have HN : Hid (btO m (bs a) (bs b) = none) := by
            unfold Hid btO
            rw [HD.out, btD_none hla hkl (fun h => hxy (hax.symm.trans (h.trans hby))) (fun h _ => by rw [size_bs] at h; omega)]; rfl
          clear hxy hax hby HW HL HD HXY
          go_wp2
          go_quiet (fail)
          go_wp2
          go_quiet (fail)
          go_wp2
          go_ret2
          exact ⟨_, ret_tb2' (by rw [HN.out]; rfl), no_some HN.out, _, by rw [World.drewN_drewN, World.drewN_drewN]⟩
    · obtain rfl : k = m := by omega
      have HE : Hid (btL 1 (bs a) (bs b) = some l) := by
        have hM := HM.out
        have hS := HS.out
        unfold Hid
        rw [HD.out, btD_end (by rw [size_bs]; omega) (by rw [size_bs]; omega)]; simp
      have HO : Hid ((btO k (bs a) (bs b)).isSome = sw ∧ ∀ c, btO k (bs a) (bs b) = some c → mkS (cT l) = mkS c) := by
        have hW := HW.out
        unfold Hid btO
        rw [HE.out]
        cases sw with
        | true =>
          have h := of_decide_eq_true hW.symm
          simp only [if_pos h]
          exact ⟨rfl, fun c hc => by injection hc with hc; rw [hc]⟩
        | false =>
          have h := of_decide_eq_false hW.symm
          simp only [if_neg h]
          exact ⟨rfl, fun c hc => by cases hc⟩
      clear HW HL HD hkm
      by_cases hnil : l = []
      · have ht : t = { data := #[] } := bs_inj (HT.out.trans (by rw [hnil]; rfl))
        have hc : mkS (cT l) = { data := #[45] } := by rw [hnil]; rfl
        rw [hc] at HO
        subst ht
        clear hnil hc
        go_wp2
        go_ret2
        exact ⟨_, ret_tb2' HO.out.1, HO.out.2, _, rfl⟩
      · have hc : mkS (cT l) = t := by
          unfold cT txtL
          rw [if_neg (by simpa using hnil)]
          exact (congrArg mkS HT.out.symm).trans (mkS_bs t)
        have hne : t ≠ { data := #[] } := fun h => hnil (by
          have := HT.out
          rw [h] at this
          have h2 : ([] : List UInt8) = plT l := this
          unfold plT at h2
          exact List.map_eq_nil_iff.1 h2.symm)
        have hne2 := ne_list hne
        have e0 : ({ data := #[] } : ByteArray).toList = [] := by first | kernel_rfl | exact toList_empty
        have hne4 : ¬ t.toList = [] := fun h => by rw [h, e0] at hne2; simp at hne2
        clear e0
        have hne5 : (t.toList == []) = false := by simpa using hne4
        have hne6 : t.toList.isEmpty = false := by simpa using hne4
        rw [hc] at HO
        clear hnil hc
        go_wp2
        go_ret2
        exact ⟨_, ret_tb2' HO.out.1, HO.out.2, _, rfl⟩
end Go.Proofs.Ytgpjbmlemnjhfaa
