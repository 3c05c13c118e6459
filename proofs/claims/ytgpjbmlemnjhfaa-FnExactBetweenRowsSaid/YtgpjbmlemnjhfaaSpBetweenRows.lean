/- BetweenRows, of the reference and of the program: what each returns. -/
import Derived.Test.YtgpjbmlemnjhfaaWalkBw
import Derived.Test.YtgpjbmlemnjhfaaWalkFl
import Derived.Test.YtgpjbmlemnjhfaaSpApply
namespace Go.Proofs.Ytgpjbmlemnjhfaa
open Go.RowKit
set_option linter.unusedVariables false

def two_BR (a b : ByteArray) : Bool := rowB a && rowB b && decide (a.size = b.size)
noncomputable def bt_BR (a b : ByteArray) : Option (List UInt8) := if two_BR a b = true then btO a.size (bs a) (bs b) else none
noncomputable def ok_BR (a b : ByteArray) : Bool := (bt_BR a b).isSome
noncomputable def out_BR (a b : ByteArray) : ByteArray := match bt_BR a b with
  | some c => mkS c
  | none => { data := #[] }
theorem br_none {a b : ByteArray} (h : bt_BR a b = none) : out_BR a b = { data := #[] } ∧ ok_BR a b = false := by
  unfold out_BR ok_BR; rw [h]; exact ⟨rfl, rfl⟩
theorem br_some {a b : ByteArray} {c : List UInt8} (h : bt_BR a b = some c) : out_BR a b = mkS c ∧ ok_BR a b = true := by
  unfold out_BR ok_BR; rw [h]; exact ⟨rfl, rfl⟩
theorem two_of {a b : ByteArray} (h : two_BR a b = true) : IsRow (bs a) ∧ IsRow (bs b) ∧ b.size = a.size ∧ 3 ≤ a.size ∧ a.size ≤ 8 := by
  unfold two_BR at h
  rw [Bool.and_eq_true, Bool.and_eq_true] at h
  have h1 : IsRow (bs a) := by simpa [rowB] using h.1.1
  have h2 : IsRow (bs b) := by simpa [rowB] using h.1.2
  have h3 := of_decide_eq_true h.2
  have h4 := h1.1
  have h5 := h1.2.1
  rw [size_bs] at h4 h5
  exact ⟨h1, h2, h3.symm, h4, h5⟩
/-- the row of a change, as a list of bytes -/
theorem crS_crT (n : Nat) (c : List UInt8) : bs (crS (n : Int) (mkS c)) = crT n c := by
  unfold crS crT swI
  rw [bs_mkS, Int.toNat_natCast]
  congr 2
theorem apS_crT (a : ByteArray) (c : List UInt8) : bs (apS a (mkS c)) = timesL (bs a) (crT a.size c) := by
  unfold apS; rw [bs_mkS, crS_crT]
/-- the list of all changes, told by its texts -/
theorem mem_frT {m : Nat} {s : ByteArray} : s ∈ srt (frT m (frL m m 1)) ↔ ∃ c, s = mkS c ∧ c ∈ (frL m m 1).map cT ∧ IsCh m c := by
  have e : ∀ R : List ByteArray, s ∈ srt R ↔ s ∈ R := fun R => by
    have := (List.mergeSort_perm (R.map bs) leS).map mkS
    rw [map_mkS_bs] at this
    exact this.mem_iff
  rw [e]
  unfold frT
  rw [List.mem_map]
  constructor
  · rintro ⟨c, hc, rfl⟩
    have := List.mem_filter.1 hc
    exact ⟨c, rfl, this.1, of_cb this.2⟩
  · rintro ⟨c, rfl, h1, h2⟩
    exact ⟨c, List.mem_filter.2 ⟨h1, cb_true h2⟩, rfl⟩
theorem br_hit {a b s : ByteArray} (h : two_BR a b = true) (hs : s ∈ srt (frT a.size (frL a.size a.size 1))) (he : apS a s = b) : out_BR a b = s ∧ ok_BR a b = true := by
  obtain ⟨h1, h2, h3, h4, h5⟩ := two_of h
  obtain ⟨c, rfl, hc, hi⟩ := mem_frT.1 hs
  have hb : timesL (bs a) (crT a.size c) = bs b := by rw [← apS_crT, he]
  have := btO_of (size_bs a) h1.2.2.2 h4 h5 hc hi hb
  exact br_some (by unfold bt_BR; rw [if_pos h, this])
theorem br_miss {a b : ByteArray} (h : two_BR a b = true) (hn : ∀ s ∈ srt (frT a.size (frL a.size a.size 1)), apS a s ≠ b) : out_BR a b = { data := #[] } ∧ ok_BR a b = false := by
  obtain ⟨h1, h2, h3, h4, h5⟩ := two_of h
  refine br_none ?_
  unfold bt_BR
  rw [if_pos h]
  cases e : btO a.size (bs a) (bs b) with
  | none => rfl
  | some c =>
    obtain ⟨k1, k2, k3⟩ := of_btO (size_bs a) h4 h5 e
    refine absurd (bs_inj ?_) (hn (mkS c) (mem_frT.2 ⟨c, rfl, k1, k2⟩))
    rw [apS_crT, k3]
theorem frT_ch {m : Nat} {s : ByteArray} (h : s ∈ srt (frT m (frL m m 1))) : chB m s = true := by
  obtain ⟨c, rfl, _, hi⟩ := mem_frT.1 h
  unfold chB
  rw [bs_mkS, Int.toNat_natCast]
  exact cb_true hi
theorem frT_len {m : Nat} (h : m ≤ 8) : (srt (frT m (frL m m 1))).length ≤ 512 := by
  rw [srt_len]; unfold frT
  rw [List.length_map]
  refine Nat.le_trans (List.length_filter_le _ _) ?_
  rw [List.length_map]
  exact Nat.le_trans (frL_len _ _ _) (Nat.le_trans (Nat.pow_le_pow_right (by omega) h) (by decide))
set_option maxRecDepth 100000 in
set_option maxHeartbeats 2000000 in
theorem sp_BetweenRows (a b : ByteArray) (W : World) (hs : a.size ≤ 1048576) (hs2 : b.size ≤ 1048576) :
    Calls Try.prog 26 #[.string a, .string b] W fun e w' => e = .returned (.tuple #[.string (out_BR a b), .bool (ok_BR a b)]) ∧ Below W.heap.size W w' := by
  have hm : a.size ≤ maxLen := by unfold maxLen; omega
  have hm2 : b.size ≤ maxLen := by unfold maxLen; omega
  have HT := Lib.hid (l1Two_any a b W hm hm2)
  cases h : two_BR a b with
  | false =>
    have E := Lib.hid (br_none (a := a) (b := b) (by unfold bt_BR; rw [h]; rfl))
    rw [show twoB a b = false from h] at HT
    go_enter Try.func26, Try.ntmps26
    go_wp2_with fail
    refine HT.out.mono ?_
    rintro e w1 ⟨rfl, d, rfl⟩
    go_wp2
    go_ret2
    exact ⟨ret_tb2 E.out.1 E.out.2, below_drewN' (Below.refl _ _) _⟩
  | true =>
    obtain ⟨h1, h2, h3, h4, h5⟩ := two_of h
    rw [show twoB a b = true from h] at HT
    have HA := Lib.hid (fun W => l2All_any a.size W h4 h5)
    have HLn := Lib.hid (frT_len h5)
    have HHit : Hid (∀ s ∈ srt (frT a.size (frL a.size a.size 1)), apS a s = b → out_BR a b = s ∧ ok_BR a b = true) := fun s hs he => br_hit h hs he
    have HMiss : Hid ((∀ s ∈ srt (frT a.size (frL a.size a.size 1)), apS a s ≠ b) → out_BR a b = { data := #[] } ∧ ok_BR a b = false) := fun hn => br_miss h hn
    have HAp : Hid (∀ s ∈ srt (frT a.size (frL a.size a.size 1)), ∀ W, Calls Try.prog 56 #[.string a, .string s] W fun e w' => e = .returned (.string (apS a s)) ∧ Below W.heap.size W w') := fun s hs W => l2Apply_any a s W h1 (frT_ch hs)
    obtain ⟨L, hL⟩ : ∃ L, L = srt (frT a.size (frL a.size a.size 1)) := ⟨_, rfl⟩
    rw [← hL] at HA HLn HHit HMiss HAp
    clear hL h h1 h2 h3 h4 h5
    go_enter Try.func26, Try.ntmps26
    go_wp2_with fail
    refine HT.out.mono ?_
    rintro e w1 ⟨rfl, d, rfl⟩
    go_wp2_with fail
    refine (HA.out _).mono ?_
    rintro e x1 ⟨A1, n1, c1, rfl, ho1, hb1⟩
    have hn1 : n1 ≤ 512 := by have := ho1.rd.slen; have := HLn.out; omega
    have HB1 : Hid (Below W.heap.size W x1) := (below_drewN' (Below.refl _ _) _ : Below W.heap.size W (W.drewN d)).trans hb1
    have HR1 := Lib.hid ho1.rd
    have HSl := Lib.hid ho1.rd.slen
    clear ho1 hb1
    go_wp2
    go_loopw [16] (fun i wr => ∃ k : Nat, i = .int .i64 (k : Int) ∧ k ≤ n1 ∧ Hid (∀ j s, j < k → L[j]? = some s → apS a s ≠ b) ∧ Hid (Rd wr A1 n1 (strsV L)) ∧ Hid (Below W.heap.size W wr)) (fun i _ => ((n1 : Int) - intOf i).toNat)
    case atStart => exact ⟨0, rfl, Nat.zero_le _, by unfold Hid; exact fun j s hj => absurd hj (Nat.not_lt_zero _), HR1.out, HB1.out⟩
    case round =>
      obtain ⟨k, rfl, hk, HN, HRd, HB⟩ := hrel
      by_cases hlt : k < n1
      · have i3 : (k : Int) < (n1 : Int) := by omega
        obtain ⟨b1, off, rfl, hbs, hcell⟩ := HRd.out.str hlt
        have hkL : k < L.length := by have := HSl.out; omega
        obtain ⟨s, hs0⟩ : ∃ s, s = L[k] := ⟨_, rfl⟩
        rw [← hs0] at hcell
        have hget : L[k]? = some s := by rw [List.getElem?_eq_getElem hkL, hs0]
        have hmem : s ∈ L := List.mem_of_getElem? hget
        have HAk := Lib.hid (fun W => HAp.out s hmem W)
        obtain ⟨v, hv⟩ : ∃ v, v = apS a s := ⟨_, rfl⟩
        rw [← hv] at HAk
        by_cases he : v = b
        · have E := Lib.hid (HHit.out s hmem (hv.symm.trans he))
          have HBb := HB.out
          subst he
          clear hs0 hget hmem hv hkL
          go_wp2_with fail
          refine (HAk.out _).mono ?_
          rintro e x2 ⟨rfl, hb2⟩
          go_wp2
          go_ret2
          exact ⟨ret_tb2 E.out.1 E.out.2, HBb.trans (hb2.mono HBb.size)⟩
        · have hne := ne_list he
          have HN2 : Hid (∀ j s, j < k + 1 → L[j]? = some s → apS a s ≠ b) := fun j s2 hj hs2 => by
            by_cases e : j = k
            · subst e
              rw [hget] at hs2; injection hs2 with hs2; subst hs2
              rw [← hv]; exact he
            · exact HN.out j s2 (by omega) hs2
          clear he hs0 hget hmem hv hkL
          go_wp2_with fail
          refine (HAk.out _).mono ?_
          rintro e x2 ⟨rfl, hb2⟩
          have HB2 : Hid (Below W.heap.size W x2) := HB.out.trans (hb2.mono HB.out.size)
          have HR2 := Lib.hid (HRd.out.below hb2)
          clear hb2
          go_wp2
          go_roundw
          case rel => exact ⟨k + 1, by go_num, by omega, HN2.out, HR2.out, HB2.out⟩
          case measure => (simp [intOf] <;> omega)
      · have E : Hid (out_BR a b = { data := #[] } ∧ ok_BR a b = false) := HMiss.out fun s hs => by
          obtain ⟨j, hj⟩ := List.getElem?_of_mem hs
          have := (List.getElem?_eq_some_iff.1 hj).1
          exact HN.out j s (by have := HSl.out; omega) hj
        go_wp2
        go_ret2
        exact ⟨ret_tb2 E.out.1 E.out.2, HB.out⟩
set_option maxRecDepth 100000 in
set_option maxHeartbeats 2000000 in
theorem im_BetweenRows (a b : ByteArray) (W : World) (hs : a.size ≤ 1048576) (hs2 : b.size ≤ 1048576) :
    Calls Try.prog 27 #[.string a, .string b] W fun e w' => e = .returned (.tuple #[.string (out_BR a b), .bool (ok_BR a b)]) ∧ Below W.heap.size W w' := by
  have hm : a.size ≤ maxLen := by unfold maxLen; omega
  have hm2 : b.size ≤ maxLen := by unfold maxLen; omega
  have HG := Lib.hid (fun W => GoodRow_any a W hm)
  have HI := Lib.hid (fun W => isRowOf_any (a.size : Int) b W hm2)
  cases hra : rowB a with
  | false =>
    have E := Lib.hid (br_none (a := a) (b := b) (by unfold bt_BR two_BR; rw [hra]; rfl))
    rw [hra] at HG
    clear hra
    go_enter Try.func27, Try.ntmps27
    go_wp2_with fail
    refine (HG.out _).mono ?_
    rintro e w1 ⟨rfl, rfl⟩
    go_wp2
    go_ret2
    exact ⟨ret_tb2 E.out.1 E.out.2, Below.refl _ _⟩
  | true =>
    rw [hra] at HG
    cases hrb : rowOfB (a.size : Int) b with
    | false =>
      have E := Lib.hid (br_none (a := a) (b := b) (by
        have : two_BR a b = false := by
          unfold two_BR
          rw [hra]
          unfold rowOfB at hrb
          cases hb : rowB b with
          | false => rfl
          | true =>
            rw [hb] at hrb
            have : ¬ a.size = b.size := fun e => by rw [e] at hrb; simp at hrb
            simp [this]
        unfold bt_BR; rw [this]; rfl))
      rw [hrb] at HI
      clear hra hrb
      go_enter Try.func27, Try.ntmps27
      go_wp2_with first
        | (go_at_call 43; refine (HG.out _).mono ?_; rintro e w1 ⟨rfl, rfl⟩)
        | (go_at_call 57; refine (HI.out _).mono ?_; rintro e w1 ⟨rfl, rfl⟩)
      go_ret2
      exact ⟨ret_tb2 E.out.1 E.out.2, Below.refl _ _⟩
    | true =>
      have h : two_BR a b = true := by
        unfold rowOfB at hrb
        unfold two_BR
        rw [hra]
        simp only [Bool.and_eq_true, decide_eq_true_eq] at hrb
        have : a.size = b.size := by omega
        simp [hrb.2, this]
      obtain ⟨h1, h2, h3, h4, h5⟩ := two_of h
      rw [hrb] at HI
      have HB := Lib.hid (fun W => between_any a b W h1 h2 h3)
      have HE : Hid (bt_BR a b = btO a.size (bs a) (bs b)) := by unfold Hid bt_BR; rw [if_pos h]
      cases ho : btO a.size (bs a) (bs b) with
      | none =>
        have E := Lib.hid (br_none (HE.out.trans ho))
        rw [ho] at HB
        clear hra hrb h h1 h2 h3 h4 h5 ho HE
        go_enter Try.func27, Try.ntmps27
        go_wp2_with first
          | (go_at_call 43; refine (HG.out _).mono ?_; rintro e w1 ⟨rfl, rfl⟩)
          | (go_at_call 57; refine (HI.out _).mono ?_; rintro e w1 ⟨rfl, rfl⟩)
          | (go_at_call 58; refine (HB.out _).mono ?_; rintro e w1 ⟨v, rfl, _, d, rfl⟩)
        go_ret2
        exact ⟨ret_tb2 E.out.1 E.out.2, below_drewN' (Below.refl _ _) _⟩
      | some c =>
        have E := Lib.hid (br_some (HE.out.trans ho))
        rw [ho] at HB
        clear hra hrb h h1 h2 h3 h4 h5 ho HE
        go_enter Try.func27, Try.ntmps27
        go_wp2_with first
          | (go_at_call 43; refine (HG.out _).mono ?_; rintro e w1 ⟨rfl, rfl⟩)
          | (go_at_call 57; refine (HI.out _).mono ?_; rintro e w1 ⟨rfl, rfl⟩)
          | (go_at_call 58; refine (HB.out _).mono ?_; rintro e w1 ⟨v, rfl, hv, d, rfl⟩; have hvc : v = mkS c := hv c rfl; clear hv)
        go_ret2
        exact ⟨ret_tb2 E.out.1 E.out.2, below_drewN' (Below.refl _ _) _⟩
end Go.Proofs.Ytgpjbmlemnjhfaa
