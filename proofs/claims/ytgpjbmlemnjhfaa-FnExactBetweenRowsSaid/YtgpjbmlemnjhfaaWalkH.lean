/- The walks of the check of a change. -/
import Derived.Test.YtgpjbmlemnjhfaaWalkA
import Derived.Test.YtgpjbmlemnjhfaaWalkI
import Derived.Test.YtgpjbmlemnjhfaaPlain3
namespace Go.Proofs.Ytgpjbmlemnjhfaa
open Go.RowKit
set_option linter.unusedVariables false

noncomputable def chB (n : Int) (s : ByteArray) : Bool := cb (IsCh n.toNat (bs s))
theorem ch_bs (s : ByteArray) (k : Nat) (h : k < s.size) : ch (bs s) k = s[k].toNat := by unfold ch; rw [getD_bs s k h]
theorem eq_dash {s : ByteArray} (h : s.toList = [45]) : bs s = [45] := by rw [ByteArray.toList_eq] at h; exact h
theorem chB_dash {n : Int} {s : ByteArray} (h3 : 3 ≤ n) (h8 : n ≤ 8) (h : bs s = [45]) : chB n s = (n % 2 == 0) := by
  unfold chB
  by_cases h2 : n % 2 = 0
  · rw [cb_true, h2]
    · rfl
    · exact ⟨by omega, by omega, .inl ⟨h, by omega⟩⟩
  · rw [cb_false]
    · simp [h2]
    · rintro ⟨_, _, ⟨_, he⟩ | hp⟩
      · omega
      · rw [h] at hp; exact not_places_dash hp
theorem chB_not {n : Int} {s : ByteArray} (h : n < 3 ∨ 8 < n) : chB n s = false := cb_false fun h2 => by have := h2.1; have := h2.2.1; omega
theorem chB_places {n : Int} {s : ByteArray} (h3 : 3 ≤ n) (h8 : n ≤ 8) (hd : bs s ≠ [45]) : chB n s = cb (PlacesOK n.toNat (bs s)) :=
  cb_congr ⟨fun h => by rcases h.2.2 with ⟨h1, _⟩ | h1; exact absurd h1 hd; exact h1, fun h => ⟨by omega, by omega, .inr h⟩⟩
theorem chB_len {n : Int} {s : ByteArray} (h : s.size = 0 ∨ n < (s.size : Int) + 2) : chB n s = false := cb_false fun h2 => by
  have := isCh_len h2; have h3 := h2.1; rw [size_bs] at this; omega

set_option maxRecDepth 100000 in
set_option maxHeartbeats 1000000 in
theorem l2Change_any (n : Int) (s : ByteArray) (w : World) (hm : s.size ≤ maxLen) : Calls Try.prog 75 #[.int .i64 n, .string s] w fun e w' => e = .returned (.bool (chB n s)) ∧ w = w' := by
  unfold maxLen at hm
  by_cases hst : 3 ≤ n ∧ n ≤ 8
  · obtain ⟨h3, h8⟩ := hst
    have hin : inB n 3 8 = true := inB_true h3 h8
    by_cases hz : s.size = 0
    · have he : s.toList = [] := by rw [ByteArray.toList_eq]; exact List.eq_nil_of_length_eq_zero (by simpa using hz)
      have he2 : s.toList.isEmpty = true := by rw [he]; rfl
      have E := Lib.hid (chB_len (n := n) (s := s) (.inl hz))
      clear hz
      go_enter Try.func75, Try.ntmps75
      go_wp2_with (go_at_call 60; refine (l1In_any _ _ _ _).mono ?_; rintro e w' ⟨rfl, rfl⟩)
      go_ret
      exact ⟨ret_b E.out, rfl⟩
    · have he : ¬ s.toList = [] := by rw [ByteArray.toList_eq]; intro e; apply hz; have := congrArg List.length e; simpa using this
      have he2 : s.toList.isEmpty = false := by simp [he]
      have he3 : (s.toList == []) = false := by simp [he]
      have hz1 : (1 : Int) ≤ (s.size : Int) := by omega
      by_cases hlong : n < (s.size : Int) + 2
      · have hl2 : n - 2 < (s.size : Int) := by omega
        have E := Lib.hid (chB_len (n := n) (s := s) (.inr hlong))
        clear hz hlong
        go_enter Try.func75, Try.ntmps75
        go_wp2_with (go_at_call 60; refine (l1In_any _ _ _ _).mono ?_; rintro e w' ⟨rfl, rfl⟩)
        go_ret
        exact ⟨ret_b E.out, rfl⟩
      · have hl2 : (s.size : Int) ≤ n - 2 := by omega
        by_cases hdash : s.toList = [45]
        · have hd1 : (s.toList == [45]) = true := by rw [hdash]; rfl
          have E := Lib.hid (chB_dash (n := n) h3 h8 (eq_dash hdash))
          clear hdash hz hlong
          go_enter Try.func75, Try.ntmps75
          go_wp2_with (go_at_call 60; refine (l1In_any _ _ _ _).mono ?_; rintro e w' ⟨rfl, rfl⟩)
          go_ret
          exact ⟨ret_b E.out, rfl⟩
        · have hd1 : (s.toList == [45]) = false := by simp [hdash]
          have hnd : bs s ≠ [45] := fun e => hdash (by rw [ByteArray.toList_eq]; exact e)
          have HC := Lib.hid (chB_places h3 h8 hnd)
          clear hdash hz hlong hnd
          go_enter Try.func75, Try.ntmps75
          go_wp2_with (go_at_call 60; refine (l1In_any _ _ _ _).mono ?_; rintro e w' ⟨rfl, rfl⟩)
          go_loop [5, 6] (fun l i => ∃ (k : Nat) (last : Int), k ≤ s.size ∧ i = .int .i64 k ∧ l = .int .i64 last ∧ 0 ≤ last ∧ last ≤ n ∧ Hid (Pre n.toNat (bs s) k last)) (fun _ i => s.size - (intOf i).toNat)
          case atStart => exact ⟨0, 0, by omega, rfl, rfl, by omega, by omega, Pre.zero _ _⟩
          case round =>
            obtain ⟨k, last, hk, rfl, rfl, hl0, hln, HP⟩ := hrel
            by_cases hlt : k < s.size
            · have hcu : (s[k].toNat : Int) ≤ 255 := by have := UInt8.toNat_lt s[k]; omega
              have Hch := Lib.hid (ch_bs s k hlt)
              by_cases hp1 : last + 1 ≤ (s[k].toNat : Int) - 48 ∧ (s[k].toNat : Int) - 48 ≤ n
              · have hin2 : inB ((s[k].toNat : Int) - 48) (last + 1) n = true := inB_true hp1.1 hp1.2
                have hp2 : 0 ≤ (s[k].toNat : Int) - 48 - last := by omega
                by_cases hp3 : ((s[k].toNat : Int) - 48 - last) % 2 = 0
                · have hp3' : (((s[k].toNat : Int) - 48 - last) % 2 == 0) = true := by rw [hp3]; rfl
                  have E : Hid (chB n s = false) := by
                    unfold Hid; rw [HC.out]
                    exact cb_false fun hp => ((HP.out.next (by rw [size_bs]; exact hlt) hp).2.2) (by rw [Hch.out]; exact hp3)
                  clear hp3 hp1
                  go_wp2_with (go_at_call 60; refine (l1In_any _ _ _ _).mono ?_; rintro e w' ⟨rfl, rfl⟩)
                  go_ret
                  exact ⟨ret_b E.out, rfl⟩
                · have hp3' : (((s[k].toNat : Int) - 48 - last) % 2 == 0) = false := by simp [hp3]
                  have HN : Hid (Pre n.toNat (bs s) (k + 1) ((s[k].toNat : Int) - 48)) := by
                    have := HP.out.succ (by rw [Hch.out]; exact hp1.1) (by rw [Hch.out]; omega) (by rw [Hch.out]; exact hp3)
                    rwa [Hch.out] at this
                  have j1 : 0 ≤ (s[k].toNat : Int) - 48 := by omega
                  have j2 : (s[k].toNat : Int) - 48 ≤ n := by omega
                  clear hp3 hp1
                  go_wp2_with (go_at_call 60; refine (l1In_any _ _ _ _).mono ?_; rintro e w' ⟨rfl, rfl⟩)
                  go_round
                  case rel => exact ⟨k + 1, _, by omega, by go_num, rfl, by omega, by omega, HN.out⟩
                  case measure => simp [intOf]; omega
              · have hin2 : inB ((s[k].toNat : Int) - 48) (last + 1) n = false := inB_false (by omega)
                have E : Hid (chB n s = false) := by
                  unfold Hid; rw [HC.out]
                  refine cb_false fun hp => hp1 ?_
                  have := HP.out.next (by rw [size_bs]; exact hlt) hp
                  rw [Hch.out] at this
                  exact ⟨this.1, by omega⟩
                clear hp1
                go_wp2_with (go_at_call 60; refine (l1In_any _ _ _ _).mono ?_; rintro e w' ⟨rfl, rfl⟩)
                go_ret
                exact ⟨ret_b E.out, rfl⟩
            · have E : Hid (chB n s = ((n - last) % 2 == 0)) := by
                unfold Hid; rw [HC.out]
                have hkl : k = (bs s).length := by rw [size_bs]; omega
                have hp := HP.out
                rw [hkl] at hp
                have hlen : (bs s).length = s.size := size_bs s
                by_cases hpar : (n - last) % 2 = 0
                · rw [cb_true (hp.ok (by omega) (by omega) (by omega)), hpar]; rfl
                · rw [cb_false (hp.not_ok (by omega) (by omega))]; simp [hpar]
              have j3 : 0 ≤ n - last := by omega
              go_wp2
              go_ret
              exact ⟨ret_b E.out, rfl⟩
  · have hin : inB n 3 8 = false := inB_false (by omega)
    have E := Lib.hid (chB_not (n := n) (s := s) (by omega))
    clear hst
    go_enter Try.func75, Try.ntmps75
    go_wp2_with (go_at_call 60; refine (l1In_any _ _ _ _).mono ?_; rintro e w' ⟨rfl, rfl⟩)
    go_ret
    exact ⟨ret_b E.out, rfl⟩
/-- what places returns -/
def PlRet (s : ByteArray) (w : World) (e : Ending) (w' : World) : Prop :=
  ∃ A n c, e = .returned (.tuple #[.slice A n c, .bool true]) ∧ Own w' 3 w.heap.size w'.heap.size A n c (intsV (digsI (bs s))) ∧ Below w.heap.size w w'
theorem digsI_snoc (s : ByteArray) (k : Nat) (h : k < s.size) : intsV (digsI ((bs s).take (k + 1))) = intsV (digsI ((bs s).take k)) ++ [.int .i64 ((s[k].toNat : Int) - 48)] := by
  rw [take_snoc s k h]; simp [intsV, digsI]
set_option maxRecDepth 100000 in
set_option maxHeartbeats 1000000 in
theorem places_yes (s : ByteArray) (w : World) (hm : s.size ≤ 2097152) (hd : allDig (bs s)) : Calls Try.prog 90 #[.string s] w (PlRet s w) := by
  have Hd := Lib.hid hd
  clear hd
  go_enter Try.func90, Try.ntmps90
  go_wp2
  go_loopw [4, 9] (fun l i wr => ∃ (k : Nat) (A : Option Addr) (c : Nat), k ≤ s.size ∧ i = .int .i64 k ∧ l = .slice A k c ∧ Hid (Own wr 3 w.heap.size wr.heap.size A k c (intsV (digsI ((bs s).take k)))) ∧ Hid (Below w.heap.size w wr)) (fun _ i _ => s.size - (intOf i).toNat)
  case atStart => exact ⟨0, _, _, by omega, rfl, rfl, own_empty w 3, below_alloc _ _⟩
  case round =>
    obtain ⟨k, A, c, hk, rfl, rfl, HO, HB⟩ := hrel
    by_cases hlt : k < s.size
    · have h1 := Hd.out k (by rw [size_bs]; exact hlt)
      rw [ch_bs s k hlt] at h1
      obtain ⟨c1, c2⟩ := h1
      have b1 : 49 ≤ (s[k].toNat : Int) := by omega
      have b2 : (s[k].toNat : Int) ≤ 56 := by omega
      have HS := Lib.hid (digsI_snoc s k hlt)
      clear c1 c2
      go_wp2_with (at_builtin; refine wpList_append1 wr rfl (.tmp 22) (.tmp 28) 50 rfl 3 (.int .i64 0) 8 Try.underlying50 info_int rfl w.heap.size A k c (intsV (digsI ((bs s).take k))) (.int .i64 ((s[k].toNat : Int) - 48)) rfl rfl rfl HO.out (by omega) (by omega) HB.out.size ?_; intro A1 c1 w1 ho1 hw1 hsz1 hat1)
      have HO1 : Hid (Own w1 3 w.heap.size w1.heap.size A1 (k + 1) c1 (intsV (digsI ((bs s).take (k + 1))))) := ho1.congr HS.out.symm
      have HB1 : Hid (Below w.heap.size w w1) := HB.out.trans (hw1.below (Nat.le_refl _) HB.out.size)
      go_roundw
      case rel => exact ⟨k + 1, A1, c1, by omega, by go_num, rfl, HO1.out, HB1.out⟩
      case measure => simp [intOf]; omega
    · have E : Hid (Own wr 3 w.heap.size wr.heap.size A k c (intsV (digsI (bs s)))) := by
        refine HO.out.congr ?_
        rw [List.take_of_length_le (by rw [size_bs]; omega)]
      go_wp2
      go_ret2
      exact ⟨_, _, _, rfl, E.out, HB.out⟩
set_option maxRecDepth 100000 in
set_option maxHeartbeats 1000000 in
theorem places_no (s : ByteArray) (w : World) (hm : s.size ≤ 2097152) (hd : ¬ allDig (bs s)) : Calls Try.prog 90 #[.string s] w fun e w' => e = .returned (.tuple #[.slice none 0 0, .bool false]) ∧ Below w.heap.size w w' := by
  have hex : ∃ i, i < s.size ∧ ¬ (49 ≤ ch (bs s) i ∧ ch (bs s) i ≤ 56) := by
    apply Classical.byContradiction
    intro hno
    exact hd fun i hi => Classical.byContradiction fun h => hno ⟨i, by rwa [size_bs] at hi, h⟩
  obtain ⟨m, hm1, hm2⟩ := hex
  have Hm2 := Lib.hid hm2
  clear hd hm2
  go_enter Try.func90, Try.ntmps90
  go_wp2
  go_loopw [4, 9] (fun l i wr => ∃ (k : Nat) (A : Option Addr) (c : Nat), k ≤ m ∧ i = .int .i64 k ∧ l = .slice A k c ∧ Hid (Own wr 3 w.heap.size wr.heap.size A k c (intsV (digsI ((bs s).take k)))) ∧ Hid (Below w.heap.size w wr)) (fun _ i _ => s.size - (intOf i).toNat)
  case atStart => exact ⟨0, _, _, by omega, rfl, rfl, own_empty w 3, below_alloc _ _⟩
  case round =>
    obtain ⟨k, A, c, hk, rfl, rfl, HO, HB⟩ := hrel
    have hlt : k < s.size := by omega
    have b0 : (s[k].toNat : Int) ≤ 255 := by have := UInt8.toNat_lt s[k]; omega
    by_cases hg : 49 ≤ s[k].toNat ∧ s[k].toNat ≤ 56
    · obtain ⟨c1, c2⟩ := hg
      have b1 : 49 ≤ (s[k].toNat : Int) := by omega
      have b2 : (s[k].toNat : Int) ≤ 56 := by omega
      have HS := Lib.hid (digsI_snoc s k hlt)
      have hkm : k + 1 ≤ m := by
        have : k ≠ m := fun e => by
          subst e
          exact Hm2.out (by rw [ch_bs s k hlt]; exact ⟨c1, c2⟩)
        omega
      clear c1 c2
      go_wp2_with (at_builtin; refine wpList_append1 wr rfl (.tmp 22) (.tmp 28) 50 rfl 3 (.int .i64 0) 8 Try.underlying50 info_int rfl w.heap.size A k c (intsV (digsI ((bs s).take k))) (.int .i64 ((s[k].toNat : Int) - 48)) rfl rfl rfl HO.out (by omega) (by omega) HB.out.size ?_; intro A1 c1 w1 ho1 hw1 hsz1 hat1)
      have HO1 : Hid (Own w1 3 w.heap.size w1.heap.size A1 (k + 1) c1 (intsV (digsI ((bs s).take (k + 1))))) := ho1.congr HS.out.symm
      have HB1 : Hid (Below w.heap.size w w1) := HB.out.trans (hw1.below (Nat.le_refl _) HB.out.size)
      go_roundw
      case rel => exact ⟨k + 1, A1, c1, by omega, by go_num, rfl, HO1.out, HB1.out⟩
      case measure => simp [intOf]; omega
    · rcases (show s[k].toNat < 49 ∨ (49 ≤ s[k].toNat ∧ 56 < s[k].toNat) by omega) with h | ⟨h, h'⟩
      · have b1 : (s[k].toNat : Int) < 49 := by omega
        clear hg h
        go_wp2
        go_ret2
        exact ⟨rfl, HB.out⟩
      · have b1 : 49 ≤ (s[k].toNat : Int) := by omega
        have b2 : 56 < (s[k].toNat : Int) := by omega
        clear hg h h'
        go_wp2
        go_ret2
        exact ⟨rfl, HB.out⟩
theorem getD_mem_int {zs : List Int} {i : Nat} (h : i < zs.length) : zs.getD i 0 ∈ zs := by
  simp only [List.getD, List.getElem?_eq_getElem h, Option.getD_some]; exact List.getElem_mem h
theorem Rd.intD {w : World} {A : Option Addr} {n : Nat} {zs : List Int} (h : Rd w A n (intsV zs)) {k : Nat} (hk : k < n) :
    ∃ b off, A = some ⟨b, off, none⟩ ∧ b < w.heap.size ∧ ∀ j, j < n → w.cell? ⟨b, off + j, none⟩ = some (.int .i64 (zs.getD j 0)) := by
  obtain ⟨b, off, rfl, hb, _⟩ := h.int hk
  refine ⟨b, off, rfl, hb, fun j hj => ?_⟩
  obtain ⟨b', off', e, _, hc⟩ := h.int hj
  injection e with e; injection e with e1 e2; subst e1 e2
  have := h.ilen
  rw [hc]; simp [List.getElem?_eq_getElem (show j < zs.length by omega)]
set_option maxRecDepth 100000 in
set_option maxHeartbeats 2000000 in
theorem arePlaces_any (n : Int) (A : Option Addr) (m c : Nat) (zs : List Int) (w : World) (h3 : 3 ≤ n) (h8 : n ≤ 8) (hr : Rd w A m (intsV zs)) (hz : ∀ z ∈ zs, 1 ≤ z ∧ z ≤ 8) :
    Calls Try.prog 91 #[.int .i64 n, .slice A m c] w fun e w' => e = .returned (.bool (cb (ArePl n zs))) ∧ ∃ d, w' = w.drewN d := by
  have hmB := hr.lenB
  have Hl := Lib.hid hr.ilen
  have Hr := Lib.hid hr
  have Hz := Lib.hid hz
  clear hr hz
  by_cases hm0 : m = 0
  · have h1 : ((m : Int) == 0) = true := by simp [hm0]
    have E : Hid (cb (ArePl n zs) = false) := cb_false fun h => by have := h.1; have := Hl.out; omega
    clear hm0
    go_enter Try.func91, Try.ntmps91
    go_wp2
    go_ret
    exact ⟨ret_b E.out, 0, rfl⟩
  have h1 : ((m : Int) == 0) = false := by simp [hm0]
  have hmp : 0 < m := by omega
  clear hm0
  obtain ⟨b, off, rfl, hbs, hcs⟩ := Hr.out.intD hmp
  by_cases hmn : (m : Int) = n
  · have h2 : ((m : Int) == n) = true := by simp [hmn]
    have E : Hid (cb (ArePl n zs) = false) := cb_false fun h => by have := h.2.1; have := Hl.out; omega
    clear hmn hcs
    go_enter Try.func91, Try.ntmps91
    go_wp2
    go_ret
    exact ⟨ret_b E.out, 0, rfl⟩
  have h2 : ((m : Int) == n) = false := by simp [hmn]
  have Hmn := Lib.hid hmn
  clear hmn
  obtain ⟨z0, hz0⟩ : ∃ z, z = zs.getD 0 0 := ⟨_, rfl⟩
  obtain ⟨zl, hzl⟩ : ∃ z, z = zs.getD (m - 1) 0 := ⟨_, rfl⟩
  have hc0 : w.cell? ⟨b, off, none⟩ = some (.int .i64 z0) := by have := hcs 0 hmp; rw [← hz0] at this; exact this
  have hcl : w.cell? ⟨b, off + (m - 1), none⟩ = some (.int .i64 zl) := by have := hcs (m - 1) (by omega); rw [← hzl] at this; exact this
  have b0 : 1 ≤ z0 ∧ z0 ≤ 8 := by rw [hz0]; exact Hz.out _ (getD_mem_int (by have := Hl.out; omega))
  have bl : 1 ≤ zl ∧ zl ≤ 8 := by rw [hzl]; exact Hz.out _ (getD_mem_int (by have := Hl.out; omega))
  obtain ⟨b01, b02⟩ := b0
  obtain ⟨bl1, bl2⟩ := bl
  have Hz0 := Lib.hid hz0
  have Hzl : Hid (zl = zs.getD (zs.length - 1) 0) := by unfold Hid; rw [Hl.out]; exact hzl
  have Hcs := Lib.hid hcs
  have i0 : (0 : Int) ≤ (m : Int) - 1 := by omega
  have i1 : (0 : Int) < (m : Int) := by omega
  clear hz0 hzl hcs
  by_cases hev : z0 % 2 = 0
  · have h4 : (z0 % 2 == 0) = true := by simp [hev]
    have E : Hid (cb (ArePl n zs) = false) := cb_false fun h => h.2.2.1 (by rw [← Hz0.out]; exact hev)
    clear hev
    go_enter Try.func91, Try.ntmps91
    go_wp2
    go_ret
    exact ⟨ret_b E.out, 0, rfl⟩
  have h4 : (z0 % 2 == 0) = false := by simp [hev]
  have Hev := Lib.hid hev
  clear hev
  by_cases hpar : zl % 2 = n % 2
  · have h5 : (zl % 2 != n % 2) = false := by simp [hpar]
    have Hpar := Lib.hid hpar
    clear hpar
    by_cases hgt : n < zl
    · have E : Hid (cb (ArePl n zs) = false) := cb_false fun h => by have := h.2.2.2.2.1; rw [← Hzl.out] at this; omega
      go_enter Try.func91, Try.ntmps91
      go_wp2
      go_ret
      exact ⟨ret_b E.out, 0, rfl⟩
    have hle : zl ≤ n := by omega
    clear hgt
    go_enter Try.func91, Try.ntmps91
    go_wp2
    go_loopw [5] (fun i wr => ∃ j d : Nat, j + 1 ≤ m ∧ i = .int .i64 ((j : Int) + 1) ∧ Hid (∀ i, i + 1 < j + 1 → zs.getD i 0 < zs.getD (i + 1) 0 ∧ ¬ (zs.getD (i + 1) 0 - zs.getD i 0) % 2 = 0) ∧ wr = w.drewN d) (fun i _ => m - (intOf i).toNat)
    case atStart => exact ⟨0, 0, by omega, rfl, fun i hi => by omega, rfl⟩
    case round =>
      obtain ⟨j, d, hj, rfl, HJ, rfl⟩ := hrel
      by_cases hlt : j + 1 < m
      · obtain ⟨za, hza⟩ : ∃ z, z = zs.getD (j + 1) 0 := ⟨_, rfl⟩
        obtain ⟨zb, hzb⟩ : ∃ z, z = zs.getD j 0 := ⟨_, rfl⟩
        have hca : w.cell? ⟨b, off + (j + 1), none⟩ = some (.int .i64 za) := by have := Hcs.out (j + 1) hlt; rw [← hza] at this; exact this
        have hcb : w.cell? ⟨b, off + j, none⟩ = some (.int .i64 zb) := by have := Hcs.out j (by omega); rw [← hzb] at this; exact this
        have ba : 1 ≤ za ∧ za ≤ 8 := by rw [hza]; exact Hz.out _ (getD_mem_int (by have := Hl.out; omega))
        have bb : 1 ≤ zb ∧ zb ≤ 8 := by rw [hzb]; exact Hz.out _ (getD_mem_int (by have := Hl.out; omega))
        obtain ⟨ba1, ba2⟩ := ba
        obtain ⟨bb1, bb2⟩ := bb
        have Hza := Lib.hid hza
        have Hzb := Lib.hid hzb
        clear hza hzb
        have k0 : (0 : Int) ≤ (j : Int) := by omega
        have k1 : (0 : Int) ≤ (j : Int) + 1 := by omega
        have k2 : (j : Int) + 1 < (m : Int) := by omega
        have k3 : (j : Int) < (m : Int) := by omega
        have kw : IntKind.i64.wrap (j : Int) = (j : Int) := by rw [IntKind.wrap_i64]; omega
        have kt : ((j : Int) + 1).toNat = j + 1 := by omega
        by_cases hle2 : za ≤ zb
        · have E : Hid (cb (ArePl n zs) = false) := cb_false fun h => by
            have := (h.2.2.2.2.2 j (by have := Hl.out; omega)).1
            rw [← Hza.out, ← Hzb.out] at this; omega
          have hdd : decide (za ≤ zb) = true := by simp [hle2]
          go_wp2
          go_quiet (fail)
          go_wp2
          go_ret
          exact ⟨ret_b E.out, _, World.drewN_drewN _ _ _⟩
        · have hdd : decide (za ≤ zb) = false := by simp; omega
          have hlt2 : zb < za := by omega
          clear hle2
          have kd : IntKind.i64.wrap (za - zb) = za - zb := by rw [IntKind.wrap_i64]; omega
          obtain ⟨r, hr⟩ : ∃ r, r = (za - zb) % 2 := ⟨_, rfl⟩
          have hrm : (za - zb).tmod 2 = r := by rw [hr]; exact Int.tmod_eq_emod_of_nonneg (by omega)
          have hrm2 : (za - zb) % 2 = r := hr.symm
          have hr2 : r = 0 ∨ r = 1 := by omega
          have Hrr := Lib.hid hr
          clear hr
          rcases hr2 with rfl | rfl
          · have E : Hid (cb (ArePl n zs) = false) := cb_false fun h => by
              have := (h.2.2.2.2.2 j (by have := Hl.out; omega)).2
              rw [← Hza.out, ← Hzb.out] at this; exact this Hrr.out.symm
            have kr : IntKind.i64.wrap 0 = 0 := by rw [IntKind.wrap_i64]; omega
            go_wp2
            go_quiet (fail)
            go_wp2
            go_ret
            exact ⟨ret_b E.out, _, World.drewN_drewN _ _ _⟩
          · have HJ1 : Hid (∀ i, i + 1 < j + 1 + 1 → zs.getD i 0 < zs.getD (i + 1) 0 ∧ ¬ (zs.getD (i + 1) 0 - zs.getD i 0) % 2 = 0) := by
              intro i hi
              by_cases e : i = j
              · subst e
                rw [← Hza.out, ← Hzb.out]
                have := Hrr.out
                omega
              · exact HJ.out i (by omega)
            have kr : IntKind.i64.wrap 1 = 1 := by rw [IntKind.wrap_i64]; omega
            go_wp2
            go_quiet (fail)
            go_wp2
            go_roundw
            case rel => exact ⟨j + 1, _, by omega, by go_num, HJ1.out, rfl⟩
            case measure => simp [intOf]; omega
      · have E : Hid (cb (ArePl n zs) = true) := by
          have hl := Hl.out
          refine cb_true ⟨by omega, by have := Hmn.out; omega, by rw [← Hz0.out]; exact Hev.out, by rw [← Hzl.out]; exact Hpar.out, by rw [← Hzl.out]; exact hle, fun i hi => HJ.out i (by omega)⟩
        go_wp2
        go_ret
        exact ⟨ret_b E.out, _, rfl⟩
  · have h5 : (zl % 2 != n % 2) = true := by simp [hpar]
    have E : Hid (cb (ArePl n zs) = false) := cb_false fun h => hpar (by rw [Hzl.out]; exact h.2.2.2.1)
    clear hpar
    go_enter Try.func91, Try.ntmps91
    go_wp2
    go_ret
    exact ⟨ret_b E.out, 0, rfl⟩
theorem digs_bd {l : List UInt8} (h : allDig l) : ∀ z ∈ digsI l, 1 ≤ z ∧ z ≤ 8 := by
  intro z hz
  obtain ⟨c, hc, rfl⟩ := List.mem_map.1 hz
  obtain ⟨i, hi, rfl⟩ := List.getElem_of_mem hc
  have := h i hi
  unfold ch at this
  simp [List.getElem?_eq_getElem hi] at this
  omega
set_option maxRecDepth 100000 in
set_option maxHeartbeats 1000000 in
theorem GoodChange_any (n : Int) (s : ByteArray) (w : World) (hm : s.size ≤ 2097152) : Calls Try.prog 78 #[.int .i64 n, .string s] w fun e w' => e = .returned (.bool (chB n s)) ∧ Below w.heap.size w w' := by
  by_cases hst : 3 ≤ n ∧ n ≤ 8
  · obtain ⟨h3, h8⟩ := hst
    have hin : inB n 3 8 = true := inB_true h3 h8
    by_cases hdash : s.toList = [45]
    · have hd1 : (s.toList == [45]) = true := by rw [hdash]; rfl
      have E := Lib.hid (chB_dash (n := n) h3 h8 (eq_dash hdash))
      clear hdash
      go_enter Try.func78, Try.ntmps78
      go_wp2_with (go_at_call 63; refine (isStage_any _ _).mono ?_; rintro e w' ⟨rfl, rfl⟩)
      go_ret
      exact ⟨ret_b E.out, Below.refl _ _⟩
    · have hd1 : (s.toList == [45]) = false := by simp [hdash]
      have hnd : bs s ≠ [45] := fun e => hdash (by rw [ByteArray.toList_eq]; exact e)
      have HC := Lib.hid (chB_places h3 h8 hnd)
      clear hdash hnd
      have Hiff := Lib.hid (arePl_iff n.toNat (bs s) (by omega) (by omega))
      have hnn : ((n.toNat : Nat) : Int) = n := by omega
      have Hnn := Lib.hid hnn
      clear hnn
      by_cases hd : allDig (bs s)
      · have Hb := Lib.hid (digs_bd hd)
        have E : Hid (chB n s = cb (ArePl n (digsI (bs s)))) := by
          unfold Hid; rw [HC.out]
          have := Hiff.out
          rw [Hnn.out] at this
          exact cb_congr ⟨fun h => (this.2 h).2, fun h => this.1 ⟨hd, h⟩⟩
        have hP : ∀ W, Calls Try.prog 90 #[.string s] W (PlRet s W) := fun W => places_yes s W hm hd
        have HP := Lib.hid hP
        clear hd hP
        go_enter Try.func78, Try.ntmps78
        go_wp2_with (first | (go_at_call 63; refine (isStage_any _ _).mono ?_; rintro e w' ⟨rfl, rfl⟩) | (go_at_call 90; refine (HP.out _).mono ?_; rintro e w1 ⟨A, m, c, rfl, ho, hb1⟩) | (go_at_call 91; refine (arePlaces_any _ _ _ _ _ _ h3 h8 ho.rd Hb.out).mono ?_; rintro e w2 ⟨rfl, d, rfl⟩))
        go_ret
        exact ⟨ret_b E.out, below_drewN' hb1 _⟩
      · have E : Hid (chB n s = false) := by
          unfold Hid; rw [HC.out]
          exact cb_false fun h => hd (Hiff.out.2 h).1
        have hP : ∀ W, Calls Try.prog 90 #[.string s] W fun e w' => e = .returned (.tuple #[.slice none 0 0, .bool false]) ∧ Below W.heap.size W w' := fun W => places_no s W hm hd
        have HP := Lib.hid hP
        clear hd hP
        go_enter Try.func78, Try.ntmps78
        go_wp2_with (first | (go_at_call 63; refine (isStage_any _ _).mono ?_; rintro e w' ⟨rfl, rfl⟩) | (go_at_call 90; refine (HP.out _).mono ?_; rintro e w1 ⟨rfl, hb1⟩))
        go_ret
        exact ⟨ret_b E.out, hb1⟩
  · have hin : inB n 3 8 = false := inB_false (by omega)
    have E := Lib.hid (chB_not (n := n) (s := s) (by omega))
    clear hst
    go_enter Try.func78, Try.ntmps78
    go_wp2_with (go_at_call 63; refine (isStage_any _ _).mono ?_; rintro e w' ⟨rfl, rfl⟩)
    go_ret
    exact ⟨ret_b E.out, Below.refl _ _⟩
end Go.Proofs.Ytgpjbmlemnjhfaa
