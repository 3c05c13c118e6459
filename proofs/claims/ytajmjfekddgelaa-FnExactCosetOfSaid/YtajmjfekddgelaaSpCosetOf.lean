/- CosetOf, of the reference and of the program: what each returns. -/
import Derived.Test.YtajmjfekddgelaaWalkGr
import Derived.Test.YtajmjfekddgelaaWalkGs
import Derived.BigQuiet
namespace Go.Proofs.Ytajmjfekddgelaa
open Go.RowKit Go.Maps
set_option linter.unusedVariables false

theorem ret_bb3 {a b x y : Bool} (h : a = x) (h2 : b = y) : Ending.returned (.tuple #[.bool x, .bool y]) = .returned (.tuple #[.bool a, .bool b]) := by rw [h, h2]
/-- an increasing list of rows that is a group, and a row of its stage -/
noncomputable def ok_CO (gs : List ByteArray) (r : ByteArray) : Bool := incB gs && rowsB gs && grpB gs && rowB r && decide ((r.size : Int) = ((headS gs).size : Int))
noncomputable def out_CosetOf (gs : List ByteArray) (r : ByteArray) : List ByteArray := if ok_CO gs r = true then srt (gs.map (timS r)) else []
theorem len_CosetOf (gs : List ByteArray) (r : ByteArray) (hn : gs.length ≤ 1048576) : (out_CosetOf gs r).length ≤ 4194304 := by
  unfold out_CosetOf
  split
  · rw [srt_len, List.length_map]; omega
  · simp
theorem ok_CO_im (gs : List ByteArray) (r : ByteArray) : ok_CO gs r = (rowB r && rowsOfB (r.size : Int) gs && (incB gs && grpB gs)) := by
  unfold ok_CO rowsOfB
  cases h : grpB gs with
  | false => simp
  | true =>
    have h1 := (grpB_true.1 h).1
    have h2 : decide (gs.length = 0) = false := decide_eq_false (by omega)
    have h3 : decide ((r.size : Int) = ((headS gs).size : Int)) = decide (((headS gs).size : Int) = (r.size : Int)) := decide_eq_decide.2 ⟨fun e => e.symm, fun e => e.symm⟩
    rw [h2, h3]
    cases incB gs <;> cases rowsB gs <;> cases rowB r <;> simp
theorem ok_CO_each {gs : List ByteArray} {r : ByteArray} (h : ok_CO gs r = true) : IsRow (bs r) ∧ gs.length ≤ 800 ∧ ∀ s ∈ gs, IsRow (bs s) ∧ s.size = r.size := by
  unfold ok_CO at h
  simp only [Bool.and_eq_true, decide_eq_true_eq] at h
  obtain ⟨⟨⟨⟨h1, h2⟩, h3⟩, h4⟩, h5⟩ := h
  have h6 : RowsOK gs := by simpa [rowsB] using h2
  refine ⟨by simpa [rowB] using h4, h6.1, fun s hs => ?_⟩
  have := h6.2 s hs
  exact ⟨this.1, by omega⟩
set_option maxRecDepth 100000 in
set_option maxHeartbeats 2000000 in
theorem im_CosetOf (A : Option Addr) (n c : Nat) (ss : List ByteArray) (a : ByteArray) (W : World) (hr : Rd W A n (strsV ss)) (hz : ∀ s ∈ ss, s.size ≤ 1048576) (hl : ss.length ≤ 1048576) (hs : a.size ≤ 1048576) :
    Calls Try.prog 19 #[.slice A n c, .string a] W (RetSB 9 (strsV (out_CosetOf ss a)) (ok_CO ss a) W) := by
  have hzm : ∀ s ∈ ss, s.size ≤ maxLen := fun s hs => by have := hz s hs; unfold maxLen; omega
  have HA : Hid (∀ W', Calls Try.prog 41 #[.string a] W' fun e w' => e = .returned (.bool (rowB a)) ∧ W' = w') := fun W' => GoodRow_any a W' (by unfold maxLen; omega)
  have HB : Hid (∀ W', Rd W' A n (strsV ss) → Calls Try.prog 42 #[.int .i64 (a.size : Int), .slice A n c] W' fun e w' => e = .returned (.bool (rowsOfB (a.size : Int) ss)) ∧ W' = w') := fun W' h => areRowsOf_any (a.size : Int) A n c ss W' h hzm
  have HG : Hid (rowsOfB (a.size : Int) ss = true → ∀ W', Rd W' A n (strsV ss) → Calls Try.prog 43 #[.slice A n c] W' fun e w' => e = .returned (.bool (incB ss && grpB ss)) ∧ Below W'.heap.size W' w') := fun h1 W' h => isGroup_any A n c ss W' h (by unfold rowsOfB at h1; rw [Bool.and_eq_true] at h1; exact h1.1)
  have HL : Hid (ok_CO ss a = true → ∀ W', Rd W' A n (strsV ss) → Calls Try.prog 44 #[.string a, .slice A n c] W' (RetS 9 (strsV (ss.map (timS a))) W')) := fun h1 W' h => by
    have h2 := ok_CO_each h1
    exact leftTimes_any a A n c ss W' (by have := hr.slen; omega) h h2.1 h2.2.2
  have HS : Hid (∀ A n c W', Rd W' A n (strsV (ss.map (timS a))) → Calls Try.prog 29 #[.slice A n c] W' (RetS 9 (strsV (srt (ss.map (timS a)))) W')) := fun A n c W' h => sorted_any A n c _ W' (by have := h.slen; rw [List.length_map] at this; omega) h
  have Hr := Lib.hid hr
  have HOK := Lib.hid (ok_CO_im ss a)
  have EN : Hid (ok_CO ss a = false → out_CosetOf ss a = []) := fun h => by unfold out_CosetOf; rw [h]; simp
  have EY : Hid (ok_CO ss a = true → out_CosetOf ss a = srt (ss.map (timS a))) := fun h => by unfold out_CosetOf; rw [if_pos h]
  obtain ⟨ra, hra⟩ : ∃ r, r = rowB a := ⟨_, rfl⟩
  obtain ⟨rb, hrb⟩ : ∃ r, r = rowsOfB (a.size : Int) ss := ⟨_, rfl⟩
  obtain ⟨rc, hrc⟩ : ∃ r, r = (incB ss && grpB ss) := ⟨_, rfl⟩
  obtain ⟨tl, htl⟩ : ∃ r, r = ss.map (timS a) := ⟨_, rfl⟩
  obtain ⟨sl, hsl⟩ : ∃ r, r = srt (ss.map (timS a)) := ⟨_, rfl⟩
  rw [← hsl] at HS EY
  rw [← htl] at HL HS
  rw [← hra] at HA HOK
  rw [← hrb] at HB HG HOK
  rw [← hrc] at HG HOK
  clear hra hrb hrc htl hsl hr hz hzm hl
  cases ra with
  | false =>
    have HT : Hid (ok_CO ss a = false) := by unfold Hid; rw [HOK.out]; rfl
    go_enter Try.func19, Try.ntmps19
    go_wp2_with (go_at_call 41; refine (HA.out _).mono ?_; rintro e w1 ⟨rfl, rfl⟩)
    go_ret2
    refine ⟨none, 0, 0, ret_slb HT.out, ?_, Below.refl _ _⟩
    rw [EN.out HT.out]; exact Own.nil _ _ _ _
  | true =>
    cases rb with
    | false =>
      have HT : Hid (ok_CO ss a = false) := by unfold Hid; rw [HOK.out]; rfl
      go_enter Try.func19, Try.ntmps19
      go_wp2_with first
        | (go_at_call 41; refine (HA.out _).mono ?_; rintro e w1 ⟨rfl, rfl⟩)
        | (go_at_call 42; refine (HB.out _ Hr.out).mono ?_; rintro e w2 ⟨rfl, rfl⟩)
      go_ret2
      refine ⟨none, 0, 0, ret_slb HT.out, ?_, Below.refl _ _⟩
      rw [EN.out HT.out]; exact Own.nil _ _ _ _
    | true =>
      cases rc with
      | false =>
        have HT : Hid (ok_CO ss a = false) := by unfold Hid; rw [HOK.out]; rfl
        go_enter Try.func19, Try.ntmps19
        go_wp2_with first
          | (go_at_call 41; refine (HA.out _).mono ?_; rintro e w1 ⟨rfl, rfl⟩)
          | (go_at_call 42; refine (HB.out _ Hr.out).mono ?_; rintro e w2 ⟨rfl, rfl⟩)
          | (go_at_call 43; refine (HG.out (by trivial) _ Hr.out).mono ?_; rintro e w3 ⟨rfl, hb3⟩)
        go_ret2
        refine ⟨none, 0, 0, ret_slb HT.out, ?_, hb3⟩
        rw [EN.out HT.out]; exact Own.nil _ _ _ _
      | true =>
        have HT : Hid (ok_CO ss a = true) := by unfold Hid; rw [HOK.out]; rfl
        go_enter Try.func19, Try.ntmps19
        go_wp2_with first
          | (go_at_call 41; refine (HA.out _).mono ?_; rintro e w1 ⟨rfl, rfl⟩)
          | (go_at_call 42; refine (HB.out _ Hr.out).mono ?_; rintro e w2 ⟨rfl, rfl⟩)
          | (go_at_call 43; refine (HG.out (by trivial) _ Hr.out).mono ?_; rintro e w3 ⟨rfl, hb3⟩)
          | (go_at_call 44; refine (HL.out HT.out _ (Hr.out.below hb3)).mono ?_; rintro e w4 ⟨A4, n4, c4, rfl, ho4, hb4⟩)
          | (go_at_call 29; refine (HS.out A4 n4 c4 _ ho4.rd).mono ?_; rintro e w5 ⟨A5, n5, c5, rfl, ho5, hb5⟩)
        go_ret2
        have hb34 := hb3.trans (hb4.mono hb3.size)
        refine ⟨A5, n5, c5, ret_slb HT.out, ?_, hb34.trans (hb5.mono hb34.size)⟩
        rw [EY.out HT.out]; exact ho5.mono hb34.size (Nat.le_refl _)
set_option maxRecDepth 100000 in
set_option maxHeartbeats 2000000 in
theorem sp_CosetOf (A : Option Addr) (n c : Nat) (ss : List ByteArray) (a : ByteArray) (W : World) (hr : Rd W A n (strsV ss)) (hz : ∀ s ∈ ss, s.size ≤ 1048576) (hl : ss.length ≤ 1048576) (hs : a.size ≤ 1048576) :
    Calls Try.prog 18 #[.slice A n c, .string a] W (RetSB 9 (strsV (out_CosetOf ss a)) (ok_CO ss a) W) := by
  have hzm : ∀ s ∈ ss, s.size ≤ maxLen := fun s hs => by have := hz s hs; unfold maxLen; omega
  have HA := Lib.hid (l6Rising_any A n c ss W hr hzm)
  have HG : Hid ((incB ss && rowsB ss) = true → ∀ W', Rd W' A n (strsV ss) → Calls Try.prog 38 #[.slice A n c] W' fun e w' => e = .returned (.bool (grpB ss)) ∧ Below W'.heap.size W' w') := fun h1 W' h => l6Group_any A n c ss W' h (by rw [Bool.and_eq_true] at h1; exact h1.2)
  have HR : Hid (∀ W', Calls Try.prog 39 #[.string a] W' fun e w' => e = .returned (.bool (rowB a)) ∧ ∃ d, w' = W'.drewN d) := fun W' => l1Row_any a W' (by unfold maxLen; omega)
  have HL : Hid (ok_CO ss a = true → ∀ W', Rd W' A n (strsV ss) → Calls Try.prog 40 #[.string a, .slice A n c] W' (RetS 9 (strsV (ss.map (timS a))) W')) := fun h1 W' h => by
    have h2 := ok_CO_each h1
    exact l6Left_any a A n c ss W' (by have := hr.slen; omega) h h2.1 h2.2.2
  have HS : Hid (∀ A n c W', Rd W' A n (strsV (ss.map (timS a))) → Calls Try.prog 27 #[.slice A n c] W' (RetS 9 (strsV (srt (ss.map (timS a)))) W')) := fun A n c W' h => l6Sort_any n A n c _ W' (Nat.le_refl _) (by have := h.slen; rw [List.length_map] at this; omega) h
  have Hr := Lib.hid hr
  have EN : Hid (ok_CO ss a = false → out_CosetOf ss a = []) := fun h => by unfold out_CosetOf; rw [h]; simp
  have EY : Hid (ok_CO ss a = true → out_CosetOf ss a = srt (ss.map (timS a))) := fun h => by unfold out_CosetOf; rw [if_pos h]
  have HX : Hid (grpB ss = true → 0 < n ∧ ∃ b off, A = some ⟨b, off, none⟩ ∧ ∀ w, Below W.heap.size W w → w.cell? ⟨b, off, none⟩ = some (.string (headS ss))) := fun h => by
    have h0 : 0 < n := by have := (grpB_true.1 h).1; have := hr.slen; omega
    obtain ⟨b, off, rfl, hb, _⟩ := hr.strD (k := 0) h0
    refine ⟨h0, b, off, rfl, fun w hw => ?_⟩
    obtain ⟨b', off', e, _, hc⟩ := (hr.below hw).strD (k := 0) h0
    injection e with e; injection e with e1 e2; subst e1 e2
    have hc0 := hc 0 h0
    have e2 : getS ss 0 = headS ss := by cases ss <;> rfl
    rw [e2] at hc0; exact hc0
  have HOK : Hid (ok_CO ss a = ((incB ss && rowsB ss) && grpB ss && rowB a && decide ((a.size : Int) = ((headS ss).size : Int)))) := rfl
  have hn8 : n ≤ 1048576 := by have := hr.slen; omega
  obtain ⟨ra, hra⟩ : ∃ r, r = (incB ss && rowsB ss) := ⟨_, rfl⟩
  obtain ⟨rb, hrb⟩ : ∃ r, r = grpB ss := ⟨_, rfl⟩
  obtain ⟨rc, hrc⟩ : ∃ r, r = rowB a := ⟨_, rfl⟩
  obtain ⟨tl, htl⟩ : ∃ r, r = ss.map (timS a) := ⟨_, rfl⟩
  obtain ⟨sl, hsl⟩ : ∃ r, r = srt (ss.map (timS a)) := ⟨_, rfl⟩
  obtain ⟨x, hx⟩ : ∃ r, r = headS ss := ⟨_, rfl⟩
  rw [← hsl] at HS EY
  rw [← htl] at HL HS
  rw [← hra] at HA HG HOK
  rw [← hrb] at HG HOK HX
  rw [← hrc] at HR HOK
  rw [← hx] at HX HOK
  clear hra hrb hrc htl hsl hx hr hz hzm hl
  cases ra with
  | false =>
    have HT : Hid (ok_CO ss a = false) := by unfold Hid; rw [HOK.out]; rfl
    go_enter Try.func18, Try.ntmps18
    go_wp2_with (go_at_call 37; refine HA.out.mono ?_; rintro e w1 ⟨rfl, d1, rfl⟩)
    go_ret2
    refine ⟨none, 0, 0, ret_slb HT.out, ?_, below_drewN' (Below.refl _ _) _⟩
    rw [EN.out HT.out]; exact Own.nil _ _ _ _
  | true =>
    cases rb with
    | false =>
      have HT : Hid (ok_CO ss a = false) := by unfold Hid; rw [HOK.out]; rfl
      go_enter Try.func18, Try.ntmps18
      go_wp2_with first
        | (go_at_call 37; refine HA.out.mono ?_; rintro e w1 ⟨rfl, d1, rfl⟩)
        | (go_at_call 38; refine (HG.out (by trivial) _ (Hr.out.drewN _)).mono ?_; rintro e w2 ⟨rfl, hb2⟩)
      go_ret2
      refine ⟨none, 0, 0, ret_slb HT.out, ?_, (below_drewN' (Below.refl _ _) d1 : Below W.heap.size W _).trans hb2⟩
      rw [EN.out HT.out]; exact Own.nil _ _ _ _
    | true =>
      obtain ⟨hn0, b, off, rfl, hcx⟩ := HX.out (by trivial)
      have i1 : (0 : Int) < (n : Int) := by omega
      cases rc with
      | false =>
        have HT : Hid (ok_CO ss a = false) := by unfold Hid; rw [HOK.out]; rfl
        clear hcx
        go_enter Try.func18, Try.ntmps18
        go_wp2_with first
          | (go_at_call 37; refine HA.out.mono ?_; rintro e w1 ⟨rfl, d1, rfl⟩)
          | (go_at_call 38; refine (HG.out (by trivial) _ (Hr.out.drewN _)).mono ?_; rintro e w2 ⟨rfl, hb2⟩)
          | (go_at_call 39; refine (HR.out _).mono ?_; rintro e w3 ⟨rfl, d3, rfl⟩)
        go_ret2
        refine ⟨none, 0, 0, ret_slb HT.out, ?_, below_drewN' ((below_drewN' (Below.refl _ _) d1 : Below W.heap.size W _).trans hb2) _⟩
        rw [EN.out HT.out]; exact Own.nil _ _ _ _
      | true =>
        have HCX := Lib.hid hcx
        clear hcx
        by_cases hq : (a.size : Int) = (x.size : Int)
        · have HT : Hid (ok_CO ss a = true) := by unfold Hid; rw [HOK.out, decide_eq_true hq]; rfl
          have hne : ((a.size : Int) != (x.size : Int)) = false := by simp; omega
          clear hq
          go_enter Try.func18, Try.ntmps18
          go_wp2_with first
            | (go_at_call 37; refine HA.out.mono ?_; rintro e w1 ⟨rfl, d1, rfl⟩)
            | (go_at_call 38; refine (HG.out (by trivial) _ (Hr.out.drewN _)).mono ?_; rintro e w2 ⟨rfl, hb2⟩; have hB2 := (below_drewN' (Below.refl _ _) d1 : Below W.heap.size W _).trans hb2; have hcx := HCX.out _ hB2)
            | (go_at_call 39; refine (HR.out _).mono ?_; rintro e w3 ⟨rfl, d3, rfl⟩)
            | (go_at_call 40; refine (HL.out HT.out _ ((Hr.out.below hB2).drewN _)).mono ?_; rintro e w4 ⟨A4, n4, c4, rfl, ho4, hb4⟩)
            | (go_at_call 27; refine (HS.out A4 n4 c4 _ ho4.rd).mono ?_; rintro e w5 ⟨A5, n5, c5, rfl, ho5, hb5⟩)
          go_ret2
          have hb3 := below_drewN' hB2 d3
          have hb34 := hb3.trans (hb4.mono hb3.size)
          refine ⟨A5, n5, c5, ret_slb HT.out, ?_, hb34.trans (hb5.mono hb34.size)⟩
          rw [EY.out HT.out]; exact ho5.mono hb34.size (Nat.le_refl _)
        · have HT : Hid (ok_CO ss a = false) := by unfold Hid; rw [HOK.out, decide_eq_false hq]; rfl
          have hne : ((a.size : Int) != (x.size : Int)) = true := by simp; omega
          clear hq
          go_enter Try.func18, Try.ntmps18
          go_wp2_with first
            | (go_at_call 37; refine HA.out.mono ?_; rintro e w1 ⟨rfl, d1, rfl⟩)
            | (go_at_call 38; refine (HG.out (by trivial) _ (Hr.out.drewN _)).mono ?_; rintro e w2 ⟨rfl, hb2⟩; have hB2 := (below_drewN' (Below.refl _ _) d1 : Below W.heap.size W _).trans hb2; have hcx := HCX.out _ hB2)
            | (go_at_call 39; refine (HR.out _).mono ?_; rintro e w3 ⟨rfl, d3, rfl⟩)
          go_ret2
          refine ⟨none, 0, 0, ret_slb HT.out, ?_, below_drewN' hB2 _⟩
          rw [EN.out HT.out]; exact Own.nil _ _ _ _
end Go.Proofs.Ytajmjfekddgelaa
