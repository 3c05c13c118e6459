/- CosetsIn, of the reference and of the program: what each returns. -/
import Derived.Test.YtajmjfekddgelaaWalkCi
import Derived.Deep.RegionHeld3
import Derived.BigQuiet
namespace Go.Proofs.Ytajmjfekddgelaa
open Go.RowKit Go.Maps
set_option linter.unusedVariables false

/-- an increasing list of rows that is a group, and rows of its stage -/
noncomputable def ok_CI (gs ss : List ByteArray) : Bool := rowsB gs && (incB gs && grpB gs) && rowsOfB ((headS gs).size : Int) ss
noncomputable def out_CosetsIn (gs ss : List ByteArray) : List ByteArray := if ok_CI gs ss = true then cmS (srt (lsI gs ss)) else []
theorem len_CosetsIn (gs ss : List ByteArray) (hn : gs.length ≤ 1048576) (hm : ss.length ≤ 1048576) : (out_CosetsIn gs ss).length ≤ 4194304 := by
  unfold out_CosetsIn
  split
  · have := cmT_len (srt (lsI gs ss)) (srt (lsI gs ss)).length
    rw [srt_len, lsI_len] at this
    unfold cmS
    rw [srt_len, lsI_len]; omega
  · simp
theorem ok_CI_each {gs ss : List ByteArray} (h : ok_CI gs ss = true) : 0 < gs.length ∧ gs.length ≤ 800 ∧ ss.length ≤ 800 ∧ ∀ r ∈ ss, IsRow (bs r) ∧ ∀ s ∈ gs, IsRow (bs s) ∧ s.size = r.size := by
  unfold ok_CI at h
  simp only [Bool.and_eq_true] at h
  obtain ⟨⟨h1, _, h2⟩, h3⟩ := h
  have hg := grpB_true.1 h2
  have h6 : RowsOK gs := by simpa [rowsB] using h1
  have h7 := rowsOf_each h3
  have h8 : rowsB ss = true := by unfold rowsOfB at h3; rw [Bool.and_eq_true] at h3; exact h3.1
  refine ⟨hg.1, h6.1, rowsB_len h8, fun r hr => ⟨(h7 r hr).1, fun s hs => ?_⟩⟩
  have := h6.2 s hs
  exact ⟨this.1, by rw [this.2, (h7 r hr).2]⟩
theorem ok_CI_sp (gs ss : List ByteArray) : ok_CI gs ss = ((incB gs && rowsB gs) && grpB gs && rowsB ss && (decide (ss.length = 0) || decide (((headS ss).size : Int) = ((headS gs).size : Int)))) := by
  unfold ok_CI rowsOfB
  cases incB gs <;> cases rowsB gs <;> cases grpB gs <;> cases rowsB ss <;> simp
set_option maxRecDepth 100000 in
set_option maxHeartbeats 4000000 in
theorem im_CosetsIn (A : Option Addr) (n c : Nat) (gs : List ByteArray) (B : Option Addr) (m d : Nat) (ss : List ByteArray) (W : World) (hr : Rd W A n (strsV gs)) (hz : ∀ s ∈ gs, s.size ≤ 1048576) (hl : gs.length ≤ 1048576) (hr2 : Rd W B m (strsV ss)) (hz2 : ∀ s ∈ ss, s.size ≤ 1048576) (hl2 : ss.length ≤ 1048576) :
    Calls Try.prog 21 #[.slice A n c, .slice B m d] W (RetSB 9 (strsV (out_CosetsIn gs ss)) (ok_CI gs ss) W) := by
  have hzm : ∀ s ∈ gs, s.size ≤ maxLen := fun s hs => by have := hz s hs; unfold maxLen; omega
  have hzm2 : ∀ s ∈ ss, s.size ≤ maxLen := fun s hs => by have := hz2 s hs; unfold maxLen; omega
  have hn8 : n ≤ 1048576 := by have := hr.slen; omega
  have hm8 : m ≤ 1048576 := by have := hr2.slen; omega
  have HX : Hid (grpB gs = true → 0 < n ∧ ∃ b off, A = some ⟨b, off, none⟩ ∧ ∀ w, Below W.heap.size W w → w.cell? ⟨b, off, none⟩ = some (.string (headS gs))) := fun h => by
    have h0 : 0 < n := by have := (grpB_true.1 h).1; have := hr.slen; omega
    obtain ⟨b, off, rfl, hb, _⟩ := hr.strD (k := 0) h0
    refine ⟨h0, b, off, rfl, fun w hw => ?_⟩
    obtain ⟨b', off', e, _, hc⟩ := (hr.below hw).strD (k := 0) h0
    injection e with e; injection e with e1 e2; subst e1 e2
    have hc0 := hc 0 h0
    have e2 : getS gs 0 = headS gs := by cases gs <;> rfl
    rw [e2] at hc0; exact hc0
  have HEach : Hid (ok_CI gs ss = true → 0 < n ∧ m ≤ 800 ∧ (∀ k, k < m → IsRow (bs (getS ss k)) ∧ ∀ s ∈ gs, IsRow (bs s) ∧ s.size = (getS ss k).size)) := fun h => by
    have h2 := ok_CI_each h
    have l1 := hr.slen
    have l2 := hr2.slen
    exact ⟨by omega, by omega, fun k hk => h2.2.2.2 _ (getS_mem (by omega))⟩
  have EN : Hid (ok_CI gs ss = false → out_CosetsIn gs ss = []) := fun h => by unfold out_CosetsIn; rw [h]; simp
  have EY : Hid (ok_CI gs ss = true → out_CosetsIn gs ss = cmS (srt (lsI gs ss))) := fun h => by unfold out_CosetsIn; rw [if_pos h]
  have Hr := Lib.hid hr
  have Hr2 := Lib.hid hr2
  have Hl2 := Lib.hid hr2.slen
  have Hl1 := Lib.hid hr.slen
  have HA : Hid (∀ W', Rd W' A n (strsV gs) → Calls Try.prog 28 #[.slice A n c] W' fun e w' => e = .returned (.bool (rowsB gs)) ∧ W' = w') := fun W' h => GoodRows_any A n c gs W' h hzm
  have HG : Hid (rowsB gs = true → ∀ W', Rd W' A n (strsV gs) → Calls Try.prog 43 #[.slice A n c] W' fun e w' => e = .returned (.bool (incB gs && grpB gs)) ∧ Below W'.heap.size W' w') := fun h1 W' h => isGroup_any A n c gs W' h h1
  have HB : Hid (∀ W', Rd W' B m (strsV ss) → Calls Try.prog 42 #[.int .i64 ((headS gs).size : Int), .slice B m d] W' fun e w' => e = .returned (.bool (rowsOfB ((headS gs).size : Int) ss)) ∧ W' = w') := fun W' h => areRowsOf_any ((headS gs).size : Int) B m d ss W' h hzm2
  have HL : Hid (∀ r W', IsRow (bs r) → (∀ s ∈ gs, IsRow (bs s) ∧ s.size = r.size) → n ≤ 800 → Rd W' A n (strsV gs) → Calls Try.prog 44 #[.string r, .slice A n c] W' (RetS 9 (strsV (gs.map (timS r))) W')) := fun r W' h1 h2 h3 h4 => leftTimes_any r A n c gs W' h3 h4 h1 h2
  have hn800 : ok_CI gs ss = true → n ≤ 800 := fun h => by have := (ok_CI_each h).2.1; have := hr.slen; omega
  have HOK : Hid (ok_CI gs ss = (rowsB gs && (incB gs && grpB gs) && rowsOfB ((headS gs).size : Int) ss)) := rfl
  have HGr : Hid ((incB gs && grpB gs) = true → grpB gs = true) := fun h => by rw [Bool.and_eq_true] at h; exact h.2
  obtain ⟨ra, hra⟩ : ∃ r, r = rowsB gs := ⟨_, rfl⟩
  obtain ⟨rb, hrb⟩ : ∃ r, r = (incB gs && grpB gs) := ⟨_, rfl⟩
  obtain ⟨rc, hrc⟩ : ∃ r, r = rowsOfB ((headS gs).size : Int) ss := ⟨_, rfl⟩
  obtain ⟨x, hx⟩ : ∃ r, r = headS gs := ⟨_, rfl⟩
  rw [← hra] at HA HG HOK
  rw [← hrb] at HG HOK HGr
  rw [← hrc] at HB HOK
  rw [← hx] at HX HB
  clear hra hrb hrc hx hr hz hzm hl hr2 hz2 hzm2 hl2
  cases ra with
  | false =>
    have HT : Hid (ok_CI gs ss = false) := by unfold Hid; rw [HOK.out]; rfl
    go_enter Try.func21, Try.ntmps21
    go_wp2_with (go_at_call 28; refine (HA.out _ Hr.out).mono ?_; rintro e w1 ⟨rfl, rfl⟩)
    go_ret2
    refine ⟨none, 0, 0, ret_slb HT.out, ?_, Below.refl _ _⟩
    rw [EN.out HT.out]; exact Own.nil _ _ _ _
  | true =>
    cases rb with
    | false =>
      have HT : Hid (ok_CI gs ss = false) := by unfold Hid; rw [HOK.out]; rfl
      go_enter Try.func21, Try.ntmps21
      go_wp2_with first
        | (go_at_call 28; refine (HA.out _ Hr.out).mono ?_; rintro e w1 ⟨rfl, rfl⟩)
        | (go_at_call 43; refine (HG.out (by trivial) _ Hr.out).mono ?_; rintro e w3 ⟨rfl, hb3⟩)
      go_ret2
      refine ⟨none, 0, 0, ret_slb HT.out, ?_, hb3⟩
      rw [EN.out HT.out]; exact Own.nil _ _ _ _
    | true =>
      obtain ⟨hn0, b, off, rfl, hcx⟩ := HX.out (HGr.out (by trivial))
      have HCX := Lib.hid hcx
      have i1 : (0 : Int) < (n : Int) := by omega
      clear hcx
      cases rc with
      | false =>
        have HT : Hid (ok_CI gs ss = false) := by unfold Hid; rw [HOK.out]; rfl
        go_enter Try.func21, Try.ntmps21
        go_wp2_with first
          | (go_at_call 28; refine (HA.out _ Hr.out).mono ?_; rintro e w1 ⟨rfl, rfl⟩)
          | (go_at_call 43; refine (HG.out (by trivial) _ Hr.out).mono ?_; rintro e w3 ⟨rfl, hb3⟩; have hcx := HCX.out _ hb3)
          | (go_at_call 42; refine (HB.out _ (Hr2.out.below hb3)).mono ?_; rintro e w4 ⟨rfl, rfl⟩)
        go_ret2
        refine ⟨none, 0, 0, ret_slb HT.out, ?_, hb3⟩
        rw [EN.out HT.out]; exact Own.nil _ _ _ _
      | true =>
        have HT : Hid (ok_CI gs ss = true) := by unfold Hid; rw [HOK.out]; rfl
        have hn800' := hn800 HT.out
        have HE := Lib.hid (HEach.out HT.out)
        have hm800 := HE.out.2.1
        have hglen : Hid (∀ r, (gs.map (timS r)).length = n) := fun r => by rw [List.length_map]; exact Hl1.out
        clear hn800
        go_enter Try.func21, Try.ntmps21
        go_wp2_with first
          | (go_at_call 28; refine (HA.out _ Hr.out).mono ?_; rintro e w1 ⟨rfl, rfl⟩)
          | (go_at_call 43; refine (HG.out (by trivial) _ Hr.out).mono ?_; rintro e w3 ⟨rfl, hb3⟩; have hcx := HCX.out _ hb3)
          | (go_at_call 42; refine (HB.out _ (Hr2.out.below hb3)).mono ?_; rintro e w4 ⟨rfl, rfl⟩)
        go_loopw [6, 29] (fun l i wr => ∃ (k L : Nat) (A3 : Option Addr) (c3 : Nat), i = .int .i64 k ∧ l = .slice A3 L c3 ∧ k ≤ m ∧ L ≤ k ∧ Hid (Own wr 9 W.heap.size wr.heap.size A3 L c3 (strsV (lsI gs (ss.take k)))) ∧ Hid (Below W.heap.size W wr)) (fun _ i _ => m - (intOf i).toNat)
        case atStart => exact ⟨0, 0, _, 0, rfl, rfl, by omega, by omega, (own_empty w3 9).mono hb3.size (Nat.le_refl _), hb3.trans ((below_alloc w3 _).mono hb3.size)⟩
        case round =>
          obtain ⟨k, L, A3, c3, rfl, rfl, hk, hL, HO, HB3⟩ := hrel
          by_cases hlt : k < m
          · obtain ⟨b2, o2, rfl, _, hcs⟩ := (Hr2.out.below HB3.out).strD hlt
            have hc1 := hcs k hlt
            have HEk := Lib.hid (HE.out.2.2 k hlt)
            have HS := Lib.hid (lsI_take gs ss (k := k) (by have := Hl2.out; omega))
            obtain ⟨r, hrr⟩ : ∃ r, r = getS ss k := ⟨_, rfl⟩
            rw [← hrr] at hc1 HEk HS
            have HLr := Lib.hid (HL.out r wr HEk.out.1 HEk.out.2 hn800' (Hr.out.below HB3.out))
            have hgl := hglen.out r
            obtain ⟨tl, htl⟩ : ∃ t, t = gs.map (timS r) := ⟨_, rfl⟩
            rw [← htl] at HS HLr hgl
            obtain ⟨mn, hmn⟩ : ∃ t, t = Lib.minOfS tl := ⟨_, rfl⟩
            rw [← hmn] at HS
            have HMn : Hid (∀ A5 n5 c5 w, 0 < n5 → Rd w A5 n5 (strsV tl) → Calls Try.prog 46 #[.slice A5 n5 c5] w fun e w' => e = .returned (.string mn) ∧ w = w') := fun A5 n5 c5 w h1 h2 => by rw [hmn]; exact min_any A5 n5 c5 tl w h1 h2
            have HGl := Lib.hid hgl
            have i2 : (k : Int) < (m : Int) := by omega
            clear hcs hrr htl hmn hgl
            go_wp2_with first
              | (go_at_call 44; refine HLr.out.mono ?_; rintro e x5 ⟨A5, n5, c5, rfl, ho5, hb5⟩; have hn5 : 0 < n5 := (by have := ho5.rd.slen; have := HGl.out; omega))
              | (go_at_call 46; refine (HMn.out A5 n5 c5 _ hn5 ho5.rd).mono ?_; rintro e w6 ⟨rfl, rfl⟩; have HO5 := (HO.out.below hb5).mono (Nat.le_refl W.heap.size) hb5.size; have HB5 := HB3.out.trans (hb5.mono HB3.out.size))
              | (at_builtin; refine wpList_append1x x5 rfl (.tmp 33) (.tmp 38) 22 rfl 9 (.string ByteArray.empty) 16 Try.underlying22 info_str rfl W.heap.size A3 L c3 _ (.string mn) rfl rfl rfl HO5 (by omega) (by omega) HB5.size ?_; intro A7 c7 x7 ho7 hx7 hsz7 hat7)
            have HO7 : Hid (Own x7 9 W.heap.size x7.heap.size A7 (L + 1) c7 (strsV (lsI gs (ss.take (k + 1))))) := ho7.congr (by rw [HS.out, strsV_app, strsV_one])
            have HB7 : Hid (Below W.heap.size W x7) := HB5.trans (HO5.below_ hx7 HB5.size)
            clear hb5 ho5 HO5 HB5 ho7 hx7 hat7 hsz7
            go_roundw
            case rel => exact ⟨k + 1, L + 1, A7, c7, by go_num, rfl, by omega, by omega, HO7.out, HB7.out⟩
            case measure => (simp [intOf] <;> omega)
          · have HO4 : Own wr 9 W.heap.size wr.heap.size A3 L c3 (strsV (lsI gs ss)) := by
              have h7 := HO.out
              rwa [List.take_of_length_le (by have := Hl2.out; omega)] at h7
            have HSo := Lib.hid (sort_own A3 L c3 W.heap.size wr.heap.size (lsI gs ss) wr HB3.out.size (by omega) HO4)
            obtain ⟨sl, hsl⟩ : ∃ s, s = srt (lsI gs ss) := ⟨_, rfl⟩
            rw [← hsl] at HSo
            have HCo : Hid (∀ w, wr.heap.size ≤ w.heap.size → Own w 9 W.heap.size wr.heap.size A3 L c3 (strsV sl) → Calls Try.prog 47 #[.slice A3 L c3] w fun e w' => e = .returned (.slice A3 (cmS sl).length c3) ∧ Own w' 9 W.heap.size wr.heap.size A3 (cmS sl).length c3 (strsV (cmS sl)) ∧ Below W.heap.size w w') := fun w h1 h2 => compact_own A3 L c3 W.heap.size wr.heap.size sl w (Nat.le_trans HB3.out.size h1) (by omega) h2
            have HOut : Hid (out_CosetsIn gs ss = cmS sl) := by unfold Hid; rw [EY.out HT.out, hsl]
            obtain ⟨cl, hcl⟩ : ∃ s, s = cmS sl := ⟨_, rfl⟩
            rw [← hcl] at HCo HOut
            have HB4 := Lib.hid HB3.out
            clear HO4 hsl hcl
            go_wp2_with first
              | (go_at_call 36; refine HSo.out.mono ?_; rintro e w5 ⟨rfl, ho5, hb5⟩; have hs5 : wr.heap.size ≤ w5.heap.size := hb5.size)
              | (go_at_call 47; refine (HCo.out _ hs5 ho5).mono ?_; rintro e w6 ⟨rfl, ho6, hb6⟩)
            go_ret2
            refine ⟨A3, cl.length, c3, ret_slb HT.out, ?_, (HB4.out.trans hb5).trans hb6⟩
            rw [HOut.out]; exact ho6.mono (Nat.le_refl _) (Nat.le_trans hs5 hb6.size)
set_option maxRecDepth 100000 in
set_option maxHeartbeats 4000000 in
theorem sp_CosetsIn (A : Option Addr) (n c : Nat) (gs : List ByteArray) (B : Option Addr) (m d : Nat) (ss : List ByteArray) (W : World) (hr : Rd W A n (strsV gs)) (hz : ∀ s ∈ gs, s.size ≤ 1048576) (hl : gs.length ≤ 1048576) (hr2 : Rd W B m (strsV ss)) (hz2 : ∀ s ∈ ss, s.size ≤ 1048576) (hl2 : ss.length ≤ 1048576) :
    Calls Try.prog 20 #[.slice A n c, .slice B m d] W (RetSB 9 (strsV (out_CosetsIn gs ss)) (ok_CI gs ss) W) := by
  have hzm : ∀ s ∈ gs, s.size ≤ maxLen := fun s hs => by have := hz s hs; unfold maxLen; omega
  have hzm2 : ∀ s ∈ ss, s.size ≤ maxLen := fun s hs => by have := hz2 s hs; unfold maxLen; omega
  have hn8 : n ≤ 1048576 := by have := hr.slen; omega
  have hm8 : m ≤ 1048576 := by have := hr2.slen; omega
  have HX : Hid (grpB gs = true → 0 < n ∧ ∃ b off, A = some ⟨b, off, none⟩ ∧ ∀ w, Below W.heap.size W w → w.cell? ⟨b, off, none⟩ = some (.string (headS gs))) := fun h => by
    have h0 : 0 < n := by have := (grpB_true.1 h).1; have := hr.slen; omega
    obtain ⟨b, off, rfl, hb, _⟩ := hr.strD (k := 0) h0
    refine ⟨h0, b, off, rfl, fun w hw => ?_⟩
    obtain ⟨b', off', e, _, hc⟩ := (hr.below hw).strD (k := 0) h0
    injection e with e; injection e with e1 e2; subst e1 e2
    have hc0 := hc 0 h0
    have e2 : getS gs 0 = headS gs := by cases gs <;> rfl
    rw [e2] at hc0; exact hc0
  have HEach : Hid (ok_CI gs ss = true → 0 < n ∧ m ≤ 800 ∧ (∀ k, k < m → IsRow (bs (getS ss k)) ∧ ∀ s ∈ gs, IsRow (bs s) ∧ s.size = (getS ss k).size)) := fun h => by
    have h2 := ok_CI_each h
    have l1 := hr.slen
    have l2 := hr2.slen
    exact ⟨by omega, by omega, fun k hk => h2.2.2.2 _ (getS_mem (by omega))⟩
  have EN : Hid (ok_CI gs ss = false → out_CosetsIn gs ss = []) := fun h => by unfold out_CosetsIn; rw [h]; simp
  have EY : Hid (ok_CI gs ss = true → out_CosetsIn gs ss = cmS (srt (lsI gs ss))) := fun h => by unfold out_CosetsIn; rw [if_pos h]
  have Hr := Lib.hid hr
  have Hr2 := Lib.hid hr2
  have Hl2 := Lib.hid hr2.slen
  have Hl1 := Lib.hid hr.slen
  have HA : Hid (∀ W', Below W.heap.size W W' → Calls Try.prog 37 #[.slice A n c] W' fun e w' => e = .returned (.bool (incB gs && rowsB gs)) ∧ ∃ d, w' = W'.drewN d) := fun W' h => l6Rising_any A n c gs W' (hr.below h) hzm
  have HAq : Hid (∀ d, Calls Try.prog 37 #[.slice A n c] (W.drewN d) fun e w' => e = .returned (.bool (incB gs && rowsB gs)) ∧ ∃ d2, w' = (W.drewN d).drewN d2) := fun d => l6Rising_any A n c gs (W.drewN d) (hr.drewN d) hzm
  have HG : Hid ((incB gs && rowsB gs) = true → ∀ W', Below W.heap.size W W' → Calls Try.prog 38 #[.slice A n c] W' fun e w' => e = .returned (.bool (grpB gs)) ∧ Below W'.heap.size W' w') := fun h1 W' h => l6Group_any A n c gs W' (hr.below h) (by rw [Bool.and_eq_true] at h1; exact h1.2)
  have HR : Hid (∀ W', Below W.heap.size W W' → Calls Try.prog 26 #[.slice B m d] W' fun e w' => e = .returned (.bool (rowsB ss)) ∧ ∃ d, w' = W'.drewN d) := fun W' h => l6Rows_any B m d ss W' (hr2.below h) hzm2
  have HL : Hid (∀ r W', IsRow (bs r) → (∀ s ∈ gs, IsRow (bs s) ∧ s.size = r.size) → n ≤ 800 → Rd W' A n (strsV gs) → Calls Try.prog 40 #[.string r, .slice A n c] W' (RetS 9 (strsV (gs.map (timS r))) W')) := fun r W' h1 h2 h3 h4 => l6Left_any r A n c gs W' h3 h4 h1 h2
  have hn800 : ok_CI gs ss = true → n ≤ 800 := fun h => by have := (ok_CI_each h).2.1; have := hr.slen; omega
  have HY : Hid (0 < m → ∃ b off, B = some ⟨b, off, none⟩ ∧ ∀ w, Below W.heap.size W w → w.cell? ⟨b, off, none⟩ = some (.string (headS ss))) := fun h0 => by
    obtain ⟨b, off, rfl, hb, _⟩ := hr2.strD (k := 0) h0
    refine ⟨b, off, rfl, fun w hw => ?_⟩
    obtain ⟨b', off', e, _, hc⟩ := (hr2.below hw).strD (k := 0) h0
    injection e with e; injection e with e1 e2; subst e1 e2
    have hc0 := hc 0 h0
    have e2 : getS ss 0 = headS ss := by cases ss <;> rfl
    rw [e2] at hc0; exact hc0
  have HOK : Hid (ok_CI gs ss = ((incB gs && rowsB gs) && grpB gs && rowsB ss && (decide (m = 0) || decide (((headS ss).size : Int) = ((headS gs).size : Int))))) := by unfold Hid; rw [ok_CI_sp, hr2.slen]
  have hB0 : Below W.heap.size W W.drew := (Below.refl _ _).drew
  obtain ⟨ra, hra⟩ : ∃ r, r = (incB gs && rowsB gs) := ⟨_, rfl⟩
  obtain ⟨rb, hrb⟩ : ∃ r, r = grpB gs := ⟨_, rfl⟩
  obtain ⟨rc, hrc⟩ : ∃ r, r = rowsB ss := ⟨_, rfl⟩
  obtain ⟨x, hx⟩ : ∃ r, r = headS gs := ⟨_, rfl⟩
  obtain ⟨y, hy⟩ : ∃ r, r = headS ss := ⟨_, rfl⟩
  rw [← hra] at HA HG HOK HAq
  rw [← hrb] at HG HOK HX
  rw [← hrc] at HR HOK
  rw [← hx] at HX HOK
  rw [← hy] at HY HOK
  clear hra hrb hrc hx hy hr hz hzm hl hr2 hz2 hzm2 hl2
  cases ra with
  | false =>
    have HT : Hid (ok_CI gs ss = false) := by unfold Hid; rw [HOK.out]; rfl
    go_enter Try.func20, Try.ntmps20
    go_wp2
    go_quiet ((go_at_call 37; with_reducible exact Calls.quiet_of (HAq.out _)))
    go_wp2
    go_ret2
    refine ⟨none, 0, 0, ret_slb HT.out, ?_, below_drewN' (Below.refl _ _) _⟩
    rw [EN.out HT.out]; exact Own.nil _ _ _ _
  | true =>
    cases rb with
    | false =>
      have HT : Hid (ok_CI gs ss = false) := by unfold Hid; rw [HOK.out]; rfl
      go_enter Try.func20, Try.ntmps20
      go_wp2
      refine wp_region_held_drew (S := fun _ => True) (by kernel_rfl) trivial (fun hHeld => ?_)
      refine' wpAnyH_take (i := 0) (oi := _) (v := _) ?hi1 (by kernel_rfl) (by kernel_rfl) (by kernel_rfl) ?hQ1 ?hy1 ?hS1 ?rest1
      case hi1 => (simp only [List.getElem?_toArray, List.getElem?_cons_succ, List.getElem?_cons_zero]; rfl)
      case hQ1 => exact fun _ _ _ h => h
      case hS1 => assumption
      case hy1 => (refine Or.inl ⟨by rfl, fun w hSw => ?_⟩; (try dsimp only at hSw); go_simp <;> with_reducible rfl)
      try simp only [Act.put, List.setIfInBounds_toArray, List.set_cons_zero, List.set_cons_succ]
      refine wpAnyH_ready (rs := [1]) (by kernel_rfl) (by simp) ?_
      refine' AllReadyH.cons (o := _) ?hi2 (fun K hK => ?step2) AllReadyH.nil
      case hi2 => (simp only [List.getElem?_toArray, List.getElem?_cons_succ, List.getElem?_cons_zero]; rfl)
      go_simp
      go_at_call 37; (with_reducible refine (HA.out _ ?hA).mono ?_); (case hA => first | exact hB0 | exact below_drewN' (Below.refl _ _) _); rintro e x1 ⟨rfl, d1, rfl⟩
      refine hK.out _ _ trivial (fun hHeld => ?_)
      clear hK K
      try simp only [Act.put, List.setIfInBounds_toArray, List.set_cons_zero, List.set_cons_succ]
      refine' wpAnyH_take (i := 2) (oi := _) (v := _) ?hi3 (by kernel_rfl) (by kernel_rfl) (by kernel_rfl) ?hQ3 ?hy3 ?hS3 ?rest3
      case hi3 => (simp only [List.getElem?_toArray, List.getElem?_cons_succ, List.getElem?_cons_zero]; rfl)
      case hQ3 => exact fun _ _ _ h => h
      case hS3 => assumption
      case hy3 => (refine Or.inl ⟨by rfl, fun w hSw => ?_⟩; (try dsimp only at hSw); go_simp <;> with_reducible rfl)
      try simp only [Act.put, List.setIfInBounds_toArray, List.set_cons_zero, List.set_cons_succ]
      refine' wpAnyH_take (i := 3) (oi := _) (v := _) ?hi4 (by kernel_rfl) (by kernel_rfl) (by kernel_rfl) ?hQ4 ?hy4 ?hS4 ?rest4
      case hi4 => (simp only [List.getElem?_toArray, List.getElem?_cons_succ, List.getElem?_cons_zero]; rfl)
      case hQ4 => exact fun _ _ _ h => h
      case hS4 => assumption
      case hy4 => (refine Or.inl ⟨by rfl, fun w hSw => ?_⟩; (try dsimp only at hSw); go_simp <;> with_reducible rfl)
      try simp only [Act.put, List.setIfInBounds_toArray, List.set_cons_zero, List.set_cons_succ]
      refine' wpAnyH_take (i := 4) (oi := _) (v := _) ?hi5 (by kernel_rfl) (by kernel_rfl) (by kernel_rfl) ?hQ5 ?hy5 ?hS5 ?rest5
      case hi5 => (simp only [List.getElem?_toArray, List.getElem?_cons_succ, List.getElem?_cons_zero]; rfl)
      case hQ5 => exact fun _ _ _ h => h
      case hS5 => assumption
      case hy5 => (refine Or.inl ⟨by rfl, fun w hSw => ?_⟩; (try dsimp only at hSw); go_simp <;> with_reducible rfl)
      try simp only [Act.put, List.setIfInBounds_toArray, List.set_cons_zero, List.set_cons_succ]
      refine wpAnyH_ready (rs := [5]) (by kernel_rfl) (by simp) ?_
      refine' AllReadyH.cons (o := _) ?hi6 (fun K hK => ?step6) AllReadyH.nil
      case hi6 => (simp only [List.getElem?_toArray, List.getElem?_cons_succ, List.getElem?_cons_zero]; rfl)
      go_simp
      go_at_call 38; (with_reducible refine (HG.out (by trivial) _ ?hG).mono ?_); (case hG => exact below_drewN' (Below.refl _ _) _); rintro e x2 ⟨rfl, hb2⟩; have hB2 := (below_drewN' (Below.refl _ _) _ : Below W.heap.size W (W.drewN _)).trans hb2
      refine hK.out _ _ trivial (fun hHeld => ?_)
      clear hK K
      try simp only [Act.put, List.setIfInBounds_toArray, List.set_cons_zero, List.set_cons_succ]
      refine' wpAnyH_take (i := 6) (oi := _) (v := _) ?hi7 (by kernel_rfl) (by kernel_rfl) (by kernel_rfl) ?hQ7 ?hy7 ?hS7 ?rest7
      case hi7 => (simp only [List.getElem?_toArray, List.getElem?_cons_succ, List.getElem?_cons_zero]; rfl)
      case hQ7 => exact fun _ _ _ h => h
      case hS7 => assumption
      case hy7 => (refine Or.inl ⟨by rfl, fun w hSw => ?_⟩; (try dsimp only at hSw); go_simp <;> with_reducible rfl)
      try simp only [Act.put, List.setIfInBounds_toArray, List.set_cons_zero, List.set_cons_succ]
      refine' wpAnyH_take (i := 7) (oi := _) (v := _) ?hi8 (by kernel_rfl) (by kernel_rfl) (by kernel_rfl) ?hQ8 ?hy8 ?hS8 ?rest8
      case hi8 => (simp only [List.getElem?_toArray, List.getElem?_cons_succ, List.getElem?_cons_zero]; rfl)
      case hQ8 => exact fun _ _ _ h => h
      case hS8 => assumption
      case hy8 => (refine Or.inl ⟨by rfl, fun w hSw => ?_⟩; (try dsimp only at hSw); go_simp <;> with_reducible rfl)
      try simp only [Act.put, List.setIfInBounds_toArray, List.set_cons_zero, List.set_cons_succ]
      refine' wpAnyH_take (i := 8) (oi := _) (v := _) ?hi9 (by kernel_rfl) (by kernel_rfl) (by kernel_rfl) ?hQ9 ?hy9 ?hS9 ?rest9
      case hi9 => (simp only [List.getElem?_toArray, List.getElem?_cons_succ, List.getElem?_cons_zero]; rfl)
      case hQ9 => exact fun _ _ _ h => h
      case hS9 => assumption
      case hy9 => (refine Or.inl ⟨by rfl, fun w hSw => ?_⟩; (try dsimp only at hSw); go_simp <;> with_reducible rfl)
      try simp only [Act.put, List.setIfInBounds_toArray, List.set_cons_zero, List.set_cons_succ]
      refine' wpAnyH_take (i := 9) (oi := _) (v := undef) ?hi10 (by kernel_rfl) (by kernel_rfl) (by kernel_rfl) ?hQ10 ?hy10 ?hS10 ?rest10
      case hi10 => (simp only [List.getElem?_toArray, List.getElem?_cons_succ, List.getElem?_cons_zero]; rfl)
      case hQ10 => exact fun _ _ _ h => h
      case hS10 => assumption
      case hy10 => exact Or.inr ⟨by rfl, rfl⟩
      try simp only [Act.put, List.setIfInBounds_toArray, List.set_cons_zero, List.set_cons_succ]
      refine' wpAnyH_take (i := 10) (oi := _) (v := undef) ?hi11 (by kernel_rfl) (by kernel_rfl) (by kernel_rfl) ?hQ11 ?hy11 ?hS11 ?rest11
      case hi11 => (simp only [List.getElem?_toArray, List.getElem?_cons_succ, List.getElem?_cons_zero]; rfl)
      case hQ11 => exact fun _ _ _ h => h
      case hS11 => assumption
      case hy11 => exact Or.inr ⟨by rfl, rfl⟩
      try simp only [Act.put, List.setIfInBounds_toArray, List.set_cons_zero, List.set_cons_succ]
      refine' wpAnyH_take (i := 11) (oi := _) (v := undef) ?hi12 (by kernel_rfl) (by kernel_rfl) (by kernel_rfl) ?hQ12 ?hy12 ?hS12 ?rest12
      case hi12 => (simp only [List.getElem?_toArray, List.getElem?_cons_succ, List.getElem?_cons_zero]; rfl)
      case hQ12 => exact fun _ _ _ h => h
      case hS12 => assumption
      case hy12 => exact Or.inr ⟨by rfl, rfl⟩
      try simp only [Act.put, List.setIfInBounds_toArray, List.set_cons_zero, List.set_cons_succ]
      refine' wpAnyH_take (i := 12) (oi := _) (v := _) ?hi13 (by kernel_rfl) (by kernel_rfl) (by kernel_rfl) ?hQ13 ?hy13 ?hS13 ?rest13
      case hi13 => (simp only [List.getElem?_toArray, List.getElem?_cons_succ, List.getElem?_cons_zero]; rfl)
      case hQ13 => exact fun _ _ _ h => h
      case hS13 => assumption
      case hy13 => (refine Or.inl ⟨by rfl, fun w hSw => ?_⟩; (try dsimp only at hSw); go_simp <;> with_reducible rfl)
      try simp only [Act.put, List.setIfInBounds_toArray, List.set_cons_zero, List.set_cons_succ]
      refine' wpAnyH_take (i := 13) (oi := _) (v := _) ?hi14 (by kernel_rfl) (by kernel_rfl) (by kernel_rfl) ?hQ14 ?hy14 ?hS14 ?rest14
      case hi14 => (simp only [List.getElem?_toArray, List.getElem?_cons_succ, List.getElem?_cons_zero]; rfl)
      case hQ14 => exact fun _ _ _ h => h
      case hS14 => assumption
      case hy14 => (refine Or.inl ⟨by rfl, fun w hSw => ?_⟩; (try dsimp only at hSw); go_simp <;> with_reducible rfl)
      try simp only [Act.put, List.setIfInBounds_toArray, List.set_cons_zero, List.set_cons_succ]
      refine' wpAnyH_take (i := 14) (oi := _) (v := undef) ?hi15 (by kernel_rfl) (by kernel_rfl) (by kernel_rfl) ?hQ15 ?hy15 ?hS15 ?rest15
      case hi15 => (simp only [List.getElem?_toArray, List.getElem?_cons_succ, List.getElem?_cons_zero]; rfl)
      case hQ15 => exact fun _ _ _ h => h
      case hS15 => assumption
      case hy15 => exact Or.inr ⟨by rfl, rfl⟩
      try simp only [Act.put, List.setIfInBounds_toArray, List.set_cons_zero, List.set_cons_succ]
      refine' wpAnyH_take (i := 15) (oi := _) (v := undef) ?hi16 (by kernel_rfl) (by kernel_rfl) (by kernel_rfl) ?hQ16 ?hy16 ?hS16 ?rest16
      case hi16 => (simp only [List.getElem?_toArray, List.getElem?_cons_succ, List.getElem?_cons_zero]; rfl)
      case hQ16 => exact fun _ _ _ h => h
      case hS16 => assumption
      case hy16 => exact Or.inr ⟨by rfl, rfl⟩
      try simp only [Act.put, List.setIfInBounds_toArray, List.set_cons_zero, List.set_cons_succ]
      refine' wpAnyH_take (i := 16) (oi := _) (v := undef) ?hi17 (by kernel_rfl) (by kernel_rfl) (by kernel_rfl) ?hQ17 ?hy17 ?hS17 ?rest17
      case hi17 => (simp only [List.getElem?_toArray, List.getElem?_cons_succ, List.getElem?_cons_zero]; rfl)
      case hQ17 => exact fun _ _ _ h => h
      case hS17 => assumption
      case hy17 => exact Or.inr ⟨by rfl, rfl⟩
      try simp only [Act.put, List.setIfInBounds_toArray, List.set_cons_zero, List.set_cons_succ]
      refine' wpAnyH_take (i := 17) (oi := _) (v := undef) ?hi18 (by kernel_rfl) (by kernel_rfl) (by kernel_rfl) ?hQ18 ?hy18 ?hS18 ?rest18
      case hi18 => (simp only [List.getElem?_toArray, List.getElem?_cons_succ, List.getElem?_cons_zero]; rfl)
      case hQ18 => exact fun _ _ _ h => h
      case hS18 => assumption
      case hy18 => exact Or.inr ⟨by rfl, rfl⟩
      try simp only [Act.put, List.setIfInBounds_toArray, List.set_cons_zero, List.set_cons_succ]
      refine' wpAnyH_take (i := 18) (oi := _) (v := undef) ?hi19 (by kernel_rfl) (by kernel_rfl) (by kernel_rfl) ?hQ19 ?hy19 ?hS19 ?rest19
      case hi19 => (simp only [List.getElem?_toArray, List.getElem?_cons_succ, List.getElem?_cons_zero]; rfl)
      case hQ19 => exact fun _ _ _ h => h
      case hS19 => assumption
      case hy19 => exact Or.inr ⟨by rfl, rfl⟩
      try simp only [Act.put, List.setIfInBounds_toArray, List.set_cons_zero, List.set_cons_succ]
      refine' wpAnyH_take (i := 19) (oi := _) (v := undef) ?hi20 (by kernel_rfl) (by kernel_rfl) (by kernel_rfl) ?hQ20 ?hy20 ?hS20 ?rest20
      case hi20 => (simp only [List.getElem?_toArray, List.getElem?_cons_succ, List.getElem?_cons_zero]; rfl)
      case hQ20 => exact fun _ _ _ h => h
      case hS20 => assumption
      case hy20 => exact Or.inr ⟨by rfl, rfl⟩
      try simp only [Act.put, List.setIfInBounds_toArray, List.set_cons_zero, List.set_cons_succ]
      refine' wpAnyH_take (i := 20) (oi := _) (v := undef) ?hi21 (by kernel_rfl) (by kernel_rfl) (by kernel_rfl) ?hQ21 ?hy21 ?hS21 ?rest21
      case hi21 => (simp only [List.getElem?_toArray, List.getElem?_cons_succ, List.getElem?_cons_zero]; rfl)
      case hQ21 => exact fun _ _ _ h => h
      case hS21 => assumption
      case hy21 => exact Or.inr ⟨by rfl, rfl⟩
      try simp only [Act.put, List.setIfInBounds_toArray, List.set_cons_zero, List.set_cons_succ]
      refine' wpAnyH_take (i := 21) (oi := _) (v := undef) ?hi22 (by kernel_rfl) (by kernel_rfl) (by kernel_rfl) ?hQ22 ?hy22 ?hS22 ?rest22
      case hi22 => (simp only [List.getElem?_toArray, List.getElem?_cons_succ, List.getElem?_cons_zero]; rfl)
      case hQ22 => exact fun _ _ _ h => h
      case hS22 => assumption
      case hy22 => exact Or.inr ⟨by rfl, rfl⟩
      try simp only [Act.put, List.setIfInBounds_toArray, List.set_cons_zero, List.set_cons_succ]
      refine' wpAnyH_take (i := 22) (oi := _) (v := undef) ?hi23 (by kernel_rfl) (by kernel_rfl) (by kernel_rfl) ?hQ23 ?hy23 ?hS23 ?rest23
      case hi23 => (simp only [List.getElem?_toArray, List.getElem?_cons_succ, List.getElem?_cons_zero]; rfl)
      case hQ23 => exact fun _ _ _ h => h
      case hS23 => assumption
      case hy23 => exact Or.inr ⟨by rfl, rfl⟩
      try simp only [Act.put, List.setIfInBounds_toArray, List.set_cons_zero, List.set_cons_succ]
      refine' wpAnyH_take (i := 23) (oi := _) (v := undef) ?hi24 (by kernel_rfl) (by kernel_rfl) (by kernel_rfl) ?hQ24 ?hy24 ?hS24 ?rest24
      case hi24 => (simp only [List.getElem?_toArray, List.getElem?_cons_succ, List.getElem?_cons_zero]; rfl)
      case hQ24 => exact fun _ _ _ h => h
      case hS24 => assumption
      case hy24 => exact Or.inr ⟨by rfl, rfl⟩
      try simp only [Act.put, List.setIfInBounds_toArray, List.set_cons_zero, List.set_cons_succ]
      refine' wpAnyH_take (i := 24) (oi := _) (v := undef) ?hi25 (by kernel_rfl) (by kernel_rfl) (by kernel_rfl) ?hQ25 ?hy25 ?hS25 ?rest25
      case hi25 => (simp only [List.getElem?_toArray, List.getElem?_cons_succ, List.getElem?_cons_zero]; rfl)
      case hQ25 => exact fun _ _ _ h => h
      case hS25 => assumption
      case hy25 => exact Or.inr ⟨by rfl, rfl⟩
      try simp only [Act.put, List.setIfInBounds_toArray, List.set_cons_zero, List.set_cons_succ]
      refine' wpAnyH_take (i := 25) (oi := _) (v := undef) ?hi26 (by kernel_rfl) (by kernel_rfl) (by kernel_rfl) ?hQ26 ?hy26 ?hS26 ?rest26
      case hi26 => (simp only [List.getElem?_toArray, List.getElem?_cons_succ, List.getElem?_cons_zero]; rfl)
      case hQ26 => exact fun _ _ _ h => h
      case hS26 => assumption
      case hy26 => exact Or.inr ⟨by rfl, rfl⟩
      try simp only [Act.put, List.setIfInBounds_toArray, List.set_cons_zero, List.set_cons_succ]
      refine' wpAnyH_take (i := 26) (oi := _) (v := undef) ?hi27 (by kernel_rfl) (by kernel_rfl) (by kernel_rfl) ?hQ27 ?hy27 ?hS27 ?rest27
      case hi27 => (simp only [List.getElem?_toArray, List.getElem?_cons_succ, List.getElem?_cons_zero]; rfl)
      case hQ27 => exact fun _ _ _ h => h
      case hS27 => assumption
      case hy27 => exact Or.inr ⟨by rfl, rfl⟩
      try simp only [Act.put, List.setIfInBounds_toArray, List.set_cons_zero, List.set_cons_succ]
      refine' wpAnyH_take (i := 27) (oi := _) (v := undef) ?hi28 (by kernel_rfl) (by kernel_rfl) (by kernel_rfl) ?hQ28 ?hy28 ?hS28 ?rest28
      case hi28 => (simp only [List.getElem?_toArray, List.getElem?_cons_succ, List.getElem?_cons_zero]; rfl)
      case hQ28 => exact fun _ _ _ h => h
      case hS28 => assumption
      case hy28 => exact Or.inr ⟨by rfl, rfl⟩
      try simp only [Act.put, List.setIfInBounds_toArray, List.set_cons_zero, List.set_cons_succ]
      refine' wpAnyH_take (i := 28) (oi := _) (v := _) ?hi29 (by kernel_rfl) (by kernel_rfl) (by kernel_rfl) ?hQ29 ?hy29 ?hS29 ?rest29
      case hi29 => (simp only [List.getElem?_toArray, List.getElem?_cons_succ, List.getElem?_cons_zero]; rfl)
      case hQ29 => exact fun _ _ _ h => h
      case hS29 => assumption
      case hy29 => (refine Or.inl ⟨by rfl, fun w hSw => ?_⟩; (try dsimp only at hSw); go_simp <;> with_reducible rfl)
      try simp only [Act.put, List.setIfInBounds_toArray, List.set_cons_zero, List.set_cons_succ]
      refine wpAnyH_done (by kernel_rfl) ?_ _
      go_wp2
      go_ret2
      refine ⟨none, 0, 0, ret_slb HT.out, ?_, hB2⟩
      rw [EN.out HT.out]; exact Own.nil _ _ _ _
    | true =>
      obtain ⟨hn0, b, off, rfl, hcx⟩ := HX.out (by trivial)
      have HCX := Lib.hid hcx
      have i1 : (0 : Int) < (n : Int) := by omega
      clear hcx
      cases rc with
      | false =>
        have HT : Hid (ok_CI gs ss = false) := by unfold Hid; rw [HOK.out]; rfl
        go_enter Try.func20, Try.ntmps20
        go_wp2
        refine wp_region_held_drew (S := fun _ => True) (by kernel_rfl) trivial (fun hHeld => ?_)
        refine' wpAnyH_take (i := 0) (oi := _) (v := _) ?hi30 (by kernel_rfl) (by kernel_rfl) (by kernel_rfl) ?hQ30 ?hy30 ?hS30 ?rest30
        case hi30 => (simp only [List.getElem?_toArray, List.getElem?_cons_succ, List.getElem?_cons_zero]; rfl)
        case hQ30 => exact fun _ _ _ h => h
        case hS30 => assumption
        case hy30 => (refine Or.inl ⟨by rfl, fun w hSw => ?_⟩; (try dsimp only at hSw); go_simp <;> with_reducible rfl)
        try simp only [Act.put, List.setIfInBounds_toArray, List.set_cons_zero, List.set_cons_succ]
        refine wpAnyH_ready (rs := [1]) (by kernel_rfl) (by simp) ?_
        refine' AllReadyH.cons (o := _) ?hi31 (fun K hK => ?step31) AllReadyH.nil
        case hi31 => (simp only [List.getElem?_toArray, List.getElem?_cons_succ, List.getElem?_cons_zero]; rfl)
        go_simp
        go_at_call 37; (with_reducible refine (HA.out _ ?hA).mono ?_); (case hA => first | exact hB0 | exact below_drewN' (Below.refl _ _) _); rintro e x1 ⟨rfl, d1, rfl⟩
        refine hK.out _ _ trivial (fun hHeld => ?_)
        clear hK K
        try simp only [Act.put, List.setIfInBounds_toArray, List.set_cons_zero, List.set_cons_succ]
        refine' wpAnyH_take (i := 2) (oi := _) (v := _) ?hi32 (by kernel_rfl) (by kernel_rfl) (by kernel_rfl) ?hQ32 ?hy32 ?hS32 ?rest32
        case hi32 => (simp only [List.getElem?_toArray, List.getElem?_cons_succ, List.getElem?_cons_zero]; rfl)
        case hQ32 => exact fun _ _ _ h => h
        case hS32 => assumption
        case hy32 => (refine Or.inl ⟨by rfl, fun w hSw => ?_⟩; (try dsimp only at hSw); go_simp <;> with_reducible rfl)
        try simp only [Act.put, List.setIfInBounds_toArray, List.set_cons_zero, List.set_cons_succ]
        refine' wpAnyH_take (i := 3) (oi := _) (v := _) ?hi33 (by kernel_rfl) (by kernel_rfl) (by kernel_rfl) ?hQ33 ?hy33 ?hS33 ?rest33
        case hi33 => (simp only [List.getElem?_toArray, List.getElem?_cons_succ, List.getElem?_cons_zero]; rfl)
        case hQ33 => exact fun _ _ _ h => h
        case hS33 => assumption
        case hy33 => (refine Or.inl ⟨by rfl, fun w hSw => ?_⟩; (try dsimp only at hSw); go_simp <;> with_reducible rfl)
        try simp only [Act.put, List.setIfInBounds_toArray, List.set_cons_zero, List.set_cons_succ]
        refine' wpAnyH_take (i := 4) (oi := _) (v := _) ?hi34 (by kernel_rfl) (by kernel_rfl) (by kernel_rfl) ?hQ34 ?hy34 ?hS34 ?rest34
        case hi34 => (simp only [List.getElem?_toArray, List.getElem?_cons_succ, List.getElem?_cons_zero]; rfl)
        case hQ34 => exact fun _ _ _ h => h
        case hS34 => assumption
        case hy34 => (refine Or.inl ⟨by rfl, fun w hSw => ?_⟩; (try dsimp only at hSw); go_simp <;> with_reducible rfl)
        try simp only [Act.put, List.setIfInBounds_toArray, List.set_cons_zero, List.set_cons_succ]
        refine wpAnyH_ready (rs := [5]) (by kernel_rfl) (by simp) ?_
        refine' AllReadyH.cons (o := _) ?hi35 (fun K hK => ?step35) AllReadyH.nil
        case hi35 => (simp only [List.getElem?_toArray, List.getElem?_cons_succ, List.getElem?_cons_zero]; rfl)
        go_simp
        go_at_call 38; (with_reducible refine (HG.out (by trivial) _ ?hG).mono ?_); (case hG => exact below_drewN' (Below.refl _ _) _); rintro e x2 ⟨rfl, hb2⟩; have hB2 := (below_drewN' (Below.refl _ _) _ : Below W.heap.size W (W.drewN _)).trans hb2
        refine hK.out _ _ trivial (fun hHeld => ?_)
        clear hK K
        try simp only [Act.put, List.setIfInBounds_toArray, List.set_cons_zero, List.set_cons_succ]
        refine' wpAnyH_take (i := 6) (oi := _) (v := _) ?hi36 (by kernel_rfl) (by kernel_rfl) (by kernel_rfl) ?hQ36 ?hy36 ?hS36 ?rest36
        case hi36 => (simp only [List.getElem?_toArray, List.getElem?_cons_succ, List.getElem?_cons_zero]; rfl)
        case hQ36 => exact fun _ _ _ h => h
        case hS36 => assumption
        case hy36 => (refine Or.inl ⟨by rfl, fun w hSw => ?_⟩; (try dsimp only at hSw); go_simp <;> with_reducible rfl)
        try simp only [Act.put, List.setIfInBounds_toArray, List.set_cons_zero, List.set_cons_succ]
        refine' wpAnyH_take (i := 7) (oi := _) (v := _) ?hi37 (by kernel_rfl) (by kernel_rfl) (by kernel_rfl) ?hQ37 ?hy37 ?hS37 ?rest37
        case hi37 => (simp only [List.getElem?_toArray, List.getElem?_cons_succ, List.getElem?_cons_zero]; rfl)
        case hQ37 => exact fun _ _ _ h => h
        case hS37 => assumption
        case hy37 => (refine Or.inl ⟨by rfl, fun w hSw => ?_⟩; (try dsimp only at hSw); go_simp <;> with_reducible rfl)
        try simp only [Act.put, List.setIfInBounds_toArray, List.set_cons_zero, List.set_cons_succ]
        refine' wpAnyH_take (i := 8) (oi := _) (v := _) ?hi38 (by kernel_rfl) (by kernel_rfl) (by kernel_rfl) ?hQ38 ?hy38 ?hS38 ?rest38
        case hi38 => (simp only [List.getElem?_toArray, List.getElem?_cons_succ, List.getElem?_cons_zero]; rfl)
        case hQ38 => exact fun _ _ _ h => h
        case hS38 => assumption
        case hy38 => (refine Or.inl ⟨by rfl, fun w hSw => ?_⟩; (try dsimp only at hSw); go_simp <;> with_reducible rfl)
        try simp only [Act.put, List.setIfInBounds_toArray, List.set_cons_zero, List.set_cons_succ]
        refine' wpAnyH_take (i := 9) (oi := _) (v := _) ?hi39 (by kernel_rfl) (by kernel_rfl) (by kernel_rfl) ?hQ39 ?hy39 ?hS39 ?rest39
        case hi39 => (simp only [List.getElem?_toArray, List.getElem?_cons_succ, List.getElem?_cons_zero]; rfl)
        case hQ39 => exact fun _ _ _ h => h
        case hS39 => assumption
        case hy39 => (refine Or.inl ⟨by rfl, fun w hSw => ?_⟩; (try dsimp only at hSw); go_simp <;> with_reducible rfl)
        try simp only [Act.put, List.setIfInBounds_toArray, List.set_cons_zero, List.set_cons_succ]
        refine wpAnyH_ready (rs := [10]) (by kernel_rfl) (by simp) ?_
        refine' AllReadyH.cons (o := _) ?hi40 (fun K hK => ?step40) AllReadyH.nil
        case hi40 => (simp only [List.getElem?_toArray, List.getElem?_cons_succ, List.getElem?_cons_zero]; rfl)
        go_simp
        go_at_call 26; (with_reducible refine (HR.out _ ?hR).mono ?_); (case hR => exact hB2); rintro e x3 ⟨rfl, d3, rfl⟩; have hB3 := below_drewN' hB2 d3
        refine hK.out _ _ trivial (fun hHeld => ?_)
        clear hK K
        try simp only [Act.put, List.setIfInBounds_toArray, List.set_cons_zero, List.set_cons_succ]
        refine' wpAnyH_take (i := 11) (oi := _) (v := _) ?hi41 (by kernel_rfl) (by kernel_rfl) (by kernel_rfl) ?hQ41 ?hy41 ?hS41 ?rest41
        case hi41 => (simp only [List.getElem?_toArray, List.getElem?_cons_succ, List.getElem?_cons_zero]; rfl)
        case hQ41 => exact fun _ _ _ h => h
        case hS41 => assumption
        case hy41 => (refine Or.inl ⟨by rfl, fun w hSw => ?_⟩; (try dsimp only at hSw); go_simp <;> with_reducible rfl)
        try simp only [Act.put, List.setIfInBounds_toArray, List.set_cons_zero, List.set_cons_succ]
        refine' wpAnyH_take (i := 12) (oi := _) (v := _) ?hi42 (by kernel_rfl) (by kernel_rfl) (by kernel_rfl) ?hQ42 ?hy42 ?hS42 ?rest42
        case hi42 => (simp only [List.getElem?_toArray, List.getElem?_cons_succ, List.getElem?_cons_zero]; rfl)
        case hQ42 => exact fun _ _ _ h => h
        case hS42 => assumption
        case hy42 => (refine Or.inl ⟨by rfl, fun w hSw => ?_⟩; (try dsimp only at hSw); go_simp <;> with_reducible rfl)
        try simp only [Act.put, List.setIfInBounds_toArray, List.set_cons_zero, List.set_cons_succ]
        refine' wpAnyH_take (i := 13) (oi := _) (v := _) ?hi43 (by kernel_rfl) (by kernel_rfl) (by kernel_rfl) ?hQ43 ?hy43 ?hS43 ?rest43
        case hi43 => (simp only [List.getElem?_toArray, List.getElem?_cons_succ, List.getElem?_cons_zero]; rfl)
        case hQ43 => exact fun _ _ _ h => h
        case hS43 => assumption
        case hy43 => (refine Or.inl ⟨by rfl, fun w hSw => ?_⟩; (try dsimp only at hSw); go_simp <;> with_reducible rfl)
        try simp only [Act.put, List.setIfInBounds_toArray, List.set_cons_zero, List.set_cons_succ]
        refine' wpAnyH_take (i := 14) (oi := _) (v := undef) ?hi44 (by kernel_rfl) (by kernel_rfl) (by kernel_rfl) ?hQ44 ?hy44 ?hS44 ?rest44
        case hi44 => (simp only [List.getElem?_toArray, List.getElem?_cons_succ, List.getElem?_cons_zero]; rfl)
        case hQ44 => exact fun _ _ _ h => h
        case hS44 => assumption
        case hy44 => exact Or.inr ⟨by rfl, rfl⟩
        try simp only [Act.put, List.setIfInBounds_toArray, List.set_cons_zero, List.set_cons_succ]
        refine' wpAnyH_take (i := 15) (oi := _) (v := undef) ?hi45 (by kernel_rfl) (by kernel_rfl) (by kernel_rfl) ?hQ45 ?hy45 ?hS45 ?rest45
        case hi45 => (simp only [List.getElem?_toArray, List.getElem?_cons_succ, List.getElem?_cons_zero]; rfl)
        case hQ45 => exact fun _ _ _ h => h
        case hS45 => assumption
        case hy45 => exact Or.inr ⟨by rfl, rfl⟩
        try simp only [Act.put, List.setIfInBounds_toArray, List.set_cons_zero, List.set_cons_succ]
        refine' wpAnyH_take (i := 16) (oi := _) (v := undef) ?hi46 (by kernel_rfl) (by kernel_rfl) (by kernel_rfl) ?hQ46 ?hy46 ?hS46 ?rest46
        case hi46 => (simp only [List.getElem?_toArray, List.getElem?_cons_succ, List.getElem?_cons_zero]; rfl)
        case hQ46 => exact fun _ _ _ h => h
        case hS46 => assumption
        case hy46 => exact Or.inr ⟨by rfl, rfl⟩
        try simp only [Act.put, List.setIfInBounds_toArray, List.set_cons_zero, List.set_cons_succ]
        refine' wpAnyH_take (i := 17) (oi := _) (v := undef) ?hi47 (by kernel_rfl) (by kernel_rfl) (by kernel_rfl) ?hQ47 ?hy47 ?hS47 ?rest47
        case hi47 => (simp only [List.getElem?_toArray, List.getElem?_cons_succ, List.getElem?_cons_zero]; rfl)
        case hQ47 => exact fun _ _ _ h => h
        case hS47 => assumption
        case hy47 => exact Or.inr ⟨by rfl, rfl⟩
        try simp only [Act.put, List.setIfInBounds_toArray, List.set_cons_zero, List.set_cons_succ]
        refine' wpAnyH_take (i := 18) (oi := _) (v := undef) ?hi48 (by kernel_rfl) (by kernel_rfl) (by kernel_rfl) ?hQ48 ?hy48 ?hS48 ?rest48
        case hi48 => (simp only [List.getElem?_toArray, List.getElem?_cons_succ, List.getElem?_cons_zero]; rfl)
        case hQ48 => exact fun _ _ _ h => h
        case hS48 => assumption
        case hy48 => exact Or.inr ⟨by rfl, rfl⟩
        try simp only [Act.put, List.setIfInBounds_toArray, List.set_cons_zero, List.set_cons_succ]
        refine' wpAnyH_take (i := 19) (oi := _) (v := undef) ?hi49 (by kernel_rfl) (by kernel_rfl) (by kernel_rfl) ?hQ49 ?hy49 ?hS49 ?rest49
        case hi49 => (simp only [List.getElem?_toArray, List.getElem?_cons_succ, List.getElem?_cons_zero]; rfl)
        case hQ49 => exact fun _ _ _ h => h
        case hS49 => assumption
        case hy49 => exact Or.inr ⟨by rfl, rfl⟩
        try simp only [Act.put, List.setIfInBounds_toArray, List.set_cons_zero, List.set_cons_succ]
        refine' wpAnyH_take (i := 20) (oi := _) (v := undef) ?hi50 (by kernel_rfl) (by kernel_rfl) (by kernel_rfl) ?hQ50 ?hy50 ?hS50 ?rest50
        case hi50 => (simp only [List.getElem?_toArray, List.getElem?_cons_succ, List.getElem?_cons_zero]; rfl)
        case hQ50 => exact fun _ _ _ h => h
        case hS50 => assumption
        case hy50 => exact Or.inr ⟨by rfl, rfl⟩
        try simp only [Act.put, List.setIfInBounds_toArray, List.set_cons_zero, List.set_cons_succ]
        refine' wpAnyH_take (i := 21) (oi := _) (v := undef) ?hi51 (by kernel_rfl) (by kernel_rfl) (by kernel_rfl) ?hQ51 ?hy51 ?hS51 ?rest51
        case hi51 => (simp only [List.getElem?_toArray, List.getElem?_cons_succ, List.getElem?_cons_zero]; rfl)
        case hQ51 => exact fun _ _ _ h => h
        case hS51 => assumption
        case hy51 => exact Or.inr ⟨by rfl, rfl⟩
        try simp only [Act.put, List.setIfInBounds_toArray, List.set_cons_zero, List.set_cons_succ]
        refine' wpAnyH_take (i := 22) (oi := _) (v := undef) ?hi52 (by kernel_rfl) (by kernel_rfl) (by kernel_rfl) ?hQ52 ?hy52 ?hS52 ?rest52
        case hi52 => (simp only [List.getElem?_toArray, List.getElem?_cons_succ, List.getElem?_cons_zero]; rfl)
        case hQ52 => exact fun _ _ _ h => h
        case hS52 => assumption
        case hy52 => exact Or.inr ⟨by rfl, rfl⟩
        try simp only [Act.put, List.setIfInBounds_toArray, List.set_cons_zero, List.set_cons_succ]
        refine' wpAnyH_take (i := 23) (oi := _) (v := undef) ?hi53 (by kernel_rfl) (by kernel_rfl) (by kernel_rfl) ?hQ53 ?hy53 ?hS53 ?rest53
        case hi53 => (simp only [List.getElem?_toArray, List.getElem?_cons_succ, List.getElem?_cons_zero]; rfl)
        case hQ53 => exact fun _ _ _ h => h
        case hS53 => assumption
        case hy53 => exact Or.inr ⟨by rfl, rfl⟩
        try simp only [Act.put, List.setIfInBounds_toArray, List.set_cons_zero, List.set_cons_succ]
        refine' wpAnyH_take (i := 24) (oi := _) (v := undef) ?hi54 (by kernel_rfl) (by kernel_rfl) (by kernel_rfl) ?hQ54 ?hy54 ?hS54 ?rest54
        case hi54 => (simp only [List.getElem?_toArray, List.getElem?_cons_succ, List.getElem?_cons_zero]; rfl)
        case hQ54 => exact fun _ _ _ h => h
        case hS54 => assumption
        case hy54 => exact Or.inr ⟨by rfl, rfl⟩
        try simp only [Act.put, List.setIfInBounds_toArray, List.set_cons_zero, List.set_cons_succ]
        refine' wpAnyH_take (i := 25) (oi := _) (v := undef) ?hi55 (by kernel_rfl) (by kernel_rfl) (by kernel_rfl) ?hQ55 ?hy55 ?hS55 ?rest55
        case hi55 => (simp only [List.getElem?_toArray, List.getElem?_cons_succ, List.getElem?_cons_zero]; rfl)
        case hQ55 => exact fun _ _ _ h => h
        case hS55 => assumption
        case hy55 => exact Or.inr ⟨by rfl, rfl⟩
        try simp only [Act.put, List.setIfInBounds_toArray, List.set_cons_zero, List.set_cons_succ]
        refine' wpAnyH_take (i := 26) (oi := _) (v := undef) ?hi56 (by kernel_rfl) (by kernel_rfl) (by kernel_rfl) ?hQ56 ?hy56 ?hS56 ?rest56
        case hi56 => (simp only [List.getElem?_toArray, List.getElem?_cons_succ, List.getElem?_cons_zero]; rfl)
        case hQ56 => exact fun _ _ _ h => h
        case hS56 => assumption
        case hy56 => exact Or.inr ⟨by rfl, rfl⟩
        try simp only [Act.put, List.setIfInBounds_toArray, List.set_cons_zero, List.set_cons_succ]
        refine' wpAnyH_take (i := 27) (oi := _) (v := undef) ?hi57 (by kernel_rfl) (by kernel_rfl) (by kernel_rfl) ?hQ57 ?hy57 ?hS57 ?rest57
        case hi57 => (simp only [List.getElem?_toArray, List.getElem?_cons_succ, List.getElem?_cons_zero]; rfl)
        case hQ57 => exact fun _ _ _ h => h
        case hS57 => assumption
        case hy57 => exact Or.inr ⟨by rfl, rfl⟩
        try simp only [Act.put, List.setIfInBounds_toArray, List.set_cons_zero, List.set_cons_succ]
        refine' wpAnyH_take (i := 28) (oi := _) (v := _) ?hi58 (by kernel_rfl) (by kernel_rfl) (by kernel_rfl) ?hQ58 ?hy58 ?hS58 ?rest58
        case hi58 => (simp only [List.getElem?_toArray, List.getElem?_cons_succ, List.getElem?_cons_zero]; rfl)
        case hQ58 => exact fun _ _ _ h => h
        case hS58 => assumption
        case hy58 => (refine Or.inl ⟨by rfl, fun w hSw => ?_⟩; (try dsimp only at hSw); go_simp <;> with_reducible rfl)
        try simp only [Act.put, List.setIfInBounds_toArray, List.set_cons_zero, List.set_cons_succ]
        refine wpAnyH_done (by kernel_rfl) ?_ _
        go_wp2
        go_ret2
        refine ⟨none, 0, 0, ret_slb HT.out, ?_, hB3⟩
        rw [EN.out HT.out]; exact Own.nil _ _ _ _
      | true =>
        by_cases hm0 : m = 0
        · have hd0 : decide (0 < m) = false := decide_eq_false (by omega)
          have hd1 : decide ((0 : Int) < (m : Int)) = false := decide_eq_false (by omega)
          have hdz : decide (m = 0) = true := decide_eq_true hm0
          have Hdz := Lib.hid hdz
          clear hm0 hdz
          have HT : Hid (ok_CI gs ss = true) := by unfold Hid; rw [HOK.out]; rw [Hdz.out]; rfl
          go_enter Try.func20, Try.ntmps20
          go_wp2
          refine wp_region_held_drew (S := fun _ => True) (by kernel_rfl) trivial (fun hHeld => ?_)
          refine' wpAnyH_take (i := 0) (oi := _) (v := _) ?hi59 (by kernel_rfl) (by kernel_rfl) (by kernel_rfl) ?hQ59 ?hy59 ?hS59 ?rest59
          case hi59 => (simp only [List.getElem?_toArray, List.getElem?_cons_succ, List.getElem?_cons_zero]; rfl)
          case hQ59 => exact fun _ _ _ h => h
          case hS59 => assumption
          case hy59 => (refine Or.inl ⟨by rfl, fun w hSw => ?_⟩; (try dsimp only at hSw); go_simp <;> with_reducible rfl)
          try simp only [Act.put, List.setIfInBounds_toArray, List.set_cons_zero, List.set_cons_succ]
          refine wpAnyH_ready (rs := [1]) (by kernel_rfl) (by simp) ?_
          refine' AllReadyH.cons (o := _) ?hi60 (fun K hK => ?step60) AllReadyH.nil
          case hi60 => (simp only [List.getElem?_toArray, List.getElem?_cons_succ, List.getElem?_cons_zero]; rfl)
          go_simp
          go_at_call 37; (with_reducible refine (HA.out _ ?hA).mono ?_); (case hA => first | exact hB0 | exact below_drewN' (Below.refl _ _) _); rintro e x1 ⟨rfl, d1, rfl⟩
          refine hK.out _ _ trivial (fun hHeld => ?_)
          clear hK K
          try simp only [Act.put, List.setIfInBounds_toArray, List.set_cons_zero, List.set_cons_succ]
          refine' wpAnyH_take (i := 2) (oi := _) (v := _) ?hi61 (by kernel_rfl) (by kernel_rfl) (by kernel_rfl) ?hQ61 ?hy61 ?hS61 ?rest61
          case hi61 => (simp only [List.getElem?_toArray, List.getElem?_cons_succ, List.getElem?_cons_zero]; rfl)
          case hQ61 => exact fun _ _ _ h => h
          case hS61 => assumption
          case hy61 => (refine Or.inl ⟨by rfl, fun w hSw => ?_⟩; (try dsimp only at hSw); go_simp <;> with_reducible rfl)
          try simp only [Act.put, List.setIfInBounds_toArray, List.set_cons_zero, List.set_cons_succ]
          refine' wpAnyH_take (i := 3) (oi := _) (v := _) ?hi62 (by kernel_rfl) (by kernel_rfl) (by kernel_rfl) ?hQ62 ?hy62 ?hS62 ?rest62
          case hi62 => (simp only [List.getElem?_toArray, List.getElem?_cons_succ, List.getElem?_cons_zero]; rfl)
          case hQ62 => exact fun _ _ _ h => h
          case hS62 => assumption
          case hy62 => (refine Or.inl ⟨by rfl, fun w hSw => ?_⟩; (try dsimp only at hSw); go_simp <;> with_reducible rfl)
          try simp only [Act.put, List.setIfInBounds_toArray, List.set_cons_zero, List.set_cons_succ]
          refine' wpAnyH_take (i := 4) (oi := _) (v := _) ?hi63 (by kernel_rfl) (by kernel_rfl) (by kernel_rfl) ?hQ63 ?hy63 ?hS63 ?rest63
          case hi63 => (simp only [List.getElem?_toArray, List.getElem?_cons_succ, List.getElem?_cons_zero]; rfl)
          case hQ63 => exact fun _ _ _ h => h
          case hS63 => assumption
          case hy63 => (refine Or.inl ⟨by rfl, fun w hSw => ?_⟩; (try dsimp only at hSw); go_simp <;> with_reducible rfl)
          try simp only [Act.put, List.setIfInBounds_toArray, List.set_cons_zero, List.set_cons_succ]
          refine wpAnyH_ready (rs := [5]) (by kernel_rfl) (by simp) ?_
          refine' AllReadyH.cons (o := _) ?hi64 (fun K hK => ?step64) AllReadyH.nil
          case hi64 => (simp only [List.getElem?_toArray, List.getElem?_cons_succ, List.getElem?_cons_zero]; rfl)
          go_simp
          go_at_call 38; (with_reducible refine (HG.out (by trivial) _ ?hG).mono ?_); (case hG => exact below_drewN' (Below.refl _ _) _); rintro e x2 ⟨rfl, hb2⟩; have hB2 := (below_drewN' (Below.refl _ _) _ : Below W.heap.size W (W.drewN _)).trans hb2
          refine hK.out _ _ trivial (fun hHeld => ?_)
          clear hK K
          try simp only [Act.put, List.setIfInBounds_toArray, List.set_cons_zero, List.set_cons_succ]
          refine' wpAnyH_take (i := 6) (oi := _) (v := _) ?hi65 (by kernel_rfl) (by kernel_rfl) (by kernel_rfl) ?hQ65 ?hy65 ?hS65 ?rest65
          case hi65 => (simp only [List.getElem?_toArray, List.getElem?_cons_succ, List.getElem?_cons_zero]; rfl)
          case hQ65 => exact fun _ _ _ h => h
          case hS65 => assumption
          case hy65 => (refine Or.inl ⟨by rfl, fun w hSw => ?_⟩; (try dsimp only at hSw); go_simp <;> with_reducible rfl)
          try simp only [Act.put, List.setIfInBounds_toArray, List.set_cons_zero, List.set_cons_succ]
          refine' wpAnyH_take (i := 7) (oi := _) (v := _) ?hi66 (by kernel_rfl) (by kernel_rfl) (by kernel_rfl) ?hQ66 ?hy66 ?hS66 ?rest66
          case hi66 => (simp only [List.getElem?_toArray, List.getElem?_cons_succ, List.getElem?_cons_zero]; rfl)
          case hQ66 => exact fun _ _ _ h => h
          case hS66 => assumption
          case hy66 => (refine Or.inl ⟨by rfl, fun w hSw => ?_⟩; (try dsimp only at hSw); go_simp <;> with_reducible rfl)
          try simp only [Act.put, List.setIfInBounds_toArray, List.set_cons_zero, List.set_cons_succ]
          refine' wpAnyH_take (i := 8) (oi := _) (v := _) ?hi67 (by kernel_rfl) (by kernel_rfl) (by kernel_rfl) ?hQ67 ?hy67 ?hS67 ?rest67
          case hi67 => (simp only [List.getElem?_toArray, List.getElem?_cons_succ, List.getElem?_cons_zero]; rfl)
          case hQ67 => exact fun _ _ _ h => h
          case hS67 => assumption
          case hy67 => (refine Or.inl ⟨by rfl, fun w hSw => ?_⟩; (try dsimp only at hSw); go_simp <;> with_reducible rfl)
          try simp only [Act.put, List.setIfInBounds_toArray, List.set_cons_zero, List.set_cons_succ]
          refine' wpAnyH_take (i := 9) (oi := _) (v := _) ?hi68 (by kernel_rfl) (by kernel_rfl) (by kernel_rfl) ?hQ68 ?hy68 ?hS68 ?rest68
          case hi68 => (simp only [List.getElem?_toArray, List.getElem?_cons_succ, List.getElem?_cons_zero]; rfl)
          case hQ68 => exact fun _ _ _ h => h
          case hS68 => assumption
          case hy68 => (refine Or.inl ⟨by rfl, fun w hSw => ?_⟩; (try dsimp only at hSw); go_simp <;> with_reducible rfl)
          try simp only [Act.put, List.setIfInBounds_toArray, List.set_cons_zero, List.set_cons_succ]
          refine wpAnyH_ready (rs := [10]) (by kernel_rfl) (by simp) ?_
          refine' AllReadyH.cons (o := _) ?hi69 (fun K hK => ?step69) AllReadyH.nil
          case hi69 => (simp only [List.getElem?_toArray, List.getElem?_cons_succ, List.getElem?_cons_zero]; rfl)
          go_simp
          go_at_call 26; (with_reducible refine (HR.out _ ?hR).mono ?_); (case hR => exact hB2); rintro e x3 ⟨rfl, d3, rfl⟩; have hB3 := below_drewN' hB2 d3
          refine hK.out _ _ trivial (fun hHeld => ?_)
          clear hK K
          try simp only [Act.put, List.setIfInBounds_toArray, List.set_cons_zero, List.set_cons_succ]
          refine' wpAnyH_take (i := 11) (oi := _) (v := _) ?hi70 (by kernel_rfl) (by kernel_rfl) (by kernel_rfl) ?hQ70 ?hy70 ?hS70 ?rest70
          case hi70 => (simp only [List.getElem?_toArray, List.getElem?_cons_succ, List.getElem?_cons_zero]; rfl)
          case hQ70 => exact fun _ _ _ h => h
          case hS70 => assumption
          case hy70 => (refine Or.inl ⟨by rfl, fun w hSw => ?_⟩; (try dsimp only at hSw); go_simp <;> with_reducible rfl)
          try simp only [Act.put, List.setIfInBounds_toArray, List.set_cons_zero, List.set_cons_succ]
          refine' wpAnyH_take (i := 12) (oi := _) (v := _) ?hi71 (by kernel_rfl) (by kernel_rfl) (by kernel_rfl) ?hQ71 ?hy71 ?hS71 ?rest71
          case hi71 => (simp only [List.getElem?_toArray, List.getElem?_cons_succ, List.getElem?_cons_zero]; rfl)
          case hQ71 => exact fun _ _ _ h => h
          case hS71 => assumption
          case hy71 => (refine Or.inl ⟨by rfl, fun w hSw => ?_⟩; (try dsimp only at hSw); go_simp <;> with_reducible rfl)
          try simp only [Act.put, List.setIfInBounds_toArray, List.set_cons_zero, List.set_cons_succ]
          refine' wpAnyH_take (i := 13) (oi := _) (v := _) ?hi72 (by kernel_rfl) (by kernel_rfl) (by kernel_rfl) ?hQ72 ?hy72 ?hS72 ?rest72
          case hi72 => (simp only [List.getElem?_toArray, List.getElem?_cons_succ, List.getElem?_cons_zero]; rfl)
          case hQ72 => exact fun _ _ _ h => h
          case hS72 => assumption
          case hy72 => (refine Or.inl ⟨by rfl, fun w hSw => ?_⟩; (try dsimp only at hSw); go_simp <;> with_reducible rfl)
          try simp only [Act.put, List.setIfInBounds_toArray, List.set_cons_zero, List.set_cons_succ]
          refine' wpAnyH_take (i := 14) (oi := _) (v := _) ?hi73 (by kernel_rfl) (by kernel_rfl) (by kernel_rfl) ?hQ73 ?hy73 ?hS73 ?rest73
          case hi73 => (simp only [List.getElem?_toArray, List.getElem?_cons_succ, List.getElem?_cons_zero]; rfl)
          case hQ73 => exact fun _ _ _ h => h
          case hS73 => assumption
          case hy73 => (refine Or.inl ⟨by rfl, fun w hSw => ?_⟩; (try dsimp only at hSw); go_simp <;> with_reducible rfl)
          try simp only [Act.put, List.setIfInBounds_toArray, List.set_cons_zero, List.set_cons_succ]
          refine' wpAnyH_take (i := 15) (oi := _) (v := _) ?hi74 (by kernel_rfl) (by kernel_rfl) (by kernel_rfl) ?hQ74 ?hy74 ?hS74 ?rest74
          case hi74 => (simp only [List.getElem?_toArray, List.getElem?_cons_succ, List.getElem?_cons_zero]; rfl)
          case hQ74 => exact fun _ _ _ h => h
          case hS74 => assumption
          case hy74 => (refine Or.inl ⟨by rfl, fun w hSw => ?_⟩; (try dsimp only at hSw); go_simp <;> with_reducible rfl)
          try simp only [Act.put, List.setIfInBounds_toArray, List.set_cons_zero, List.set_cons_succ]
          refine' wpAnyH_take (i := 16) (oi := _) (v := _) ?hi75 (by kernel_rfl) (by kernel_rfl) (by kernel_rfl) ?hQ75 ?hy75 ?hS75 ?rest75
          case hi75 => (simp only [List.getElem?_toArray, List.getElem?_cons_succ, List.getElem?_cons_zero]; rfl)
          case hQ75 => exact fun _ _ _ h => h
          case hS75 => assumption
          case hy75 => (refine Or.inl ⟨by rfl, fun w hSw => ?_⟩; (try dsimp only at hSw); go_simp <;> with_reducible rfl)
          try simp only [Act.put, List.setIfInBounds_toArray, List.set_cons_zero, List.set_cons_succ]
          refine' wpAnyH_take (i := 17) (oi := _) (v := _) ?hi76 (by kernel_rfl) (by kernel_rfl) (by kernel_rfl) ?hQ76 ?hy76 ?hS76 ?rest76
          case hi76 => (simp only [List.getElem?_toArray, List.getElem?_cons_succ, List.getElem?_cons_zero]; rfl)
          case hQ76 => exact fun _ _ _ h => h
          case hS76 => assumption
          case hy76 => (refine Or.inl ⟨by rfl, fun w hSw => ?_⟩; (try dsimp only at hSw); go_simp <;> with_reducible rfl)
          try simp only [Act.put, List.setIfInBounds_toArray, List.set_cons_zero, List.set_cons_succ]
          refine' wpAnyH_take (i := 18) (oi := _) (v := undef) ?hi77 (by kernel_rfl) (by kernel_rfl) (by kernel_rfl) ?hQ77 ?hy77 ?hS77 ?rest77
          case hi77 => (simp only [List.getElem?_toArray, List.getElem?_cons_succ, List.getElem?_cons_zero]; rfl)
          case hQ77 => exact fun _ _ _ h => h
          case hS77 => assumption
          case hy77 => exact Or.inr ⟨by rfl, rfl⟩
          try simp only [Act.put, List.setIfInBounds_toArray, List.set_cons_zero, List.set_cons_succ]
          refine' wpAnyH_take (i := 19) (oi := _) (v := undef) ?hi78 (by kernel_rfl) (by kernel_rfl) (by kernel_rfl) ?hQ78 ?hy78 ?hS78 ?rest78
          case hi78 => (simp only [List.getElem?_toArray, List.getElem?_cons_succ, List.getElem?_cons_zero]; rfl)
          case hQ78 => exact fun _ _ _ h => h
          case hS78 => assumption
          case hy78 => exact Or.inr ⟨by rfl, rfl⟩
          try simp only [Act.put, List.setIfInBounds_toArray, List.set_cons_zero, List.set_cons_succ]
          refine' wpAnyH_take (i := 20) (oi := _) (v := undef) ?hi79 (by kernel_rfl) (by kernel_rfl) (by kernel_rfl) ?hQ79 ?hy79 ?hS79 ?rest79
          case hi79 => (simp only [List.getElem?_toArray, List.getElem?_cons_succ, List.getElem?_cons_zero]; rfl)
          case hQ79 => exact fun _ _ _ h => h
          case hS79 => assumption
          case hy79 => exact Or.inr ⟨by rfl, rfl⟩
          try simp only [Act.put, List.setIfInBounds_toArray, List.set_cons_zero, List.set_cons_succ]
          refine' wpAnyH_take (i := 21) (oi := _) (v := undef) ?hi80 (by kernel_rfl) (by kernel_rfl) (by kernel_rfl) ?hQ80 ?hy80 ?hS80 ?rest80
          case hi80 => (simp only [List.getElem?_toArray, List.getElem?_cons_succ, List.getElem?_cons_zero]; rfl)
          case hQ80 => exact fun _ _ _ h => h
          case hS80 => assumption
          case hy80 => exact Or.inr ⟨by rfl, rfl⟩
          try simp only [Act.put, List.setIfInBounds_toArray, List.set_cons_zero, List.set_cons_succ]
          refine' wpAnyH_take (i := 22) (oi := _) (v := undef) ?hi81 (by kernel_rfl) (by kernel_rfl) (by kernel_rfl) ?hQ81 ?hy81 ?hS81 ?rest81
          case hi81 => (simp only [List.getElem?_toArray, List.getElem?_cons_succ, List.getElem?_cons_zero]; rfl)
          case hQ81 => exact fun _ _ _ h => h
          case hS81 => assumption
          case hy81 => exact Or.inr ⟨by rfl, rfl⟩
          try simp only [Act.put, List.setIfInBounds_toArray, List.set_cons_zero, List.set_cons_succ]
          refine' wpAnyH_take (i := 23) (oi := _) (v := undef) ?hi82 (by kernel_rfl) (by kernel_rfl) (by kernel_rfl) ?hQ82 ?hy82 ?hS82 ?rest82
          case hi82 => (simp only [List.getElem?_toArray, List.getElem?_cons_succ, List.getElem?_cons_zero]; rfl)
          case hQ82 => exact fun _ _ _ h => h
          case hS82 => assumption
          case hy82 => exact Or.inr ⟨by rfl, rfl⟩
          try simp only [Act.put, List.setIfInBounds_toArray, List.set_cons_zero, List.set_cons_succ]
          refine' wpAnyH_take (i := 24) (oi := _) (v := undef) ?hi83 (by kernel_rfl) (by kernel_rfl) (by kernel_rfl) ?hQ83 ?hy83 ?hS83 ?rest83
          case hi83 => (simp only [List.getElem?_toArray, List.getElem?_cons_succ, List.getElem?_cons_zero]; rfl)
          case hQ83 => exact fun _ _ _ h => h
          case hS83 => assumption
          case hy83 => exact Or.inr ⟨by rfl, rfl⟩
          try simp only [Act.put, List.setIfInBounds_toArray, List.set_cons_zero, List.set_cons_succ]
          refine' wpAnyH_take (i := 25) (oi := _) (v := undef) ?hi84 (by kernel_rfl) (by kernel_rfl) (by kernel_rfl) ?hQ84 ?hy84 ?hS84 ?rest84
          case hi84 => (simp only [List.getElem?_toArray, List.getElem?_cons_succ, List.getElem?_cons_zero]; rfl)
          case hQ84 => exact fun _ _ _ h => h
          case hS84 => assumption
          case hy84 => exact Or.inr ⟨by rfl, rfl⟩
          try simp only [Act.put, List.setIfInBounds_toArray, List.set_cons_zero, List.set_cons_succ]
          refine' wpAnyH_take (i := 26) (oi := _) (v := undef) ?hi85 (by kernel_rfl) (by kernel_rfl) (by kernel_rfl) ?hQ85 ?hy85 ?hS85 ?rest85
          case hi85 => (simp only [List.getElem?_toArray, List.getElem?_cons_succ, List.getElem?_cons_zero]; rfl)
          case hQ85 => exact fun _ _ _ h => h
          case hS85 => assumption
          case hy85 => exact Or.inr ⟨by rfl, rfl⟩
          try simp only [Act.put, List.setIfInBounds_toArray, List.set_cons_zero, List.set_cons_succ]
          refine' wpAnyH_take (i := 27) (oi := _) (v := _) ?hi86 (by kernel_rfl) (by kernel_rfl) (by kernel_rfl) ?hQ86 ?hy86 ?hS86 ?rest86
          case hi86 => (simp only [List.getElem?_toArray, List.getElem?_cons_succ, List.getElem?_cons_zero]; rfl)
          case hQ86 => exact fun _ _ _ h => h
          case hS86 => assumption
          case hy86 => (refine Or.inl ⟨by rfl, fun w hSw => ?_⟩; (try dsimp only at hSw); go_simp <;> with_reducible rfl)
          try simp only [Act.put, List.setIfInBounds_toArray, List.set_cons_zero, List.set_cons_succ]
          refine' wpAnyH_take (i := 28) (oi := _) (v := _) ?hi87 (by kernel_rfl) (by kernel_rfl) (by kernel_rfl) ?hQ87 ?hy87 ?hS87 ?rest87
          case hi87 => (simp only [List.getElem?_toArray, List.getElem?_cons_succ, List.getElem?_cons_zero]; rfl)
          case hQ87 => exact fun _ _ _ h => h
          case hS87 => assumption
          case hy87 => (refine Or.inl ⟨by rfl, fun w hSw => ?_⟩; (try dsimp only at hSw); go_simp <;> with_reducible rfl)
          try simp only [Act.put, List.setIfInBounds_toArray, List.set_cons_zero, List.set_cons_succ]
          refine wpAnyH_done (by kernel_rfl) ?_ _
          have hn800' := hn800 HT.out
          have HE := Lib.hid (HEach.out HT.out)
          have hm800 := HE.out.2.1
          have hglen : Hid (∀ r, (gs.map (timS r)).length = n) := fun r => by rw [List.length_map]; exact Hl1.out
          have HB0 := Lib.hid hB3
          clear hn800 hB0 hB2 hB3 hb2
          go_wp2
          go_loopw [6, 43] (fun l i wr => ∃ (k L : Nat) (A3 : Option Addr) (c3 : Nat), i = .int .i64 k ∧ l = .slice A3 L c3 ∧ k ≤ m ∧ L ≤ k ∧ Hid (Own wr 9 W.heap.size wr.heap.size A3 L c3 (strsV (lsI gs (ss.take k)))) ∧ Hid (Below W.heap.size W wr)) (fun _ i _ => m - (intOf i).toNat)
          case atStart => exact ⟨0, 0, none, 0, rfl, rfl, by omega, by omega, Own.nil _ _ _ _, HB0.out⟩
          case round =>
            obtain ⟨k, L, A3, c3, rfl, rfl, hk, hL, HO, HB3⟩ := hrel
            by_cases hlt : k < m
            · obtain ⟨b2, o2, e9, _, hcs⟩ := (Hr2.out.below HB3.out).strD hlt
              have hc1 := hcs k hlt
              have HEk := Lib.hid (HE.out.2.2 k hlt)
              have HS := Lib.hid (lsI_take gs ss (k := k) (by have := Hl2.out; omega))
              obtain ⟨r, hrr⟩ : ∃ r, r = getS ss k := ⟨_, rfl⟩
              rw [← hrr] at hc1 HEk HS
              have HLr := Lib.hid (HL.out r wr HEk.out.1 HEk.out.2 hn800' (Hr.out.below HB3.out))
              have hgl := hglen.out r
              obtain ⟨tl, htl⟩ : ∃ t, t = gs.map (timS r) := ⟨_, rfl⟩
              rw [← htl] at HS HLr hgl
              obtain ⟨mn, hmn⟩ : ∃ t, t = Lib.minOfS tl := ⟨_, rfl⟩
              rw [← hmn] at HS
              have HMn : Hid (∀ A5 n5 c5 w, 0 < n5 → Rd w A5 n5 (strsV tl) → Calls Try.prog 45 #[.slice A5 n5 c5] w fun e w' => e = .returned (.string mn) ∧ w = w') := fun A5 n5 c5 w h1 h2 => by rw [hmn]; exact l6Least_any A5 n5 c5 tl w h1 h2
              have HGl := Lib.hid hgl
              have i2 : (k : Int) < (m : Int) := by omega
              clear hcs hrr htl hmn hgl
              subst e9
              go_wp2_with first
                | (go_at_call 40; refine HLr.out.mono ?_; rintro e x5 ⟨A5, n5, c5, rfl, ho5, hb5⟩; have hn5 : 0 < n5 := (by have := ho5.rd.slen; have := HGl.out; omega))
                | (go_at_call 45; refine (HMn.out A5 n5 c5 _ hn5 ho5.rd).mono ?_; rintro e w6 ⟨rfl, rfl⟩; have HO5 := (HO.out.below hb5).mono (Nat.le_refl W.heap.size) hb5.size; have HB5 := HB3.out.trans (hb5.mono HB3.out.size))
                | (at_builtin; refine wpList_append1x x5 rfl (.tmp 47) (.tmp 52) 22 rfl 9 (.string ByteArray.empty) 16 Try.underlying22 info_str rfl W.heap.size A3 L c3 _ (.string mn) rfl rfl rfl HO5 (by omega) (by omega) HB5.size ?_; intro A7 c7 x7 ho7 hx7 hsz7 hat7)
              have HO7 : Hid (Own x7 9 W.heap.size x7.heap.size A7 (L + 1) c7 (strsV (lsI gs (ss.take (k + 1))))) := ho7.congr (by rw [HS.out, strsV_app, strsV_one])
              have HB7 : Hid (Below W.heap.size W x7) := HB5.trans (HO5.below_ hx7 HB5.size)
              clear hb5 ho5 HO5 HB5 ho7 hx7 hat7 hsz7
              go_roundw
              case rel => exact ⟨k + 1, L + 1, A7, c7, by go_num, rfl, by omega, by omega, HO7.out, HB7.out⟩
              case measure => (simp [intOf] <;> omega)
            · have HO4 : Own wr 9 W.heap.size wr.heap.size A3 L c3 (strsV (lsI gs ss)) := by
                have h7 := HO.out
                rwa [List.take_of_length_le (by have := Hl2.out; omega)] at h7
              have HSo := Lib.hid (l6Sort_any L A3 L c3 (lsI gs ss) wr (Nat.le_refl _) (by omega) HO4.rd)
              have HOut : Hid (out_CosetsIn gs ss = cmT (srt (lsI gs ss)) L) := by
                unfold Hid
                rw [EY.out HT.out]
                unfold cmS
                rw [srt_len, HO4.rd.slen]
              have HSlen : Hid ((srt (lsI gs ss)).length = L) := by unfold Hid; rw [srt_len, HO4.rd.slen]
              obtain ⟨sl, hsl⟩ : ∃ s, s = srt (lsI gs ss) := ⟨_, rfl⟩
              rw [← hsl] at HSo HOut HSlen
              clear HO4 hsl
              go_wp2_with (go_at_call 27; refine HSo.out.mono ?_; rintro e w5 ⟨A5, n5, c5, rfl, ho5, hb5⟩; have hn5 : n5 = L := (by have := ho5.rd.slen; have := HSlen.out; omega))
              subst hn5
              have HR5 : Hid (Rd w5 A5 n5 (strsV sl)) := ho5.rd
              have HB5 : Hid (Below W.heap.size W w5) := HB3.out.trans (hb5.mono HB3.out.size)
              clear ho5 hb5 HO HB3
              obtain ⟨wo, rfl⟩ : ∃ w, w = w5 := ⟨_, rfl⟩
              go_loopw [7, 58] (fun l i wr => ∃ (k L2 : Nat) (A3 : Option Addr) (c3 : Nat), i = .int .i64 k ∧ l = .slice A3 L2 c3 ∧ k ≤ n5 ∧ L2 ≤ k ∧ Hid (Own wr 9 wo.heap.size wr.heap.size A3 L2 c3 (strsV (cmT sl k))) ∧ Hid (Below wo.heap.size wo wr)) (fun _ i _ => n5 - (intOf i).toNat)
              case atStart => exact ⟨0, 0, none, 0, rfl, rfl, by omega, by omega, Own.nil _ _ _ _, Below.refl _ _⟩
              case round =>
                obtain ⟨k2, L2, A6, c6, rfl, rfl, hk2, hL2, HO6, HB6⟩ := hrel
                by_cases hlt2 : k2 < n5
                · obtain ⟨b5, o5, rfl, _, hcs⟩ := (HR5.out.below HB6.out).strD hlt2
                  have hc1 := hcs k2 hlt2
                  have i2 : (k2 : Int) < (n5 : Int) := by omega
                  have hlen6 : (cmT sl k2).length = L2 := HO6.out.rd.slen
                  by_cases hk0 : k2 = 0
                  · have hne0 : ((L2 : Int) == 0) = true := by simp; omega
                    have HS : Hid (cmT sl (k2 + 1) = cmT sl k2 ++ [getS sl k2]) := by unfold Hid; simp only [cmT]; rw [if_pos (.inl hk0)]
                    obtain ⟨r, hrr⟩ : ∃ r, r = getS sl k2 := ⟨_, rfl⟩
                    rw [← hrr] at hc1 HS
                    clear hcs hrr hlen6 hk0
                    have hso : wo.heap.size ≤ wr.heap.size := HB6.out.size
                    go_wp2_with (at_builtin; refine wpList_append1x wr rfl (.tmp 75) (.tmp 77) 22 rfl 9 (.string ByteArray.empty) 16 Try.underlying22 info_str rfl wo.heap.size A6 L2 c6 _ (.string r) rfl rfl rfl HO6.out (by omega) (by omega) hso ?_; intro A7 c7 x7 ho7 hx7 hsz7 hat7)
                    have HO7 : Hid (Own x7 9 wo.heap.size x7.heap.size A7 (L2 + 1) c7 (strsV (cmT sl (k2 + 1)))) := ho7.congr (by rw [HS.out, strsV_app, strsV_one])
                    have HB7 : Hid (Below wo.heap.size wo x7) := HB6.out.trans (HO6.out.below_ hx7 hso)
                    clear ho7 hx7 hat7 hsz7
                    go_roundw
                    case rel => exact ⟨k2 + 1, L2 + 1, A7, c7, by go_num, rfl, by omega, by omega, HO7.out, HB7.out⟩
                    case measure => (simp [intOf] <;> omega)
                  · have hpos : 0 < L2 := by have := cmT_pos sl k2 (by omega); omega
                    obtain ⟨g6, o6, rfl, _, hcs6⟩ := HO6.out.rd.strD (k := 0) hpos
                    have hc6 : wr.cell? ⟨g6, o6 + (L2 - 1), none⟩ = some (.string (getS (cmT sl k2) (L2 - 1))) := hcs6 (L2 - 1) (by omega)
                    have hla := cmT_last sl (k2 - 1)
                    rw [show k2 - 1 + 1 = k2 by omega, hlen6] at hla
                    rw [hla] at hc6
                    have HSy : Hid (getS sl k2 ≠ getS sl (k2 - 1) → cmT sl (k2 + 1) = cmT sl k2 ++ [getS sl k2]) := fun h => by simp only [cmT]; rw [if_pos (.inr h)]
                    have HSn : Hid (getS sl k2 = getS sl (k2 - 1) → cmT sl (k2 + 1) = cmT sl k2) := fun h => by
                      simp only [cmT]
                      rw [if_neg]
                      rintro (h1 | h1)
                      · exact hk0 h1
                      · exact h1 h
                    obtain ⟨r, hrr⟩ : ∃ r, r = getS sl k2 := ⟨_, rfl⟩
                    obtain ⟨q, hqq⟩ : ∃ r, r = getS sl (k2 - 1) := ⟨_, rfl⟩
                    rw [← hrr] at hc1 HSy HSn
                    rw [← hqq] at hc6 HSy HSn
                    have hne0 : ((L2 : Int) == 0) = false := by simp; omega
                    have j1 : (1 : Int) ≤ (L2 : Int) := by omega
                    have j2 : (L2 : Int) - 1 < (L2 : Int) := by omega
                    have j3 : (0 : Int) ≤ (L2 : Int) - 1 := by omega
                    have j4 : ((L2 : Int) - 1).toNat = L2 - 1 := by omega
                    have hso : wo.heap.size ≤ wr.heap.size := HB6.out.size
                    clear hcs hcs6 hrr hqq hla hlen6
                    by_cases he : r = q
                    · have HS := Lib.hid (HSn.out he)
                      subst he
                      clear HSy HSn
                      go_wp2
                      go_roundw
                      case rel => exact ⟨k2 + 1, L2, _, c6, by go_num, rfl, by omega, by omega, by unfold Hid; rw [HS.out]; exact HO6.out, HB6.out⟩
                      case measure => (simp [intOf] <;> omega)
                    · have HS := Lib.hid (HSy.out he)
                      have hne := ne_list (fun e => he e.symm : q ≠ r)
                      clear HSy HSn he
                      go_wp2_with (at_builtin; refine wpList_append1x wr rfl (.tmp 75) (.tmp 77) 22 rfl 9 (.string ByteArray.empty) 16 Try.underlying22 info_str rfl wo.heap.size _ L2 c6 _ (.string r) rfl rfl rfl HO6.out (by omega) (by omega) hso ?_; intro A7 c7 x7 ho7 hx7 hsz7 hat7)
                      have HO7 : Hid (Own x7 9 wo.heap.size x7.heap.size A7 (L2 + 1) c7 (strsV (cmT sl (k2 + 1)))) := ho7.congr (by rw [HS.out, strsV_app, strsV_one])
                      have HB7 : Hid (Below wo.heap.size wo x7) := HB6.out.trans (HO6.out.below_ hx7 hso)
                      clear ho7 hx7 hat7 hsz7
                      go_roundw
                      case rel => exact ⟨k2 + 1, L2 + 1, A7, c7, by go_num, rfl, by omega, by omega, HO7.out, HB7.out⟩
                      case measure => (simp [intOf] <;> omega)
                · obtain rfl : k2 = n5 := by omega
                  go_wp2
                  go_ret2
                  refine ⟨A6, L2, c6, ret_slb HT.out, ?_, HB5.out.trans (HB6.out.mono HB5.out.size)⟩
                  rw [HOut.out]; exact HO6.out.mono HB5.out.size (Nat.le_refl _)
        · obtain ⟨b9, off9, rfl, hcy⟩ := HY.out (by omega)
          have HCY := Lib.hid hcy
          have i3 : (0 : Int) < (m : Int) := by omega
          have i4 : 0 < m := by omega
          have hd0 : decide (0 < m) = true := decide_eq_true (by omega)
          have hd1 : decide ((0 : Int) < (m : Int)) = true := decide_eq_true (by omega)
          have hdm : decide (m = 0) = false := decide_eq_false hm0
          clear hcy
          by_cases hq : (y.size : Int) = (x.size : Int)
          · have hne : ((y.size : Int) != (x.size : Int)) = false := by simp; omega
            have HT : Hid (ok_CI gs ss = true) := by unfold Hid; rw [HOK.out]; rw [hdm, decide_eq_true hq]; rfl
            clear hq
            go_enter Try.func20, Try.ntmps20
            go_wp2
            refine wp_region_held_drew (S := fun w' => w'.cell? ⟨b9, off9, none⟩ = some (.string y) ∧ w'.cell? ⟨b, off, none⟩ = some (.string x)) (by kernel_rfl) ⟨HCY.out _ hB0, HCX.out _ hB0⟩ (fun hHeld => ?_)
            refine' wpAnyH_take (i := 0) (oi := _) (v := _) ?hi88 (by kernel_rfl) (by kernel_rfl) (by kernel_rfl) ?hQ88 ?hy88 ?hS88 ?rest88
            case hi88 => (simp only [List.getElem?_toArray, List.getElem?_cons_succ, List.getElem?_cons_zero]; rfl)
            case hQ88 => exact fun _ _ _ h => h
            case hS88 => assumption
            case hy88 => (refine Or.inl ⟨by rfl, fun w hSw => ?_⟩; (try dsimp only at hSw); go_simp <;> with_reducible rfl)
            try simp only [Act.put, List.setIfInBounds_toArray, List.set_cons_zero, List.set_cons_succ]
            refine wpAnyH_ready (rs := [1]) (by kernel_rfl) (by simp) ?_
            refine' AllReadyH.cons (o := _) ?hi89 (fun K hK => ?step89) AllReadyH.nil
            case hi89 => (simp only [List.getElem?_toArray, List.getElem?_cons_succ, List.getElem?_cons_zero]; rfl)
            go_simp
            go_at_call 37; (with_reducible refine (HA.out _ ?hA).mono ?_); (case hA => first | exact hB0 | exact below_drewN' (Below.refl _ _) _); rintro e x1 ⟨rfl, d1, rfl⟩
            refine hK.out _ _ (by first | exact ⟨HCY.out _ (below_drewN' hB0 _), HCX.out _ (below_drewN' hB0 _)⟩ | exact ⟨HCY.out _ (below_drewN' (Below.refl _ _) _), HCX.out _ (below_drewN' (Below.refl _ _) _)⟩) (fun hHeld => ?_)
            clear hK K
            try simp only [Act.put, List.setIfInBounds_toArray, List.set_cons_zero, List.set_cons_succ]
            refine' wpAnyH_take (i := 2) (oi := _) (v := _) ?hi90 (by kernel_rfl) (by kernel_rfl) (by kernel_rfl) ?hQ90 ?hy90 ?hS90 ?rest90
            case hi90 => (simp only [List.getElem?_toArray, List.getElem?_cons_succ, List.getElem?_cons_zero]; rfl)
            case hQ90 => exact fun _ _ _ h => h
            case hS90 => assumption
            case hy90 => (refine Or.inl ⟨by rfl, fun w hSw => ?_⟩; (try dsimp only at hSw); go_simp <;> with_reducible rfl)
            try simp only [Act.put, List.setIfInBounds_toArray, List.set_cons_zero, List.set_cons_succ]
            refine' wpAnyH_take (i := 3) (oi := _) (v := _) ?hi91 (by kernel_rfl) (by kernel_rfl) (by kernel_rfl) ?hQ91 ?hy91 ?hS91 ?rest91
            case hi91 => (simp only [List.getElem?_toArray, List.getElem?_cons_succ, List.getElem?_cons_zero]; rfl)
            case hQ91 => exact fun _ _ _ h => h
            case hS91 => assumption
            case hy91 => (refine Or.inl ⟨by rfl, fun w hSw => ?_⟩; (try dsimp only at hSw); go_simp <;> with_reducible rfl)
            try simp only [Act.put, List.setIfInBounds_toArray, List.set_cons_zero, List.set_cons_succ]
            refine' wpAnyH_take (i := 4) (oi := _) (v := _) ?hi92 (by kernel_rfl) (by kernel_rfl) (by kernel_rfl) ?hQ92 ?hy92 ?hS92 ?rest92
            case hi92 => (simp only [List.getElem?_toArray, List.getElem?_cons_succ, List.getElem?_cons_zero]; rfl)
            case hQ92 => exact fun _ _ _ h => h
            case hS92 => assumption
            case hy92 => (refine Or.inl ⟨by rfl, fun w hSw => ?_⟩; (try dsimp only at hSw); go_simp <;> with_reducible rfl)
            try simp only [Act.put, List.setIfInBounds_toArray, List.set_cons_zero, List.set_cons_succ]
            refine wpAnyH_ready (rs := [5]) (by kernel_rfl) (by simp) ?_
            refine' AllReadyH.cons (o := _) ?hi93 (fun K hK => ?step93) AllReadyH.nil
            case hi93 => (simp only [List.getElem?_toArray, List.getElem?_cons_succ, List.getElem?_cons_zero]; rfl)
            go_simp
            go_at_call 38; (with_reducible refine (HG.out (by trivial) _ ?hG).mono ?_); (case hG => exact below_drewN' (Below.refl _ _) _); rintro e x2 ⟨rfl, hb2⟩; have hB2 := (below_drewN' (Below.refl _ _) _ : Below W.heap.size W (W.drewN _)).trans hb2
            refine hK.out _ _ ⟨HCY.out _ hB2, HCX.out _ hB2⟩ (fun hHeld => ?_)
            clear hK K
            try simp only [Act.put, List.setIfInBounds_toArray, List.set_cons_zero, List.set_cons_succ]
            refine' wpAnyH_take (i := 6) (oi := _) (v := _) ?hi94 (by kernel_rfl) (by kernel_rfl) (by kernel_rfl) ?hQ94 ?hy94 ?hS94 ?rest94
            case hi94 => (simp only [List.getElem?_toArray, List.getElem?_cons_succ, List.getElem?_cons_zero]; rfl)
            case hQ94 => exact fun _ _ _ h => h
            case hS94 => assumption
            case hy94 => (refine Or.inl ⟨by rfl, fun w hSw => ?_⟩; (try dsimp only at hSw); go_simp <;> with_reducible rfl)
            try simp only [Act.put, List.setIfInBounds_toArray, List.set_cons_zero, List.set_cons_succ]
            refine' wpAnyH_take (i := 7) (oi := _) (v := _) ?hi95 (by kernel_rfl) (by kernel_rfl) (by kernel_rfl) ?hQ95 ?hy95 ?hS95 ?rest95
            case hi95 => (simp only [List.getElem?_toArray, List.getElem?_cons_succ, List.getElem?_cons_zero]; rfl)
            case hQ95 => exact fun _ _ _ h => h
            case hS95 => assumption
            case hy95 => (refine Or.inl ⟨by rfl, fun w hSw => ?_⟩; (try dsimp only at hSw); go_simp <;> with_reducible rfl)
            try simp only [Act.put, List.setIfInBounds_toArray, List.set_cons_zero, List.set_cons_succ]
            refine' wpAnyH_take (i := 8) (oi := _) (v := _) ?hi96 (by kernel_rfl) (by kernel_rfl) (by kernel_rfl) ?hQ96 ?hy96 ?hS96 ?rest96
            case hi96 => (simp only [List.getElem?_toArray, List.getElem?_cons_succ, List.getElem?_cons_zero]; rfl)
            case hQ96 => exact fun _ _ _ h => h
            case hS96 => assumption
            case hy96 => (refine Or.inl ⟨by rfl, fun w hSw => ?_⟩; (try dsimp only at hSw); go_simp <;> with_reducible rfl)
            try simp only [Act.put, List.setIfInBounds_toArray, List.set_cons_zero, List.set_cons_succ]
            refine' wpAnyH_take (i := 9) (oi := _) (v := _) ?hi97 (by kernel_rfl) (by kernel_rfl) (by kernel_rfl) ?hQ97 ?hy97 ?hS97 ?rest97
            case hi97 => (simp only [List.getElem?_toArray, List.getElem?_cons_succ, List.getElem?_cons_zero]; rfl)
            case hQ97 => exact fun _ _ _ h => h
            case hS97 => assumption
            case hy97 => (refine Or.inl ⟨by rfl, fun w hSw => ?_⟩; (try dsimp only at hSw); go_simp <;> with_reducible rfl)
            try simp only [Act.put, List.setIfInBounds_toArray, List.set_cons_zero, List.set_cons_succ]
            refine wpAnyH_ready (rs := [10]) (by kernel_rfl) (by simp) ?_
            refine' AllReadyH.cons (o := _) ?hi98 (fun K hK => ?step98) AllReadyH.nil
            case hi98 => (simp only [List.getElem?_toArray, List.getElem?_cons_succ, List.getElem?_cons_zero]; rfl)
            go_simp
            go_at_call 26; (with_reducible refine (HR.out _ ?hR).mono ?_); (case hR => exact hB2); rintro e x3 ⟨rfl, d3, rfl⟩; have hB3 := below_drewN' hB2 d3
            refine hK.out _ _ ⟨HCY.out _ hB3, HCX.out _ hB3⟩ (fun hHeld => ?_)
            clear hK K
            try simp only [Act.put, List.setIfInBounds_toArray, List.set_cons_zero, List.set_cons_succ]
            refine' wpAnyH_take (i := 11) (oi := _) (v := _) ?hi99 (by kernel_rfl) (by kernel_rfl) (by kernel_rfl) ?hQ99 ?hy99 ?hS99 ?rest99
            case hi99 => (simp only [List.getElem?_toArray, List.getElem?_cons_succ, List.getElem?_cons_zero]; rfl)
            case hQ99 => exact fun _ _ _ h => h
            case hS99 => assumption
            case hy99 => (refine Or.inl ⟨by rfl, fun w hSw => ?_⟩; (try dsimp only at hSw); go_simp <;> with_reducible rfl)
            try simp only [Act.put, List.setIfInBounds_toArray, List.set_cons_zero, List.set_cons_succ]
            refine' wpAnyH_take (i := 12) (oi := _) (v := _) ?hi100 (by kernel_rfl) (by kernel_rfl) (by kernel_rfl) ?hQ100 ?hy100 ?hS100 ?rest100
            case hi100 => (simp only [List.getElem?_toArray, List.getElem?_cons_succ, List.getElem?_cons_zero]; rfl)
            case hQ100 => exact fun _ _ _ h => h
            case hS100 => assumption
            case hy100 => (refine Or.inl ⟨by rfl, fun w hSw => ?_⟩; (try dsimp only at hSw); go_simp <;> with_reducible rfl)
            try simp only [Act.put, List.setIfInBounds_toArray, List.set_cons_zero, List.set_cons_succ]
            refine' wpAnyH_take (i := 13) (oi := _) (v := _) ?hi101 (by kernel_rfl) (by kernel_rfl) (by kernel_rfl) ?hQ101 ?hy101 ?hS101 ?rest101
            case hi101 => (simp only [List.getElem?_toArray, List.getElem?_cons_succ, List.getElem?_cons_zero]; rfl)
            case hQ101 => exact fun _ _ _ h => h
            case hS101 => assumption
            case hy101 => (refine Or.inl ⟨by rfl, fun w hSw => ?_⟩; (try dsimp only at hSw); go_simp <;> with_reducible rfl)
            try simp only [Act.put, List.setIfInBounds_toArray, List.set_cons_zero, List.set_cons_succ]
            refine' wpAnyH_take (i := 14) (oi := _) (v := _) ?hi102 (by kernel_rfl) (by kernel_rfl) (by kernel_rfl) ?hQ102 ?hy102 ?hS102 ?rest102
            case hi102 => (simp only [List.getElem?_toArray, List.getElem?_cons_succ, List.getElem?_cons_zero]; rfl)
            case hQ102 => exact fun _ _ _ h => h
            case hS102 => assumption
            case hy102 => (refine Or.inl ⟨by rfl, fun w hSw => ?_⟩; (try dsimp only at hSw); go_simp <;> with_reducible rfl)
            try simp only [Act.put, List.setIfInBounds_toArray, List.set_cons_zero, List.set_cons_succ]
            refine' wpAnyH_take (i := 15) (oi := _) (v := _) ?hi103 (by kernel_rfl) (by kernel_rfl) (by kernel_rfl) ?hQ103 ?hy103 ?hS103 ?rest103
            case hi103 => (simp only [List.getElem?_toArray, List.getElem?_cons_succ, List.getElem?_cons_zero]; rfl)
            case hQ103 => exact fun _ _ _ h => h
            case hS103 => assumption
            case hy103 => (refine Or.inl ⟨by rfl, fun w hSw => ?_⟩; (try dsimp only at hSw); go_simp <;> with_reducible rfl)
            try simp only [Act.put, List.setIfInBounds_toArray, List.set_cons_zero, List.set_cons_succ]
            refine' wpAnyH_take (i := 16) (oi := _) (v := _) ?hi104 (by kernel_rfl) (by kernel_rfl) (by kernel_rfl) ?hQ104 ?hy104 ?hS104 ?rest104
            case hi104 => (simp only [List.getElem?_toArray, List.getElem?_cons_succ, List.getElem?_cons_zero]; rfl)
            case hQ104 => exact fun _ _ _ h => h
            case hS104 => assumption
            case hy104 => (refine Or.inl ⟨by rfl, fun w hSw => ?_⟩; (try dsimp only at hSw); go_simp <;> with_reducible rfl)
            try simp only [Act.put, List.setIfInBounds_toArray, List.set_cons_zero, List.set_cons_succ]
            refine' wpAnyH_take (i := 17) (oi := _) (v := _) ?hi105 (by kernel_rfl) (by kernel_rfl) (by kernel_rfl) ?hQ105 ?hy105 ?hS105 ?rest105
            case hi105 => (simp only [List.getElem?_toArray, List.getElem?_cons_succ, List.getElem?_cons_zero]; rfl)
            case hQ105 => exact fun _ _ _ h => h
            case hS105 => assumption
            case hy105 => (refine Or.inl ⟨by rfl, fun w hSw => ?_⟩; (try dsimp only at hSw); go_simp <;> with_reducible rfl)
            try simp only [Act.put, List.setIfInBounds_toArray, List.set_cons_zero, List.set_cons_succ]
            refine' wpAnyH_take (i := 18) (oi := _) (v := _) ?hi106 (by kernel_rfl) (by kernel_rfl) (by kernel_rfl) ?hQ106 ?hy106 ?hS106 ?rest106
            case hi106 => (simp only [List.getElem?_toArray, List.getElem?_cons_succ, List.getElem?_cons_zero]; rfl)
            case hQ106 => exact fun _ _ _ h => h
            case hS106 => assumption
            case hy106 => (refine Or.inl ⟨by rfl, fun w hSw => ?_⟩; (try dsimp only at hSw); go_simp <;> with_reducible rfl)
            try simp only [Act.put, List.setIfInBounds_toArray, List.set_cons_zero, List.set_cons_succ]
            refine' wpAnyH_take (i := 19) (oi := _) (v := _) ?hi107 (by kernel_rfl) (by kernel_rfl) (by kernel_rfl) ?hQ107 ?hy107 ?hS107 ?rest107
            case hi107 => (simp only [List.getElem?_toArray, List.getElem?_cons_succ, List.getElem?_cons_zero]; rfl)
            case hQ107 => exact fun _ _ _ h => h
            case hS107 => assumption
            case hy107 => (refine Or.inl ⟨by rfl, fun w hSw => ?_⟩; (try dsimp only at hSw); go_simp <;> with_reducible rfl)
            try simp only [Act.put, List.setIfInBounds_toArray, List.set_cons_zero, List.set_cons_succ]
            refine' wpAnyH_take (i := 20) (oi := _) (v := _) ?hi108 (by kernel_rfl) (by kernel_rfl) (by kernel_rfl) ?hQ108 ?hy108 ?hS108 ?rest108
            case hi108 => (simp only [List.getElem?_toArray, List.getElem?_cons_succ, List.getElem?_cons_zero]; rfl)
            case hQ108 => exact fun _ _ _ h => h
            case hS108 => assumption
            case hy108 => (refine Or.inl ⟨by rfl, fun w hSw => ?_⟩; (try dsimp only at hSw); go_simp <;> with_reducible rfl)
            try simp only [Act.put, List.setIfInBounds_toArray, List.set_cons_zero, List.set_cons_succ]
            refine' wpAnyH_take (i := 21) (oi := _) (v := _) ?hi109 (by kernel_rfl) (by kernel_rfl) (by kernel_rfl) ?hQ109 ?hy109 ?hS109 ?rest109
            case hi109 => (simp only [List.getElem?_toArray, List.getElem?_cons_succ, List.getElem?_cons_zero]; rfl)
            case hQ109 => exact fun _ _ _ h => h
            case hS109 => assumption
            case hy109 => (refine Or.inl ⟨by rfl, fun w hSw => ?_⟩; (try dsimp only at hSw); go_simp <;> with_reducible rfl)
            try simp only [Act.put, List.setIfInBounds_toArray, List.set_cons_zero, List.set_cons_succ]
            refine' wpAnyH_take (i := 22) (oi := _) (v := _) ?hi110 (by kernel_rfl) (by kernel_rfl) (by kernel_rfl) ?hQ110 ?hy110 ?hS110 ?rest110
            case hi110 => (simp only [List.getElem?_toArray, List.getElem?_cons_succ, List.getElem?_cons_zero]; rfl)
            case hQ110 => exact fun _ _ _ h => h
            case hS110 => assumption
            case hy110 => (refine Or.inl ⟨by rfl, fun w hSw => ?_⟩; (try dsimp only at hSw); go_simp <;> with_reducible rfl)
            try simp only [Act.put, List.setIfInBounds_toArray, List.set_cons_zero, List.set_cons_succ]
            refine' wpAnyH_take (i := 23) (oi := _) (v := _) ?hi111 (by kernel_rfl) (by kernel_rfl) (by kernel_rfl) ?hQ111 ?hy111 ?hS111 ?rest111
            case hi111 => (simp only [List.getElem?_toArray, List.getElem?_cons_succ, List.getElem?_cons_zero]; rfl)
            case hQ111 => exact fun _ _ _ h => h
            case hS111 => assumption
            case hy111 => (refine Or.inl ⟨by rfl, fun w hSw => ?_⟩; (try dsimp only at hSw); go_simp <;> with_reducible rfl)
            try simp only [Act.put, List.setIfInBounds_toArray, List.set_cons_zero, List.set_cons_succ]
            refine' wpAnyH_take (i := 24) (oi := _) (v := _) ?hi112 (by kernel_rfl) (by kernel_rfl) (by kernel_rfl) ?hQ112 ?hy112 ?hS112 ?rest112
            case hi112 => (simp only [List.getElem?_toArray, List.getElem?_cons_succ, List.getElem?_cons_zero]; rfl)
            case hQ112 => exact fun _ _ _ h => h
            case hS112 => assumption
            case hy112 => (refine Or.inl ⟨by rfl, fun w hSw => ?_⟩; (try dsimp only at hSw); go_simp <;> with_reducible rfl)
            try simp only [Act.put, List.setIfInBounds_toArray, List.set_cons_zero, List.set_cons_succ]
            refine' wpAnyH_take (i := 25) (oi := _) (v := _) ?hi113 (by kernel_rfl) (by kernel_rfl) (by kernel_rfl) ?hQ113 ?hy113 ?hS113 ?rest113
            case hi113 => (simp only [List.getElem?_toArray, List.getElem?_cons_succ, List.getElem?_cons_zero]; rfl)
            case hQ113 => exact fun _ _ _ h => h
            case hS113 => assumption
            case hy113 => (refine Or.inl ⟨by rfl, fun w hSw => ?_⟩; (try dsimp only at hSw); go_simp <;> with_reducible rfl)
            try simp only [Act.put, List.setIfInBounds_toArray, List.set_cons_zero, List.set_cons_succ]
            refine' wpAnyH_take (i := 26) (oi := _) (v := _) ?hi114 (by kernel_rfl) (by kernel_rfl) (by kernel_rfl) ?hQ114 ?hy114 ?hS114 ?rest114
            case hi114 => (simp only [List.getElem?_toArray, List.getElem?_cons_succ, List.getElem?_cons_zero]; rfl)
            case hQ114 => exact fun _ _ _ h => h
            case hS114 => assumption
            case hy114 => (refine Or.inl ⟨by rfl, fun w hSw => ?_⟩; (try dsimp only at hSw); go_simp <;> with_reducible rfl)
            try simp only [Act.put, List.setIfInBounds_toArray, List.set_cons_zero, List.set_cons_succ]
            refine' wpAnyH_take (i := 27) (oi := _) (v := _) ?hi115 (by kernel_rfl) (by kernel_rfl) (by kernel_rfl) ?hQ115 ?hy115 ?hS115 ?rest115
            case hi115 => (simp only [List.getElem?_toArray, List.getElem?_cons_succ, List.getElem?_cons_zero]; rfl)
            case hQ115 => exact fun _ _ _ h => h
            case hS115 => assumption
            case hy115 => (refine Or.inl ⟨by rfl, fun w hSw => ?_⟩; (try dsimp only at hSw); go_simp <;> with_reducible rfl)
            try simp only [Act.put, List.setIfInBounds_toArray, List.set_cons_zero, List.set_cons_succ]
            refine' wpAnyH_take (i := 28) (oi := _) (v := _) ?hi116 (by kernel_rfl) (by kernel_rfl) (by kernel_rfl) ?hQ116 ?hy116 ?hS116 ?rest116
            case hi116 => (simp only [List.getElem?_toArray, List.getElem?_cons_succ, List.getElem?_cons_zero]; rfl)
            case hQ116 => exact fun _ _ _ h => h
            case hS116 => assumption
            case hy116 => (refine Or.inl ⟨by rfl, fun w hSw => ?_⟩; (try dsimp only at hSw); go_simp <;> with_reducible rfl)
            try simp only [Act.put, List.setIfInBounds_toArray, List.set_cons_zero, List.set_cons_succ]
            refine wpAnyH_done (by kernel_rfl) ?_ _
            have hn800' := hn800 HT.out
            have HE := Lib.hid (HEach.out HT.out)
            have hm800 := HE.out.2.1
            have hglen : Hid (∀ r, (gs.map (timS r)).length = n) := fun r => by rw [List.length_map]; exact Hl1.out
            have HB0 := Lib.hid hB3
            clear hn800 hB0 hB2 hB3 hb2
            go_wp2
            go_loopw [6, 43] (fun l i wr => ∃ (k L : Nat) (A3 : Option Addr) (c3 : Nat), i = .int .i64 k ∧ l = .slice A3 L c3 ∧ k ≤ m ∧ L ≤ k ∧ Hid (Own wr 9 W.heap.size wr.heap.size A3 L c3 (strsV (lsI gs (ss.take k)))) ∧ Hid (Below W.heap.size W wr)) (fun _ i _ => m - (intOf i).toNat)
            case atStart => exact ⟨0, 0, none, 0, rfl, rfl, by omega, by omega, Own.nil _ _ _ _, HB0.out⟩
            case round =>
              obtain ⟨k, L, A3, c3, rfl, rfl, hk, hL, HO, HB3⟩ := hrel
              by_cases hlt : k < m
              · obtain ⟨b2, o2, e9, _, hcs⟩ := (Hr2.out.below HB3.out).strD hlt
                have hc1 := hcs k hlt
                have HEk := Lib.hid (HE.out.2.2 k hlt)
                have HS := Lib.hid (lsI_take gs ss (k := k) (by have := Hl2.out; omega))
                obtain ⟨r, hrr⟩ : ∃ r, r = getS ss k := ⟨_, rfl⟩
                rw [← hrr] at hc1 HEk HS
                have HLr := Lib.hid (HL.out r wr HEk.out.1 HEk.out.2 hn800' (Hr.out.below HB3.out))
                have hgl := hglen.out r
                obtain ⟨tl, htl⟩ : ∃ t, t = gs.map (timS r) := ⟨_, rfl⟩
                rw [← htl] at HS HLr hgl
                obtain ⟨mn, hmn⟩ : ∃ t, t = Lib.minOfS tl := ⟨_, rfl⟩
                rw [← hmn] at HS
                have HMn : Hid (∀ A5 n5 c5 w, 0 < n5 → Rd w A5 n5 (strsV tl) → Calls Try.prog 45 #[.slice A5 n5 c5] w fun e w' => e = .returned (.string mn) ∧ w = w') := fun A5 n5 c5 w h1 h2 => by rw [hmn]; exact l6Least_any A5 n5 c5 tl w h1 h2
                have HGl := Lib.hid hgl
                have i2 : (k : Int) < (m : Int) := by omega
                clear hcs hrr htl hmn hgl
                injection e9 with e9; injection e9 with e91 e92; subst e91 e92
                go_wp2_with first
                  | (go_at_call 40; refine HLr.out.mono ?_; rintro e x5 ⟨A5, n5, c5, rfl, ho5, hb5⟩; have hn5 : 0 < n5 := (by have := ho5.rd.slen; have := HGl.out; omega))
                  | (go_at_call 45; refine (HMn.out A5 n5 c5 _ hn5 ho5.rd).mono ?_; rintro e w6 ⟨rfl, rfl⟩; have HO5 := (HO.out.below hb5).mono (Nat.le_refl W.heap.size) hb5.size; have HB5 := HB3.out.trans (hb5.mono HB3.out.size))
                  | (at_builtin; refine wpList_append1x x5 rfl (.tmp 47) (.tmp 52) 22 rfl 9 (.string ByteArray.empty) 16 Try.underlying22 info_str rfl W.heap.size A3 L c3 _ (.string mn) rfl rfl rfl HO5 (by omega) (by omega) HB5.size ?_; intro A7 c7 x7 ho7 hx7 hsz7 hat7)
                have HO7 : Hid (Own x7 9 W.heap.size x7.heap.size A7 (L + 1) c7 (strsV (lsI gs (ss.take (k + 1))))) := ho7.congr (by rw [HS.out, strsV_app, strsV_one])
                have HB7 : Hid (Below W.heap.size W x7) := HB5.trans (HO5.below_ hx7 HB5.size)
                clear hb5 ho5 HO5 HB5 ho7 hx7 hat7 hsz7
                go_roundw
                case rel => exact ⟨k + 1, L + 1, A7, c7, by go_num, rfl, by omega, by omega, HO7.out, HB7.out⟩
                case measure => (simp [intOf] <;> omega)
              · have HO4 : Own wr 9 W.heap.size wr.heap.size A3 L c3 (strsV (lsI gs ss)) := by
                  have h7 := HO.out
                  rwa [List.take_of_length_le (by have := Hl2.out; omega)] at h7
                have HSo := Lib.hid (l6Sort_any L A3 L c3 (lsI gs ss) wr (Nat.le_refl _) (by omega) HO4.rd)
                have HOut : Hid (out_CosetsIn gs ss = cmT (srt (lsI gs ss)) L) := by
                  unfold Hid
                  rw [EY.out HT.out]
                  unfold cmS
                  rw [srt_len, HO4.rd.slen]
                have HSlen : Hid ((srt (lsI gs ss)).length = L) := by unfold Hid; rw [srt_len, HO4.rd.slen]
                obtain ⟨sl, hsl⟩ : ∃ s, s = srt (lsI gs ss) := ⟨_, rfl⟩
                rw [← hsl] at HSo HOut HSlen
                clear HO4 hsl
                go_wp2_with (go_at_call 27; refine HSo.out.mono ?_; rintro e w5 ⟨A5, n5, c5, rfl, ho5, hb5⟩; have hn5 : n5 = L := (by have := ho5.rd.slen; have := HSlen.out; omega))
                subst hn5
                have HR5 : Hid (Rd w5 A5 n5 (strsV sl)) := ho5.rd
                have HB5 : Hid (Below W.heap.size W w5) := HB3.out.trans (hb5.mono HB3.out.size)
                clear ho5 hb5 HO HB3
                obtain ⟨wo, rfl⟩ : ∃ w, w = w5 := ⟨_, rfl⟩
                go_loopw [7, 58] (fun l i wr => ∃ (k L2 : Nat) (A3 : Option Addr) (c3 : Nat), i = .int .i64 k ∧ l = .slice A3 L2 c3 ∧ k ≤ n5 ∧ L2 ≤ k ∧ Hid (Own wr 9 wo.heap.size wr.heap.size A3 L2 c3 (strsV (cmT sl k))) ∧ Hid (Below wo.heap.size wo wr)) (fun _ i _ => n5 - (intOf i).toNat)
                case atStart => exact ⟨0, 0, none, 0, rfl, rfl, by omega, by omega, Own.nil _ _ _ _, Below.refl _ _⟩
                case round =>
                  obtain ⟨k2, L2, A6, c6, rfl, rfl, hk2, hL2, HO6, HB6⟩ := hrel
                  by_cases hlt2 : k2 < n5
                  · obtain ⟨b5, o5, rfl, _, hcs⟩ := (HR5.out.below HB6.out).strD hlt2
                    have hc1 := hcs k2 hlt2
                    have i2 : (k2 : Int) < (n5 : Int) := by omega
                    have hlen6 : (cmT sl k2).length = L2 := HO6.out.rd.slen
                    by_cases hk0 : k2 = 0
                    · have hne0 : ((L2 : Int) == 0) = true := by simp; omega
                      have HS : Hid (cmT sl (k2 + 1) = cmT sl k2 ++ [getS sl k2]) := by unfold Hid; simp only [cmT]; rw [if_pos (.inl hk0)]
                      obtain ⟨r, hrr⟩ : ∃ r, r = getS sl k2 := ⟨_, rfl⟩
                      rw [← hrr] at hc1 HS
                      clear hcs hrr hlen6 hk0
                      have hso : wo.heap.size ≤ wr.heap.size := HB6.out.size
                      go_wp2_with (at_builtin; refine wpList_append1x wr rfl (.tmp 75) (.tmp 77) 22 rfl 9 (.string ByteArray.empty) 16 Try.underlying22 info_str rfl wo.heap.size A6 L2 c6 _ (.string r) rfl rfl rfl HO6.out (by omega) (by omega) hso ?_; intro A7 c7 x7 ho7 hx7 hsz7 hat7)
                      have HO7 : Hid (Own x7 9 wo.heap.size x7.heap.size A7 (L2 + 1) c7 (strsV (cmT sl (k2 + 1)))) := ho7.congr (by rw [HS.out, strsV_app, strsV_one])
                      have HB7 : Hid (Below wo.heap.size wo x7) := HB6.out.trans (HO6.out.below_ hx7 hso)
                      clear ho7 hx7 hat7 hsz7
                      go_roundw
                      case rel => exact ⟨k2 + 1, L2 + 1, A7, c7, by go_num, rfl, by omega, by omega, HO7.out, HB7.out⟩
                      case measure => (simp [intOf] <;> omega)
                    · have hpos : 0 < L2 := by have := cmT_pos sl k2 (by omega); omega
                      obtain ⟨g6, o6, rfl, _, hcs6⟩ := HO6.out.rd.strD (k := 0) hpos
                      have hc6 : wr.cell? ⟨g6, o6 + (L2 - 1), none⟩ = some (.string (getS (cmT sl k2) (L2 - 1))) := hcs6 (L2 - 1) (by omega)
                      have hla := cmT_last sl (k2 - 1)
                      rw [show k2 - 1 + 1 = k2 by omega, hlen6] at hla
                      rw [hla] at hc6
                      have HSy : Hid (getS sl k2 ≠ getS sl (k2 - 1) → cmT sl (k2 + 1) = cmT sl k2 ++ [getS sl k2]) := fun h => by simp only [cmT]; rw [if_pos (.inr h)]
                      have HSn : Hid (getS sl k2 = getS sl (k2 - 1) → cmT sl (k2 + 1) = cmT sl k2) := fun h => by
                        simp only [cmT]
                        rw [if_neg]
                        rintro (h1 | h1)
                        · exact hk0 h1
                        · exact h1 h
                      obtain ⟨r, hrr⟩ : ∃ r, r = getS sl k2 := ⟨_, rfl⟩
                      obtain ⟨q, hqq⟩ : ∃ r, r = getS sl (k2 - 1) := ⟨_, rfl⟩
                      rw [← hrr] at hc1 HSy HSn
                      rw [← hqq] at hc6 HSy HSn
                      have hne0 : ((L2 : Int) == 0) = false := by simp; omega
                      have j1 : (1 : Int) ≤ (L2 : Int) := by omega
                      have j2 : (L2 : Int) - 1 < (L2 : Int) := by omega
                      have j3 : (0 : Int) ≤ (L2 : Int) - 1 := by omega
                      have j4 : ((L2 : Int) - 1).toNat = L2 - 1 := by omega
                      have hso : wo.heap.size ≤ wr.heap.size := HB6.out.size
                      clear hcs hcs6 hrr hqq hla hlen6
                      by_cases he : r = q
                      · have HS := Lib.hid (HSn.out he)
                        subst he
                        clear HSy HSn
                        go_wp2
                        go_roundw
                        case rel => exact ⟨k2 + 1, L2, _, c6, by go_num, rfl, by omega, by omega, by unfold Hid; rw [HS.out]; exact HO6.out, HB6.out⟩
                        case measure => (simp [intOf] <;> omega)
                      · have HS := Lib.hid (HSy.out he)
                        have hne := ne_list (fun e => he e.symm : q ≠ r)
                        clear HSy HSn he
                        go_wp2_with (at_builtin; refine wpList_append1x wr rfl (.tmp 75) (.tmp 77) 22 rfl 9 (.string ByteArray.empty) 16 Try.underlying22 info_str rfl wo.heap.size _ L2 c6 _ (.string r) rfl rfl rfl HO6.out (by omega) (by omega) hso ?_; intro A7 c7 x7 ho7 hx7 hsz7 hat7)
                        have HO7 : Hid (Own x7 9 wo.heap.size x7.heap.size A7 (L2 + 1) c7 (strsV (cmT sl (k2 + 1)))) := ho7.congr (by rw [HS.out, strsV_app, strsV_one])
                        have HB7 : Hid (Below wo.heap.size wo x7) := HB6.out.trans (HO6.out.below_ hx7 hso)
                        clear ho7 hx7 hat7 hsz7
                        go_roundw
                        case rel => exact ⟨k2 + 1, L2 + 1, A7, c7, by go_num, rfl, by omega, by omega, HO7.out, HB7.out⟩
                        case measure => (simp [intOf] <;> omega)
                  · obtain rfl : k2 = n5 := by omega
                    go_wp2
                    go_ret2
                    refine ⟨A6, L2, c6, ret_slb HT.out, ?_, HB5.out.trans (HB6.out.mono HB5.out.size)⟩
                    rw [HOut.out]; exact HO6.out.mono HB5.out.size (Nat.le_refl _)
          · have hne : ((y.size : Int) != (x.size : Int)) = true := by simp; omega
            have HT : Hid (ok_CI gs ss = false) := by unfold Hid; rw [HOK.out]; rw [hdm, decide_eq_false hq]; rfl
            clear hq
            go_enter Try.func20, Try.ntmps20
            go_wp2
            refine wp_region_held_drew (S := fun w' => w'.cell? ⟨b9, off9, none⟩ = some (.string y) ∧ w'.cell? ⟨b, off, none⟩ = some (.string x)) (by kernel_rfl) ⟨HCY.out _ hB0, HCX.out _ hB0⟩ (fun hHeld => ?_)
            refine' wpAnyH_take (i := 0) (oi := _) (v := _) ?hi117 (by kernel_rfl) (by kernel_rfl) (by kernel_rfl) ?hQ117 ?hy117 ?hS117 ?rest117
            case hi117 => (simp only [List.getElem?_toArray, List.getElem?_cons_succ, List.getElem?_cons_zero]; rfl)
            case hQ117 => exact fun _ _ _ h => h
            case hS117 => assumption
            case hy117 => (refine Or.inl ⟨by rfl, fun w hSw => ?_⟩; (try dsimp only at hSw); go_simp <;> with_reducible rfl)
            try simp only [Act.put, List.setIfInBounds_toArray, List.set_cons_zero, List.set_cons_succ]
            refine wpAnyH_ready (rs := [1]) (by kernel_rfl) (by simp) ?_
            refine' AllReadyH.cons (o := _) ?hi118 (fun K hK => ?step118) AllReadyH.nil
            case hi118 => (simp only [List.getElem?_toArray, List.getElem?_cons_succ, List.getElem?_cons_zero]; rfl)
            go_simp
            go_at_call 37; (with_reducible refine (HA.out _ ?hA).mono ?_); (case hA => first | exact hB0 | exact below_drewN' (Below.refl _ _) _); rintro e x1 ⟨rfl, d1, rfl⟩
            refine hK.out _ _ (by first | exact ⟨HCY.out _ (below_drewN' hB0 _), HCX.out _ (below_drewN' hB0 _)⟩ | exact ⟨HCY.out _ (below_drewN' (Below.refl _ _) _), HCX.out _ (below_drewN' (Below.refl _ _) _)⟩) (fun hHeld => ?_)
            clear hK K
            try simp only [Act.put, List.setIfInBounds_toArray, List.set_cons_zero, List.set_cons_succ]
            refine' wpAnyH_take (i := 2) (oi := _) (v := _) ?hi119 (by kernel_rfl) (by kernel_rfl) (by kernel_rfl) ?hQ119 ?hy119 ?hS119 ?rest119
            case hi119 => (simp only [List.getElem?_toArray, List.getElem?_cons_succ, List.getElem?_cons_zero]; rfl)
            case hQ119 => exact fun _ _ _ h => h
            case hS119 => assumption
            case hy119 => (refine Or.inl ⟨by rfl, fun w hSw => ?_⟩; (try dsimp only at hSw); go_simp <;> with_reducible rfl)
            try simp only [Act.put, List.setIfInBounds_toArray, List.set_cons_zero, List.set_cons_succ]
            refine' wpAnyH_take (i := 3) (oi := _) (v := _) ?hi120 (by kernel_rfl) (by kernel_rfl) (by kernel_rfl) ?hQ120 ?hy120 ?hS120 ?rest120
            case hi120 => (simp only [List.getElem?_toArray, List.getElem?_cons_succ, List.getElem?_cons_zero]; rfl)
            case hQ120 => exact fun _ _ _ h => h
            case hS120 => assumption
            case hy120 => (refine Or.inl ⟨by rfl, fun w hSw => ?_⟩; (try dsimp only at hSw); go_simp <;> with_reducible rfl)
            try simp only [Act.put, List.setIfInBounds_toArray, List.set_cons_zero, List.set_cons_succ]
            refine' wpAnyH_take (i := 4) (oi := _) (v := _) ?hi121 (by kernel_rfl) (by kernel_rfl) (by kernel_rfl) ?hQ121 ?hy121 ?hS121 ?rest121
            case hi121 => (simp only [List.getElem?_toArray, List.getElem?_cons_succ, List.getElem?_cons_zero]; rfl)
            case hQ121 => exact fun _ _ _ h => h
            case hS121 => assumption
            case hy121 => (refine Or.inl ⟨by rfl, fun w hSw => ?_⟩; (try dsimp only at hSw); go_simp <;> with_reducible rfl)
            try simp only [Act.put, List.setIfInBounds_toArray, List.set_cons_zero, List.set_cons_succ]
            refine wpAnyH_ready (rs := [5]) (by kernel_rfl) (by simp) ?_
            refine' AllReadyH.cons (o := _) ?hi122 (fun K hK => ?step122) AllReadyH.nil
            case hi122 => (simp only [List.getElem?_toArray, List.getElem?_cons_succ, List.getElem?_cons_zero]; rfl)
            go_simp
            go_at_call 38; (with_reducible refine (HG.out (by trivial) _ ?hG).mono ?_); (case hG => exact below_drewN' (Below.refl _ _) _); rintro e x2 ⟨rfl, hb2⟩; have hB2 := (below_drewN' (Below.refl _ _) _ : Below W.heap.size W (W.drewN _)).trans hb2
            refine hK.out _ _ ⟨HCY.out _ hB2, HCX.out _ hB2⟩ (fun hHeld => ?_)
            clear hK K
            try simp only [Act.put, List.setIfInBounds_toArray, List.set_cons_zero, List.set_cons_succ]
            refine' wpAnyH_take (i := 6) (oi := _) (v := _) ?hi123 (by kernel_rfl) (by kernel_rfl) (by kernel_rfl) ?hQ123 ?hy123 ?hS123 ?rest123
            case hi123 => (simp only [List.getElem?_toArray, List.getElem?_cons_succ, List.getElem?_cons_zero]; rfl)
            case hQ123 => exact fun _ _ _ h => h
            case hS123 => assumption
            case hy123 => (refine Or.inl ⟨by rfl, fun w hSw => ?_⟩; (try dsimp only at hSw); go_simp <;> with_reducible rfl)
            try simp only [Act.put, List.setIfInBounds_toArray, List.set_cons_zero, List.set_cons_succ]
            refine' wpAnyH_take (i := 7) (oi := _) (v := _) ?hi124 (by kernel_rfl) (by kernel_rfl) (by kernel_rfl) ?hQ124 ?hy124 ?hS124 ?rest124
            case hi124 => (simp only [List.getElem?_toArray, List.getElem?_cons_succ, List.getElem?_cons_zero]; rfl)
            case hQ124 => exact fun _ _ _ h => h
            case hS124 => assumption
            case hy124 => (refine Or.inl ⟨by rfl, fun w hSw => ?_⟩; (try dsimp only at hSw); go_simp <;> with_reducible rfl)
            try simp only [Act.put, List.setIfInBounds_toArray, List.set_cons_zero, List.set_cons_succ]
            refine' wpAnyH_take (i := 8) (oi := _) (v := _) ?hi125 (by kernel_rfl) (by kernel_rfl) (by kernel_rfl) ?hQ125 ?hy125 ?hS125 ?rest125
            case hi125 => (simp only [List.getElem?_toArray, List.getElem?_cons_succ, List.getElem?_cons_zero]; rfl)
            case hQ125 => exact fun _ _ _ h => h
            case hS125 => assumption
            case hy125 => (refine Or.inl ⟨by rfl, fun w hSw => ?_⟩; (try dsimp only at hSw); go_simp <;> with_reducible rfl)
            try simp only [Act.put, List.setIfInBounds_toArray, List.set_cons_zero, List.set_cons_succ]
            refine' wpAnyH_take (i := 9) (oi := _) (v := _) ?hi126 (by kernel_rfl) (by kernel_rfl) (by kernel_rfl) ?hQ126 ?hy126 ?hS126 ?rest126
            case hi126 => (simp only [List.getElem?_toArray, List.getElem?_cons_succ, List.getElem?_cons_zero]; rfl)
            case hQ126 => exact fun _ _ _ h => h
            case hS126 => assumption
            case hy126 => (refine Or.inl ⟨by rfl, fun w hSw => ?_⟩; (try dsimp only at hSw); go_simp <;> with_reducible rfl)
            try simp only [Act.put, List.setIfInBounds_toArray, List.set_cons_zero, List.set_cons_succ]
            refine wpAnyH_ready (rs := [10]) (by kernel_rfl) (by simp) ?_
            refine' AllReadyH.cons (o := _) ?hi127 (fun K hK => ?step127) AllReadyH.nil
            case hi127 => (simp only [List.getElem?_toArray, List.getElem?_cons_succ, List.getElem?_cons_zero]; rfl)
            go_simp
            go_at_call 26; (with_reducible refine (HR.out _ ?hR).mono ?_); (case hR => exact hB2); rintro e x3 ⟨rfl, d3, rfl⟩; have hB3 := below_drewN' hB2 d3
            refine hK.out _ _ ⟨HCY.out _ hB3, HCX.out _ hB3⟩ (fun hHeld => ?_)
            clear hK K
            try simp only [Act.put, List.setIfInBounds_toArray, List.set_cons_zero, List.set_cons_succ]
            refine' wpAnyH_take (i := 11) (oi := _) (v := _) ?hi128 (by kernel_rfl) (by kernel_rfl) (by kernel_rfl) ?hQ128 ?hy128 ?hS128 ?rest128
            case hi128 => (simp only [List.getElem?_toArray, List.getElem?_cons_succ, List.getElem?_cons_zero]; rfl)
            case hQ128 => exact fun _ _ _ h => h
            case hS128 => assumption
            case hy128 => (refine Or.inl ⟨by rfl, fun w hSw => ?_⟩; (try dsimp only at hSw); go_simp <;> with_reducible rfl)
            try simp only [Act.put, List.setIfInBounds_toArray, List.set_cons_zero, List.set_cons_succ]
            refine' wpAnyH_take (i := 12) (oi := _) (v := _) ?hi129 (by kernel_rfl) (by kernel_rfl) (by kernel_rfl) ?hQ129 ?hy129 ?hS129 ?rest129
            case hi129 => (simp only [List.getElem?_toArray, List.getElem?_cons_succ, List.getElem?_cons_zero]; rfl)
            case hQ129 => exact fun _ _ _ h => h
            case hS129 => assumption
            case hy129 => (refine Or.inl ⟨by rfl, fun w hSw => ?_⟩; (try dsimp only at hSw); go_simp <;> with_reducible rfl)
            try simp only [Act.put, List.setIfInBounds_toArray, List.set_cons_zero, List.set_cons_succ]
            refine' wpAnyH_take (i := 13) (oi := _) (v := _) ?hi130 (by kernel_rfl) (by kernel_rfl) (by kernel_rfl) ?hQ130 ?hy130 ?hS130 ?rest130
            case hi130 => (simp only [List.getElem?_toArray, List.getElem?_cons_succ, List.getElem?_cons_zero]; rfl)
            case hQ130 => exact fun _ _ _ h => h
            case hS130 => assumption
            case hy130 => (refine Or.inl ⟨by rfl, fun w hSw => ?_⟩; (try dsimp only at hSw); go_simp <;> with_reducible rfl)
            try simp only [Act.put, List.setIfInBounds_toArray, List.set_cons_zero, List.set_cons_succ]
            refine' wpAnyH_take (i := 14) (oi := _) (v := _) ?hi131 (by kernel_rfl) (by kernel_rfl) (by kernel_rfl) ?hQ131 ?hy131 ?hS131 ?rest131
            case hi131 => (simp only [List.getElem?_toArray, List.getElem?_cons_succ, List.getElem?_cons_zero]; rfl)
            case hQ131 => exact fun _ _ _ h => h
            case hS131 => assumption
            case hy131 => (refine Or.inl ⟨by rfl, fun w hSw => ?_⟩; (try dsimp only at hSw); go_simp <;> with_reducible rfl)
            try simp only [Act.put, List.setIfInBounds_toArray, List.set_cons_zero, List.set_cons_succ]
            refine' wpAnyH_take (i := 15) (oi := _) (v := _) ?hi132 (by kernel_rfl) (by kernel_rfl) (by kernel_rfl) ?hQ132 ?hy132 ?hS132 ?rest132
            case hi132 => (simp only [List.getElem?_toArray, List.getElem?_cons_succ, List.getElem?_cons_zero]; rfl)
            case hQ132 => exact fun _ _ _ h => h
            case hS132 => assumption
            case hy132 => (refine Or.inl ⟨by rfl, fun w hSw => ?_⟩; (try dsimp only at hSw); go_simp <;> with_reducible rfl)
            try simp only [Act.put, List.setIfInBounds_toArray, List.set_cons_zero, List.set_cons_succ]
            refine' wpAnyH_take (i := 16) (oi := _) (v := _) ?hi133 (by kernel_rfl) (by kernel_rfl) (by kernel_rfl) ?hQ133 ?hy133 ?hS133 ?rest133
            case hi133 => (simp only [List.getElem?_toArray, List.getElem?_cons_succ, List.getElem?_cons_zero]; rfl)
            case hQ133 => exact fun _ _ _ h => h
            case hS133 => assumption
            case hy133 => (refine Or.inl ⟨by rfl, fun w hSw => ?_⟩; (try dsimp only at hSw); go_simp <;> with_reducible rfl)
            try simp only [Act.put, List.setIfInBounds_toArray, List.set_cons_zero, List.set_cons_succ]
            refine' wpAnyH_take (i := 17) (oi := _) (v := _) ?hi134 (by kernel_rfl) (by kernel_rfl) (by kernel_rfl) ?hQ134 ?hy134 ?hS134 ?rest134
            case hi134 => (simp only [List.getElem?_toArray, List.getElem?_cons_succ, List.getElem?_cons_zero]; rfl)
            case hQ134 => exact fun _ _ _ h => h
            case hS134 => assumption
            case hy134 => (refine Or.inl ⟨by rfl, fun w hSw => ?_⟩; (try dsimp only at hSw); go_simp <;> with_reducible rfl)
            try simp only [Act.put, List.setIfInBounds_toArray, List.set_cons_zero, List.set_cons_succ]
            refine' wpAnyH_take (i := 18) (oi := _) (v := _) ?hi135 (by kernel_rfl) (by kernel_rfl) (by kernel_rfl) ?hQ135 ?hy135 ?hS135 ?rest135
            case hi135 => (simp only [List.getElem?_toArray, List.getElem?_cons_succ, List.getElem?_cons_zero]; rfl)
            case hQ135 => exact fun _ _ _ h => h
            case hS135 => assumption
            case hy135 => (refine Or.inl ⟨by rfl, fun w hSw => ?_⟩; (try dsimp only at hSw); go_simp <;> with_reducible rfl)
            try simp only [Act.put, List.setIfInBounds_toArray, List.set_cons_zero, List.set_cons_succ]
            refine' wpAnyH_take (i := 19) (oi := _) (v := _) ?hi136 (by kernel_rfl) (by kernel_rfl) (by kernel_rfl) ?hQ136 ?hy136 ?hS136 ?rest136
            case hi136 => (simp only [List.getElem?_toArray, List.getElem?_cons_succ, List.getElem?_cons_zero]; rfl)
            case hQ136 => exact fun _ _ _ h => h
            case hS136 => assumption
            case hy136 => (refine Or.inl ⟨by rfl, fun w hSw => ?_⟩; (try dsimp only at hSw); go_simp <;> with_reducible rfl)
            try simp only [Act.put, List.setIfInBounds_toArray, List.set_cons_zero, List.set_cons_succ]
            refine' wpAnyH_take (i := 20) (oi := _) (v := _) ?hi137 (by kernel_rfl) (by kernel_rfl) (by kernel_rfl) ?hQ137 ?hy137 ?hS137 ?rest137
            case hi137 => (simp only [List.getElem?_toArray, List.getElem?_cons_succ, List.getElem?_cons_zero]; rfl)
            case hQ137 => exact fun _ _ _ h => h
            case hS137 => assumption
            case hy137 => (refine Or.inl ⟨by rfl, fun w hSw => ?_⟩; (try dsimp only at hSw); go_simp <;> with_reducible rfl)
            try simp only [Act.put, List.setIfInBounds_toArray, List.set_cons_zero, List.set_cons_succ]
            refine' wpAnyH_take (i := 21) (oi := _) (v := _) ?hi138 (by kernel_rfl) (by kernel_rfl) (by kernel_rfl) ?hQ138 ?hy138 ?hS138 ?rest138
            case hi138 => (simp only [List.getElem?_toArray, List.getElem?_cons_succ, List.getElem?_cons_zero]; rfl)
            case hQ138 => exact fun _ _ _ h => h
            case hS138 => assumption
            case hy138 => (refine Or.inl ⟨by rfl, fun w hSw => ?_⟩; (try dsimp only at hSw); go_simp <;> with_reducible rfl)
            try simp only [Act.put, List.setIfInBounds_toArray, List.set_cons_zero, List.set_cons_succ]
            refine' wpAnyH_take (i := 22) (oi := _) (v := _) ?hi139 (by kernel_rfl) (by kernel_rfl) (by kernel_rfl) ?hQ139 ?hy139 ?hS139 ?rest139
            case hi139 => (simp only [List.getElem?_toArray, List.getElem?_cons_succ, List.getElem?_cons_zero]; rfl)
            case hQ139 => exact fun _ _ _ h => h
            case hS139 => assumption
            case hy139 => (refine Or.inl ⟨by rfl, fun w hSw => ?_⟩; (try dsimp only at hSw); go_simp <;> with_reducible rfl)
            try simp only [Act.put, List.setIfInBounds_toArray, List.set_cons_zero, List.set_cons_succ]
            refine' wpAnyH_take (i := 23) (oi := _) (v := _) ?hi140 (by kernel_rfl) (by kernel_rfl) (by kernel_rfl) ?hQ140 ?hy140 ?hS140 ?rest140
            case hi140 => (simp only [List.getElem?_toArray, List.getElem?_cons_succ, List.getElem?_cons_zero]; rfl)
            case hQ140 => exact fun _ _ _ h => h
            case hS140 => assumption
            case hy140 => (refine Or.inl ⟨by rfl, fun w hSw => ?_⟩; (try dsimp only at hSw); go_simp <;> with_reducible rfl)
            try simp only [Act.put, List.setIfInBounds_toArray, List.set_cons_zero, List.set_cons_succ]
            refine' wpAnyH_take (i := 24) (oi := _) (v := _) ?hi141 (by kernel_rfl) (by kernel_rfl) (by kernel_rfl) ?hQ141 ?hy141 ?hS141 ?rest141
            case hi141 => (simp only [List.getElem?_toArray, List.getElem?_cons_succ, List.getElem?_cons_zero]; rfl)
            case hQ141 => exact fun _ _ _ h => h
            case hS141 => assumption
            case hy141 => (refine Or.inl ⟨by rfl, fun w hSw => ?_⟩; (try dsimp only at hSw); go_simp <;> with_reducible rfl)
            try simp only [Act.put, List.setIfInBounds_toArray, List.set_cons_zero, List.set_cons_succ]
            refine' wpAnyH_take (i := 25) (oi := _) (v := _) ?hi142 (by kernel_rfl) (by kernel_rfl) (by kernel_rfl) ?hQ142 ?hy142 ?hS142 ?rest142
            case hi142 => (simp only [List.getElem?_toArray, List.getElem?_cons_succ, List.getElem?_cons_zero]; rfl)
            case hQ142 => exact fun _ _ _ h => h
            case hS142 => assumption
            case hy142 => (refine Or.inl ⟨by rfl, fun w hSw => ?_⟩; (try dsimp only at hSw); go_simp <;> with_reducible rfl)
            try simp only [Act.put, List.setIfInBounds_toArray, List.set_cons_zero, List.set_cons_succ]
            refine' wpAnyH_take (i := 26) (oi := _) (v := _) ?hi143 (by kernel_rfl) (by kernel_rfl) (by kernel_rfl) ?hQ143 ?hy143 ?hS143 ?rest143
            case hi143 => (simp only [List.getElem?_toArray, List.getElem?_cons_succ, List.getElem?_cons_zero]; rfl)
            case hQ143 => exact fun _ _ _ h => h
            case hS143 => assumption
            case hy143 => (refine Or.inl ⟨by rfl, fun w hSw => ?_⟩; (try dsimp only at hSw); go_simp <;> with_reducible rfl)
            try simp only [Act.put, List.setIfInBounds_toArray, List.set_cons_zero, List.set_cons_succ]
            refine' wpAnyH_take (i := 27) (oi := _) (v := _) ?hi144 (by kernel_rfl) (by kernel_rfl) (by kernel_rfl) ?hQ144 ?hy144 ?hS144 ?rest144
            case hi144 => (simp only [List.getElem?_toArray, List.getElem?_cons_succ, List.getElem?_cons_zero]; rfl)
            case hQ144 => exact fun _ _ _ h => h
            case hS144 => assumption
            case hy144 => (refine Or.inl ⟨by rfl, fun w hSw => ?_⟩; (try dsimp only at hSw); go_simp <;> with_reducible rfl)
            try simp only [Act.put, List.setIfInBounds_toArray, List.set_cons_zero, List.set_cons_succ]
            refine' wpAnyH_take (i := 28) (oi := _) (v := _) ?hi145 (by kernel_rfl) (by kernel_rfl) (by kernel_rfl) ?hQ145 ?hy145 ?hS145 ?rest145
            case hi145 => (simp only [List.getElem?_toArray, List.getElem?_cons_succ, List.getElem?_cons_zero]; rfl)
            case hQ145 => exact fun _ _ _ h => h
            case hS145 => assumption
            case hy145 => (refine Or.inl ⟨by rfl, fun w hSw => ?_⟩; (try dsimp only at hSw); go_simp <;> with_reducible rfl)
            try simp only [Act.put, List.setIfInBounds_toArray, List.set_cons_zero, List.set_cons_succ]
            refine wpAnyH_done (by kernel_rfl) ?_ _
            go_wp2
            go_ret2
            refine ⟨none, 0, 0, ret_slb HT.out, ?_, hB3⟩
            rw [EN.out HT.out]; exact Own.nil _ _ _ _
end Go.Proofs.Ytajmjfekddgelaa
