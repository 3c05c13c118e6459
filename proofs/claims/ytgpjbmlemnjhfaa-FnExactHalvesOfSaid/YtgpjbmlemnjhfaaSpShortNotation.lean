/- ShortNotation, of the reference and of the program: what each returns. -/
import Derived.Test.YtgpjbmlemnjhfaaWalkL
import Derived.Test.YtgpjbmlemnjhfaaWalkHv
namespace Go.Proofs.Ytgpjbmlemnjhfaa
open Go.RowKit
set_option linter.unusedVariables false

theorem small2 {ss : List ByteArray} (h : ∀ s ∈ ss, s.size ≤ 1048576) : ∀ s ∈ ss, s.size ≤ 2097152 := fun s hs => by have := h s hs; omega
theorem chs_small {n : Int} {ss : List ByteArray} (h : chsB n ss = true) : ss.length ≤ 40 ∧ 1 ≤ ss.length ∧ ∀ s ∈ ss, s.size ≤ 8 := by
  have h1 := of_cb h
  refine ⟨h1.2.1, h1.1, fun s hs => ?_⟩
  have h2 := of_cb (h1.2.2 s hs)
  have h3 := isCh_len h2
  have := h2.2.1
  rw [size_bs] at h3; omega
theorem hvA_mem {ss : List ByteArray} : ∀ s ∈ hvA ss, s ∈ ss := fun s hs => by
  unfold hvA at hs
  split at hs
  · exact List.mem_of_mem_take hs
  · simp at hs
theorem hvB_mem {ss : List ByteArray} : ∀ s ∈ hvB ss, s ∈ ss := fun s hs => by
  unfold hvB at hs
  split at hs
  · exact List.mem_of_mem_drop (List.mem_of_mem_take hs)
  · simp at hs
theorem hvA_len (ss : List ByteArray) : (hvA ss).length ≤ ss.length := by
  unfold hvA
  split
  · simp only [List.length_take]; omega
  · simp
theorem hvB_len (ss : List ByteArray) : (hvB ss).length ≤ ss.length := by
  unfold hvB
  split
  · simp only [List.length_take, List.length_drop]; omega
  · simp
noncomputable def shS (ss : List ByteArray) : ByteArray := mkS (txtGo none (hvA ss)) ++ { data := #[44] } ++ mkS (txtGo none (hvB ss))
noncomputable def shR (ss : List ByteArray) : ByteArray := if hvF ss = true ∧ (shS ss).size < (mkS (txtGo none ss)).size then shS ss else mkS (txtGo none ss)
noncomputable def ok_ShortNotation (n : Int) (ss : List ByteArray) : Bool := chsB n ss
noncomputable def out_ShortNotation (n : Int) (ss : List ByteArray) : ByteArray := if chsB n ss = true then shR ss else { data := #[] }
theorem txtGo_le : ∀ (ss : List ByteArray) (p : Option ByteArray), (∀ s ∈ ss, s.size ≤ 8) → (txtGo p ss).length ≤ 9 * ss.length
  | [], p, _ => by simp [txtGo]
  | s :: t, p, h => by
    have ih := txtGo_le t (some s) (fun x hx => h x (by simp [hx]))
    have hs := h s (by simp)
    have h1 : (txtStep p s).length ≤ 9 := by
      unfold txtStep
      have := size_bs s
      (repeat' split) <;> simp <;> omega
    simp only [txtGo, List.length_append, List.length_cons] at *
    omega
set_option maxRecDepth 100000 in
set_option maxHeartbeats 1000000 in
theorem shortNotation_any (A : Option Addr) (m c : Nat) (ss : List ByteArray) (W : World) (h40 : m ≤ 40) (hmc : m ≤ c) (hr : Rd W A m (strsV ss)) (hz : ∀ s ∈ ss, s.size ≤ 8) :
    Calls Try.prog 53 #[.slice A m c] W fun e w' => e = .returned (.string (shR ss)) ∧ Below W.heap.size W w' := by
  have hl := hr.slen
  have HT : Hid (∀ A m c tt W, Rd W A m (strsV tt) → (∀ s ∈ tt, s.size ≤ 8) → m ≤ 40 → Calls Try.prog 81 #[.slice A m c] W fun e w' => e = .returned (.string (mkS (txtGo none tt))) ∧ W = w') := fun A m c tt W h1 h2 h3 => notationText_any A m c tt W h1 h2 h3
  have HT0 := Lib.hid (HT.out A m c ss W hr hz h40)
  have HH := Lib.hid (halves_any A m c ss W h40 hmc hr)
  have ZA : Hid (∀ s ∈ hvA ss, s.size ≤ 8) := fun s hs => hz s (hvA_mem s hs)
  have ZB : Hid (∀ s ∈ hvB ss, s.size ≤ 8) := fun s hs => hz s (hvB_mem s hs)
  have LA : Hid ((hvA ss).length ≤ 40) := by have := hvA_len ss; unfold Hid; omega
  have LB : Hid ((hvB ss).length ≤ 40) := by have := hvB_len ss; unfold Hid; omega
  have SA := txtGo_le (hvA ss) none ZA.out
  have SB := txtGo_le (hvB ss) none ZB.out
  have S0 := txtGo_le ss none hz
  have la := LA.out
  have lb := LB.out
  have ER : shR ss = if hvF ss = true ∧ (shS ss).size < (mkS (txtGo none ss)).size then shS ss else mkS (txtGo none ss) := rfl
  have ES : shS ss = mkS (txtGo none (hvA ss)) ++ { data := #[44] } ++ mkS (txtGo none (hvB ss)) := rfl
  obtain ⟨xa, hxa⟩ : ∃ x, x = hvA ss := ⟨_, rfl⟩
  obtain ⟨xb, hxb⟩ : ∃ x, x = hvB ss := ⟨_, rfl⟩
  obtain ⟨f, hf⟩ : ∃ f, f = hvF ss := ⟨_, rfl⟩
  rw [← hxa] at HH ZA LA ES SA la
  rw [← hxb] at HH ZB LB ES SB lb
  rw [← hf] at HH ER
  have HTA : Hid (∀ A n c W, Rd W A n (strsV xa) → Calls Try.prog 81 #[.slice A n c] W fun e w' => e = .returned (.string (mkS (txtGo none xa))) ∧ W = w') := fun A n c W h => HT.out A n c xa W h ZA.out (by have := h.slen; have := LA.out; omega)
  have HTB : Hid (∀ A n c W, Rd W A n (strsV xb) → Calls Try.prog 81 #[.slice A n c] W fun e w' => e = .returned (.string (mkS (txtGo none xb))) ∧ W = w') := fun A n c W h => HT.out A n c xb W h ZB.out (by have := h.slen; have := LB.out; omega)
  obtain ⟨ta, hta⟩ : ∃ t, t = mkS (txtGo none xa) := ⟨_, rfl⟩
  obtain ⟨tb, htb⟩ : ∃ t, t = mkS (txtGo none xb) := ⟨_, rfl⟩
  obtain ⟨t0, ht0⟩ : ∃ t, t = mkS (txtGo none ss) := ⟨_, rfl⟩
  have sa : ta.size ≤ 360 := by rw [hta, size_mkS]; omega
  have sb : tb.size ≤ 360 := by rw [htb, size_mkS]; omega
  have s0 : t0.size ≤ 360 := by rw [ht0, size_mkS]; omega
  rw [← hta] at HTA ES
  rw [← htb] at HTB ES
  rw [← ht0] at HT0 ER
  have hsz : (shS ss).size = ta.size + 1 + tb.size := by rw [ES, ← size_bs, bs_append, bs_append, List.length_append, List.length_append, size_bs, size_bs]; rfl
  have HES := Lib.hid ES
  have HER := Lib.hid ER
  have Hsz := Lib.hid hsz
  clear hta htb ht0 hxa hxb hf ES ER SA SB S0 la lb hr hz hl hsz HT
  cases f with
  | true =>
    by_cases hlt : ta.size + 1 + tb.size < t0.size
    · have E : Hid (shR ss = ta ++ { data := #[44] } ++ tb) := by unfold Hid; rw [HER.out, if_pos ⟨rfl, by rw [Hsz.out]; exact hlt⟩, HES.out]
      have hq : (ta.size : Int) + 1 + (tb.size : Int) < (t0.size : Int) := by omega
      clear hlt
      go_enter Try.func53, Try.ntmps53
      go_wp2_with fail
      refine (HT0.out).mono ?_
      rintro e w' ⟨rfl, rfl⟩
      go_wp2_with fail
      refine (HH.out).mono ?_
      rintro e x1 ⟨A1, n1, c1, A2, n2, c2, l1, h1, l2, h2, rfl, o1, o2, _, _, _, _, _, hb1⟩
      have R1 := Lib.hid o1.rd
      have R2 := Lib.hid o2.rd
      clear o1 o2
      go_wp2_with fail
      refine (HTA.out _ _ _ _ R1.out).mono ?_
      rintro e w' ⟨rfl, rfl⟩
      go_wp2_with fail
      refine (HTB.out _ _ _ _ R2.out).mono ?_
      rintro e w' ⟨rfl, rfl⟩
      go_wp2
      go_ret
      exact ⟨ret_s E.out, hb1⟩
    · have E : Hid (shR ss = t0) := by unfold Hid; rw [HER.out, if_neg (fun h => hlt (by rw [← Hsz.out]; exact h.2))]
      have hq : (t0.size : Int) ≤ (ta.size : Int) + 1 + (tb.size : Int) := by omega
      clear hlt
      go_enter Try.func53, Try.ntmps53
      go_wp2_with fail
      refine (HT0.out).mono ?_
      rintro e w' ⟨rfl, rfl⟩
      go_wp2_with fail
      refine (HH.out).mono ?_
      rintro e x1 ⟨A1, n1, c1, A2, n2, c2, l1, h1, l2, h2, rfl, o1, o2, _, _, _, _, _, hb1⟩
      have R1 := Lib.hid o1.rd
      have R2 := Lib.hid o2.rd
      clear o1 o2
      go_wp2_with fail
      refine (HTA.out _ _ _ _ R1.out).mono ?_
      rintro e w' ⟨rfl, rfl⟩
      go_wp2_with fail
      refine (HTB.out _ _ _ _ R2.out).mono ?_
      rintro e w' ⟨rfl, rfl⟩
      go_wp2
      go_ret
      exact ⟨ret_s E.out, hb1⟩
  | false =>
    have E : Hid (shR ss = t0) := by unfold Hid; rw [HER.out, if_neg (fun h => by cases h.1)]
    go_enter Try.func53, Try.ntmps53
    go_wp2_with fail
    refine (HT0.out).mono ?_
    rintro e w' ⟨rfl, rfl⟩
    go_wp2_with fail
    refine (HH.out).mono ?_
    rintro e x1 ⟨A1, n1, c1, A2, n2, c2, l1, h1, l2, h2, rfl, o1, o2, _, _, _, _, _, hb1⟩
    clear o1 o2
    go_wp2
    go_ret
    exact ⟨ret_s E.out, hb1⟩
set_option maxRecDepth 100000 in
set_option maxHeartbeats 1000000 in
theorem sp_ShortNotation (n : Int) (A : Option Addr) (m c : Nat) (ss : List ByteArray) (W : World) (hn : (Lit.int .i64 n).wf = true) (hmc : m ≤ c) (hr : Rd W A m (strsV ss)) (hz0 : ∀ s ∈ ss, s.size ≤ 1048576) (hl0 : ss.length ≤ 1048576) :
    Calls Try.prog 24 #[.int .i64 n, .slice A m c] W fun e w' => e = .returned (.tuple #[.string (out_ShortNotation n ss), .bool (ok_ShortNotation n ss)]) ∧ Below W.heap.size W w' := by
  have HG := Lib.hid (l3List_any n A m c ss W hr (small2 hz0))
  obtain ⟨b, hb⟩ : ∃ b, b = chsB n ss := ⟨_, rfl⟩
  rw [← hb] at HG
  cases b with
  | false =>
    have E : Hid (out_ShortNotation n ss = { data := #[] }) := by unfold Hid out_ShortNotation; rw [← hb, if_neg (by simp)]
    have Hb := Lib.hid hb
    clear hb hr hz0
    go_enter Try.func24, Try.ntmps24
    go_wp2_with fail
    refine (HG.out).mono ?_
    rintro e w' ⟨rfl, rfl⟩
    go_wp2
    go_ret2
    exact ⟨by rw [E.out, show ok_ShortNotation n ss = false from Hb.out.symm]; rfl, Below.refl _ _⟩
  | true =>
    have hs := chs_small (n := n) (ss := ss) hb.symm
    have hz := hs.2.2
    have h40 : m ≤ 40 := by have := hr.slen; omega
    have E : Hid (out_ShortNotation n ss = shR ss) := by unfold Hid out_ShortNotation; rw [← hb, if_pos rfl]
    have Hb := Lib.hid hb
    clear hb hs
    have hl := hr.slen
    have HT : Hid (∀ A m c tt W, Rd W A m (strsV tt) → (∀ s ∈ tt, s.size ≤ 8) → m ≤ 40 → Calls Try.prog 52 #[.slice A m c] W fun e w' => e = .returned (.string (mkS (txtGo none tt))) ∧ W = w') := fun A m c tt W h1 h2 h3 => l3Text_any A m c tt W h1 h2 h3
    have HT0 : Hid (∀ W', Below W.heap.size W W' → Calls Try.prog 52 #[.slice A m c] W' fun e w' => e = .returned (.string (mkS (txtGo none ss))) ∧ W' = w') := fun W' h => HT.out A m c ss W' (hr.below h) hz h40
    have HH := Lib.hid (l3Halves_any A m c ss W h40 hmc hr)
    have ZA : Hid (∀ s ∈ hvA ss, s.size ≤ 8) := fun s hs => hz s (hvA_mem s hs)
    have ZB : Hid (∀ s ∈ hvB ss, s.size ≤ 8) := fun s hs => hz s (hvB_mem s hs)
    have LA : Hid ((hvA ss).length ≤ 40) := by have := hvA_len ss; unfold Hid; omega
    have LB : Hid ((hvB ss).length ≤ 40) := by have := hvB_len ss; unfold Hid; omega
    have SA := txtGo_le (hvA ss) none ZA.out
    have SB := txtGo_le (hvB ss) none ZB.out
    have S0 := txtGo_le ss none hz
    have la := LA.out
    have lb := LB.out
    have ER : shR ss = if hvF ss = true ∧ (shS ss).size < (mkS (txtGo none ss)).size then shS ss else mkS (txtGo none ss) := rfl
    have ES : shS ss = mkS (txtGo none (hvA ss)) ++ { data := #[44] } ++ mkS (txtGo none (hvB ss)) := rfl
    obtain ⟨xa, hxa⟩ : ∃ x, x = hvA ss := ⟨_, rfl⟩
    obtain ⟨xb, hxb⟩ : ∃ x, x = hvB ss := ⟨_, rfl⟩
    obtain ⟨f, hf⟩ : ∃ f, f = hvF ss := ⟨_, rfl⟩
    rw [← hxa] at HH ZA LA ES SA la
    rw [← hxb] at HH ZB LB ES SB lb
    rw [← hf] at HH ER
    have HTA : Hid (∀ A n c W, Rd W A n (strsV xa) → Calls Try.prog 52 #[.slice A n c] W fun e w' => e = .returned (.string (mkS (txtGo none xa))) ∧ W = w') := fun A n c W h => HT.out A n c xa W h ZA.out (by have := h.slen; have := LA.out; omega)
    have HTB : Hid (∀ A n c W, Rd W A n (strsV xb) → Calls Try.prog 52 #[.slice A n c] W fun e w' => e = .returned (.string (mkS (txtGo none xb))) ∧ W = w') := fun A n c W h => HT.out A n c xb W h ZB.out (by have := h.slen; have := LB.out; omega)
    obtain ⟨ta, hta⟩ : ∃ t, t = mkS (txtGo none xa) := ⟨_, rfl⟩
    obtain ⟨tb, htb⟩ : ∃ t, t = mkS (txtGo none xb) := ⟨_, rfl⟩
    obtain ⟨t0, ht0⟩ : ∃ t, t = mkS (txtGo none ss) := ⟨_, rfl⟩
    have sa : ta.size ≤ 360 := by rw [hta, size_mkS]; omega
    have sb : tb.size ≤ 360 := by rw [htb, size_mkS]; omega
    have s0 : t0.size ≤ 360 := by rw [ht0, size_mkS]; omega
    rw [← hta] at HTA ES
    rw [← htb] at HTB ES
    rw [← ht0] at HT0 ER
    have hsz : (shS ss).size = ta.size + 1 + tb.size := by rw [ES, ← size_bs, bs_append, bs_append, List.length_append, List.length_append, size_bs, size_bs]; rfl
    have HES := Lib.hid ES
    have HER := Lib.hid ER
    have Hsz := Lib.hid hsz
    clear hta htb ht0 hxa hxb hf ES ER SA SB S0 la lb hr hz hl hsz HT
    cases f with
    | true =>
      by_cases hlt : ta.size + 1 + tb.size < t0.size
      · have E3 : Hid (shR ss = ta ++ { data := #[44] } ++ tb) := by unfold Hid; rw [HER.out, if_pos ⟨rfl, by rw [Hsz.out]; exact hlt⟩, HES.out]
        have hq : (ta.size : Int) + 1 + (tb.size : Int) < (t0.size : Int) := by omega
        clear hlt
        go_enter Try.func24, Try.ntmps24
        go_wp2_with fail
        refine (HG.out).mono ?_
        rintro e w' ⟨rfl, rfl⟩
        go_wp2_with fail
        refine (HH.out).mono ?_
        rintro e x1 ⟨A1, n1, c1, A2, n2, c2, l1, h1, l2, h2, rfl, o1, o2, _, _, _, _, _, hb1⟩
        have R1 := Lib.hid o1.rd
        have R2 := Lib.hid o2.rd
        clear o1 o2
        go_wp2_with fail
        refine (HTA.out _ _ _ _ R1.out).mono ?_
        rintro e w' ⟨rfl, rfl⟩
        go_wp2_with fail
        refine (HTB.out _ _ _ _ R2.out).mono ?_
        rintro e w' ⟨rfl, rfl⟩
        go_wp2_with (go_at_call 52; refine (HT0.out _ hb1).mono ?_; rintro e w' ⟨rfl, rfl⟩)
        go_ret2
        exact ⟨by rw [E.out, E3.out, show ok_ShortNotation n ss = true from Hb.out.symm]; rfl, hb1⟩
      · have E3 : Hid (shR ss = t0) := by unfold Hid; rw [HER.out, if_neg (fun h => hlt (by rw [← Hsz.out]; exact h.2))]
        have hq : (t0.size : Int) ≤ (ta.size : Int) + 1 + (tb.size : Int) := by omega
        clear hlt
        go_enter Try.func24, Try.ntmps24
        go_wp2_with fail
        refine (HG.out).mono ?_
        rintro e w' ⟨rfl, rfl⟩
        go_wp2_with fail
        refine (HH.out).mono ?_
        rintro e x1 ⟨A1, n1, c1, A2, n2, c2, l1, h1, l2, h2, rfl, o1, o2, _, _, _, _, _, hb1⟩
        have R1 := Lib.hid o1.rd
        have R2 := Lib.hid o2.rd
        clear o1 o2
        go_wp2_with fail
        refine (HTA.out _ _ _ _ R1.out).mono ?_
        rintro e w' ⟨rfl, rfl⟩
        go_wp2_with fail
        refine (HTB.out _ _ _ _ R2.out).mono ?_
        rintro e w' ⟨rfl, rfl⟩
        go_wp2_with (go_at_call 52; refine (HT0.out _ hb1).mono ?_; rintro e w' ⟨rfl, rfl⟩)
        go_ret2
        exact ⟨by rw [E.out, E3.out, show ok_ShortNotation n ss = true from Hb.out.symm]; rfl, hb1⟩
    | false =>
      have E3 : Hid (shR ss = t0) := by unfold Hid; rw [HER.out, if_neg (fun h => by cases h.1)]
      go_enter Try.func24, Try.ntmps24
      go_wp2_with fail
      refine (HG.out).mono ?_
      rintro e w' ⟨rfl, rfl⟩
      go_wp2_with fail
      refine (HH.out).mono ?_
      rintro e x1 ⟨A1, n1, c1, A2, n2, c2, l1, h1, l2, h2, rfl, o1, o2, _, _, _, _, _, hb1⟩
      have R1 := Lib.hid o1.rd
      have R2 := Lib.hid o2.rd
      clear o1 o2
      go_wp2_with fail
      refine (HTA.out _ _ _ _ R1.out).mono ?_
      rintro e w' ⟨rfl, rfl⟩
      go_wp2_with fail
      refine (HTB.out _ _ _ _ R2.out).mono ?_
      rintro e w' ⟨rfl, rfl⟩
      go_wp2_with (go_at_call 52; refine (HT0.out _ hb1).mono ?_; rintro e w' ⟨rfl, rfl⟩)
      go_ret2
      exact ⟨by rw [E.out, E3.out, show ok_ShortNotation n ss = true from Hb.out.symm]; rfl, hb1⟩
set_option maxRecDepth 100000 in
set_option maxHeartbeats 1000000 in
theorem im_ShortNotation (n : Int) (A : Option Addr) (m c : Nat) (ss : List ByteArray) (W : World) (hn : (Lit.int .i64 n).wf = true) (hmc : m ≤ c) (hr : Rd W A m (strsV ss)) (hz : ∀ s ∈ ss, s.size ≤ 1048576) (hl : ss.length ≤ 1048576) :
    Calls Try.prog 25 #[.int .i64 n, .slice A m c] W fun e w' => e = .returned (.tuple #[.string (out_ShortNotation n ss), .bool (ok_ShortNotation n ss)]) ∧ Below W.heap.size W w' := by
  have Hr := Lib.hid hr
  have Hl := Lib.hid hr.slen
  have Hz := Lib.hid (small2 hz)
  clear hr hz
  cases hb : chsB n ss with
  | true =>
    have Hs := Lib.hid (chs_small hb)
    have hm : m ≤ 40 := by have := Hl.out; have := Hs.out.1; omega
    have E : Hid (out_ShortNotation n ss = shR ss) := by unfold Hid out_ShortNotation; rw [if_pos hb]
    have Hb := Lib.hid hb
    go_enter Try.func25, Try.ntmps25
    go_wp2_with (first | (go_at_call 49; refine (areChanges_any _ _ _ _ _ _ Hr.out Hz.out).mono ?_; rintro e w1 ⟨rfl, hb1⟩) | (go_at_call 53; refine (shortNotation_any _ _ _ _ _ hm hmc (Hr.out.below hb1) Hs.out.2.2).mono ?_; rintro e w2 ⟨rfl, hb2⟩))
    go_ret2
    refine ⟨by rw [E.out, show ok_ShortNotation n ss = true from Hb.out]; rfl, hb1.trans (hb2.mono hb1.size)⟩
  | false =>
    have E : Hid (out_ShortNotation n ss = { data := #[] }) := by unfold Hid out_ShortNotation; rw [hb, if_neg (by simp)]
    have Hb := Lib.hid hb
    go_enter Try.func25, Try.ntmps25
    go_wp2_with (go_at_call 49; refine (areChanges_any _ _ _ _ _ _ Hr.out Hz.out).mono ?_; rintro e w1 ⟨rfl, hb1⟩)
    go_ret2
    exact ⟨by rw [E.out, show ok_ShortNotation n ss = false from Hb.out]; rfl, hb1⟩
end Go.Proofs.Ytgpjbmlemnjhfaa
