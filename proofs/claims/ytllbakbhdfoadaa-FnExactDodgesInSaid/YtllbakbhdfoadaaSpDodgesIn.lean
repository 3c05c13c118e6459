/- DodgesIn, of the reference and of the program: what each returns. -/
import Derived.Test.YtllbakbhdfoadaaWalkQ
namespace Go.Proofs.Ytllbakbhdfoadaa
open Go.RowKit
set_option linter.unusedVariables false

def sel_DodgesIn (zs : List Int) (i : Nat) : Bool := decide (1 ≤ i ∧ i + 2 < zs.length ∧ zs.getD i 0 - zs.getD (i - 1) 0 ≠ 0 ∧ zs.getD (i + 1) 0 - zs.getD i 0 = -(zs.getD i 0 - zs.getD (i - 1) 0) ∧ zs.getD (i + 2) 0 - zs.getD (i + 1) 0 = zs.getD i 0 - zs.getD (i - 1) 0)
noncomputable def out_DodgesIn (zs : List Int) : List Int := if pathB zs = true then selI (sel_DodgesIn zs) (zs.length + 1) else []
theorem len_DodgesIn (zs : List Int) (hn : zs.length ≤ 1048576) : (out_DodgesIn zs).length ≤ 4194304 := by
  unfold out_DodgesIn
  split
  · have := selI_len (sel_DodgesIn zs) (zs.length + 1); omega
  · simp
set_option maxRecDepth 100000 in
set_option maxHeartbeats 2000000 in
theorem sp_DodgesIn (A : Option Addr) (n c : Nat) (zs : List Int) (W : World) (hr : Rd W A n (intsV zs)) (hz : ∀ z ∈ zs, (Lit.int .i64 z).wf = true) (hl : zs.length ≤ 1048576) :
    Calls Try.prog 34 #[.slice A n c] W (RetSB 3 (intsV (out_DodgesIn zs)) (pathB zs) W) := by
  have Hr := Lib.hid hr
  have Hl := Lib.hid hr.ilen
  have hn : n ≤ 1048576 := by have := hr.ilen; omega
  have E0 : Hid (sel_DodgesIn zs 0 = false) := by simp [Hid, sel_DodgesIn]
  clear hr hz
  cases hb : pathB zs with
  | false =>
    have E : Hid (out_DodgesIn zs = []) := by unfold Hid out_DodgesIn; rw [hb, if_neg (by simp)]
    go_enter Try.func34, Try.ntmps34
    go_wp2_with (go_at_call 69; refine (l5Good_any _ _ _ _ _ Hr.out).mono ?_; rintro e w' ⟨rfl, rfl⟩)
    go_ret2
    refine ⟨none, 0, 0, rfl, ?_, Below.refl _ _⟩
    rw [E.out]; exact Own.nil _ _ _ _
  | true =>
    have E : Hid (out_DodgesIn zs = selI (sel_DodgesIn zs) (zs.length + 1)) := by unfold Hid out_DodgesIn; rw [if_pos hb]
    have hok := of_cb hb
    have Hok := Lib.hid hok
    have n8 : n ≤ 800 := by have := hok.1; have := Hl.out; omega
    clear hok
    go_enter Try.func34, Try.ntmps34
    go_wp2_with (go_at_call 69; refine (l5Good_any _ _ _ _ _ Hr.out).mono ?_; rintro e w' ⟨rfl, rfl⟩)
    go_loopw [4, 5] (fun l i wr => ∃ (j m : Nat) (A1 : Option Addr) (c1 : Nat), j ≤ n ∧ i = .int .i64 ((j : Int) + 1) ∧ l = .slice A1 m c1 ∧ m ≤ 1000 ∧ Hid (j = 0 ∨ j + 2 < n + 1) ∧ Hid (Own wr 3 W.heap.size wr.heap.size A1 m c1 (intsV (selI (sel_DodgesIn zs) (j + 1)))) ∧ Hid (Below W.heap.size W wr)) (fun _ i _ => n + 2 - (intOf i).toNat)
    case atStart =>
      have e1 : selI (sel_DodgesIn zs) (0 + 1) = [] := by rw [selI_succ, E0.out]; rfl
      exact ⟨0, 0, none, 0, by omega, rfl, rfl, by omega, .inl rfl, (Own.nil W 3 _ _).congr (by rw [e1]; rfl), Below.refl _ _⟩
    case round =>
      obtain ⟨j, m, A1, c1, hj, rfl, rfl, hm, HJ, HO, HB⟩ := hrel
      by_cases hlt : j + 1 + 2 < n
      · obtain ⟨b, off, rfl, hbs, hcs0⟩ := Hr.out.intC (k := 0) (by omega)
        have hcs : ∀ q, q < n → wr.cell? ⟨b, off + q, none⟩ = some (.int .i64 (zs.getD q 0)) := fun q hq => (HB.out.cell (p := ⟨b, off + q, none⟩) hbs).trans (hcs0 q hq)
        have hzl := Hl.out
        have hml : m ≤ j + 1 := by have h1 := HO.out.rd.ilen; have h2 := selI_len (sel_DodgesIn zs) (j + 1); omega
        obtain ⟨v0, hv0⟩ : ∃ v, v = zs.getD j 0 := ⟨_, rfl⟩
        have hc0 : wr.cell? ⟨b, off + j, none⟩ = some (.int .i64 v0) := by have := hcs j (by omega); rw [← hv0] at this; exact this
        have hb0 : 1 ≤ v0 ∧ v0 ≤ 8 := by rw [hv0]; exact Hok.out.2.1 j (by omega)
        obtain ⟨hb0a, hb0b⟩ := hb0
        obtain ⟨v1, hv1⟩ : ∃ v, v = zs.getD (j + 1) 0 := ⟨_, rfl⟩
        have hc1 : wr.cell? ⟨b, off + (j + 1), none⟩ = some (.int .i64 v1) := by have := hcs (j + 1) (by omega); rw [← hv1] at this; exact this
        have hb1 : 1 ≤ v1 ∧ v1 ≤ 8 := by rw [hv1]; exact Hok.out.2.1 (j + 1) (by omega)
        obtain ⟨hb1a, hb1b⟩ := hb1
        obtain ⟨v2, hv2⟩ : ∃ v, v = zs.getD (j + 2) 0 := ⟨_, rfl⟩
        have hc2 : wr.cell? ⟨b, off + (j + 2), none⟩ = some (.int .i64 v2) := by have := hcs (j + 2) (by omega); rw [← hv2] at this; exact this
        have hb2 : 1 ≤ v2 ∧ v2 ≤ 8 := by rw [hv2]; exact Hok.out.2.1 (j + 2) (by omega)
        obtain ⟨hb2a, hb2b⟩ := hb2
        obtain ⟨v3, hv3⟩ : ∃ v, v = zs.getD (j + 3) 0 := ⟨_, rfl⟩
        have hc3 : wr.cell? ⟨b, off + (j + 3), none⟩ = some (.int .i64 v3) := by have := hcs (j + 3) (by omega); rw [← hv3] at this; exact this
        have hb3 : 1 ≤ v3 ∧ v3 ≤ 8 := by rw [hv3]; exact Hok.out.2.1 (j + 3) (by omega)
        obtain ⟨hb3a, hb3b⟩ := hb3
        have k0 : (0 : Int) ≤ (j : Int) := by omega
        have k1 : (0 : Int) ≤ (j : Int) + 1 := by omega
        have k2 : (0 : Int) ≤ (j : Int) + 1 + 1 := by omega
        have m0 : (j : Int) < (n : Int) := by omega
        have m1 : (j : Int) + 1 < (n : Int) := by omega
        have m2 : (j : Int) + 1 + 1 < (n : Int) := by omega
        have kw0 : IntKind.i64.wrap (j : Int) = (j : Int) := by rw [IntKind.wrap_i64]; omega
        have kw1 : IntKind.i64.wrap ((j : Int) + 1 + 1) = (j : Int) + 1 + 1 := by rw [IntKind.wrap_i64]; omega
        have kt1 : ((j : Int) + 1).toNat = j + 1 := by omega
        have kt2 : ((j : Int) + 1 + 1).toNat = j + 2 := by omega
        have k3 : (0 : Int) ≤ (j : Int) + 1 + 2 := by omega
        have m3 : (j : Int) + 1 + 2 < (n : Int) := by omega
        have kw2 : IntKind.i64.wrap ((j : Int) + 1 + 2) = (j : Int) + 1 + 2 := by rw [IntKind.wrap_i64]; omega
        have kt3 : ((j : Int) + 1 + 2).toNat = j + 3 := by omega
        obtain ⟨a, ha⟩ : ∃ a, v1 - v0 = a := ⟨_, rfl⟩
        obtain ⟨b2, hb2⟩ : ∃ a, v2 - v1 = a := ⟨_, rfl⟩
        obtain ⟨c2, hc2⟩ : ∃ a, v3 - v2 = a := ⟨_, rfl⟩
        have wa : IntKind.i64.wrap a = a := by rw [IntKind.wrap_i64]; omega
        have wb : IntKind.i64.wrap b2 = b2 := by rw [IntKind.wrap_i64]; omega
        have wc : IntKind.i64.wrap c2 = c2 := by rw [IntKind.wrap_i64]; omega
        have ab1 : -7 ≤ a := by omega
        have ab2 : a ≤ 7 := by omega
        have HV : Hid (sel_DodgesIn zs (j + 1) = decide (a ≠ 0 ∧ b2 = -a ∧ c2 = a)) := by
          unfold Hid sel_DodgesIn
          rw [Nat.add_sub_cancel, ← hv0, show j + 1 + 1 = j + 2 by omega, show j + 1 + 2 = j + 3 by omega, ← hv1, ← hv2, ← hv3, ha, hb2, hc2]
          exact decide_eq_decide.2 ⟨fun h => h.2.2, fun h => ⟨by omega, by omega, h⟩⟩
        clear hv0 hv1 hv2 hv3 hcs hcs0 hzl
        have HS := Lib.hid (selI_succ (sel_DodgesIn zs) (j + 1))
        by_cases t1 : a ≠ 0
        · have t1b : (a != 0) = true := by simp [t1]
          have p0 := Lib.hid t1
          clear t1
          by_cases t2 : b2 = -a
          · have t2b : (b2 == -a) = true := by simp [t2]
            have p1 := Lib.hid t2
            clear t2
            by_cases t3 : c2 = a
            · have t3b : (c2 == a) = true := by simp [t3]
              have p2 := Lib.hid t3
              clear t3
              have HF : Hid (sel_DodgesIn zs (j + 1) = true) := by rw [HV.out]; exact decide_eq_true ⟨p0.out, p1.out, p2.out⟩
              go_wp2
              go_quiet (fail)
              go_wp2_with (at_builtin; refine wpList_append1 _ rfl (.tmp 63) (.tmp 65) 38 rfl 3 (.int .i64 0) 8 Try.underlying38 info_int rfl W.heap.size A1 m c1 (intsV (selI (sel_DodgesIn zs) (j + 1))) (.int .i64 ((j : Int) + 1)) rfl rfl rfl (HO.out.drewN _) (by omega) (by omega) HB.out.size ?_; intro A2 c2' w2 ho2 hw2 hsz2 hat2)
              have HO1 : Hid (Own w2 3 W.heap.size w2.heap.size A2 (m + 1) c2' (intsV (selI (sel_DodgesIn zs) (j + 1 + 1)))) := ho2.congr (by rw [HS.out, HF.out, intsV_app]; rfl)
              have HB1 : Hid (Below W.heap.size W w2) := (below_drewN' HB.out _).trans (hw2.below (Nat.le_refl _) HB.out.size)
              go_roundw
              case rel => exact ⟨j + 1, m + 1, A2, c2', by omega, by go_num, rfl, by omega, .inr (by omega), HO1.out, HB1.out⟩
              case measure => (simp [intOf]; omega)
            · have t3b : (c2 == a) = false := by simpa using t3
              have HF : Hid (sel_DodgesIn zs (j + 1) = false) := by rw [HV.out]; exact decide_eq_false (fun h => t3 h.2.2)
              clear t3
              have HO1 : Hid (Own wr 3 W.heap.size wr.heap.size A1 m c1 (intsV (selI (sel_DodgesIn zs) (j + 1 + 1)))) := HO.out.congr (by rw [HS.out, HF.out]; simp)
              go_wp2
              go_quiet (fail)
              go_wp2
              go_roundw
              case rel => exact ⟨j + 1, m, A1, c1, by omega, by go_num, rfl, by omega, .inr (by omega), HO1.out.drewN _, below_drewN' HB.out _⟩
              case measure => (simp [intOf]; omega)
          · have t2b : (b2 == -a) = false := by simpa using t2
            have HF : Hid (sel_DodgesIn zs (j + 1) = false) := by rw [HV.out]; exact decide_eq_false (fun h => t2 h.2.1)
            clear t2
            have HO1 : Hid (Own wr 3 W.heap.size wr.heap.size A1 m c1 (intsV (selI (sel_DodgesIn zs) (j + 1 + 1)))) := HO.out.congr (by rw [HS.out, HF.out]; simp)
            go_wp2
            go_quiet (fail)
            go_wp2
            go_roundw
            case rel => exact ⟨j + 1, m, A1, c1, by omega, by go_num, rfl, by omega, .inr (by omega), HO1.out.drewN _, below_drewN' HB.out _⟩
            case measure => (simp [intOf]; omega)
        · have t1b : (a != 0) = false := by simpa using t1
          have HF : Hid (sel_DodgesIn zs (j + 1) = false) := by rw [HV.out]; exact decide_eq_false (fun h => t1 h.1)
          clear t1
          have HO1 : Hid (Own wr 3 W.heap.size wr.heap.size A1 m c1 (intsV (selI (sel_DodgesIn zs) (j + 1 + 1)))) := HO.out.congr (by rw [HS.out, HF.out]; simp)
          go_wp2
          go_quiet (fail)
          go_wp2
          go_roundw
          case rel => exact ⟨j + 1, m, A1, c1, by omega, by go_num, rfl, by omega, .inr (by omega), HO1.out.drewN _, below_drewN' HB.out _⟩
          case measure => (simp [intOf]; omega)
      · have hge : (n : Int) ≤ (j : Int) + 1 + 2 := by omega
        have E2 : Hid (Own wr 3 W.heap.size wr.heap.size A1 m c1 (intsV (out_DodgesIn zs))) := by
          refine HO.out.congr ?_
          rw [E.out]
          have hzl := Hl.out
          have hstop : ∀ q, j + 1 ≤ q → sel_DodgesIn zs q = false := fun q hq => decide_eq_false (fun h => by have := h.2.1; omega)
          have := selI_stop (p := sel_DodgesIn zs) (i := j + 1) (zs.length - j) hstop
          rw [show j + 1 + (zs.length - j) = zs.length + 1 by omega] at this
          rw [this]
        clear hlt
        go_wp2
        go_ret2
        exact ⟨A1, m, c1, rfl, E2.out, HB.out⟩
set_option maxRecDepth 100000 in
set_option maxHeartbeats 2000000 in
theorem im_DodgesIn (A : Option Addr) (n c : Nat) (zs : List Int) (W : World) (hr : Rd W A n (intsV zs)) (hz : ∀ z ∈ zs, (Lit.int .i64 z).wf = true) (hl : zs.length ≤ 1048576) :
    Calls Try.prog 35 #[.slice A n c] W (RetSB 3 (intsV (out_DodgesIn zs)) (pathB zs) W) := by
  have Hr := Lib.hid hr
  have Hl := Lib.hid hr.ilen
  have hn : n ≤ 1048576 := by have := hr.ilen; omega
  have E0 : Hid (sel_DodgesIn zs 0 = false) := by simp [Hid, sel_DodgesIn]
  clear hr hz
  cases hb : pathB zs with
  | false =>
    have E : Hid (out_DodgesIn zs = []) := by unfold Hid out_DodgesIn; rw [hb, if_neg (by simp)]
    go_enter Try.func35, Try.ntmps35
    go_wp2_with (go_at_call 70; refine (isPath_any _ _ _ _ _ Hr.out).mono ?_; rintro e w' ⟨rfl, rfl⟩)
    go_ret2
    refine ⟨none, 0, 0, rfl, ?_, Below.refl _ _⟩
    rw [E.out]; exact Own.nil _ _ _ _
  | true =>
    have E : Hid (out_DodgesIn zs = selI (sel_DodgesIn zs) (zs.length + 1)) := by unfold Hid out_DodgesIn; rw [if_pos hb]
    have hok := of_cb hb
    have Hok := Lib.hid hok
    have n8 : n ≤ 800 := by have := hok.1; have := Hl.out; omega
    clear hok
    go_enter Try.func35, Try.ntmps35
    go_wp2_with (go_at_call 70; refine (isPath_any _ _ _ _ _ Hr.out).mono ?_; rintro e w' ⟨rfl, rfl⟩)
    go_loopw [4, 5] (fun l i wr => ∃ (j m : Nat) (A1 : Option Addr) (c1 : Nat), j ≤ n ∧ i = .int .i64 ((j : Int) + 1) ∧ l = .slice A1 m c1 ∧ m ≤ 1000 ∧ Hid (j = 0 ∨ j + 2 < n + 1) ∧ Hid (Own wr 3 W.heap.size wr.heap.size A1 m c1 (intsV (selI (sel_DodgesIn zs) (j + 1)))) ∧ Hid (Below W.heap.size W wr)) (fun _ i _ => n + 2 - (intOf i).toNat)
    case atStart =>
      have e1 : selI (sel_DodgesIn zs) (0 + 1) = [] := by rw [selI_succ, E0.out]; rfl
      exact ⟨0, 0, _, _, by omega, rfl, rfl, by omega, .inl rfl, (own_empty W 3).congr (by rw [e1]; rfl), below_alloc _ _⟩
    case round =>
      obtain ⟨j, m, A1, c1, hj, rfl, rfl, hm, HJ, HO, HB⟩ := hrel
      by_cases hlt : j + 1 + 2 < n
      · obtain ⟨b, off, rfl, hbs, hcs0⟩ := Hr.out.intC (k := 0) (by omega)
        have hcs : ∀ q, q < n → wr.cell? ⟨b, off + q, none⟩ = some (.int .i64 (zs.getD q 0)) := fun q hq => (HB.out.cell (p := ⟨b, off + q, none⟩) hbs).trans (hcs0 q hq)
        have hzl := Hl.out
        have hml : m ≤ j + 1 := by have h1 := HO.out.rd.ilen; have h2 := selI_len (sel_DodgesIn zs) (j + 1); omega
        obtain ⟨v0, hv0⟩ : ∃ v, v = zs.getD j 0 := ⟨_, rfl⟩
        have hc0 : wr.cell? ⟨b, off + j, none⟩ = some (.int .i64 v0) := by have := hcs j (by omega); rw [← hv0] at this; exact this
        have hb0 : 1 ≤ v0 ∧ v0 ≤ 8 := by rw [hv0]; exact Hok.out.2.1 j (by omega)
        obtain ⟨hb0a, hb0b⟩ := hb0
        obtain ⟨v1, hv1⟩ : ∃ v, v = zs.getD (j + 1) 0 := ⟨_, rfl⟩
        have hc1 : wr.cell? ⟨b, off + (j + 1), none⟩ = some (.int .i64 v1) := by have := hcs (j + 1) (by omega); rw [← hv1] at this; exact this
        have hb1 : 1 ≤ v1 ∧ v1 ≤ 8 := by rw [hv1]; exact Hok.out.2.1 (j + 1) (by omega)
        obtain ⟨hb1a, hb1b⟩ := hb1
        obtain ⟨v2, hv2⟩ : ∃ v, v = zs.getD (j + 2) 0 := ⟨_, rfl⟩
        have hc2 : wr.cell? ⟨b, off + (j + 2), none⟩ = some (.int .i64 v2) := by have := hcs (j + 2) (by omega); rw [← hv2] at this; exact this
        have hb2 : 1 ≤ v2 ∧ v2 ≤ 8 := by rw [hv2]; exact Hok.out.2.1 (j + 2) (by omega)
        obtain ⟨hb2a, hb2b⟩ := hb2
        obtain ⟨v3, hv3⟩ : ∃ v, v = zs.getD (j + 3) 0 := ⟨_, rfl⟩
        have hc3 : wr.cell? ⟨b, off + (j + 3), none⟩ = some (.int .i64 v3) := by have := hcs (j + 3) (by omega); rw [← hv3] at this; exact this
        have hb3 : 1 ≤ v3 ∧ v3 ≤ 8 := by rw [hv3]; exact Hok.out.2.1 (j + 3) (by omega)
        obtain ⟨hb3a, hb3b⟩ := hb3
        have k0 : (0 : Int) ≤ (j : Int) := by omega
        have k1 : (0 : Int) ≤ (j : Int) + 1 := by omega
        have k2 : (0 : Int) ≤ (j : Int) + 1 + 1 := by omega
        have m0 : (j : Int) < (n : Int) := by omega
        have m1 : (j : Int) + 1 < (n : Int) := by omega
        have m2 : (j : Int) + 1 + 1 < (n : Int) := by omega
        have kw0 : IntKind.i64.wrap (j : Int) = (j : Int) := by rw [IntKind.wrap_i64]; omega
        have kw1 : IntKind.i64.wrap ((j : Int) + 1 + 1) = (j : Int) + 1 + 1 := by rw [IntKind.wrap_i64]; omega
        have kt1 : ((j : Int) + 1).toNat = j + 1 := by omega
        have kt2 : ((j : Int) + 1 + 1).toNat = j + 2 := by omega
        have k3 : (0 : Int) ≤ (j : Int) + 1 + 2 := by omega
        have m3 : (j : Int) + 1 + 2 < (n : Int) := by omega
        have kw2 : IntKind.i64.wrap ((j : Int) + 1 + 2) = (j : Int) + 1 + 2 := by rw [IntKind.wrap_i64]; omega
        have kt3 : ((j : Int) + 1 + 2).toNat = j + 3 := by omega
        obtain ⟨a, ha⟩ : ∃ a, v1 - v0 = a := ⟨_, rfl⟩
        obtain ⟨b2, hb2⟩ : ∃ a, v2 - v1 = a := ⟨_, rfl⟩
        obtain ⟨c2, hc2⟩ : ∃ a, v3 - v2 = a := ⟨_, rfl⟩
        have wa : IntKind.i64.wrap a = a := by rw [IntKind.wrap_i64]; omega
        have wb : IntKind.i64.wrap b2 = b2 := by rw [IntKind.wrap_i64]; omega
        have wc : IntKind.i64.wrap c2 = c2 := by rw [IntKind.wrap_i64]; omega
        have ab1 : -7 ≤ a := by omega
        have ab2 : a ≤ 7 := by omega
        have HV : Hid (sel_DodgesIn zs (j + 1) = decide (a ≠ 0 ∧ b2 = -a ∧ c2 = a)) := by
          unfold Hid sel_DodgesIn
          rw [Nat.add_sub_cancel, ← hv0, show j + 1 + 1 = j + 2 by omega, show j + 1 + 2 = j + 3 by omega, ← hv1, ← hv2, ← hv3, ha, hb2, hc2]
          exact decide_eq_decide.2 ⟨fun h => h.2.2, fun h => ⟨by omega, by omega, h⟩⟩
        clear hv0 hv1 hv2 hv3 hcs hcs0 hzl
        have HS := Lib.hid (selI_succ (sel_DodgesIn zs) (j + 1))
        by_cases t1 : a ≠ 0
        · have t1b : (a != 0) = true := by simp [t1]
          have p0 := Lib.hid t1
          clear t1
          by_cases t2 : b2 = -a
          · have t2b : (b2 == -a) = true := by simp [t2]
            have p1 := Lib.hid t2
            clear t2
            by_cases t3 : c2 = a
            · have t3b : (c2 == a) = true := by simp [t3]
              have p2 := Lib.hid t3
              clear t3
              have HF : Hid (sel_DodgesIn zs (j + 1) = true) := by rw [HV.out]; exact decide_eq_true ⟨p0.out, p1.out, p2.out⟩
              go_wp2
              go_quiet (fail)
              go_wp2_with (at_builtin; refine wpList_append1 _ rfl (.tmp 64) (.tmp 66) 38 rfl 3 (.int .i64 0) 8 Try.underlying38 info_int rfl W.heap.size A1 m c1 (intsV (selI (sel_DodgesIn zs) (j + 1))) (.int .i64 ((j : Int) + 1)) rfl rfl rfl (HO.out.drewN _) (by omega) (by omega) HB.out.size ?_; intro A2 c2' w2 ho2 hw2 hsz2 hat2)
              have HO1 : Hid (Own w2 3 W.heap.size w2.heap.size A2 (m + 1) c2' (intsV (selI (sel_DodgesIn zs) (j + 1 + 1)))) := ho2.congr (by rw [HS.out, HF.out, intsV_app]; rfl)
              have HB1 : Hid (Below W.heap.size W w2) := (below_drewN' HB.out _).trans (hw2.below (Nat.le_refl _) HB.out.size)
              go_roundw
              case rel => exact ⟨j + 1, m + 1, A2, c2', by omega, by go_num, rfl, by omega, .inr (by omega), HO1.out, HB1.out⟩
              case measure => (simp [intOf]; omega)
            · have t3b : (c2 == a) = false := by simpa using t3
              have HF : Hid (sel_DodgesIn zs (j + 1) = false) := by rw [HV.out]; exact decide_eq_false (fun h => t3 h.2.2)
              clear t3
              have HO1 : Hid (Own wr 3 W.heap.size wr.heap.size A1 m c1 (intsV (selI (sel_DodgesIn zs) (j + 1 + 1)))) := HO.out.congr (by rw [HS.out, HF.out]; simp)
              go_wp2
              go_quiet (fail)
              go_wp2
              go_roundw
              case rel => exact ⟨j + 1, m, A1, c1, by omega, by go_num, rfl, by omega, .inr (by omega), HO1.out.drewN _, below_drewN' HB.out _⟩
              case measure => (simp [intOf]; omega)
          · have t2b : (b2 == -a) = false := by simpa using t2
            have HF : Hid (sel_DodgesIn zs (j + 1) = false) := by rw [HV.out]; exact decide_eq_false (fun h => t2 h.2.1)
            clear t2
            have HO1 : Hid (Own wr 3 W.heap.size wr.heap.size A1 m c1 (intsV (selI (sel_DodgesIn zs) (j + 1 + 1)))) := HO.out.congr (by rw [HS.out, HF.out]; simp)
            go_wp2
            go_quiet (fail)
            go_wp2
            go_roundw
            case rel => exact ⟨j + 1, m, A1, c1, by omega, by go_num, rfl, by omega, .inr (by omega), HO1.out.drewN _, below_drewN' HB.out _⟩
            case measure => (simp [intOf]; omega)
        · have t1b : (a != 0) = false := by simpa using t1
          have HF : Hid (sel_DodgesIn zs (j + 1) = false) := by rw [HV.out]; exact decide_eq_false (fun h => t1 h.1)
          clear t1
          have HO1 : Hid (Own wr 3 W.heap.size wr.heap.size A1 m c1 (intsV (selI (sel_DodgesIn zs) (j + 1 + 1)))) := HO.out.congr (by rw [HS.out, HF.out]; simp)
          go_wp2
          go_quiet (fail)
          go_wp2
          go_roundw
          case rel => exact ⟨j + 1, m, A1, c1, by omega, by go_num, rfl, by omega, .inr (by omega), HO1.out.drewN _, below_drewN' HB.out _⟩
          case measure => (simp [intOf]; omega)
      · have hge : (n : Int) ≤ (j : Int) + 1 + 2 := by omega
        have E2 : Hid (Own wr 3 W.heap.size wr.heap.size A1 m c1 (intsV (out_DodgesIn zs))) := by
          refine HO.out.congr ?_
          rw [E.out]
          have hzl := Hl.out
          have hstop : ∀ q, j + 1 ≤ q → sel_DodgesIn zs q = false := fun q hq => decide_eq_false (fun h => by have := h.2.1; omega)
          have := selI_stop (p := sel_DodgesIn zs) (i := j + 1) (zs.length - j) hstop
          rw [show j + 1 + (zs.length - j) = zs.length + 1 by omega] at this
          rw [this]
        clear hlt
        go_wp2
        go_ret2
        exact ⟨A1, m, c1, rfl, E2.out, HB.out⟩
end Go.Proofs.Ytllbakbhdfoadaa
