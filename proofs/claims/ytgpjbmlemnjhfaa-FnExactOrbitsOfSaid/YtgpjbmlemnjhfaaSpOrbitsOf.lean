/- OrbitsOf: the reference's walk. -/
import Derived.Test.YtgpjbmlemnjhfaaWalkOk
import Derived.Deep.DeepCutAuto
namespace Go.Proofs.Ytgpjbmlemnjhfaa
open Go.RowKit
set_option linter.unusedVariables false

theorem cut_t {ok r : Bool} (h : ok = r) : ok = true → Value.bool (!r) = .bool false := fun e => by rw [← h, e]; rfl
theorem cut_f {ok r : Bool} (h : ok = r) : ok = false → Value.bool (!r) = .bool true := fun e => by rw [← h, e]; rfl
set_option maxRecDepth 100000 in
set_option maxHeartbeats 8000000 in
theorem sp_OrbitsOf (A : Option Addr) (n c : Nat) (ss : List ByteArray) (N : Int) (W : World) (hr : Rd W A n (strsV ss)) (hz : ∀ s ∈ ss, s.size ≤ 1048576) (hl : ss.length ≤ 1048576) (hN : (Lit.int .i64 N).wf = true) :
    Calls Try.prog 38 #[.slice A n c, .int .i64 N] W (RetRB (out_OrbitsOf ss N) (ok_OrbitsOf ss N) W) := by
  have hzm : ∀ s ∈ ss, s.size ≤ maxLen := fun s hs => by have := hz s hs; unfold maxLen; omega
  have HI := Lib.hid (fun W => l1In_any N 3 8 W)
  have HA := Lib.hid (l6Rows_any A n c ss W hr hzm)
  have EN : Hid (ok_OrbitsOf ss N = false → out_OrbitsOf ss N = []) := fun h => by unfold out_OrbitsOf; rw [h]; simp
  have EY : Hid (ok_OrbitsOf ss N = true → out_OrbitsOf ss N = obZ N.toNat (LO N.toNat ss) N.toNat) := fun h => by unfold out_OrbitsOf; rw [if_pos h]
  have hsl := hr.slen
  have HX : Hid (0 < n → ∃ b off, A = some ⟨b, off, none⟩ ∧ W.cell? ⟨b, off, none⟩ = some (.string (headS ss))) := fun h => by
    obtain ⟨b, off, e, _, hc⟩ := hr.str h
    refine ⟨b, off, e, ?_⟩
    rw [headS_get (by omega)]
    simpa using hc
  have HOK : Hid (ok_OrbitsOf ss N = (inB N 3 8 && (rowsB ss && (decide (n = 0) || decide (((headS ss).size : Int) = N))))) := by
    unfold Hid ok_OrbitsOf rowsOfB; rw [hsl]
  have HRO : Hid (ok_OrbitsOf ss N = true → ∀ s ∈ ss, IsRow (bs s) ∧ s.size = N.toNat) := fun h => by
    unfold ok_OrbitsOf at h
    rw [Bool.and_eq_true] at h
    have h38 : 3 ≤ N ∧ N ≤ 8 := by simpa [inB] using h.1
    obtain ⟨m, rfl⟩ : ∃ m : Nat, N = (m : Int) := ⟨N.toNat, by omega⟩
    rw [Int.toNat_natCast]
    exact rowsOf_each h.2
  have H38 : Hid (ok_OrbitsOf ss N = true → 3 ≤ N ∧ N ≤ 8) := fun h => by
    unfold ok_OrbitsOf at h
    rw [Bool.and_eq_true] at h
    simpa [inB] using h.1
  obtain ⟨ra, hra⟩ : ∃ r, r = inB N 3 8 := ⟨_, rfl⟩
  obtain ⟨rb, hrb⟩ : ∃ r, r = rowsB ss := ⟨_, rfl⟩
  obtain ⟨x, hx⟩ : ∃ r, r = headS ss := ⟨_, rfl⟩
  obtain ⟨ok, hok⟩ : ∃ r, r = ok_OrbitsOf ss N := ⟨_, rfl⟩
  rw [← hra] at HI HOK
  rw [← hrb] at HA HOK
  rw [← hx] at HX HOK
  rw [← hok] at HOK HRO H38 EN EY
  have HOk := Lib.hid hok
  have Hr := Lib.hid hr
  have Hsl := Lib.hid hsl
  have hn : n ≤ 1048576 := by omega
  clear hra hrb hx hok hr hz hl hN hzm hsl
  go_enter Try.func38, Try.ntmps38
  go_upto_region 1 with fail
  go_cut [37] (fun s37 wx => (ok = true → s37 = .bool false) ∧ (ok = false → s37 = .bool true) ∧ ∃ d, wx = W.drewN d)
  case first =>
    cases ra with
    | false =>
      have HF : Hid (ok = false) := HOK.out
      go_wp2_with (go_at_call 60; refine (HI.out _).mono ?_; rintro e w1 ⟨rfl, rfl⟩)
      go_meet
      exact ⟨cut_t HF.out, cut_f HF.out, 0, rfl⟩
    | true =>
      cases rb with
      | false =>
        have HF : Hid (ok = false) := HOK.out
        go_wp2_with first
          | (go_at_call 60; refine (HI.out _).mono ?_; rintro e w1 ⟨rfl, rfl⟩)
          | (go_at_call 65; refine HA.out.mono ?_; rintro e w1 ⟨rfl, d1, rfl⟩)
        go_meet
        exact ⟨cut_t HF.out, cut_f HF.out, _, rfl⟩
      | true =>
        by_cases hn0 : 0 < n
        · obtain ⟨b, off, rfl, hc⟩ := HX.out hn0
          have i1 : (0 : Int) < (n : Int) := by omega
          by_cases he : (x.size : Int) = N
          · have HF : Hid (ok = true) := by unfold Hid; rw [HOK.out]; simp [he]
            have hq : ((x.size : Int) != N) = false := by simp [he]
            clear he
            go_wp2_with first
              | (go_at_call 60; refine (HI.out _).mono ?_; rintro e w1 ⟨rfl, rfl⟩)
              | (go_at_call 65; refine HA.out.mono ?_; rintro e w1 ⟨rfl, d1, rfl⟩)
            go_meet
            exact ⟨cut_t HF.out, cut_f HF.out, _, rfl⟩
          · have HF : Hid (ok = false) := by unfold Hid; rw [HOK.out]; simp [he]; omega
            have hq : ((x.size : Int) != N) = true := by simpa using he
            clear he
            go_wp2_with first
              | (go_at_call 60; refine (HI.out _).mono ?_; rintro e w1 ⟨rfl, rfl⟩)
              | (go_at_call 65; refine HA.out.mono ?_; rintro e w1 ⟨rfl, d1, rfl⟩)
            go_meet
            exact ⟨cut_t HF.out, cut_f HF.out, _, rfl⟩
        · have i1 : (n : Int) ≤ 0 := by omega
          have HF : Hid (ok = true) := by
            have : n = 0 := by omega
            unfold Hid; rw [HOK.out, this]; rfl
          clear hn0
          go_wp2_with first
            | (go_at_call 60; refine (HI.out _).mono ?_; rintro e w1 ⟨rfl, rfl⟩)
            | (go_at_call 65; refine HA.out.mono ?_; rintro e w1 ⟨rfl, d1, rfl⟩)
          go_meet
          exact ⟨cut_t HF.out, cut_f HF.out, _, rfl⟩
  case rest =>
    obtain ⟨h37t, h37f, d, rfl⟩ := hcut
    clear HOK HX HA HI
    cases ok with
    | false =>
      obtain rfl := h37f rfl
      clear h37t h37f
      go_wp2
      go_ret2
      refine ⟨none, 0, 0, [], ret_slb HOk.out.symm, ?_, below_drewN' (Below.refl _ _) _⟩
      rw [EN.out (by trivial)]; exact OwnR.of_own (Own.nil _ _ _ _)
    | true =>
      obtain rfl := h37t rfl
      clear h37t h37f
      obtain ⟨h3, h8⟩ := H38.out (by trivial)
      obtain ⟨m, rfl⟩ : ∃ m : Nat, N = (m : Int) := ⟨N.toNat, by omega⟩
      have h3 : 3 ≤ m := by omega
      have h8 : m ≤ 8 := by omega
      have hE := EY.out (by trivial)
      have hrows := HRO.out (by trivial)
      rw [Int.toNat_natCast] at hE hrows
      have HE := Lib.hid hE
      have HG : Hid (Gens m (gsL ss)) := gens_of hrows
      have HRw := Lib.hid hrows
      have HAt : Hid (∀ (s : ByteArray) (x : Nat) (w : World), s ∈ ss → 1 ≤ x → x ≤ m → Calls Try.prog 42 #[.string s, .int .i64 (x : Int)] w fun e w' => e = .returned (.int .i64 ((goL (bs s) x : Nat) : Int)) ∧ w' = w) := fun s x w hs h1 h2 => by
        obtain ⟨hR, hm⟩ := hrows s hs
        have hk : x - 1 < s.size := by omega
        have h3 := (hR.2.2.1 _ (get_mem s _ hk)).1
        have h4 := l1At_any s (x : Int) (x - 1) w (by omega) hk (by omega) h3
        have h5 : ((goL (bs s) x : Nat) : Int) = ((dig (s[x - 1]'hk) : Nat) : Int) + 1 := by
          unfold goL; rw [getD_bs s _ hk]; omega
        rw [h5]
        refine h4.mono ?_
        rintro e w' ⟨rfl, rfl⟩
        exact ⟨rfl, rfl⟩
      obtain ⟨w1, hmk, hown, hbel, hlt⟩ := make_row (P := Try.prog) (W.drewN d) 50 3 (.int .i64 0) 8 Try.underlying50 info_int rfl (by omega) (m + 1) (by omega)
      rw [show ((m + 1 : Nat) : Int) = (m : Int) + 1 by omega] at hmk
      have HP1 : Hid (Own w1 3 W.heap.size w1.heap.size (some ⟨W.heap.size, 0, none⟩) (m + 1) (m + 1) (intsV (fil m 0))) := by
        refine hown.congr ?_
        simp [intsV, fil]
      have HB1 : Hid (Below W.heap.size W w1) := (below_drewN' (Below.refl _ _) _ : Below W.heap.size W (W.drewN d)).trans hbel
      have hlt1 : W.heap.size < w1.heap.size := hlt
      have hmk1 : (Instr.makeSlice 50 (.int .i64 ((m : Int) + 1)) (.int .i64 ((m : Int) + 1))).run Try.prog (W.drewN d) = .ok (.slice (some ⟨W.heap.size, 0, none⟩) (m + 1) (m + 1)) w1 := hmk
      clear h3 hE hrows EN EY HRO H38 hmk hown hbel hlt
      obtain ⟨gs, hgs⟩ : ∃ gs, gs = gsL ss := ⟨_, rfl⟩
      have HGs : Hid (∀ (j : Nat) (s : ByteArray), ss[j]? = some s → gs[j]? = some (goL (bs s))) := fun j s h => by rw [hgs]; exact gsL_get h
      have HGl : Hid (gs.length = n) := by unfold Hid; rw [hgs, gsL_len]; exact Hsl.out
      obtain ⟨L, hL⟩ : ∃ L, L = LO m ss := ⟨_, rfl⟩
      have HLL : Hid (L = labF m gs m) := by unfold Hid; rw [hL, hgs]; rfl
      rw [← hgs] at HG
      rw [← hL] at HE
      clear hgs hL
      go_wp2
      go_loopw [43] (fun i wr => ∃ k : Nat, i = .int .i64 (k : Int) ∧ k ≤ m + 1 ∧ Hid (Own wr 3 W.heap.size wr.heap.size (some ⟨W.heap.size, 0, none⟩) (m + 1) (m + 1) (intsV (fil m k))) ∧ W.heap.size < wr.heap.size ∧ Hid (Below W.heap.size W wr)) (fun i _ => ((m : Int) + 1 - intOf i).toNat)
      case atStart => exact ⟨0, rfl, Nat.zero_le _, HP1.out, hlt1, HB1.out⟩
      case round =>
        clear HP1 HB1 hlt1 hmk1
        obtain ⟨k, rfl, hk, HP, hW, HB⟩ := hrel
        by_cases hlt : k < m + 1
        · have i1 : (k : Int) < (m : Int) + 1 := by omega
          obtain ⟨hc, hf⟩ := intsV_at (k := k) (x := 0) HP.out (by unfold fil; rw [List.getElem?_append_right (by simp), List.length_map, List.length_range, Nat.sub_self, List.getElem?_replicate, if_pos (by omega)])
          have HP2 : Hid (Own (wr.setCell ⟨W.heap.size, k, none⟩ (.int .i64 (k : Int))) 3 W.heap.size (wr.setCell ⟨W.heap.size, k, none⟩ (.int .i64 (k : Int))).heap.size (some ⟨W.heap.size, 0, none⟩) (m + 1) (m + 1) (intsV (fil m (k + 1)))) := by
            have h := HP.out.set_ k (.int .i64 (k : Int))
            rw [intsV_set, fil_set (by omega)] at h
            exact h.mono (Nat.le_refl _) (by simp)
          have HB2 : Hid (Below W.heap.size W (wr.setCell ⟨W.heap.size, k, none⟩ (.int .i64 (k : Int)))) := HB.out.setCell (Nat.le_refl _) _
          have hW2 : W.heap.size < (wr.setCell ⟨W.heap.size, k, none⟩ (.int .i64 (k : Int))).heap.size := by simpa using hW
          go_wp2
          go_roundw
          case rel => exact ⟨k + 1, by go_num, by omega, HP2.out, hW2, HB2.out⟩
          case measure => (simp [intOf] <;> omega)
        · have hk1 : k = m + 1 := by omega
          have i1 : ¬ (k : Int) < (m : Int) + 1 := by omega
          have i2 : (m : Int) + 1 ≤ (k : Int) := by omega
          have HPT : Hid (PT W wr m (labF m gs 0)) := ⟨by have h := HP.out; rw [hk1, fil_all] at h; exact h, hW, HB.out⟩
          clear HP HB hW hk hlt hk1
          go_wp2
          go_loopw [8] (fun i wr => ∃ k : Nat, i = .int .i64 (k : Int) ∧ k ≤ m ∧ Hid (PT W wr m (labF m gs k))) (fun i _ => ((m : Int) - intOf i).toNat)
          case atStart => exact ⟨0, rfl, Nat.zero_le _, HPT.out⟩
          case round =>
            clear HPT
            obtain ⟨k, rfl, hk, HPT⟩ := hrel
            obtain ⟨wa, rfl⟩ : ∃ w, w = wr := ⟨_, rfl⟩
            by_cases hkm : k < m
            · have i1 : (k : Int) < (m : Int) := by omega
              obtain ⟨F0, hF0⟩ : ∃ F0, F0 = labF m gs k := ⟨_, rfl⟩
              have HF0 : Hid (rndF m gs F0 = labF m gs (k + 1)) := by unfold Hid; rw [hF0]; rfl
              rw [← hF0] at HPT
              clear hF0
              go_wp2
              go_loopw [58] (fun i wr => ∃ j : Nat, i = .int .i64 (j : Int) ∧ j ≤ n ∧ Hid (PT W wr m (rndF m (gs.take j) F0))) (fun i _ => ((n : Int) - intOf i).toNat)
              case atStart => exact ⟨0, rfl, Nat.zero_le _, HPT.out⟩
              case round =>
                clear HPT
                obtain ⟨j, rfl, hj, HPT⟩ := hrel
                obtain ⟨wb, rfl⟩ : ∃ w, w = wr := ⟨_, rfl⟩
                by_cases hjn : j < n
                · have i2 : (j : Int) < (n : Int) := by omega
                  obtain ⟨b, off, rfl, _, hcell⟩ := (Hr.out.below HPT.out.b).str hjn
                  have hjl : j < ss.length := by have := Hsl.out; omega
                  obtain ⟨s, hs⟩ : ∃ s, s = ss[j] := ⟨_, rfl⟩
                  rw [← hs] at hcell
                  have hsj : ss[j]? = some s := by rw [List.getElem?_eq_getElem hjl, hs]
                  have hsm := List.mem_of_getElem? hsj
                  have hgj := HGs.out j s hsj
                  obtain ⟨g, hg⟩ : ∃ g, g = goL (bs s) := ⟨_, rfl⟩
                  rw [← hg] at hgj
                  have HAs : Hid (∀ (x : Nat) (w : World), 1 ≤ x → x ≤ m → Calls Try.prog 42 #[.string s, .int .i64 (x : Int)] w fun e w' => e = .returned (.int .i64 ((g x : Nat) : Int)) ∧ w' = w) := fun x w h1 h2 => by rw [hg]; exact HAt.out s x w hsm h1 h2
                  have HGg : Hid (∀ x, 1 ≤ x → x ≤ m → 1 ≤ g x ∧ g x ≤ m) := fun x h1 h2 => (HG.out g (List.mem_of_getElem? hgj)).1 x h1 h2
                  obtain ⟨F1, hF1⟩ : ∃ F1, F1 = rndF m (gs.take j) F0 := ⟨_, rfl⟩
                  have HF1 : Hid (passF g F1 m = rndF m (gs.take (j + 1)) F0) := by
                    obtain ⟨h1, h2⟩ := List.getElem?_eq_some_iff.1 hgj
                    unfold Hid; rw [hF1, List.take_succ_eq_append_getElem h1, rndF_snoc, h2]
                  rw [← hF1] at HPT
                  clear hF1 hg hgj hsm hsj hs hjl
                  go_wp2
                  go_loopw [11] (fun i wr => ∃ p : Nat, i = .int .i64 ((p : Int) + 1) ∧ p ≤ m ∧ Hid (PT W wr m (passF g F1 p))) (fun i _ => ((m : Int) + 1 - intOf i).toNat)
                  case atStart => exact ⟨0, rfl, Nat.zero_le _, HPT.out⟩
                  case round =>
                    clear HPT
                    obtain ⟨p, rfl, hp, HPT⟩ := hrel
                    by_cases hpm : p < m
                    · have i3 : (p : Int) + 1 ≤ (m : Int) := by omega
                      have hgp := HGg.out (p + 1) (by omega) (by omega)
                      obtain ⟨F, hF⟩ : ∃ F, F = passF g F1 p := ⟨_, rfl⟩
                      have HFn : Hid (updF g F (p + 1) = passF g F1 (p + 1)) := by unfold Hid; rw [hF]; rfl
                      rw [← hF] at HPT
                      obtain ⟨q, hq⟩ : ∃ q, q = g (p + 1) := ⟨_, rfl⟩
                      have hc1 := (HPT.out.at_ (p := p + 1) (by omega)).1
                      have hf1 := (HPT.out.at_ (p := p + 1) (by omega)).2
                      have hc2 := (HPT.out.at_ (p := q) (by omega)).1
                      have hf2 := (HPT.out.at_ (p := q) (by omega)).2
                      obtain ⟨x, hx⟩ : ∃ x, x = F (p + 1) := ⟨_, rfl⟩
                      obtain ⟨y, hy⟩ : ∃ y, y = F q := ⟨_, rfl⟩
                      rw [← hx] at hc1
                      rw [← hy] at hc2
                      obtain ⟨v, hv⟩ : ∃ v : Int, v = ((min x y : Nat) : Int) := ⟨_, rfl⟩
                      have HAp : Hid (∀ w, Calls Try.prog 42 #[.string s, .int .i64 ((p : Int) + 1)] w fun e w' => e = .returned (.int .i64 (q : Int)) ∧ w' = w) := fun w => by rw [hq]; exact HAs.out (p + 1) w (by omega) (by omega)
                      have HLe : Hid (∀ w, Calls Try.prog 72 #[.int .i64 (x : Int), .int .i64 (y : Int)] w fun e w' => e = .returned (.int .i64 v) ∧ w' = w) := fun w => by rw [hv]; exact l1Least_any x y w
                      have HUp : Hid (∀ nq, PT W (((wr.drewN nq).setCell ⟨W.heap.size, p + 1, none⟩ (.int .i64 v)).setCell ⟨W.heap.size, q, none⟩ (.int .i64 v)) m (passF g F1 (p + 1))) := fun nq => by
                        have h := HPT.out.upd (g := g) (p := p + 1) nq v (by rw [hv, hx, hy, hq])
                        rw [HFn.out, ← hq] at h
                        exact h
                      have i4 : (0 : Int) ≤ (p : Int) + 1 := by omega
                      have i5 : (p : Int) + 1 < (m : Int) + 1 := by omega
                      have i6 : (q : Int) < (m : Int) + 1 := by omega
                      have it : ((p : Int) + 1).toNat = p + 1 := by omega
                      have HPq := HPT
                      clear hF hq hx hy hv hgp
                      go_wp2
                      go_quiet (first | (go_at_call 42; with_reducible exact Calls.quiet_of_same (HAp.out _)) | (go_at_call 72; with_reducible exact Calls.quiet_of_same (HLe.out _)))
                      obtain ⟨u, hc3, hf3⟩ := HPq.out.mid (p := p + 1) (q := q) nq v (by omega)
                      go_wp2_with (go_at_call 42; refine (HAp.out _).mono ?_; rintro e w5 ⟨rfl, rfl⟩)
                      go_roundw
                      case rel => exact ⟨p + 1, by go_num, by omega, HUp.out _⟩
                      case measure => (simp [intOf] <;> omega)
                    · obtain rfl : p = m := by omega
                      have HP2 : Hid (PT W wr p (rndF p (gs.take (j + 1)) F0)) := by unfold Hid; rw [← HF1.out]; exact HPT.out
                      have i3 : ¬ (p : Int) + 1 ≤ (p : Int) := by omega
                      have i4 : (p : Int) < (p : Int) + 1 := by omega
                      go_wp2
                      go_roundw
                      case rel => exact ⟨j + 1, by go_num, by omega, HP2.out⟩
                      case measure => (simp [intOf] <;> omega)
                · obtain rfl : j = n := by omega
                  have HP2 : Hid (PT W wb m (labF m gs (k + 1))) := by
                    unfold Hid; rw [← HF0.out]
                    have h := HPT.out
                    rw [List.take_of_length_le (by rw [HGl.out]; exact Nat.le_refl _)] at h
                    exact h
                  go_wp2
                  go_roundw
                  case rel => exact ⟨k + 1, by go_num, by omega, HP2.out⟩
                  case measure => (simp [intOf] <;> omega)
            · have hk1 : k = m := by omega
              have i1 : ¬ (k : Int) < (m : Int) := by omega
              have i2 : (m : Int) ≤ (k : Int) := by omega
              have HPL : Hid (PT W wa m L) := by have h := HPT.out; rw [hk1, ← HLL.out] at h; exact h
              have HO0 : Hid (OwnR wa W.heap.size wa.heap.size none 0 0 [] (obZ m L 0)) := OwnR.of_own (Own.nil _ _ _ _)
              have HF0 : Hid (Off none 0 0 W.heap.size) := fun q hq => by simp [Value.ownBlock] at hq
              clear HPT hk hkm hk1
              go_wp2
              go_loopw [13, 14] (fun l i wr => ∃ (k n3 : Nat) (A3 : Option Addr) (c3 : Nat) (rs : List Row), l = .slice A3 n3 c3 ∧ i = .int .i64 ((k : Int) + 1) ∧ k ≤ m ∧ n3 ≤ k ∧ Hid (OwnR wr W.heap.size wr.heap.size A3 n3 c3 rs (obZ m L k)) ∧ Hid (PT W wr m L) ∧ Hid (Off A3 n3 c3 W.heap.size) ∧ Hid (OffO rs W.heap.size)) (fun _ i _ => ((m : Int) + 1 - intOf i).toNat)
              case atStart => exact ⟨0, 0, none, 0, [], rfl, rfl, Nat.zero_le _, Nat.le_refl _, HO0.out, HPL.out, HF0.out, OffO.nil _⟩
              case round =>
                clear HPL HO0 HF0 i1 i2
                obtain ⟨k, n3, A3, c3, rs, rfl, rfl, hk, hn3, HO, HPL, HF, HFR⟩ := hrel
                obtain ⟨wo, rfl⟩ : ∃ w, w = wr := ⟨_, rfl⟩
                by_cases hkm : k < m
                · have i1 : (k : Int) + 1 ≤ (m : Int) := by omega
                  have HSt : Hid (OSp W wo wo (m + 1) (intsV (lst m L)) A3 n3 c3 rs (obZ m L k) none 0 0 (clsT L (k + 1) 0)) := ⟨Own.nil _ _ _ _, HO.out, HPL.out.o, Nat.le_refl _, HPL.out.b, HF.out, HFR.out, Nat.le_of_lt HPL.out.lt⟩
                  have hWo : W.heap.size < wo.heap.size := HPL.out.lt
                  have HZ := Lib.hid (obZ_succ m L k)
                  clear HO HPL
                  go_wp2
                  go_loopw [15, 16] (fun l i wr => ∃ (p n4 : Nat) (A4 : Option Addr) (c4 : Nat), l = .slice A4 n4 c4 ∧ i = .int .i64 ((p : Int) + 1) ∧ p ≤ m ∧ n4 ≤ p ∧ Hid (OSp W wo wr (m + 1) (intsV (lst m L)) A3 n3 c3 rs (obZ m L k) A4 n4 c4 (clsT L (k + 1) p))) (fun _ i _ => ((m : Int) + 1 - intOf i).toNat)
                  case atStart => exact ⟨0, 0, none, 0, rfl, rfl, Nat.zero_le _, Nat.le_refl _, HSt.out⟩
                  case round =>
                    clear HSt
                    obtain ⟨p, n4, A4, c4, rfl, rfl, hp, hn4, HSt⟩ := hrel
                    by_cases hpm : p < m
                    · have i2 : (p : Int) + 1 ≤ (m : Int) := by omega
                      have i3 : (0 : Int) ≤ (p : Int) + 1 := by omega
                      have i4 : (p : Int) + 1 < (m : Int) + 1 := by omega
                      have it : ((p : Int) + 1).toNat = p + 1 := by omega
                      have hc := (intsV_at HSt.out.op (lst_get (p := p + 1) L (by omega))).1
                      have HC := Lib.hid (clsT_succ L (k + 1) p)
                      obtain ⟨y, hy⟩ : ∃ y, y = L (p + 1) := ⟨_, rfl⟩
                      rw [← hy] at hc HC
                      clear hy
                      by_cases he : y = k + 1
                      · have hq : ((y : Int) == (k : Int) + 1) = true := by simp; omega
                        have HC2 : Hid (clsT L (k + 1) (p + 1) = clsT L (k + 1) p ++ [p + 1]) := by unfold Hid; rw [HC.out, if_pos he]
                        have hsz := HSt.out.sz
                        clear he HC
                        go_wp2_with (at_builtin; refine wpList_append1x wr rfl (.tmp 105) (.tmp 107) 50 rfl 3 (.int .i64 0) 8 Try.underlying50 info_int rfl wo.heap.size A4 n4 c4 _ (.int .i64 ((p : Int) + 1)) rfl rfl rfl HSt.out.oc (by omega) (by omega) hsz ?_; intro A5 c5 x5 ho5 hx5 hsz5 hat5)
                        have HSt5 : Hid (OSp W wo x5 (m + 1) (intsV (lst m L)) A3 n3 c3 rs (obZ m L k) A5 (n4 + 1) c5 (clsT L (k + 1) (p + 1))) := HSt.out.app (ho5.congr (by rw [HC2.out]; unfold natI; rw [List.map_append, intsV_app]; rfl)) hx5
                        clear hsz ho5 hx5 hsz5 hat5
                        go_roundw
                        case rel => exact ⟨p + 1, n4 + 1, A5, c5, rfl, by go_num, by omega, by omega, HSt5.out⟩
                        case measure => (simp [intOf] <;> omega)
                      · have hq : ((y : Int) == (k : Int) + 1) = false := by simp; omega
                        have HSt5 : Hid (OSp W wo wr (m + 1) (intsV (lst m L)) A3 n3 c3 rs (obZ m L k) A4 n4 c4 (clsT L (k + 1) (p + 1))) := by unfold Hid; rw [HC.out, if_neg he]; exact HSt.out
                        clear he HC
                        go_wp2
                        go_roundw
                        case rel => exact ⟨p + 1, n4, A4, c4, rfl, by go_num, by omega, by omega, HSt5.out⟩
                        case measure => (simp [intOf] <;> omega)
                    · have hp1 : p = m := by omega
                      have i2 : ¬ (p : Int) + 1 ≤ (m : Int) := by omega
                      have i3 : (m : Int) < (p : Int) + 1 := by omega
                      have hst : OSp W wo wr (m + 1) (intsV (lst m L)) A3 n3 c3 rs (obZ m L k) A4 n4 c4 (clsL m L (k + 1)) := by
                        have h := HSt.out
                        rw [hp1, clsT_all] at h
                        exact h
                      have hcl := hst.len
                      have hsz := hst.sz
                      have hws : W.heap.size ≤ wo.heap.size := by omega
                      clear HSt hp hpm hp1
                      by_cases h0 : 0 < n4
                      · have i4 : (0 : Int) < (n4 : Int) := by omega
                        have HZ2 : Hid (obZ m L (k + 1) = obZ m L k ++ [natI (clsL m L (k + 1))]) := by
                          unfold Hid; rw [HZ.out, if_neg (fun e => by rw [e] at hcl; simp at hcl; omega)]
                        clear hcl h0
                        go_wp2_with (at_builtin; refine wpList_append1x wr rfl (.tmp 112) (.tmp 114) 22 rfl 50 (.slice none 0 0) 24 Try.underlying22 info_intsO rfl W.heap.size A3 n3 c3 _ (.slice A4 n4 c4) rfl rfl rfl (hst.ol.o.mono (Nat.le_refl _) hsz) (by omega) (by omega) (by omega) ?_; intro A6 c6 w6 ho6 hx6 hsz6 hat6)
                        have HO6 : Hid (OwnR w6 W.heap.size w6.heap.size A6 (n3 + 1) c6 (rs ++ [(A4, n4, c4)]) (obZ m L (k + 1))) := by
                          unfold Hid; rw [HZ2.out]
                          exact (hst.ol.mono (Nat.le_refl _) hsz).push (r := (A4, n4, c4)) (l2 := wo.heap.size) hst.oc hws (fun i s g a b => (hst.ol.rowlt i s g a b).2.1) (fun g hg => (hst.ol.o.lt g hg).2.1) ho6 hx6 hat6
                        have HP6 : Hid (PT W w6 m L) := by
                          refine ⟨(hx6.own hst.op (fun g hg => ?_)).mono (Nat.le_refl _) (by omega), by omega, hst.bl.trans ((hst.ol.o.mono (Nat.le_refl _) hsz).below_ hx6 (by omega))⟩
                          have hg2 : W.heap.size = g := by simpa [Value.ownBlock] using hg
                          subst hg2; exact HF.out.ne
                        have HF6 : Hid (Off A6 (n3 + 1) c6 W.heap.size) := HF.out.next (by omega) hat6
                        have HR6 : Hid (OffO (rs ++ [(A4, n4, c4)]) W.heap.size) := HFR.out.push fun e => by have h3 := (hst.oc.lt _ e).1; omega
                        clear hst hsz ho6 hx6 hsz6 hat6
                        go_roundw
                        case rel => exact ⟨k + 1, n3 + 1, A6, c6, _, rfl, by go_num, by omega, by omega, HO6.out, HP6.out, HF6.out, HR6.out⟩
                        case measure => (simp [intOf] <;> omega)
                      · have i4 : (n4 : Int) ≤ 0 := by omega
                        have HO6 : Hid (OwnR wr W.heap.size wr.heap.size A3 n3 c3 rs (obZ m L (k + 1))) := by
                          unfold Hid
                          rw [HZ.out, if_pos (List.eq_nil_of_length_eq_zero (by omega))]
                          exact hst.ol.mono (Nat.le_refl _) hsz
                        have HP6 : Hid (PT W wr m L) := ⟨hst.op.mono (Nat.le_refl _) hsz, by omega, hst.bl⟩
                        clear hcl h0 hst hsz
                        go_wp2
                        go_roundw
                        case rel => exact ⟨k + 1, n3, A3, c3, rs, rfl, by go_num, by omega, by omega, HO6.out, HP6.out, HF.out, HFR.out⟩
                        case measure => (simp [intOf] <;> omega)
                · have hk1 : k = m := by omega
                  have i1 : ¬ (k : Int) + 1 ≤ (m : Int) := by omega
                  have i2 : (m : Int) < (k : Int) + 1 := by omega
                  have HR : Hid (OwnR wo W.heap.size wo.heap.size A3 n3 c3 rs (out_OrbitsOf ss (m : Int))) := by
                    unfold Hid; rw [HE.out]
                    have h := HO.out
                    rw [hk1] at h
                    exact h
                  clear hk hkm hk1 HO
                  go_wp2
                  go_ret2
                  exact ⟨_, _, _, rs, ret_slb HOk.out.symm, HR.out, HPL.out.b⟩
end Go.Proofs.Ytgpjbmlemnjhfaa
