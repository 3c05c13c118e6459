/- RepeatsIn, of the reference and of the program: what each returns. -/
import Derived.Test.YtgpjbmlemnjhfaaPlainRe
import Derived.Test.YtgpjbmlemnjhfaaWalkG
import Derived.Test.YtgpjbmlemnjhfaaWalkBo
import Derived.BigQuiet
namespace Go.Proofs.Ytgpjbmlemnjhfaa
open Go.RowKit Go.Maps
set_option linter.unusedVariables false

def ok_RepeatsIn (ss : List ByteArray) : Bool := rowsB ss
def out_RepeatsIn (ss : List ByteArray) : List (List Int) := if rowsB ss = true then reO ss else []
theorem len_RepeatsIn (ss : List ByteArray) (hn : ss.length ≤ 1048576) : tot (out_RepeatsIn ss) ≤ 4194304 := by
  unfold out_RepeatsIn
  split
  · have := reO_tot ss; omega
  · simp [tot]
theorem info_ints : (Try.prog.info? 50).map (fun i => (i.zero, i.size, i.bytes)) = some (some (.slice none 0 0), 1, 24) := by kernel_rfl
theorem own_two (w : World) (e : TypeId) (u v : Value) : Own (w.alloc (.cells #[u, v] e)) e w.heap.size (w.alloc (.cells #[u, v] e)).heap.size (some ⟨w.heap.size, 0, none⟩) 2 2 [u, v] :=
  Own.of_row (World.ownsRow_lit w #[u, v] 2 (Nat.le_refl _) (by unfold maxLen; omega) rfl)
/-- rows that a call hands back, without a bool -/
def RetR (zss : List (List Int)) (w : World) (e : Ending) (w' : World) : Prop :=
  ∃ A n c rs, e = .returned (.slice A n c) ∧ OwnR w' w.heap.size w'.heap.size A n c rs zss ∧ Below w.heap.size w w'
set_option maxRecDepth 100000 in
set_option maxHeartbeats 4000000 in
theorem sp_RepeatsIn (A : Option Addr) (n c : Nat) (ss : List ByteArray) (W : World) (hr : Rd W A n (strsV ss)) (hz : ∀ s ∈ ss, s.size ≤ 1048576) (hl : ss.length ≤ 1048576) :
    Calls Try.prog 34 #[.slice A n c] W (RetRB (out_RepeatsIn ss) (ok_RepeatsIn ss) W) := by
  have hzm : ∀ s ∈ ss, s.size ≤ maxLen := fun s hs => by have := hz s hs; unfold maxLen; omega
  have HA : Hid (∀ W', Rd W' A n (strsV ss) → Calls Try.prog 65 #[.slice A n c] W' fun e w' => e = .returned (.bool (rowsB ss)) ∧ ∃ d, w' = W'.drewN d) := fun W' h => l6Rows_any A n c ss W' h hzm
  have Hr := Lib.hid hr
  have hn8 : rowsB ss = true → n ≤ 800 := fun h => by
    have h2 : RowsOK ss := by simpa [rowsB] using h
    have := hr.slen; have := h2.1; omega
  have E1 : Hid (rowsB ss = true → out_RepeatsIn ss = (reA ss n n 0).take 100) := fun h => by
    unfold out_RepeatsIn
    rw [if_pos h]
    unfold reO reA
    rw [hr.slen]; simp [reR]
  have E0 : Hid (rowsB ss = false → out_RepeatsIn ss = []) := fun h => by unfold out_RepeatsIn; rw [h]; simp
  obtain ⟨ra, hra⟩ : ∃ r, r = rowsB ss := ⟨_, rfl⟩
  rw [← hra] at HA hn8
  have HRA := Lib.hid hra
  clear hra hr hz hzm hl
  cases ra with
  | false =>
    go_enter Try.func34, Try.ntmps34
    go_wp2_with (go_at_call 65; refine (HA.out _ Hr.out).mono ?_; rintro e w1 ⟨rfl, d, rfl⟩)
    go_ret2
    refine ⟨none, 0, 0, [], ret_slb (show ok_RepeatsIn ss = false from HRA.out.symm), ?_, below_drewN' (Below.refl _ _) _⟩
    rw [E0.out HRA.out.symm]; exact OwnR.of_own (Own.nil _ _ _ _)
  | true =>
    have hn800 := hn8 rfl
    clear hn8
    go_enter Try.func34, Try.ntmps34
    go_wp2_with (go_at_call 65; refine (HA.out _ Hr.out).mono ?_; rintro e w1 ⟨rfl, d, rfl⟩)
    go_loopw [4, 12] (fun l i wr => ∃ (k L : Nat) (A3 : Option Addr) (c3 : Nat) (rs : List Row), i = .int .i64 k ∧ l = .slice A3 L c3 ∧ k ≤ n ∧ L ≤ 100 ∧ Hid (OwnR wr W.heap.size wr.heap.size A3 L c3 rs ((reA ss n k 0).take 100)) ∧ Hid (Below W.heap.size W wr)) (fun _ i _ => n - (intOf i).toNat)
    case atStart => exact ⟨0, 0, none, 0, [], rfl, rfl, by omega, by omega, OwnR.of_own (Own.nil _ _ _ _), below_drewN' (Below.refl _ _) _⟩
    case round =>
      obtain ⟨k, L, A3, c3, rs, rfl, rfl, hk, hL, HO, HB⟩ := hrel
      by_cases hlt : k < n
      · have i1 : (k : Int) < (n : Int) := by omega
        have HO1 : Hid (OwnR wr W.heap.size wr.heap.size A3 L c3 rs ((reA ss n k (k + 1)).take 100)) := by unfold Hid; rw [reA_start]; exact HO.out
        clear HO
        go_wp2
        go_loopw [4, 6] (fun l i wr => ∃ (q L : Nat) (A3 : Option Addr) (c3 : Nat) (rs : List Row), i = .int .i64 q ∧ l = .slice A3 L c3 ∧ k + 1 ≤ q ∧ q ≤ n ∧ L ≤ 100 ∧ Hid (OwnR wr W.heap.size wr.heap.size A3 L c3 rs ((reA ss n k q).take 100)) ∧ Hid (Below W.heap.size W wr)) (fun _ i _ => n - (intOf i).toNat)
        case atStart => exact ⟨k + 1, L, A3, c3, rs, by go_num, rfl, by omega, by omega, hL, HO1.out, HB.out⟩
        case round =>
          clear HO1 HB
          obtain ⟨q, L2, A4, c4, rs2, rfl, rfl, hq1, hq2, hL2, HO, HB⟩ := hrel
          have hlen : ((reA ss n k q).take 100).length = L2 := HO.out.rd.nlen
          by_cases hqn : q < n
          · have i2 : (q : Int) < (n : Int) := by omega
            by_cases h100 : L2 < 100
            · have i3 : (L2 : Int) < 100 := by omega
              have hl2 : (reA ss n k q).length = L2 := by rw [List.length_take] at hlen; omega
              have htk : (reA ss n k q).take 100 = reA ss n k q := List.take_of_length_le (by omega)
              obtain ⟨b, off, rfl, _, hcs⟩ := (Hr.out.below HB.out).strD hqn
              have hc1 := hcs k (by omega)
              have hc2 := hcs q hqn
              have HH : Hid (getS ss k = getS ss q → (reA ss n k (q + 1)).take 100 = (reA ss n k q).take 100 ++ [[(k : Int), (q : Int)]]) := fun h => by
                rw [reA_hit (by omega) (eqS_true.2 h), htk]
                exact List.take_of_length_le (by rw [List.length_append, hl2]; simp; omega)
              have HM : Hid (getS ss k ≠ getS ss q → (reA ss n k (q + 1)).take 100 = (reA ss n k q).take 100) := fun h => by
                rw [reA_miss]
                cases e : eqS ss k q with
                | false => rfl
                | true => exact absurd (eqS_true.1 e) h
              obtain ⟨x, hx⟩ : ∃ x, x = getS ss k := ⟨_, rfl⟩
              obtain ⟨y, hy⟩ : ∃ x, x = getS ss q := ⟨_, rfl⟩
              rw [← hx] at hc1 HH HM
              rw [← hy] at hc2 HH HM
              have hws : W.heap.size ≤ wr.heap.size := HB.out.size
              clear hcs hx hy hlen hl2 htk
              by_cases he : x = y
              · have HS := Lib.hid (HH.out he)
                subst he
                clear HH HM
                go_wp2
                go_quiet (fail)
                have hX : Hid (OwnR ((wr.drewN nq).alloc (.cells #[.int .i64 (k : Int), .int .i64 (q : Int)] 3)) W.heap.size ((wr.drewN nq).alloc (.cells #[.int .i64 (k : Int), .int .i64 (q : Int)] 3)).heap.size A4 L2 c4 rs2 ((reA ss n k q).take 100)) := ((HO.out.drewN nq).below (below_alloc (wr.drewN nq) _)).mono (Nat.le_refl _) (by simp)
                have hY : Hid (Own ((wr.drewN nq).alloc (.cells #[.int .i64 (k : Int), .int .i64 (q : Int)] 3)) 3 wr.heap.size ((wr.drewN nq).alloc (.cells #[.int .i64 (k : Int), .int .i64 (q : Int)] 3)).heap.size (some ⟨wr.heap.size, 0, none⟩) 2 2 (intsV [(k : Int), (q : Int)])) := own_two (wr.drewN nq) 3 (.int .i64 (k : Int)) (.int .i64 (q : Int))
                have hBX : Hid (Below W.heap.size W ((wr.drewN nq).alloc (.cells #[.int .i64 (k : Int), .int .i64 (q : Int)] 3))) := (below_drewN' HB.out nq).trans ((below_alloc (wr.drewN nq) _).mono hws)
                have hsX : ((wr.drewN nq).alloc (.cells #[.int .i64 (k : Int), .int .i64 (q : Int)] 3)).heap.size = wr.heap.size + 1 := by simp
                go_wp2_with (at_builtin; refine wpList_append1y ((wr.drewN nq).alloc (.cells #[.int .i64 (k : Int), .int .i64 (q : Int)] 3)) rfl (.tmp 37) (.tmp 41) 22 rfl 50 (.slice none 0 0) 24 Try.underlying22 info_ints rfl W.heap.size A4 L2 c4 _ (.slice (some ⟨wr.heap.size, 0, none⟩) 2 2) rfl (wr.heap.size + 1) (by simp) rfl rfl hX.out.o (by omega) (by omega) (by omega) ?_; intro A5 c5 w5 ho5 hx5 hsz5 hat5)
                have HO5 : Hid (OwnR w5 W.heap.size w5.heap.size A5 (L2 + 1) c5 (rs2 ++ [(some ⟨wr.heap.size, 0, none⟩, 2, 2)]) ((reA ss n k (q + 1)).take 100)) := by
                  unfold Hid; rw [HS.out]
                  exact hX.out.push (r := (some ⟨wr.heap.size, 0, none⟩, 2, 2)) (l2 := wr.heap.size) hY.out hws (fun i s g a b => (HO.out.rowlt i s g a b).2.1) (fun g hg => (HO.out.o.lt g hg).2.1) ho5 hx5 hat5
                have HB5 : Hid (Below W.heap.size W w5) := hBX.out.trans (hX.out.o.below_ hx5 hBX.out.size)
                clear hX hY hBX hsX ho5 hx5 hsz5 hat5
                go_roundw
                case rel => exact ⟨q + 1, L2 + 1, A5, c5, _, by go_num, rfl, by omega, by omega, by omega, HO5.out, HB5.out⟩
                case measure => (simp [intOf] <;> omega)
              · have HS := Lib.hid (HM.out he)
                have hne := ne_list he
                clear HH HM he
                go_wp2
                go_quiet (fail)
                go_wp2
                go_roundw
                case rel => exact ⟨q + 1, L2, A4, c4, rs2, by go_num, rfl, by omega, by omega, by omega, by unfold Hid; rw [HS.out]; exact HO.out.drewN _, below_drewN' HB.out _⟩
                case measure => (simp [intOf] <;> omega)
            · have i3 : (100 : Int) ≤ (L2 : Int) := by omega
              have HS : Hid ((reA ss n (k + 1) 0).take 100 = (reA ss n k q).take 100) := by
                unfold Hid
                rw [← reA_end]
                obtain ⟨t, e⟩ := reR_pre ss k q (n - q)
                rw [show q + (n - q) = n by omega] at e
                refine take_pre ⟨t, ?_⟩ (by rw [List.length_take] at hlen; omega)
                unfold reA
                rw [e, List.append_assoc]
              clear hlen
              go_wp2
              go_roundw
              case rel => exact ⟨k + 1, L2, A4, c4, rs2, by go_num, rfl, by omega, hL2, by unfold Hid; rw [HS.out]; exact HO.out, HB.out⟩
              case measure => (simp [intOf] <;> omega)
          · obtain rfl : q = n := by omega
            have HS : Hid ((reA ss q (k + 1) 0).take 100 = (reA ss q k q).take 100) := by unfold Hid; rw [← reA_end]
            have hd : decide ((q : Int) < (q : Int)) = false := by simp
            clear hlen
            go_wp2
            go_roundw
            case rel => exact ⟨k + 1, L2, A4, c4, rs2, by go_num, rfl, by omega, hL2, by unfold Hid; rw [HS.out]; exact HO.out, HB.out⟩
            case measure => (simp [intOf] <;> omega)
      · obtain rfl : k = n := by omega
        go_wp2
        go_ret2
        refine ⟨A3, L, c3, rs, ret_slb (show ok_RepeatsIn ss = true from HRA.out.symm), ?_, HB.out⟩
        rw [E1.out HRA.out.symm]; exact HO.out
abbrev OwnLa (w : World) (b n : Nat) (D : DataW Unit) : Prop := w.ownsMap Try.prog 9 (plainElem (H := Unit) Try.prog 3) b n D
theorem strKey2 : Keyed Try.prog 9 := string_keyed Try.underlying9
theorem zeroI (w : World) : (zeroValue 3).run Try.prog w = .ok (.int .i64 0) w := by kernel_rfl
theorem keyOf_str2 {s : ByteArray} (h : s.size ≤ maxLen) : keyOf Try.prog 9 (.string s) = some (keyL s) := Go.WideMaps.keyOf_string_mk Try.underlying9 h
theorem OwnLa.below {w w' : World} {b n : Nat} {D : DataW Unit} (h : OwnLa w b n D) (hb : w'.heap[b]? = w.heap[b]?) : OwnLa w' b n D := by
  obtain ⟨es, clock, h1, F, hs, hD⟩ := h
  exact ⟨es, clock, hb.trans h1, F, hs, hD⟩
theorem below_grown2 {lo g : Nat} {w0 w w' : World} (hb : Below lo w0 w) (hlo : lo ≤ w0.heap.size) (h : w.grownBy w' (some g)) (hg : lo ≤ g) : Below lo w0 w' :=
  hb.trans ⟨h.os, h.tape, h.output, h.size, fun q hq => h.block q (Nat.lt_of_lt_of_le hq (Nat.le_trans hlo hb.size)) (fun e => by injection e with e; omega)⟩
def mq (n : Nat) (v : Value) : Nat := if intOf v = 0 then 0 else n - (intOf v).toNat
theorem mq_nat (n q : Nat) : mq n (.int .i64 (q : Int)) = if q = 0 then 0 else n - q := by
  unfold mq
  by_cases h : q = 0
  · subst h; simp [intOf]
  · rw [if_neg h, if_neg (by simp [intOf]; omega)]; simp [intOf]
theorem wf_nat {n : Nat} (h : n ≤ 1048576) : (Lit.int .i64 (n : Int)).wf = true := by
  have h1 : IntKind.i64.min = -9223372036854775808 := by decide
  have h2 : IntKind.i64.max = 9223372036854775807 := by decide
  show (decide (IntKind.i64.min ≤ (n : Int)) && decide ((n : Int) ≤ IntKind.i64.max)) = true
  rw [h1, h2, Bool.and_eq_true, decide_eq_true_iff, decide_eq_true_iff]
  omega
set_option maxRecDepth 100000 in
set_option maxHeartbeats 4000000 in
theorem repeats_any (A : Option Addr) (n c : Nat) (ss : List ByteArray) (W : World) (hr : Rd W A n (strsV ss)) (hz : ∀ s ∈ ss, s.size ≤ 1048576) (hn : n ≤ 800) :
    Calls Try.prog 69 #[.slice A n c, .int .i64 100] W (RetR (reO ss) W) := by
  have hl := hr.slen
  have Hr := Lib.hid hr
  have HZ : Hid (∀ k, k < n → (getS ss k).size ≤ maxLen) := fun k hk => by
    have e : getS ss k = ss[k]'(by omega) := by simp [getS, List.getElem?_eq_getElem (show k < ss.length by omega)]
    rw [e]; have := hz _ (List.getElem_mem (show k < ss.length by omega)); unfold maxLen; omega
  have HOut : Hid (reO ss = (reP ss n n).take 100) := by unfold Hid reO; rw [hl]
  obtain ⟨w1, hmk, hown, hbel, hlt⟩ := make_row (P := Try.prog) W 50 3 (.int .i64 0) 8 Try.underlying50 info_int rfl (by omega) n (by omega)
  have hmm := @run_makeMap Try.prog
  have HN0 : Hid (Own (w1.alloc (.map #[] 0)) 3 W.heap.size (w1.alloc (.map #[] 0)).heap.size (some ⟨W.heap.size, 0, none⟩) n n (intsV (nxL ss n 0))) := by
    refine ((hown.congr ?_).below (below_alloc w1 _)).mono (Nat.le_refl _) (by simp)
    rw [nxL_zero]; simp [intsV]
  have HM0 : Hid (OwnLa (w1.alloc (.map #[] 0)) w1.heap.size 0 (laC ss n 0)) := World.ownsMap_made w1 Try.prog 9 (plainElem (H := Unit) Try.prog 3)
  have HB0 : Hid (Below W.heap.size W (w1.alloc (.map #[] 0))) := hbel.trans ((below_alloc w1 _).mono hbel.size)
  have hs0 : w1.heap.size < (w1.alloc (.map #[] 0)).heap.size := by simp
  obtain ⟨b, hb⟩ : ∃ b, b = w1.heap.size := ⟨_, rfl⟩
  clear hown hbel hr hz
  go_enter Try.func69, Try.ntmps69
  go_wp2
  go_loopw [7] (fun v wr => ∃ (m : Nat) (z : Int), v = .int .i64 z ∧ z = (m : Int) - 1 ∧ m ≤ n ∧ Hid (Own wr 3 W.heap.size wr.heap.size (some ⟨W.heap.size, 0, none⟩) n n (intsV (nxL ss n (n - m)))) ∧ Hid (OwnLa wr w1.heap.size (n - m) (laC ss n (n - m))) ∧ Hid (Below W.heap.size W wr) ∧ w1.heap.size < wr.heap.size) (fun v _ => (intOf v + 1).toNat)
  case atStart => exact ⟨n, (n : Int) - 1, by first | rfl | go_num, rfl, Nat.le_refl _, by rw [Nat.sub_self]; exact HN0.out, by rw [Nat.sub_self]; exact HM0.out, HB0.out, hs0⟩
  case round =>
    clear HN0 HM0 HB0 hs0
    obtain ⟨m, z, rfl, hzm, hm, HN, HM, HB, hWr⟩ := hrel
    by_cases hm0 : m = 0
    · subst hm0
      obtain rfl : z = -1 := by omega
      rw [Nat.sub_zero] at HN
      obtain ⟨w2, rfl⟩ : ∃ w, w = wr := ⟨_, rfl⟩
      have hW2 : W.heap.size ≤ w2.heap.size := HB.out.size
      have HNx : Hid (∀ w, Below w2.heap.size w2 w → ∀ j, j < n → w.cell? ⟨W.heap.size, j, none⟩ = some (.int .i64 ((nx ss n j : Nat) : Int))) := fun w hb j hj => by
        obtain ⟨b', off', e, _, h5⟩ := (HN.out.rd.below hb).int hj
        injection e with e; injection e with e1 e2; subst e1 e2
        rw [Nat.zero_add] at h5
        rw [h5]
        have h6 := nxL_get ss hj
        rw [List.getElem?_eq_getElem (by simp [nxL]; exact hj)] at h6
        injection h6 with h6
        rw [h6]
      have HO0 : Hid (OwnR (w2.alloc (.cells #[] 50)) w2.heap.size (w2.alloc (.cells #[] 50)).heap.size (some ⟨w2.heap.size, 0, none⟩) 0 0 [] (reA ss n 0 0)) := OwnR.of_own (own_empty w2 50)
      have hneg : decide ((0 : Int) ≤ -1) = false := by decide
      clear HM hWr hzm hm
      go_wp2
      go_loopw [10, 47] (fun l i wr => ∃ (k L : Nat) (A3 : Option Addr) (c3 : Nat) (rs : List Row), i = .int .i64 k ∧ l = .slice A3 L c3 ∧ k ≤ n ∧ L ≤ 100 ∧ Hid (OwnR wr w2.heap.size wr.heap.size A3 L c3 rs (reA ss n k 0)) ∧ Hid (Below w2.heap.size w2 wr)) (fun _ i _ => n - (intOf i).toNat)
      case atStart => exact ⟨0, 0, _, 0, [], rfl, rfl, by omega, by omega, HO0.out, below_alloc _ _⟩
      case round =>
        clear HO0
        obtain ⟨k, L, A3, c3, rs, rfl, rfl, hk, hL, HO, HB2⟩ := hrel
        by_cases hlt2 : k < n
        · have hcx := HNx.out _ HB2.out k hlt2
          have HF := Lib.hid (reA_first (ss := ss) hlt2)
          have HP : Hid (0 < nx ss n k → k < nx ss n k ∧ nx ss n k < n ∧ eqS ss k (nx ss n k) = true) := fun h => by have h2 := nx_pos hlt2 h; exact ⟨h2.1, h2.2.1, h2.2.2.1⟩
          obtain ⟨q0, hq0⟩ : ∃ q, q = nx ss n k := ⟨_, rfl⟩
          rw [← hq0] at hcx HF HP
          have i1 : (k : Int) < (n : Int) := by omega
          have HO1 : Hid (OwnR wr w2.heap.size wr.heap.size A3 L c3 rs (reA ss n k (if q0 = 0 then n else q0))) := by unfold Hid; rw [← HF.out]; exact HO.out
          clear HO HF hq0
          go_wp2
          go_loopw [10, 12] (fun l v wr => ∃ (q L : Nat) (A3 : Option Addr) (c3 : Nat) (rs : List Row), v = .int .i64 q ∧ l = .slice A3 L c3 ∧ (0 < q → k < q ∧ q < n) ∧ Hid (0 < q → eqS ss k q = true) ∧ L ≤ 100 ∧ Hid (OwnR wr w2.heap.size wr.heap.size A3 L c3 rs (reA ss n k (if q = 0 then n else q))) ∧ Hid (Below w2.heap.size w2 wr)) (fun _ v _ => mq n v)
          case atStart => exact ⟨q0, L, A3, c3, rs, rfl, rfl, fun h => ⟨(HP.out h).1, (HP.out h).2.1⟩, fun h => (HP.out h).2.2, hL, HO1.out, HB2.out⟩
          case round =>
            clear HO1 HB2 hcx HP
            obtain ⟨q, L2, A4, c4, rs2, rfl, rfl, hq1, HQ, hL2, HO, HB2⟩ := hrel
            by_cases hq0 : q = 0
            · subst hq0
              have HO5 : Hid (OwnR wr w2.heap.size wr.heap.size A4 L2 c4 rs2 (reA ss n (k + 1) 0)) := by
                unfold Hid; rw [← reA_end]; exact HO.out
              go_wp2
              go_roundw
              case rel => exact ⟨k + 1, L2, A4, c4, rs2, by go_num, rfl, by omega, hL2, HO5.out, HB2.out⟩
              case measure => (simp [intOf] <;> omega)
            · have hq2 := hq1 (by omega)
              have he := HQ.out (by omega)
              rw [if_neg hq0] at HO
              have i2 : (0 : Int) < (q : Int) := by omega
              have i3 : (q : Int) < (n : Int) := by omega
              have hlen : (reA ss n k q).length = L2 := HO.out.rd.nlen
              by_cases h100 : L2 = 100
              · have hb : ((L2 : Int) == 100) = true := by simp; omega
                have E : Hid (reO ss = reA ss n k q) := by
                  unfold Hid
                  rw [HOut.out, reA_all (k := q) hlt2 (by omega) (by omega), List.take_of_length_le (by omega)]
                clear hq0 hlen h100
                go_wp2
                go_ret
                refine ⟨A4, L2, c4, rs2, rfl, ?_, HB.out.trans (HB2.out.mono hW2)⟩
                rw [E.out]; exact HO.out.mono hW2 (Nat.le_refl _)
              · have hb : ((L2 : Int) == 100) = false := by simp; omega
                have HS := Lib.hid (reA_next hq2.1 hq2.2 he)
                have HNP : Hid (0 < nx ss n q → q < nx ss n q ∧ nx ss n q < n ∧ eqS ss k (nx ss n q) = true) := fun h => by
                  have h2 := nx_pos hq2.2 h
                  refine ⟨h2.1, h2.2.1, ?_⟩
                  have h3 := eqS_true.1 he
                  have h4 := eqS_true.1 h2.2.2.1
                  exact eqS_true.2 (h3.trans h4)
                have HNq : Hid (∀ w, Below w2.heap.size w2 w → w.cell? ⟨W.heap.size, q, none⟩ = some (.int .i64 ((nx ss n q : Nat) : Int))) := fun w hb => HNx.out w hb q hq2.2
                obtain ⟨q3, hq3⟩ : ∃ x, x = nx ss n q := ⟨_, rfl⟩
                rw [← hq3] at HS HNP HNq
                have hs2 : w2.heap.size ≤ wr.heap.size := HB2.out.size
                have hX : Hid (OwnR (wr.alloc (.cells #[.int .i64 (k : Int), .int .i64 (q : Int)] 3)) w2.heap.size (wr.alloc (.cells #[.int .i64 (k : Int), .int .i64 (q : Int)] 3)).heap.size A4 L2 c4 rs2 (reA ss n k q)) := (HO.out.below (below_alloc wr _)).mono (Nat.le_refl _) (by simp)
                have hY : Hid (Own (wr.alloc (.cells #[.int .i64 (k : Int), .int .i64 (q : Int)] 3)) 3 wr.heap.size (wr.alloc (.cells #[.int .i64 (k : Int), .int .i64 (q : Int)] 3)).heap.size (some ⟨wr.heap.size, 0, none⟩) 2 2 (intsV [(k : Int), (q : Int)])) := own_two wr 3 (.int .i64 (k : Int)) (.int .i64 (q : Int))
                have hBX : Hid (Below w2.heap.size w2 (wr.alloc (.cells #[.int .i64 (k : Int), .int .i64 (q : Int)] 3))) := HB2.out.trans ((below_alloc wr _).mono hs2)
                have hsX : (wr.alloc (.cells #[.int .i64 (k : Int), .int .i64 (q : Int)] 3)).heap.size = wr.heap.size + 1 := by simp
                clear hq0 hlen he hq3
                go_wp2_with (at_builtin; refine wpList_append1y (wr.alloc (.cells #[.int .i64 (k : Int), .int .i64 (q : Int)] 3)) rfl (.tmp 65) (.tmp 69) 22 rfl 50 (.slice none 0 0) 24 Try.underlying22 info_ints rfl w2.heap.size A4 L2 c4 _ (.slice (some ⟨wr.heap.size, 0, none⟩) 2 2) rfl (wr.heap.size + 1) (by simp) rfl rfl hX.out.o (by omega) (by omega) (by omega) ?_; intro A5 c5 w5 ho5 hx5 hsz5 hat5; have hB5 : Below w2.heap.size w2 w5 := hBX.out.trans (hX.out.o.below_ hx5 hBX.out.size); have hcq := HNq.out w5 hB5)
                have HO5 : Hid (OwnR w5 w2.heap.size w5.heap.size A5 (L2 + 1) c5 (rs2 ++ [(some ⟨wr.heap.size, 0, none⟩, 2, 2)]) (reA ss n k (if q3 = 0 then n else q3))) := by
                  unfold Hid; rw [← HS.out]
                  exact hX.out.push (r := (some ⟨wr.heap.size, 0, none⟩, 2, 2)) (l2 := wr.heap.size) hY.out hs2 (fun i s g a b => (HO.out.rowlt i s g a b).2.1) (fun g hg => (HO.out.o.lt g hg).2.1) ho5 hx5 hat5
                have HB5 := Lib.hid hB5
                clear hX hY hBX hsX ho5 hx5 hsz5 hat5 hB5 hcq
                have hq3n : 0 < q3 → q < q3 ∧ q3 < n := fun h => ⟨(HNP.out h).1, (HNP.out h).2.1⟩
                go_roundw
                case rel => exact ⟨q3, L2 + 1, A5, c5, _, rfl, rfl, fun h => ⟨by have := hq3n h; omega, (hq3n h).2⟩, fun h => (HNP.out h).2.2, by omega, HO5.out, HB5.out⟩
                case measure =>
                  rw [mq_nat, mq_nat, if_neg (show ¬ q = 0 by omega)]
                  by_cases h0 : q3 = 0
                  · rw [if_pos h0]; omega
                  · have := hq3n (by omega)
                    rw [if_neg h0]; omega
        · obtain rfl : k = n := by omega
          have E : Hid (reO ss = reA ss k k 0) := by
            unfold Hid
            have hlen : (reA ss k k 0).length = L := HO.out.rd.nlen
            have e : reA ss k k 0 = reP ss k k := by simp [reA, reR]
            rw [HOut.out, e, List.take_of_length_le (by rw [← e]; omega)]
          go_wp2
          go_ret
          refine ⟨A3, L, c3, rs, rfl, ?_, HB.out.trans (HB2.out.mono hW2)⟩
          rw [E.out]; exact HO.out.mono hW2 (Nat.le_refl _)
    · obtain ⟨i, rfl⟩ : ∃ i, m = i + 1 := ⟨m - 1, by omega⟩
      obtain rfl : z = (i : Int) := by omega
      obtain ⟨c2, hc2⟩ : ∃ c2, c2 = n - (i + 1) := ⟨_, rfl⟩
      rw [← hc2] at HN HM
      have hci : n - 1 - c2 = i := by omega
      have hcn : n - i = c2 + 1 := by omega
      have hxsz := HZ.out i (by omega)
      have hC : ∀ w, Below W.heap.size W w → ∃ b0 o0, A = some ⟨b0, o0, none⟩ ∧ w.cell? ⟨b0, o0 + i, none⟩ = some (.string (getS ss i)) := fun w hb => by
        obtain ⟨b0, o0, e, _, hcs⟩ := (Hr.out.below hb).strD (k := i) (by omega)
        exact ⟨b0, o0, e, hcs i (by omega)⟩
      obtain ⟨b0, o0, rfl, hc1⟩ := hC wr HB.out
      have hC2 : Hid (∀ w, Below W.heap.size W w → w.cell? ⟨b0, o0 + i, none⟩ = some (.string (getS ss i))) := fun w hb => by
        obtain ⟨b1, o1, e, h⟩ := hC w hb
        injection e with e; injection e with e1 e2; subst e1 e2; exact h
      have hat := laC_at ss n (getS ss i) (.lit (.int .i64 0)) c2
      have hhas := laC_has ss n (getS ss i) c2
      have hput : Hid (laC ss n (c2 + 1) = (laC ss n c2).put (keyL (getS ss i)) (.lit (.int .i64 (i : Int)))) := by unfold Hid; simp only [laC]; rw [hci]
      have hwi : (Lit.int .i64 (i : Int)).wf = true := wf_nat (by omega)
      have hkey := keyOf_str2 hxsz
      have i1 : (0 : Int) ≤ (i : Int) := by omega
      have i2 : (i : Int) < (n : Int) := by omega
      have hnb : W.heap.size ≠ w1.heap.size := by omega
      have hfix : ∀ o, fx ss n c2 (getS ss i) = o → nx ss n i = o.getD 0 := fun o h => by unfold nx; rw [show n - 1 - i = c2 by omega, h]
      have hstep := nxL_step ss (n := n) (c := c2) (by omega)
      have hsame := nxL_same ss (n := n) (c := c2) (by omega)
      rw [hci] at hstep hsame
      have hfs : ∀ j, fx ss n c2 (getS ss i) = some j → j ≤ n := fun j h => by have := (fx_some (show c2 ≤ n by omega) h).2.1; omega
      cases hf : fx ss n c2 (getS ss i) with
      | none =>
        have hnx := hfix _ hf
        rw [hf] at hat hhas
        have HSame : Hid (nxL ss n (c2 + 1) = nxL ss n c2) := hsame hnx
        obtain ⟨x, hx⟩ : ∃ x, x = getS ss i := ⟨_, rfl⟩
        rw [← hx] at hc1 hat hhas hput hkey
        obtain ⟨D, hD⟩ : ∃ D, D = laC ss n c2 := ⟨_, rfl⟩
        rw [← hD] at HM hat hhas hput
        have Hat := Lib.hid hat
        have hhas' : Maps.has D (keyL x) = false := hhas
        clear hat hhas hx hD hf hnx hfix hstep hsame hfs hC hzm hm0 hxsz hC2
        go_wp2_with first
          | (at_lookup; refine wpList_lookup_own_ok_int _ rfl _ _ 77 rfl 9 3 .i64 strKey2 Try.underlying77 Try.underlying3 (zeroI _) w1.heap.size c2 _ rfl HM.out _ _ rfl hkey ?_; intro cc hcc hwc; obtain rfl : cc = 0 := (by rw [Hat.out] at hcc; simp only [DataW.lit.injEq, Lit.int.injEq, true_and] at hcc; exact hcc.symm))
          | (at_mapUpdate; refine wpList_mapUpdate_own _ rfl _ _ _ 77 rfl 9 3 strKey2 Try.underlying77 _ w1.heap.size c2 _ rfl HM.out (by unfold maxLen; omega) _ _ _ rfl rfl hkey _ [] (plainElem_int Try.underlying3 hwi) ?_; intro x6 hown6 hgrow6)
        have HN6 : Hid (Own x6 3 W.heap.size x6.heap.size (some ⟨W.heap.size, 0, none⟩) n n (intsV (nxL ss n (c2 + 1)))) := by
          unfold Hid; rw [HSame.out]
          exact ((show Wx (some w1.heap.size) wr x6 from ⟨hgrow6.os, hgrow6.tape, hgrow6.output, hgrow6.size, hgrow6.block⟩).own HN.out (fun g hg e => by
            have hg2 : W.heap.size = g := by simpa [Value.ownBlock] using hg
            injection e with e; omega)).mono (Nat.le_refl _) hgrow6.size
        have HM6 : Hid (OwnLa x6 w1.heap.size (c2 + 1) (laC ss n (c2 + 1))) := by unfold Hid; rw [hput.out]; exact hown6
        have HB6 : Hid (Below W.heap.size W x6) := below_grown2 HB.out (Nat.le_refl _) hgrow6 (by omega)
        have hW6 : w1.heap.size < x6.heap.size := Nat.lt_of_lt_of_le hWr hgrow6.size
        clear hown6 hgrow6 hkey hhas'
        go_roundw
        case rel => exact ⟨i, (i : Int) - 1, by go_num, rfl, by omega, by rw [hcn]; exact HN6.out, by rw [hcn]; exact HM6.out, HB6.out, hW6⟩
        case measure => (simp [intOf] <;> omega)
      | some j =>
        have hnx := hfix _ hf
        have hjn := hfs j hf
        rw [hf] at hat hhas
        rw [hnx, Option.getD_some] at hstep
        have hlr : i < (intsV (nxL ss n c2)).length := by simp [intsV, nxL]; omega
        obtain ⟨v0, hcz⟩ : ∃ v, wr.cell? ⟨W.heap.size, i, none⟩ = some v := ⟨_, HN.out.mem.get hlr⟩
        have hfz : wr.frozen? ⟨W.heap.size, i, none⟩ = false := HN.out.mem.free hlr
        have HN5 : Own (wr.setCell ⟨W.heap.size, i, none⟩ (.int .i64 (j : Int))) 3 W.heap.size (wr.setCell ⟨W.heap.size, i, none⟩ (.int .i64 (j : Int))).heap.size (some ⟨W.heap.size, 0, none⟩) n n (intsV (nxL ss n (c2 + 1))) := by
          refine ((HN.out.set_ i (.int .i64 (j : Int))).congr ?_).mono (Nat.le_refl _) (by simp)
          rw [← hstep]; simp [intsV, List.map_set]
        have HM5 : OwnLa (wr.setCell ⟨W.heap.size, i, none⟩ (.int .i64 (j : Int))) w1.heap.size c2 (laC ss n c2) := HM.out.below ((wx_set wr W.heap.size i (.int .i64 (j : Int))).block _ hWr (fun e => by injection e with e; omega))
        have HB5 : Below W.heap.size W (wr.setCell ⟨W.heap.size, i, none⟩ (.int .i64 (j : Int))) := HB.out.setCell (Nat.le_refl _) _
        have hc5 := hC2.out _ HB5
        have hW5 : w1.heap.size < (wr.setCell ⟨W.heap.size, i, none⟩ (.int .i64 (j : Int))).heap.size := by simpa using hWr
        obtain ⟨x, hx⟩ : ∃ x, x = getS ss i := ⟨_, rfl⟩
        rw [← hx] at hc1 hat hhas hput hkey hc5
        obtain ⟨D, hD⟩ : ∃ D, D = laC ss n c2 := ⟨_, rfl⟩
        rw [← hD] at HM HM5 hat hhas hput
        have Hat := Lib.hid hat
        have hhas' : Maps.has D (keyL x) = true := hhas
        have HM5' := Lib.hid HM5
        have HN5' := Lib.hid HN5
        have HB5' := Lib.hid HB5
        clear hat hhas hx hD hf hnx hfix hstep hsame hfs hC hzm hm0 hxsz hC2 HM5 HN5 HB5 hlr
        go_wp2_with first
          | (at_lookup; refine wpList_lookup_own_ok_int _ rfl _ _ 77 rfl 9 3 .i64 strKey2 Try.underlying77 Try.underlying3 (zeroI _) w1.heap.size c2 _ rfl HM.out _ _ rfl hkey ?_; intro cc hcc hwc; obtain rfl : cc = (j : Int) := (by rw [Hat.out] at hcc; simp only [DataW.lit.injEq, Lit.int.injEq, true_and] at hcc; exact hcc.symm))
          | (at_mapUpdate; refine wpList_mapUpdate_own _ rfl _ _ _ 77 rfl 9 3 strKey2 Try.underlying77 _ w1.heap.size c2 _ rfl HM5'.out (by unfold maxLen; omega) _ _ _ rfl rfl hkey _ [] (plainElem_int Try.underlying3 hwi) ?_; intro x6 hown6 hgrow6)
        have HN6 : Hid (Own x6 3 W.heap.size x6.heap.size (some ⟨W.heap.size, 0, none⟩) n n (intsV (nxL ss n (c2 + 1)))) := by
          exact ((show Wx (some w1.heap.size) _ x6 from ⟨hgrow6.os, hgrow6.tape, hgrow6.output, hgrow6.size, hgrow6.block⟩).own HN5'.out (fun g hg e => by
            have hg2 : W.heap.size = g := by simpa [Value.ownBlock] using hg
            injection e with e; omega)).mono (Nat.le_refl _) hgrow6.size
        have HM6 : Hid (OwnLa x6 w1.heap.size (c2 + 1) (laC ss n (c2 + 1))) := by unfold Hid; rw [hput.out]; exact hown6
        have HB6 : Hid (Below W.heap.size W x6) := below_grown2 HB5'.out (Nat.le_refl _) hgrow6 (by omega)
        have hW6 : w1.heap.size < x6.heap.size := Nat.lt_of_lt_of_le hW5 hgrow6.size
        clear hown6 hgrow6 hkey hhas' hcz hfz hc5 hW5
        go_roundw
        case rel => exact ⟨i, (i : Int) - 1, by go_num, rfl, by omega, by rw [hcn]; exact HN6.out, by rw [hcn]; exact HM6.out, HB6.out, hW6⟩
        case measure => (simp [intOf] <;> omega)
set_option maxRecDepth 100000 in
set_option maxHeartbeats 2000000 in
theorem im_RepeatsIn (A : Option Addr) (n c : Nat) (ss : List ByteArray) (W : World) (hr : Rd W A n (strsV ss)) (hz : ∀ s ∈ ss, s.size ≤ 1048576) (hl : ss.length ≤ 1048576) :
    Calls Try.prog 35 #[.slice A n c] W (RetRB (out_RepeatsIn ss) (ok_RepeatsIn ss) W) := by
  have hzm : ∀ s ∈ ss, s.size ≤ maxLen := fun s hs => by have := hz s hs; unfold maxLen; omega
  have HA : Hid (∀ W', Rd W' A n (strsV ss) → Calls Try.prog 67 #[.slice A n c] W' fun e w' => e = .returned (.bool (rowsB ss)) ∧ W' = w') := fun W' h => GoodRows_any A n c ss W' h hzm
  have HP : Hid (rowsB ss = true → Calls Try.prog 69 #[.slice A n c, .int .i64 100] W (RetR (reO ss) W)) := fun h => by
    have h2 : RowsOK ss := by simpa [rowsB] using h
    exact repeats_any A n c ss W hr hz (by have := hr.slen; have := h2.1; omega)
  have Hr := Lib.hid hr
  have E1 : Hid (rowsB ss = true → out_RepeatsIn ss = reO ss) := fun h => by unfold out_RepeatsIn; rw [if_pos h]
  have E0 : Hid (rowsB ss = false → out_RepeatsIn ss = []) := fun h => by unfold out_RepeatsIn; rw [h]; simp
  obtain ⟨ra, hra⟩ : ∃ r, r = rowsB ss := ⟨_, rfl⟩
  rw [← hra] at HA HP
  have HRA := Lib.hid hra
  clear hra hr hz hzm hl
  cases ra with
  | false =>
    go_enter Try.func35, Try.ntmps35
    go_wp2_with (go_at_call 67; refine (HA.out _ Hr.out).mono ?_; rintro e w1 ⟨rfl, rfl⟩)
    go_ret2
    refine ⟨none, 0, 0, [], ret_slb (show ok_RepeatsIn ss = false from HRA.out.symm), ?_, Below.refl _ _⟩
    rw [E0.out HRA.out.symm]; exact OwnR.of_own (Own.nil _ _ _ _)
  | true =>
    go_enter Try.func35, Try.ntmps35
    go_wp2_with first
      | (go_at_call 67; refine (HA.out _ Hr.out).mono ?_; rintro e w1 ⟨rfl, rfl⟩)
      | (go_at_call 69; refine (HP.out (by trivial)).mono ?_; rintro e w2 ⟨A2, n2, c2, rs2, rfl, ho2, hb2⟩)
    go_ret2
    refine ⟨A2, n2, c2, rs2, ret_slb (show ok_RepeatsIn ss = true from HRA.out.symm), ?_, hb2⟩
    rw [E1.out HRA.out.symm]; exact ho2
end Go.Proofs.Ytgpjbmlemnjhfaa
