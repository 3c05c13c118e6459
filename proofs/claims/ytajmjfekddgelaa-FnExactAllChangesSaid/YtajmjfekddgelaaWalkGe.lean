/- The walk of the program's enumeration of what some rows generate. -/
import Derived.Test.YtajmjfekddgelaaPlainC
import Derived.Test.YtajmjfekddgelaaSorto
import Derived.Test.YtajmjfekddgelaaKit5
namespace Go.Proofs.Ytajmjfekddgelaa
open Go.RowKit Go.Maps
set_option linter.unusedVariables false

theorem wpList_insert_own {H : Type} {P : Program} (w : World) {ops : Array Oper} {rest : List Oper} {o : Oper} {a : Act} {Q : Exit → Act → World → Prop}
    (hg : o.guard = none) (m x v : Operand) (t : TypeId) (hop : o.op = Op.insert t m x v)
    (k e : TypeId) (K : Keyed P k) (ht : P.underlying t = some (.map k e)) (R : Value → Option (DataW H × List MemPlace)) (b n : Nat) (D : DataW H)
    (hm : a.eval m = .map (some b)) (hown : w.ownsMap P k R b n D) (hn : n < maxLen) (key val : Value) (kl : Lit) (hx : a.eval x = key) (hv : a.eval v = val) (hkey : keyOf P k key = some kl)
    (d : DataW H) (ps : List MemPlace) (hval : R val = some (d, ps))
    (hK : ∀ w', w'.ownsMap P k R b (n + 1) (D.put kl d) → w.grownBy w' (some b) → wpList P ops Q rest (a.put o.dst undef) w') :
    wpList P ops Q (o :: rest) a w := by
  refine wpList_plain hg fun K' hK' => ?_
  obtain ⟨w', hrun, r1, r2⟩ := hown.update K ht hn hkey hval
  unfold Oper.wp
  simp [execOp, hop, hm, hx, hv, hrun, Result.andThen]
  exact hK' _ _ (hK w' r1 r2)
theorem below_grown {lo g : Nat} {w0 w w' : World} (hb : Below lo w0 w) (hlo : lo ≤ w0.heap.size) (h : w.grownBy w' (some g)) (hg : lo ≤ g) : Below lo w0 w' :=
  hb.trans ⟨h.os, h.tape, h.output, h.size, fun q hq => h.block q (Nat.lt_of_lt_of_le hq (Nat.le_trans hlo hb.size)) (fun e => by injection e with e; omega)⟩
/-- what it returns -/
def genL (n : Nat) (gs : List ByteArray) (m : Nat) : List ByteArray := if clOK (mkS (roundsL n)) gs m = true then srt (clAll (mkS (roundsL n)) gs m) else []
def genB (n : Nat) (gs : List ByteArray) (m : Nat) : Bool := clOK (mkS (roundsL n)) gs m
theorem rounds_row {n : Nat} (h3 : 3 ≤ n) (h8 : n ≤ 8) : IsRow (bs (mkS (roundsL n))) ∧ (mkS (roundsL n)).size = n := by
  have e : bs (mkS (roundsL n)) = roundsL n := bs_mkS _
  refine ⟨by rw [e]; exact isRow_rounds h3 h8, ?_⟩
  rw [← size_bs, e]; simp [roundsL]
set_option maxRecDepth 100000 in
set_option maxHeartbeats 2000000 in
theorem generated_any (n most : Nat) (A : Option Addr) (m c : Nat) (gs : List ByteArray) (W : World) (h3 : 3 ≤ n) (h8 : n ≤ 8) (hm : m ≤ 800) (hq1 : 1 ≤ most) (hq8 : most ≤ 800) (hr : Rd W A m (strsV gs)) (hg : RowsN n gs) :
    Calls Try.prog 50 #[.int .i64 n, .slice A m c, .int .i64 most] W (RetSB 9 (strsV (genL n gs most)) (genB n gs most) W) := by
  have Hr := Lib.hid hr
  have Hl := Lib.hid hr.slen
  have Hg := Lib.hid hg
  have He := rounds_row h3 h8
  have HRo : Hid (∀ w, Calls Try.prog 34 #[.int .i64 n] w fun e w' => e = .returned (.string (mkS (roundsL n))) ∧ w = w') := fun w => by
    have := rounds_any (n : Int) w (by omega) (by omega)
    rwa [Int.toNat_natCast] at this
  have EL : Hid (genB n gs most = true → genL n gs most = srt (clAll (mkS (roundsL n)) gs most)) := fun h => by unfold genL; rw [if_pos (show clOK (mkS (roundsL n)) gs most = true from h)]
  have EN : Hid (genB n gs most = false → genL n gs most = []) := fun h => by unfold genL; rw [show clOK (mkS (roundsL n)) gs most = false from h]; simp
  have EB : Hid (genB n gs most = clOK (mkS (roundsL n)) gs most) := rfl
  have hmm := @run_makeMap Try.prog
  obtain ⟨e0, he0⟩ : ∃ e, e = mkS (roundsL n) := ⟨_, rfl⟩
  rw [← he0] at He HRo EL EB
  have HE := Lib.hid He
  have hsz : e0.size = n := He.2
  have hkey : keyOf Try.prog 9 (.string e0) = some (keyL e0) := keyOf_str (by unfold maxLen; omega)
  clear hr hg he0 He hsz
  go_enter Try.func50, Try.ntmps50
  go_wp2_with first
    | (go_at_call 34; refine (HRo.out _).mono ?_; rintro e w' ⟨rfl, rfl⟩)
    | (refine wpList_insert_own _ rfl _ _ _ 61 rfl 9 4 strKey Try.underlying61 _ W.heap.size 0 _ rfl (World.ownsMap_made W Try.prog 9 (plainElem (H := Unit) Try.prog 4)) (by unfold maxLen; omega) _ _ _ rfl rfl hkey _ [] (plainElem_bool Try.underlying4 true) ?_; intro w1 hown1 hgrow1)
  have HM1 : Hid (OwnSet w1 W.heap.size 1 [e0]) := by unfold Hid OwnSet; rw [show [e0] = [] ++ [e0] from rfl, setD_snoc]; exact hown1
  have HB1 : Below W.heap.size W w1 := below_grown (below_alloc _ _) (Nat.le_refl _) hgrow1 (Nat.le_refl _)
  have hW1 : W.heap.size < w1.heap.size := HM1.out.lt
  have HM2 : Hid (OwnSet (w1.alloc (.cells #[.string e0] 9)) W.heap.size 1 [e0]) := World.ownsMap.alloc HM1.out _
  have HB2 : Hid (Below W.heap.size W (w1.alloc (.cells #[.string e0] 9))) := HB1.trans ((below_alloc w1 _).mono HB1.size)
  have HO2 : Hid (Own (w1.alloc (.cells #[.string e0] 9)) 9 W.heap.size (w1.alloc (.cells #[.string e0] 9)).heap.size (some ⟨w1.heap.size, 0, none⟩) 1 1 (strsV [e0])) := (own_one w1 9 (.string e0)).mono (by omega) (Nat.le_refl _)
  have HF2 : Hid (Off (some ⟨w1.heap.size, 0, none⟩) 1 1 W.heap.size) := fun q hq => by simp [Value.ownBlock] at hq; omega
  clear hown1 hgrow1 HM1 HB1 hkey
  go_wp2
  go_loopw [9, 10] (fun l i wr => ∃ (k L : Nat) (A3 : Option Addr) (c3 : Nat), i = .int .i64 k ∧ l = .slice A3 L c3 ∧ k ≤ L ∧ L ≤ most ∧ Hid ((clTo e0 gs k).length = L) ∧ Hid (Own wr 9 W.heap.size wr.heap.size A3 L c3 (strsV (clTo e0 gs k))) ∧ Hid (Off A3 L c3 W.heap.size) ∧ Hid (OwnSet wr W.heap.size L (clTo e0 gs k)) ∧ Hid (Below W.heap.size W wr)) (fun _ i _ => most + 1 - (intOf i).toNat)
  case atStart => exact ⟨0, 1, _, _, rfl, rfl, by omega, by omega, rfl, HO2.out, HF2.out, HM2.out, HB2.out⟩
  case round =>
    obtain ⟨k, L, A3, c3, rfl, rfl, hkL, hLm, HL, HO, HF, HM, HB⟩ := hrel
    by_cases hlt : k < L
    · have i1 : (k : Int) < (L : Int) := by omega
      have HLR : Hid (RowsN n (clTo e0 gs k)) := clTo_rows HE.out Hg.out k
      have HFin : Hid (clTo e0 gs (k + 1) = clIn (getS (clTo e0 gs k) k) gs (clTo e0 gs k) m) := by
        unfold Hid
        rw [clTo_succ e0 gs (by have := HL.out; omega), Hl.out]
      have HX : Hid (IsRow (bs (getS (clTo e0 gs k) k)) ∧ (getS (clTo e0 gs k) k).size = n) := HLR.out.get (by have := HL.out; omega)
      obtain ⟨Lk, hLk⟩ : ∃ l, l = clTo e0 gs k := ⟨_, rfl⟩
      rw [← hLk] at HL HO HM HLR HFin HX
      obtain ⟨x, hx⟩ : ∃ x, x = getS Lk k := ⟨_, rfl⟩
      rw [← hx] at HFin HX
      have Hx := Lib.hid hx
      clear hLk hx
      go_wp2
      go_loopw [9, 29] (fun l i wr => ∃ (j L2 : Nat) (A3 : Option Addr) (c3 : Nat), i = .int .i64 j ∧ l = .slice A3 L2 c3 ∧ j ≤ m ∧ L ≤ L2 ∧ L2 ≤ most ∧ Hid ((clIn x gs Lk j).length = L2) ∧ Hid (Own wr 9 W.heap.size wr.heap.size A3 L2 c3 (strsV (clIn x gs Lk j))) ∧ Hid (Off A3 L2 c3 W.heap.size) ∧ Hid (OwnSet wr W.heap.size L2 (clIn x gs Lk j)) ∧ Hid (Below W.heap.size W wr)) (fun _ i _ => m - (intOf i).toNat)
      case atStart => exact ⟨0, L, _, _, rfl, rfl, by omega, by omega, hLm, by unfold Hid clIn; simpa using HL.out, by unfold Hid clIn; simpa using HO.out, HF.out, by unfold Hid clIn; simpa using HM.out, HB.out⟩
      case round =>
        clear HO HF HM HB
        obtain ⟨j, L2, A4, c4, rfl, rfl, hj, hL2, hL2m, HLn, HO, HF, HM, HB⟩ := hrel
        by_cases hjm : j < m
        · obtain ⟨b, off, rfl, hbs, hcs⟩ := (Hr.out.below HB.out).strD hjm
          have hc1 := hcs j hjm
          obtain ⟨b2, off2, rfl, hbs2, hcs2⟩ := HO.out.rd.strD (k := k) (by omega)
          have hc2 := hcs2 k (by omega)
          rw [clIn_get x gs Lk j (by have := HL.out; omega), ← Hx.out] at hc2
          have hjl : j < gs.length := by have := Hl.out; omega
          have hG := Hg.out.get hjl
          have hS := clIn_succ x gs Lk hjl
          obtain ⟨g, hgg⟩ : ∃ g, g = getS gs j := ⟨_, rfl⟩
          rw [← hgg] at hc1 hG hS
          have HT : Hid (∀ W', Calls Try.prog 67 #[.string x, .string g] W' fun e w' => e = .returned (.string (timS x g)) ∧ Below W'.heap.size W' w') := fun W' => times_any x g W' HX.out.1 hG.1 (by rw [HX.out.2, hG.2])
          have hY := timS_row HX.out hG
          have hat0 := setD_at (clIn x gs Lk j) (timS x g)
          unfold clStep at hS
          obtain ⟨y, hy⟩ : ∃ y, y = timS x g := ⟨_, rfl⟩
          rw [← hy] at HT hY hat0 hS
          have hysz : y.size = n := hY.2
          have hkey : keyOf Try.prog 9 (.string y) = some (keyL y) := keyOf_str (by unfold maxLen; omega)
          obtain ⟨q, hq⟩ : ∃ q, q = hasB (clIn x gs Lk j) y := ⟨_, rfl⟩
          rw [← hq] at hat0 hS
          have Hat := Lib.hid hat0
          have i2 : (j : Int) < (m : Int) := by omega
          have i3 : (k : Int) < (L2 : Int) := by omega
          have hWr : W.heap.size < wr.heap.size := HM.out.lt
          clear hcs hcs2 hjl hG hgg hy hY hysz hat0 hq
          cases q with
          | true =>
            have HS : Hid (clIn x gs Lk (j + 1) = clIn x gs Lk j) := by unfold Hid; rw [hS, if_pos rfl]
            clear hS
            go_wp2_with first
              | (go_at_call 67; refine (HT.out _).mono ?_; rintro e x5 ⟨rfl, hb5⟩; have HM5 := HM.out.below (hb5.block _ hWr))
              | (at_lookup; refine wpList_lookup_own_bool _ rfl _ _ 61 rfl 9 4 strKey Try.underlying61 Try.underlying4 (zeroB _) W.heap.size L2 _ rfl HM5 _ _ rfl hkey ?_; intro cc hcc; obtain rfl : cc = true := (by rw [Hat.out] at hcc; injection hcc with hcc; injection hcc with hcc; exact hcc.symm))
            have HO5 : Hid (Own x5 9 W.heap.size x5.heap.size (some ⟨b2, off2, none⟩) L2 c4 (strsV (clIn x gs Lk j))) := (HO.out.below hb5).mono (Nat.le_refl _) hb5.size
            have HB5 : Hid (Below W.heap.size W x5) := HB.out.trans (hb5.mono HB.out.size)
            have HM6 : Hid (OwnSet x5 W.heap.size L2 (clIn x gs Lk j)) := HM5
            clear hb5 HM5
            go_roundw
            case rel => exact ⟨j + 1, L2, _, c4, by go_num, rfl, by omega, hL2, hL2m, by unfold Hid; rw [HS.out]; exact HLn.out, by unfold Hid; rw [HS.out]; exact HO5.out, HF.out, by unfold Hid; rw [HS.out]; exact HM6.out, HB5.out⟩
            case measure => (simp [intOf] <;> omega)
          | false =>
            have HS : Hid (clIn x gs Lk (j + 1) = clIn x gs Lk j ++ [y]) := by unfold Hid; rw [hS, if_neg (by simp)]
            clear hS
            by_cases hq : L2 = most
            · have hb : ((L2 : Int) == (most : Int)) = true := by simp [hq]
              have E : Hid (genB n gs most = false) := by
                unfold Hid
                rw [EB.out]
                refine clOK_no (k := k) (by omega) ?_
                rw [HFin.out]
                refine Nat.lt_of_lt_of_le ?_ (clIn_grow x gs Lk (show j + 1 ≤ m by omega))
                rw [HS.out, List.length_append, HLn.out, hq]; simp
              clear hq
              go_wp2_with first
                | (go_at_call 67; refine (HT.out _).mono ?_; rintro e x5 ⟨rfl, hb5⟩; have HM5 := HM.out.below (hb5.block _ hWr))
                | (at_lookup; refine wpList_lookup_own_bool _ rfl _ _ 61 rfl 9 4 strKey Try.underlying61 Try.underlying4 (zeroB _) W.heap.size L2 _ rfl HM5 _ _ rfl hkey ?_; intro cc hcc; obtain rfl : cc = false := (by rw [Hat.out] at hcc; injection hcc with hcc; injection hcc with hcc; exact hcc.symm))
              go_ret2
              refine ⟨none, 0, 0, ret_slb E.out, ?_, HB.out.trans (hb5.mono HB.out.size)⟩
              rw [EN.out E.out]; exact Own.nil _ _ _ _
            · have hb : ((L2 : Int) == (most : Int)) = false := by simp; omega
              have hL3 : L2 + 1 ≤ most := by omega
              clear hq
              go_wp2_with first
                | (go_at_call 67; refine (HT.out _).mono ?_; rintro e x5 ⟨rfl, hb5⟩; have HM5 := HM.out.below (hb5.block _ hWr))
                | (at_lookup; refine wpList_lookup_own_bool _ rfl _ _ 61 rfl 9 4 strKey Try.underlying61 Try.underlying4 (zeroB _) W.heap.size L2 _ rfl HM5 _ _ rfl hkey ?_; intro cc hcc; obtain rfl : cc = false := (by rw [Hat.out] at hcc; injection hcc with hcc; injection hcc with hcc; exact hcc.symm))
                | (at_mapUpdate; refine wpList_mapUpdate_own _ rfl _ _ _ 61 rfl 9 4 strKey Try.underlying61 _ W.heap.size L2 _ rfl HM5 (by unfold maxLen; omega) _ _ _ rfl rfl hkey _ [] (plainElem_bool Try.underlying4 true) ?_; intro x6 hown6 hgrow6; have HB6 : Below W.heap.size W x6 := below_grown (HB.out.trans (hb5.mono HB.out.size)) (Nat.le_refl _) hgrow6 (Nat.le_refl _); have HO6 := ((show Wx (some W.heap.size) x5 x6 from ⟨hgrow6.os, hgrow6.tape, hgrow6.output, hgrow6.size, hgrow6.block⟩).own (HO.out.below hb5) (fun g hg e => HF.out g hg (by injection e))).mono (Nat.le_refl _) (Nat.le_trans hb5.size hgrow6.size))
                | (at_builtin; refine wpList_append1x x6 rfl (.tmp 48) (.tmp 50) 22 rfl 9 (.string ByteArray.empty) 16 Try.underlying22 info_str rfl W.heap.size _ L2 c4 _ (.string y) rfl rfl rfl HO6 (by omega) (by omega) HB6.size ?_; intro A7 c7 x7 ho7 hx7 hsz7 hat7)
              have HO7 : Hid (Own x7 9 W.heap.size x7.heap.size A7 (L2 + 1) c7 (strsV (clIn x gs Lk (j + 1)))) := ho7.congr (by rw [HS.out, strsV_app, strsV_one])
              have HB7 : Hid (Below W.heap.size W x7) := HB6.trans (HO6.below_ hx7 HB6.size)
              have hWx6 : W.heap.size < x6.heap.size := Nat.lt_of_lt_of_le hWr (Nat.le_trans hb5.size hgrow6.size)
              have HM7 : Hid (OwnSet x7 W.heap.size (L2 + 1) (clIn x gs Lk (j + 1))) := by
                have h6 : OwnSet x6 W.heap.size (L2 + 1) (clIn x gs Lk (j + 1)) := by unfold OwnSet; rw [HS.out, setD_snoc]; exact hown6
                exact h6.below (hx7.block _ hWx6 HF.out.ne)
              have HF7 : Hid (Off A7 (L2 + 1) c7 W.heap.size) := HF.out.next hWx6 hat7
              have HL7 : Hid ((clIn x gs Lk (j + 1)).length = L2 + 1) := by unfold Hid; rw [HS.out, List.length_append, HLn.out]; rfl
              clear hb5 HM5 hown6 hgrow6 HB6 HO6 ho7 hx7 hat7
              go_roundw
              case rel => exact ⟨j + 1, L2 + 1, A7, c7, by go_num, rfl, by omega, by omega, hL3, HL7.out, HO7.out, HF7.out, HM7.out, HB7.out⟩
              case measure => (simp [intOf] <;> omega)
        · obtain rfl : j = m := by omega
          go_wp2
          go_roundw
          case rel => exact ⟨k + 1, L2, A4, c4, by go_num, rfl, by omega, hL2m, by unfold Hid; rw [HFin.out]; exact HLn.out, by unfold Hid; rw [HFin.out]; exact HO.out, HF.out, by unfold Hid; rw [HFin.out]; exact HM.out, HB.out⟩
          case measure => (simp [intOf] <;> omega)
    · have hd := clOK_done (e := e0) (gs := gs) (m := most) (k := k) (by have := HL.out; omega) (by omega)
      have E : Hid (genB n gs most = true) := by unfold Hid; rw [EB.out]; exact hd.2
      have E2 : Hid (genL n gs most = srt (clTo e0 gs k)) := by unfold Hid; rw [EL.out E.out, hd.1]
      have HSo := Lib.hid (sort_own A3 L c3 W.heap.size wr.heap.size (clTo e0 gs k) wr HB.out.size (by omega) HO.out)
      clear hd
      go_wp2_with (go_at_call 36; refine HSo.out.mono ?_; rintro e w2 ⟨rfl, ho2, hb2⟩)
      go_ret2
      refine ⟨A3, L, c3, ret_slb E.out, ?_, HB.out.trans hb2⟩
      rw [E2.out]; exact ho2.mono (Nat.le_refl _) hb2.size
end Go.Proofs.Ytajmjfekddgelaa
