/- CoursePath, of the reference and of the program: what each returns. -/
import Derived.Test.YtbmabfgnmafooaaAsked
import Derived.Test.YtbmabfgnmafooaaWalkPb
namespace Go.Proofs.Ytbmabfgnmafooaa
open Go.RowKit
set_option linter.unusedVariables false

noncomputable def cpL (st : Int) (ss : List ByteArray) (B k : Nat) : List Nat := (pbL (bs (lhS st ss)) B k).flatMap fun b => (pathL st ss b).take ss.length
theorem cpL_succ (st : Int) (ss : List ByteArray) (B k : Nat) : cpL st ss B (k + 1) = cpL st ss B k ++ (pathL st ss (itN (bpl (bs (lhS st ss))) B k)).take ss.length := by
  unfold cpL; rw [pbL_succ, List.flatMap_append]; simp
theorem cpL_len (st : Int) (ss : List ByteArray) (B : Nat) : ∀ k, (cpL st ss B k).length = k * ss.length
  | 0 => by simp [cpL, pbL]
  | k + 1 => by
    have ih := cpL_len st ss B k
    rw [cpL_succ, List.length_append, ih, List.length_take, pathL_len, Nat.succ_mul]; omega
noncomputable def cpO (st : Int) (ss : List ByteArray) (B : Nat) : List Nat := cpL st ss B (pbK (bs (lhS st ss)) B)
theorem cp_ok {nm : ByteArray} {st : Int} {ss : List ByteArray} {bl : Int} (h : askB nm st ss bl = true) : 1 ≤ pbK (bs (lhS st ss)) bl.toNat ∧ pbK (bs (lhS st ss)) bl.toNat ≤ 8 ∧ ss.length ≤ 40 ∧ ∀ k, 1 ≤ itN (bpl (bs (lhS st ss))) bl.toNat k ∧ ((itN (bpl (bs (lhS st ss))) bl.toNat k : Nat) : Int) ≤ st := by
  obtain ⟨hm, h1, h2⟩ := ask_ok h
  have hl := lh_ok hm
  have hb1 : 1 ≤ bl.toNat := by omega
  have hb2 : bl.toNat ≤ (bs (lhS st ss)).length := by rw [size_bs]; omega
  have hk := pbK_ok hl.1 hb1 hb2
  have h8 := hl.1.2.1
  refine ⟨hk.1.1, by omega, (meth_ok hm).2.1, fun k => ?_⟩
  have := pbs_in hl.1 hb1 hb2 k
  rw [size_bs] at this
  refine ⟨this.1, by omega⟩
theorem pbL_getI (h : List UInt8) (B : Nat) {k K : Nat} (hk : k < K) : (natI (pbL h B K)).getD k 0 = ((itN (bpl h) B k : Nat) : Int) := by
  unfold natI pbL
  rw [List.getD_eq_getElem?_getD, List.getElem?_map, List.getElem?_map, List.getElem?_range hk]; rfl
theorem intsV_take (p : List Nat) (n : Nat) : intsV (natI (p.take n)) = (intsV (natI p)).take n := by simp [intsV, natI, List.map_take]
theorem ints_take (zs : List Int) (n : Nat) : ∀ u ∈ (intsV zs).take n, u.oneCell' = true := fun u hu => ints_one zs u (List.mem_of_mem_take hu)
theorem keep3x {x y : World} {g : Nat} {A : Option Addr} {n c : Nat} {v0 v1 v2 : Value} (hw : Wx (Value.slice A n c).ownBlock x y) (hg : g < x.heap.size) (ho : Off A n c g) (h : x.cell? ⟨g, 0, none⟩ = some v0 ∧ x.cell? ⟨g, 1, none⟩ = some v1 ∧ x.cell? ⟨g, 2, none⟩ = some v2) :
    y.cell? ⟨g, 0, none⟩ = some v0 ∧ y.cell? ⟨g, 1, none⟩ = some v1 ∧ y.cell? ⟨g, 2, none⟩ = some v2 :=
  ⟨(hw.cell (p := ⟨g, 0, none⟩) hg ho.ne).trans h.1, (hw.cell (p := ⟨g, 1, none⟩) hg ho.ne).trans h.2.1, (hw.cell (p := ⟨g, 2, none⟩) hg ho.ne).trans h.2.2⟩
theorem Own.capI {w : World} {E : TypeId} {lo hi n c : Nat} {A : Option Addr} {xs : List Value} (h : Own w E lo hi A n c xs) : (n : Int) ≤ (c : Int) := by
  rcases h.1.2 with ⟨e, h0⟩ | ⟨g, cap, cur, e, _, _, h1, _⟩
  · omega
  · injection e with e1 e2 e3; omega
noncomputable def ok_CoursePath (nm : ByteArray) (st : Int) (ss : List ByteArray) (bl : Int) : Bool := askB nm st ss bl
noncomputable def out_CoursePath (nm : ByteArray) (st : Int) (ss : List ByteArray) (bl : Int) : List Int := if askB nm st ss bl = true then natI (cpO st ss bl.toNat) else []
theorem len_CoursePath (nm : ByteArray) (st : Int) (ss : List ByteArray) (bl : Int) (hl : ss.length ≤ 1048576) : (out_CoursePath nm st ss bl).length ≤ 4194304 := by
  unfold out_CoursePath
  split
  · rename_i h
    have hg := cp_ok h
    rw [natI_len]; unfold cpO; rw [cpL_len]
    have := Nat.mul_le_mul hg.2.1 hg.2.2.1; omega
  · simp
set_option maxRecDepth 100000 in
set_option maxHeartbeats 1000000 in
theorem sp_CoursePath (nm : ByteArray) (st : Int) (A : Option Addr) (n c : Nat) (ss : List ByteArray) (bl : Int) (W : World) (hs : nm.size ≤ 1048576) (hw : (Lit.int .i64 st).wf = true) (hnc : n ≤ c) (hr : Rd W A n (strsV ss)) (hz : ∀ s ∈ ss, s.size ≤ 1048576) (hl : ss.length ≤ 1048576) (hwb : (Lit.int .i64 bl).wf = true) :
    Calls Try.prog 48 #[.agg #[.string nm, .int .i64 st, .slice A n c], .int .i64 bl] W (RetSB 3 (intsV (out_CoursePath nm st ss bl)) (ok_CoursePath nm st ss bl) W) := by
  obtain ⟨b, hb⟩ : ∃ b, b = askB nm st ss bl := ⟨_, rfl⟩
  have HC : Hid (∀ W', Below W.heap.size W W' → Calls Try.prog 61 #[.agg #[.string nm, .int .i64 st, .slice A n c], .int .i64 bl] W' fun e w' => e = .returned (.bool b) ∧ Below W'.heap.size W' w') := fun W' h => by rw [hb]; exact l5Asked_any nm st A n c ss bl W' (by omega) hw (hr.below h) (fun s hs => by have := hz s hs; omega) hwb
  have HR := Lib.hid hr
  have E1 : Hid (askB nm st ss bl = true → out_CoursePath nm st ss bl = natI (cpO st ss bl.toNat)) := fun h => by unfold out_CoursePath; rw [if_pos h]
  have E0 : Hid (askB nm st ss bl = false → out_CoursePath nm st ss bl = []) := fun h => by unfold out_CoursePath; rw [h]; simp
  have Hbox := Lib.hid (box3 W 27 (.string nm) (.int .i64 st) (.slice A n c))
  have Hb := Lib.hid hb
  clear hb hr hz
  cases b with
  | true =>
    have HT : Hid (askB nm st ss bl = true) := Hb.out.symm
    go_enter Try.func48, Try.ntmps48
    go_wp2_with fail
    obtain ⟨B0, hB0⟩ : ∃ B, B = W.alloc (.cells #[.string nm, .int .i64 st, .slice A n c] 27) := ⟨_, rfl⟩
    rw [← hB0]
    have hbB : Below W.heap.size W B0 := by rw [hB0]; exact below_alloc _ _
    have hsB : W.heap.size < B0.heap.size := by rw [hB0]; simp
    have hcB := Hbox.out
    rw [← hB0] at hcB
    refine (HC.out _ hbB).mono ?_
    rintro e x1 ⟨rfl, hb1⟩
    have B1 : Below W.heap.size W x1 := hbB.trans (hb1.mono hbB.size)
    have K1 := keep3 hb1 hsB hcB
    have s1 : W.heap.size < x1.heap.size := Nat.lt_of_lt_of_le hsB hb1.size
    obtain ⟨k0, k1, k2⟩ := K1
    clear hcB hB0 hb1
    have HG := cp_ok HT.out
    obtain ⟨hm, hB1, hB2⟩ := ask_ok HT.out
    obtain ⟨B, hBb⟩ : ∃ B : Nat, bl = (B : Int) := ⟨bl.toNat, by omega⟩
    subst hBb
    rw [Int.toNat_natCast] at E1 HG
    have HPb : Hid (∀ W', Below W.heap.size W W' → Calls Try.prog 79 #[.agg #[.string nm, .int .i64 st, .slice A n c], .int .i64 (B : Int)] W' (RetS 3 (intsV (natI (pbO st ss B))) W')) := fun W' h => l5Bells_any nm st A n c ss B W' hm (HR.out.below h) (by omega) hB2
    have HPa : Hid (∀ W' (y : Nat), 1 ≤ y → (y : Int) ≤ st → Below W.heap.size W W' → Calls Try.prog 62 #[.agg #[.string nm, .int .i64 st, .slice A n c], .int .i64 (y : Int)] W' (RetS 3 (intsV (natI (pathL st ss y))) W')) := fun W' y h1 h2 h => l5Path_any nm st A n c ss y W' hm (HR.out.below h) h1 h2
    have hln := HR.out.slen
    obtain ⟨hK1, hK8, hn40, HI2⟩ := HG
    have HIt := Lib.hid HI2
    have EO : pbO st ss B = pbL (bs (lhS st ss)) B (pbK (bs (lhS st ss)) B) := rfl
    have EC : cpO st ss B = cpL st ss B (pbK (bs (lhS st ss)) B) := rfl
    obtain ⟨h, hh⟩ : ∃ h, h = bs (lhS st ss) := ⟨_, rfl⟩
    obtain ⟨K, hK⟩ : ∃ K, K = pbK (bs (lhS st ss)) B := ⟨_, rfl⟩
    rw [← hK] at EO EC hK1 hK8
    have HEC := Lib.hid EC
    rw [EO] at HPb
    have HN := Lib.hid hln
    have KK := And.intro k0 (And.intro k1 k2)
    have hn40' : n ≤ 40 := by omega
    have hh2 := Lib.hid hh
    rw [← hh] at HPb
    clear hK hh EC EO hm hB1 hB2 hln HI2 hn40
    go_wp2_with (go_at_call 79; refine (HPb.out _ B1).mono ?_; rintro e x2 ⟨A2, n2, c2, rfl, ho2, hb2⟩)
    have hn2 : n2 = K := by have := ho2.rd.ilen; rw [natI_len, pbL_len] at this; exact this.symm
    subst hn2
    obtain ⟨g2, rfl, hg1, hg2, hg3⟩ := ho2.form (by omega)
    have HB2 : Hid (Below W.heap.size W x2) := B1.trans (hb2.mono B1.size)
    have HO2 : Hid (Own x2 3 W.heap.size x2.heap.size none 0 0 []) := Own.nil _ _ _ _
    have KK2 : Hid _ := keep3 hb2 s1 KK
    have HF2 : Hid (Off none 0 0 g2) := fun k hk => by simp [Value.ownBlock] at hk
    have HFW : Hid (Off none 0 0 W.heap.size) := fun k hk => by simp [Value.ownBlock] at hk
    have HR2 := Lib.hid ho2.rd
    have hWg : W.heap.size < x2.heap.size := by have := hb2.size; have := B1.size; omega
    have h0n : (0 : Int) ≤ (n : Int) := by omega
    have h0n1 : (n : Int) ≤ (n : Int) + 1 := by omega
    clear ho2 hb2 KK k0 k1 k2 hg1 B1 s1
    go_loopw [6, 18] (fun l i wr => ∃ (k : Nat) (A3 : Option Addr) (L c3 : Nat), i = .int .i64 k ∧ l = .slice A3 L c3 ∧ k ≤ n2 ∧ Hid (L = k * n) ∧ Hid (Own wr 3 W.heap.size wr.heap.size A3 L c3 (intsV (natI (cpL st ss B k)))) ∧ Hid (Off A3 L c3 g2) ∧ Hid (Off A3 L c3 W.heap.size) ∧ Hid (Rd wr (some ⟨g2, 0, none⟩) n2 (intsV (natI (pbL h B n2)))) ∧ Hid (wr.cell? ⟨W.heap.size, 0, none⟩ = some (.string nm) ∧ wr.cell? ⟨W.heap.size, 1, none⟩ = some (.int .i64 st) ∧ wr.cell? ⟨W.heap.size, 2, none⟩ = some (.slice A n c)) ∧ Hid (Below W.heap.size W wr) ∧ W.heap.size < wr.heap.size) (fun _ i _ => n2 - (intOf i).toNat)
    case atStart => exact ⟨0, _, _, _, rfl, rfl, by omega, by simp [Hid], HO2.out, HF2.out, HFW.out, HR2.out, KK2.out, HB2.out, hWg⟩
    case round =>
      obtain ⟨k, A3, L, c3, rfl, rfl, hk, HL, HO3, HF, HFW3, HR3, HK3, HB, hWr⟩ := hrel
      by_cases hlt : k < n2
      · obtain ⟨b, off, heq, hgw, hcs⟩ := HR3.out.intD hlt
        injection heq with heq; injection heq with e1 e2; subst e1 e2
        have hcl := hcs k hlt
        rw [pbL_getI h B hlt, Nat.zero_add] at hcl
        have hin := HIt.out k
        have HS : Hid (cpL st ss B (k + 1) = cpL st ss B k ++ (pathL st ss (itN (bpl h) B k)).take n) := by unfold Hid; rw [hh2.out, cpL_succ, HN.out]
        rw [← hh2.out] at hin
        obtain ⟨y, hy⟩ : ∃ y, y = itN (bpl h) B k := ⟨_, rfl⟩
        rw [← hy] at hcl hin HS
        have HPy : Hid (∀ W', Below W.heap.size W W' → Calls Try.prog 62 #[.agg #[.string nm, .int .i64 st, .slice A n c], .int .i64 (y : Int)] W' (RetS 3 (intsV (natI (pathL st ss y))) W')) := fun W' h => HPa.out W' y hin.1 hin.2 h
        have hPl : (pathL st ss y).length = n + 1 := by rw [pathL_len, HN.out]
        obtain ⟨p, hp⟩ : ∃ p, p = pathL st ss y := ⟨_, rfl⟩
        rw [← hp] at HPy HS hPl
        have HPl := Lib.hid hPl
        have hL8 : L + n ≤ 4000 := by have := HL.out; have := Nat.mul_le_mul (Nat.le_of_lt hlt) hn40'; have := Nat.mul_le_mul hK8 (Nat.le_refl 40); omega
        have hgs : wr.heap.size ≤ wr.drew.heap.size := Nat.le_refl _
        have i1 : (k : Int) < (n2 : Int) := by omega
        obtain ⟨f0, f1, f2⟩ := HK3.out
        clear hp hy hin hPl hcs
        go_wp2_with first
            | (go_at_call 62; refine (HPy.out _ HB.out).mono ?_; rintro e x5 ⟨A5, n5, c5, rfl, ho5, hb5⟩; have hn5 : n5 = n + 1 := (by have := ho5.rd.ilen; rw [natI_len, HPl.out] at this; exact this.symm); subst hn5; obtain ⟨g5, rfl, hg51, hg52, hg53⟩ := ho5.form (by omega); have hcap : (n : Int) ≤ (c5 : Int) := (by have := ho5.capI; omega))
            | (at_builtin; refine wpList_appendNx x5 rfl (.tmp 25) (.tmp 30) 42 rfl 3 (.int .i64 0) 8 Try.underlying42 info_int rfl W.heap.size A3 L c3 _ rfl ((HO3.out.below hb5).mono (Nat.le_refl _) hb5.size) (some ⟨g5, 0, none⟩) n c5 ((intsV (natI p)).take n) rfl (fun e => by cases e) (ho5.rd.takeV (by omega)) (ints_take _ _) (by omega) (by omega) (Nat.le_trans HB.out.size hb5.size) ?_; intro A4 c4 x4 ho4 hx4 hat4)
        have s5 : wr.heap.size ≤ x5.heap.size := hb5.size
        have HO4 : Hid (Own x4 3 W.heap.size x4.heap.size A4 (L + n) c4 (intsV (natI (cpL st ss B (k + 1))))) := ho4.congr (by rw [HS.out, natI_app, intsV_app, intsV_take])
        have HB5 : Below W.heap.size W x5 := HB.out.trans (hb5.mono HB.out.size)
        have HO5 : Own x5 3 W.heap.size x5.heap.size A3 L c3 (intsV (natI (cpL st ss B k))) := ((show Own wr 3 W.heap.size wr.heap.size A3 L c3 (intsV (natI (cpL st ss B k))) from HO3.out).below hb5).mono (Nat.le_refl _) hb5.size
        have HB4 : Hid (Below W.heap.size W x4) := HB5.trans (HO5.below_ hx4 HB5.size)
        have HR4 : Hid (Rd x4 (some ⟨g2, 0, none⟩) n2 (intsV (natI (pbL h B n2)))) := hx4.rd ((show Rd wr (some ⟨g2, 0, none⟩) n2 (intsV (natI (pbL h B n2))) from HR3.out).below hb5) HF.out.ne
        have HF4 : Hid (Off A4 (L + n) c4 g2) := HF.out.next (by omega) hat4
        have HFW4 : Hid (Off A4 (L + n) c4 W.heap.size) := HFW3.out.next (by omega) hat4
        have HK4 : Hid _ := keep3x hx4 (by omega) HFW3.out (keep3 hb5 (by simpa using hWr) HK3.out)
        have hW4 : W.heap.size < x4.heap.size := by have := hx4.size; omega
        have HL4 : Hid (L + n = (k + 1) * n) := by unfold Hid; rw [HL.out, Nat.succ_mul]
        clear hb5 ho5 ho4 hx4 hat4 HO5 HB5 f0 f1 f2
        go_roundw
        case rel => exact ⟨k + 1, A4, L + n, c4, by go_num, rfl, by omega, HL4.out, HO4.out, HF4.out, HFW4.out, HR4.out, HK4.out, HB4.out, hW4⟩
        case measure => (simp [intOf] <;> omega)
      · obtain rfl : k = n2 := by omega
        go_wp2
        go_ret2
        refine ⟨_, _, _, ret_slb (show ok_CoursePath nm st ss (B : Int) = true from HT.out), ?_, HB.out⟩
        rw [E1.out HT.out, HEC.out]; exact HO3.out
  | false =>
    have HT : Hid (askB nm st ss bl = false) := Hb.out.symm
    go_enter Try.func48, Try.ntmps48
    go_wp2_with fail
    obtain ⟨B0, hB0⟩ : ∃ B, B = W.alloc (.cells #[.string nm, .int .i64 st, .slice A n c] 27) := ⟨_, rfl⟩
    rw [← hB0]
    have hbB : Below W.heap.size W B0 := by rw [hB0]; exact below_alloc _ _
    have hsB : W.heap.size < B0.heap.size := by rw [hB0]; simp
    have hcB := Hbox.out
    rw [← hB0] at hcB
    refine (HC.out _ hbB).mono ?_
    rintro e x1 ⟨rfl, hb1⟩
    have B1 : Below W.heap.size W x1 := hbB.trans (hb1.mono hbB.size)
    have K1 := keep3 hb1 hsB hcB
    have s1 : W.heap.size < x1.heap.size := Nat.lt_of_lt_of_le hsB hb1.size
    obtain ⟨k0, k1, k2⟩ := K1
    clear hcB hB0 hb1
    go_wp2
    go_ret2
    refine ⟨none, 0, 0, ret_slb (show ok_CoursePath nm st ss bl = false from HT.out), ?_, B1⟩
    rw [E0.out HT.out]; exact Own.nil _ _ _ _
set_option maxRecDepth 100000 in
set_option maxHeartbeats 1000000 in
theorem im_CoursePath (nm : ByteArray) (st : Int) (A : Option Addr) (n c : Nat) (ss : List ByteArray) (bl : Int) (W : World) (hs : nm.size ≤ 1048576) (hw : (Lit.int .i64 st).wf = true) (hnc : n ≤ c) (hr : Rd W A n (strsV ss)) (hz : ∀ s ∈ ss, s.size ≤ 1048576) (hl : ss.length ≤ 1048576) (hwb : (Lit.int .i64 bl).wf = true) :
    Calls Try.prog 49 #[.agg #[.string nm, .int .i64 st, .slice A n c], .int .i64 bl] W (RetSB 3 (intsV (out_CoursePath nm st ss bl)) (ok_CoursePath nm st ss bl) W) := by
  obtain ⟨b, hb⟩ : ∃ b, b = methB nm st ss := ⟨_, rfl⟩
  have HC : Hid (∀ W', Below W.heap.size W W' → Calls Try.prog 55 #[.agg #[.string nm, .int .i64 st, .slice A n c]] W' fun e w' => e = .returned (.bool b) ∧ Below W'.heap.size W' w') := fun W' h => by rw [hb]; exact GoodMethod_any nm st A n c ss W' (by omega) (hr.below h) (fun s hs => by have := hz s hs; omega)
  obtain ⟨b2, hb2'⟩ : ∃ b, b = decide (1 ≤ bl ∧ bl ≤ st) := ⟨_, rfl⟩
  have HI : Hid (∀ W', Calls Try.prog 76 #[.int .i64 st, .int .i64 bl] W' fun e w' => e = .returned (.bool b2) ∧ W' = w') := fun W' => by rw [hb2']; exact isBell_any st bl W'
  have HA : Hid (askB nm st ss bl = (b && b2)) := by unfold Hid askB; rw [hb, hb2']
  have HR := Lib.hid hr
  have E1 : Hid (askB nm st ss bl = true → out_CoursePath nm st ss bl = natI (cpO st ss bl.toNat)) := fun h => by unfold out_CoursePath; rw [if_pos h]
  have E0 : Hid (askB nm st ss bl = false → out_CoursePath nm st ss bl = []) := fun h => by unfold out_CoursePath; rw [h]; simp
  have Hbox := Lib.hid (box3 W 27 (.string nm) (.int .i64 st) (.slice A n c))
  clear hb hb2' hr hz
  cases b with
  | true =>
    cases b2 with
    | true =>
      have HT : Hid (askB nm st ss bl = true) := HA.out
      go_enter Try.func49, Try.ntmps49
      go_wp2_with fail
      obtain ⟨B0, hB0⟩ : ∃ B, B = W.alloc (.cells #[.string nm, .int .i64 st, .slice A n c] 27) := ⟨_, rfl⟩
      rw [← hB0]
      have hbB : Below W.heap.size W B0 := by rw [hB0]; exact below_alloc _ _
      have hsB : W.heap.size < B0.heap.size := by rw [hB0]; simp
      have hcB := Hbox.out
      rw [← hB0] at hcB
      refine (HC.out _ hbB).mono ?_
      rintro e x1 ⟨rfl, hb1⟩
      have B1 : Below W.heap.size W x1 := hbB.trans (hb1.mono hbB.size)
      have K1 := keep3 hb1 hsB hcB
      have s1 : W.heap.size < x1.heap.size := Nat.lt_of_lt_of_le hsB hb1.size
      obtain ⟨k0, k1, k2⟩ := K1
      clear hcB hB0 hb1
      have HG := cp_ok HT.out
      obtain ⟨hm, hB1, hB2⟩ := ask_ok HT.out
      obtain ⟨B, hBb⟩ : ∃ B : Nat, bl = (B : Int) := ⟨bl.toNat, by omega⟩
      subst hBb
      rw [Int.toNat_natCast] at E1 HG
      have HPb : Hid (∀ W', Below W.heap.size W W' → Calls Try.prog 80 #[.agg #[.string nm, .int .i64 st, .slice A n c], .int .i64 (B : Int)] W' (RetS 3 (intsV (natI (pbO st ss B))) W')) := fun W' h => placeBells_any nm st A n c ss B W' hm (HR.out.below h) (by omega) hB2
      have HPa : Hid (∀ W' (y : Nat), 1 ≤ y → (y : Int) ≤ st → Below W.heap.size W W' → Calls Try.prog 77 #[.agg #[.string nm, .int .i64 st, .slice A n c], .int .i64 (y : Int)] W' (RetS 3 (intsV (natI (pathL st ss y))) W')) := fun W' y h1 h2 h => pathOf_any nm st A n c ss y W' hm (HR.out.below h) h1 h2
      have hln := HR.out.slen
      obtain ⟨hK1, hK8, hn40, HI2⟩ := HG
      have HIt := Lib.hid HI2
      have EO : pbO st ss B = pbL (bs (lhS st ss)) B (pbK (bs (lhS st ss)) B) := rfl
      have EC : cpO st ss B = cpL st ss B (pbK (bs (lhS st ss)) B) := rfl
      obtain ⟨h, hh⟩ : ∃ h, h = bs (lhS st ss) := ⟨_, rfl⟩
      obtain ⟨K, hK⟩ : ∃ K, K = pbK (bs (lhS st ss)) B := ⟨_, rfl⟩
      rw [← hK] at EO EC hK1 hK8
      have HEC := Lib.hid EC
      rw [EO] at HPb
      have HN := Lib.hid hln
      have KK := And.intro k0 (And.intro k1 k2)
      have hn40' : n ≤ 40 := by omega
      have hh2 := Lib.hid hh
      rw [← hh] at HPb
      clear hK hh EC EO hm hB1 hB2 hln HI2 hn40
      go_wp2_with first | (go_at_call 76; refine (HI.out _).mono ?_; rintro e w' ⟨rfl, rfl⟩) | (go_at_call 80; refine (HPb.out _ (B1.trans ((below_alloc x1 _).mono B1.size))).mono ?_; rintro e x2 ⟨A2, n2, c2, rfl, ho2, hb2⟩)
      have hn2 : n2 = K := by have := ho2.rd.ilen; rw [natI_len, pbL_len] at this; exact this.symm
      subst hn2
      obtain ⟨g2, rfl, hg1, hg2, hg3⟩ := ho2.form (by omega)
      have hg1' : x1.heap.size < g2 := by simp at hg1; omega
      have hy : x1.heap.size < (x1.alloc (.cells #[] 3)).heap.size := by simp
      have HB2 : Hid (Below W.heap.size W x2) := (B1.trans ((below_alloc x1 _).mono B1.size)).trans (hb2.mono (by have := B1.size; omega))
      have HO2 : Hid (Own x2 3 W.heap.size x2.heap.size (some ⟨x1.heap.size, 0, none⟩) 0 0 []) := ((own_empty x1 3).below hb2).mono B1.size hb2.size
      have KK2 : Hid _ := keep3 hb2 (by omega) (keep3 (below_alloc x1 (.cells #[] 3)) s1 KK)
      have HF2 : Hid (Off (some ⟨x1.heap.size, 0, none⟩) 0 0 g2) := fun k hk => by simp [Value.ownBlock] at hk; omega
      have HFW : Hid (Off (some ⟨x1.heap.size, 0, none⟩) 0 0 W.heap.size) := fun k hk => by simp [Value.ownBlock] at hk; omega
      have HR2 := Lib.hid ho2.rd
      have hWg : W.heap.size < x2.heap.size := by have := hb2.size; have := B1.size; omega
      have h0n : (0 : Int) ≤ (n : Int) := by omega
      have h0n1 : (n : Int) ≤ (n : Int) + 1 := by omega
      clear ho2 hb2 KK k0 k1 k2 hg1 B1 s1 hg1' hy
      go_loopw [6, 24] (fun l i wr => ∃ (k : Nat) (A3 : Option Addr) (L c3 : Nat), i = .int .i64 k ∧ l = .slice A3 L c3 ∧ k ≤ n2 ∧ Hid (L = k * n) ∧ Hid (Own wr 3 W.heap.size wr.heap.size A3 L c3 (intsV (natI (cpL st ss B k)))) ∧ Hid (Off A3 L c3 g2) ∧ Hid (Off A3 L c3 W.heap.size) ∧ Hid (Rd wr (some ⟨g2, 0, none⟩) n2 (intsV (natI (pbL h B n2)))) ∧ Hid (wr.cell? ⟨W.heap.size, 0, none⟩ = some (.string nm) ∧ wr.cell? ⟨W.heap.size, 1, none⟩ = some (.int .i64 st) ∧ wr.cell? ⟨W.heap.size, 2, none⟩ = some (.slice A n c)) ∧ Hid (Below W.heap.size W wr) ∧ W.heap.size < wr.heap.size) (fun _ i _ => n2 - (intOf i).toNat)
      case atStart => exact ⟨0, _, _, _, rfl, rfl, by omega, by simp [Hid], HO2.out, HF2.out, HFW.out, HR2.out, KK2.out, HB2.out, hWg⟩
      case round =>
        obtain ⟨k, A3, L, c3, rfl, rfl, hk, HL, HO3, HF, HFW3, HR3, HK3, HB, hWr⟩ := hrel
        by_cases hlt : k < n2
        · obtain ⟨b, off, heq, hgw, hcs⟩ := HR3.out.intD hlt
          injection heq with heq; injection heq with e1 e2; subst e1 e2
          have hcl := hcs k hlt
          rw [pbL_getI h B hlt, Nat.zero_add] at hcl
          have hin := HIt.out k
          have HS : Hid (cpL st ss B (k + 1) = cpL st ss B k ++ (pathL st ss (itN (bpl h) B k)).take n) := by unfold Hid; rw [hh2.out, cpL_succ, HN.out]
          rw [← hh2.out] at hin
          obtain ⟨y, hy⟩ : ∃ y, y = itN (bpl h) B k := ⟨_, rfl⟩
          rw [← hy] at hcl hin HS
          have HPy : Hid (∀ W', Below W.heap.size W W' → Calls Try.prog 77 #[.agg #[.string nm, .int .i64 st, .slice A n c], .int .i64 (y : Int)] W' (RetS 3 (intsV (natI (pathL st ss y))) W')) := fun W' h => HPa.out W' y hin.1 hin.2 h
          have hPl : (pathL st ss y).length = n + 1 := by rw [pathL_len, HN.out]
          obtain ⟨p, hp⟩ : ∃ p, p = pathL st ss y := ⟨_, rfl⟩
          rw [← hp] at HPy HS hPl
          have HPl := Lib.hid hPl
          have hL8 : L + n ≤ 4000 := by have := HL.out; have := Nat.mul_le_mul (Nat.le_of_lt hlt) hn40'; have := Nat.mul_le_mul hK8 (Nat.le_refl 40); omega
          have hgs : wr.heap.size ≤ wr.drew.heap.size := Nat.le_refl _
          have i1 : (k : Int) < (n2 : Int) := by omega
          obtain ⟨f0, f1, f2⟩ := HK3.out
          clear hp hy hin hPl hcs
          go_wp2
          go_region_held3 (fun w' => w'.cell? ⟨W.heap.size, 0, none⟩ = some (.string nm) ∧ w'.cell? ⟨W.heap.size, 1, none⟩ = some (.int .i64 st) ∧ w'.cell? ⟨W.heap.size, 2, none⟩ = some (.slice A n c))
            (first | go_keep | exact HK3.out | (exact keep3 hb5 (by simpa using hWr) ⟨f0, f1, f2⟩) | (exact keep3x hx4 (by have := hb5.size; simp at this; omega) HFW3.out (keep3 hb5 (by simpa using hWr) ⟨f0, f1, f2⟩)))
            (first | (go_at_call 77; refine (HPy.out _ HB.out.drew).mono ?_; rintro e x5 ⟨A5, n5, c5, rfl, ho5, hb5⟩; have hn5 : n5 = n + 1 := (by have := ho5.rd.ilen; rw [natI_len, HPl.out] at this; exact this.symm); subst hn5; obtain ⟨g5, rfl, hg51, hg52, hg53⟩ := ho5.form (by omega); have hcap : (n : Int) ≤ (c5 : Int) := (by have := ho5.capI; omega)) | (refine step_appendNx x5 (by rfl) (.tmp 28) (.tmp 35) 42 (by rfl) 3 (.int .i64 0) 8 Try.underlying42 info_int (by rfl) W.heap.size A3 L c3 _ (by rfl) (((show Own wr.drew 3 W.heap.size wr.heap.size A3 L c3 (intsV (natI (cpL st ss B k))) from HO3.out).below hb5).mono (Nat.le_refl _) hb5.size) (some ⟨g5, 0, none⟩) n c5 ((intsV (natI p)).take n) (by rfl) (fun e => by cases e) (ho5.rd.takeV (by omega)) (ints_take _ _) (by omega) (by omega) (Nat.le_trans HB.out.size hb5.size) ?_; intro A4 c4 x4 ho4 hx4 hat4))
          have s5 : wr.heap.size ≤ x5.heap.size := hb5.size
          have HO4 : Hid (Own x4 3 W.heap.size x4.heap.size A4 (L + n) c4 (intsV (natI (cpL st ss B (k + 1))))) := ho4.congr (by rw [HS.out, natI_app, intsV_app, intsV_take])
          have HB5 : Below W.heap.size W x5 := HB.out.drew.trans (hb5.mono HB.out.size)
          have HO5 : Own x5 3 W.heap.size x5.heap.size A3 L c3 (intsV (natI (cpL st ss B k))) := ((show Own wr.drew 3 W.heap.size wr.heap.size A3 L c3 (intsV (natI (cpL st ss B k))) from HO3.out).below hb5).mono (Nat.le_refl _) hb5.size
          have HB4 : Hid (Below W.heap.size W x4) := HB5.trans (HO5.below_ hx4 HB5.size)
          have HR4 : Hid (Rd x4 (some ⟨g2, 0, none⟩) n2 (intsV (natI (pbL h B n2)))) := hx4.rd ((show Rd wr.drew (some ⟨g2, 0, none⟩) n2 (intsV (natI (pbL h B n2))) from HR3.out).below hb5) HF.out.ne
          have HF4 : Hid (Off A4 (L + n) c4 g2) := HF.out.next (by omega) hat4
          have HFW4 : Hid (Off A4 (L + n) c4 W.heap.size) := HFW3.out.next (by omega) hat4
          have HK4 : Hid _ := keep3x hx4 (by omega) HFW3.out (keep3 hb5 (by simpa using hWr) HK3.out)
          have hW4 : W.heap.size < x4.heap.size := by have := hx4.size; omega
          have HL4 : Hid (L + n = (k + 1) * n) := by unfold Hid; rw [HL.out, Nat.succ_mul]
          clear hb5 ho5 ho4 hx4 hat4 HO5 HB5 f0 f1 f2
          go_wp2
          go_roundw
          case rel => exact ⟨k + 1, A4, L + n, c4, by go_num, rfl, by omega, HL4.out, HO4.out, HF4.out, HFW4.out, HR4.out, HK4.out, HB4.out, hW4⟩
          case measure => (simp [intOf] <;> omega)
        · obtain rfl : k = n2 := by omega
          go_wp2
          go_ret2
          refine ⟨_, _, _, ret_slb (show ok_CoursePath nm st ss (B : Int) = true from HT.out), ?_, HB.out⟩
          rw [E1.out HT.out, HEC.out]; exact HO3.out
    | false =>
      have HT : Hid (askB nm st ss bl = false) := HA.out
      go_enter Try.func49, Try.ntmps49
      go_wp2_with fail
      obtain ⟨B0, hB0⟩ : ∃ B, B = W.alloc (.cells #[.string nm, .int .i64 st, .slice A n c] 27) := ⟨_, rfl⟩
      rw [← hB0]
      have hbB : Below W.heap.size W B0 := by rw [hB0]; exact below_alloc _ _
      have hsB : W.heap.size < B0.heap.size := by rw [hB0]; simp
      have hcB := Hbox.out
      rw [← hB0] at hcB
      refine (HC.out _ hbB).mono ?_
      rintro e x1 ⟨rfl, hb1⟩
      have B1 : Below W.heap.size W x1 := hbB.trans (hb1.mono hbB.size)
      have K1 := keep3 hb1 hsB hcB
      have s1 : W.heap.size < x1.heap.size := Nat.lt_of_lt_of_le hsB hb1.size
      obtain ⟨k0, k1, k2⟩ := K1
      clear hcB hB0 hb1
      go_wp2_with (go_at_call 76; refine (HI.out _).mono ?_; rintro e w' ⟨rfl, rfl⟩)
      go_ret2
      refine ⟨none, 0, 0, ret_slb (show ok_CoursePath nm st ss bl = false from HT.out), ?_, B1⟩
      rw [E0.out HT.out]; exact Own.nil _ _ _ _
  | false =>
    have HT : Hid (askB nm st ss bl = false) := by unfold Hid; rw [HA.out]; rfl
    go_enter Try.func49, Try.ntmps49
    go_wp2_with fail
    obtain ⟨B0, hB0⟩ : ∃ B, B = W.alloc (.cells #[.string nm, .int .i64 st, .slice A n c] 27) := ⟨_, rfl⟩
    rw [← hB0]
    have hbB : Below W.heap.size W B0 := by rw [hB0]; exact below_alloc _ _
    have hsB : W.heap.size < B0.heap.size := by rw [hB0]; simp
    have hcB := Hbox.out
    rw [← hB0] at hcB
    refine (HC.out _ hbB).mono ?_
    rintro e x1 ⟨rfl, hb1⟩
    have B1 : Below W.heap.size W x1 := hbB.trans (hb1.mono hbB.size)
    have K1 := keep3 hb1 hsB hcB
    have s1 : W.heap.size < x1.heap.size := Nat.lt_of_lt_of_le hsB hb1.size
    obtain ⟨k0, k1, k2⟩ := K1
    clear hcB hB0 hb1
    go_wp2
    go_ret2
    refine ⟨none, 0, 0, ret_slb (show ok_CoursePath nm st ss bl = false from HT.out), ?_, B1⟩
    rw [E0.out HT.out]; exact Own.nil _ _ _ _
end Go.Proofs.Ytbmabfgnmafooaa
