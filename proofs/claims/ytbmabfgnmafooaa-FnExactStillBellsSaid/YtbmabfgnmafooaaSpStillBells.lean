/- StillBells, of the reference and of the program: what each returns. -/
import Derived.Test.YtbmabfgnmafooaaWalkPa
import Derived.Test.YtbmabfgnmafooaaWalkSt
import Derived.Test.YtbmabfgnmafooaaKit6
import Derived.Deep.RegionHeld3
namespace Go.Proofs.Ytbmabfgnmafooaa
open Go.RowKit
set_option linter.unusedVariables false

noncomputable def srS (st : Int) (ss : List ByteArray) : List ByteArray := rowsTo (rnd st) ss (ss.length + 1)
noncomputable def ok_StillBells (nm : ByteArray) (st : Int) (ss : List ByteArray) : Bool := methB nm st ss
noncomputable def out_StillBells (nm : ByteArray) (st : Int) (ss : List ByteArray) : List Int := if methB nm st ss = true then natI (stL (srS st ss) st.toNat) else []
theorem len_StillBells (nm : ByteArray) (st : Int) (ss : List ByteArray) (hl : ss.length ≤ 1048576) : (out_StillBells nm st ss).length ≤ 4194304 := by
  unfold out_StillBells
  split
  · rename_i h
    have hm := meth_ok h
    rw [natI_len]
    have := stL_len (srS st ss) st.toNat; omega
  · simp
set_option maxRecDepth 100000 in
set_option maxHeartbeats 1000000 in
theorem im_StillBells (nm : ByteArray) (st : Int) (A : Option Addr) (n c : Nat) (ss : List ByteArray) (W : World) (hs : nm.size ≤ 1048576) (hw : (Lit.int .i64 st).wf = true) (hnc : n ≤ c) (hr : Rd W A n (strsV ss)) (hz : ∀ s ∈ ss, s.size ≤ 1048576) (hl : ss.length ≤ 1048576) :
    Calls Try.prog 33 #[.agg #[.string nm, .int .i64 st, .slice A n c]] W (RetSB 3 (intsV (out_StillBells nm st ss)) (ok_StillBells nm st ss) W) := by
  obtain ⟨b, hb⟩ : ∃ b, b = methB nm st ss := ⟨_, rfl⟩
  have HC : Hid (∀ W', Below W.heap.size W W' → Calls Try.prog 55 #[.agg #[.string nm, .int .i64 st, .slice A n c]] W' fun e w' => e = .returned (.bool b) ∧ Below W'.heap.size W' w') := fun W' h => by rw [hb]; exact GoodMethod_any nm st A n c ss W' (by omega) (hr.below h) (fun s hs => by have := hz s hs; omega)
  have Hbox := Lib.hid (box3 W 27 (.string nm) (.int .i64 st) (.slice A n c))
  have HR := Lib.hid hr
  have Hb := Lib.hid hb
  have E1 : Hid (methB nm st ss = true → out_StillBells nm st ss = natI (stL (srS st ss) st.toNat)) := fun h => by unfold out_StillBells; rw [if_pos h]
  have E0 : Hid (methB nm st ss = false → out_StillBells nm st ss = []) := fun h => by unfold out_StillBells; rw [h]; simp
  clear hb hr hz
  cases b with
  | false =>
    go_enter Try.func33, Try.ntmps33
    go_wp2_with fail
    refine (HC.out _ (below_alloc _ _)).mono ?_
    rintro e x1 ⟨rfl, hb1⟩
    have B1 : Below W.heap.size W x1 := (below_alloc W _).trans (hb1.mono (by simp))
    clear hb1
    go_wp2
    go_ret2
    refine ⟨none, 0, 0, ret_slb (show ok_StillBells nm st ss = false from Hb.out.symm), ?_, B1⟩
    rw [E0.out Hb.out.symm]; exact Own.nil _ _ _ _
  | true =>
    have hm : methB nm st ss = true := Hb.out.symm
    obtain ⟨h1, h40, h3, h8, hch⟩ := meth_ok hm
    have hln := HR.out.slen
    obtain ⟨m, rfl⟩ : ∃ m : Nat, st = (m : Int) := ⟨st.toNat, by omega⟩
    rw [Int.toNat_natCast] at E1
    obtain ⟨hrow, hrs⟩ := rnd_ok (m := m) (by omega) (by omega)
    have hrw : ∀ r ∈ srS (m : Int) ss, r.size = m := fun r hr => by
      unfold srS rowsTo at hr
      obtain ⟨k, hk, rfl⟩ := List.mem_map.1 hr
      have := rowAt_ok (cs := ss) hrow (fun s hs => by rw [hrs]; exact hch s hs) k (by simp at hk; omega)
      rw [this.2, hrs]
    obtain ⟨N, hN⟩ : ∃ N, N = n + 1 := ⟨_, rfl⟩
    have es : srS (m : Int) ss = rowsTo (rnd (m : Int)) ss N := by unfold srS; rw [hln, hN]
    have HRo : Hid (∀ W, Calls Try.prog 75 #[.int .i64 (m : Int)] W fun e w' => e = .returned (.string (rnd (m : Int))) ∧ W = w') := fun W => rounds_any (m : Int) W (by omega) h8
    have HL : Hid (∀ W', Below W.heap.size W W' → Calls Try.prog 74 #[.string (rnd (m : Int)), .slice A n c] W' (RetS 9 (strsV (srS (m : Int) ss)) W')) := fun W' h => by rw [es, hN]; exact rowsUnder_any A n c ss (rnd (m : Int)) W' (by omega) (HR.out.below h) hrow (fun s hs => by rw [hrs]; exact hch s hs)
    have HSt : Hid (∀ A2 n2 c2 W', n2 ≤ 1048576 → Rd W' A2 n2 (strsV (srS (m : Int) ss)) → Calls Try.prog 73 #[.int .i64 (m : Int), .slice A2 n2 c2] W' (RetS 3 (intsV (natI (stL (srS (m : Int) ss) m))) W')) := fun A2 n2 c2 W' hn2 hr2 => still_any m A2 n2 c2 _ W' (by omega) hn2 hr2 hrw
    have HN2 : Hid (∀ A2 n2 w, Rd w A2 n2 (strsV (srS (m : Int) ss)) → n2 ≤ 1048576) := fun A2 n2 w h => by have := h.slen; rw [es, rowsTo_len] at this; omega
    obtain ⟨r, hr0⟩ : ∃ r, r = rnd (m : Int) := ⟨_, rfl⟩
    obtain ⟨R, hR⟩ : ∃ R, R = srS (m : Int) ss := ⟨_, rfl⟩
    rw [← hr0] at HL HRo
    rw [← hR] at HL HSt HN2 E1
    clear hR hr0 es hrw hrow hrs hm hch hN hln h1 h40 h8
    go_enter Try.func33, Try.ntmps33
    go_wp2_with fail
    obtain ⟨B0, hB0⟩ : ∃ B, B = W.alloc (.cells #[.string nm, .int .i64 (m : Int), .slice A n c] 27) := ⟨_, rfl⟩
    rw [← hB0]
    have hbB : Below W.heap.size W B0 := by rw [hB0]; exact below_alloc _ _
    have hsB : W.heap.size < B0.heap.size := by rw [hB0]; simp
    have hcB := Hbox.out
    rw [← hB0] at hcB
    refine (HC.out _ hbB).mono ?_
    rintro e x1 ⟨rfl, hb1⟩
    have B1 : Below W.heap.size W x1 := hbB.trans (hb1.mono hbB.size)
    have K1 := keep3 hb1 hsB hcB
    have s1 : W.heap.size < x1.heap.size := Nat.lt_of_lt_of_le hsB hb1.size
    have HK1 := Lib.hid K1
    obtain ⟨f0, f1, f2⟩ := K1
    clear hcB hB0 hb1 hbB hsB
    have HLd := Lib.hid (HL.out x1.drew B1.drew)
    go_wp2
    go_region_held3 (fun w' => w'.cell? ⟨W.heap.size, 0, none⟩ = some (.string nm) ∧ w'.cell? ⟨W.heap.size, 1, none⟩ = some (.int .i64 (m : Int)) ∧ w'.cell? ⟨W.heap.size, 2, none⟩ = some (.slice A n c))
      (first | go_keep | exact HK1.out | (exact (keep3 hb2 (by simpa using s1) ⟨f0, f1, f2⟩)) | (exact (keep3 (hb2.trans (hb3.mono hb2.size)) (by simpa using s1) ⟨f0, f1, f2⟩)))
      (first | (go_at_call 75; refine (HRo.out _).mono ?_; rintro e w' ⟨rfl, rfl⟩) | (go_at_call 74; refine HLd.out.mono ?_; rintro e x2 ⟨A2, n2, c2, rfl, ho2, hb2⟩) | (go_at_call 73; refine (HSt.out A2 n2 c2 x2 (HN2.out _ _ _ ho2.rd) ho2.rd).mono ?_; rintro e x3 ⟨A3, n3, c3, rfl, ho3, hb3⟩))
    have B2 : Below W.heap.size W x2 := B1.drew.trans (hb2.mono B1.drew.size)
    have B3 : Below W.heap.size W x3 := B2.trans (hb3.mono B2.size)
    go_wp2
    go_ret2
    refine ⟨A3, n3, c3, ret_slb (show ok_StillBells nm (m : Int) ss = true from Hb.out.symm), ?_, B3⟩
    rw [E1.out Hb.out.symm]; exact ho3.mono B2.size (Nat.le_refl _)
set_option maxRecDepth 100000 in
set_option maxHeartbeats 4000000 in
theorem sp_StillBells (nm : ByteArray) (st : Int) (A : Option Addr) (n c : Nat) (ss : List ByteArray) (W : World) (hs : nm.size ≤ 1048576) (hw : (Lit.int .i64 st).wf = true) (hnc : n ≤ c) (hr : Rd W A n (strsV ss)) (hz : ∀ s ∈ ss, s.size ≤ 1048576) (hl : ss.length ≤ 1048576) :
    Calls Try.prog 32 #[.agg #[.string nm, .int .i64 st, .slice A n c]] W (RetSB 3 (intsV (out_StillBells nm st ss)) (ok_StillBells nm st ss) W) := by
  obtain ⟨b, hb⟩ : ∃ b, b = methB nm st ss := ⟨_, rfl⟩
  have HC : Hid (∀ W', Below W.heap.size W W' → Calls Try.prog 54 #[.agg #[.string nm, .int .i64 st, .slice A n c]] W' fun e w' => e = .returned (.bool b) ∧ Below W'.heap.size W' w') := fun W' h => by rw [hb]; exact l4Good_any nm st A n c ss W' (by omega) (hr.below h) (fun s hs => by have := hz s hs; omega)
  have Hbox := Lib.hid (box3 W 27 (.string nm) (.int .i64 st) (.slice A n c))
  have HR := Lib.hid hr
  have Hb := Lib.hid hb
  have E1 : Hid (methB nm st ss = true → out_StillBells nm st ss = natI (stL (srS st ss) st.toNat)) := fun h => by unfold out_StillBells; rw [if_pos h]
  have E0 : Hid (methB nm st ss = false → out_StillBells nm st ss = []) := fun h => by unfold out_StillBells; rw [h]; simp
  clear hb hr hz
  cases b with
  | false =>
    go_enter Try.func32, Try.ntmps32
    go_wp2_with fail
    refine (HC.out _ (below_alloc _ _)).mono ?_
    rintro e x1 ⟨rfl, hb1⟩
    have B1 : Below W.heap.size W x1 := (below_alloc W _).trans (hb1.mono (by simp))
    clear hb1
    go_wp2
    go_ret2
    refine ⟨none, 0, 0, ret_slb (show ok_StillBells nm st ss = false from Hb.out.symm), ?_, B1⟩
    rw [E0.out Hb.out.symm]; exact Own.nil _ _ _ _
  | true =>
    have hm : methB nm st ss = true := Hb.out.symm
    obtain ⟨h1, h40, h3, h8, hch⟩ := meth_ok hm
    have hln := HR.out.slen
    obtain ⟨m, rfl⟩ : ∃ m : Nat, st = (m : Int) := ⟨st.toNat, by omega⟩
    rw [Int.toNat_natCast] at E1
    obtain ⟨hrow, hrs⟩ := rnd_ok (m := m) (by omega) (by omega)
    obtain ⟨r, hr0⟩ : ∃ r, r = rnd (m : Int) := ⟨_, rfl⟩
    have HRo : Hid (∀ W, Calls Try.prog 71 #[.int .i64 (m : Int)] W fun e w' => e = .returned (.string r) ∧ W = w') := fun W => by rw [hr0]; exact l1Rounds_any (m : Int) W (by omega) h8
    have HLd : Hid (∀ W', Below W.heap.size W W' → Calls Try.prog 70 #[.slice A n c, .string r] W' (RetST 9 (strsV (rowsTo r ss n)) (rowAt r ss n) W')) := fun W' h => by rw [hr0]; exact l4Lead_any A n c ss (rnd (m : Int)) W' (by omega) (HR.out.below h) hrow (fun s hs => by rw [hrs]; exact hch s hs)
    rw [← hr0] at hrow hrs
    have HG : Hid (∀ k, k ≤ n → IsRow (bs (rowAt r ss k)) ∧ (rowAt r ss k).size = m) := fun k hk => by
      have := rowAt_ok (cs := ss) hrow (fun s hs => by rw [hrs]; exact hch s hs) k (by omega)
      rwa [hrs] at this
    have es : srS (m : Int) ss = rowsTo r ss (n + 1) := by unfold srS; rw [hln, hr0]
    rw [es] at E1
    have HS : Hid (∀ k, stL (rowsTo r ss (n + 1)) (k + 1) = stL (rowsTo r ss (n + 1)) k ++ (if (rowsTo r ss (n + 1)).any (mvB k) = true then [] else [k + 1])) := stL_succ _
    have HRs : Hid (rowsTo r ss (n + 1) = rowsTo r ss n ++ [rowAt r ss n]) := rowsTo_succ r ss n
    have HAny : Hid (∀ i k, (rowsTo r ss (k + 1)).any (mvB i) = ((rowsTo r ss k).any (mvB i) || mvB i (rowAt r ss k))) := fun i k => by rw [rowsTo_succ, List.any_append]; simp
    obtain ⟨t, ht⟩ : ∃ t, t = rowAt r ss n := ⟨_, rfl⟩
    rw [← ht] at HLd HRs
    have hn40 : n ≤ 40 := by omega
    have h8' : m ≤ 8 := by omega
    have hn1 : 1 ≤ n := by omega
    clear hr0 ht es hm hch h1 h40 hln hrow hrs h8
    go_enter Try.func32, Try.ntmps32
    go_wp2_with fail
    obtain ⟨B0, hB0⟩ : ∃ B, B = W.alloc (.cells #[.string nm, .int .i64 (m : Int), .slice A n c] 27) := ⟨_, rfl⟩
    rw [← hB0]
    have hbB : Below W.heap.size W B0 := by rw [hB0]; exact below_alloc _ _
    have hsB : W.heap.size < B0.heap.size := by rw [hB0]; simp
    have hcB := Hbox.out
    rw [← hB0] at hcB
    refine (HC.out _ hbB).mono ?_
    rintro e x1 ⟨rfl, hb1⟩
    have B1 : Below W.heap.size W x1 := hbB.trans (hb1.mono hbB.size)
    have K1 := keep3 hb1 hsB hcB
    have s1 : W.heap.size < x1.heap.size := Nat.lt_of_lt_of_le hsB hb1.size
    have HK1 := Lib.hid K1
    obtain ⟨f0, f1, f2⟩ := K1
    clear hcB hB0 hb1 hbB hsB
    have HLd1 := Lib.hid (HLd.out x1.drew B1.drew)
    go_wp2
    go_region_held3 (fun w' => w'.cell? ⟨W.heap.size, 1, none⟩ = some (.int .i64 (m : Int)) ∧ w'.cell? ⟨W.heap.size, 2, none⟩ = some (.slice A n c))
      (first | go_keep | exact HK1.out.2 | (exact (keep3 hb2 (by simpa using s1) ⟨f0, f1, f2⟩).2))
      (first | (go_at_call 71; refine (HRo.out _).mono ?_; rintro e w' ⟨rfl, rfl⟩) | (go_at_call 70; refine HLd1.out.mono ?_; rintro e x2 ⟨A2, n2, c2, rfl, ho2, hb2⟩))
    have B2 : Below W.heap.size W x2 := B1.drew.trans (hb2.mono B1.drew.size)
    have hn2 : n2 = n := by have := ho2.rd.slen; rw [rowsTo_len] at this; exact this.symm
    subst hn2
    obtain ⟨g2, rfl, hg1, hg2, hg3⟩ := ho2.form (by omega)
    have HO2 : Hid (Own x2 9 W.heap.size x2.heap.size (some ⟨g2, 0, none⟩) n2 c2 (strsV (rowsTo r ss n2))) := ho2.mono B1.size (Nat.le_refl _)
    have HK2 : Hid _ := keep3 hb2 (by simpa using s1) ⟨f0, f1, f2⟩
    have hg1' : W.heap.size < g2 := by simp at hg1; omega
    have hW2 : W.heap.size < x2.heap.size := by omega
    clear ho2 hb2 f0 f1 f2 HLd1 hg1 HK1 B1 s1
    have HB2 := Lib.hid B2
    clear B2
    go_wp2
    go_loopw [4, 7] (fun l i wr => ∃ (k L : Nat) (A3 : Option Addr) (c3 : Nat), i = .int .i64 ((k : Int) + 1) ∧ l = .slice A3 L c3 ∧ k ≤ m ∧ L ≤ k ∧ Hid (Own wr 3 W.heap.size wr.heap.size A3 L c3 (intsV (natI (stL (rowsTo r ss (n2 + 1)) k)))) ∧ Hid (Off A3 L c3 W.heap.size) ∧ Hid (Off A3 L c3 g2) ∧ Hid (Own wr 9 W.heap.size wr.heap.size (some ⟨g2, 0, none⟩) n2 c2 (strsV (rowsTo r ss n2))) ∧ Hid (wr.cell? ⟨W.heap.size, 0, none⟩ = some (.string nm) ∧ wr.cell? ⟨W.heap.size, 1, none⟩ = some (.int .i64 (m : Int)) ∧ wr.cell? ⟨W.heap.size, 2, none⟩ = some (.slice A n2 c)) ∧ Hid (Below W.heap.size W wr) ∧ W.heap.size < wr.heap.size ∧ g2 < wr.heap.size) (fun _ i _ => m + 1 - (intOf i).toNat)
    case atStart => exact ⟨0, 0, none, 0, rfl, rfl, by omega, by omega, Own.nil _ _ _ _, fun k hk => by simp [Value.ownBlock] at hk, fun k hk => by simp [Value.ownBlock] at hk, HO2.out, HK2.out, HB2.out, hW2, hg3⟩
    case round =>
      obtain ⟨k, L, A3, c3, rfl, rfl, hk, hL, HO, HF, HFg, HOg, HK, HB, hWr, hgr⟩ := hrel
      obtain ⟨f0, f1, f2⟩ := HK.out
      by_cases hlt : k < m
      · have i1 : (k : Int) + 1 ≤ (m : Int) := by omega
        go_wp2_with (at_builtin; refine wpList_append1k wr rfl (.tmp 29) (.tmp 31) 22 rfl 9 (.string ByteArray.empty) 16 Try.underlying22 info_str rfl W.heap.size (some ⟨g2, 0, none⟩) n2 c2 _ (.string t) rfl rfl rfl HOg.out (by omega) (by omega) HB.out.size ?_; intro A5 c5 w5 ho5 hog5 hx5 hsz5)
        have hgne : ∀ a n c, Off a n c g2 → ∀ q, (Value.slice a n c).ownBlock = some q → some q ≠ (Value.slice (some (⟨g2, 0, none⟩ : Addr)) n2 c2).ownBlock := fun a n c h q hq e => by
          simp [Value.ownBlock] at e; exact h q hq e
        obtain ⟨g5, rfl, hg51, hg52, hg53⟩ := ho5.form (by omega)
        have HB5 : Hid (Below W.heap.size W w5) := HB.out.trans (hx5.below (fun q hq => by simp [Value.ownBlock] at hq; omega) HB.out.size)
        have HO5 : Hid (Own w5 3 W.heap.size w5.heap.size A3 L c3 (intsV (natI (stL (rowsTo r ss (n2 + 1)) k)))) := (hx5.own HO.out (hgne _ _ _ HFg.out)).mono (Nat.le_refl _) hx5.size
        have HOg5 : Hid (Own w5 9 W.heap.size w5.heap.size (some ⟨g2, 0, none⟩) n2 c2 (strsV (rowsTo r ss n2))) := hog5.mono (Nat.le_refl _) hx5.size
        have hWne : some W.heap.size ≠ (Value.slice (some (⟨g2, 0, none⟩ : Addr)) n2 c2).ownBlock := fun e => by simp [Value.ownBlock] at e; omega
        have HK5 : Hid (w5.cell? ⟨W.heap.size, 0, none⟩ = some (.string nm) ∧ w5.cell? ⟨W.heap.size, 1, none⟩ = some (.int .i64 (m : Int)) ∧ w5.cell? ⟨W.heap.size, 2, none⟩ = some (.slice A n2 c)) :=
          ⟨(hx5.cell (p := ⟨W.heap.size, 0, none⟩) hWr hWne).trans f0, (hx5.cell (p := ⟨W.heap.size, 1, none⟩) hWr hWne).trans f1, (hx5.cell (p := ⟨W.heap.size, 2, none⟩) hWr hWne).trans f2⟩
        have HR5 : Hid (Rd w5 (some ⟨g5, 0, none⟩) (n2 + 1) (strsV (rowsTo r ss (n2 + 1)))) := by
          unfold Hid; rw [HRs.out, strsV_app, strsV_one]; exact ho5.rd
        have hW5 : W.heap.size < w5.heap.size := by omega
        have hgr5 : g2 < w5.heap.size := by omega
        have HSk := Lib.hid (HS.out k)
        clear ho5 hog5 hx5 hgne hWne f0 f1 f2 HOg HO HK HB hg51 hg52
        go_wp2
        go_loop [8, 34] (fun s i => ∃ (j : Nat) (q : Bool), i = .int .i64 j ∧ s = .bool q ∧ j ≤ n2 + 1 ∧ Hid (q = !((rowsTo r ss j).any (mvB k)))) (fun _ i => n2 + 1 - (intOf i).toNat)
        case atStart => exact ⟨0, true, rfl, rfl, by omega, by simp [Hid, rowsTo]⟩
        case round =>
          obtain ⟨j, q, rfl, rfl, hj, HQ⟩ := hrel
          by_cases hjn : j < n2 + 1
          · obtain ⟨b, off, heq, hgw, hcs⟩ := HR5.out.strD hjn
            injection heq with heq; injection heq with e1 e2; subst e1 e2
            have hcl := hcs j hjn
            rw [getS_rows r ss hjn, Nat.zero_add] at hcl
            have hok := HG.out j (by omega)
            have HAj := HAny.out k j
            obtain ⟨v, hv⟩ : ∃ v, v = rowAt r ss j := ⟨_, rfl⟩
            rw [← hv] at hcl hok HAj
            have hkv : k < v.size := by rw [hok.2]; exact hlt
            have hby := hok.1.byte hkv
            have HA : Hid (∀ W, Calls Try.prog 72 #[.string v, .int .i64 ((k : Int) + 1)] W fun e w' => e = .returned (.int .i64 ((dig v[k] : Nat) + 1)) ∧ W = w') := fun W => l1At_any v _ k W rfl hkv (by rw [hok.2]; exact h8') hby.1
            have hq : mvB k v = decide (dig v[k] ≠ k) := by
              rw [mvB_get hkv]; congr 1; apply propext; unfold dig; omega
            rw [hq] at HAj
            obtain ⟨d, hd⟩ : ∃ d, d = dig v[k] := ⟨_, rfl⟩
            rw [← hd] at HA HAj
            have hd8 : d ≤ 255 := by rw [hd]; unfold dig; have := UInt8.toNat_lt v[k]; omega
            have HAj2 := Lib.hid HAj
            have i2 : (j : Int) < (n2 : Int) + 1 := by omega
            clear hby hq hd hv hok hcs HAj
            cases q with
            | true =>
              by_cases he : d = k
              · have HQ2 : Hid (true = !((rowsTo r ss (j + 1)).any (mvB k))) := by
                  unfold Hid; rw [HAj2.out, Bool.not_or, ← HQ.out]; simp [he]
                have ht : ((d : Int) + 1 == (k : Int) + 1) = true := by simp [he]
                clear he
                go_wp2_with (go_at_call 72; refine (HA.out _).mono ?_; rintro e w' ⟨rfl, rfl⟩)
                go_round
                case rel => exact ⟨j + 1, true, by go_num, rfl, by omega, HQ2.out⟩
                case measure => (simp [intOf] <;> omega)
              · have HQ2 : Hid (false = !((rowsTo r ss (j + 1)).any (mvB k))) := by
                  unfold Hid; rw [HAj2.out, Bool.not_or, ← HQ.out]; simp [he]
                have ht : ((d : Int) + 1 == (k : Int) + 1) = false := by simp; omega
                clear he
                go_wp2_with (go_at_call 72; refine (HA.out _).mono ?_; rintro e w' ⟨rfl, rfl⟩)
                go_round
                case rel => exact ⟨j + 1, false, by go_num, rfl, by omega, HQ2.out⟩
                case measure => (simp [intOf] <;> omega)
            | false =>
              have HQ2 : Hid (false = !((rowsTo r ss (j + 1)).any (mvB k))) := by
                unfold Hid; rw [HAj2.out, Bool.not_or, ← HQ.out]; rfl
              go_wp2
              go_round
              case rel => exact ⟨j + 1, false, by go_num, rfl, by omega, HQ2.out⟩
              case measure => (simp [intOf] <;> omega)
          · have hje : j = n2 + 1 := by omega
            have HQn : Hid (q = !((rowsTo r ss (n2 + 1)).any (mvB k))) := by unfold Hid; rw [← hje]; exact HQ.out
            have i2 : (n2 : Int) + 1 ≤ (j : Int) := by omega
            clear hje HQ
            cases q with
            | true =>
              have HSt : Hid (stL (rowsTo r ss (n2 + 1)) (k + 1) = stL (rowsTo r ss (n2 + 1)) k ++ [k + 1]) := by
                unfold Hid; rw [HSk.out]
                have := HQn.out
                cases hx : (rowsTo r ss (n2 + 1)).any (mvB k) with
                | true => rw [hx] at this; cases this
                | false => simp
              go_wp2_with (at_builtin; refine wpList_append1x w5 rfl (.tmp 48) (.tmp 50) 42 rfl 3 (.int .i64 0) 8 Try.underlying42 info_int rfl W.heap.size A3 L c3 _ (.int .i64 ((k : Int) + 1)) rfl rfl rfl HO5.out (by omega) (by omega) HB5.out.size ?_; intro A4 c4 w4 ho4 hx4 hsz4 hat4)
              have HO4 : Hid (Own w4 3 W.heap.size w4.heap.size A4 (L + 1) c4 (intsV (natI (stL (rowsTo r ss (n2 + 1)) (k + 1))))) := by
                refine ho4.congr ?_
                rw [HSt.out, natI_app, intsV_app]; rfl
              have HB4 : Hid (Below W.heap.size W w4) := HB5.out.trans (HO5.out.below_ hx4 HB5.out.size)
              have HF4 : Hid (Off A4 (L + 1) c4 W.heap.size) := HF.out.next hW5 hat4
              have HFg4 : Hid (Off A4 (L + 1) c4 g2) := HFg.out.next hgr5 hat4
              have HOg4 : Hid (Own w4 9 W.heap.size w4.heap.size (some ⟨g2, 0, none⟩) n2 c2 (strsV (rowsTo r ss n2))) := (hx4.own HOg5.out fun q hq e => by simp [Value.ownBlock] at hq; subst hq; exact HFg.out _ e.symm rfl).mono (Nat.le_refl _) hx4.size
              have HK4 : Hid (w4.cell? ⟨W.heap.size, 0, none⟩ = some (.string nm) ∧ w4.cell? ⟨W.heap.size, 1, none⟩ = some (.int .i64 (m : Int)) ∧ w4.cell? ⟨W.heap.size, 2, none⟩ = some (.slice A n2 c)) :=
                ⟨(hx4.cell (p := ⟨W.heap.size, 0, none⟩) hW5 HF.out.ne).trans HK5.out.1, (hx4.cell (p := ⟨W.heap.size, 1, none⟩) hW5 HF.out.ne).trans HK5.out.2.1, (hx4.cell (p := ⟨W.heap.size, 2, none⟩) hW5 HF.out.ne).trans HK5.out.2.2⟩
              have hW4 : W.heap.size < w4.heap.size := by omega
              have hg4 : g2 < w4.heap.size := by omega
              clear ho4 hx4 hat4
              go_roundw
              case rel => exact ⟨k + 1, L + 1, A4, c4, by go_num, rfl, by omega, by omega, HO4.out, HF4.out, HFg4.out, HOg4.out, HK4.out, HB4.out, hW4, hg4⟩
              case measure => (simp [intOf] <;> omega)
            | false =>
              have HSt : Hid (stL (rowsTo r ss (n2 + 1)) (k + 1) = stL (rowsTo r ss (n2 + 1)) k) := by
                unfold Hid; rw [HSk.out]
                have := HQn.out
                cases hx : (rowsTo r ss (n2 + 1)).any (mvB k) with
                | true => simp
                | false => rw [hx] at this; cases this
              go_wp2
              go_roundw
              case rel => exact ⟨k + 1, L, A3, c3, by go_num, rfl, by omega, by omega, by unfold Hid; rw [HSt.out]; exact HO5.out, HF.out, HFg.out, HOg5.out, HK5.out, HB5.out, hW5, hgr5⟩
              case measure => (simp [intOf] <;> omega)
      · obtain rfl : k = m := by omega
        have i1 : (k : Int) < (k : Int) + 1 := by omega
        go_wp2
        go_ret2
        refine ⟨_, _, _, ret_slb (show ok_StillBells nm (k : Int) ss = true from Hb.out.symm), ?_, HB.out⟩
        rw [E1.out Hb.out.symm]; exact HO.out
end Go.Proofs.Ytbmabfgnmafooaa
