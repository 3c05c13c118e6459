/- The walks of the path of a bell through a lead. -/
import Derived.Test.YtbmabfgnmafooaaWalkHd
import Derived.Test.YtbmabfgnmafooaaWalkPl
import Derived.Test.YtbmabfgnmafooaaWalkI
import Derived.Test.YtbmabfgnmafooaaKit5
namespace Go.Proofs.Ytbmabfgnmafooaa
open Go.RowKit
set_option linter.unusedVariables false

noncomputable def rnd (st : Int) : ByteArray := mkS (roundsL st.toNat)
noncomputable def plS (ss : List ByteArray) (B : Nat) : List Nat := ss.map fun r => bpl (bs r) B
noncomputable def pathL (st : Int) (ss : List ByteArray) (B : Nat) : List Nat := plS (rowsTo (rnd st) ss (ss.length + 1)) B
theorem rowsTo_len (r : ByteArray) (cs : List ByteArray) (k : Nat) : (rowsTo r cs k).length = k := by simp [rowsTo]
theorem pathL_len (st : Int) (ss : List ByteArray) (B : Nat) : (pathL st ss B).length = ss.length + 1 := by simp [pathL, plS, rowsTo_len]
theorem plS_succ (r : ByteArray) (cs : List ByteArray) (B k : Nat) : plS (rowsTo r cs (k + 1)) B = plS (rowsTo r cs k) B ++ [bpl (bs (rowAt r cs k)) B] := by
  unfold plS; rw [rowsTo_succ, List.map_append]; rfl
theorem getS_rows (r : ByteArray) (cs : List ByteArray) {k n : Nat} (h : k < n) : getS (rowsTo r cs n) k = rowAt r cs k := by
  unfold getS rowsTo; rw [List.getD_eq_getElem?_getD, List.getElem?_map, List.getElem?_range h]; rfl
theorem natI_one (k : Nat) : natI [k] = [(k : Int)] := rfl
theorem rnd_ok {m : Nat} (h3 : 3 ≤ m) (h8 : m ≤ 8) : IsRow (bs (rnd (m : Int))) ∧ (rnd (m : Int)).size = m := by
  unfold rnd; rw [bs_mkS, size_mkS, roundsL_length, Int.toNat_natCast]; exact ⟨isRow_rounds h3 h8, rfl⟩
set_option maxRecDepth 100000 in
set_option maxHeartbeats 2000000 in
theorem pathOf_any (nm : ByteArray) (st : Int) (A : Option Addr) (n c : Nat) (ss : List ByteArray) (B : Nat) (W : World) (hm : methB nm st ss = true) (hr : Rd W A n (strsV ss)) (hB1 : 1 ≤ B) (hB2 : (B : Int) ≤ st) :
    Calls Try.prog 77 #[.agg #[.string nm, .int .i64 st, .slice A n c], .int .i64 (B : Int)] W (RetS 3 (intsV (natI (pathL st ss B))) W) := by
  obtain ⟨h1, h40, h3, h8, hch⟩ := meth_ok hm
  have hl := hr.slen
  obtain ⟨m, rfl⟩ : ∃ m : Nat, st = (m : Int) := ⟨st.toNat, by omega⟩
  obtain ⟨hrow, hrs⟩ := rnd_ok (m := m) (by omega) (by omega)
  obtain ⟨r, hrr⟩ : ∃ r, r = rnd (m : Int) := ⟨_, rfl⟩
  rw [← hrr] at hrow hrs
  have HRo : Hid (∀ W, Calls Try.prog 75 #[.int .i64 (m : Int)] W fun e w' => e = .returned (.string r) ∧ W = w') := fun W => by
    have := rounds_any (m : Int) W (by omega) h8
    rwa [show mkS (roundsL (m : Int).toNat) = rnd (m : Int) from rfl, ← hrr] at this
  obtain ⟨N, hN⟩ : ∃ N, N = n + 1 := ⟨_, rfl⟩
  have E : Hid (pathL (m : Int) ss B = plS (rowsTo r ss N) B) := by unfold Hid pathL; rw [← hrr, hl, hN]
  have HL : Hid (∀ W', Below W.heap.size W W' → Calls Try.prog 74 #[.string r, .slice A n c] W' (RetS 9 (strsV (rowsTo r ss N)) W')) := fun W' h => by rw [hN]; exact rowsUnder_any A n c ss r W' (by omega) (hr.below h) hrow (fun s hs => by rw [hrs]; exact hch s hs)
  have HK : Hid (∀ k, k < N → IsRow (bs (rowAt r ss k)) ∧ (rowAt r ss k).size = m) := fun k hk => by
    have := rowAt_ok (cs := ss) hrow (fun s hs => by rw [hrs]; exact hch s hs) k (by omega)
    rwa [hrs] at this
  have hBm : B ≤ m := by omega
  have hN1 : 1 ≤ N ∧ N ≤ 41 := by omega
  obtain ⟨hN1, hN41⟩ := hN1
  clear hN
  obtain ⟨B0, hB0⟩ : ∃ B, B = W.alloc (.cells #[.string nm, .int .i64 (m : Int), .slice A n c] 27) := ⟨_, rfl⟩
  have hbox := box3 W 27 (.string nm) (.int .i64 (m : Int)) (.slice A n c)
  rw [← hB0] at hbox
  have hbB : Below W.heap.size W B0 := by rw [hB0]; exact below_alloc _ _
  have hsB : B0.heap.size = W.heap.size + 1 := by rw [hB0]; simp
  have HO0 := own_empty B0 3
  obtain ⟨B1, hB1'⟩ : ∃ x, x = B0.alloc (.cells #[] 3) := ⟨_, rfl⟩
  rw [← hB1'] at HO0
  have hb01 : Below B0.heap.size B0 B1 := by rw [hB1']; exact below_alloc _ _
  have hsB1 : B1.heap.size = W.heap.size + 1 + 1 := by rw [hB1']; simp; omega
  have hbox1 := keep3 hb01 (by omega) hbox
  have Hbox := Lib.hid hbox1
  have HO := Lib.hid HO0
  have hb1 : Below W.heap.size W B1 := hbB.trans (hb01.mono (by omega))
  clear hrr hrow hch hm hr h1 hbox HO0 hb01 hbB
  go_enter Try.func77, Try.ntmps77
  go_wp2
  rw [← hB0, ← hB1']
  obtain ⟨f0, f1, f2⟩ := hbox1
  rw [hsB] at HO
  clear hB0 hB1'
  have HL2 := Lib.hid (HL.out B1.drew hb1.drew)
  go_region_held3 (fun w' => w'.cell? ⟨W.heap.size, 1, none⟩ = some (.int .i64 (m : Int)) ∧ w'.cell? ⟨W.heap.size, 2, none⟩ = some (.slice A n c))
    (first | go_keep | exact Hbox.out.2 | (exact (keep3 hb2 (by simp; omega) ⟨f0, f1, f2⟩).2))
    (first | (go_at_call 75; refine (HRo.out _).mono ?_; rintro e w' ⟨rfl, rfl⟩) | (go_at_call 74; refine HL2.out.mono ?_; rintro e x2 ⟨A2, n2, c2, rfl, ho2, hb2⟩))
  have HB2 : Hid (Below W.heap.size W x2) := hb1.drew.trans (hb2.mono hb1.drew.size)
  have hn2 : n2 = N := by have := ho2.rd.slen; rw [rowsTo_len] at this; exact this.symm
  subst hn2
  obtain ⟨g2, rfl, hg1, hg2, hg3⟩ := ho2.form (by omega)
  have hg1' : W.heap.size + 1 + 1 ≤ g2 := by simp at hg1; omega
  have HO2 : Hid (Own x2 3 W.heap.size x2.heap.size (some ⟨W.heap.size + 1, 0, none⟩) 0 0 []) := ((show Own B1.drew 3 (W.heap.size + 1) B1.heap.size (some ⟨W.heap.size + 1, 0, none⟩) 0 0 [] from HO.out).below hb2).mono (by omega) hb2.size
  have HR2 := Lib.hid ho2.rd
  have HOff : Hid (Off (some ⟨W.heap.size + 1, 0, none⟩) 0 0 g2) := fun k hk => by simp [Value.ownBlock] at hk; omega
  clear ho2 hb2 hb1 Hbox f0 f1 f2 HL2 hsB hsB1 hg1 hg1'
  go_wp2
  go_loopw [5, 16] (fun l i wr => ∃ (k : Nat) (A3 : Option Addr) (c3 : Nat), i = .int .i64 k ∧ l = .slice A3 k c3 ∧ k ≤ n2 ∧ Hid (Own wr 3 W.heap.size wr.heap.size A3 k c3 (intsV (natI (plS (rowsTo r ss k) B)))) ∧ Hid (Off A3 k c3 g2) ∧ Hid (Rd wr (some ⟨g2, 0, none⟩) n2 (strsV (rowsTo r ss n2))) ∧ Hid (Below W.heap.size W wr)) (fun _ i _ => n2 - (intOf i).toNat)
  case atStart => exact ⟨0, _, _, rfl, rfl, by omega, HO2.out, HOff.out, HR2.out, HB2.out⟩
  case round =>
    obtain ⟨k, A3, c3, rfl, rfl, hk, HO3, HF, HR, HB⟩ := hrel
    by_cases hlt : k < n2
    · obtain ⟨b, off, heq, hgw, hcs⟩ := HR.out.strD hlt
      injection heq with heq; injection heq with e1 e2; subst e1 e2
      have hcl := hcs k hlt
      rw [getS_rows r ss hlt, Nat.zero_add] at hcl
      have hok := HK.out k (by omega)
      have HS : Hid (plS (rowsTo r ss (k + 1)) B = plS (rowsTo r ss k) B ++ [bpl (bs (rowAt r ss k)) B]) := plS_succ r ss B k
      obtain ⟨t, ht⟩ : ∃ t, t = rowAt r ss k := ⟨_, rfl⟩
      rw [← ht] at hcl hok HS
      have HPl : Hid (∀ W, Calls Try.prog 96 #[.string t, .int .i64 (B : Int)] W fun e w' => e = .returned (.int .i64 (bpl (bs t) B : Int)) ∧ W = w') := fun W => placeOf_any t B W hok.1 hB1 (by rw [hok.2]; exact hBm)
      obtain ⟨p, hp⟩ : ∃ p, p = bpl (bs t) B := ⟨_, rfl⟩
      rw [← hp] at HPl HS
      have i1 : (k : Int) < (n2 : Int) := by omega
      clear ht hp hok hcs
      go_wp2_with first
        | (go_at_call 96; refine (HPl.out _).mono ?_; rintro e w' ⟨rfl, rfl⟩)
        | (at_builtin; refine wpList_append1x wr rfl (.tmp 20) (.tmp 24) 42 rfl 3 (.int .i64 0) 8 Try.underlying42 info_int rfl W.heap.size A3 k c3 _ (.int .i64 (p : Int)) rfl rfl rfl HO3.out (by omega) (by omega) HB.out.size ?_; intro A4 c4 w4 ho4 hx4 hsz4 hat4)
      have HO4 : Hid (Own w4 3 W.heap.size w4.heap.size A4 (k + 1) c4 (intsV (natI (plS (rowsTo r ss (k + 1)) B)))) := by
        refine ho4.congr ?_
        rw [HS.out, natI_app, intsV_app, natI_one, intsV_one]
      have HB4 : Hid (Below W.heap.size W w4) := HB.out.trans (HO3.out.below_ hx4 HB.out.size)
      have HR4 : Hid (Rd w4 (some ⟨g2, 0, none⟩) n2 (strsV (rowsTo r ss n2))) := hx4.rd HR.out HF.out.ne
      have HF4 : Hid (Off A4 (k + 1) c4 g2) := HF.out.next hgw hat4
      go_roundw
      case rel => exact ⟨k + 1, A4, c4, by go_num, rfl, by omega, HO4.out, HF4.out, HR4.out, HB4.out⟩
      case measure => (simp [intOf] <;> omega)
    · obtain rfl : k = n2 := by omega
      go_wp2
      go_ret
      refine ⟨_, _, _, rfl, ?_, HB.out⟩
      rw [E.out]; exact HO3.out
set_option maxRecDepth 100000 in
set_option maxHeartbeats 2000000 in
theorem l5Path_any (nm : ByteArray) (st : Int) (A : Option Addr) (n c : Nat) (ss : List ByteArray) (B : Nat) (W : World) (hm : methB nm st ss = true) (hr : Rd W A n (strsV ss)) (hB1 : 1 ≤ B) (hB2 : (B : Int) ≤ st) :
    Calls Try.prog 62 #[.agg #[.string nm, .int .i64 st, .slice A n c], .int .i64 (B : Int)] W (RetS 3 (intsV (natI (pathL st ss B))) W) := by
  obtain ⟨h1, h40, h3, h8, hch⟩ := meth_ok hm
  have hl := hr.slen
  obtain ⟨m, rfl⟩ : ∃ m : Nat, st = (m : Int) := ⟨st.toNat, by omega⟩
  obtain ⟨hrow, hrs⟩ := rnd_ok (m := m) (by omega) (by omega)
  obtain ⟨r, hrr⟩ : ∃ r, r = rnd (m : Int) := ⟨_, rfl⟩
  rw [← hrr] at hrow hrs
  have HRo : Hid (∀ W, Calls Try.prog 71 #[.int .i64 (m : Int)] W fun e w' => e = .returned (.string r) ∧ W = w') := fun W => by
    have := l1Rounds_any (m : Int) W (by omega) h8
    rwa [show mkS (roundsL (m : Int).toNat) = rnd (m : Int) from rfl, ← hrr] at this
  have E : Hid (pathL (m : Int) ss B = plS (rowsTo r ss n) B ++ [bpl (bs (rowAt r ss n)) B]) := by unfold Hid pathL; rw [← hrr, hl, plS_succ]
  have HL : Hid (∀ W', Below W.heap.size W W' → Calls Try.prog 70 #[.slice A n c, .string r] W' (RetST 9 (strsV (rowsTo r ss n)) (rowAt r ss n) W')) := fun W' h => l4Lead_any A n c ss r W' (by omega) (hr.below h) hrow (fun s hs => by rw [hrs]; exact hch s hs)
  have HK : Hid (∀ k, k ≤ n → IsRow (bs (rowAt r ss k)) ∧ (rowAt r ss k).size = m) := fun k hk => by
    have := rowAt_ok (cs := ss) hrow (fun s hs => by rw [hrs]; exact hch s hs) k (by omega)
    rwa [hrs] at this
  have hBm : B ≤ m := by omega
  have h1n : 1 ≤ n := by omega
  obtain ⟨B0, hB0⟩ : ∃ B, B = W.alloc (.cells #[.string nm, .int .i64 (m : Int), .slice A n c] 27) := ⟨_, rfl⟩
  have hbox := box3 W 27 (.string nm) (.int .i64 (m : Int)) (.slice A n c)
  rw [← hB0] at hbox
  have Hbox := Lib.hid hbox
  have hbB : Below W.heap.size W B0 := by rw [hB0]; exact below_alloc _ _
  have hsB : W.heap.size < B0.heap.size := by rw [hB0]; simp
  have hokn := HK.out n (Nat.le_refl _)
  obtain ⟨tn, htn⟩ : ∃ t, t = rowAt r ss n := ⟨_, rfl⟩
  rw [← htn] at HL E hokn
  have HPn : Hid (∀ W, Calls Try.prog 89 #[.string tn, .int .i64 (B : Int)] W fun e w' => e = .returned (.int .i64 (bpl (bs tn) B : Int)) ∧ W = w') := fun W => l5Place_any tn B W hokn.1 hB1 (by rw [hokn.2]; exact hBm)
  obtain ⟨pn, hpn⟩ : ∃ p, p = bpl (bs tn) B := ⟨_, rfl⟩
  rw [← hpn] at HPn E
  clear hrr hrow hch hm hr h1 htn hpn hokn
  go_enter Try.func62, Try.ntmps62
  go_wp2
  rw [← hB0]
  obtain ⟨f0, f1, f2⟩ := hbox
  clear hB0
  have HL2 := Lib.hid (HL.out B0.drew hbB.drew)
  go_region_held3 (fun w' => w'.cell? ⟨W.heap.size, 1, none⟩ = some (.int .i64 (m : Int)) ∧ w'.cell? ⟨W.heap.size, 2, none⟩ = some (.slice A n c))
    (first | go_keep | exact Hbox.out.2 | (exact (keep3 hb2 (by simpa using hsB) ⟨f0, f1, f2⟩).2))
    (first | (go_at_call 71; refine (HRo.out _).mono ?_; rintro e w' ⟨rfl, rfl⟩) | (go_at_call 70; refine HL2.out.mono ?_; rintro e x2 ⟨A2, n2, c2, rfl, ho2, hb2⟩))
  have HB2 : Hid (Below W.heap.size W x2) := hbB.drew.trans (hb2.mono hbB.drew.size)
  have hn2 : n2 = n := by have := ho2.rd.slen; rw [rowsTo_len] at this; exact this.symm
  subst hn2
  obtain ⟨g2, rfl, hg1, hg2, hg3⟩ := ho2.form (by omega)
  have HR2 := Lib.hid ho2.rd
  clear ho2 hb2 hbB Hbox f0 f1 f2 HL2 hsB hg1
  go_wp2
  go_loopw [7, 21] (fun l i wr => ∃ (k : Nat) (A3 : Option Addr) (c3 : Nat), i = .int .i64 k ∧ l = .slice A3 k c3 ∧ k ≤ n2 ∧ Hid (Own wr 3 W.heap.size wr.heap.size A3 k c3 (intsV (natI (plS (rowsTo r ss k) B)))) ∧ Hid (Off A3 k c3 g2) ∧ Hid (Rd wr (some ⟨g2, 0, none⟩) n2 (strsV (rowsTo r ss n2))) ∧ Hid (Below W.heap.size W wr)) (fun _ i _ => n2 - (intOf i).toNat)
  case atStart => exact ⟨0, none, 0, rfl, rfl, by omega, Own.nil _ _ _ _, fun k hk => by simp [Value.ownBlock] at hk, HR2.out, HB2.out⟩
  case round =>
    obtain ⟨k, A3, c3, rfl, rfl, hk, HO3, HF, HR, HB⟩ := hrel
    by_cases hlt : k < n2
    · obtain ⟨b, off, heq, hgw, hcs⟩ := HR.out.strD hlt
      injection heq with heq; injection heq with e1 e2; subst e1 e2
      have hcl := hcs k hlt
      rw [getS_rows r ss hlt, Nat.zero_add] at hcl
      have hok := HK.out k (by omega)
      have HS : Hid (plS (rowsTo r ss (k + 1)) B = plS (rowsTo r ss k) B ++ [bpl (bs (rowAt r ss k)) B]) := plS_succ r ss B k
      obtain ⟨t, ht⟩ : ∃ t, t = rowAt r ss k := ⟨_, rfl⟩
      rw [← ht] at hcl hok HS
      have HPl : Hid (∀ W, Calls Try.prog 89 #[.string t, .int .i64 (B : Int)] W fun e w' => e = .returned (.int .i64 (bpl (bs t) B : Int)) ∧ W = w') := fun W => l5Place_any t B W hok.1 hB1 (by rw [hok.2]; exact hBm)
      obtain ⟨p, hp⟩ : ∃ p, p = bpl (bs t) B := ⟨_, rfl⟩
      rw [← hp] at HPl HS
      have i1 : (k : Int) < (n2 : Int) := by omega
      clear ht hp hok hcs
      go_wp2_with first
        | (go_at_call 89; refine (HPl.out _).mono ?_; rintro e w' ⟨rfl, rfl⟩)
        | (at_builtin; refine wpList_append1x wr rfl (.tmp 25) (.tmp 29) 42 rfl 3 (.int .i64 0) 8 Try.underlying42 info_int rfl W.heap.size A3 k c3 _ (.int .i64 (p : Int)) rfl rfl rfl HO3.out (by omega) (by omega) HB.out.size ?_; intro A4 c4 w4 ho4 hx4 hsz4 hat4)
      have HO4 : Hid (Own w4 3 W.heap.size w4.heap.size A4 (k + 1) c4 (intsV (natI (plS (rowsTo r ss (k + 1)) B)))) := by
        refine ho4.congr ?_
        rw [HS.out, natI_app, intsV_app, natI_one, intsV_one]
      have HB4 : Hid (Below W.heap.size W w4) := HB.out.trans (HO3.out.below_ hx4 HB.out.size)
      have HR4 : Hid (Rd w4 (some ⟨g2, 0, none⟩) n2 (strsV (rowsTo r ss n2))) := hx4.rd HR.out HF.out.ne
      have HF4 : Hid (Off A4 (k + 1) c4 g2) := HF.out.next hgw hat4
      go_roundw
      case rel => exact ⟨k + 1, A4, c4, by go_num, rfl, by omega, HO4.out, HF4.out, HR4.out, HB4.out⟩
      case measure => (simp [intOf] <;> omega)
    · obtain rfl : k = n2 := by omega
      go_wp2_with first
        | (go_at_call 89; refine (HPn.out _).mono ?_; rintro e w' ⟨rfl, rfl⟩)
        | (at_builtin; refine wpList_append1x wr rfl (.tmp 32) (.tmp 36) 42 rfl 3 (.int .i64 0) 8 Try.underlying42 info_int rfl W.heap.size A3 k c3 _ (.int .i64 (pn : Int)) rfl rfl rfl HO3.out (by omega) (by omega) HB.out.size ?_; intro A4 c4 w4 ho4 hx4 hsz4 hat4)
      have HB4 : Hid (Below W.heap.size W w4) := HB.out.trans (HO3.out.below_ hx4 HB.out.size)
      go_ret
      refine ⟨_, _, _, rfl, ?_, HB4.out⟩
      rw [E.out]
      refine ho4.congr ?_
      rw [natI_app, intsV_app, natI_one, intsV_one]
end Go.Proofs.Ytbmabfgnmafooaa
