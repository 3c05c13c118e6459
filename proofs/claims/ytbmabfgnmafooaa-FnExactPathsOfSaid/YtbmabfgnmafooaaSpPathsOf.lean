/- PathsOf, of the reference and of the program: what each returns. -/
import Derived.Test.YtbmabfgnmafooaaWalkPa
import Derived.Test.YtbmabfgnmafooaaNest
namespace Go.Proofs.Ytbmabfgnmafooaa
open Go.RowKit
set_option linter.unusedVariables false

noncomputable def psS (st : Int) (ss : List ByteArray) (k : Nat) : List (List Int) := (List.range k).map fun i => natI (pathL st ss (i + 1))
theorem psS_succ (st : Int) (ss : List ByteArray) (k : Nat) : psS st ss (k + 1) = psS st ss k ++ [natI (pathL st ss (k + 1))] := by simp [psS, List.range_succ]
noncomputable def ok_PathsOf (nm : ByteArray) (st : Int) (ss : List ByteArray) : Bool := methB nm st ss
noncomputable def out_PathsOf (nm : ByteArray) (st : Int) (ss : List ByteArray) : List (List Int) := if methB nm st ss = true then psS st ss st.toNat else []
theorem tot_app : ∀ (a b : List (List Int)), tot (a ++ b) = tot a + tot b
  | [], b => by simp [tot]
  | z :: t, b => by simp only [List.cons_append, tot, tot_app t b]; omega
theorem psS_tot (st : Int) (ss : List ByteArray) : ∀ k, tot (psS st ss k) = k * (ss.length + 1)
  | 0 => by simp [psS, tot]
  | k + 1 => by rw [psS_succ, tot_app, psS_tot st ss k, Nat.succ_mul]; simp only [tot]; rw [natI_len, pathL_len]
theorem len_PathsOf (nm : ByteArray) (st : Int) (ss : List ByteArray) (hl : ss.length ≤ 1048576) : tot (out_PathsOf nm st ss) ≤ 4194304 := by
  unfold out_PathsOf
  split
  · rename_i h
    have hm := meth_ok h
    rw [psS_tot]
    have := Nat.mul_le_mul (show st.toNat ≤ 8 by omega) (show ss.length + 1 ≤ 41 by omega); omega
  · simp [tot]
theorem info_ints : (Try.prog.info? 42).map (fun i => (i.zero, i.size, i.bytes)) = some (some (.slice none 0 0), 1, 24) := by kernel_rfl
theorem keep3z {x y : World} {g : Nat} {A : Option Addr} {n c : Nat} {v0 v1 v2 : Value} (hw : Wx (Value.slice A n c).ownBlock x y) (hg : g < x.heap.size) (ho : Off A n c g) (h : x.cell? ⟨g, 0, none⟩ = some v0 ∧ x.cell? ⟨g, 1, none⟩ = some v1 ∧ x.cell? ⟨g, 2, none⟩ = some v2) :
    y.cell? ⟨g, 0, none⟩ = some v0 ∧ y.cell? ⟨g, 1, none⟩ = some v1 ∧ y.cell? ⟨g, 2, none⟩ = some v2 :=
  ⟨(hw.cell (p := ⟨g, 0, none⟩) hg ho.ne).trans h.1, (hw.cell (p := ⟨g, 1, none⟩) hg ho.ne).trans h.2.1, (hw.cell (p := ⟨g, 2, none⟩) hg ho.ne).trans h.2.2⟩
set_option maxRecDepth 100000 in
set_option maxHeartbeats 2000000 in
theorem im_PathsOf (nm : ByteArray) (st : Int) (A : Option Addr) (n c : Nat) (ss : List ByteArray) (W : World) (hs : nm.size ≤ 1048576) (hw : (Lit.int .i64 st).wf = true) (hnc : n ≤ c) (hr : Rd W A n (strsV ss)) (hz : ∀ s ∈ ss, s.size ≤ 1048576) (hl : ss.length ≤ 1048576) :
    Calls Try.prog 44 #[.agg #[.string nm, .int .i64 st, .slice A n c]] W (RetRB (out_PathsOf nm st ss) (ok_PathsOf nm st ss) W) := by
  obtain ⟨b, hb⟩ : ∃ b, b = methB nm st ss := ⟨_, rfl⟩
  have HC : Hid (∀ W', Below W.heap.size W W' → Calls Try.prog 55 #[.agg #[.string nm, .int .i64 st, .slice A n c]] W' fun e w' => e = .returned (.bool b) ∧ Below W'.heap.size W' w') := fun W' h => by rw [hb]; exact GoodMethod_any nm st A n c ss W' (by omega) (hr.below h) (fun s hs => by have := hz s hs; omega)
  have Hbox := Lib.hid (box3 W 27 (.string nm) (.int .i64 st) (.slice A n c))
  have HR := Lib.hid hr
  have Hb := Lib.hid hb
  have E1 : Hid (methB nm st ss = true → out_PathsOf nm st ss = psS st ss st.toNat) := fun h => by unfold out_PathsOf; rw [if_pos h]
  have E0 : Hid (methB nm st ss = false → out_PathsOf nm st ss = []) := fun h => by unfold out_PathsOf; rw [h]; simp
  clear hb hr hz
  cases b with
  | false =>
    go_enter Try.func44, Try.ntmps44
    go_wp2_with fail
    refine (HC.out _ (below_alloc _ _)).mono ?_
    rintro e x1 ⟨rfl, hb1⟩
    have B1 : Below W.heap.size W x1 := (below_alloc W _).trans (hb1.mono (by simp))
    clear hb1
    go_wp2
    go_ret2
    refine ⟨none, 0, 0, [], ret_slb (show ok_PathsOf nm st ss = false from Hb.out.symm), ?_, B1⟩
    rw [E0.out Hb.out.symm]; exact OwnR.of_own (Own.nil _ _ _ _)
  | true =>
    have hm : methB nm st ss = true := Hb.out.symm
    obtain ⟨h1, h40, h3, h8, hch⟩ := meth_ok hm
    obtain ⟨m, rfl⟩ : ∃ m : Nat, st = (m : Int) := ⟨st.toNat, by omega⟩
    rw [Int.toNat_natCast] at E1
    have h8' : m ≤ 8 := by omega
    have HPa : Hid (∀ W' y, 1 ≤ y → y ≤ m → Below W.heap.size W W' → Calls Try.prog 77 #[.agg #[.string nm, .int .i64 (m : Int), .slice A n c], .int .i64 ((y : Nat) : Int)] W' (RetS 3 (intsV (natI (pathL (m : Int) ss y))) W')) := fun W' y h1 h2 h => pathOf_any nm (m : Int) A n c ss y W' hm (HR.out.below h) h1 (by omega)
    clear hm hch h1 h40 h8
    go_enter Try.func44, Try.ntmps44
    go_wp2_with fail
    obtain ⟨B0, hB0⟩ : ∃ B, B = W.alloc (.cells #[.string nm, .int .i64 (m : Int), .slice A n c] 27) := ⟨_, rfl⟩
    rw [← hB0]
    have hbB : Below W.heap.size W B0 := by rw [hB0]; exact below_alloc _ _
    have hsB : W.heap.size < B0.heap.size := by rw [hB0]; simp
    have hcB := Hbox.out
    rw [← hB0] at hcB
    refine (HC.out _ hbB).mono ?_
    rintro e x1 ⟨rfl, hb1⟩
    have B1 : Below W.heap.size W x1 := hbB.trans (hb1.mono hbB.size)
    have KK := keep3 hb1 hsB hcB
    have s1 : W.heap.size < x1.heap.size := Nat.lt_of_lt_of_le hsB hb1.size
    clear hcB hB0 hb1 hbB hsB
    have HO2 : Hid (OwnR (x1.alloc (.cells #[] 42)) W.heap.size (x1.alloc (.cells #[] 42)).heap.size (some ⟨x1.heap.size, 0, none⟩) 0 0 [] []) := OwnR.of_own ((own_empty x1 42).mono B1.size (Nat.le_refl _))
    have HB2 : Hid (Below W.heap.size W (x1.alloc (.cells #[] 42))) := B1.trans ((below_alloc x1 _).mono B1.size)
    have HK2 : Hid _ := keep3 (below_alloc x1 (.cells #[] 42)) s1 KK
    have hWg : W.heap.size < (x1.alloc (.cells #[] 42)).heap.size := by simp; omega
    have HFW : Hid (Off (some ⟨x1.heap.size, 0, none⟩) 0 0 W.heap.size) := fun k hk => by simp [Value.ownBlock] at hk; omega
    clear KK s1 B1
    go_wp2
    go_loopw [4, 5] (fun l i wr => ∃ (k : Nat) (A3 : Option Addr) (c3 : Nat) (rs : List Row), i = .int .i64 ((k : Int) + 1) ∧ l = .slice A3 k c3 ∧ k ≤ m ∧ Hid (OwnR wr W.heap.size wr.heap.size A3 k c3 rs (psS (m : Int) ss k)) ∧ Hid (Off A3 k c3 W.heap.size) ∧ Hid (wr.cell? ⟨W.heap.size, 0, none⟩ = some (.string nm) ∧ wr.cell? ⟨W.heap.size, 1, none⟩ = some (.int .i64 (m : Int)) ∧ wr.cell? ⟨W.heap.size, 2, none⟩ = some (.slice A n c)) ∧ Hid (Below W.heap.size W wr) ∧ W.heap.size < wr.heap.size) (fun _ i _ => m + 1 - (intOf i).toNat)
    case atStart => exact ⟨0, _, _, [], rfl, rfl, by omega, HO2.out, HFW.out, HK2.out, HB2.out, hWg⟩
    case round =>
      obtain ⟨k, A3, c3, rs, rfl, rfl, hk, HO3, HF, HK3, HB, hWr⟩ := hrel
      by_cases hlt : k < m
      · have HPy : Hid (∀ W', Below W.heap.size W W' → Calls Try.prog 77 #[.agg #[.string nm, .int .i64 (m : Int), .slice A n c], .int .i64 ((k : Int) + 1)] W' (RetS 3 (intsV (natI (pathL (m : Int) ss (k + 1)))) W')) := fun W' h => HPa.out W' (k + 1) (by omega) (by omega) h
        have HS := Lib.hid (psS_succ (m : Int) ss k)
        obtain ⟨p, hp⟩ : ∃ p, p = natI (pathL (m : Int) ss (k + 1)) := ⟨_, rfl⟩
        rw [← hp] at HPy HS
        have i1 : (k : Int) + 1 ≤ (m : Int) := by omega
        obtain ⟨f0, f1, f2⟩ := HK3.out
        clear hp
        go_wp2_with first
          | (go_at_call 77; refine (HPy.out _ HB.out).mono ?_; rintro e x5 ⟨A5, n5, c5, rfl, ho5, hb5⟩)
          | (at_builtin; refine wpList_append1x x5 rfl (.tmp 16) (.tmp 20) 48 rfl 42 (.slice none 0 0) 24 Try.underlying48 info_ints rfl W.heap.size A3 k c3 _ (.slice A5 n5 c5) rfl rfl rfl ((HO3.out.o.below hb5).mono (Nat.le_refl _) hb5.size) (by omega) (by omega) (Nat.le_trans HB.out.size hb5.size) ?_; intro A4 c4 x4 ho4 hx4 hsz4 hat4)
        have s5 : wr.heap.size ≤ x5.heap.size := hb5.size
        have HO5 : OwnR x5 W.heap.size x5.heap.size A3 k c3 rs (psS (m : Int) ss k) := (HO3.out.below hb5).mono (Nat.le_refl _) hb5.size
        have HO4 : Hid (OwnR x4 W.heap.size x4.heap.size A4 (k + 1) c4 (rs ++ [(A5, n5, c5)]) (psS (m : Int) ss (k + 1))) := by
          unfold Hid; rw [HS.out]
          exact HO5.push (r := (A5, n5, c5)) (l2 := wr.heap.size) ho5 HB.out.size (fun i s g a b => (HO3.out.rowlt i s g a b).2.1) (fun g hg => (HO3.out.o.lt g hg).2.1) ho4 hx4 hat4
        have HB5 : Below W.heap.size W x5 := HB.out.trans (hb5.mono HB.out.size)
        have HB4 : Hid (Below W.heap.size W x4) := HB5.trans (HO5.o.below_ hx4 HB5.size)
        have HF4 : Hid (Off A4 (k + 1) c4 W.heap.size) := HF.out.next (by omega) hat4
        have HK4 : Hid _ := keep3z hx4 (by omega) HF.out (keep3 hb5 hWr HK3.out)
        have hW4 : W.heap.size < x4.heap.size := by have := hx4.size; omega
        clear hb5 ho5 ho4 hx4 hat4 HO5 HB5 f0 f1 f2
        go_roundw
        case rel => exact ⟨k + 1, A4, c4, _, by go_num, rfl, by omega, HO4.out, HF4.out, HK4.out, HB4.out, hW4⟩
        case measure => (simp [intOf] <;> omega)
      · obtain rfl : k = m := by omega
        have i1 : (k : Int) < (k : Int) + 1 := by omega
        obtain ⟨f0, f1, f2⟩ := HK3.out
        go_wp2
        go_ret2
        refine ⟨_, _, _, rs, ret_slb (show ok_PathsOf nm (k : Int) ss = true from Hb.out.symm), ?_, HB.out⟩
        rw [E1.out Hb.out.symm]; exact HO3.out
set_option maxRecDepth 100000 in
set_option maxHeartbeats 2000000 in
theorem sp_PathsOf (nm : ByteArray) (st : Int) (A : Option Addr) (n c : Nat) (ss : List ByteArray) (W : World) (hs : nm.size ≤ 1048576) (hw : (Lit.int .i64 st).wf = true) (hnc : n ≤ c) (hr : Rd W A n (strsV ss)) (hz : ∀ s ∈ ss, s.size ≤ 1048576) (hl : ss.length ≤ 1048576) :
    Calls Try.prog 43 #[.agg #[.string nm, .int .i64 st, .slice A n c]] W (RetRB (out_PathsOf nm st ss) (ok_PathsOf nm st ss) W) := by
  obtain ⟨b, hb⟩ : ∃ b, b = methB nm st ss := ⟨_, rfl⟩
  have HC : Hid (∀ W', Below W.heap.size W W' → Calls Try.prog 54 #[.agg #[.string nm, .int .i64 st, .slice A n c]] W' fun e w' => e = .returned (.bool b) ∧ Below W'.heap.size W' w') := fun W' h => by rw [hb]; exact l4Good_any nm st A n c ss W' (by omega) (hr.below h) (fun s hs => by have := hz s hs; omega)
  have Hbox := Lib.hid (box3 W 27 (.string nm) (.int .i64 st) (.slice A n c))
  have HR := Lib.hid hr
  have Hb := Lib.hid hb
  have E1 : Hid (methB nm st ss = true → out_PathsOf nm st ss = psS st ss st.toNat) := fun h => by unfold out_PathsOf; rw [if_pos h]
  have E0 : Hid (methB nm st ss = false → out_PathsOf nm st ss = []) := fun h => by unfold out_PathsOf; rw [h]; simp
  clear hb hr hz
  cases b with
  | false =>
    go_enter Try.func43, Try.ntmps43
    go_wp2_with fail
    refine (HC.out _ (below_alloc _ _)).mono ?_
    rintro e x1 ⟨rfl, hb1⟩
    have B1 : Below W.heap.size W x1 := (below_alloc W _).trans (hb1.mono (by simp))
    clear hb1
    go_wp2
    go_ret2
    refine ⟨none, 0, 0, [], ret_slb (show ok_PathsOf nm st ss = false from Hb.out.symm), ?_, B1⟩
    rw [E0.out Hb.out.symm]; exact OwnR.of_own (Own.nil _ _ _ _)
  | true =>
    have hm : methB nm st ss = true := Hb.out.symm
    obtain ⟨h1, h40, h3, h8, hch⟩ := meth_ok hm
    obtain ⟨m, rfl⟩ : ∃ m : Nat, st = (m : Int) := ⟨st.toNat, by omega⟩
    rw [Int.toNat_natCast] at E1
    have h8' : m ≤ 8 := by omega
    have HPa : Hid (∀ W' y, 1 ≤ y → y ≤ m → Below W.heap.size W W' → Calls Try.prog 62 #[.agg #[.string nm, .int .i64 (m : Int), .slice A n c], .int .i64 ((y : Nat) : Int)] W' (RetS 3 (intsV (natI (pathL (m : Int) ss y))) W')) := fun W' y h1 h2 h => l5Path_any nm (m : Int) A n c ss y W' hm (HR.out.below h) h1 (by omega)
    clear hm hch h1 h40 h8
    go_enter Try.func43, Try.ntmps43
    go_wp2_with fail
    obtain ⟨B0, hB0⟩ : ∃ B, B = W.alloc (.cells #[.string nm, .int .i64 (m : Int), .slice A n c] 27) := ⟨_, rfl⟩
    rw [← hB0]
    have hbB : Below W.heap.size W B0 := by rw [hB0]; exact below_alloc _ _
    have hsB : W.heap.size < B0.heap.size := by rw [hB0]; simp
    have hcB := Hbox.out
    rw [← hB0] at hcB
    refine (HC.out _ hbB).mono ?_
    rintro e x1 ⟨rfl, hb1⟩
    have B1 : Below W.heap.size W x1 := hbB.trans (hb1.mono hbB.size)
    have KK := keep3 hb1 hsB hcB
    have s1 : W.heap.size < x1.heap.size := Nat.lt_of_lt_of_le hsB hb1.size
    clear hcB hB0 hb1 hbB hsB
    have HO2 : Hid (OwnR x1 W.heap.size x1.heap.size none 0 0 [] []) := OwnR.of_own (Own.nil _ _ _ _)
    have HB2 := Lib.hid B1
    have HK2 := Lib.hid KK
    have hWg := s1
    have HFW : Hid (Off none 0 0 W.heap.size) := fun k hk => by simp [Value.ownBlock] at hk
    clear KK s1 B1
    go_wp2
    go_loopw [4, 5] (fun l i wr => ∃ (k : Nat) (A3 : Option Addr) (c3 : Nat) (rs : List Row), i = .int .i64 ((k : Int) + 1) ∧ l = .slice A3 k c3 ∧ k ≤ m ∧ Hid (OwnR wr W.heap.size wr.heap.size A3 k c3 rs (psS (m : Int) ss k)) ∧ Hid (Off A3 k c3 W.heap.size) ∧ Hid (wr.cell? ⟨W.heap.size, 0, none⟩ = some (.string nm) ∧ wr.cell? ⟨W.heap.size, 1, none⟩ = some (.int .i64 (m : Int)) ∧ wr.cell? ⟨W.heap.size, 2, none⟩ = some (.slice A n c)) ∧ Hid (Below W.heap.size W wr) ∧ W.heap.size < wr.heap.size) (fun _ i _ => m + 1 - (intOf i).toNat)
    case atStart => exact ⟨0, none, 0, [], rfl, rfl, by omega, HO2.out, HFW.out, HK2.out, HB2.out, hWg⟩
    case round =>
      obtain ⟨k, A3, c3, rs, rfl, rfl, hk, HO3, HF, HK3, HB, hWr⟩ := hrel
      by_cases hlt : k < m
      · have HPy : Hid (∀ W', Below W.heap.size W W' → Calls Try.prog 62 #[.agg #[.string nm, .int .i64 (m : Int), .slice A n c], .int .i64 ((k : Int) + 1)] W' (RetS 3 (intsV (natI (pathL (m : Int) ss (k + 1)))) W')) := fun W' h => HPa.out W' (k + 1) (by omega) (by omega) h
        have HS := Lib.hid (psS_succ (m : Int) ss k)
        obtain ⟨p, hp⟩ : ∃ p, p = natI (pathL (m : Int) ss (k + 1)) := ⟨_, rfl⟩
        rw [← hp] at HPy HS
        have i1 : (k : Int) + 1 ≤ (m : Int) := by omega
        obtain ⟨f0, f1, f2⟩ := HK3.out
        clear hp
        go_wp2_with first
          | (go_at_call 62; refine (HPy.out _ HB.out).mono ?_; rintro e x5 ⟨A5, n5, c5, rfl, ho5, hb5⟩)
          | (at_builtin; refine wpList_append1x x5 rfl (.tmp 15) (.tmp 19) 48 rfl 42 (.slice none 0 0) 24 Try.underlying48 info_ints rfl W.heap.size A3 k c3 _ (.slice A5 n5 c5) rfl rfl rfl ((HO3.out.o.below hb5).mono (Nat.le_refl _) hb5.size) (by omega) (by omega) (Nat.le_trans HB.out.size hb5.size) ?_; intro A4 c4 x4 ho4 hx4 hsz4 hat4)
        have s5 : wr.heap.size ≤ x5.heap.size := hb5.size
        have HO5 : OwnR x5 W.heap.size x5.heap.size A3 k c3 rs (psS (m : Int) ss k) := (HO3.out.below hb5).mono (Nat.le_refl _) hb5.size
        have HO4 : Hid (OwnR x4 W.heap.size x4.heap.size A4 (k + 1) c4 (rs ++ [(A5, n5, c5)]) (psS (m : Int) ss (k + 1))) := by
          unfold Hid; rw [HS.out]
          exact HO5.push (r := (A5, n5, c5)) (l2 := wr.heap.size) ho5 HB.out.size (fun i s g a b => (HO3.out.rowlt i s g a b).2.1) (fun g hg => (HO3.out.o.lt g hg).2.1) ho4 hx4 hat4
        have HB5 : Below W.heap.size W x5 := HB.out.trans (hb5.mono HB.out.size)
        have HB4 : Hid (Below W.heap.size W x4) := HB5.trans (HO5.o.below_ hx4 HB5.size)
        have HF4 : Hid (Off A4 (k + 1) c4 W.heap.size) := HF.out.next (by omega) hat4
        have HK4 : Hid _ := keep3z hx4 (by omega) HF.out (keep3 hb5 hWr HK3.out)
        have hW4 : W.heap.size < x4.heap.size := by have := hx4.size; omega
        clear hb5 ho5 ho4 hx4 hat4 HO5 HB5 f0 f1 f2
        go_roundw
        case rel => exact ⟨k + 1, A4, c4, _, by go_num, rfl, by omega, HO4.out, HF4.out, HK4.out, HB4.out, hW4⟩
        case measure => (simp [intOf] <;> omega)
      · obtain rfl : k = m := by omega
        have i1 : (k : Int) < (k : Int) + 1 := by omega
        obtain ⟨f0, f1, f2⟩ := HK3.out
        go_wp2
        go_ret2
        refine ⟨_, _, _, rs, ret_slb (show ok_PathsOf nm (k : Int) ss = true from Hb.out.symm), ?_, HB.out⟩
        rw [E1.out Hb.out.symm]; exact HO3.out
end Go.Proofs.Ytbmabfgnmafooaa
