/- TurnMethod, of the reference and of the program: what each returns. -/
import Derived.Test.YtbmabfgnmafooaaWalkTm
import Derived.Test.YtbmabfgnmafooaaWalkY
import Derived.Test.YtbmabfgnmafooaaKit5
namespace Go.Proofs.Ytbmabfgnmafooaa
open Go.RowKit Go.Sort
set_option linter.unusedVariables false

noncomputable def okTM (nm : ByteArray) (st : Int) (ss : List ByteArray) : Bool := methB nm st ss
noncomputable def onTM (nm : ByteArray) (st : Int) (ss : List ByteArray) : ByteArray := if methB nm st ss = true then nm else ByteArray.empty
noncomputable def osTM (nm : ByteArray) (st : Int) (ss : List ByteArray) : Int := if methB nm st ss = true then st else 0
noncomputable def olTM (nm : ByteArray) (st : Int) (ss : List ByteArray) : List ByteArray := if methB nm st ss = true then ss.reverse else []
theorem len_TurnMethod (nm : ByteArray) (st : Int) (ss : List ByteArray) (hl : ss.length ≤ 1048576) : (olTM nm st ss).length ≤ 4194304 := by
  unfold olTM
  split
  · rw [List.length_reverse]; omega
  · simp
set_option maxRecDepth 100000 in
set_option maxHeartbeats 2000000 in
theorem im_TurnMethod (nm : ByteArray) (st : Int) (A : Option Addr) (n c : Nat) (ss : List ByteArray) (W : World) (hs : nm.size ≤ 1048576) (hw : (Lit.int .i64 st).wf = true) (hnc : n ≤ c) (hr : Rd W A n (strsV ss)) (hz : ∀ s ∈ ss, s.size ≤ 1048576) (hl : ss.length ≤ 1048576) :
    Calls Try.prog 20 #[.agg #[.string nm, .int .i64 st, .slice A n c]] W (RetMB (onTM nm st ss) (osTM nm st ss) (olTM nm st ss) (okTM nm st ss) W) := by
  obtain ⟨b, hb⟩ : ∃ b, b = methB nm st ss := ⟨_, rfl⟩
  have HC : Hid (∀ W', Below W.heap.size W W' → Calls Try.prog 55 #[.agg #[.string nm, .int .i64 st, .slice A n c]] W' fun e w' => e = .returned (.bool b) ∧ Below W'.heap.size W' w') := fun W' h => by rw [hb]; exact GoodMethod_any nm st A n c ss W' (by omega) (hr.below h) (fun s hs => by have := hz s hs; omega)
  have HRv : Hid (∀ W', Below W.heap.size W W' → Calls Try.prog 57 #[.slice A n c] W' (RetS 9 (strsV ss.reverse) W')) := fun W' h => reversed_any A n c ss W' (by have := hr.slen; omega) (hr.below h)
  have HWc : Hid (∀ B m d w, Calls Try.prog 56 #[.agg #[.string nm, .int .i64 st, .slice A n c], .slice B m d] w fun e w' => e = .returned (.agg #[.string nm, .int .i64 st, .slice B m d]) ∧ Below w.heap.size w w') := fun B m d w => withChanges_any nm st A B n c m d w
  have Hb := Lib.hid hb
  have E1 : Hid (methB nm st ss = true → onTM nm st ss = nm ∧ osTM nm st ss = st ∧ olTM nm st ss = ss.reverse) := fun h => by unfold onTM osTM olTM; simp [h]
  have E0 : Hid (methB nm st ss = false → onTM nm st ss = ByteArray.empty ∧ osTM nm st ss = 0 ∧ olTM nm st ss = []) := fun h => by unfold onTM osTM olTM; simp [h]
  obtain ⟨W0, hW0⟩ : ∃ W0, W0 = (W.alloc (.cells #[.string nm, .int .i64 st, .slice A n c] 27)).alloc (.cells #[.string { data := #[] }, .int .i64 0, .slice none 0 0] 27) := ⟨_, rfl⟩
  have hbW : Below W.heap.size W W0 := by rw [hW0]; exact (below_alloc W _).alloc (by simp) _
  have hsW : W0.heap.size = W.heap.size + 1 + 1 := by rw [hW0]; simp
  have hk1 : W0.heap[W.heap.size]? = some (.cells #[.string nm, .int .i64 st, .slice A n c] 27 (0, 0)) := by rw [hW0]; exact (heap_past _ _ _ (by simp)).trans (heap_last _ _ _ rfl)
  have hk2 : W0.heap[W.heap.size + 1]? = some (.cells #[.string { data := #[] }, .int .i64 0, .slice none 0 0] 27 (0, 0)) := by rw [hW0]; exact heap_last _ _ _ (by simp)
  have HK1 := Lib.hid hk1
  have HK2 := Lib.hid hk2
  clear hb hr hz hk1 hk2
  go_enter Try.func20, Try.ntmps20
  go_wp2_with fail
  rw [← hW0]
  refine (HC.out _ hbW).mono ?_
  rintro e x1 ⟨rfl, hb1⟩
  have B1 : Below W.heap.size W x1 := hbW.trans (hb1.mono hbW.size)
  have s1 : W.heap.size + 1 < x1.heap.size := by have := hb1.size; omega
  have hk1 : x1.heap[W.heap.size]? = some (.cells #[.string nm, .int .i64 st, .slice A n c] 27 (0, 0)) := (hb1.block _ (by omega)).trans HK1.out
  have hk2 : x1.heap[W.heap.size + 1]? = some (.cells #[.string { data := #[] }, .int .i64 0, .slice none 0 0] 27 (0, 0)) := (hb1.block _ (by omega)).trans HK2.out
  clear hW0 hb1 hbW hsW
  have HA1 := Lib.hid hk1
  have HA2 := Lib.hid hk2
  cases b with
  | false =>
    have a0 : x1.cell? ⟨W.heap.size + 1, 0, none⟩ = some (.string { data := #[] }) := by simp [World.cell?, hk2]
    have a1 : x1.cell? ⟨W.heap.size + 1, 1, none⟩ = some (.int .i64 0) := by simp [World.cell?, hk2]
    have a2 : x1.cell? ⟨W.heap.size + 1, 2, none⟩ = some (.slice none 0 0) := by simp [World.cell?, hk2]
    have f0 : x1.frozen? ⟨W.heap.size + 1, 0, none⟩ = false := by simp [World.frozen?, hk2]
    have f1 : x1.frozen? ⟨W.heap.size + 1, 1, none⟩ = false := by simp [World.frozen?, hk2]
    have f2 : x1.frozen? ⟨W.heap.size + 1, 2, none⟩ = false := by simp [World.frozen?, hk2]
    have HF : Hid ((((x1.setCell ⟨W.heap.size + 1, 0, none⟩ (.string { data := #[] })).setCell ⟨W.heap.size + 1, 1, none⟩ (.int .i64 0)).setCell ⟨W.heap.size + 1, 2, none⟩ (.slice none 0 0)).heap[W.heap.size + 1]? = some (.cells #[.string { data := #[] }, .int .i64 0, .slice none 0 0] 27 (0, 0))) := Joins.block_setCell (Joins.block_setCell (Joins.block_setCell hk2 _) _) _
    have HB : Hid (Below W.heap.size W (((x1.setCell ⟨W.heap.size + 1, 0, none⟩ (.string { data := #[] })).setCell ⟨W.heap.size + 1, 1, none⟩ (.int .i64 0)).setCell ⟨W.heap.size + 1, 2, none⟩ (.slice none 0 0))) := ((B1.setCell (show W.heap.size ≤ W.heap.size + 1 by omega) _).setCell (show W.heap.size ≤ W.heap.size + 1 by omega) _).setCell (show W.heap.size ≤ W.heap.size + 1 by omega) _
    clear hk1 hk2 B1
    go_wp2
    refine bodyPost_ret (results_cell_tmp rfl _ _ (W.heap.size + 1) 27 _ (0, 0) _ rfl HF.out Try.underlying27 rfl (by kernel_rfl)) rfl ?_
    have h0 := E0.out Hb.out.symm
    refine ⟨none, 0, 0, ?_, ?_, HB.out⟩
    · rw [h0.1, h0.2.1, show okTM nm st ss = false from Hb.out.symm]; rfl
    · rw [h0.2.2]; exact Own.nil _ _ _ _
  | true =>
    have f0 : x1.cell? ⟨W.heap.size, 0, none⟩ = some (.string nm) := by simp [World.cell?, hk1]
    have f1 : x1.cell? ⟨W.heap.size, 1, none⟩ = some (.int .i64 st) := by simp [World.cell?, hk1]
    have f2 : x1.cell? ⟨W.heap.size, 2, none⟩ = some (.slice A n c) := by simp [World.cell?, hk1]
    have HKf := Lib.hid (And.intro f0 (And.intro f1 f2))
    have HRd := Lib.hid (HRv.out x1.drew B1.drew)
    clear hk1 hk2
    have s1' : W.heap.size < x1.drew.heap.size := by show W.heap.size < x1.heap.size; omega
    have s1'' : W.heap.size + 1 < x1.drew.heap.size := s1
    go_wp2
    go_region_held3 (fun w' => w'.cell? ⟨W.heap.size, 0, none⟩ = some (.string nm) ∧ w'.cell? ⟨W.heap.size, 1, none⟩ = some (.int .i64 st) ∧ w'.cell? ⟨W.heap.size, 2, none⟩ = some (.slice A n c))
      (first | go_keep | exact HKf.out | (exact keep3B hb2 s1' ⟨f0, f1, f2⟩) | (exact keep3B (hb2.trans (hb3.mono hb2.size)) s1' ⟨f0, f1, f2⟩) | (exact keep3B (((((hb2.trans (hb3.mono hb2.size)).mono (Nat.le_of_lt s1'')).setCell (Nat.le_refl _) _).setCell (Nat.le_refl _) _).setCell (Nat.le_refl _) _) (Nat.lt_succ_self _) ⟨f0, f1, f2⟩))
      (first | (go_at_call 57; refine HRd.out.mono ?_; rintro e x2 ⟨A2, n2, c2, rfl, ho2, hb2⟩) | (go_at_call 56; refine (HWc.out A2 n2 c2 x2).mono ?_; rintro e x3 ⟨rfl, hb3⟩; have hk3 := (hb3.block _ (Nat.lt_of_lt_of_le s1'' hb2.size)).trans ((hb2.block _ s1'').trans HA2.out); have a0 : x3.cell? ⟨W.heap.size + 1, 0, none⟩ = some (.string { data := #[] }) := (by simp [World.cell?, hk3]); have a1 : x3.cell? ⟨W.heap.size + 1, 1, none⟩ = some (.int .i64 0) := (by simp [World.cell?, hk3]); have a2 : x3.cell? ⟨W.heap.size + 1, 2, none⟩ = some (.slice none 0 0) := (by simp [World.cell?, hk3]); have g0 : x3.frozen? ⟨W.heap.size + 1, 0, none⟩ = false := (by simp [World.frozen?, hk3]); have g1 : x3.frozen? ⟨W.heap.size + 1, 1, none⟩ = false := (by simp [World.frozen?, hk3]); have g2 : x3.frozen? ⟨W.heap.size + 1, 2, none⟩ = false := (by simp [World.frozen?, hk3]); have Hk3 := Lib.hid hk3; clear hk3))
    have HF : Hid ((((x3.setCell ⟨W.heap.size + 1, 0, none⟩ (.string nm)).setCell ⟨W.heap.size + 1, 1, none⟩ (.int .i64 st)).setCell ⟨W.heap.size + 1, 2, none⟩ (.slice A2 n2 c2)).heap[W.heap.size + 1]? = some (.cells #[.string nm, .int .i64 st, .slice A2 n2 c2] 27 (0, 0))) := Joins.block_setCell (Joins.block_setCell (Joins.block_setCell Hk3.out _) _) _
    have HW : Hid (Wr (W.heap.size + 1) (W.heap.size + 1 + 1) x3 (((x3.setCell ⟨W.heap.size + 1, 0, none⟩ (.string nm)).setCell ⟨W.heap.size + 1, 1, none⟩ (.int .i64 st)).setCell ⟨W.heap.size + 1, 2, none⟩ (.slice A2 n2 c2))) :=
      wr_three x3 (W.heap.size + 1) _ _ _
    have hB3 : Below W.heap.size W x3 := B1.drew.trans ((hb2.trans (hb3.mono hb2.size)).mono B1.drew.size)
    have HO3 : Own x3 9 x1.drew.heap.size x2.heap.size A2 n2 c2 (strsV ss.reverse) := ho2.below hb3
    have HO4 := Lib.hid ((HO3.wr HW.out (.inr (show W.heap.size + 1 + 1 ≤ x1.heap.size by omega))).mono (show W.heap.size ≤ x1.heap.size by omega) (Nat.le_trans hb3.size HW.out.size))
    have HB4 : Hid (Below W.heap.size W _) := hB3.trans (HW.out.below (show W.heap.size ≤ W.heap.size + 1 by omega) (show W.heap.size ≤ x3.heap.size from hB3.size))
    clear a0 a1 a2 g0 g1 g2 hB3 HO3 hb2 hb3 ho2
    go_wp2
    refine bodyPost_ret (results_cell_tmp rfl _ _ (W.heap.size + 1) 27 _ (0, 0) _ rfl HF.out Try.underlying27 rfl (by kernel_rfl)) rfl ?_
    have h0 := E1.out Hb.out.symm
    refine ⟨A2, n2, c2, ?_, ?_, HB4.out⟩
    · rw [h0.1, h0.2.1, show okTM nm st ss = true from Hb.out.symm]; rfl
    · rw [h0.2.2]; exact HO4.out
set_option maxRecDepth 100000 in
set_option maxHeartbeats 2000000 in
theorem sp_TurnMethod (nm : ByteArray) (st : Int) (A : Option Addr) (n c : Nat) (ss : List ByteArray) (W : World) (hs : nm.size ≤ 1048576) (hw : (Lit.int .i64 st).wf = true) (hnc : n ≤ c) (hr : Rd W A n (strsV ss)) (hz : ∀ s ∈ ss, s.size ≤ 1048576) (hl : ss.length ≤ 1048576) :
    Calls Try.prog 19 #[.agg #[.string nm, .int .i64 st, .slice A n c]] W (RetMB (onTM nm st ss) (osTM nm st ss) (olTM nm st ss) (okTM nm st ss) W) := by
  obtain ⟨b, hb⟩ : ∃ b, b = methB nm st ss := ⟨_, rfl⟩
  have HC : Hid (∀ W', Below W.heap.size W W' → Calls Try.prog 54 #[.agg #[.string nm, .int .i64 st, .slice A n c]] W' fun e w' => e = .returned (.bool b) ∧ Below W'.heap.size W' w') := fun W' h => by rw [hb]; exact l4Good_any nm st A n c ss W' (by omega) (hr.below h) (fun s hs => by have := hz s hs; omega)
  have Hb := Lib.hid hb
  have Hr := Lib.hid hr
  have Hl := Lib.hid hr.slen
  have E1 : Hid (methB nm st ss = true → onTM nm st ss = nm ∧ osTM nm st ss = st ∧ olTM nm st ss = ss.reverse) := fun h => by unfold onTM osTM olTM; simp [h]
  have E0 : Hid (methB nm st ss = false → onTM nm st ss = ByteArray.empty ∧ osTM nm st ss = 0 ∧ olTM nm st ss = []) := fun h => by unfold onTM osTM olTM; simp [h]
  obtain ⟨W0, hW0⟩ : ∃ W0, W0 = (W.alloc (.cells #[.string nm, .int .i64 st, .slice A n c] 27)).alloc (.cells #[.string { data := #[] }, .int .i64 0, .slice none 0 0] 27) := ⟨_, rfl⟩
  have hbW : Below W.heap.size W W0 := by rw [hW0]; exact (below_alloc W _).alloc (by simp) _
  have hsW : W0.heap.size = W.heap.size + 1 + 1 := by rw [hW0]; simp
  have hk1 : W0.heap[W.heap.size]? = some (.cells #[.string nm, .int .i64 st, .slice A n c] 27 (0, 0)) := by rw [hW0]; exact (heap_past _ _ _ (by simp)).trans (heap_last _ _ _ rfl)
  have hk2 : W0.heap[W.heap.size + 1]? = some (.cells #[.string { data := #[] }, .int .i64 0, .slice none 0 0] 27 (0, 0)) := by rw [hW0]; exact heap_last _ _ _ (by simp)
  have HK1 := Lib.hid hk1
  have HK2 := Lib.hid hk2
  clear hb hr hz hk1 hk2
  go_enter Try.func19, Try.ntmps19
  go_wp2_with fail
  rw [← hW0]
  refine (HC.out _ hbW).mono ?_
  rintro e x1 ⟨rfl, hb1⟩
  have B1 : Below W.heap.size W x1 := hbW.trans (hb1.mono hbW.size)
  have s1 : W.heap.size + 1 < x1.heap.size := by have := hb1.size; omega
  have hk1 : x1.heap[W.heap.size]? = some (.cells #[.string nm, .int .i64 st, .slice A n c] 27 (0, 0)) := (hb1.block _ (by omega)).trans HK1.out
  have hk2 : x1.heap[W.heap.size + 1]? = some (.cells #[.string { data := #[] }, .int .i64 0, .slice none 0 0] 27 (0, 0)) := (hb1.block _ (by omega)).trans HK2.out
  clear hW0 hb1 hbW hsW
  have HA1 := Lib.hid hk1
  have HA2 := Lib.hid hk2
  cases b with
  | false =>
    have a0 : x1.cell? ⟨W.heap.size + 1, 0, none⟩ = some (.string { data := #[] }) := by simp [World.cell?, hk2]
    have a1 : x1.cell? ⟨W.heap.size + 1, 1, none⟩ = some (.int .i64 0) := by simp [World.cell?, hk2]
    have a2 : x1.cell? ⟨W.heap.size + 1, 2, none⟩ = some (.slice none 0 0) := by simp [World.cell?, hk2]
    have f0 : x1.frozen? ⟨W.heap.size + 1, 0, none⟩ = false := by simp [World.frozen?, hk2]
    have f1 : x1.frozen? ⟨W.heap.size + 1, 1, none⟩ = false := by simp [World.frozen?, hk2]
    have f2 : x1.frozen? ⟨W.heap.size + 1, 2, none⟩ = false := by simp [World.frozen?, hk2]
    have HF : Hid ((((x1.setCell ⟨W.heap.size + 1, 0, none⟩ (.string { data := #[] })).setCell ⟨W.heap.size + 1, 1, none⟩ (.int .i64 0)).setCell ⟨W.heap.size + 1, 2, none⟩ (.slice none 0 0)).heap[W.heap.size + 1]? = some (.cells #[.string { data := #[] }, .int .i64 0, .slice none 0 0] 27 (0, 0))) := Joins.block_setCell (Joins.block_setCell (Joins.block_setCell hk2 _) _) _
    have HB : Hid (Below W.heap.size W (((x1.setCell ⟨W.heap.size + 1, 0, none⟩ (.string { data := #[] })).setCell ⟨W.heap.size + 1, 1, none⟩ (.int .i64 0)).setCell ⟨W.heap.size + 1, 2, none⟩ (.slice none 0 0))) := ((B1.setCell (show W.heap.size ≤ W.heap.size + 1 by omega) _).setCell (show W.heap.size ≤ W.heap.size + 1 by omega) _).setCell (show W.heap.size ≤ W.heap.size + 1 by omega) _
    clear hk1 hk2 B1
    go_wp2
    refine bodyPost_ret (results_cell_tmp rfl _ _ (W.heap.size + 1) 27 _ (0, 0) _ rfl HF.out Try.underlying27 rfl (by kernel_rfl)) rfl ?_
    have h0 := E0.out Hb.out.symm
    refine ⟨none, 0, 0, ?_, ?_, HB.out⟩
    · rw [h0.1, h0.2.1, show okTM nm st ss = false from Hb.out.symm]; rfl
    · rw [h0.2.2]; exact Own.nil _ _ _ _
  | true =>
    have hm : methB nm st ss = true := Hb.out.symm
    have hlen40 : n ≤ 40 := by have h1 := (of_cb (show cb _ = true from ((Bool.and_eq_true _ _).mp (show (_ && cb (1 ≤ ss.length ∧ ss.length ≤ 40 ∧ ∀ s ∈ ss, chB st s = true)) = true from hm)).2)).2.1; have := Hl.out; omega
    have hb1c : x1.cell? ⟨W.heap.size, 0, none⟩ = some (.string nm) := by simp [World.cell?, hk1]
    have hb1d : x1.cell? ⟨W.heap.size, 1, none⟩ = some (.int .i64 st) := by simp [World.cell?, hk1]
    have hb1e : x1.cell? ⟨W.heap.size, 2, none⟩ = some (.slice A n c) := by simp [World.cell?, hk1]
    have HX1 := Lib.hid B1
    have HOut0 : Hid ((x1.alloc (.cells #[.string nm, .int .i64 st, .slice none 0 0] 27)).heap[x1.heap.size]? = some (.cells #[.string nm, .int .i64 st, .slice none 0 0] 27 (0, 0))) := heap_last _ _ _ rfl
    have hal : (x1.alloc (.cells #[.string nm, .int .i64 st, .slice none 0 0] 27)).cell? ⟨W.heap.size, 2, none⟩ = some (.slice A n c) := (World.cell?_of_block (a := ⟨W.heap.size, 2, none⟩) ((below_alloc x1 _).block W.heap.size (by omega))).trans hb1e
    clear hk1 hk2 hm
    go_wp2
    go_loopw [5] (fun v wr => ∃ (m : Nat) (z : Int) (A3 : Option Addr) (c3 : Nat), v = .int .i64 z ∧ z = (m : Int) - 1 ∧ m ≤ n ∧ Hid (wr.heap[x1.heap.size]? = some (.cells #[.string nm, .int .i64 st, .slice A3 (n - m) c3] 27 (0, 0))) ∧ Hid (Own wr 9 (x1.heap.size + 1) wr.heap.size A3 (n - m) c3 (strsV (ss.drop m).reverse)) ∧ Hid (Below x1.heap.size x1 wr) ∧ x1.heap.size < wr.heap.size) (fun v _ => (intOf v + 1).toNat)
    case atStart => exact ⟨n, (n : Int) - 1, none, 0, by first | rfl | go_num, rfl, Nat.le_refl _, by rw [Nat.sub_self]; exact HOut0.out, by rw [Nat.sub_self, List.drop_of_length_le (by have := Hl.out; omega)]; exact Own.nil _ _ _ _, below_alloc _ _, by simp⟩
    case round =>
      clear HOut0 hal hb1c hb1d
      obtain ⟨m, z, A3, c3, rfl, hzm, hm, HG, HO, HB, hWr⟩ := hrel
      by_cases hm0 : m = 0
      · subst hm0
        have hzn : z < 0 := by omega
        have hznn : ¬ (0 : Int) ≤ z := by omega
        clear hzm
        rw [Nat.sub_zero] at HG HO
        rw [List.drop_zero] at HO
        have hg := HG.out
        have hk2 := (HB.out.block (W.heap.size + 1) s1).trans HA2.out
        have c0 : wr.cell? ⟨x1.heap.size, 0, none⟩ = some (.string nm) := by simp [World.cell?, hg]
        have c1 : wr.cell? ⟨x1.heap.size, 1, none⟩ = some (.int .i64 st) := by simp [World.cell?, hg]
        have c2 : wr.cell? ⟨x1.heap.size, 2, none⟩ = some (.slice A3 n c3) := by simp [World.cell?, hg]
        have a0 : wr.cell? ⟨W.heap.size + 1, 0, none⟩ = some (.string { data := #[] }) := by simp [World.cell?, hk2]
        have a1 : wr.cell? ⟨W.heap.size + 1, 1, none⟩ = some (.int .i64 0) := by simp [World.cell?, hk2]
        have a2 : wr.cell? ⟨W.heap.size + 1, 2, none⟩ = some (.slice none 0 0) := by simp [World.cell?, hk2]
        have f0 : wr.frozen? ⟨W.heap.size + 1, 0, none⟩ = false := by simp [World.frozen?, hk2]
        have f1 : wr.frozen? ⟨W.heap.size + 1, 1, none⟩ = false := by simp [World.frozen?, hk2]
        have f2 : wr.frozen? ⟨W.heap.size + 1, 2, none⟩ = false := by simp [World.frozen?, hk2]
        have HF : Hid ((((wr.setCell ⟨W.heap.size + 1, 0, none⟩ (.string nm)).setCell ⟨W.heap.size + 1, 1, none⟩ (.int .i64 st)).setCell ⟨W.heap.size + 1, 2, none⟩ (.slice A3 n c3)).heap[W.heap.size + 1]? = some (.cells #[.string nm, .int .i64 st, .slice A3 n c3] 27 (0, 0))) := Joins.block_setCell (Joins.block_setCell (Joins.block_setCell hk2 _) _) _
        have HW : Hid (Wr (W.heap.size + 1) (W.heap.size + 1 + 1) wr (((wr.setCell ⟨W.heap.size + 1, 0, none⟩ (.string nm)).setCell ⟨W.heap.size + 1, 1, none⟩ (.int .i64 st)).setCell ⟨W.heap.size + 1, 2, none⟩ (.slice A3 n c3))) := wr_three wr (W.heap.size + 1) _ _ _
        have hB3 : Below W.heap.size W wr := HX1.out.trans (HB.out.mono HX1.out.size)
        have HO4 := Lib.hid ((HO.out.wr HW.out (.inr (show W.heap.size + 1 + 1 ≤ x1.heap.size + 1 by omega))).mono (show W.heap.size ≤ x1.heap.size + 1 by omega) HW.out.size)
        have HB4 : Hid (Below W.heap.size W _) := hB3.trans (HW.out.below (show W.heap.size ≤ W.heap.size + 1 by omega) hB3.size)
        clear hg hk2 hB3
        go_wp2
        refine bodyPost_ret (results_cell_tmp rfl _ _ (W.heap.size + 1) 27 _ (0, 0) _ rfl HF.out Try.underlying27 rfl (by kernel_rfl)) rfl ?_
        have h0 := E1.out Hb.out.symm
        refine ⟨A3, n, c3, ?_, ?_, HB4.out⟩
        · rw [h0.1, h0.2.1, show okTM nm st ss = true from Hb.out.symm]; rfl
        · rw [h0.2.2]; exact HO4.out
      · obtain ⟨i, rfl⟩ : ∃ i, m = i + 1 := ⟨m - 1, by omega⟩
        obtain rfl : z = (i : Int) := by omega
        have hil : i < ss.length := by have := Hl.out; omega
        have HB0 : Hid (Below W.heap.size W wr) := HX1.out.trans (HB.out.mono HX1.out.size)
        obtain ⟨b0, o0, rfl, hb0, hcs⟩ := Hr.out.strD (k := i) (by omega)
        have hc1 : wr.cell? ⟨b0, o0 + i, none⟩ = some (.string (getS ss i)) := (World.cell?_of_block (a := ⟨b0, o0 + i, none⟩) (HB0.out.block b0 hb0)).trans (hcs i (by omega))
        have hcw : wr.cell? ⟨W.heap.size, 2, none⟩ = some (.slice (some ⟨b0, o0, none⟩) n c) := (World.cell?_of_block (a := ⟨W.heap.size, 2, none⟩) (HB.out.block W.heap.size (by omega))).trans hb1e
        have hg := HG.out
        have hcg : wr.cell? ⟨x1.heap.size, 2, none⟩ = some (.slice A3 (n - (i + 1)) c3) := by simp [World.cell?, hg]
        have HDr : Hid ((ss.drop i).reverse = (ss.drop (i + 1)).reverse ++ [getS ss i]) := by
          unfold Hid
          rw [List.drop_eq_getElem_cons hil, List.reverse_cons]
          simp [getS, List.getElem?_eq_getElem hil]
        obtain ⟨L, hL⟩ : ∃ L, L = n - (i + 1) := ⟨_, rfl⟩
        have hLn : n - i = L + 1 := by omega
        rw [← hL] at HG HO hcg
        obtain ⟨x, hx⟩ : ∃ x, x = getS ss i := ⟨_, rfl⟩
        rw [← hx] at hc1 HDr
        obtain ⟨xs, hxs⟩ : ∃ l, l = (ss.drop (i + 1)).reverse := ⟨_, rfl⟩
        rw [← hxs] at HO HDr
        have i1 : (0 : Int) ≤ (i : Int) := by omega
        have i2 : (i : Int) < (n : Int) := by omega
        have HS0 := Lib.hid (And.intro hcw hc1)
        have hwg : W.heap.size < x1.heap.size := by omega
        have hbg : b0 < x1.heap.size := by omega
        have hcga : (wr.alloc (.cells #[.string x] 9)).drew.cell? ⟨x1.heap.size, 2, none⟩ = some (.slice A3 L c3) := (World.cell?_of_block (a := ⟨x1.heap.size, 2, none⟩) ((show Below wr.heap.size wr.drew (wr.alloc (.cells #[.string x] 9)).drew from below_alloc wr.drew _).block x1.heap.size hWr)).trans hcg
        have hbal : Below wr.heap.size wr.drew (wr.alloc (.cells #[.string x] 9)).drew := below_alloc wr.drew (.cells #[.string x] 9)
        have hOX : Own (wr.alloc (.cells #[.string x] 9)).drew 9 (x1.heap.size + 1) (wr.alloc (.cells #[.string x] 9)).drew.heap.size A3 L c3 (strsV xs) := ((show Own wr.drew 9 (x1.heap.size + 1) wr.heap.size A3 L c3 (strsV xs) from HO.out).below hbal).mono (Nat.le_refl _) (by simp)
        have hRX : Rd (wr.alloc (.cells #[.string x] 9)).drew (some ⟨wr.heap.size, 0, none⟩) 1 [.string x] := (show Rd (wr.drew.alloc _) _ _ _ from (own_one wr.drew 9 (.string x)).rd)
        have hsX : (wr.alloc (.cells #[.string x] 9)).drew.heap.size = wr.heap.size + 1 := by simp
        have hgX : (wr.alloc (.cells #[.string x] 9)).drew.heap[x1.heap.size]? = some (.cells #[.string nm, .int .i64 st, .slice A3 L c3] 27 (0, 0)) := (hbal.block _ hWr).trans HG.out
        clear hcs hg hx hxs hL hil hzm hm0 hb0
        go_wp2
        have hOne : ∀ u ∈ [Value.string x], u.oneCell' = true := fun u hu => by rw [List.mem_singleton.mp hu]; rfl
        have hN1 : L + 1 ≤ 4294967296 := by omega
        have hB1' : x1.heap.size + 1 ≤ (wr.alloc (.cells #[.string x] 9)).drew.heap.size := by rw [hsX]; omega
        have hB2' : x1.heap.size + 1 ≤ wr.drew.heap.size := hWr
        have hB3' : x1.heap.size + 1 ≤ wr.heap.size := hWr
        go_region_law (first | ((refine step_appendNx (wr.alloc (.cells #[.string x] 9)).drew (by rfl) (.tmp 24) (.tmp 30) 22 (by rfl) 9 (.string ByteArray.empty) 16 Try.underlying22 info_str (by rfl) (x1.heap.size + 1) A3 L c3 (strsV xs) (by rfl) hOX (some ⟨wr.heap.size, 0, none⟩) 1 1 [.string x] (by rfl) (fun e => by cases e) hRX hOne hN1 (by omega) hB1' ?_); (intro A7 c7 w7 ho7 hx7 hat7); (have hb67 := hOX.below_ hx7 hB1'); (have hb7 : Below (x1.heap.size + 1) wr.drew w7 := (hbal.mono hB3').trans hb67); (have hg7 := (hb67.block x1.heap.size (Nat.lt_succ_self _)).trans hgX); (have q2 : w7.cell? ⟨x1.heap.size, 2, none⟩ = some (.slice A3 L c3) := (by simp [World.cell?, hg7])); (have r2 : w7.frozen? ⟨x1.heap.size, 2, none⟩ = false := (by simp [World.frozen?, hg7])); have Hg7 := Lib.hid hg7; (have hb8 : Below x1.heap.size wr.drew (w7.setCell ⟨x1.heap.size, 2, none⟩ (.slice A7 (L + 1) c7)) := (hb7.mono (Nat.le_succ _)).setCell (Nat.le_refl _) _); clear hg7) | fail)
        all_goals
          have HWr1 : Wr x1.heap.size (x1.heap.size + 1) w7 (w7.setCell ⟨x1.heap.size, 2, none⟩ (.slice A7 (L + 1) c7)) := wr_one w7 w7 x1.heap.size 2 _ (Wr.refl _ _ w7)
          have HGf : Hid ((w7.setCell ⟨x1.heap.size, 2, none⟩ (.slice A7 (L + 1) c7)).heap[x1.heap.size]? = some (.cells #[.string nm, .int .i64 st, .slice A7 (n - i) c7] 27 (0, 0))) := by
            rw [hLn]; exact Joins.block_setCell Hg7.out _
          have HOf : Hid (Own (w7.setCell ⟨x1.heap.size, 2, none⟩ (.slice A7 (L + 1) c7)) 9 (x1.heap.size + 1) (w7.setCell ⟨x1.heap.size, 2, none⟩ (.slice A7 (L + 1) c7)).heap.size A7 (n - i) c7 (strsV (ss.drop i).reverse)) := by
            rw [hLn, HDr.out]
            have e : strsV (xs ++ [x]) = strsV xs ++ [.string x] := by simp [strsV]
            rw [e]
            exact (ho7.wr HWr1 (.inr (Nat.le_refl _))).mono (Nat.le_refl _) HWr1.size
          have HBf : Hid (Below x1.heap.size x1 (w7.setCell ⟨x1.heap.size, 2, none⟩ (.slice A7 (L + 1) c7))) := HB.out.drew.trans hb8
          have HSf : Hid (x1.heap.size < (w7.setCell ⟨x1.heap.size, 2, none⟩ (.slice A7 (L + 1) c7)).heap.size) := Nat.lt_of_lt_of_le (Nat.lt_of_lt_of_le hB1' hb67.size) HWr1.size
          clear HWr1 hb8 hb67 hb7 hB1' hB2' hB3' q2 r2 ho7 hx7 hat7 hOX hRX hsX hgX hbal hcga HDr hOne hN1 hLn
          go_wp2
          go_roundw
          case rel => exact ⟨i, (i : Int) - 1, A7, c7, by go_num, rfl, by omega, HGf.out, HOf.out, HBf.out, HSf.out⟩
          case measure => (simp [intOf] <;> omega)
end Go.Proofs.Ytbmabfgnmafooaa
