/- StartAt, of the reference and of the program: what each returns. -/
import Derived.Test.YtbmabfgnmafooaaWalkSb
namespace Go.Proofs.Ytbmabfgnmafooaa
open Go.RowKit Go.Sort
set_option linter.unusedVariables false

noncomputable def okSA (nm : ByteArray) (st : Int) (ss : List ByteArray) (k : Int) : Bool := methB nm st ss && (decide (0 ≤ k) && decide (k < (ss.length : Int)))
noncomputable def onSA (nm : ByteArray) (st : Int) (ss : List ByteArray) (k : Int) : ByteArray := if okSA nm st ss k = true then nm else ByteArray.empty
noncomputable def osSA (nm : ByteArray) (st : Int) (ss : List ByteArray) (k : Int) : Int := if okSA nm st ss k = true then st else 0
noncomputable def olSA (nm : ByteArray) (st : Int) (ss : List ByteArray) (k : Int) : List ByteArray := if okSA nm st ss k = true then ss.drop k.toNat ++ ss.take k.toNat else []
theorem len_StartAt (nm : ByteArray) (st : Int) (ss : List ByteArray) (k : Int) (hl : ss.length ≤ 1048576) : (olSA nm st ss k).length ≤ 4194304 := by
  unfold olSA
  split
  · simp; omega
  · simp
set_option maxRecDepth 100000 in
set_option maxHeartbeats 2000000 in
theorem im_StartAt (nm : ByteArray) (st : Int) (A : Option Addr) (n c : Nat) (ss : List ByteArray) (k : Int) (W : World) (hs : nm.size ≤ 1048576) (hw : (Lit.int .i64 st).wf = true) (hnc : n ≤ c) (hr : Rd W A n (strsV ss)) (hz : ∀ s ∈ ss, s.size ≤ 1048576) (hl : ss.length ≤ 1048576) (hwk : (Lit.int .i64 k).wf = true) :
    Calls Try.prog 24 #[.agg #[.string nm, .int .i64 st, .slice A n c], .int .i64 k] W (RetMB (onSA nm st ss k) (osSA nm st ss k) (olSA nm st ss k) (okSA nm st ss k) W) := by
  obtain ⟨b, hb⟩ : ∃ b, b = methB nm st ss := ⟨_, rfl⟩
  have HC : Hid (∀ W', Below W.heap.size W W' → Calls Try.prog 55 #[.agg #[.string nm, .int .i64 st, .slice A n c]] W' fun e w' => e = .returned (.bool b) ∧ Below W'.heap.size W' w') := fun W' h => by rw [hb]; exact GoodMethod_any nm st A n c ss W' (by omega) (hr.below h) (fun s hs => by have := hz s hs; omega)
  have Hb := Lib.hid hb
  have Hl := Lib.hid hr.slen
  have Hr := Lib.hid hr
  have hn : n ≤ 1048576 := by have := hr.slen; omega
  have E1 : Hid (methB nm st ss = true → 0 ≤ k → k < (n : Int) → okSA nm st ss k = true ∧ onSA nm st ss k = nm ∧ osSA nm st ss k = st ∧ olSA nm st ss k = ss.drop k.toNat ++ ss.take k.toNat) := fun h h1 h2 => by
    have e : okSA nm st ss k = true := by unfold okSA; rw [h, hr.slen]; simp [h1, h2]
    refine ⟨e, ?_, ?_, ?_⟩ <;> simp [onSA, osSA, olSA, e]
  have E0 : Hid (methB nm st ss = false ∨ k < 0 ∨ (n : Int) ≤ k → okSA nm st ss k = false ∧ onSA nm st ss k = ByteArray.empty ∧ osSA nm st ss k = 0 ∧ olSA nm st ss k = []) := fun h => by
    have e : okSA nm st ss k = false := by
      unfold okSA; rw [hr.slen]
      rcases h with h | h | h
      · simp [h]
      · rw [decide_eq_false (show ¬ 0 ≤ k by omega)]; simp
      · rw [decide_eq_false (show ¬ k < (n : Int) by omega)]; simp
    refine ⟨e, ?_, ?_, ?_⟩ <;> simp [onSA, osSA, olSA, e]
  obtain ⟨W0, hW0⟩ : ∃ W0, W0 = (W.alloc (.cells #[.string nm, .int .i64 st, .slice A n c] 27)).alloc (.cells #[.string { data := #[] }, .int .i64 0, .slice none 0 0] 27) := ⟨_, rfl⟩
  have hbW : Below W.heap.size W W0 := by rw [hW0]; exact (below_alloc W _).alloc (by simp) _
  have hsW : W0.heap.size = W.heap.size + 1 + 1 := by rw [hW0]; simp
  have hk1 : W0.heap[W.heap.size]? = some (.cells #[.string nm, .int .i64 st, .slice A n c] 27 (0, 0)) := by rw [hW0]; exact (heap_past _ _ _ (by simp)).trans (heap_last _ _ _ rfl)
  have hk2 : W0.heap[W.heap.size + 1]? = some (.cells #[.string { data := #[] }, .int .i64 0, .slice none 0 0] 27 (0, 0)) := by rw [hW0]; exact heap_last _ _ _ (by simp)
  have HK1 := Lib.hid hk1
  have HK2 := Lib.hid hk2
  clear hb hr hz hk1 hk2
  go_enter Try.func24, Try.ntmps24
  go_wp2_with fail
  rw [← hW0]
  refine (HC.out _ hbW).mono ?_
  rintro e x1 ⟨rfl, hb1⟩
  have B1 : Below W.heap.size W x1 := hbW.trans (hb1.mono hbW.size)
  have s1 : W.heap.size + 1 < x1.heap.size := by have := hb1.size; omega
  have hk1 : x1.heap[W.heap.size]? = some (.cells #[.string nm, .int .i64 st, .slice A n c] 27 (0, 0)) := (hb1.block _ (by omega)).trans HK1.out
  have hk2 : x1.heap[W.heap.size + 1]? = some (.cells #[.string { data := #[] }, .int .i64 0, .slice none 0 0] 27 (0, 0)) := (hb1.block _ (by omega)).trans HK2.out
  clear hW0 hb1 hbW hsW
  have HA1 := Lib.hid hk1
  have HA2 := Lib.hid hk2
  have f0 : x1.cell? ⟨W.heap.size, 0, none⟩ = some (.string nm) := by simp [World.cell?, hk1]
  have f1 : x1.cell? ⟨W.heap.size, 1, none⟩ = some (.int .i64 st) := by simp [World.cell?, hk1]
  have f2 : x1.cell? ⟨W.heap.size, 2, none⟩ = some (.slice A n c) := by simp [World.cell?, hk1]
  have a0 : x1.cell? ⟨W.heap.size + 1, 0, none⟩ = some (.string { data := #[] }) := by simp [World.cell?, hk2]
  have a1 : x1.cell? ⟨W.heap.size + 1, 1, none⟩ = some (.int .i64 0) := by simp [World.cell?, hk2]
  have a2 : x1.cell? ⟨W.heap.size + 1, 2, none⟩ = some (.slice none 0 0) := by simp [World.cell?, hk2]
  have g0 : x1.frozen? ⟨W.heap.size + 1, 0, none⟩ = false := by simp [World.frozen?, hk2]
  have g1 : x1.frozen? ⟨W.heap.size + 1, 1, none⟩ = false := by simp [World.frozen?, hk2]
  have g2 : x1.frozen? ⟨W.heap.size + 1, 2, none⟩ = false := by simp [World.frozen?, hk2]
  cases b with
  | false =>
    have HF : Hid ((((x1.setCell ⟨W.heap.size + 1, 0, none⟩ (.string { data := #[] })).setCell ⟨W.heap.size + 1, 1, none⟩ (.int .i64 0)).setCell ⟨W.heap.size + 1, 2, none⟩ (.slice none 0 0)).heap[W.heap.size + 1]? = some (.cells #[.string { data := #[] }, .int .i64 0, .slice none 0 0] 27 (0, 0))) := Joins.block_setCell (Joins.block_setCell (Joins.block_setCell hk2 _) _) _
    have HB : Hid (Below W.heap.size W (((x1.setCell ⟨W.heap.size + 1, 0, none⟩ (.string { data := #[] })).setCell ⟨W.heap.size + 1, 1, none⟩ (.int .i64 0)).setCell ⟨W.heap.size + 1, 2, none⟩ (.slice none 0 0))) := ((B1.setCell (show W.heap.size ≤ W.heap.size + 1 by omega) _).setCell (show W.heap.size ≤ W.heap.size + 1 by omega) _).setCell (show W.heap.size ≤ W.heap.size + 1 by omega) _
    have h0 := Lib.hid (E0.out (.inl Hb.out.symm))
    clear hk1 hk2 B1
    go_wp2
    refine bodyPost_ret (results_cell_tmp rfl _ _ (W.heap.size + 1) 27 _ (0, 0) _ rfl HF.out Try.underlying27 rfl (by kernel_rfl)) rfl ?_
    refine ⟨none, 0, 0, ?_, ?_, HB.out⟩
    · rw [h0.out.1, h0.out.2.1, h0.out.2.2.1]; rfl
    · rw [h0.out.2.2.2]; exact Own.nil _ _ _ _
  | true =>
    by_cases h1 : k < 0
    · skip
      have HF : Hid ((((x1.setCell ⟨W.heap.size + 1, 0, none⟩ (.string { data := #[] })).setCell ⟨W.heap.size + 1, 1, none⟩ (.int .i64 0)).setCell ⟨W.heap.size + 1, 2, none⟩ (.slice none 0 0)).heap[W.heap.size + 1]? = some (.cells #[.string { data := #[] }, .int .i64 0, .slice none 0 0] 27 (0, 0))) := Joins.block_setCell (Joins.block_setCell (Joins.block_setCell hk2 _) _) _
      have HB : Hid (Below W.heap.size W (((x1.setCell ⟨W.heap.size + 1, 0, none⟩ (.string { data := #[] })).setCell ⟨W.heap.size + 1, 1, none⟩ (.int .i64 0)).setCell ⟨W.heap.size + 1, 2, none⟩ (.slice none 0 0))) := ((B1.setCell (show W.heap.size ≤ W.heap.size + 1 by omega) _).setCell (show W.heap.size ≤ W.heap.size + 1 by omega) _).setCell (show W.heap.size ≤ W.heap.size + 1 by omega) _
      have h0 := Lib.hid (E0.out (.inr (.inl h1)))
      clear hk1 hk2 B1
      go_wp2
      refine bodyPost_ret (results_cell_tmp rfl _ _ (W.heap.size + 1) 27 _ (0, 0) _ rfl HF.out Try.underlying27 rfl (by kernel_rfl)) rfl ?_
      refine ⟨none, 0, 0, ?_, ?_, HB.out⟩
      · rw [h0.out.1, h0.out.2.1, h0.out.2.2.1]; rfl
      · rw [h0.out.2.2.2]; exact Own.nil _ _ _ _
    by_cases h2 : (n : Int) ≤ k
    · skip
      have HF : Hid ((((x1.setCell ⟨W.heap.size + 1, 0, none⟩ (.string { data := #[] })).setCell ⟨W.heap.size + 1, 1, none⟩ (.int .i64 0)).setCell ⟨W.heap.size + 1, 2, none⟩ (.slice none 0 0)).heap[W.heap.size + 1]? = some (.cells #[.string { data := #[] }, .int .i64 0, .slice none 0 0] 27 (0, 0))) := Joins.block_setCell (Joins.block_setCell (Joins.block_setCell hk2 _) _) _
      have HB : Hid (Below W.heap.size W (((x1.setCell ⟨W.heap.size + 1, 0, none⟩ (.string { data := #[] })).setCell ⟨W.heap.size + 1, 1, none⟩ (.int .i64 0)).setCell ⟨W.heap.size + 1, 2, none⟩ (.slice none 0 0))) := ((B1.setCell (show W.heap.size ≤ W.heap.size + 1 by omega) _).setCell (show W.heap.size ≤ W.heap.size + 1 by omega) _).setCell (show W.heap.size ≤ W.heap.size + 1 by omega) _
      have h0 := Lib.hid (E0.out (.inr (.inr h2)))
      clear hk1 hk2 B1
      go_wp2
      refine bodyPost_ret (results_cell_tmp rfl _ _ (W.heap.size + 1) 27 _ (0, 0) _ rfl HF.out Try.underlying27 rfl (by kernel_rfl)) rfl ?_
      refine ⟨none, 0, 0, ?_, ?_, HB.out⟩
      · rw [h0.out.1, h0.out.2.1, h0.out.2.2.1]; rfl
      · rw [h0.out.2.2.2]; exact Own.nil _ _ _ _
    obtain ⟨kn, rfl⟩ : ∃ kn : Nat, k = (kn : Int) := ⟨k.toNat, by omega⟩
    have hkn : kn < n := by omega
    have h0 := Lib.hid (E1.out Hb.out.symm (by omega) (by omega))
    have HKf := Lib.hid (And.intro f0 (And.intro f1 f2))
    have HRd := Lib.hid (rotated_any A n c kn ss x1.drew hkn hnc hn (Hr.out.below B1.drew))
    have HWc : Hid (∀ B m d w, Calls Try.prog 56 #[.agg #[.string nm, .int .i64 st, .slice A n c], .slice B m d] w fun e w' => e = .returned (.agg #[.string nm, .int .i64 st, .slice B m d]) ∧ Below w.heap.size w w') := fun B m d w => withChanges_any nm st A B n c m d w
    clear hk1 hk2 a0 a1 a2 g0 g1 g2
    have s1' : W.heap.size < x1.drew.heap.size := by show W.heap.size < x1.heap.size; omega
    have s1'' : W.heap.size + 1 < x1.drew.heap.size := s1
    go_wp2
    go_region_held3 (fun w' => w'.cell? ⟨W.heap.size, 0, none⟩ = some (.string nm) ∧ w'.cell? ⟨W.heap.size, 1, none⟩ = some (.int .i64 st) ∧ w'.cell? ⟨W.heap.size, 2, none⟩ = some (.slice A n c))
      (first | go_keep | exact HKf.out | (exact keep3B hb2 s1' ⟨f0, f1, f2⟩) | (exact keep3B (hb2.trans (hb3.mono hb2.size)) s1' ⟨f0, f1, f2⟩) | (exact keep3B (((((hb2.trans (hb3.mono hb2.size)).mono (Nat.le_of_lt s1'')).setCell (Nat.le_refl _) _).setCell (Nat.le_refl _) _).setCell (Nat.le_refl _) _) (Nat.lt_succ_self _) ⟨f0, f1, f2⟩))
      (first | (go_at_call 60; refine HRd.out.mono ?_; rintro e x2 ⟨A2, n2, c2, rfl, ho2, hb2⟩) | (go_at_call 56; refine (HWc.out A2 n2 c2 x2).mono ?_; rintro e x3 ⟨rfl, hb3⟩; have hk3 := (hb3.block _ (Nat.lt_of_lt_of_le s1'' hb2.size)).trans ((hb2.block _ s1'').trans HA2.out); have a0 : x3.cell? ⟨W.heap.size + 1, 0, none⟩ = some (.string { data := #[] }) := (by simp [World.cell?, hk3]); have a1 : x3.cell? ⟨W.heap.size + 1, 1, none⟩ = some (.int .i64 0) := (by simp [World.cell?, hk3]); have a2 : x3.cell? ⟨W.heap.size + 1, 2, none⟩ = some (.slice none 0 0) := (by simp [World.cell?, hk3]); have g0 : x3.frozen? ⟨W.heap.size + 1, 0, none⟩ = false := (by simp [World.frozen?, hk3]); have g1 : x3.frozen? ⟨W.heap.size + 1, 1, none⟩ = false := (by simp [World.frozen?, hk3]); have g2 : x3.frozen? ⟨W.heap.size + 1, 2, none⟩ = false := (by simp [World.frozen?, hk3]); have Hk3 := Lib.hid hk3; clear hk3))
    have HF : Hid ((((x3.setCell ⟨W.heap.size + 1, 0, none⟩ (.string nm)).setCell ⟨W.heap.size + 1, 1, none⟩ (.int .i64 st)).setCell ⟨W.heap.size + 1, 2, none⟩ (.slice A2 n2 c2)).heap[W.heap.size + 1]? = some (.cells #[.string nm, .int .i64 st, .slice A2 n2 c2] 27 (0, 0))) := Joins.block_setCell (Joins.block_setCell (Joins.block_setCell Hk3.out _) _) _
    have HW : Hid (Wr (W.heap.size + 1) (W.heap.size + 1 + 1) x3 (((x3.setCell ⟨W.heap.size + 1, 0, none⟩ (.string nm)).setCell ⟨W.heap.size + 1, 1, none⟩ (.int .i64 st)).setCell ⟨W.heap.size + 1, 2, none⟩ (.slice A2 n2 c2))) :=
      wr_three x3 (W.heap.size + 1) _ _ _
    have hB3 : Below W.heap.size W x3 := B1.drew.trans ((hb2.trans (hb3.mono hb2.size)).mono B1.drew.size)
    have HO3 : Own x3 9 x1.drew.heap.size x2.heap.size A2 n2 c2 (strsV (ss.drop kn ++ ss.take kn)) := ho2.below hb3
    have HO4 := Lib.hid ((HO3.wr HW.out (.inr (show W.heap.size + 1 + 1 ≤ x1.heap.size by omega))).mono (show W.heap.size ≤ x1.heap.size by omega) (Nat.le_trans hb3.size HW.out.size))
    have HB4 : Hid (Below W.heap.size W _) := hB3.trans (HW.out.below (show W.heap.size ≤ W.heap.size + 1 by omega) (show W.heap.size ≤ x3.heap.size from hB3.size))
    clear a0 a1 a2 g0 g1 g2 hB3 HO3 hb2 hb3 ho2
    go_wp2
    refine bodyPost_ret (results_cell_tmp rfl _ _ (W.heap.size + 1) 27 _ (0, 0) _ rfl HF.out Try.underlying27 rfl (by kernel_rfl)) rfl ?_
    refine ⟨A2, n2, c2, ?_, ?_, HB4.out⟩
    · rw [h0.out.1, h0.out.2.1, h0.out.2.2.1]; rfl
    · rw [h0.out.2.2.2, Int.toNat_natCast]; exact HO4.out
set_option maxRecDepth 100000 in
set_option maxHeartbeats 2000000 in
theorem l4Start_any (nm : ByteArray) (st : Int) (A : Option Addr) (n c k : Nat) (ss : List ByteArray) (W : World) (hk : k < n) (hnc : n ≤ c) (hn : n ≤ 1048576) (hr : Rd W A n (strsV ss)) :
    Calls Try.prog 59 #[.agg #[.string nm, .int .i64 st, .slice A n c], .int .i64 k] W (RetM nm st (ss.drop k ++ ss.take k) W) := by
  obtain ⟨b, o, rfl, hbk, hcs⟩ := hr.strD hk
  have i1 : (0 : Int) ≤ (k : Int) := by omega
  have i2 : (k : Int) ≤ (n : Int) := by omega
  have i3 : (n : Int) ≤ (c : Int) := by omega
  have i4 : (k : Int) ≤ (c : Int) := by omega
  have i5 : k ≤ n := by omega
  have i6 : k ≤ c := by omega
  have i7 : ¬ c = k := by omega
  obtain ⟨W0, hW0⟩ : ∃ W0, W0 = (W.alloc (.cells #[.string nm, .int .i64 st, .slice (some ⟨b, o, none⟩) n c] 27)).alloc (.cells #[.string { data := #[] }, .int .i64 0, .slice none 0 0] 27) := ⟨_, rfl⟩
  have hbW : Below W.heap.size W W0 := by rw [hW0]; exact (below_alloc W _).alloc (by simp) _
  have hsW : W0.heap.size = W.heap.size + 1 + 1 := by rw [hW0]; simp
  have hk1 : W0.heap[W.heap.size]? = some (.cells #[.string nm, .int .i64 st, .slice (some ⟨b, o, none⟩) n c] 27 (0, 0)) := by rw [hW0]; exact (heap_past _ _ _ (by simp)).trans (heap_last _ _ _ rfl)
  have hk2 : W0.heap[W.heap.size + 1]? = some (.cells #[.string { data := #[] }, .int .i64 0, .slice none 0 0] 27 (0, 0)) := by rw [hW0]; exact heap_last _ _ _ (by simp)
  have f0 : W0.cell? ⟨W.heap.size, 0, none⟩ = some (.string nm) := by simp [World.cell?, hk1]
  have f1 : W0.cell? ⟨W.heap.size, 1, none⟩ = some (.int .i64 st) := by simp [World.cell?, hk1]
  have f2 : W0.cell? ⟨W.heap.size, 2, none⟩ = some (.slice (some ⟨b, o, none⟩) n c) := by simp [World.cell?, hk1]
  have HKf := Lib.hid (And.intro f0 (And.intro f1 f2))
  have HK2 := Lib.hid hk2
  have hbD : Below W.heap.size W W0.drew := hbW.drew
  have HOwn := Lib.hid (l1OwnS_any (some ⟨b, o + k, none⟩) (n - k) (c - k) (ss.drop k) W0.drew (by omega) ((hr.dropV i5).below hbD))
  have hrt : Rd W0.drew (some ⟨b, o, none⟩) k (strsV (ss.take k)) := by
    have := (hr.takeV i5).below hbD
    rw [strsV, ← List.map_take] at this
    exact this
  have HRT := Lib.hid hrt
  have Hl := Lib.hid hr.slen
  have t1 : W.heap.size < W0.drew.heap.size := by show W.heap.size < W0.heap.size; omega
  have t2 : W.heap.size + 1 < W0.drew.heap.size := by show W.heap.size + 1 < W0.heap.size; omega
  have HBD := Lib.hid hbD
  clear hr hcs hbW hk1 hk2 hrt hbD hsW
  go_enter Try.func59, Try.ntmps59
  go_wp2
  rw [← hW0]
  clear hW0
  go_region_held3 (fun w' => w'.cell? ⟨W.heap.size, 0, none⟩ = some (.string nm) ∧ w'.cell? ⟨W.heap.size, 1, none⟩ = some (.int .i64 st) ∧ w'.cell? ⟨W.heap.size, 2, none⟩ = some (.slice (some ⟨b, o, none⟩) n c))
    (first | go_keep | exact HKf.out | (exact keep3B hb2 t1 ⟨f0, f1, f2⟩) | (exact keep3B (hb2.trans hb4) t1 ⟨f0, f1, f2⟩) | (exact keep3B ((((hb2.trans hb4).mono (Nat.le_of_lt t2)).setCell (Nat.le_refl _) _).setCell (Nat.le_refl _) _ |>.setCell (Nat.le_refl _) _) (Nat.lt_succ_self _) ⟨f0, f1, f2⟩))
    (first | (go_at_call 87; refine HOwn.out.mono ?_; rintro e x2 ⟨A2, n2, c2, rfl, ho2, hb2⟩; have hn2 : n2 ≤ 1048576 := (by have := ho2.rd.slen; rw [List.length_drop] at this; have := Hl.out; omega); have hN : n2 + k ≤ 4294967296 := (by omega)) | (refine step_appendNx x2 (by rfl) (.tmp 13) (.tmp 17) 22 (by rfl) 9 (.string ByteArray.empty) 16 Try.underlying22 info_str (by rfl) W0.drew.heap.size A2 n2 c2 (strsV (ss.drop k)) (by rfl) ho2 (some ⟨b, o, none⟩) k c (strsV (ss.take k)) (by rfl) (fun e => by cases e) (HRT.out.below hb2) (strs_one _) hN (by omega) hb2.size ?_; intro A4 c4 x4 ho4 hx4 hat4; have hb4 : Below W0.drew.heap.size x2 x4 := ho2.below_ hx4 hb2.size; have hk4 := (hb4.block _ t2).trans ((hb2.block _ t2).trans HK2.out); have a0 : x4.cell? ⟨W.heap.size + 1, 0, none⟩ = some (.string { data := #[] }) := (by simp [World.cell?, hk4]); have a1 : x4.cell? ⟨W.heap.size + 1, 1, none⟩ = some (.int .i64 0) := (by simp [World.cell?, hk4]); have a2 : x4.cell? ⟨W.heap.size + 1, 2, none⟩ = some (.slice none 0 0) := (by simp [World.cell?, hk4]); have g0 : x4.frozen? ⟨W.heap.size + 1, 0, none⟩ = false := (by simp [World.frozen?, hk4]); have g1 : x4.frozen? ⟨W.heap.size + 1, 1, none⟩ = false := (by simp [World.frozen?, hk4]); have g2 : x4.frozen? ⟨W.heap.size + 1, 2, none⟩ = false := (by simp [World.frozen?, hk4]); have Hk4 := Lib.hid hk4; clear hk4) | fail)
  have HF : Hid ((((x4.setCell ⟨W.heap.size + 1, 0, none⟩ (.string nm)).setCell ⟨W.heap.size + 1, 1, none⟩ (.int .i64 st)).setCell ⟨W.heap.size + 1, 2, none⟩ (.slice A4 (n2 + k) c4)).heap[W.heap.size + 1]? = some (.cells #[.string nm, .int .i64 st, .slice A4 (n2 + k) c4] 27 (0, 0))) := Joins.block_setCell (Joins.block_setCell (Joins.block_setCell Hk4.out _) _) _
  have HW : Hid (Wr (W.heap.size + 1) (W.heap.size + 1 + 1) x4 (((x4.setCell ⟨W.heap.size + 1, 0, none⟩ (.string nm)).setCell ⟨W.heap.size + 1, 1, none⟩ (.int .i64 st)).setCell ⟨W.heap.size + 1, 2, none⟩ (.slice A4 (n2 + k) c4))) := wr_three x4 (W.heap.size + 1) _ _ _
  have hB4 : Below W.heap.size W x4 := HBD.out.trans ((hb2.trans hb4).mono HBD.out.size)
  have HO4 := Lib.hid (((ho4.congr (show strsV (ss.drop k) ++ strsV (ss.take k) = strsV (ss.drop k ++ ss.take k) by simp [strsV])).wr HW.out (.inr (show W.heap.size + 1 + 1 ≤ W0.drew.heap.size by omega))).mono (show W.heap.size ≤ W0.drew.heap.size by omega) HW.out.size)
  have HB4 : Hid (Below W.heap.size W _) := hB4.trans (HW.out.below (show W.heap.size ≤ W.heap.size + 1 by omega) hB4.size)
  clear a0 a1 a2 g0 g1 g2 hB4 hb2 hb4 ho2 ho4 hx4 hat4
  go_wp2
  refine bodyPost_ret (results_cell_row rfl _ _ (W.heap.size + 1) 27 _ (0, 0) _ rfl HF.out Try.underlying27 rfl (by kernel_rfl)) rfl ?_
  exact ⟨A4, n2 + k, c4, rfl, HO4.out, HB4.out⟩
set_option maxRecDepth 100000 in
set_option maxHeartbeats 2000000 in
theorem sp_StartAt (nm : ByteArray) (st : Int) (A : Option Addr) (n c : Nat) (ss : List ByteArray) (k : Int) (W : World) (hs : nm.size ≤ 1048576) (hw : (Lit.int .i64 st).wf = true) (hnc : n ≤ c) (hr : Rd W A n (strsV ss)) (hz : ∀ s ∈ ss, s.size ≤ 1048576) (hl : ss.length ≤ 1048576) (hwk : (Lit.int .i64 k).wf = true) :
    Calls Try.prog 23 #[.agg #[.string nm, .int .i64 st, .slice A n c], .int .i64 k] W (RetMB (onSA nm st ss k) (osSA nm st ss k) (olSA nm st ss k) (okSA nm st ss k) W) := by
  obtain ⟨b, hb⟩ : ∃ b, b = methB nm st ss := ⟨_, rfl⟩
  have HC : Hid (∀ W', Below W.heap.size W W' → Calls Try.prog 54 #[.agg #[.string nm, .int .i64 st, .slice A n c]] W' fun e w' => e = .returned (.bool b) ∧ Below W'.heap.size W' w') := fun W' h => by rw [hb]; exact l4Good_any nm st A n c ss W' (by omega) (hr.below h) (fun s hs => by have := hz s hs; omega)
  have Hb := Lib.hid hb
  have Hl := Lib.hid hr.slen
  have Hr := Lib.hid hr
  have hn : n ≤ 1048576 := by have := hr.slen; omega
  have E1 : Hid (methB nm st ss = true → 0 ≤ k → k < (n : Int) → okSA nm st ss k = true ∧ onSA nm st ss k = nm ∧ osSA nm st ss k = st ∧ olSA nm st ss k = ss.drop k.toNat ++ ss.take k.toNat) := fun h h1 h2 => by
    have e : okSA nm st ss k = true := by unfold okSA; rw [h, hr.slen]; simp [h1, h2]
    refine ⟨e, ?_, ?_, ?_⟩ <;> simp [onSA, osSA, olSA, e]
  have E0 : Hid (methB nm st ss = false ∨ k < 0 ∨ (n : Int) ≤ k → okSA nm st ss k = false ∧ onSA nm st ss k = ByteArray.empty ∧ osSA nm st ss k = 0 ∧ olSA nm st ss k = []) := fun h => by
    have e : okSA nm st ss k = false := by
      unfold okSA; rw [hr.slen]
      rcases h with h | h | h
      · simp [h]
      · rw [decide_eq_false (show ¬ 0 ≤ k by omega)]; simp
      · rw [decide_eq_false (show ¬ k < (n : Int) by omega)]; simp
    refine ⟨e, ?_, ?_, ?_⟩ <;> simp [onSA, osSA, olSA, e]
  obtain ⟨W0, hW0⟩ : ∃ W0, W0 = (W.alloc (.cells #[.string nm, .int .i64 st, .slice A n c] 27)).alloc (.cells #[.string { data := #[] }, .int .i64 0, .slice none 0 0] 27) := ⟨_, rfl⟩
  have hbW : Below W.heap.size W W0 := by rw [hW0]; exact (below_alloc W _).alloc (by simp) _
  have hsW : W0.heap.size = W.heap.size + 1 + 1 := by rw [hW0]; simp
  have hk1 : W0.heap[W.heap.size]? = some (.cells #[.string nm, .int .i64 st, .slice A n c] 27 (0, 0)) := by rw [hW0]; exact (heap_past _ _ _ (by simp)).trans (heap_last _ _ _ rfl)
  have hk2 : W0.heap[W.heap.size + 1]? = some (.cells #[.string { data := #[] }, .int .i64 0, .slice none 0 0] 27 (0, 0)) := by rw [hW0]; exact heap_last _ _ _ (by simp)
  have HK1 := Lib.hid hk1
  have HK2 := Lib.hid hk2
  clear hb hr hz hk1 hk2
  obtain ⟨r, hrr⟩ : ∃ r, r = inB k 0 ((n : Int) - 1) := ⟨_, rfl⟩
  have HI : Hid (∀ w, Calls Try.prog 58 #[.int .i64 k, .int .i64 0, .int .i64 ((n : Int) - 1)] w fun e w' => e = .returned (.bool r) ∧ w = w') := fun w => by rw [hrr]; exact l1In_any k 0 _ w
  have Hrr := Lib.hid hrr
  clear hrr
  go_enter Try.func23, Try.ntmps23
  go_wp2_with fail
  rw [← hW0]
  refine (HC.out _ hbW).mono ?_
  rintro e x1 ⟨rfl, hb1⟩
  have B1 : Below W.heap.size W x1 := hbW.trans (hb1.mono hbW.size)
  have s1 : W.heap.size + 1 < x1.heap.size := by have := hb1.size; omega
  have hk1 : x1.heap[W.heap.size]? = some (.cells #[.string nm, .int .i64 st, .slice A n c] 27 (0, 0)) := (hb1.block _ (by omega)).trans HK1.out
  have hk2 : x1.heap[W.heap.size + 1]? = some (.cells #[.string { data := #[] }, .int .i64 0, .slice none 0 0] 27 (0, 0)) := (hb1.block _ (by omega)).trans HK2.out
  clear hW0 hb1 hbW hsW
  have HA1 := Lib.hid hk1
  have HA2 := Lib.hid hk2
  have f0 : x1.cell? ⟨W.heap.size, 0, none⟩ = some (.string nm) := by simp [World.cell?, hk1]
  have f1 : x1.cell? ⟨W.heap.size, 1, none⟩ = some (.int .i64 st) := by simp [World.cell?, hk1]
  have f2 : x1.cell? ⟨W.heap.size, 2, none⟩ = some (.slice A n c) := by simp [World.cell?, hk1]
  have a0 : x1.cell? ⟨W.heap.size + 1, 0, none⟩ = some (.string { data := #[] }) := by simp [World.cell?, hk2]
  have a1 : x1.cell? ⟨W.heap.size + 1, 1, none⟩ = some (.int .i64 0) := by simp [World.cell?, hk2]
  have a2 : x1.cell? ⟨W.heap.size + 1, 2, none⟩ = some (.slice none 0 0) := by simp [World.cell?, hk2]
  have g0 : x1.frozen? ⟨W.heap.size + 1, 0, none⟩ = false := by simp [World.frozen?, hk2]
  have g1 : x1.frozen? ⟨W.heap.size + 1, 1, none⟩ = false := by simp [World.frozen?, hk2]
  have g2 : x1.frozen? ⟨W.heap.size + 1, 2, none⟩ = false := by simp [World.frozen?, hk2]
  cases b with
  | false =>
    have HF : Hid ((((x1.setCell ⟨W.heap.size + 1, 0, none⟩ (.string { data := #[] })).setCell ⟨W.heap.size + 1, 1, none⟩ (.int .i64 0)).setCell ⟨W.heap.size + 1, 2, none⟩ (.slice none 0 0)).heap[W.heap.size + 1]? = some (.cells #[.string { data := #[] }, .int .i64 0, .slice none 0 0] 27 (0, 0))) := Joins.block_setCell (Joins.block_setCell (Joins.block_setCell hk2 _) _) _
    have HB : Hid (Below W.heap.size W (((x1.setCell ⟨W.heap.size + 1, 0, none⟩ (.string { data := #[] })).setCell ⟨W.heap.size + 1, 1, none⟩ (.int .i64 0)).setCell ⟨W.heap.size + 1, 2, none⟩ (.slice none 0 0))) := ((B1.setCell (show W.heap.size ≤ W.heap.size + 1 by omega) _).setCell (show W.heap.size ≤ W.heap.size + 1 by omega) _).setCell (show W.heap.size ≤ W.heap.size + 1 by omega) _
    have h0 := Lib.hid (E0.out (.inl Hb.out.symm))
    clear hk1 hk2 B1
    go_wp2
    refine bodyPost_ret (results_cell_tmp rfl _ _ (W.heap.size + 1) 27 _ (0, 0) _ rfl HF.out Try.underlying27 rfl (by kernel_rfl)) rfl ?_
    refine ⟨none, 0, 0, ?_, ?_, HB.out⟩
    · rw [h0.out.1, h0.out.2.1, h0.out.2.2.1]; rfl
    · rw [h0.out.2.2.2]; exact Own.nil _ _ _ _
  | true =>
    cases r with
    | false =>
      have hout : k < 0 ∨ (n : Int) ≤ k := by have := Hrr.out; simp only [inB, Bool.false_eq, decide_eq_false_iff_not] at this; omega
      have HOut := Lib.hid hout
      clear hout
      have HF : Hid ((((x1.setCell ⟨W.heap.size + 1, 0, none⟩ (.string { data := #[] })).setCell ⟨W.heap.size + 1, 1, none⟩ (.int .i64 0)).setCell ⟨W.heap.size + 1, 2, none⟩ (.slice none 0 0)).heap[W.heap.size + 1]? = some (.cells #[.string { data := #[] }, .int .i64 0, .slice none 0 0] 27 (0, 0))) := Joins.block_setCell (Joins.block_setCell (Joins.block_setCell hk2 _) _) _
      have HB : Hid (Below W.heap.size W (((x1.setCell ⟨W.heap.size + 1, 0, none⟩ (.string { data := #[] })).setCell ⟨W.heap.size + 1, 1, none⟩ (.int .i64 0)).setCell ⟨W.heap.size + 1, 2, none⟩ (.slice none 0 0))) := ((B1.setCell (show W.heap.size ≤ W.heap.size + 1 by omega) _).setCell (show W.heap.size ≤ W.heap.size + 1 by omega) _).setCell (show W.heap.size ≤ W.heap.size + 1 by omega) _
      have h0 := Lib.hid (E0.out (.inr HOut.out))
      clear hk1 hk2 B1
      go_wp2_with (go_at_call 58; refine (HI.out _).mono ?_; rintro e w9 ⟨rfl, rfl⟩)
      refine bodyPost_ret (results_cell_tmp rfl _ _ (W.heap.size + 1) 27 _ (0, 0) _ rfl HF.out Try.underlying27 rfl (by kernel_rfl)) rfl ?_
      refine ⟨none, 0, 0, ?_, ?_, HB.out⟩
      · rw [h0.out.1, h0.out.2.1, h0.out.2.2.1]; rfl
      · rw [h0.out.2.2.2]; exact Own.nil _ _ _ _
    | true =>
      have hin : 0 ≤ k ∧ k < (n : Int) := by have := Hrr.out; simp only [inB, Bool.true_eq, decide_eq_true_eq] at this; omega
      obtain ⟨kn, rfl⟩ : ∃ kn : Nat, k = (kn : Int) := ⟨k.toNat, by omega⟩
      have hkn : kn < n := by omega
      have h0 := Lib.hid (E1.out Hb.out.symm (by omega) (by omega))
      have HS := Lib.hid (l4Start_any nm st A n c kn ss x1 hkn hnc hn (Hr.out.below B1))
      clear hk1 hk2 a0 a1 a2 g0 g1 g2 hin
      go_wp2_with first
        | (go_at_call 58; refine (HI.out _).mono ?_; rintro e w9 ⟨rfl, rfl⟩)
        | (go_at_call 59; refine HS.out.mono ?_; rintro e x2 ⟨A2, n2, c2, rfl, ho2, hb2⟩; have hk3 := (hb2.block _ s1).trans HA2.out; have a0 : x2.cell? ⟨W.heap.size + 1, 0, none⟩ = some (.string { data := #[] }) := (by simp [World.cell?, hk3]); have a1 : x2.cell? ⟨W.heap.size + 1, 1, none⟩ = some (.int .i64 0) := (by simp [World.cell?, hk3]); have a2 : x2.cell? ⟨W.heap.size + 1, 2, none⟩ = some (.slice none 0 0) := (by simp [World.cell?, hk3]); have g0 : x2.frozen? ⟨W.heap.size + 1, 0, none⟩ = false := (by simp [World.frozen?, hk3]); have g1 : x2.frozen? ⟨W.heap.size + 1, 1, none⟩ = false := (by simp [World.frozen?, hk3]); have g2 : x2.frozen? ⟨W.heap.size + 1, 2, none⟩ = false := (by simp [World.frozen?, hk3]); have Hk3 := Lib.hid hk3; clear hk3)
      have HF : Hid ((((x2.setCell ⟨W.heap.size + 1, 0, none⟩ (.string nm)).setCell ⟨W.heap.size + 1, 1, none⟩ (.int .i64 st)).setCell ⟨W.heap.size + 1, 2, none⟩ (.slice A2 n2 c2)).heap[W.heap.size + 1]? = some (.cells #[.string nm, .int .i64 st, .slice A2 n2 c2] 27 (0, 0))) := Joins.block_setCell (Joins.block_setCell (Joins.block_setCell Hk3.out _) _) _
      have HW : Hid (Wr (W.heap.size + 1) (W.heap.size + 1 + 1) x2 (((x2.setCell ⟨W.heap.size + 1, 0, none⟩ (.string nm)).setCell ⟨W.heap.size + 1, 1, none⟩ (.int .i64 st)).setCell ⟨W.heap.size + 1, 2, none⟩ (.slice A2 n2 c2))) := wr_three x2 (W.heap.size + 1) _ _ _
      have hB3 : Below W.heap.size W x2 := B1.trans (hb2.mono B1.size)
      have HO4 := Lib.hid ((ho2.wr HW.out (.inr (show W.heap.size + 1 + 1 ≤ x1.heap.size by omega))).mono B1.size HW.out.size)
      have HB4 : Hid (Below W.heap.size W _) := hB3.trans (HW.out.below (show W.heap.size ≤ W.heap.size + 1 by omega) hB3.size)
      refine bodyPost_ret (results_cell_tmp rfl _ _ (W.heap.size + 1) 27 _ (0, 0) _ rfl HF.out Try.underlying27 rfl (by kernel_rfl)) rfl ?_
      refine ⟨A2, n2, c2, ?_, ?_, HB4.out⟩
      · rw [h0.out.1, h0.out.2.1, h0.out.2.2.1]; rfl
      · rw [h0.out.2.2.2, Int.toNat_natCast]; exact HO4.out
end Go.Proofs.Ytbmabfgnmafooaa
