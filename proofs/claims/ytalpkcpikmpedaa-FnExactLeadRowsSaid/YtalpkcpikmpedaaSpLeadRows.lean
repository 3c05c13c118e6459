/- LeadRows, of the reference and of the program: what each returns. -/
import Derived.Test.YtalpkcpikmpedaaWalkHd
import Derived.Test.YtalpkcpikmpedaaWalkM
namespace Go.Proofs.Ytalpkcpikmpedaa
open Go.RowKit
set_option linter.unusedVariables false

noncomputable def ok_LR (nm : ByteArray) (st : Int) (ss : List ByteArray) (r : ByteArray) : Bool := methB nm st ss && rowOfB st r
noncomputable def out_LeadRows (nm : ByteArray) (st : Int) (ss : List ByteArray) (r : ByteArray) : List ByteArray := if ok_LR nm st ss r = true then rowsTo r ss ss.length else []
theorem rowsTo_take (r : ByteArray) (cs : List ByteArray) (n : Nat) : (rowsTo r cs (n + 1)).take n = rowsTo r cs n := by
  rw [rowsTo_succ, List.take_append_of_le_length (by simp [rowsTo]), List.take_of_length_le (by simp [rowsTo])]
theorem Own.capI {w : World} {E : TypeId} {lo hi n c : Nat} {A : Option Addr} {xs : List Value} (h : Own w E lo hi A n c xs) : (n : Int) ≤ (c : Int) := by
  rcases h.1.2 with ⟨e, h0⟩ | ⟨g, cap, cur, e, _, _, h1, _⟩
  · omega
  · injection e with e1 e2 e3; omega
theorem rowsTo_length (r : ByteArray) (cs : List ByteArray) (n : Nat) : (rowsTo r cs n).length = n := by simp [rowsTo]
set_option maxRecDepth 100000 in
set_option maxHeartbeats 1000000 in
theorem leadRows_any (nm : ByteArray) (st : Int) (A : Option Addr) (n c : Nat) (ss : List ByteArray) (r : ByteArray) (W : World) (hn : n ≤ 40) (hr : Rd W A n (strsV ss)) (hrow : IsRow (bs r)) (hc : ∀ s ∈ ss, chB r.size s = true) :
    Calls Try.prog 65 #[.agg #[.string nm, .int .i64 st, .slice A n c], .string r] W fun e w' => ∃ A2 c2, e = .returned (.slice A2 n c2) ∧ Rd w' A2 n (strsV (rowsTo r ss n)) ∧ Below W.heap.size W w' := by
  have HL : Hid (∀ W', Below W.heap.size W W' → Calls Try.prog 71 #[.string r, .slice A n c] W' (RetS 9 (strsV (rowsTo r ss (n + 1))) W')) := fun W' h => rowsUnder_any A n c ss r W' hn (hr.below h) hrow hc
  have hbox := box3 W 27 (.string nm) (.int .i64 st) (.slice A n c)
  obtain ⟨B0, hB0⟩ : ∃ B, B = W.alloc (.cells #[.string nm, .int .i64 st, .slice A n c] 27) := ⟨_, rfl⟩
  rw [← hB0] at hbox
  have Hbox := Lib.hid hbox
  have hbB : Below W.heap.size W B0 := by rw [hB0]; exact below_alloc _ _
  have hsB : W.heap.size < B0.heap.size := by rw [hB0]; simp
  have hnI : (n : Int) ≤ ((n + 1 : Nat) : Int) := by omega
  have h0n : (0 : Int) ≤ (n : Int) := by omega
  clear hr hrow hc
  go_enter Try.func65, Try.ntmps65
  go_wp2
  rw [← hB0]
  obtain ⟨f0, f1, f2⟩ := hbox
  clear hB0
  have HL2 := Lib.hid (HL.out B0.drew hbB.drew)
  go_region_held3 (fun w' => w'.cell? ⟨W.heap.size, 1, none⟩ = some (.int .i64 st) ∧ w'.cell? ⟨W.heap.size, 2, none⟩ = some (.slice A n c))
    (first | go_keep | exact Hbox.out.2 | (exact (keep3 hb2 (by simpa using hsB) ⟨f0, f1, f2⟩).2))
    (first | (go_at_call 71; refine HL2.out.mono ?_; rintro e x2 ⟨A2, n2, c2, rfl, ho2, hb2⟩; (have hn2 : n2 = n + 1 := (by have := ho2.rd.slen; rw [rowsTo_length] at this; omega)); subst hn2; obtain ⟨g2, rfl, hg1, hg2, hg3⟩ := ho2.form (by omega); (have hcap : (n : Int) ≤ (c2 : Int) := (by have := ho2.capI; omega))))
  have HB2 : Hid (Below W.heap.size W x2) := hbB.drew.trans (hb2.mono hbB.drew.size)
  have HRd : Hid (Rd x2 (some ⟨g2, 0, none⟩) n (strsV (rowsTo r ss n))) := by
    have := ho2.rd.take (m := n) (by omega)
    rw [rowsTo_take] at this; exact this
  clear ho2
  go_wp2
  go_ret
  exact ⟨_, _, rfl, HRd.out, HB2.out⟩
set_option maxRecDepth 100000 in
set_option maxHeartbeats 1000000 in
theorem sp_LeadRows (nm : ByteArray) (st : Int) (A : Option Addr) (n c : Nat) (ss : List ByteArray) (r : ByteArray) (W : World) (hs : nm.size ≤ 1048576) (hw : (Lit.int .i64 st).wf = true) (hnc : n ≤ c) (hr : Rd W A n (strsV ss)) (hz : ∀ s ∈ ss, s.size ≤ 1048576) (hl : ss.length ≤ 1048576) (hrs : r.size ≤ 1048576) :
    Calls Try.prog 24 #[.agg #[.string nm, .int .i64 st, .slice A n c], .string r] W (RetSB 9 (strsV (out_LeadRows nm st ss r)) (ok_LR nm st ss r) W) := by
  have hln := hr.slen
  obtain ⟨b, hb⟩ : ∃ b, b = methB nm st ss := ⟨_, rfl⟩
  have HC : Hid (∀ W', Below W.heap.size W W' → Calls Try.prog 53 #[.agg #[.string nm, .int .i64 st, .slice A n c]] W' fun e w' => e = .returned (.bool b) ∧ Below W'.heap.size W' w') := fun W' h => by rw [hb]; exact l4Good_any nm st A n c ss W' (by omega) (hr.below h) (fun s hs => by have := hz s hs; omega)
  have HR := Lib.hid hr
  have Hb := Lib.hid hb
  have hm : r.size ≤ maxLen := by unfold maxLen; omega
  have Hbox := Lib.hid (box3 W 27 (.string nm) (.int .i64 st) (.slice A n c))
  have HM : Hid (b = true → ss.length = n ∧ n ≤ 40 ∧ ∀ s ∈ ss, chB st s = true) := fun h => by
    have h2 := meth_ok (nm := nm) (st := st) (ss := ss) (by rw [← hb]; exact h)
    exact ⟨hln, by omega, h2.2.2.2.2⟩
  have EN : Hid (ok_LR nm st ss r = false → out_LeadRows nm st ss r = []) := fun h => by unfold out_LeadRows; rw [h]; simp
  clear hb hr hz hln
  by_cases hbt : b = true
  · have HM2 := Lib.hid (HM.out hbt)
    subst hbt
    by_cases hg : rowB r = true
    · by_cases hsz : (r.size : Int) = st
      · have F : ok_LR nm st ss r = true := by
          unfold ok_LR rowOfB; rw [← Hb.out, hg, decide_eq_true hsz]; rfl
        have HF := Lib.hid F
        have E : Hid (out_LeadRows nm st ss r = rowsTo r ss n) := by unfold Hid out_LeadRows; rw [F, if_pos rfl, HM2.out.1]
        have HLd : Hid (∀ W', Below W.heap.size W W' → Calls Try.prog 62 #[.slice A n c, .string r] W' (RetST 9 (strsV (rowsTo r ss n)) (rowAt r ss n) W')) := fun W' h => l4Lead_any A n c ss r W' HM2.out.2.1 (HR.out.below h) (by simpa [rowB] using hg) (fun s hs => by rw [hsz]; exact HM2.out.2.2 s hs)
        have hne : ((r.size : Int) != st) = false := by simp [hsz]
        clear F hsz
        go_enter Try.func24, Try.ntmps24
        go_wp2_with fail
        obtain ⟨B0, hB0⟩ : ∃ B, B = W.alloc (.cells #[.string nm, .int .i64 st, .slice A n c] 27) := ⟨_, rfl⟩
        rw [← hB0]
        have hbB : Below W.heap.size W B0 := by rw [hB0]; exact below_alloc _ _
        have hsB : W.heap.size < B0.heap.size := by rw [hB0]; simp
        have hcB := Hbox.out
        rw [← hB0] at hcB
        refine (HC.out _ hbB).mono ?_
        rintro e x1 ⟨rfl, hb1⟩
        have B1 : Below W.heap.size W x1 := hbB.trans (hb1.mono hbB.size)
        have K1 := keep3 hb1 hsB hcB
        have HK1 := Lib.hid K1
        have s1 : W.heap.size < x1.heap.size := Nat.lt_of_lt_of_le hsB hb1.size
        obtain ⟨k0, k1, k2⟩ := K1
        clear hcB hB0 hb1
        go_wp2_with first
          | (go_at_call 61; refine (l1Row_any _ _ hm).mono ?_; rintro e w' ⟨rfl, d1, rfl⟩)
          | (go_at_call 62; refine (HLd.out _ (below_drewN' B1 _)).mono ?_; rintro e x2 ⟨A2, n2, c2, rfl, ho2, hb2⟩)
        go_ret2
        refine ⟨A2, n2, c2, ret_slb HF.out, ?_, (below_drewN' B1 _).trans (hb2.mono B1.size)⟩
        rw [E.out]; exact ho2.mono B1.size (Nat.le_refl _)
      · have F : ok_LR nm st ss r = false := by
          unfold ok_LR rowOfB; rw [decide_eq_false hsz]; simp
        have HF := Lib.hid F
        have hne : ((r.size : Int) != st) = true := by simp [hsz]
        clear F hsz
        go_enter Try.func24, Try.ntmps24
        go_wp2_with fail
        obtain ⟨B0, hB0⟩ : ∃ B, B = W.alloc (.cells #[.string nm, .int .i64 st, .slice A n c] 27) := ⟨_, rfl⟩
        rw [← hB0]
        have hbB : Below W.heap.size W B0 := by rw [hB0]; exact below_alloc _ _
        have hsB : W.heap.size < B0.heap.size := by rw [hB0]; simp
        have hcB := Hbox.out
        rw [← hB0] at hcB
        refine (HC.out _ hbB).mono ?_
        rintro e x1 ⟨rfl, hb1⟩
        have B1 : Below W.heap.size W x1 := hbB.trans (hb1.mono hbB.size)
        have K1 := keep3 hb1 hsB hcB
        have HK1 := Lib.hid K1
        have s1 : W.heap.size < x1.heap.size := Nat.lt_of_lt_of_le hsB hb1.size
        obtain ⟨k0, k1, k2⟩ := K1
        clear hcB hB0 hb1
        go_wp2_with (go_at_call 61; refine (l1Row_any _ _ hm).mono ?_; rintro e w' ⟨rfl, d1, rfl⟩)
        go_ret2
        refine ⟨none, 0, 0, ret_slb HF.out, ?_, below_drewN' B1 _⟩
        rw [EN.out HF.out]; exact Own.nil _ _ _ _
    · have hg' : rowB r = false := by simpa using hg
      have F : ok_LR nm st ss r = false := by
        unfold ok_LR rowOfB; rw [hg']; simp
      have HF := Lib.hid F
      clear F hg
      go_enter Try.func24, Try.ntmps24
      go_wp2_with fail
      obtain ⟨B0, hB0⟩ : ∃ B, B = W.alloc (.cells #[.string nm, .int .i64 st, .slice A n c] 27) := ⟨_, rfl⟩
      rw [← hB0]
      have hbB : Below W.heap.size W B0 := by rw [hB0]; exact below_alloc _ _
      have hsB : W.heap.size < B0.heap.size := by rw [hB0]; simp
      have hcB := Hbox.out
      rw [← hB0] at hcB
      refine (HC.out _ hbB).mono ?_
      rintro e x1 ⟨rfl, hb1⟩
      have B1 : Below W.heap.size W x1 := hbB.trans (hb1.mono hbB.size)
      have K1 := keep3 hb1 hsB hcB
      have HK1 := Lib.hid K1
      have s1 : W.heap.size < x1.heap.size := Nat.lt_of_lt_of_le hsB hb1.size
      obtain ⟨k0, k1, k2⟩ := K1
      clear hcB hB0 hb1
      go_wp2_with (go_at_call 61; refine (l1Row_any _ _ hm).mono ?_; rintro e w' ⟨rfl, d1, rfl⟩)
      go_ret2
      refine ⟨none, 0, 0, ret_slb HF.out, ?_, below_drewN' B1 _⟩
      rw [EN.out HF.out]; exact Own.nil _ _ _ _
  · have hbf : b = false := by simpa using hbt
    have F : ok_LR nm st ss r = false := by unfold ok_LR; rw [← Hb.out, hbf]; rfl
    have HF := Lib.hid F
    clear F hbt
    subst hbf
    go_enter Try.func24, Try.ntmps24
    go_wp2_with fail
    obtain ⟨B0, hB0⟩ : ∃ B, B = W.alloc (.cells #[.string nm, .int .i64 st, .slice A n c] 27) := ⟨_, rfl⟩
    rw [← hB0]
    have hbB : Below W.heap.size W B0 := by rw [hB0]; exact below_alloc _ _
    have hsB : W.heap.size < B0.heap.size := by rw [hB0]; simp
    have hcB := Hbox.out
    rw [← hB0] at hcB
    refine (HC.out _ hbB).mono ?_
    rintro e x1 ⟨rfl, hb1⟩
    have B1 : Below W.heap.size W x1 := hbB.trans (hb1.mono hbB.size)
    have K1 := keep3 hb1 hsB hcB
    have HK1 := Lib.hid K1
    have s1 : W.heap.size < x1.heap.size := Nat.lt_of_lt_of_le hsB hb1.size
    obtain ⟨k0, k1, k2⟩ := K1
    clear hcB hB0 hb1
    go_wp2
    go_ret2
    refine ⟨none, 0, 0, ret_slb HF.out, ?_, B1⟩
    rw [EN.out HF.out]; exact Own.nil _ _ _ _
set_option maxRecDepth 100000 in
set_option maxHeartbeats 1000000 in
theorem im_LeadRows (nm : ByteArray) (st : Int) (A : Option Addr) (n c : Nat) (ss : List ByteArray) (r : ByteArray) (W : World) (hs : nm.size ≤ 1048576) (hw : (Lit.int .i64 st).wf = true) (hnc : n ≤ c) (hr : Rd W A n (strsV ss)) (hz : ∀ s ∈ ss, s.size ≤ 1048576) (hl : ss.length ≤ 1048576) (hrs : r.size ≤ 1048576) :
    Calls Try.prog 25 #[.agg #[.string nm, .int .i64 st, .slice A n c], .string r] W (RetSB 9 (strsV (out_LeadRows nm st ss r)) (ok_LR nm st ss r) W) := by
  have hln := hr.slen
  obtain ⟨b, hb⟩ : ∃ b, b = methB nm st ss := ⟨_, rfl⟩
  have HC : Hid (∀ W', Below W.heap.size W W' → Calls Try.prog 18 #[.agg #[.string nm, .int .i64 st, .slice A n c]] W' fun e w' => e = .returned (.bool b) ∧ Below W'.heap.size W' w') := fun W' h => by rw [hb]; exact GoodMethod_any nm st A n c ss W' (by omega) (hr.below h) (fun s hs => by have := hz s hs; omega)
  have HR := Lib.hid hr
  have Hb := Lib.hid hb
  have hm : r.size ≤ maxLen := by unfold maxLen; omega
  have Hbox := Lib.hid (box3 W 27 (.string nm) (.int .i64 st) (.slice A n c))
  have HM : Hid (b = true → ss.length = n ∧ n ≤ 40 ∧ ∀ s ∈ ss, chB st s = true) := fun h => by
    have h2 := meth_ok (nm := nm) (st := st) (ss := ss) (by rw [← hb]; exact h)
    exact ⟨hln, by omega, h2.2.2.2.2⟩
  have EN : Hid (ok_LR nm st ss r = false → out_LeadRows nm st ss r = []) := fun h => by unfold out_LeadRows; rw [h]; simp
  clear hb hr hz hln
  by_cases hbt : b = true
  · have HM2 := Lib.hid (HM.out hbt)
    subst hbt
    by_cases hq : rowOfB st r = true
    · have F : ok_LR nm st ss r = true := by unfold ok_LR; rw [← Hb.out, hq]; rfl
      have HF := Lib.hid F
      have E : Hid (out_LeadRows nm st ss r = rowsTo r ss n) := by unfold Hid out_LeadRows; rw [F, if_pos rfl, HM2.out.1]
      have hq2 : (r.size : Int) = st ∧ rowB r = true := by simpa [rowOfB] using hq
      have HLd : Hid (∀ W', Below W.heap.size W W' → Calls Try.prog 65 #[.agg #[.string nm, .int .i64 st, .slice A n c], .string r] W' fun e w' => ∃ A2 c2, e = .returned (.slice A2 n c2) ∧ Rd w' A2 n (strsV (rowsTo r ss n)) ∧ Below W'.heap.size W' w') := fun W' h => leadRows_any nm st A n c ss r W' HM2.out.2.1 (HR.out.below h) (by simpa [rowB] using hq2.2) (fun s hs => by rw [hq2.1]; exact HM2.out.2.2 s hs)
      have hn4 : n ≤ 4194304 := by have := HM2.out.2.1; omega
      clear F hq2
      go_enter Try.func25, Try.ntmps25
      go_wp2_with fail
      obtain ⟨B0, hB0⟩ : ∃ B, B = W.alloc (.cells #[.string nm, .int .i64 st, .slice A n c] 27) := ⟨_, rfl⟩
      rw [← hB0]
      have hbB : Below W.heap.size W B0 := by rw [hB0]; exact below_alloc _ _
      have hsB : W.heap.size < B0.heap.size := by rw [hB0]; simp
      have hcB := Hbox.out
      rw [← hB0] at hcB
      refine (HC.out _ hbB).mono ?_
      rintro e x1 ⟨rfl, hb1⟩
      have B1 : Below W.heap.size W x1 := hbB.trans (hb1.mono hbB.size)
      have K1 := keep3 hb1 hsB hcB
      have HK1 := Lib.hid K1
      have s1 : W.heap.size < x1.heap.size := Nat.lt_of_lt_of_le hsB hb1.size
      obtain ⟨k0, k1, k2⟩ := K1
      clear hcB hB0 hb1
      go_wp2_with first
        | (go_at_call 63; refine (isRowOf_any _ _ _ hm).mono ?_; rintro e w' ⟨rfl, rfl⟩)
        | (go_at_call 65; refine (HLd.out _ B1).mono ?_; rintro e x2 ⟨A2, c2, rfl, hr2, hb2⟩)
        | (go_at_call 64; refine (cloneS_any A2 n c2 _ _ hn4 hr2).mono ?_; rintro e x3 ⟨A3, n3, c3, rfl, ho3, hb3⟩)
      go_ret2
      have B2 : Below W.heap.size W x2 := B1.trans (hb2.mono B1.size)
      refine ⟨A3, n3, c3, ret_slb HF.out, ?_, B2.trans (hb3.mono B2.size)⟩
      rw [E.out]; exact ho3.mono B2.size (Nat.le_refl _)
    · have hq' : rowOfB st r = false := by simpa using hq
      have F : ok_LR nm st ss r = false := by unfold ok_LR; rw [hq']; simp
      have HF := Lib.hid F
      clear F hq
      go_enter Try.func25, Try.ntmps25
      go_wp2_with fail
      obtain ⟨B0, hB0⟩ : ∃ B, B = W.alloc (.cells #[.string nm, .int .i64 st, .slice A n c] 27) := ⟨_, rfl⟩
      rw [← hB0]
      have hbB : Below W.heap.size W B0 := by rw [hB0]; exact below_alloc _ _
      have hsB : W.heap.size < B0.heap.size := by rw [hB0]; simp
      have hcB := Hbox.out
      rw [← hB0] at hcB
      refine (HC.out _ hbB).mono ?_
      rintro e x1 ⟨rfl, hb1⟩
      have B1 : Below W.heap.size W x1 := hbB.trans (hb1.mono hbB.size)
      have K1 := keep3 hb1 hsB hcB
      have HK1 := Lib.hid K1
      have s1 : W.heap.size < x1.heap.size := Nat.lt_of_lt_of_le hsB hb1.size
      obtain ⟨k0, k1, k2⟩ := K1
      clear hcB hB0 hb1
      go_wp2_with (go_at_call 63; refine (isRowOf_any _ _ _ hm).mono ?_; rintro e w' ⟨rfl, rfl⟩)
      go_ret2
      refine ⟨none, 0, 0, ret_slb HF.out, ?_, B1⟩
      rw [EN.out HF.out]; exact Own.nil _ _ _ _
  · have hbf : b = false := by simpa using hbt
    have F : ok_LR nm st ss r = false := by unfold ok_LR; rw [← Hb.out, hbf]; rfl
    have HF := Lib.hid F
    clear F hbt
    subst hbf
    go_enter Try.func25, Try.ntmps25
    go_wp2_with fail
    obtain ⟨B0, hB0⟩ : ∃ B, B = W.alloc (.cells #[.string nm, .int .i64 st, .slice A n c] 27) := ⟨_, rfl⟩
    rw [← hB0]
    have hbB : Below W.heap.size W B0 := by rw [hB0]; exact below_alloc _ _
    have hsB : W.heap.size < B0.heap.size := by rw [hB0]; simp
    have hcB := Hbox.out
    rw [← hB0] at hcB
    refine (HC.out _ hbB).mono ?_
    rintro e x1 ⟨rfl, hb1⟩
    have B1 : Below W.heap.size W x1 := hbB.trans (hb1.mono hbB.size)
    have K1 := keep3 hb1 hsB hcB
    have HK1 := Lib.hid K1
    have s1 : W.heap.size < x1.heap.size := Nat.lt_of_lt_of_le hsB hb1.size
    obtain ⟨k0, k1, k2⟩ := K1
    clear hcB hB0 hb1
    go_wp2
    go_ret2
    refine ⟨none, 0, 0, ret_slb HF.out, ?_, B1⟩
    rw [EN.out HF.out]; exact Own.nil _ _ _ _
end Go.Proofs.Ytalpkcpikmpedaa
