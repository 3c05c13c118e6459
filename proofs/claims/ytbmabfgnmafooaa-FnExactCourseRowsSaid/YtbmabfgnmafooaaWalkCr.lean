/- The rows of the plain course: the plain facts, and the reference's walk. -/
import Derived.Test.YtbmabfgnmafooaaWalkPb
import Derived.Test.YtbmabfgnmafooaaSpLeadsIn
import Derived.Test.YtbmabfgnmafooaaSpLeadRows
namespace Go.Proofs.Ytbmabfgnmafooaa
open Go.RowKit
set_option linter.unusedVariables false

noncomputable def crK (st : Int) (ss : List ByteArray) : Nat := ordK (bs (lhS st ss))
noncomputable def hdS (st : Int) (ss : List ByteArray) (i : Nat) : ByteArray := mkS (powL (bs (lhS st ss)) i)
noncomputable def coR (st : Int) (ss : List ByteArray) (k : Nat) : List ByteArray := (List.range k).flatMap fun i => rowsTo (hdS st ss i) ss ss.length
theorem coR_succ (st : Int) (ss : List ByteArray) (k : Nat) : coR st ss (k + 1) = coR st ss k ++ rowsTo (hdS st ss k) ss ss.length := by
  unfold coR; rw [List.range_succ, List.flatMap_append]; simp
theorem coR_len (st : Int) (ss : List ByteArray) : ∀ k, (coR st ss k).length = k * ss.length
  | 0 => by simp [coR]
  | k + 1 => by rw [coR_succ, List.length_append, coR_len st ss k, rowsTo_len, Nat.succ_mul]
/-- the rows from a row are its products with those from rounds -/
theorem rowAt_mul {m : Nat} {r : ByteArray} {cs : List ByteArray} (h3 : 3 ≤ m) (h8 : m ≤ 8) (hr : IsRow (bs r)) (hs : r.size = m) (hc : ∀ c ∈ cs, chB (m : Int) c = true) : ∀ k, k ≤ cs.length → bs (rowAt r cs k) = timesL (bs r) (bs (rowAt (rnd (m : Int)) cs k))
  | 0, _ => by
    have e : bs (rowAt (rnd (m : Int)) cs 0) = roundsL (bs r).length := by
      simp only [rowAt, List.take_zero, List.foldl_nil]; unfold rnd; rw [bs_mkS, size_bs, hs, Int.toNat_natCast]
    rw [e, times_rounds (by rw [size_bs]; omega)]; simp [rowAt]
  | k + 1, hk => by
    have ih := rowAt_mul h3 h8 hr hs hc k (by omega)
    have hkl : k < cs.length := by omega
    obtain ⟨h0, hz⟩ := rnd_ok h3 h8
    have a := rowAt_ok (cs := cs) hr (fun c h => by rw [hs]; exact hc c h) k (by omega)
    have b := rowAt_ok (cs := cs) h0 (fun c h => by rw [hz]; exact hc c h) k (by omega)
    have hcr := crS_row (hc _ (List.getElem_mem hkl))
    have hcz := crS_size (m : Int) cs[k]
    rw [rowAt_succ r hkl, rowAt_succ _ hkl]
    unfold apS
    rw [bs_mkS, bs_mkS, ih, a.2, b.2, hs, hz]
    refine times_assoc fun x hx => ?_
    have := hcr.dig_lt hx
    rw [size_bs, hcz] at this
    rw [size_bs, b.2, hz]; omega
theorem hd_ok {nm : ByteArray} {st : Int} {ss : List ByteArray} (h : methB nm st ss = true) (i : Nat) : IsRow (bs (hdS st ss i)) ∧ ((hdS st ss i).size : Int) = st := by
  have hl := lh_ok h
  have hp := powL_row hl.1 i
  unfold hdS
  rw [bs_mkS, size_mkS, hp.2, size_bs]
  exact ⟨hp.1, hl.2⟩
theorem hd_next {nm : ByteArray} {st : Int} {ss : List ByteArray} (h : methB nm st ss = true) (i : Nat) : rowAt (hdS st ss i) ss ss.length = hdS st ss (i + 1) := by
  obtain ⟨_, h40, h3, h8, hch⟩ := meth_ok h
  have ho := hd_ok h i
  obtain ⟨m, rfl⟩ : ∃ m : Nat, st = (m : Int) := ⟨st.toNat, by omega⟩
  apply bs_inj
  rw [rowAt_mul (m := m) (by omega) (by omega) ho.1 (by omega) hch _ (Nat.le_refl _)]
  show timesL (bs (hdS (m : Int) ss i)) (bs (lhS (m : Int) ss)) = _
  unfold hdS
  rw [bs_mkS, bs_mkS]; rfl
theorem hd_zero {nm : ByteArray} {st : Int} {ss : List ByteArray} (h : methB nm st ss = true) : hdS st ss 0 = mkS (roundsL st.toNat) := by
  have hl := lh_ok h
  unfold hdS
  rw [show powL (bs (lhS st ss)) 0 = roundsL (bs (lhS st ss)).length from rfl, size_bs]
  congr 2; omega
theorem powsB_get (st : Int) (ss : List ByteArray) {k K : Nat} (h : k < K) : getS (powsB (lhS st ss) K) k = hdS st ss k := by
  unfold getS powsB hdS; rw [List.getD_eq_getElem?_getD, List.getElem?_map, List.getElem?_range h]; rfl
theorem crK_ok {nm : ByteArray} {st : Int} {ss : List ByteArray} (h : methB nm st ss = true) : 1 ≤ crK st ss ∧ crK st ss ≤ 16777216 := by
  have := ordK_ok (lh_ok h).1
  exact ⟨this.1.1, this.2⟩
noncomputable def ok_CourseRows (nm : ByteArray) (st : Int) (ss : List ByteArray) : Bool := methB nm st ss && decide (ss.length * crK st ss ≤ 800)
noncomputable def out_CourseRows (nm : ByteArray) (st : Int) (ss : List ByteArray) : List ByteArray := if ok_CourseRows nm st ss = true then coR st ss (crK st ss) else []
theorem len_CourseRows (nm : ByteArray) (st : Int) (ss : List ByteArray) (hl : ss.length ≤ 1048576) : (out_CourseRows nm st ss).length ≤ 4194304 := by
  unfold out_CourseRows
  split
  · rename_i h
    simp only [ok_CourseRows, Bool.and_eq_true, decide_eq_true_eq] at h
    rw [coR_len, Nat.mul_comm]; omega
  · simp
theorem keep3y {x y : World} {g : Nat} {A : Option Addr} {n c : Nat} {v0 v1 v2 : Value} (hw : Wx (Value.slice A n c).ownBlock x y) (hg : g < x.heap.size) (ho : Off A n c g) (h : x.cell? ⟨g, 0, none⟩ = some v0 ∧ x.cell? ⟨g, 1, none⟩ = some v1 ∧ x.cell? ⟨g, 2, none⟩ = some v2) :
    y.cell? ⟨g, 0, none⟩ = some v0 ∧ y.cell? ⟨g, 1, none⟩ = some v1 ∧ y.cell? ⟨g, 2, none⟩ = some v2 :=
  ⟨(hw.cell (p := ⟨g, 0, none⟩) hg ho.ne).trans h.1, (hw.cell (p := ⟨g, 1, none⟩) hg ho.ne).trans h.2.1, (hw.cell (p := ⟨g, 2, none⟩) hg ho.ne).trans h.2.2⟩
set_option maxRecDepth 100000 in
set_option maxHeartbeats 2000000 in
theorem l4Course_any (nm : ByteArray) (st : Int) (A : Option Addr) (n c : Nat) (ss : List ByteArray) (W : World) (hm : methB nm st ss = true) (hr : Rd W A n (strsV ss)) (h800 : ss.length * crK st ss ≤ 800) :
    Calls Try.prog 65 #[.agg #[.string nm, .int .i64 st, .slice A n c]] W (RetS 9 (strsV (coR st ss (crK st ss))) W) := by
  obtain ⟨h1, h40, h3, h8, hch⟩ := meth_ok hm
  have hl := hr.slen
  have hlh := lh_ok hm
  have hK := crK_ok hm
  have HH : Hid (∀ W', Below W.heap.size W W' → Calls Try.prog 64 #[.agg #[.string nm, .int .i64 st, .slice A n c]] W' fun e w' => e = .returned (.string (lhS st ss)) ∧ Below W'.heap.size W' w') := fun W' h => l4Head_any nm st A n c ss W' hm (hr.below h)
  have HO : Hid (∀ W, Calls Try.prog 63 #[.string (lhS st ss)] W fun e w' => e = .returned (.int .i64 (crK st ss : Int)) ∧ W = w') := fun W => by have h := ordK_ok hlh.1; exact l1Order_any _ _ W hlh.1 h.1 h.2
  have HRo : Hid (∀ W, Calls Try.prog 71 #[.int .i64 st] W fun e w' => e = .returned (.string (hdS st ss 0)) ∧ W = w') := fun W => by rw [hd_zero hm]; exact l1Rounds_any st W (by omega) h8
  have HLd : Hid (∀ i W', Below W.heap.size W W' → Calls Try.prog 70 #[.slice A n c, .string (hdS st ss i)] W' (RetST 9 (strsV (rowsTo (hdS st ss i) ss n)) (hdS st ss (i + 1)) W')) := fun i W' h => by
    have h2 := l4Lead_any A n c ss (hdS st ss i) W' (by omega) (hr.below h) (hd_ok hm i).1 (fun s hs => by rw [(hd_ok hm i).2]; exact hch s hs)
    rw [show rowAt (hdS st ss i) ss n = hdS st ss (i + 1) from by rw [← hl]; exact hd_next hm i] at h2
    exact h2
  have HS : Hid (∀ k, coR st ss (k + 1) = coR st ss k ++ rowsTo (hdS st ss k) ss n) := fun k => by rw [coR_succ, hl]
  have HLen : Hid (∀ k, (coR st ss k).length = k * n) := fun k => by rw [coR_len, hl]
  obtain ⟨K, hKK⟩ : ∃ K, K = crK st ss := ⟨_, rfl⟩
  rw [← hKK] at HO h800 hK ⊢
  obtain ⟨hK1, hK2⟩ := hK
  rw [hl] at h800
  have H8 := Lib.hid h800
  have h01 : n ≤ 40 := by omega
  have Hbox := Lib.hid (box3 W 27 (.string nm) (.int .i64 st) (.slice A n c))
  obtain ⟨l, hl2⟩ : ∃ l, l = lhS st ss := ⟨_, rfl⟩
  rw [← hl2] at HH HO
  obtain ⟨r0, hr0⟩ : ∃ r, r = hdS st ss 0 := ⟨_, rfl⟩
  rw [← hr0] at HRo
  have Hr0 := Lib.hid hr0
  clear hl2 hr0 hKK hm hr hch hlh h800 hl h1 h40
  go_enter Try.func65, Try.ntmps65
  go_wp2_with fail
  obtain ⟨B0, hB0⟩ : ∃ B, B = W.alloc (.cells #[.string nm, .int .i64 st, .slice A n c] 27) := ⟨_, rfl⟩
  rw [← hB0]
  have hbB : Below W.heap.size W B0 := by rw [hB0]; exact below_alloc _ _
  have hsB : W.heap.size < B0.heap.size := by rw [hB0]; simp
  have hcB := Hbox.out
  rw [← hB0] at hcB
  have HK0 := Lib.hid hcB
  obtain ⟨k0, k1, k2⟩ := hcB
  clear hB0
  refine (HRo.out _).mono ?_
  rintro e w' ⟨rfl, rfl⟩
  go_wp2_with fail
  refine (HH.out _ hbB).mono ?_
  rintro e x1 ⟨rfl, hb1⟩
  have B1 : Below W.heap.size W x1 := hbB.trans (hb1.mono hbB.size)
  have HK1 : Hid _ := keep3 hb1 hsB HK0.out
  have s1 : W.heap.size < x1.heap.size := Nat.lt_of_lt_of_le hsB hb1.size
  clear hb1 k0 k1 k2 HK0
  go_wp2_with (go_at_call 63; refine (HO.out _).mono ?_; rintro e w' ⟨rfl, rfl⟩)
  go_loopw [3, 4, 5] (fun l h i wr => ∃ (k : Nat) (A3 : Option Addr) (L c3 : Nat) (t : ByteArray), i = .int .i64 ((K - k : Nat) : Int) ∧ l = .slice A3 L c3 ∧ h = .string t ∧ k ≤ K ∧ Hid (L = k * n) ∧ Hid (t = hdS st ss k) ∧ Hid (Own wr 9 W.heap.size wr.heap.size A3 L c3 (strsV (coR st ss k))) ∧ Hid (Off A3 L c3 W.heap.size) ∧ Hid (wr.cell? ⟨W.heap.size, 0, none⟩ = some (.string nm) ∧ wr.cell? ⟨W.heap.size, 1, none⟩ = some (.int .i64 st) ∧ wr.cell? ⟨W.heap.size, 2, none⟩ = some (.slice A n c)) ∧ Hid (Below W.heap.size W wr) ∧ W.heap.size < wr.heap.size) (fun _ _ i _ => (intOf i).toNat)
  case atStart => exact ⟨0, none, 0, 0, r0, by simp, rfl, rfl, by omega, by simp [Hid], Hr0.out, Own.nil _ _ _ _, fun k hk => by simp [Value.ownBlock] at hk, HK1.out, B1, s1⟩
  case round =>
    obtain ⟨k, A3, L, c3, t, rfl, rfl, rfl, hk, HL, Ht, HO3, HF, HK3, HB, hWr⟩ := hrel
    by_cases hlt : k < K
    · obtain ⟨j, hj⟩ : ∃ j, K - k = j + 1 := ⟨K - k - 1, by omega⟩
      rw [hj]
      have hj2 : K - (k + 1) = j := by omega
      have HJ2 := Lib.hid hj2
      have hjb : j ≤ 16777216 := by omega
      have i1 : (0 : Int) < ((j + 1 : Nat) : Int) := by omega
      have HLk := Lib.hid (HLd.out k)
      have HSk := Lib.hid (HS.out k)
      rw [← Ht.out] at HLk HSk
      obtain ⟨t2, ht2⟩ : ∃ t2, t2 = hdS st ss (k + 1) := ⟨_, rfl⟩
      rw [← ht2] at HLk
      have Ht2 := Lib.hid ht2
      have hL8 : L + n ≤ 4000 := by
        have a := HL.out; have b := H8.out
        have := Nat.mul_le_mul (show k + 1 ≤ K by omega) (Nat.le_refl n)
        rw [Nat.succ_mul, Nat.mul_comm K n] at this; omega
      obtain ⟨f0, f1, f2⟩ := HK3.out
      clear ht2 hj hj2
      go_wp2_with first
        | (go_at_call 70; refine (HLk.out _ HB.out).mono ?_; rintro e x5 ⟨A5, n5, c5, rfl, ho5, hb5⟩; have hn5 : n5 = n := (by have := ho5.rd.slen; rw [rowsTo_len] at this; exact this.symm); subst hn5)
        | (at_builtin; refine wpList_appendNx x5 rfl (.tmp 25) (.tmp 26) 22 rfl 9 (.string ByteArray.empty) 16 Try.underlying22 info_str rfl W.heap.size A3 L c3 _ rfl ((HO3.out.below hb5).mono (Nat.le_refl _) hb5.size) A5 n5 c5 _ rfl (ho5.rd.none_) ho5.rd (strs_one _) (by omega) (by omega) (Nat.le_trans HB.out.size hb5.size) ?_; intro A4 c4 x4 ho4 hx4 hat4)
      have s5 : wr.heap.size ≤ x5.heap.size := hb5.size
      have HO4 : Hid (Own x4 9 W.heap.size x4.heap.size A4 (L + n5) c4 (strsV (coR st ss (k + 1)))) := ho4.congr (by rw [HSk.out, strsV_app])
      have HB5 : Below W.heap.size W x5 := HB.out.trans (hb5.mono HB.out.size)
      have HO5 : Own x5 9 W.heap.size x5.heap.size A3 L c3 (strsV (coR st ss k)) := (HO3.out.below hb5).mono (Nat.le_refl _) hb5.size
      have HB4 : Hid (Below W.heap.size W x4) := HB5.trans (HO5.below_ hx4 HB5.size)
      have HF4 : Hid (Off A4 (L + n5) c4 W.heap.size) := HF.out.next (by omega) hat4
      have HK4 : Hid _ := keep3y hx4 (by omega) HF.out (keep3 hb5 hWr HK3.out)
      have hW4 : W.heap.size < x4.heap.size := by have := hx4.size; omega
      have HL4 : Hid (L + n5 = (k + 1) * n5) := by unfold Hid; rw [HL.out, Nat.succ_mul]
      clear hb5 ho5 ho4 hx4 hat4 HO5 HB5 f0 f1 f2
      go_roundw
      case rel => exact ⟨k + 1, A4, L + n5, c4, t2, by rw [HJ2.out], rfl, rfl, by omega, HL4.out, Ht2.out, HO4.out, HF4.out, HK4.out, HB4.out, hW4⟩
      case measure => (simp [intOf] <;> omega)
    · obtain rfl : k = K := by omega
      rw [Nat.sub_self]
      go_wp2
      go_ret
      exact ⟨_, _, _, rfl, HO3.out, HB.out⟩
end Go.Proofs.Ytbmabfgnmafooaa
