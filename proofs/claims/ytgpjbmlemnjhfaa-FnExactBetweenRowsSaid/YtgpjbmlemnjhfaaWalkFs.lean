/- The reference's ways on from a place. -/
import Derived.Test.YtgpjbmlemnjhfaaWalkFr
namespace Go.Proofs.Ytgpjbmlemnjhfaa
open Go.RowKit
set_option linter.unusedVariables false

theorem frL_row (n : Nat) : ∀ f p, ∀ l ∈ frL n f p, l.length ≤ f
  | 0, p, l, h => by simp [frL] at h; subst h; exact Nat.le_refl _
  | f + 1, p, l, h => by
    unfold frL at h
    split at h
    · simp at h; subst h; exact Nat.zero_le _
    · rcases List.mem_append.1 h with h | h
      · obtain ⟨r, hr, rfl⟩ := List.mem_map.1 h
        have := frL_row n f (p + 1) r hr
        simp; omega
      · split at h
        · have := frL_row n f (p + 2) l h; omega
        · cases h
theorem fr_lt (n : Nat) (h8 : n ≤ 8) : ∀ f p, p ≤ 10 → ∀ l ∈ frL n f p, ∀ x ∈ l, x < 10
  | 0, p, _, l, h, x, hx => by simp [frL] at h; subst h; cases hx
  | f + 1, p, hp, l, h, x, hx => by
    unfold frL at h
    split at h
    · simp at h; subst h; cases hx
    · rcases List.mem_append.1 h with h | h
      · obtain ⟨r, hr, rfl⟩ := List.mem_map.1 h
        rcases List.mem_cons.1 hx with rfl | hx
        · omega
        · exact fr_lt n h8 f (p + 1) (by omega) r hr x hx
      · split at h
        · exact fr_lt n h8 f (p + 2) (by omega) l h x hx
        · cases h
theorem natV_cons (p : Nat) (z : List Nat) : [.int .i64 (p : Int)] ++ natV z = natV (p :: z) := by simp [natV, intsV]
theorem natV_len (z : List Nat) : (natV z).length = z.length := by simp [natV, intsV]
theorem own_one_below (w x : World) (E : TypeId) (u : Value) (hx : Wx (Value.slice (some ⟨w.heap.size, 0, none⟩) 1 1).ownBlock (w.alloc (.cells #[u] E)) x) : Below w.heap.size w x :=
  (below_alloc _ _).trans ((own_one w E u).below_ hx (by simp))
set_option maxRecDepth 100000 in
set_option maxHeartbeats 4000000 in
theorem l2From_any (n : Nat) (h8 : n ≤ 8) : ∀ (f p : Nat) (W : World), n + 1 ≤ p + f → f ≤ 9 → p ≤ 10 → Calls Try.prog 82 #[.int .i64 n, .int .i64 p] W (RetF (frL n f p) W)
  | 0, p, W, h1, _, _ => by
    have := l2From_end n p W (by omega)
    unfold frL; exact this
  | f + 1, p, W, h1, h9, h10 => by
    by_cases hnp : n < p
    · have := l2From_end n p W hnp
      unfold frL; rw [if_pos hnp]; exact this
    · have HI1 : Hid (∀ W, Calls Try.prog 82 #[.int .i64 n, .int .i64 ((p : Int) + 1)] W (RetF (frL n f (p + 1)) W)) := fun W => by
        have := l2From_any n h8 f (p + 1) W (by omega) (by omega) (by omega)
        rwa [Int.natCast_add] at this
      have HI2 : Hid (p < n → ∀ W, Calls Try.prog 82 #[.int .i64 n, .int .i64 ((p : Int) + 2)] W (RetF (frL n f (p + 2)) W)) := fun hlt W => by
        have := l2From_any n h8 f (p + 2) W (by omega) (by omega) (by omega)
        rwa [Int.natCast_add] at this
      have HF : Hid (frL n (f + 1) p = (frL n f (p + 1)).map (p :: ·) ++ (if p < n then frL n f (p + 2) else [])) := by unfold Hid; rw [frL, if_neg hnp]
      have HL1 : Hid ((frL n f (p + 1)).length ≤ 512) := by
        have := frL_len n f (p + 1)
        have h2 : 2 ^ f ≤ 2 ^ 9 := Nat.pow_le_pow_right (by omega) (by omega)
        exact Nat.le_trans this h2
      have HLr : Hid (∀ l ∈ frL n f (p + 1), l.length ≤ 9) := fun l hl => by have := frL_row n f (p + 1) l hl; omega
      have HL2 : Hid ((frL n f (p + 2)).length ≤ 512) := by
        have := frL_len n f (p + 2)
        have h2 : 2 ^ f ≤ 2 ^ 9 := Nat.pow_le_pow_right (by omega) (by omega)
        exact Nat.le_trans this h2
      have i1 : ¬ (n : Int) < (p : Int) := by omega
      have i2 : (p : Int) ≤ (n : Int) := by omega
      have HH := Lib.hid (And.intro h1 h9)
      obtain ⟨Z, hZ⟩ : ∃ Z, Z = frL n f (p + 1) := ⟨_, rfl⟩
      rw [← hZ] at HI1 HF HL1 HLr
      clear h1 h9 hnp hZ
      go_enter Try.func82, Try.ntmps82
      go_wp2_with fail
      refine (HI1.out _).mono ?_
      rintro e x1 ⟨A1, n1, c1, xs, rfl, hr1, hz1, hb1⟩
      have hn1 : n1 ≤ 512 := by have := hr1.len; have h2 := HL1.out; rw [← hz1, List.length_map] at h2; omega
      have HSt : Hid (SrcF x1 A1 n1 xs none 0 0) := SrcF.of hr1 fun g _ _ k hk => by simp [Value.ownBlock] at hk
      have HB1 := Lib.hid hb1
      have HZ := Lib.hid hz1
      clear hr1 hz1 hb1 HI1 HL1
      go_wp2
      go_loopw [5, 17] (fun l i wr => ∃ (k : Nat) (Al : Option Addr) (L cl : Nat) (ys : List (Row × List Nat)), l = .slice Al L cl ∧ i = .int .i64 (k : Int) ∧ k ≤ n1 ∧ L ≤ k ∧ Hid (RowsF wr W.heap.size wr.heap.size Al L cl ys) ∧ Hid (ys.map (·.2) = ((xs.map (·.2)).take k).map (p :: ·)) ∧ Hid (SrcF wr A1 n1 xs Al L cl) ∧ Hid (Below W.heap.size W wr)) (fun _ i _ => ((n1 : Int) - intOf i).toNat)
      case atStart => exact ⟨0, none, 0, 0, [], rfl, rfl, Nat.zero_le _, Nat.le_refl _, RowsF.nil _ _ _, by simp [Hid], HSt.out, HB1.out⟩
      case round =>
        obtain ⟨k, Al, L, cl, ys, rfl, rfl, hk, hLk, HR, HY, HS, HB⟩ := hrel
        by_cases hlt : k < n1
        · have i3 : (k : Int) < (n1 : Int) := by omega
          obtain ⟨b, off, ⟨⟨rA, rn, rc⟩, z⟩, rfl, hxk, hxm, hcell⟩ := HS.out.at_ hlt
          have hrow := (HS.out.row _ hxm).1
          simp only at hrow hcell
          have hzZ : z ∈ Z := by rw [← HZ.out]; exact List.mem_map.2 ⟨_, hxm, rfl⟩
          have hrn : rn ≤ 9 := by have := hrow.1; rw [natV_len] at this; have := HLr.out z hzZ; omega
          have hHs := HB.out.size
          have HSw := Lib.hid (own_one_below wr)
          go_wp2_with first
            | (at_builtin; refine wpList_appendNx (wr.alloc (.cells #[.int .i64 (p : Int)] 3)) rfl (.tmp 23) (.tmp 24) 50 rfl 3 (.int .i64 0) 8 Try.underlying50 info_int rfl wr.heap.size (some ⟨wr.heap.size, 0, none⟩) 1 1 [.int .i64 (p : Int)] rfl (own_one _ _ _) rA rn rc (natV z) rfl hrow.none_ (hrow.below (below_alloc _ _)) (ints_one _) (by omega) (by omega) (by simp) ?_; intro A5 c5 x5 ho5 hx5 hat5; have hb5 := HSw.out x5 _ _ hx5)
            | (at_builtin; refine wpList_append1x x5 rfl (.tmp 21) (.tmp 26) 22 rfl 50 (.slice none 0 0) 24 Try.underlying22 info_intsF rfl W.heap.size Al L cl (rowsV (ys.map (·.1))) (.slice A5 (1 + rn) c5) rfl rfl rfl ((HR.out.below hb5).mono (Nat.le_refl _) hb5.size).o (by omega) (by omega) (by have := hb5.size; omega) ?_; intro A6 c6 x6 ho6 hx6 hsz6 hat6)
          have HB5 : Hid (Below W.heap.size W x5) := HB.out.trans (hb5.mono HB.out.size)
          have HB6 : Hid (Below W.heap.size W x6) := HB5.out.trans (((HR.out.below hb5).mono (Nat.le_refl _) hb5.size).o.below_ hx6 HB5.out.size)
          have HR6 : Hid (RowsF x6 W.heap.size x6.heap.size A6 (L + 1) c6 (ys ++ [((A5, 1 + rn, c5), p :: z)])) := by
            refine RowsF.push ((HR.out.below hb5).mono (Nat.le_refl _) hb5.size) (fun x hx => ?_) ho6 hx6 hx6.size hat6
            rw [List.mem_singleton.1 hx]
            refine ⟨by rw [← natV_cons]; exact ho5.rd, fun g hg => ?_⟩
            have := ho5.lt g hg
            exact ⟨by omega, this.2.2, Off.own HR.out.o (.inr this.1)⟩
          have HY6 : Hid ((ys ++ [((A5, 1 + rn, c5), p :: z)]).map (·.2) = ((xs.map (·.2)).take (k + 1)).map (p :: ·)) := by
            have hkl := (List.getElem?_eq_some_iff.1 hxk)
            unfold Hid
            rw [List.map_append, HY.out, List.take_succ_eq_append_getElem (by rw [List.length_map]; exact hkl.1), List.map_append]
            congr 1
            simp [hkl.2]
          have HS6 : Hid (SrcF x6 (some ⟨b, off, none⟩) n1 xs A6 (L + 1) c6) := (HS.out.below hb5).wx hx6 hat6
          clear hrow hzZ hrn hHs HSw ho5 hx5 hat5 hb5 ho6 hx6 hsz6 hat6 hxm hxk
          go_roundw
          case rel => exact ⟨k + 1, A6, L + 1, c6, _, rfl, by go_num, by omega, by omega, HR6.out, HY6.out, HS6.out, HB6.out⟩
          case measure => (simp [intOf] <;> omega)
        · obtain rfl : k = n1 := by omega
          have HY2 : Hid (ys.map (·.2) = Z.map (p :: ·)) := by
            unfold Hid
            rw [HY.out, List.take_of_length_le (by rw [List.length_map, HS.out.len]; exact Nat.le_refl _), HZ.out]
          have hLn : L ≤ 512 := by omega
          clear HY HS hLk hlt
          by_cases hpn : p < n
          · have i4 : (p : Int) < (n : Int) := by omega
            have HI2' := Lib.hid (HI2.out hpn)
            have HF2 : Hid (frL n (f + 1) p = Z.map (p :: ·) ++ frL n f (p + 2)) := by unfold Hid; rw [HF.out, if_pos hpn]
            clear HI2 HF hpn
            go_wp2_with fail
            refine (HI2'.out _).mono ?_
            rintro e x2 ⟨A2, n2, c2, xs2, rfl, hr2, hz2, hb2⟩
            have hn2 : n2 ≤ 512 := by have := hr2.len; have h2 := HL2.out; rw [← hz2, List.length_map] at h2; omega
            have hB2 : Below W.heap.size W x2 := HB.out.trans (hb2.mono HB.out.size)
            have hs2 := hB2.size
            have hR2 := (HR.out.below hb2).mono (Nat.le_refl _) hb2.size
            go_wp2_with (at_builtin; refine wpList_appendNx x2 rfl (.tmp 32) (.tmp 36) 22 rfl 50 (.slice none 0 0) 24 Try.underlying22 info_intsF rfl W.heap.size Al L cl (rowsV (ys.map (·.1))) rfl hR2.o A2 n2 c2 (rowsV (xs2.map (·.1))) rfl hr2.o.rd.none_ hr2.o.rd (rowsV_one _) (by omega) (by omega) hs2 ?_; intro A6 c6 x6 ho6 hx6 hat6)
            have HB6 : Hid (Below W.heap.size W x6) := hB2.trans (hR2.o.below_ hx6 hs2)
            have HR6 : Hid (RowsF x6 W.heap.size x6.heap.size A6 (L + n2) c6 (ys ++ xs2)) := by
              refine RowsF.push hR2 (fun x hx => ⟨(hr2.row x hx).1, fun g hg => ?_⟩) ho6 hx6 hx6.size hat6
              have := (hr2.row x hx).2 g hg
              have := HB.out.size
              exact ⟨by omega, by omega, Off.own HR.out.o (.inr (by omega))⟩
            have HE : Hid ((ys ++ xs2).map (·.2) = frL n (f + 1) p) := by unfold Hid; rw [HF2.out, List.map_append, HY2.out, hz2]
            clear ho6 hx6 hat6 hR2 hB2 hs2 hn2 hr2 hz2 hb2
            go_wp2
            go_ret
            exact ⟨A6, _, c6, _, rfl, HR6.out, HE.out, HB6.out⟩
          · have i4 : ¬ (p : Int) < (n : Int) := by omega
            have i5 : (n : Int) ≤ (p : Int) := by omega
            have HE : Hid (ys.map (·.2) = frL n (f + 1) p) := by unfold Hid; rw [HF.out, if_neg hpn, List.append_nil]; exact HY2.out
            clear HI2 HF hpn
            go_wp2
            go_ret
            exact ⟨Al, _, cl, _, rfl, HR.out, HE.out, HB.out⟩
end Go.Proofs.Ytgpjbmlemnjhfaa
