/- All changes of a stage: the program's walk. -/
import Derived.Test.YtajmjfekddgelaaPlainAl
import Derived.Test.YtajmjfekddgelaaWalkM
import Derived.Test.YtajmjfekddgelaaSorto
import Derived.Test.YtajmjfekddgelaaWalkB
import Derived.Test.YtajmjfekddgelaaKit5
namespace Go.Proofs.Ytajmjfekddgelaa
open Go.RowKit Go.Sort
set_option linter.unusedVariables false

noncomputable def alT (n q : Nat) : List ByteArray := (((List.range q).map fun s => txtL (subL s n)).filter fun l => cb (IsCh n l)).map mkS
theorem alT_succ (n q : Nat) : alT n (q + 1) = alT n q ++ (if cb (IsCh n (txtL (subL q n))) = true then [mkS (txtL (subL q n))] else []) := by
  unfold alT
  rw [List.range_succ, List.map_append, List.filter_append, List.map_append]
  congr 1
  simp only [List.map_cons, List.map_nil, List.filter_cons, List.filter_nil]
  split <;> rfl
theorem alT_len (n q : Nat) : (alT n q).length ≤ q := by
  unfold alT
  rw [List.length_map]
  exact Nat.le_trans (List.length_filter_le _ _) (by simp)
theorem subL_len (s j : Nat) : (subL s j).length ≤ j := by
  induction j with
  | zero => exact Nat.le_refl _
  | succ j ih => unfold subL; split <;> first | omega | (simp; omega)
theorem txtL_len {l : List UInt8} {k : Nat} (h : l.length ≤ k) (hk : 1 ≤ k) : (txtL l).length ≤ k := by
  unfold txtL; split
  · simpa using hk
  · exact h
theorem bit_and (q p : Nat) (hq : q < 9223372036854775808) : (bits .and .i64 (((q : Nat) : Int) / 2 ^ p) 1 == 1) = decide (q / 2 ^ p % 2 = 1) := by
  have e : ((q : Nat) : Int) / 2 ^ p = ((q / 2 ^ p : Nat) : Int) := by push_cast; rfl
  have hlt : q / 2 ^ p < 9223372036854775808 := Nat.lt_of_le_of_lt (Nat.div_le_self _ _) hq
  rw [e, show (1 : Int) = ((1 : Nat) : Int) from rfl, i64_and_nat _ 1 hlt (by omega), Nat.and_one_is_mod]
  rcases Nat.mod_two_eq_zero_or_one (q / 2 ^ p) with h | h <;> simp [h]
set_option maxRecDepth 100000 in
set_option maxHeartbeats 2000000 in
theorem im_all (m : Nat) (W : World) (h3 : 3 ≤ m) (h8 : m ≤ 8) :
    Calls Try.prog 17 #[.int .i64 m] W (RetSB 9 (strsV (srt (alT m (2 ^ m)))) true W) := by
  obtain ⟨N, hN⟩ : ∃ N, N = 2 ^ m := ⟨_, rfl⟩
  have hN2 : N ≤ 256 := by rw [hN]; exact Nat.le_trans (Nat.pow_le_pow_right (by omega) h8) (by decide)
  have hw : wrap64 (2 ^ m) = (N : Int) := by
    have e : ((2 : Int) ^ m) = ((2 ^ m : Nat) : Int) := by push_cast; rfl
    rw [e, ← hN]; unfold wrap64; omega
  have hst : inB (m : Int) 3 8 = true := inB_true (by omega) (by omega)
  have HI : Hid (∀ w, Calls Try.prog 33 #[.int .i64 m] w fun e w' => e = .returned (.bool true) ∧ w = w') := fun w => by rw [← hst]; exact isStage_any m w
  obtain ⟨r, hr⟩ : ∃ r, r = mkS (roundsL m) := ⟨_, rfl⟩
  have HRo : Hid (∀ w, Calls Try.prog 34 #[.int .i64 m] w fun e w' => e = .returned (.string r) ∧ w = w') := fun w => by
    have := rounds_any (m : Int) w (by omega) (by omega)
    rwa [Int.toNat_natCast, ← hr] at this
  have HN := Lib.hid hN
  have HRs : Hid (r.size = m) := by unfold Hid; rw [hr, size_mkS, roundsL_length]
  have HRb : Hid (∀ p (h : p < r.size), r[p] = UInt8.ofNat (49 + p)) := fun p h => by
    have h2 : p < m := by have := HRs.out; omega
    rw [← getD_bs r p h, hr, bs_mkS, roundsL_get h2]
  rw [← hN]
  clear hst hN hr
  go_enter Try.func17, Try.ntmps17
  go_wp2_with (go_at_call 33; refine (HI.out _).mono ?_; rintro e w9 ⟨rfl, rfl⟩)
  go_loopw [4, 14] (fun l i wr => ∃ (q : Nat) (A2 : Option Addr) (n2 c2 : Nat), l = .slice A2 n2 c2 ∧ i = .int .i64 (q : Int) ∧ q ≤ N ∧ n2 ≤ q ∧ Hid (Own wr 9 W.heap.size wr.heap.size A2 n2 c2 (strsV (alT m q))) ∧ Hid (Below W.heap.size W wr)) (fun _ i _ => ((N : Int) - intOf i).toNat)
  case atStart => exact ⟨0, _, 0, 0, rfl, rfl, Nat.zero_le _, Nat.zero_le _, own_empty W 9, below_alloc _ _⟩
  case round =>
    obtain ⟨q, A2, n2, c2, rfl, rfl, hq, hn2, HO, HB⟩ := hrel
    by_cases hlt : q < N
    · have i1 : (q : Int) < (N : Int) := by omega
      obtain ⟨wo, rfl⟩ : ∃ w, w = wr := ⟨_, rfl⟩
      go_wp2
      have Hw := Lib.hid hw
      clear hw
      go_loopw [6, 18] (fun s i wr => ∃ (p : Nat) (t : ByteArray), s = .string t ∧ i = .int .i64 (p : Int) ∧ p ≤ m ∧ Hid (bs t = subL q p) ∧ t.size ≤ p ∧ wo = wr) (fun _ i _ => ((m : Int) - intOf i).toNat)
      case atStart => exact ⟨0, _, rfl, rfl, Nat.zero_le _, rfl, Nat.le_refl _, rfl⟩
      case round =>
        obtain ⟨p, t, rfl, rfl, hp, Ht, htz, rfl⟩ := hrel
        by_cases hpm : p < m
        · have i2 : (p : Int) < (m : Int) := by omega
          have hb0 := bit_and q p (by omega)
          by_cases hbit : q / 2 ^ p % 2 = 1
          · have hb1 : (bits .and .i64 (((q : Nat) : Int) / 2 ^ p) 1 == 1) = true := by rw [hb0, decide_eq_true hbit]
            have hpr : p < r.size := by have := HRs.out; omega
            have HT : Hid (bs (t ++ r.extract p (p + 1)) = subL q (p + 1)) := by
              unfold Hid
              rw [bs_append, Ht.out, extract_one r p hpr, HRb.out p hpr]
              show _ = if q / 2 ^ p % 2 = 1 then _ else _
              rw [if_pos hbit]
            have hsz : (t ++ r.extract p (p + 1)).size ≤ p + 1 := by
              rw [← size_bs, HT.out]; exact subL_len _ _
            have i3 : (p : Int) < (r.size : Int) := by omega
            have i4 : (p : Int) + 1 ≤ (r.size : Int) := by omega
            clear hb0 hbit
            go_wp2_with (go_at_call 34; refine (HRo.out _).mono ?_; rintro e w9 ⟨rfl, rfl⟩)
            obtain ⟨t2, ht2⟩ : ∃ t2, t2 = t ++ r.extract p (p + 1) := ⟨_, rfl⟩
            have HT2 : Hid (bs t2 = subL q (p + 1)) := by rw [ht2]; exact HT.out
            have hsz2 : t2.size ≤ p + 1 := by rw [ht2]; exact hsz
            (try rw [← ht2])
            clear ht2 HT hsz
            go_roundw
            case rel => exact ⟨p + 1, t2, rfl, by go_num, by omega, HT2.out, hsz2, by trivial⟩
            case measure => (simp [intOf] <;> omega)
          · have hb1 : (bits .and .i64 (((q : Nat) : Int) / 2 ^ p) 1 == 1) = false := by rw [hb0, decide_eq_false hbit]
            have HT : Hid (bs t = subL q (p + 1)) := by
              unfold Hid
              show _ = if q / 2 ^ p % 2 = 1 then _ else _
              rw [if_neg hbit]; exact Ht.out
            clear hb0 hbit
            go_wp2
            go_roundw
            case rel => exact ⟨p + 1, t, by trivial, by go_num, by omega, HT.out, by omega, by trivial⟩
            case measure => (simp [intOf] <;> omega)
        · obtain rfl : p = m := by omega
          obtain ⟨T, hT⟩ : ∃ T, T = mkS (txtL (subL q p)) := ⟨_, rfl⟩
          obtain ⟨b, hb⟩ : ∃ b, b = cb (IsCh p (txtL (subL q p))) := ⟨_, rfl⟩
          have hTz : T.size ≤ 8 := by rw [hT, size_mkS]; exact Nat.le_trans (txtL_len (subL_len q p) (by omega)) h8
          have HG : Hid (∀ w, Calls Try.prog 35 #[.int .i64 p, .string T] w fun e w' => e = .returned (.bool b) ∧ Below w.heap.size w w') := fun w => by
            have := GoodChange_any (p : Int) T w (by omega)
            have e : chB (p : Int) T = b := by rw [hb, hT]; unfold chB; rw [bs_mkS, Int.toNat_natCast]
            rwa [e] at this
          have HAl : Hid (alT p (q + 1) = alT p q ++ if b = true then [T] else []) := by unfold Hid; rw [alT_succ, ← hb, ← hT]
          have HBs := HB.out.size
          by_cases hnil : subL q p = []
          · have ht : t = { data := #[] } := bs_inj (Ht.out.trans hnil)
            have hT2 : T = { data := #[45] } := by rw [hT, hnil]; rfl
            subst ht hT2
            clear Ht hT hb hnil HBs
            go_wp2_with fail
            refine (HG.out _).mono ?_
            rintro e x5 ⟨rfl, hb5⟩
            have HB5 : Hid (Below W.heap.size W x5) := HB.out.trans (hb5.mono HB.out.size)
            have HO5 : Own x5 9 W.heap.size x5.heap.size A2 n2 c2 (strsV (alT p q)) := (HO.out.below hb5).mono (Nat.le_refl _) hb5.size
            have hs5 := HB5.out.size
            cases b with
            | false =>
              have HO6 : Hid (Own x5 9 W.heap.size x5.heap.size A2 n2 c2 (strsV (alT p (q + 1)))) := by
                rw [HAl.out, if_neg (by decide), List.append_nil]; exact HO5
              clear HO5 hb5 hs5
              go_wp2
              go_roundw
              case rel => exact ⟨q + 1, A2, n2, c2, rfl, by go_num, by omega, by omega, HO6.out, HB5.out⟩
              case measure => (simp [intOf] <;> omega)
            | true =>
              have HAt : Hid (strsV (alT p (q + 1)) = strsV (alT p q) ++ [.string { data := #[45] }]) := by
                unfold Hid; rw [HAl.out, if_pos rfl]; simp [strsV]
              clear hb5
              go_wp2_with (at_builtin; refine wpList_append1x x5 rfl (.tmp 40) (.tmp 42) 22 rfl 9 (.string ByteArray.empty) 16 Try.underlying22 info_str rfl W.heap.size A2 n2 c2 _ (.string { data := #[45] }) rfl rfl rfl HO5 (by omega) (by omega) hs5 ?_; intro A7 c7 x7 ho7 hx7 hsz7 hat7)
              have HO7 : Hid (Own x7 9 W.heap.size x7.heap.size A7 (n2 + 1) c7 (strsV (alT p (q + 1)))) := by rw [HAt.out]; exact ho7
              have HB7 : Hid (Below W.heap.size W x7) := HB5.out.trans (HO5.below_ hx7 hs5)
              clear HO5 hs5 ho7 hx7 hsz7 hat7
              go_roundw
              case rel => exact ⟨q + 1, A7, n2 + 1, c7, rfl, by go_num, by omega, by omega, HO7.out, HB7.out⟩
              case measure => (simp [intOf] <;> omega)
          · have hT2 : T = t := by rw [hT]; unfold txtL; rw [if_neg hnil, ← Ht.out, mkS_bs]
            have hne : t ≠ { data := #[] } := fun h => hnil (by rw [← Ht.out, h]; rfl)
            have hne2 := ne_list hne
            have e0 : ({ data := #[] } : ByteArray).toList = [] := by first | kernel_rfl | exact toList_empty
            have hne4 : ¬ t.toList = [] := fun h => by rw [h, e0] at hne2; simp at hne2
            clear e0
            have hne5 : (t.toList == []) = false := by simpa using hne4
            have hne6 : t.toList.isEmpty = false := by simpa using hne4
            subst hT2
            clear Ht hT hb hnil HBs
            go_wp2_with fail
            refine (HG.out _).mono ?_
            rintro e x5 ⟨rfl, hb5⟩
            have HB5 : Hid (Below W.heap.size W x5) := HB.out.trans (hb5.mono HB.out.size)
            have HO5 : Own x5 9 W.heap.size x5.heap.size A2 n2 c2 (strsV (alT p q)) := (HO.out.below hb5).mono (Nat.le_refl _) hb5.size
            have hs5 := HB5.out.size
            cases b with
            | false =>
              have HO6 : Hid (Own x5 9 W.heap.size x5.heap.size A2 n2 c2 (strsV (alT p (q + 1)))) := by
                rw [HAl.out, if_neg (by decide), List.append_nil]; exact HO5
              clear HO5 hb5 hs5
              go_wp2
              go_roundw
              case rel => exact ⟨q + 1, A2, n2, c2, rfl, by go_num, by omega, by omega, HO6.out, HB5.out⟩
              case measure => (simp [intOf] <;> omega)
            | true =>
              have HAt : Hid (strsV (alT p (q + 1)) = strsV (alT p q) ++ [.string T]) := by
                unfold Hid; rw [HAl.out, if_pos rfl]; simp [strsV]
              clear hb5
              go_wp2_with (at_builtin; refine wpList_append1x x5 rfl (.tmp 40) (.tmp 42) 22 rfl 9 (.string ByteArray.empty) 16 Try.underlying22 info_str rfl W.heap.size A2 n2 c2 _ (.string T) rfl rfl rfl HO5 (by omega) (by omega) hs5 ?_; intro A7 c7 x7 ho7 hx7 hsz7 hat7)
              have HO7 : Hid (Own x7 9 W.heap.size x7.heap.size A7 (n2 + 1) c7 (strsV (alT p (q + 1)))) := by rw [HAt.out]; exact ho7
              have HB7 : Hid (Below W.heap.size W x7) := HB5.out.trans (HO5.below_ hx7 hs5)
              clear HO5 hs5 ho7 hx7 hsz7 hat7
              go_roundw
              case rel => exact ⟨q + 1, A7, n2 + 1, c7, rfl, by go_num, by omega, by omega, HO7.out, HB7.out⟩
              case measure => (simp [intOf] <;> omega)
    · obtain rfl : q = N := by omega
      have HS := Lib.hid (sort_own A2 n2 c2 W.heap.size wr.heap.size (alT m q) wr HB.out.size (by omega) HO.out)
      go_wp2_with (go_at_call 36; refine HS.out.mono ?_; rintro e w5 ⟨rfl, ho5, hb5⟩)
      go_ret2
      exact ⟨A2, n2, c2, rfl, ho5.mono (Nat.le_refl _) hb5.size, HB.out.trans hb5⟩
end Go.Proofs.Ytajmjfekddgelaa
