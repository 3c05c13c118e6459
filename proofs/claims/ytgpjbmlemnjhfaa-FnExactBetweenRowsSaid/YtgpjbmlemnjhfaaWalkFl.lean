/- All changes of a stage, by the reference: the ways on from place 1, tested, laid in by order. -/
import Derived.Test.YtgpjbmlemnjhfaaWalkFs
import Derived.Test.YtgpjbmlemnjhfaaWalkAs
import Derived.Test.YtgpjbmlemnjhfaaWalkSo
namespace Go.Proofs.Ytgpjbmlemnjhfaa
open Go.RowKit
set_option linter.unusedVariables false

/-- the texts of the ways that are changes -/
noncomputable def frT (m : Nat) (Z : List (List Nat)) : List ByteArray := ((Z.map fun l => txtL (l.map fun p => UInt8.ofNat (48 + p))).filter fun l => cb (IsCh m l)).map mkS
theorem frT_snoc (m : Nat) (Z : List (List Nat)) (z : List Nat) : frT m (Z ++ [z]) = frT m Z ++ if cb (IsCh m (txtL (z.map fun p => UInt8.ofNat (48 + p)))) = true then [mkS (txtL (z.map fun p => UInt8.ofNat (48 + p)))] else [] := by
  unfold frT
  rw [List.map_append, List.filter_append, List.map_append]
  congr 1
  simp only [List.map_cons, List.map_nil, List.filter_cons, List.filter_nil]
  split <;> rfl
theorem srt_pw (R : List ByteArray) : (srt R).Pairwise fun a b => leS (bs a) (bs b) = true := by
  have h := List.pairwise_mergeSort leS_tr leS_to (R.map bs)
  rw [← srt_bs, List.pairwise_map] at h
  exact h
theorem ins_srt {R : List ByteArray} {q : Nat} {T : ByteArray} (h1 : ∀ y ∈ (srt R).drop q, leS (bs T) (bs y) = true) (h2 : ∀ y ∈ (srt R).take q, leS (bs y) (bs T) = true) : (srt R).take q ++ [T] ++ (srt R).drop q = srt (R ++ [T]) := by
  have hp := srt_pw R
  rw [← List.take_append_drop q (srt R), List.pairwise_append] at hp
  refine srt_of ?_ ?_
  · rw [List.pairwise_map, List.append_assoc, List.pairwise_append]
    refine ⟨hp.1, ?_, fun a ha b hb => ?_⟩
    · rw [List.singleton_append, List.pairwise_cons]
      exact ⟨h1, hp.2.1⟩
    · rcases List.mem_append.1 hb with hb | hb
      · rw [List.mem_singleton.1 hb]; exact h2 a ha
      · exact hp.2.2 a ha b hb
  · refine List.Perm.map _ ?_
    have e : ((srt R).take q ++ [T] ++ (srt R).drop q).Perm (srt R ++ [T]) := by
      conv => rhs; rw [← List.take_append_drop q (srt R)]
      rw [List.append_assoc, List.append_assoc]
      exact List.Perm.append_left _ List.perm_append_comm
    refine e.trans (List.Perm.append_right _ ?_)
    have := (List.mergeSort_perm (R.map bs) leS).map mkS
    rw [map_mkS_bs] at this
    exact this
theorem srt_take {R : List ByteArray} {q : Nat} {t : List UInt8} {x : ByteArray} (hx : (srt R)[q]? = some x) (h : leS (bs x) t = true) : ∀ y ∈ (srt R).take (q + 1), leS (bs y) t = true := fun y hy => by
  obtain ⟨i, hi⟩ := List.getElem?_of_mem hy
  have hil := (List.getElem?_eq_some_iff.1 hi).1
  rw [List.length_take] at hil
  rw [List.getElem?_take, if_pos (by omega)] at hi
  by_cases e : i = q
  · subst e; rw [hx] at hi; injection hi with hi; subst hi; exact h
  · have h1 := List.getElem?_eq_some_iff.1 hi
    have h2 := List.getElem?_eq_some_iff.1 hx
    have := List.pairwise_iff_getElem.1 (srt_pw R) i q h1.1 h2.1 (by omega)
    rw [h1.2, h2.2] at this
    exact leS_tr _ _ _ this h
theorem wx_setF (w : World) (b r : Nat) (u : Value) : Wx (some b) w (w.setCell ⟨b, r, none⟩ u) :=
  ⟨rfl, rfl, rfl, by simp, fun k hk hne => Below.heap_setCell _ _ _ _ (by
    have : k ≠ b := fun e => hne (by rw [e])
    first | exact this | exact this.symm)⟩
theorem slot_set {S : List ByteArray} {q : Nat} {x : ByteArray} (hq : q ≤ S.length) (y : ByteArray) : (strsV (S.take q ++ [x] ++ S.drop q)).set q (.string y) = strsV (S.take q ++ [y] ++ S.drop q) := by
  have hl : (S.take q).length = q := by rw [List.length_take]; omega
  unfold strsV
  rw [List.append_assoc, List.append_assoc, List.map_append, List.map_append, List.set_append, if_neg (by rw [List.length_map, hl]; omega), List.length_map, hl, Nat.sub_self, List.map_append, List.map_append]
  rfl
theorem slot_down {S : List ByteArray} {q : Nat} {y : ByteArray} (hy : S[q]? = some y) : S.take (q + 1) ++ [y] ++ S.drop (q + 1) = S.take q ++ [y] ++ (y :: S.drop (q + 1)) ∧ S.drop q = y :: S.drop (q + 1) := by
  obtain ⟨h1, h2⟩ := List.getElem?_eq_some_iff.1 hy
  constructor
  · simp only [List.take_succ_eq_append_getElem h1, h2, List.append_assoc, List.cons_append, List.nil_append]
  · rw [List.drop_eq_getElem_cons h1, h2]
theorem slot_get {S : List ByteArray} {q : Nat} {x : ByteArray} (hq : q ≤ S.length) : (strsV (S.take q ++ [x] ++ S.drop q))[q]? = some (.string x) := by
  have hl : (S.take q).length = q := by rw [List.length_take]; omega
  unfold strsV
  rw [List.getElem?_map, List.append_assoc, List.getElem?_append_right (by omega), hl, Nat.sub_self]; rfl
theorem slot_prev {S : List ByteArray} {q : Nat} {x y : ByteArray} (hy : S[q]? = some y) : (strsV (S.take (q + 1) ++ [x] ++ S.drop (q + 1)))[q]? = some (.string y) := by
  have h1 := (List.getElem?_eq_some_iff.1 hy).1
  have hl : (S.take (q + 1)).length = q + 1 := by rw [List.length_take]; omega
  unfold strsV
  rw [List.getElem?_map, List.append_assoc, List.getElem?_append_left (by omega), List.getElem?_take, if_pos (by omega), hy]; rfl
theorem gtr_no {y T : ByteArray} (h : leS (bs y) (bs T) = true) : y = T ∨ Op.bytesLess y.toList T.toList = true := by
  by_cases e : y = T
  · exact .inl e
  · right
    have := less_le T y
    rw [this]
    have hne : leS (bs T) (bs y) = false := by
      cases h2 : leS (bs T) (bs y) with
      | false => rfl
      | true =>
        simp only [leS, decide_eq_true_eq] at h h2
        exact absurd (bs_inj (List.le_antisymm h h2)) e
    rw [hne]; rfl
theorem gtr_yes {y T : ByteArray} (h : leS (bs y) (bs T) = false) : Op.bytesLess y.toList T.toList = false ∧ (y.toList == T.toList) = false := by
  have hto := leS_to (bs y) (bs T)
  rw [h, Bool.false_or] at hto
  constructor
  · rw [less_le T y, hto]; rfl
  · refine beq_eq_false_iff_ne.2 fun e => ?_
    rw [ByteArray.toList_eq, ByteArray.toList_eq] at e
    have e2 : bs y = bs T := e
    rw [e2] at h
    rw [e2] at hto
    rw [h] at hto; cases hto
set_option maxRecDepth 100000 in
set_option maxHeartbeats 4000000 in
theorem l2All_any (m : Nat) (W : World) (h3 : 3 ≤ m) (h8 : m ≤ 8) :
    Calls Try.prog 55 #[.int .i64 m] W (RetS 9 (strsV (srt (frT m (frL m m 1)))) W) := by
  have HFr := Lib.hid (l2From_any m h8 m 1 W (by omega) (by omega) (by omega))
  have HZl : Hid ((frL m m 1).length ≤ 512) := by
    have := frL_len m m 1
    have h2 : 2 ^ m ≤ 2 ^ 9 := Nat.pow_le_pow_right (by omega) (by omega)
    exact Nat.le_trans this h2
  have HZr : Hid (∀ l ∈ frL m m 1, l.length ≤ 8 ∧ ∀ p ∈ l, p < 10) := fun l hl => ⟨by have := frL_row m m 1 l hl; omega, fr_lt m h8 m 1 (by omega) l hl⟩
  obtain ⟨Z, hZ⟩ : ∃ Z, Z = frL m m 1 := ⟨_, rfl⟩
  rw [← hZ] at HFr HZl HZr ⊢
  clear hZ
  go_enter Try.func55, Try.ntmps55
  go_wp2_with fail
  refine HFr.out.mono ?_
  rintro e x1 ⟨A1, n1, c1, xs, rfl, hr1, hz1, hb1⟩
  have hn1 : n1 ≤ 512 := by have := hr1.len; have h2 := HZl.out; rw [← hz1, List.length_map] at h2; omega
  have HSt : Hid (SrcF x1 A1 n1 xs none 0 0) := SrcF.of hr1 fun g _ _ k hk => by simp [Value.ownBlock] at hk
  have HO0 : Hid (Own x1 9 W.heap.size x1.heap.size none 0 0 (strsV (srt (frT m (Z.take 0))))) := by
    have e : strsV (srt (frT m (Z.take 0))) = [] := by simp [frT, srt, strsV]
    unfold Hid; rw [e]; exact Own.nil _ _ _ _
  have HB1 := Lib.hid hb1
  have HZ := Lib.hid hz1
  clear hr1 hz1 hb1 HFr HZl
  go_wp2
  go_loopw [3, 11] (fun l i wr => ∃ (k : Nat) (Al : Option Addr) (L cl : Nat), l = .slice Al L cl ∧ i = .int .i64 (k : Int) ∧ k ≤ n1 ∧ L ≤ k ∧ Hid (Own wr 9 W.heap.size wr.heap.size Al L cl (strsV (srt (frT m (Z.take k))))) ∧ Hid (SrcF wr A1 n1 xs Al L cl) ∧ Hid (Below W.heap.size W wr)) (fun _ i _ => ((n1 : Int) - intOf i).toNat)
  case atStart => exact ⟨0, none, 0, 0, rfl, rfl, Nat.zero_le _, Nat.le_refl _, HO0.out, HSt.out, HB1.out⟩
  case round =>
    obtain ⟨k, Al, L, cl, rfl, rfl, hk, hLk, HO, HS, HB⟩ := hrel
    by_cases hlt : k < n1
    · have i3 : (k : Int) < (n1 : Int) := by omega
      obtain ⟨b, off, ⟨⟨rA, rn, rc⟩, z⟩, rfl, hxk, hxm, hcell⟩ := HS.out.at_ hlt
      have hrow := (HS.out.row _ hxm).1
      simp only at hrow hcell
      have hzZ : z ∈ Z := by rw [← HZ.out]; exact List.mem_map.2 ⟨_, hxm, rfl⟩
      have hZr := HZr.out z hzZ
      have hrn : rn ≤ 10 := by have := hrow.1; rw [natV_len] at this; omega
      obtain ⟨T, hT⟩ : ∃ T, T = mkS (txtL (z.map fun p => UInt8.ofNat (48 + p))) := ⟨_, rfl⟩
      have hTz : T.size ≤ maxLen := by
        rw [hT, size_mkS]; unfold txtL maxLen
        split
        · simp
        · rw [List.length_map]; omega
      obtain ⟨q, hq⟩ : ∃ q, q = chB (m : Int) T := ⟨_, rfl⟩
      have HOf : Hid (Calls Try.prog 83 #[.slice rA rn rc] wr fun e w' => e = .returned (.string T) ∧ Below wr.heap.size wr w') := by
        rw [hT]; exact l2Of_any rA rn rc z wr hZr.2 hrn hrow
      have HCh : Hid (∀ w, Calls Try.prog 75 #[.int .i64 m, .string T] w fun e w' => e = .returned (.bool q) ∧ w = w') := fun w => by rw [hq]; exact l2Change_any _ _ _ hTz
      have HN : Hid (frT m (Z.take (k + 1)) = frT m (Z.take k) ++ if q = true then [T] else []) := by
        have hkl := List.getElem?_eq_some_iff.1 hxk
        have hkZ : k < Z.length := by rw [← HZ.out, List.length_map]; exact hkl.1
        have hzk : Z[k] = z := by
          have : Z[k]? = some z := by rw [← HZ.out, List.getElem?_map, hxk]; rfl
          exact (List.getElem?_eq_some_iff.1 this).2
        unfold Hid
        rw [List.take_succ_eq_append_getElem hkZ, frT_snoc, hzk, hq, hT]
        unfold chB
        rw [bs_mkS, Int.toNat_natCast]
      have hHs := HB.out.size
      clear hrow hzZ hZr hrn hTz hT hq hxm hxk
      go_wp2_with fail
      refine HOf.out.mono ?_
      rintro e x2 ⟨rfl, hb2⟩
      go_wp2_with fail
      refine (HCh.out _).mono ?_
      rintro e x3 ⟨rfl, rfl⟩
      have HB2 : Hid (Below W.heap.size W x2) := HB.out.trans (hb2.mono hHs)
      have hO2 := (HO.out.below hb2).mono (Nat.le_refl _) hb2.size
      have HS2 := Lib.hid (HS.out.below hb2)
      have hs2 := HB2.out.size
      cases q with
      | false =>
        have HO3 : Hid (Own x2 9 W.heap.size x2.heap.size Al L cl (strsV (srt (frT m (Z.take (k + 1)))))) := by rw [HN.out, if_neg (by decide), List.append_nil]; exact hO2
        clear hO2 hs2 hb2
        go_wp2
        go_roundw
        case rel => exact ⟨k + 1, Al, L, cl, rfl, by go_num, by omega, by omega, HO3.out, HS2.out, HB2.out⟩
        case measure => (simp [intOf] <;> omega)
      | true =>
        obtain ⟨R, hR⟩ : ∃ R, R = frT m (Z.take k) := ⟨_, rfl⟩
        rw [← hR] at hO2 HN
        clear hb2 hR
        go_wp2_with (at_builtin; refine wpList_append1x x2 rfl (.tmp 23) (.tmp 25) 28 rfl 9 (.string ByteArray.empty) 16 Try.underlying28 info_str rfl W.heap.size Al L cl _ (.string T) rfl rfl rfl hO2 (by omega) (by omega) hs2 ?_; intro A4 c4 x4 ho4 hx4 hsz4 hat4)
        have HB4 : Hid (Below W.heap.size W x4) := HB2.out.trans (hO2.below_ hx4 hs2)
        have HS4 := Lib.hid (HS2.out.wx hx4 hat4)
        obtain ⟨g4, rfl, hg1, hg2, hg3⟩ := ho4.form (by omega)
        have hSl : (srt R).length = L := by have := hO2.rd.slen; exact this
        have HO4 : Hid (Own x4 9 W.heap.size x4.heap.size (some ⟨g4, 0, none⟩) (L + 1) c4 (strsV ((srt R).take L ++ [T] ++ (srt R).drop L))) := by
          refine ho4.congr ?_
          rw [List.take_of_length_le (by omega), List.drop_of_length_le (by omega), List.append_nil, strsV_app]; rfl
        have HSl := Lib.hid hSl
        have HG0 : Hid (∀ y ∈ (srt R).drop L, leS (bs T) (bs y) = true) := fun y hy => by rw [List.drop_of_length_le (by omega)] at hy; cases hy
        clear hO2 hs2 ho4 hx4 hat4 hsz4 hSl
        go_wp2
        go_loopw [7] (fun i wr => ∃ (j : Nat) (x : ByteArray), i = .int .i64 (j : Int) ∧ j ≤ L ∧ Hid (Own wr 9 W.heap.size wr.heap.size (some ⟨g4, 0, none⟩) (L + 1) c4 (strsV ((srt R).take j ++ [x] ++ (srt R).drop j))) ∧ Hid (∀ y ∈ (srt R).drop j, leS (bs T) (bs y) = true) ∧ Hid (SrcF wr (some ⟨b, off, none⟩) n1 xs (some ⟨g4, 0, none⟩) (L + 1) c4) ∧ Hid (Below W.heap.size W wr)) (fun i _ => (intOf i).toNat)
        case atStart => exact ⟨L, T, rfl, Nat.le_refl _, HO4.out, HG0.out, HS4.out, HB4.out⟩
        case round =>
          obtain ⟨j, x, rfl, hj, HOj, HGt, HSj, HBj⟩ := hrel
          have hjl : j ≤ (srt R).length := by have := HSl.out; omega
          have hcj := HOj.out.mem j _ (slot_get hjl)
          obtain ⟨hc1, hf1⟩ := hcj
          have HFin : Hid ((∀ y ∈ (srt R).take j, leS (bs y) (bs T) = true) → Own (wr.setCell ⟨g4, j, none⟩ (.string T)) 9 W.heap.size (wr.setCell ⟨g4, j, none⟩ (.string T)).heap.size (some ⟨g4, 0, none⟩) (L + 1) c4 (strsV (srt (frT m (Z.take (k + 1)))))) := fun h => by
            refine ((HOj.out.set_ j (.string T)).mono (Nat.le_refl _) (by simp)).congr ?_
            rw [slot_set hjl, ins_srt HGt.out h, HN.out, if_pos (by trivial)]
          have HSf : Hid (SrcF (wr.setCell ⟨g4, j, none⟩ (.string T)) (some ⟨b, off, none⟩) n1 xs (some ⟨g4, 0, none⟩) (L + 1) c4) := HSj.out.wx (wx_setF _ _ _ _) (.inl rfl)
          have HBf : Hid (Below W.heap.size W (wr.setCell ⟨g4, j, none⟩ (.string T))) := HBj.out.setCell hg1 _
          have jL : (j : Int) < (L : Int) + 1 := by omega
          cases j with
          | zero =>
            have HFin2 := Lib.hid (HFin.out fun y hy => by simp at hy)
            clear HFin hjl
            go_wp2
            go_roundw
            case rel => exact ⟨k + 1, _, L + 1, c4, rfl, by go_num, by omega, by omega, HFin2.out, HSf.out, HBf.out⟩
            case measure => (simp [intOf] <;> omega)
          | succ j =>
            obtain ⟨y, hy⟩ : ∃ y, (srt R)[j]? = some y := ⟨_, List.getElem?_eq_getElem (by omega)⟩
            have hcp := (HOj.out.mem j _ (slot_prev hy)).1
            have HSD := Lib.hid (slot_down hy)
            obtain ⟨q, hq⟩ : ∃ q, q = leS (bs y) (bs T) := ⟨_, rfl⟩
            cases q with
            | true =>
              have HFin2 := Lib.hid (HFin.out (srt_take hy hq.symm))
              rcases gtr_no hq.symm with rfl | hbl'
              · clear HFin hjl hq hy
                go_wp2
                go_roundw
                case rel => exact ⟨k + 1, _, L + 1, c4, rfl, by go_num, by omega, by omega, HFin2.out, HSf.out, HBf.out⟩
                case measure => (simp [intOf] <;> omega)
              · clear HFin hjl hq hy
                go_wp2
                go_roundw
                case rel => exact ⟨k + 1, _, L + 1, c4, rfl, by go_num, by omega, by omega, HFin2.out, HSf.out, HBf.out⟩
                case measure => (simp [intOf] <;> omega)
            | false =>
              obtain ⟨hbl1, hbl2⟩ := gtr_yes hq.symm
              have HOn : Hid (Own (wr.setCell ⟨g4, j + 1, none⟩ (.string y)) 9 W.heap.size (wr.setCell ⟨g4, j + 1, none⟩ (.string y)).heap.size (some ⟨g4, 0, none⟩) (L + 1) c4 (strsV ((srt R).take j ++ [y] ++ (srt R).drop j))) := by
                refine ((HOj.out.set_ (j + 1) (.string y)).mono (Nat.le_refl _) (by simp)).congr ?_
                rw [slot_set hjl, HSD.out.1, HSD.out.2]
              have HSn : Hid (SrcF (wr.setCell ⟨g4, j + 1, none⟩ (.string y)) (some ⟨b, off, none⟩) n1 xs (some ⟨g4, 0, none⟩) (L + 1) c4) := HSj.out.wx (wx_setF _ _ _ _) (.inl rfl)
              have HBn : Hid (Below W.heap.size W (wr.setCell ⟨g4, j + 1, none⟩ (.string y))) := HBj.out.setCell hg1 _
              have HGn : Hid (∀ z ∈ (srt R).drop j, leS (bs T) (bs z) = true) := fun z hz => by
                rw [HSD.out.2] at hz
                rcases List.mem_cons.1 hz with rfl | hz
                · have := leS_to (bs z) (bs T); rw [← hq, Bool.false_or] at this; exact this
                · exact HGt.out z hz
              clear HFin hjl hq hy
              go_wp2
              go_roundw
              case rel => exact ⟨j, y, rfl, by omega, HOn.out, HGn.out, HSn.out, HBn.out⟩
              case measure => (simp [intOf] <;> omega)
    · obtain rfl : k = n1 := by omega
      have HE : Hid (Own wr 9 W.heap.size wr.heap.size Al L cl (strsV (srt (frT m Z)))) := by
        have e : Z.take k = Z := List.take_of_length_le (by rw [← HZ.out, List.length_map, HS.out.len]; exact Nat.le_refl _)
        have := HO.out
        rwa [e] at this
      clear HO hlt
      go_wp2
      go_ret
      exact ⟨Al, L, cl, rfl, HE.out, HB.out⟩
end Go.Proofs.Ytgpjbmlemnjhfaa
